/- Texts Bf, Nu, Hz, Bg, Bh, Bi, Bj, Hq in one file; each begins with a word on what it proves. -/
import Derived.Deep.Cut
import Derived.Laws.CopyRow
import Derived.Test.YtagjepclobobjaaVa

/- Package grade: its small functions. -/
namespace Go.Proofs.Ytagjepclobobjaa
set_option linter.unusedVariables false
set_option linter.unusedSimpArgs false
open Go.RowKit Go.Shelf
attribute [local go_sem] Oper.semAt_some

def inN (n a b : Int) : Bool := decide (a ≤ n ∧ n ≤ b)
theorem gwithin_any (n a b : Int) (w : World) :
    Calls Try.prog 80 #[.int .i64 n, .int .i64 a, .int .i64 b] w fun e w' => e = .returned (.bool (inN n a b)) ∧ w = w' := by
  have H : Hid (inN n a b = (decide (a ≤ n) && decide (n ≤ b))) := by show _ = _; simp [inN]
  go_enter Try.func80, Try.ntmps80
  go_wp2
  all_goals go_ret
  all_goals exact ⟨by rw [H.out]; simp [*]; try omega, rfl⟩
theorem gmust_ok (n : Int) (w : World) :
    Calls Try.prog 69 #[.bool true, .int .i64 n] w fun e w' => e = .returned (.tuple #[]) ∧ w = w' := by
  go_enter Try.func69, Try.ntmps69
  go_wp2
  go_end0
  exact ⟨rfl, rfl⟩
def gstopV (n : Int) : Value := .iface 151 (.agg #[.int .i64 n])
theorem gmust_no (n : Int) (w : World) :
    Calls Try.prog 69 #[.bool false, .int .i64 n] w fun e w' => e = .panicked [{ v := gstopV n, recovered := false }] ∧ w = w' := by
  go_enter Try.func69, Try.ntmps69
  go_wp2
  exact ⟨rfl, rfl, rfl⟩
theorem far_any (i n : Nat) (hi : i < 5) (hn : n < 5) (w : World) :
    Calls Try.prog 91 #[.int .i64 (i : Int), .int .i64 (n : Int)] w fun e w' => (∃ k : Int, e = .returned (.int .i64 k) ∧ (k == 1) = nextG i n) ∧ w = w' := by
  rcases (show i = 0 ∨ i = 1 ∨ i = 2 ∨ i = 3 ∨ i = 4 by omega) with rfl | rfl | rfl | rfl | rfl <;> rcases (show n = 0 ∨ n = 1 ∨ n = 2 ∨ n = 3 ∨ n = 4 by omega) with rfl | rfl | rfl | rfl | rfl <;>
  · go_enter Try.func91, Try.ntmps91
    go_wp2
    go_ret
    exact ⟨⟨_, rfl, by decide⟩, rfl⟩
end Go.Proofs.Ytagjepclobobjaa

/- Numbers in memory. -/
namespace Go.Proofs.Ytagjepclobobjaa
set_option linter.unusedVariables false
set_option linter.unusedSimpArgs false
open Go.RowKit Go.Shelf

def NumsAt (W : World) (v : Value) (l : List Int) (Rd : Nat → Prop) : Prop :=
  ∃ ao cap, v = .slice ao l.length cap ∧ l.length ≤ cap ∧ cap ≤ maxLen ∧ ∀ i (h : i < l.length), ∃ b off, ao = some ⟨b, off, none⟩ ∧ Rd b ∧ b < W.heap.size ∧ W.cell? ⟨b, off + i, none⟩ = some (.int .i64 l[i])
theorem NumsAt.later {w W : World} {v : Value} {l : List Int} {Rd : Nat → Prop} (h : NumsAt w v l Rd) (hs : w.heap.size ≤ W.heap.size) (hk : ∀ k, k < w.heap.size → Rd k → W.heap[k]? = w.heap[k]?) : NumsAt W v l Rd := by
  obtain ⟨ao, cap, h1, h2, h3, h4⟩ := h
  refine ⟨ao, cap, h1, h2, h3, fun i hi => ?_⟩
  obtain ⟨b, off, e1, e2, e3, e4⟩ := h4 i hi
  exact ⟨b, off, e1, e2, Nat.lt_of_lt_of_le e3 hs, (World.cell?_of_block (w := w) (a := ⟨b, off + i, none⟩) (hk b e3 e2)).trans e4⟩
theorem NumsAt.mono {W : World} {v : Value} {l : List Int} {Rd Rd' : Nat → Prop} (h : NumsAt W v l Rd) (hr : ∀ k, Rd k → Rd' k) : NumsAt W v l Rd' := by
  obtain ⟨ao, cap, h1, h2, h3, h4⟩ := h
  exact ⟨ao, cap, h1, h2, h3, fun i hi => by obtain ⟨b, off, e1, e2, e3⟩ := h4 i hi; exact ⟨b, off, e1, hr b e2, e3⟩⟩
theorem NumsAt.len {W : World} {v : Value} {l : List Int} {Rd : Nat → Prop} (h : NumsAt W v l Rd) : ∃ ao cap, v = .slice ao l.length cap := by
  obtain ⟨ao, cap, h1, _⟩ := h; exact ⟨ao, cap, h1⟩
theorem nums_of_own {w : World} {base : Nat} {e : TypeId} {v : Value} {l : List Int} {n : Nat} (hn : n = l.length) (h : w.ownsRow base e 1 v n (l.map (Value.int .i64))) : NumsAt w v l (fun k => base ≤ k) := by
  subst hn
  rcases h.2 with ⟨h2, h3⟩ | ⟨g, cap, cur, h2, h3, h4, h5, h6, h7, h8⟩
  · refine ⟨none, 0, by rw [h2, h3], by omega, by unfold maxLen; omega, fun i hi => by omega⟩
  · refine ⟨_, cap, h2, h5, h6, fun i hi => ⟨g, 0, rfl, h3, lt_of_block h4, ?_⟩⟩
    rw [cell_of_row w g _ _ _ _ h4, Nat.zero_add]
    have h9 : (cur.toList.take (l.length * 1))[i]? = (l.map (Value.int .i64))[i]? := by rw [h8]
    rw [List.getElem?_take_of_lt (by omega), List.getElem?_map, List.getElem?_eq_getElem hi] at h9
    simpa using h9
theorem underInts : Try.prog.underlying 29 = some (.slice 3) := by kernel_rfl
theorem infoInt : (Try.prog.info? 3).map (fun i => (i.zero, i.size, i.bytes)) = some (some (.int .i64 0), 1, 8) := by kernel_rfl
theorem copy_nums (l : List Int) (ao : Option Addr) (cap : Nat) (Rd : Nat → Prop) (W : World) (h : NumsAt W (.slice ao l.length cap) l Rd) (ob : Nat) (cur : Array Value) (hl : l.length ≤ 1000) (hob : W.heap[ob]? = some (.cells cur 3 (0, 0))) (hsz : cur.size = l.length) :
    ∃ W2, (Builtin.copy_ #[29, 29] 3 #[.slice (some ⟨ob, 0, none⟩) l.length l.length, .slice ao l.length cap]).run Try.prog W = .ok (.int .i64 l.length) W2 ∧
      NumsAt W2 (.slice (some ⟨ob, 0, none⟩) l.length l.length) l (fun k => k = ob) ∧ Keeps (fun k => k = ob) W W2 ∧ W2.heap.size = W.heap.size := by
  obtain ⟨ao', cap', he, _, _, hel⟩ := h
  cases he
  by_cases h0 : l = []
  · subst h0
    refine ⟨W, ?_, ⟨_, _, rfl, Nat.le_refl _, by unfold maxLen; omega, fun i hi => by simp at hi⟩, Keeps.refl _ _, rfl⟩
    obtain ⟨i0, hi0, hz0, hz1, hz2⟩ := info_parts infoInt
    have hl0 : (loadCells ⟨0, 0, none⟩ 0).run Try.prog W = .ok #[] W := by rfl
    cases ao with
    | none => simp [Builtin.copy_, run_underlying underInts, Builtin.lenOf, Builtin.firstCells, sizeOf, typeInfo, hi0, hz1, goInt, storeCells]
    | some a =>
      have hla := run_loadCells_list (P := Try.prog) W a [] (fun j v h => by simp at h)
      simp at hla
      simp [Builtin.copy_, run_underlying underInts, Builtin.lenOf, Builtin.firstCells, sizeOf, typeInfo, hi0, hz1, goInt, storeCells, hla]
  · obtain ⟨b, off, rfl, _⟩ := hel 0 (List.length_pos_iff.2 h0)
    have hln : (l.map (Value.int .i64)).length = l.length := by simp
    have hrow : (W.setRow ob (cur.toList.take 0 ++ l.map (Value.int .i64) ++ cur.toList.drop (0 + (l.map (Value.int .i64)).length)).toArray).heap[ob]? = some (.cells (l.map (Value.int .i64)).toArray 3 (0, 0)) := by
      rw [setRow_heap _ _ _ _ _ _ hob]
      rw [List.take_zero, List.nil_append, Nat.zero_add, hln, List.drop_of_length_le (by simp [hsz]), List.append_nil]
    refine ⟨W.setRow ob (cur.toList.take 0 ++ l.map (Value.int .i64) ++ cur.toList.drop (0 + (l.map (Value.int .i64)).length)).toArray, (run_copy_rows W _ _ _ 3 1 ob 0 _ _ ⟨b, off, none⟩ _ _ cur 3 (l.map (Value.int .i64)) underInts (by kernel_rfl) hob (by rw [hln]; simp) ?_ (by rw [hln]; omega) ?_).trans ?_, ?_, keeps_setRow _ _ _, by simp⟩
    · intro j v hj
      have hjl : j < l.length := by have := (List.getElem?_eq_some_iff.1 hj).1; rwa [hln] at this
      obtain ⟨b2, off2, he2, _, _, e1⟩ := hel j hjl
      cases he2
      rw [List.getElem?_map, List.getElem?_eq_getElem hjl] at hj
      rw [Addr.add_mid]
      exact e1.trans hj
    · intro v hv
      obtain ⟨x, _, rfl⟩ := List.mem_map.1 hv
      rfl
    · simp; rfl
    · refine ⟨_, _, rfl, Nat.le_refl _, by unfold maxLen; omega, fun i hi => ⟨ob, 0, rfl, rfl, lt_of_block hrow, ?_⟩⟩
      rw [cell_of_row _ _ _ _ _ _ hrow, Nat.zero_add]
      simp [hi]
theorem NumsAt.nil (W : World) (Rd : Nat → Prop) : NumsAt W (.slice none 0 0) [] Rd := ⟨none, 0, rfl, Nat.le_refl _, by unfold maxLen; omega, fun i hi => by simp at hi⟩
end Go.Proofs.Ytagjepclobobjaa

/- General: a drawn region whose orders come together again; operations by their values. -/
namespace Go.Proofs.Ytagjepclobobjaa
set_option linter.unusedVariables false
set_option linter.unusedSimpArgs false
open Go.RowKit

section
variable {P : Program} {ops : Array Oper} {md : Region.Mode} {S : World → Prop}
def PutAll (a : Act) : List (Option Nat) → List Value → Act
  | d :: ds, v :: vs => PutAll (a.put d v) ds vs
  | _, _ => a
/-- Behind a region: its values, and what holds of them and of the world. -/
def CutQ (ds : List (Option Nat)) (a : Act) (R : List Value → World → Prop) : Exit → Act → World → Prop :=
  fun e a' w' => e = .normal ∧ ∃ xs, a' = PutAll a ds xs ∧ R xs w'
theorem region_cut {id : Nat} {d : Bool} (ds : List (Option Nat)) (R : List Value → World → Prop) {Q : Exit → Act → World → Prop} {a : Act} {w : World} (h1 : (Code.region id ops d).wp P (CutQ ds a R) a w)
    (h2 : ∀ xs w', R xs w' → Q .normal (PutAll a ds xs) w') : (Code.region id ops d).wp P Q a w :=
  wp_mono h1 fun e a' w' h => by
    obtain ⟨rfl, xs, rfl, hr⟩ := h
    exact h2 xs w' hr
theorem wpOp_of {Q : Exit → Act → World → Prop} {i : Nat} {o : Oper} {K : Act → World → Prop} {a : Act} {w : World} (ho : ops[i]? = some o) (hg : Region.wanted o (yielded ops a.tmps) = true) (h : o.wp P a w K Q) : wpOp P ops Q i K a w := by
  unfold wpOp
  rw [ho]
  simp only [hg, if_true]
  exact .inl h
theorem oper_value {Q : Exit → Act → World → Prop} {o : Oper} {K : Act → World → Prop} {a : Act} {w w' : World} {v : Value} (hrun : (execOp a.eval o).run P w = .ok (.value v) w') (h : K (a.put o.dst v) w') : o.wp P a w K Q := by
  unfold Oper.wp
  rw [hrun]
  exact h
theorem oper_call {Q : Exit → Act → World → Prop} {o : Oper} {K : Act → World → Prop} {a : Act} {w : World} {f : FuncId} {args : Array Value} (hrun : (execOp a.eval o).run P w = .ok (.enter f args) w)
    (h : Calls P f args w fun
      | .returned v, w' => K (a.put o.dst v) w'
      | .panicked c, w' => Q (.panic c) a w'
      | .outgrown, _ => LetsOut Q) : o.wp P a w K Q := by
  unfold Oper.wp
  rw [hrun]
  simp only [Oper.upon]
  refine h.mono fun e w'' he => ?_
  cases e <;> exact he
end

/-- A text behind its first statements, and with something else there. -/
def dropC : Nat → Code → Code
  | 0, c => c
  | n + 1, .seq _ b => dropC n b
  | _ + 1, _ => .skip
def cutC : Nat → Code → Code → Code
  | 0, _, t => t
  | n + 1, .seq a b, t => .seq a (cutC n b t)
  | _ + 1, c, _ => c
theorem wp_cutC {P : Program} (n : Nat) {c t : Code} {Q : Exit → Act → World → Prop} {a : Act} {w : World} (h : c = cutC n c t) (hw : Code.wp P (cutC n c t) Q a w) : Code.wp P c Q a w := by rw [h]; exact hw
end Go.Proofs.Ytagjepclobobjaa

/- Package grade: the greatest of some numbers, how far a block is off, by how much it varies. -/
namespace Go.Proofs.Ytagjepclobobjaa
set_option linter.unusedVariables false
set_option linter.unusedSimpArgs false
open Go.RowKit Go.Shelf
attribute [local go_sem] Oper.semAt_some

theorem maxG_take (l : List Int) (k : Nat) (h : k < l.length) : maxG (l.take (k + 1)) = if k = 0 then l[k] else max (maxG (l.take k)) l[k] := by
  rw [List.take_succ_eq_append_getElem h]
  unfold maxG
  rw [List.foldl_append]
  cases k with
  | zero => simp
  | succ k =>
    rw [if_neg (by omega)]
    have : (l.take (k + 1) ++ [l[k + 1]]).headD 0 = (l.take (k + 1)).headD 0 := by
      cases l with
      | nil => simp at h
      | cons x l => simp
    rw [this]
    rfl
set_option maxRecDepth 100000 in
set_option maxHeartbeats 4000000 in
theorem greatest_any (l : List Int) (v : Value) (w : World) (Rd : Nat → Prop) (hl : l.length ≤ 1000) (h : NumsAt w v l Rd) :
    Calls Try.prog 92 #[v] w fun e w' => e = .returned (.int .i64 (maxG l)) ∧ w = w' := by
  obtain ⟨ao, cap, rfl, _, _, hel⟩ := h
  obtain ⟨n, hn⟩ : ∃ n, n = l.length := ⟨_, rfl⟩
  rw [← hn] at hl ⊢
  have HEL := Lib.hid hel
  have HN := Lib.hid hn
  clear hel hn
  go_enter Try.func92, Try.ntmps92
  go_wp2_with fail
  go_loopw [2, 7] (fun mv iv wr => ∃ i : Nat, i ≤ n ∧ iv = .int .i64 i ∧ mv = .int .i64 (maxG (l.take i)) ∧ w = wr) (fun _ iv _ => n - (intOf iv).toNat)
  case atStart => exact ⟨0, Nat.zero_le _, rfl, rfl, rfl⟩
  case round =>
    obtain ⟨i, hi, rfl, rfl, hwr⟩ := hrel
    subst hwr
    by_cases hlt : i < n
    · have hw : IntKind.i64.wrap ((i : Int) + 1) = ((i + 1 : Nat) : Int) := by rw [IntWalk.i64_in _ (by omega)]; omega
      have hlti : (i : Int) < (n : Int) := by omega
      obtain ⟨b, off, rfl, _, _, d1⟩ := HEL.out i (by rw [← HN.out]; exact hlt)
      obtain ⟨x, hx⟩ : ∃ x, x = l[i]'(by rw [← HN.out]; exact hlt) := ⟨_, rfl⟩
      obtain ⟨m, hm⟩ : ∃ m, m = maxG (l.take i) := ⟨_, rfl⟩
      have hmt := maxG_take l i (by rw [← HN.out]; exact hlt)
      rw [← hx, ← hm] at hmt
      rw [← hx] at d1
      rw [← hm]
      have HMT := Lib.hid hmt
      clear hx hm hmt
      by_cases h0 : i = 0
      · subst h0
        rw [Nat.add_zero] at d1
        go_wp2_with fail
        refine ⟨⟨1, hlt, rfl, ?_, trivial⟩, by simp [intOf]; omega⟩
        rw [HMT.out]; rfl
      · have h0i : ((i : Int) == 0) = false := by rw [beq_eq_false_iff_ne]; omega
        have HI0 := Lib.hid h0
        clear h0
        by_cases hgt : m < x
        · go_wp2_with fail
          refine ⟨⟨i + 1, hlt, by push_cast; rfl, ?_, trivial⟩, by simp [intOf]; omega⟩
          rw [HMT.out, if_neg HI0.out, Int.max_eq_right (by omega)]
        · go_wp2_with fail
          refine ⟨⟨i + 1, hlt, by push_cast; rfl, ?_, trivial⟩, by simp [intOf]; omega⟩
          rw [HMT.out, if_neg HI0.out, Int.max_eq_left (by omega)]
    · have hin : n = i := by omega
      subst hin
      have hlti : ¬ (n : Int) < (n : Int) := by omega
      rw [show l.take n = l by rw [HN.out]; exact List.take_length]
      clear hlt
      go_wp2_with fail
      go_ret
      exact ⟨rfl, rfl⟩
/-- A walk's world by what is known of it alone. -/
theorem wp_name {P : Program} {c : Code} {Q : Exit → Act → World → Prop} {a : Act} {w : World} (R : World → Prop) (h : R w) (k : ∀ W, R W → c.wp P Q a W) : c.wp P Q a w := k w h
theorem below_allocG (w : World) (o : Obj) : Below w.heap.size w (w.alloc o) := (Below.refl _ _).alloc (Nat.le_refl _) _
def ptsV (x : List Int) : Value := .agg (x.map (Value.int .i64)).toArray
theorem ptsV5 (a b c d e : Int) : ptsV [a, b, c, d, e] = .agg #[.int .i64 a, .int .i64 b, .int .i64 c, .int .i64 d, .int .i64 e] := rfl
theorem nums_row {W : World} {g : Nat} {x : List Int} {t : TypeId} (h : W.heap[g]? = some (.cells (x.map (Value.int .i64)).toArray t (0, 0))) (hm : x.length ≤ 1000) : NumsAt W (.slice (some ⟨g, 0, none⟩) x.length x.length) x (fun _ => True) := by
  refine ⟨_, _, rfl, Nat.le_refl _, by unfold maxLen; omega, fun i hi => ⟨g, 0, rfl, trivial, lt_of_block h, ?_⟩⟩
  rw [cell_of_row _ _ _ _ _ _ h]
  simp [hi]
theorem max_in {l : List Int} {n : Nat} (hn : l.length = n + 1) (hs : ∀ v ∈ l, -1000 ≤ v ∧ v ≤ 1000) : -1000 ≤ maxG l ∧ maxG l ≤ 1000 := by
  cases l with
  | nil => simp at hn
  | cons x l =>
    unfold maxG
    rw [List.headD_cons]
    obtain ⟨h1, h2, h3⟩ := max_fold 0 (x :: l) x
    have hx := hs x (by simp)
    rcases h3 with h3 | h3
    · rw [h3]; exact hx
    · exact hs _ h3
/-- A row of which the first ones are changed. -/
def partR (f : Int → Int) (x : List Int) (i : Nat) : Array Value := ((((x.take i).map f) ++ x.drop i).map (Value.int .i64)).toArray
theorem partR_zero (f : Int → Int) (x : List Int) : partR f x 0 = (x.map (Value.int .i64)).toArray := by simp [partR]
theorem partR_all (f : Int → Int) (x : List Int) (n : Nat) (h : x.length = n) : partR f x n = ((x.map f).map (Value.int .i64)).toArray := by
  subst h
  unfold partR
  rw [List.take_length, List.drop_length, List.append_nil]
theorem partR_at (f : Int → Int) (x : List Int) (i : Nat) (h : i < x.length) : (partR f x i)[i]? = some (.int .i64 x[i]) := by
  unfold partR
  rw [List.getElem?_toArray, List.getElem?_map, List.getElem?_append_right (by simp; omega)]
  simp [Nat.min_eq_left (Nat.le_of_lt h), h]
theorem partR_next (f : Int → Int) (x : List Int) (i : Nat) (h : i < x.length) : (partR f x i).setIfInBounds i (.int .i64 (f x[i])) = partR f x (i + 1) := by
  unfold partR
  rw [List.setIfInBounds_toArray, ← List.map_set]
  congr 2
  rw [List.set_append_right _ _ (by simp; omega), List.drop_eq_getElem_cons h, List.take_succ_eq_append_getElem h, List.map_append]
  simp [Nat.min_eq_left (Nat.le_of_lt h)]
  rw [List.drop_eq_getElem_cons h, List.set_cons_zero]
theorem cells_setG {w : World} {g k : Nat} {v : Value} {row : Array Value} {t : TypeId} {fr : Nat × Nat} (h : w.heap[g]? = some (.cells row t fr)) : (w.setCell ⟨g, k, none⟩ v).heap[g]? = some (.cells (row.setIfInBounds k v) t fr) := by
  simp [World.setCell, Array.getElem?_modify, h]
set_option maxRecDepth 100000 in
set_option maxHeartbeats 4000000 in
theorem turned_any (x : List Int) (hx : x.length = 5) (hs : ∀ v ∈ x, -1000 ≤ v ∧ v ≤ 1000) (w : World) :
    Calls Try.prog 111 #[ptsV x] w fun e w' => e = .returned (.int .i64 (maxG (turnG x))) ∧ Below w.heap.size w w' := by
  have HX := Lib.hid hx
  have HS := Lib.hid hs
  have hr0 := heap_alloc_at w (.cells (x.map (Value.int .i64)).toArray 156) _ rfl
  have hb0 := below_allocG w (.cells (x.map (Value.int .i64)).toArray 156)
  obtain ⟨g, hg⟩ : ∃ g, g = w.heap.size := ⟨_, rfl⟩
  obtain ⟨W, hW⟩ : ∃ W, W = w.alloc (.cells (x.map (Value.int .i64)).toArray 156) := ⟨_, rfl⟩
  rw [← hW] at hr0 hb0
  rw [← hg] at hr0 hb0
  have HR := Lib.hid hr0
  have HB := Lib.hid hb0
  clear hx hs hr0 hb0
  unfold ptsV
  go_enter Try.func111, Try.ntmps111
  go_wp2_with fail
  rw [← hW, ← hg]
  have HG := Lib.hid hg
  clear hW hg
  go_loopw [4] (fun iv wr => ∃ i : Nat, i ≤ 5 ∧ iv = .int .i64 i ∧ Below w.heap.size w wr ∧ wr.heap[g]? = some (.cells (partR (fun v => -v) x i) 156 (0, 0))) (fun iv _ => 5 - (intOf iv).toNat)
  case atStart => exact ⟨0, by decide, rfl, by rw [HG.out] at HB; exact HB.out, by rw [partR_zero]; exact HR.out⟩
  case round =>
    obtain ⟨i, hi, rfl, hb, hr⟩ := hrel
    have HBr := Lib.hid hb
    have HRr := Lib.hid hr
    clear hb hr
    by_cases hlt : i < 5
    · have hw : IntKind.i64.wrap ((i : Int) + 1) = ((i + 1 : Nat) : Int) := by rw [IntWalk.i64_in _ (by omega)]; omega
      have hlti : (i : Int) < 5 := by omega
      have hix : i < x.length := by rw [HX.out]; exact hlt
      have hat := partR_at (fun v => -v) x i hix
      have hnx := partR_next (fun v => -v) x i hix
      have hv := HS.out _ (List.getElem_mem hix)
      obtain ⟨v, hve⟩ : ∃ v, v = x[i] := ⟨_, rfl⟩
      rw [← hve] at hat hnx hv
      have c1 : wr.cell? ⟨g, i, none⟩ = some (.int .i64 v) := by rw [cell_of_row _ _ _ _ _ _ HRr.out]; exact hat
      have f1 : wr.frozen? ⟨g, i, none⟩ = false := frozen_of_row _ _ _ _ _ HRr.out
      have hneg : IntKind.i64.wrap (-v) = -v := IntWalk.i64_in _ (by omega)
      have HNX := Lib.hid hnx
      clear hat hnx hv hve hix
      go_wp2_with fail
      refine ⟨⟨i + 1, hlt, by push_cast; rfl, HBr.out.setCell (by have := HG.out; dsimp only; omega) _, ?_⟩, by simp [intOf]; omega⟩
      rw [← HNX.out]
      exact cells_setG HRr.out
    · have hin : i = 5 := by omega
      subst hin
      have hrr := HRr.out
      rw [partR_all _ x 5 HX.out] at hrr
      have hnn := (nums_row (x := x.map fun v => -v) hrr (by rw [List.length_map, HX.out]; decide))
      rw [List.length_map, HX.out] at hnn
      have HNA := Lib.hid hnn
      clear hlt hrr hnn
      go_wp2_with fail
      refine (greatest_any (x.map fun v => -v) (.slice (some ⟨g, 0, none⟩) 5 5) wr _ (by rw [List.length_map, HX.out]; decide) HNA.out).mono ?_
      rintro e w' ⟨rfl, rfl⟩
      dsimp only
      go_wp2_with fail
      go_ret
      exact ⟨rfl, HBr.out⟩
/-- What is read of a row of five numbers. -/
def S5 (g : Nat) (a b c d e : Int) (W : World) : Prop := W.heap[g]? = some (.cells #[.int .i64 a, .int .i64 b, .int .i64 c, .int .i64 d, .int .i64 e] 156 (0, 0))
theorem S5.cells {g : Nat} {a b c d e : Int} {W : World} (h : S5 g a b c d e W) : W.cell? ⟨g, 0, none⟩ = some (.int .i64 a) ∧ W.cell? ⟨g, 1, none⟩ = some (.int .i64 b) ∧ W.cell? ⟨g, 2, none⟩ = some (.int .i64 c) ∧ W.cell? ⟨g, 3, none⟩ = some (.int .i64 d) ∧ W.cell? ⟨g, 4, none⟩ = some (.int .i64 e) :=
  ⟨cell_of_row _ _ 0 _ _ _ h, cell_of_row _ _ 1 _ _ _ h, cell_of_row _ _ 2 _ _ _ h, cell_of_row _ _ 3 _ _ _ h, cell_of_row _ _ 4 _ _ _ h⟩
set_option maxRecDepth 100000 in
set_option maxHeartbeats 4000000 in
theorem varies_any (x : List Int) (hx : x.length = 5) (hs : ∀ v ∈ x, -1000 ≤ v ∧ v ≤ 1000) (w : World) :
    Calls Try.prog 110 #[ptsV x] w fun e w' => e = .returned (.int .i64 (variesG x)) ∧ Below w.heap.size w w' := by
  have hv : Hid (variesG x = maxG x + maxG (turnG x)) := Lib.hid rfl
  have hmx : -1000 ≤ maxG x ∧ maxG x ≤ 1000 := max_in hx hs
  have hmt : -1000 ≤ maxG (turnG x) ∧ maxG (turnG x) ≤ 1000 := max_in (by unfold turnG; rw [List.length_map, hx]) (fun v hv => by
    obtain ⟨u, hu, rfl⟩ := List.mem_map.1 hv
    have := hs u hu
    omega)
  have hT := turned_any x hx hs
  match x, hx with
  | [a, b, c, d, f], hx =>
  rw [ptsV5] at hT ⊢
  obtain ⟨m1, hm1⟩ : ∃ m, m = maxG [a, b, c, d, f] := ⟨_, rfl⟩
  obtain ⟨m2, hm2⟩ : ∃ m, m = maxG (turnG [a, b, c, d, f]) := ⟨_, rfl⟩
  rw [← hm1] at hmx hv
  rw [← hm2] at hmt hv hT
  have HM1 := Lib.hid hm1
  have HT := Lib.hid hT
  have hwr : IntKind.i64.wrap (m1 + m2) = m1 + m2 := IntWalk.i64_in _ (by omega)
  obtain ⟨g, hg⟩ : ∃ g, g = w.heap.size := ⟨_, rfl⟩
  have hb0 := below_allocG w (.cells #[.int .i64 a, .int .i64 b, .int .i64 c, .int .i64 d, .int .i64 f] 156)
  have hr0 : S5 g a b c d f (w.alloc (.cells #[.int .i64 a, .int .i64 b, .int .i64 c, .int .i64 d, .int .i64 f] 156)) := heap_alloc_at _ _ _ hg
  obtain ⟨W, hW⟩ : ∃ W, W = w.alloc (.cells #[.int .i64 a, .int .i64 b, .int .i64 c, .int .i64 d, .int .i64 f] 156) := ⟨_, rfl⟩
  rw [← hW] at hr0 hb0
  have HR := Lib.hid hr0
  have HB := Lib.hid hb0
  clear hm1 hm2 hr0 hb0 hs hT
  go_enter Try.func110, Try.ntmps110
  go_wp2_with fail
  rw [← hW, ← hg]
  refine wp_region_held_drew (S := S5 g a b c d f) (by kernel_rfl) (show S5 g a b c d f W.drew from HR.out) fun hS => ?_
  obtain ⟨D, hD⟩ : ∃ D, D = World.drew W := ⟨_, rfl⟩
  have HBD : Hid (Below w.heap.size w D) := Lib.hid (by rw [hD]; exact ⟨HB.out.os, HB.out.tape, HB.out.output, HB.out.size, HB.out.block⟩)
  rw [← hD] at hS ⊢
  clear hD hW hg
  refine wpAnyH_take (i := 0) (v := ?_) rfl (by kernel_rfl) (by kernel_rfl) (by kernel_rfl) (fun _ _ _ h => h) (Or.inl ⟨by rfl, ?_⟩) hS ?_
  rotate_left
  · (intro W hSw; obtain ⟨q0, q1, q2, q3, q4⟩ := hSw.cells; go_simp; try with_reducible rfl)
  try simp only [List.getElem_toArray, List.getElem_cons_succ, List.getElem_cons_zero, Act.put, List.setIfInBounds_toArray, List.set_cons_zero, List.set_cons_succ]
  refine wpAnyH_take (i := 2) (v := ?_) rfl (by kernel_rfl) (by kernel_rfl) (by kernel_rfl) (fun _ _ _ h => h) (Or.inl ⟨by rfl, ?_⟩) hS ?_
  rotate_left
  · (intro W hSw; obtain ⟨q0, q1, q2, q3, q4⟩ := hSw.cells; go_simp; try with_reducible rfl)
  try simp only [List.getElem_toArray, List.getElem_cons_succ, List.getElem_cons_zero, Act.put, List.setIfInBounds_toArray, List.set_cons_zero, List.set_cons_succ]
  refine wpAnyH_call (k := 1) (by kernel_rfl) rfl rfl (f := 92) (args := #[.slice (some ⟨g, 0, none⟩) 5 5]) (by simp [execOp, go_sem, Act.eval, Act.put]) ?_
  refine (greatest_any [a, b, c, d, f] (.slice (some ⟨g, 0, none⟩) 5 5) D _ (by simp) (nums_row (x := [a, b, c, d, f]) hS (by simp))).mono ?_
  rintro e w' ⟨rfl, rfl⟩
  dsimp only
  rw [← HM1.out]
  refine ⟨hS, ?_⟩
  try simp only [List.getElem_toArray, List.getElem_cons_succ, List.getElem_cons_zero, Act.put, List.setIfInBounds_toArray, List.set_cons_zero, List.set_cons_succ]
  refine wpAnyH_call (k := 3) (by kernel_rfl) rfl rfl (f := 111) (args := #[.agg #[.int .i64 a, .int .i64 b, .int .i64 c, .int .i64 d, .int .i64 f]]) (by simp [execOp, go_sem, Act.eval, Act.put]) ?_
  refine (HT.out D).mono ?_
  rintro e w' ⟨rfl, hb⟩
  dsimp only
  have hS2 : S5 g a b c d f w' := (hb.block _ (lt_of_block hS)).trans hS
  have HBE := Lib.hid (HBD.out.trans (hb.mono HBD.out.size))
  clear hS hb
  refine ⟨hS2, ?_⟩
  have hS := hS2
  try simp only [List.getElem_toArray, List.getElem_cons_succ, List.getElem_cons_zero, Act.put, List.setIfInBounds_toArray, List.set_cons_zero, List.set_cons_succ]
  refine wpAnyH_take (i := 4) (v := ?_) rfl (by kernel_rfl) (by kernel_rfl) (by kernel_rfl) (fun _ _ _ h => h) (Or.inl ⟨by rfl, ?_⟩) hS ?_
  rotate_left
  · (intro W hSw; obtain ⟨q0, q1, q2, q3, q4⟩ := hSw.cells; go_simp; try with_reducible rfl)
  try simp only [List.getElem_toArray, List.getElem_cons_succ, List.getElem_cons_zero, Act.put, List.setIfInBounds_toArray, List.set_cons_zero, List.set_cons_succ]
  refine wpAnyH_take (i := 5) (v := ?_) rfl (by kernel_rfl) (by kernel_rfl) (by kernel_rfl) (fun _ _ _ h => h) (Or.inl ⟨by rfl, ?_⟩) hS ?_
  rotate_left
  · (intro W hSw; obtain ⟨q0, q1, q2, q3, q4⟩ := hSw.cells; go_simp; try with_reducible rfl)
  try simp only [List.getElem_toArray, List.getElem_cons_succ, List.getElem_cons_zero, Act.put, List.setIfInBounds_toArray, List.set_cons_zero, List.set_cons_succ]
  refine wpAnyH_done (by kernel_rfl) ?_ _
  try simp only [List.getElem_toArray, List.getElem_cons_succ, List.getElem_cons_zero, Act.put, List.setIfInBounds_toArray, List.set_cons_zero, List.set_cons_succ]
  clear hS hS2
  go_wp2_with fail
  go_ret
  exact ⟨Eq.trans (by kernel_rfl) (congrArg (fun z => Ending.returned (Value.int .i64 z)) hv.out.symm), HBE.out⟩
set_option maxRecDepth 100000 in
set_option maxHeartbeats 4000000 in
theorem off_any (x : List Int) (hx : x.length = 5) (hs : ∀ v ∈ x, -1000 ≤ v ∧ v ≤ 1000) (w : World) :
    Calls Try.prog 109 #[ptsV x] w fun e w' => e = .returned (.int .i64 (offG x)) ∧ Below w.heap.size w w' := by
  have hv : Hid (offG x = maxG [maxG x, maxG (turnG x)]) := Lib.hid (by unfold offG maxG; simp)
  have hT := turned_any x hx hs
  match x, hx with
  | [a, b, c, d, f], hx =>
  rw [ptsV5] at hT ⊢
  obtain ⟨m1, hm1⟩ : ∃ m, m = maxG [a, b, c, d, f] := ⟨_, rfl⟩
  obtain ⟨m2, hm2⟩ : ∃ m, m = maxG (turnG [a, b, c, d, f]) := ⟨_, rfl⟩
  rw [← hm1] at hv
  rw [← hm2] at hv hT
  have HM1 := Lib.hid hm1
  have HT := Lib.hid hT
  obtain ⟨g, hg⟩ : ∃ g, g = w.heap.size := ⟨_, rfl⟩
  have hb0 := below_allocG w (.cells #[.int .i64 a, .int .i64 b, .int .i64 c, .int .i64 d, .int .i64 f] 156)
  have hr0 : S5 g a b c d f (w.alloc (.cells #[.int .i64 a, .int .i64 b, .int .i64 c, .int .i64 d, .int .i64 f] 156)) := heap_alloc_at _ _ _ hg
  obtain ⟨W, hW⟩ : ∃ W, W = w.alloc (.cells #[.int .i64 a, .int .i64 b, .int .i64 c, .int .i64 d, .int .i64 f] 156) := ⟨_, rfl⟩
  rw [← hW] at hr0 hb0
  have HR := Lib.hid hr0
  have HB := Lib.hid hb0
  clear hm1 hm2 hr0 hb0 hs hT
  go_enter Try.func109, Try.ntmps109
  go_wp2_with fail
  rw [← hW, ← hg]
  refine wp_region_held_drew (S := S5 g a b c d f) (by kernel_rfl) (show S5 g a b c d f W.drew from HR.out) fun hS => ?_
  obtain ⟨D, hD⟩ : ∃ D, D = World.drew W := ⟨_, rfl⟩
  have HBD : Hid (Below w.heap.size w D) := Lib.hid (by rw [hD]; exact ⟨HB.out.os, HB.out.tape, HB.out.output, HB.out.size, HB.out.block⟩)
  rw [← hD] at hS ⊢
  clear hD hW hg
  refine wpAnyH_take (i := 0) (v := ?_) rfl (by kernel_rfl) (by kernel_rfl) (by kernel_rfl) (fun _ _ _ h => h) (Or.inl ⟨by rfl, ?_⟩) hS ?_
  rotate_left
  · (intro W hSw; obtain ⟨q0, q1, q2, q3, q4⟩ := hSw.cells; go_simp; try with_reducible rfl)
  try simp only [List.getElem_toArray, List.getElem_cons_succ, List.getElem_cons_zero, Act.put, List.setIfInBounds_toArray, List.set_cons_zero, List.set_cons_succ]
  refine wpAnyH_take (i := 2) (v := ?_) rfl (by kernel_rfl) (by kernel_rfl) (by kernel_rfl) (fun _ _ _ h => h) (Or.inl ⟨by rfl, ?_⟩) hS ?_
  rotate_left
  · (intro W hSw; obtain ⟨q0, q1, q2, q3, q4⟩ := hSw.cells; go_simp; try with_reducible rfl)
  try simp only [List.getElem_toArray, List.getElem_cons_succ, List.getElem_cons_zero, Act.put, List.setIfInBounds_toArray, List.set_cons_zero, List.set_cons_succ]
  refine wpAnyH_call (k := 1) (by kernel_rfl) rfl rfl (f := 92) (args := #[.slice (some ⟨g, 0, none⟩) 5 5]) (by simp [execOp, go_sem, Act.eval, Act.put]) ?_
  refine (greatest_any [a, b, c, d, f] (.slice (some ⟨g, 0, none⟩) 5 5) D _ (by simp) (nums_row (x := [a, b, c, d, f]) hS (by simp))).mono ?_
  rintro e w' ⟨rfl, rfl⟩
  dsimp only
  rw [← HM1.out]
  refine ⟨hS, ?_⟩
  try simp only [List.getElem_toArray, List.getElem_cons_succ, List.getElem_cons_zero, Act.put, List.setIfInBounds_toArray, List.set_cons_zero, List.set_cons_succ]
  refine wpAnyH_call (k := 3) (by kernel_rfl) rfl rfl (f := 111) (args := #[.agg #[.int .i64 a, .int .i64 b, .int .i64 c, .int .i64 d, .int .i64 f]]) (by simp [execOp, go_sem, Act.eval, Act.put]) ?_
  refine (HT.out D).mono ?_
  rintro e E ⟨rfl, hb⟩
  dsimp only
  have hS2 : S5 g a b c d f E := (hb.block _ (lt_of_block hS)).trans hS
  have HBE := Lib.hid (HBD.out.trans (hb.mono HBD.out.size))
  clear hS hb
  refine ⟨hS2, ?_⟩
  have hS := hS2
  clear hS2
  try simp only [List.getElem_toArray, List.getElem_cons_succ, List.getElem_cons_zero, Act.put, List.setIfInBounds_toArray, List.set_cons_zero, List.set_cons_succ]
  refine wpAnyH_all (rs := [4]) (by kernel_rfl) (by simp) fun i hi => ?_
  obtain rfl : i = 4 := by simpa using hi
  clear hi
  refine wpOp_of rfl (by kernel_rfl) ?_
  obtain ⟨h, hh⟩ : ∃ h, h = E.heap.size := ⟨_, rfl⟩
  refine oper_value (v := .slice (some ⟨h, 0, none⟩) 2 2) (w' := E.alloc (.cells #[.int .i64 m1, .int .i64 m2] 3)) (by rw [hh]; simp [execOp, go_sem, Act.eval, Act.put]) ?_
  have hb := below_allocG E (.cells #[.int .i64 m1, .int .i64 m2] 3)
  have hc : (E.alloc (.cells #[.int .i64 m1, .int .i64 m2] 3)).heap[h]? = some (.cells #[.int .i64 m1, .int .i64 m2] 3 (0, 0)) := heap_alloc_at _ _ _ hh
  obtain ⟨F, hF⟩ : ∃ F, F = E.alloc (.cells #[.int .i64 m1, .int .i64 m2] 3) := ⟨_, rfl⟩
  rw [← hF] at hb hc ⊢
  have hS2 : S5 g a b c d f F := (hb.block _ (lt_of_block hS)).trans hS
  have HBF := Lib.hid (HBE.out.trans (hb.mono HBE.out.size))
  have HC := Lib.hid hc
  clear hS hb hF hh hc
  refine ⟨hS2, ?_⟩
  have hS := hS2
  clear hS2
  try simp only [List.getElem_toArray, List.getElem_cons_succ, List.getElem_cons_zero, Act.put, List.setIfInBounds_toArray, List.set_cons_zero, List.set_cons_succ]
  refine wpAnyH_call (k := 5) (by kernel_rfl) rfl rfl (f := 92) (args := #[.slice (some ⟨h, 0, none⟩) 2 2]) (by simp [execOp, go_sem, Act.eval, Act.put]) ?_
  refine (greatest_any [m1, m2] (.slice (some ⟨h, 0, none⟩) 2 2) F _ (by simp) (nums_row (x := [m1, m2]) HC.out (by simp))).mono ?_
  rintro e w' ⟨rfl, rfl⟩
  dsimp only
  refine ⟨hS, ?_⟩
  try simp only [List.getElem_toArray, List.getElem_cons_succ, List.getElem_cons_zero, Act.put, List.setIfInBounds_toArray, List.set_cons_zero, List.set_cons_succ]
  refine wpAnyH_take (i := 6) (v := ?_) rfl (by kernel_rfl) (by kernel_rfl) (by kernel_rfl) (fun _ _ _ h => h) (Or.inl ⟨by rfl, ?_⟩) hS ?_
  rotate_left
  · (intro W hSw; obtain ⟨q0, q1, q2, q3, q4⟩ := hSw.cells; go_simp; try with_reducible rfl)
  try simp only [List.getElem_toArray, List.getElem_cons_succ, List.getElem_cons_zero, Act.put, List.setIfInBounds_toArray, List.set_cons_zero, List.set_cons_succ]
  refine wpAnyH_done (by kernel_rfl) ?_ _
  try simp only [List.getElem_toArray, List.getElem_cons_succ, List.getElem_cons_zero, Act.put, List.setIfInBounds_toArray, List.set_cons_zero, List.set_cons_succ]
  clear hS
  go_wp2_with fail
  go_ret
  exact ⟨Eq.trans (by kernel_rfl) (congrArg (fun z => Ending.returned (Value.int .i64 z)) hv.out.symm), HBF.out⟩
end Go.Proofs.Ytagjepclobobjaa

/- Package grade: faces of blocks, and the grade of a face. -/
namespace Go.Proofs.Ytagjepclobobjaa
set_option linter.unusedVariables false
set_option linter.unusedSimpArgs false
open Go.RowKit Go.Shelf
attribute [local go_sem] Oper.semAt_some

def pairV (a b : Int) : Value := .agg #[.int .i64 a, .int .i64 b]
theorem keeps_any (a b c d : Int) (w : World) :
    Calls Try.prog 68 #[pairV a b, pairV c d] w fun e w' => e = .returned (.bool (decide (a ≤ c) && decide (b ≤ d))) ∧ Below w.heap.size w w' := by
  unfold pairV
  go_enter Try.func68, Try.ntmps68
  go_wp2
  all_goals go_ret
  all_goals exact ⟨by simp [*]; try omega, ((Below.refl _ _).alloc (Nat.le_refl _) _).alloc (by simp) _⟩
set_option maxRecDepth 100000 in
set_option maxHeartbeats 4000000 in
theorem plainAt_any (x : List Int) (hx : x.length = 5) (hs : ∀ v ∈ x, -1000 ≤ v ∧ v ≤ 1000) (w : World) :
    Calls Try.prog 108 #[.agg #[], ptsV x] w fun e w' => e = .returned (pairV (offG x) (variesG x)) ∧ Below w.heap.size w w' := by
  have hO := off_any x hx hs
  have hV := varies_any x hx hs
  obtain ⟨o, ho⟩ : ∃ o, o = offG x := ⟨_, rfl⟩
  obtain ⟨v, hv⟩ : ∃ v, v = variesG x := ⟨_, rfl⟩
  rw [← ho] at hO ⊢
  rw [← hv] at hV ⊢
  clear ho hv hs
  match x, hx with
  | [a, b, c, d, f], hx =>
  rw [ptsV5] at hO hV ⊢
  have HO := Lib.hid hO
  have HV := Lib.hid hV
  clear hO hV
  have hmf : ∀ (fn : Fn) (first cap : Array Value) (w : World), (Instr.makeFunc fn first cap).run Try.prog w = .ok (.func fn first cap) w := fun _ _ _ _ => rfl
  go_enter Try.func108, Try.ntmps108
  go_upto_region 1 with fail
  refine wp_name (fun W => S5 (w.heap.size + 1) a b c d f W ∧ W.heap[w.heap.size + 1 + 1]? = some (.cells #[.int .i64 0, .int .i64 0] 132 (0, 0)) ∧ Below w.heap.size w W) ⟨(hget_old _ _ _ (by simp)).trans (heap_alloc_at _ _ _ (by simp)), heap_alloc_at _ _ _ (by simp), ((((Below.refl _ _).alloc (Nat.le_refl _) _).alloc (by simp) _).alloc (by simp; omega) _)⟩ ?_
  rintro W ⟨h1, h2, h3⟩
  have H1 := Lib.hid h1
  have H2 := Lib.hid h2
  have H3 := Lib.hid h3
  obtain ⟨d0, d1, d2, d3, d4⟩ := h1.cells
  clear h1 h2 h3
  go_quiet (fail)
  go_upto_region 2 with fail
  refine wp_name (fun W => S5 (w.heap.size + 1) a b c d f W ∧ W.heap[w.heap.size + 1 + 1]? = some (.cells #[.int .i64 0, .int .i64 0] 132 (0, 0)) ∧ Below w.heap.size w W) ⟨H1.out, H2.out, ⟨H3.out.os, H3.out.tape, H3.out.output, H3.out.size, H3.out.block⟩⟩ ?_
  clear d0 d1 d2 d3 d4 H1 H2 H3
  rintro W ⟨h1, h2, h3⟩
  have H2 := Lib.hid h2
  have H3 := Lib.hid h3
  obtain ⟨d0, d1, d2, d3, d4⟩ := h1.cells
  clear h1 h2 h3
  go_wp2_with fail
  refine (HO.out W).mono ?_
  rintro e W2 ⟨rfl, hb⟩
  dsimp only
  have HB2 := Lib.hid (H3.out.trans (hb.mono H3.out.size))
  have H2b := Lib.hid ((hb.block _ (lt_of_block H2.out)).trans H2.out)
  clear hb d0 d1 d2 d3 d4
  go_wp2_with fail
  refine (HV.out W2).mono ?_
  rintro e W3 ⟨rfl, hb⟩
  dsimp only
  have HB3 := Lib.hid (HB2.out.trans (hb.mono HB2.out.size))
  have H2c := Lib.hid ((hb.block _ (lt_of_block H2b.out)).trans H2b.out)
  clear hb
  go_wp2_with (refine wpList_store_row rfl 132 _ _ rfl (w.heap.size + 1 + 1) #[.int .i64 o, .int .i64 v] rfl rfl 132 _ H2c.out (by kernel_rfl) rfl (by simp [Value.oneCell']) ?_)
  refine bodyPost_ret (v := pairV o v) (results_cell_row (fn := Try.f108) (p := 4) rfl _ _ (w.heap.size + 1 + 1) 132 #[.int .i64 o, .int .i64 v] (0, 0) _ rfl (setRow_heap _ _ _ _ _ _ H2c.out) Try.underlying132 rfl (by kernel_rfl)) rfl ⟨rfl, ?_⟩
  exact HB3.out.trans ((Keeps.setRow (Mut := fun k => k = w.heap.size + 1 + 1) _ _ _ rfl).below HB3.out.size (fun k h e => by omega))
end Go.Proofs.Ytagjepclobobjaa

/- Package grade: the face of a block that is lapped. -/
namespace Go.Proofs.Ytagjepclobobjaa
set_option linter.unusedVariables false
set_option linter.unusedSimpArgs false
open Go.RowKit Go.Shelf
attribute [local go_sem] Oper.semAt_some
theorem exec_minG {o : Oper} {ev : Operand → Value} {W : World} (x y : Operand) (ho : o.op = .call { callee := .builtin .min, args := #[x, y], argTypes := #[3, 3] }) (hty : o.type = 3) (p q : Int) (hx : ev x = .int .i64 p) (hy : ev y = .int .i64 q) :
    (execOp ev o).run Try.prog W = .ok (.value (.int .i64 (min p q))) W := by
  unfold execOp
  simp only [ho, resolve, invoke, builtin, Sem.run_bind, Sem.run_pure, Result.andThen_ok, List.map_toArray, List.map_cons, List.map_nil, hx, hy, hty]
  have hr : (Builtin.min_ #[3, 3] 3 #[Value.int IntKind.i64 p, Value.int IntKind.i64 q]).run Try.prog W = .ok (.int .i64 (min p q)) W := by
    simp [Builtin.min_, Builtin.min2, go_sem]
    by_cases h : q < p
    · rw [if_pos h]; omega
    · rw [if_neg h]; omega
  rw [hr]
  rfl
theorem part_lapped {W : World} {b : Nat} {x : Value} {fr : Nat × Nat} (h : W.heap[b]? = some (.cells #[x] 130 fr)) : (partAt ⟨b, 0, none⟩ 0 0).run Try.prog W = .ok ⟨b, 0, none⟩ W := by
  have h1 : byteOfCell Try.prog Try.prog.depth 130 0 = some 0 := by kernel_rfl
  have h2 : Try.prog.cellsOf 130 = 1 := by kernel_rfl
  unfold partAt byteOf
  have h3 : W.shape? b = some (130, 1) := by unfold World.shape?; rw [h]; rfl
  have h4 : (viewAt b).run Try.prog W = .ok none W := by simp [viewAt, Sem.run_bind, Sem.run, shape, h3]
  simp [Sem.run_bind, Sem.run, shape, noView, program, h1, h2, h3, h4]
theorem list5 {x : List Int} (h : x.length = 5) : ∃ a b c d f, x = [a, b, c, d, f] := by
  match x, h with
  | [a, b, c, d, f], _ => exact ⟨a, b, c, d, f, rfl⟩
def SL (g gl i : Nat) (v lv : Int) (W : World) : Prop := W.cell? ⟨g, i, none⟩ = some (.int .i64 v) ∧ W.cell? ⟨gl, 0, none⟩ = some (.int .i64 lv)
set_option maxRecDepth 100000 in
set_option maxHeartbeats 4000000 in
theorem lappedAt_any (lv : Int) (x : List Int) (hl : -1000 ≤ lv ∧ lv ≤ 1000) (hx : x.length = 5) (hs : ∀ v ∈ x, -1000 ≤ v ∧ v ≤ 1000) (w : World) :
    Calls Try.prog 112 #[.agg #[.int .i64 lv], ptsV x] w fun e w' => e = .returned (pairV (offG (lapG lv x)) (variesG (lapG lv x))) ∧ Below w.heap.size w w' := by
  have hO := plainAt_any (lapG lv x) (by unfold lapG; rw [List.length_map, hx]) (fun v hv => by
    obtain ⟨u, hu, rfl⟩ := List.mem_map.1 hv
    have := hs u hu
    omega)
  obtain ⟨o, ho⟩ : ∃ o, o = offG (lapG lv x) := ⟨_, rfl⟩
  obtain ⟨v, hv⟩ : ∃ v, v = variesG (lapG lv x) := ⟨_, rfl⟩
  rw [← ho, ← hv] at hO
  rw [← ho, ← hv]
  clear ho hv hs
  have HO := Lib.hid hO
  have HX := Lib.hid hx
  clear hO hx hl
  unfold ptsV
  go_enter Try.func112, Try.ntmps112
  go_upto_region 1 with fail
  refine wp_name (fun W => W.heap[w.heap.size]? = some (.cells #[.int .i64 lv] 130 (0, 0)) ∧ W.heap[w.heap.size + 1]? = some (.cells (x.map (Value.int .i64)).toArray 156 (0, 0)) ∧ W.heap[w.heap.size + 1 + 1]? = some (.cells #[.int .i64 0, .int .i64 0] 132 (0, 0)) ∧ Below w.heap.size w W) ⟨(hget_old _ _ _ (by simp; omega)).trans ((hget_old _ _ _ (by simp)).trans (heap_alloc_at _ _ _ (by simp))), (hget_old _ _ _ (by simp)).trans (heap_alloc_at _ _ _ (by simp)), heap_alloc_at _ _ _ (by simp), ((((Below.refl _ _).alloc (Nat.le_refl _) _).alloc (by simp) _).alloc (by simp; omega) _)⟩ ?_
  rintro W ⟨h1, h2, h3, h4⟩
  obtain ⟨g, hg⟩ : ∃ g, g = w.heap.size + 1 := ⟨_, rfl⟩
  obtain ⟨gl, hgl⟩ : ∃ g, g = w.heap.size := ⟨_, rfl⟩
  obtain ⟨gf, hgf⟩ : ∃ g, g = w.heap.size + 1 + 1 := ⟨_, rfl⟩
  rw [← hgf, ← hg, ← hgl]
  rw [← hgl] at h1
  rw [← hg] at h2
  rw [← hgf] at h3
  have hgn : g = gl + 1 := by omega
  have hgm : gf = gl + 2 := by omega
  have HGN := Lib.hid (And.intro hgn (And.intro hgm hgl))
  have H1 := Lib.hid h1
  have H2 := Lib.hid h2
  have H3 := Lib.hid h3
  have H4 := Lib.hid h4
  clear h1 h2 h3 h4 hg hgl hgf hgn hgm
  go_wp2_with fail
  go_loopw [6] (fun iv wr => ∃ i : Nat, i ≤ 5 ∧ iv = .int .i64 i ∧ Keeps (fun k => k = g) W wr ∧ wr.heap[g]? = some (.cells (partR (fun v => min v lv) x i) 156 (0, 0))) (fun iv _ => 5 - (intOf iv).toNat)
  case atStart => exact ⟨0, by decide, rfl, Keeps.refl _ _, by rw [partR_zero]; exact H2.out⟩
  case round =>
    obtain ⟨i, hi, rfl, hk, hr⟩ := hrel
    have HK := Lib.hid hk
    have HRr := Lib.hid hr
    clear hk hr
    have hlr := (HK.out.block gl (lt_of_block H1.out) (fun e => by have := HGN.out.1; omega)).trans H1.out
    by_cases hlt : i < 5
    · have hw : IntKind.i64.wrap ((i : Int) + 1) = ((i + 1 : Nat) : Int) := by rw [IntWalk.i64_in _ (by omega)]; omega
      have hlti : (i : Int) < 5 := by omega
      have hi0 : 0 ≤ (i : Int) := by omega
      have hix : i < x.length := by rw [HX.out]; exact hlt
      have hat := partR_at (fun v => min v lv) x i hix
      have hnx := partR_next (fun v => min v lv) x i hix
      obtain ⟨u, hve⟩ : ∃ v, v = x[i] := ⟨_, rfl⟩
      rw [← hve] at hat hnx
      have c1 : wr.cell? ⟨g, i, none⟩ = some (.int .i64 u) := by rw [cell_of_row _ _ _ _ _ _ HRr.out]; exact hat
      have c2 : wr.cell? ⟨gl, 0, none⟩ = some (.int .i64 lv) := by rw [cell_of_row _ _ _ _ _ _ hlr]; rfl
      have f1 : wr.frozen? ⟨g, i, none⟩ = false := frozen_of_row _ _ _ _ _ HRr.out
      have HNX := Lib.hid hnx
      have HF1 := Lib.hid (And.intro c1 f1)
      have hS0 : SL g gl i u lv wr.drew := ⟨c1, c2⟩
      clear hat hnx hve hix hlr c1 c2 f1
      go_upto_region 4 with fail
      refine wp_region_tail 7 #[false, false, false, false, false, false, false, true, true] (SL g gl i u lv) (by kernel_rfl) (by kernel_rfl) (by rfl) hS0 fun hS => ?_
      refine wpAnyH_take (i := 0) (v := ?_) rfl (by kernel_rfl) (by kernel_rfl) (by kernel_rfl) (fun _ _ _ h => h) (Or.inl ⟨by rfl, ?_⟩) hS ?_
      rotate_left
      · (intro W hSw; obtain ⟨q0, q1⟩ := hSw; go_simp; try with_reducible rfl)
      try simp only [List.getElem_toArray, List.getElem_cons_succ, List.getElem_cons_zero, Act.put, List.setIfInBounds_toArray, List.set_cons_zero, List.set_cons_succ]
      refine wpAnyH_take (i := 1) (v := ?_) rfl (by kernel_rfl) (by kernel_rfl) (by kernel_rfl) (fun _ _ _ h => h) (Or.inl ⟨by rfl, ?_⟩) hS ?_
      rotate_left
      · (intro W hSw; obtain ⟨q0, q1⟩ := hSw; go_simp; try with_reducible rfl)
      try simp only [List.getElem_toArray, List.getElem_cons_succ, List.getElem_cons_zero, Act.put, List.setIfInBounds_toArray, List.set_cons_zero, List.set_cons_succ]
      refine wpAnyH_take (i := 2) (v := ?_) rfl (by kernel_rfl) (by kernel_rfl) (by kernel_rfl) (fun _ _ _ h => h) (Or.inl ⟨by rfl, ?_⟩) hS ?_
      rotate_left
      · (intro W hSw; obtain ⟨q0, q1⟩ := hSw; go_simp; try with_reducible rfl)
      try simp only [List.getElem_toArray, List.getElem_cons_succ, List.getElem_cons_zero, Act.put, List.setIfInBounds_toArray, List.set_cons_zero, List.set_cons_succ]
      refine wpAnyH_take (i := 3) (v := ?_) rfl (by kernel_rfl) (by kernel_rfl) (by kernel_rfl) (fun _ _ _ h => h) (Or.inl ⟨by rfl, ?_⟩) hS ?_
      rotate_left
      · (intro W hSw; obtain ⟨q0, q1⟩ := hSw; go_simp; try with_reducible rfl)
      try simp only [List.getElem_toArray, List.getElem_cons_succ, List.getElem_cons_zero, Act.put, List.setIfInBounds_toArray, List.set_cons_zero, List.set_cons_succ]
      refine wpAnyH_take (i := 4) (v := ?_) rfl (by kernel_rfl) (by kernel_rfl) (by kernel_rfl) (fun _ _ _ h => h) (Or.inl ⟨by rfl, ?_⟩) hS ?_
      rotate_left
      · (intro W hSw; obtain ⟨q0, q1⟩ := hSw; go_simp; try with_reducible rfl)
      try simp only [List.getElem_toArray, List.getElem_cons_succ, List.getElem_cons_zero, Act.put, List.setIfInBounds_toArray, List.set_cons_zero, List.set_cons_succ]
      refine wpAnyH_take (i := 5) (v := ?_) rfl (by kernel_rfl) (by kernel_rfl) (by kernel_rfl) (fun _ _ _ h => h) (Or.inl ⟨by rfl, ?_⟩) hS ?_
      rotate_left
      · (intro W hSw; obtain ⟨q0, q1⟩ := hSw; go_simp; try with_reducible rfl)
      try simp only [List.getElem_toArray, List.getElem_cons_succ, List.getElem_cons_zero, Act.put, List.setIfInBounds_toArray, List.set_cons_zero, List.set_cons_succ]
      refine wpAnyH_take (i := 6) (v := .int .i64 (min u lv)) rfl (by kernel_rfl) (by kernel_rfl) (by kernel_rfl) (fun _ _ _ h => h) (Or.inl ⟨by rfl, fun W _ => exec_minG _ _ rfl rfl u lv rfl rfl⟩) hS ?_
      try simp only [List.getElem_toArray, List.getElem_cons_succ, List.getElem_cons_zero, Act.put, List.setIfInBounds_toArray, List.set_cons_zero, List.set_cons_succ]
      refine wpAnyH_done (by kernel_rfl) ?_ _
      unfold TailQ
      simp only [List.drop_succ_cons, List.drop_zero]
      try simp only [List.getElem_toArray, List.getElem_cons_succ, List.getElem_cons_zero, Act.put, List.setIfInBounds_toArray, List.set_cons_zero, List.set_cons_succ]
      clear hS hS0
      have c1 : wr.drew.cell? ⟨g, i, none⟩ = some (.int .i64 u) := HF1.out.1
      have f1 : wr.drew.frozen? ⟨g, i, none⟩ = false := HF1.out.2
      go_wp2_with fail
      refine ⟨⟨i + 1, hlt, by push_cast; rfl, (HK.out.trans (Keeps.drew _ _)).trans (Keeps.setCell _ _ _ rfl), ?_⟩, by simp [intOf]; omega⟩
      rw [← HNX.out]
      exact cells_setG (w := wr.drew) HRr.out
    · have hin : i = 5 := by omega
      subst hin
      have hr5 := HRr.out
      rw [partR_all _ x 5 HX.out] at hr5
      have HL := Lib.hid hlr
      have hf5 := (HK.out.block gf (lt_of_block H3.out) (fun e => by have := HGN.out; omega)).trans H3.out
      have HF5 := Lib.hid hf5
      clear hlt hlr hf5
      have hlen : (x.map fun v => min v lv).length = 5 := by rw [List.length_map, HX.out]
      have hO2 : Hid (∀ w, Calls Try.prog 108 #[.agg #[], ptsV (x.map fun v => min v lv)] w fun e w' => e = .returned (pairV o v) ∧ Below w.heap.size w w') := HO
      obtain ⟨y, hy⟩ : ∃ y, y = x.map fun v => min v lv := ⟨_, rfl⟩
      rw [← hy] at hr5 hlen hO2
      clear hy
      obtain ⟨a, b, c, d, f, he⟩ := list5 hlen
      subst he
      clear hlen
      obtain ⟨d0, d1, d2, d3, d4⟩ := S5.cells (W := wr) hr5
      have m9 := part_lapped HL.out
      rw [ptsV5] at hO2
      clear hr5
      go_wp2_with fail
      refine (hO2.out wr).mono ?_
      rintro e W3 ⟨rfl, hb⟩
      dsimp only
      have HB3 := Lib.hid (H4.out.trans (((HK.out.below (B := w.heap.size) (by have := H4.out.size; omega) (fun k h e => by have := HGN.out; omega))).trans (hb.mono (by have := H4.out.size; have := HK.out.size; omega))))
      have H3c := Lib.hid ((hb.block _ (lt_of_block HF5.out)).trans HF5.out)
      clear hb d0 d1 d2 d3 d4 m9
      unfold pairV
      go_wp2_with (refine wpList_store_row rfl 132 _ _ rfl gf #[.int .i64 o, .int .i64 v] rfl rfl 132 _ H3c.out (by kernel_rfl) rfl (by simp [Value.oneCell']) ?_)
      refine bodyPost_ret (v := pairV o v) (results_cell_row (fn := Try.f112) (p := 4) rfl _ _ gf 132 #[.int .i64 o, .int .i64 v] (0, 0) _ rfl (setRow_heap _ _ _ _ _ _ H3c.out) Try.underlying132 rfl (by kernel_rfl)) rfl ⟨rfl, ?_⟩
      exact HB3.out.trans ((Keeps.setRow (Mut := fun k => k = gf) _ _ _ rfl).below HB3.out.size (fun k h e => by have := HGN.out; omega))
end Go.Proofs.Ytagjepclobobjaa

/- Package grade: the grade of a face, by a bench. -/
namespace Go.Proofs.Ytagjepclobobjaa
set_option linter.unusedVariables false
set_option linter.unusedSimpArgs false
open Go.RowKit Go.Shelf
attribute [local go_sem] Oper.semAt_some
/-- The row of a grade, and of a bench: limits, ten ends of points, step; and the limits with one more. -/
def ptsC (p : List (Int × Int)) : List Value := p.flatMap fun s => [.int .i64 s.1, .int .i64 s.2]
def gradeC (lv : Value) (p : List (Int × Int)) (step : Int) : List Value := lv :: (ptsC p ++ [.int .i64 step])
def benchC (lv : Value) (p : List (Int × Int)) (step : Int) (l2 : Value) : List Value := gradeC lv p step ++ [l2]
theorem pts_len : ∀ (p : List (Int × Int)), (ptsC p).length = p.length * 2
  | [] => rfl
  | s :: p => by
    have := pts_len p
    unfold ptsC at this ⊢
    rw [List.flatMap_cons, List.length_append, this, List.length_cons]
    simp
    omega
theorem bench_12 (lv : Value) (p : List (Int × Int)) (hp : p.length = 5) (step : Int) (l2 : Value) : (benchC lv p step l2).toArray[12]? = some l2 := by
  have := pts_len p
  unfold benchC gradeC
  rw [List.getElem?_toArray, List.getElem?_append_right (by simp [this, hp])]
  simp [this, hp]
def SO (fb bp g off n : Nat) (o v a b : Int) (l2 : Value) (W : World) : Prop :=
  W.cell? ⟨fb, 0, none⟩ = some (.int .i64 o) ∧ W.cell? ⟨fb, 1, none⟩ = some (.int .i64 v) ∧ W.cell? ⟨bp, 12, none⟩ = some l2 ∧ W.cell? ⟨g, off + n * 2, none⟩ = some (.int .i64 a) ∧ W.cell? ⟨g, off + n * 2 + 1, none⟩ = some (.int .i64 b)
set_option maxRecDepth 100000 in
set_option maxHeartbeats 4000000 in
theorem of_any (L : List (Int × Int)) (o v : Int) (bp nl cap : Nat) (ao : Option Addr) (row : Array Value) (t : TypeId) (Rd : Nat → Prop) (w : World) (hL : L.length ≤ 100) (hb : w.heap[bp]? = some (.cells row t (0, 0))) (h12 : row[12]? = some (.slice ao nl cap)) (hnl : nl = L.length)
    (hs : SpansAt w (.slice ao nl cap) L Rd) (hlast : ∃ l ∈ L, o ≤ l.1 ∧ v ≤ l.2) :
    Calls Try.prog 84 #[.pointer (some ⟨bp, 0, none⟩), pairV o v] w fun e w' => e = .returned (.int .i64 ((L.findIdx fun l : Int × Int => decide (o ≤ l.1) && decide (v ≤ l.2)) : Nat)) ∧ Below w.heap.size w w' := by
  have hfl : (L.findIdx fun l : Int × Int => decide (o ≤ l.1) && decide (v ≤ l.2)) < L.length := by
    obtain ⟨l, hl, h1, h2⟩ := hlast
    exact List.findIdx_lt_length_of_exists ⟨l, hl, by simp [h1, h2]⟩
  obtain ⟨k, hk⟩ : ∃ k, k = L.findIdx fun l : Int × Int => decide (o ≤ l.1) && decide (v ≤ l.2) := ⟨_, rfl⟩
  have hkeep : ∀ i (h : i < L.length), i < k → (decide (o ≤ L[i].1) && decide (v ≤ L[i].2)) = false := fun i h hi => by
    rw [hk] at hi
    simpa using List.not_of_lt_findIdx (p := fun l : Int × Int => decide (o ≤ l.1) && decide (v ≤ l.2)) hi
  have hkk : ∀ (h : k < L.length), (decide (o ≤ L[k].1) && decide (v ≤ L[k].2)) = true := fun h => by
    have := List.findIdx_getElem (p := fun l : Int × Int => decide (o ≤ l.1) && decide (v ≤ l.2)) (xs := L) (w := hfl)
    simp only [← hk] at this
    exact this
  rw [← hk] at hfl ⊢
  rw [← hnl] at hL hfl
  have HK := Lib.hid hk
  have HKE := Lib.hid hkeep
  have HKK := Lib.hid hkk
  have HB := Lib.hid hb
  have H12 := Lib.hid h12
  have HNL := Lib.hid hnl
  have HS := Lib.hid hs
  clear hk hkeep hkk hb h12 hnl hs hlast
  unfold pairV
  go_enter Try.func84, Try.ntmps84
  go_upto_region 1 with fail
  obtain ⟨fb, hfb⟩ : ∃ g, g = w.heap.size := ⟨_, rfl⟩
  refine wp_name (fun W => W.heap[fb]? = some (.cells #[.int .i64 o, .int .i64 v] 132 (0, 0)) ∧ Below w.heap.size w W) ⟨heap_alloc_at _ _ _ hfb, below_allocG _ _⟩ ?_
  rintro W ⟨h1, h2⟩
  rw [← hfb]
  have HF := Lib.hid h1
  have HW := Lib.hid h2
  clear h1 h2 hfb
  go_wp2_with fail
  go_loopw [5] (fun iv wr => ∃ i : Nat, i ≤ k ∧ iv = .int .i64 i ∧ Below W.heap.size W wr) (fun iv _ => k - (intOf iv).toNat)
  case atStart => exact ⟨0, Nat.zero_le _, rfl, Below.refl _ _⟩
  case round =>
    obtain ⟨i, hi, rfl, hbr⟩ := hrel
    have HR := Lib.hid hbr
    have HBr := Lib.hid (HW.out.trans (hbr.mono HW.out.size))
    clear hbr
    have hin : i < nl := by omega
    have hini : (i : Int) < (nl : Int) := by omega
    have hi0 : 0 ≤ (i : Int) := by omega
    have hw : IntKind.i64.wrap ((i : Int) + 1) = ((i + 1 : Nat) : Int) := by rw [IntWalk.i64_in _ (by omega)]; omega
    obtain ⟨ae, ce, e1, _, _, e2⟩ := HS.out
    obtain ⟨g, off, e3, _, hgw, d3, d4⟩ := e2 i (by rw [← HNL.out]; exact hin)
    injection e1 with e1 e0 e4
    subst e1 e4 e3
    clear e0 e2
    obtain ⟨⟨a, b⟩, hab⟩ : ∃ x, x = L[i]'(by rw [← HNL.out]; exact hin) := ⟨_, rfl⟩
    rw [← hab] at d3 d4
    have HAB := Lib.hid hab
    clear hab
    have hSX : Hid (∀ Y, Below W.heap.size W Y → SO fb bp g off i o v a b (.slice (some ⟨g, off, none⟩) nl cap) Y) := Lib.hid fun Y h => by
      have hw1 := HW.out.trans (h.mono HW.out.size)
      have q1 := (h.block _ (lt_of_block HF.out)).trans HF.out
      have q2 := (hw1.block _ (lt_of_block HB.out)).trans HB.out
      exact ⟨by rw [cell_of_row _ _ _ _ _ _ q1]; rfl, by rw [cell_of_row _ _ _ _ _ _ q1]; rfl, by rw [cell_of_row _ _ _ _ _ _ q2]; exact H12.out, (World.cell?_of_block (w := w) (w' := Y) (a := ⟨g, off + i * 2, none⟩) (hw1.block g hgw)).trans d3, (World.cell?_of_block (w := w) (w' := Y) (a := ⟨g, off + i * 2 + 1, none⟩) (hw1.block g hgw)).trans d4⟩
    clear d3 d4
    go_upto_region 2 with fail
    refine wp_region_held_drew (S := SO fb bp g off i o v a b (.slice (some ⟨g, off, none⟩) nl cap)) (by kernel_rfl) (hSX.out _ ⟨HR.out.os, HR.out.tape, HR.out.output, HR.out.size, HR.out.block⟩) fun hS => ?_
    obtain ⟨D, hD⟩ : ∃ D, D = World.drew wr := ⟨_, rfl⟩
    have HD : Hid (Below W.heap.size W D) := Lib.hid (by rw [hD]; exact ⟨HR.out.os, HR.out.tape, HR.out.output, HR.out.size, HR.out.block⟩)
    rw [← hD] at hS ⊢
    clear hD
    refine wpAnyH_take (i := 0) (v := ?_) rfl (by kernel_rfl) (by kernel_rfl) (by kernel_rfl) (fun _ _ _ h => h) (Or.inl ⟨by rfl, ?_⟩) hS ?_
    rotate_left
    · (intro W hSw; obtain ⟨q0, q1, q2, q3, q4⟩ := hSw; go_simp; try with_reducible rfl)
    try simp only [List.getElem_toArray, List.getElem_cons_succ, List.getElem_cons_zero, Act.put, List.setIfInBounds_toArray, List.set_cons_zero, List.set_cons_succ]
    refine wpAnyH_take (i := 1) (v := ?_) rfl (by kernel_rfl) (by kernel_rfl) (by kernel_rfl) (fun _ _ _ h => h) (Or.inl ⟨by rfl, ?_⟩) hS ?_
    rotate_left
    · (intro W hSw; obtain ⟨q0, q1, q2, q3, q4⟩ := hSw; go_simp; try with_reducible rfl)
    try simp only [List.getElem_toArray, List.getElem_cons_succ, List.getElem_cons_zero, Act.put, List.setIfInBounds_toArray, List.set_cons_zero, List.set_cons_succ]
    refine wpAnyH_take (i := 2) (v := ?_) rfl (by kernel_rfl) (by kernel_rfl) (by kernel_rfl) (fun _ _ _ h => h) (Or.inl ⟨by rfl, ?_⟩) hS ?_
    rotate_left
    · (intro W hSw; obtain ⟨q0, q1, q2, q3, q4⟩ := hSw; go_simp; try with_reducible rfl)
    try simp only [List.getElem_toArray, List.getElem_cons_succ, List.getElem_cons_zero, Act.put, List.setIfInBounds_toArray, List.set_cons_zero, List.set_cons_succ]
    refine wpAnyH_take (i := 3) (v := ?_) rfl (by kernel_rfl) (by kernel_rfl) (by kernel_rfl) (fun _ _ _ h => h) (Or.inl ⟨by rfl, ?_⟩) hS ?_
    rotate_left
    · (intro W hSw; obtain ⟨q0, q1, q2, q3, q4⟩ := hSw; go_simp; try with_reducible rfl)
    try simp only [List.getElem_toArray, List.getElem_cons_succ, List.getElem_cons_zero, Act.put, List.setIfInBounds_toArray, List.set_cons_zero, List.set_cons_succ]
    refine wpAnyH_take (i := 4) (v := ?_) rfl (by kernel_rfl) (by kernel_rfl) (by kernel_rfl) (fun _ _ _ h => h) (Or.inl ⟨by rfl, ?_⟩) hS ?_
    rotate_left
    · (intro W hSw; obtain ⟨q0, q1, q2, q3, q4⟩ := hSw; go_simp; try with_reducible rfl)
    try simp only [List.getElem_toArray, List.getElem_cons_succ, List.getElem_cons_zero, Act.put, List.setIfInBounds_toArray, List.set_cons_zero, List.set_cons_succ]
    refine wpAnyH_take (i := 5) (v := ?_) rfl (by kernel_rfl) (by kernel_rfl) (by kernel_rfl) (fun _ _ _ h => h) (Or.inl ⟨by rfl, ?_⟩) hS ?_
    rotate_left
    · (intro W hSw; obtain ⟨q0, q1, q2, q3, q4⟩ := hSw; go_simp; try with_reducible rfl)
    try simp only [List.getElem_toArray, List.getElem_cons_succ, List.getElem_cons_zero, Act.put, List.setIfInBounds_toArray, List.set_cons_zero, List.set_cons_succ]
    refine wpAnyH_take (i := 6) (v := ?_) rfl (by kernel_rfl) (by kernel_rfl) (by kernel_rfl) (fun _ _ _ h => h) (Or.inl ⟨by rfl, ?_⟩) hS ?_
    rotate_left
    · (intro W hSw; obtain ⟨q0, q1, q2, q3, q4⟩ := hSw; go_simp; try with_reducible rfl)
    try simp only [List.getElem_toArray, List.getElem_cons_succ, List.getElem_cons_zero, Act.put, List.setIfInBounds_toArray, List.set_cons_zero, List.set_cons_succ]
    refine wpAnyH_take (i := 7) (v := ?_) rfl (by kernel_rfl) (by kernel_rfl) (by kernel_rfl) (fun _ _ _ h => h) (Or.inl ⟨by rfl, ?_⟩) hS ?_
    rotate_left
    · (intro W hSw; obtain ⟨q0, q1, q2, q3, q4⟩ := hSw; go_simp; try with_reducible rfl)
    try simp only [List.getElem_toArray, List.getElem_cons_succ, List.getElem_cons_zero, Act.put, List.setIfInBounds_toArray, List.set_cons_zero, List.set_cons_succ]
    refine wpAnyH_call (k := 8) (by kernel_rfl) rfl rfl (f := 68) (args := #[.agg #[.int .i64 o, .int .i64 v], .agg #[.int .i64 a, .int .i64 b]]) (by simp [execOp, go_sem, Act.eval, Act.put]) ?_
    refine (keeps_any o v a b D).mono ?_
    rintro e E ⟨rfl, hbe⟩
    dsimp only
    have HE := Lib.hid (HD.out.trans (hbe.mono HD.out.size))
    clear hbe hS
    refine ⟨hSX.out _ HE.out, ?_⟩
    have hS := hSX.out _ HE.out
    try simp only [List.getElem_toArray, List.getElem_cons_succ, List.getElem_cons_zero, Act.put, List.setIfInBounds_toArray, List.set_cons_zero, List.set_cons_succ]
    by_cases hik : i < k
    · have hno := HKE.out i (by rw [← HNL.out]; exact hin) hik
      rw [← HAB.out] at hno
      rw [hno]
      refine wpAnyH_take (i := 9) (v := ?_) rfl (by kernel_rfl) (by kernel_rfl) (by kernel_rfl) (fun _ _ _ h => h) (Or.inl ⟨by rfl, ?_⟩) hS ?_
      rotate_left
      · (intro W hSw; obtain ⟨q0, q1, q2, q3, q4⟩ := hSw; go_simp; try with_reducible rfl)
      try simp only [List.getElem_toArray, List.getElem_cons_succ, List.getElem_cons_zero, Act.put, List.setIfInBounds_toArray, List.set_cons_zero, List.set_cons_succ]
      refine wpAnyH_done (by kernel_rfl) ?_ _
      try simp only [List.getElem_toArray, List.getElem_cons_succ, List.getElem_cons_zero, Act.put, List.setIfInBounds_toArray, List.set_cons_zero, List.set_cons_succ]
      clear hS hno
      go_wp2_with fail
      exact ⟨⟨i + 1, hik, by push_cast; rfl, HE.out⟩, by simp [intOf]; omega⟩
    · have hik2 : k = i := by omega
      subst hik2
      have hyes := HKK.out (by rw [← HNL.out]; exact hin)
      rw [← HAB.out] at hyes
      rw [hyes]
      refine wpAnyH_take (i := 9) (v := ?_) rfl (by kernel_rfl) (by kernel_rfl) (by kernel_rfl) (fun _ _ _ h => h) (Or.inl ⟨by rfl, ?_⟩) hS ?_
      rotate_left
      · (intro W hSw; obtain ⟨q0, q1, q2, q3, q4⟩ := hSw; go_simp; try with_reducible rfl)
      try simp only [List.getElem_toArray, List.getElem_cons_succ, List.getElem_cons_zero, Act.put, List.setIfInBounds_toArray, List.set_cons_zero, List.set_cons_succ]
      refine wpAnyH_done (by kernel_rfl) ?_ _
      try simp only [List.getElem_toArray, List.getElem_cons_succ, List.getElem_cons_zero, Act.put, List.setIfInBounds_toArray, List.set_cons_zero, List.set_cons_succ]
      clear hS hyes
      go_wp2_with fail
      go_ret
      exact ⟨rfl, HW.out.trans (HE.out.mono HW.out.size)⟩
end Go.Proofs.Ytagjepclobobjaa

/- General: a store of a struct into the middle of a row (taken out of XZc). -/
namespace Go.Proofs.Ytagjepclobobjaa
set_option linter.unusedVariables false
set_option linter.unusedSimpArgs false
open Go.RowKit Go.Shelf

/-- A row in which a segment is changed. -/
structure Seg (cur cur' : Array Value) (o : Nat) (cs : List Value) : Prop where
  size : cur'.size = cur.size
  other : ∀ k, (k < o ∨ o + cs.length ≤ k) → cur'[k]? = cur[k]?
  own : ∀ k, k < cs.length → cur'[o + k]? = cs[k]?
theorem seg_of (cur : Array Value) (o : Nat) (cs : List Value) (h : o + cs.length ≤ cur.size) : Seg cur (cur.toList.take o ++ cs ++ cur.toList.drop (o + cs.length)).toArray o cs := by
  refine ⟨by simp; omega, fun k hk => ?_, fun k hk => ?_⟩
  · simp only [List.getElem?_toArray, List.getElem?_append, List.length_append, List.length_take, Array.length_toList, List.getElem?_take, List.getElem?_drop, Array.getElem?_toList]
    have hm : min o cur.size = o := by omega
    rw [hm]
    rcases hk with hk | hk
    · simp [hk, show k < o + cs.length by omega]
    · simp [show ¬ k < o + cs.length by omega, show o + cs.length + (k - (o + cs.length)) = k by omega]
  · simp only [List.getElem?_toArray, List.getElem?_append, List.length_append, List.length_take, Array.length_toList]
    have hm : min o cur.size = o := by omega
    rw [hm]
    simp [show o + k < o + cs.length by omega]
    intro h; omega
theorem run_store_at {P : Program} {o : Oper} {ρ : Operand → Value} {w : World} (ty : TypeId) (x y : Operand) (ho : o.op = .store ty x y)
    (g off : Nat) (cells : Array Value) (hx : ρ x = .pointer (some ⟨g, off, none⟩)) (hy : ρ y = .agg cells)
    (t : TypeId) (cur : Array Value) (hg : w.heap[g]? = some (.cells cur t (0, 0))) (hi : (P.info? ty).map (·.size) = some cells.size)
    (hfit : off + cells.size ≤ cur.size) (h1 : cells.all (·.oneCell') = true) :
    (execOp ρ o).run P w = .ok .skip (w.setRow g (cur.toList.take off ++ cells.toList ++ cur.toList.drop (off + cells.toList.length)).toArray) := by
  have hst := run_storeCells_at P g off t cells.toList 0 cur w hg (by simpa using hfit) (fun v hv => (Array.all_eq_true_iff_forall_mem.1 h1) v (by simpa using hv))
  have hsv : (storeVar ty ⟨g, off, none⟩ (.agg cells)).run P w = .ok () (w.setRow g (cur.toList.take off ++ cells.toList ++ cur.toList.drop (off + cells.toList.length)).toArray) := by
    cases hq : P.info? ty with
    | none => simp [hq] at hi
    | some i =>
      have hs : cells.size = i.size := by simp [hq] at hi; omega
      simp [storeVar, sizeOf, typeInfo, hq, Value.cells, hs] at hst ⊢
      exact hst
  unfold execOp
  simp only [ho, hx, hy, Instr.storeAt, Instr.sureAddr, Sem.run_bind, Sem.run_pure, Result.andThen_ok, hsv]
theorem wpList_store_at {P : Program} {ops : Array Oper} {rest : List Oper} {o : Oper} {a : Act} {w : World} {Q : Exit → Act → World → Prop} (hgd : o.guard = none) (ty : TypeId) (x y : Operand) (ho : o.op = .store ty x y)
    (g off : Nat) (cells : Array Value) (hx : a.eval x = .pointer (some ⟨g, off, none⟩)) (hy : a.eval y = .agg cells)
    (t : TypeId) (cur : Array Value) (hg : w.heap[g]? = some (.cells cur t (0, 0))) (hi : (P.info? ty).map (·.size) = some cells.size)
    (hfit : off + cells.size ≤ cur.size) (h1 : cells.all (·.oneCell') = true)
    (h : ∀ w' cur', Seg cur cur' off cells.toList → w'.heap[g]? = some (.cells cur' t (0, 0)) → Keeps (fun k => k = g) w w' → w'.heap.size = w.heap.size → wpList P ops Q rest (a.put o.dst undef) w') : wpList P ops Q (o :: rest) a w := by
  refine wpList_plain hgd fun K hK => ?_
  unfold Oper.wp
  rw [run_store_at ty x y ho g off cells hx hy t cur hg hi hfit h1]
  exact hK _ _ (h _ _ (seg_of cur off cells.toList (by simpa using hfit)) (setRow_heap _ _ _ _ _ _ hg) (keeps_setRow _ _ _) (by simp))

end Go.Proofs.Ytagjepclobobjaa
