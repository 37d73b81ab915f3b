/- Texts Ha, Hb, Hc, Hd in one file; each begins with a word on what it proves. -/
import Derived.Laws.BitsAllLaws
import Derived.Laws.EntriesVeiled
import Derived.Test.YtbmfphiecllggaaDoorKj
import Derived.Test.YtbmfphiecllggaaDoorKg

/- The statements about jobs: their small functions, and the document's examples. -/
namespace Go.Proofs.YtbmfphiecllggaaDoor
set_option linter.unusedVariables false
set_option linter.unusedSimpArgs false
open Go.RowKit Go.Shelf
attribute [local go_sem] Oper.semAt_some

theorem wp_append_nilJ {w : World} {o : Oper} {a : Act} {K : Act → World → Prop} {Q : Exit → Act → World → Prop} (s x : Operand) (t : TypeId)
    (ho : o.op = .call { callee := .builtin .append, args := #[s, x], argTypes := #[t, t] }) (e : TypeId) (size bytes : Nat) (z : Value) (ht : Tryd.prog.underlying t = some (.slice e)) (hinfo : (Tryd.prog.info? e).map (fun i => (i.zero, i.size, i.bytes)) = some (some z, size, bytes))
    (g n k : Nat) (hnk : n ≤ k) (hs : a.eval s = .slice (some ⟨g, 0, none⟩) n k) (c : Nat) (hx : a.eval x = .slice none 0 c) (h : K (a.put o.dst (.slice (some ⟨g, 0, none⟩) n k)) w) : o.wp Tryd.prog a w K Q := by
  obtain ⟨i, hi, hz, hsize, hby⟩ := info_parts hinfo
  unfold Oper.wp execOp
  simp only [ho, resolve, invoke, builtin, Sem.run_bind, Sem.run_pure, Result.andThen_ok, List.map_toArray, List.map_cons, List.map_nil, hs, hx]
  have hr : (Builtin.append_ #[t, t] o.type #[.slice (some ⟨g, 0, none⟩) n k, .slice none 0 c]).run Tryd.prog w = .ok (.slice (some ⟨g, 0, none⟩) n k) w := by
    simp [Builtin.append_, run_underlying ht, sizeOf, typeInfo, hi, Builtin.lenOf, Builtin.firstCells, loadCells, loadCellsFrom, storeCells, hnk]
  rw [hr]
  exact h
theorem lspan_any (a b : Int) (w : World) : Calls Tryd.prog 72 #[.int .i64 a, .int .i64 b] w fun e w' => e = .returned (spV (a, b)) ∧ Below w.heap.size w w' := by
  go_enter Tryd.func72, Tryd.ntmps72
  go_wp2
  have hr : (w.alloc (.cells #[.int .i64 a, .int .i64 b] 24)).heap[w.heap.size]? = some (.cells #[.int .i64 a, .int .i64 b] 24 (0, 0)) := heap_alloc_at _ _ _ rfl
  have e0 := cell_of_row _ _ 0 _ _ _ hr
  have e1 := cell_of_row _ _ 1 _ _ _ hr
  exact bodyPost_ret (v := spV (a, b)) (by simp [results, Tryd.results72, go_sem, spV, e0, e1]) rfl ⟨rfl, (Below.refl _ _).alloc (Nat.le_refl _) _⟩
theorem wpList_max3 {w : World} {ops : Array Oper} {rest : List Oper} {o : Oper} {a : Act} {Q : Exit → Act → World → Prop} (hgd : o.guard = none) (x y z : Operand)
    (ho : o.op = .call { callee := .builtin .max, args := #[x, y, z], argTypes := #[3, 3, 3] }) (hty : o.type = 3) (p q r m : Int) (hx : a.eval x = .int .i64 p) (hy : a.eval y = .int .i64 q) (hz : a.eval z = .int .i64 r) (hm : max p (max q r) = m)
    (h : wpList Tryd.prog ops Q rest (a.put o.dst (.int .i64 m)) w) : wpList Tryd.prog ops Q (o :: rest) a w := by
  refine wpList_plain hgd fun K hK => ?_
  unfold Oper.wp execOp
  simp only [ho, resolve, invoke, builtin, Sem.run_bind, Sem.run_pure, Result.andThen_ok, List.map_toArray, List.map_cons, List.map_nil, hx, hy, hz, hty]
  have hr : (Builtin.max_ #[3, 3, 3] 3 #[Value.int IntKind.i64 p, Value.int IntKind.i64 q, Value.int IntKind.i64 r]).run Tryd.prog w = .ok (.int .i64 m) w := by
    rw [← hm]
    simp [Builtin.max_, Builtin.max2, go_sem]
    by_cases h1 : p < q
    · rw [if_pos h1]
      by_cases h2 : q < r
      · simp [h2]; omega
      · simp [h2]; omega
    · rw [if_neg h1]
      by_cases h2 : p < r
      · simp [h2]; omega
      · simp [h2]; omega
  rw [hr]
  exact hK _ _ h
set_option maxHeartbeats 4000000 in
theorem far_any (j : JobD) (n cap m cap' k cap3 : Nat) (ao ao' a3 : Option Addr) (w : World) :
    Calls Tryd.prog 26 #[jobV j (.slice ao n cap) (.slice ao' m cap'), .slice a3 k cap3] w fun e w' => e = .returned (.bool (decide (40 < max n (max m k)))) ∧ Below w.heap.size w w' := by
  unfold jobV
  obtain ⟨x, hx⟩ : ∃ x, x = max n (max m k) := ⟨_, rfl⟩
  have hmm : max (n : Int) (max (m : Int) (k : Int)) = (x : Int) := by omega
  rw [← hx]
  clear hx
  go_enter Tryd.func26, Tryd.ntmps26
  go_wp2_with (first | (refine wpList_max3 rfl (.tmp 8) (.tmp 11) (.tmp 13) rfl rfl (n : Int) (m : Int) (k : Int) _ rfl rfl rfl hmm ?_))
  go_ret
  refine ⟨congrArg (fun b => Ending.returned (Value.bool b)) ?_, Below.alloc' _ _⟩
  show decide _ = decide _
  rw [decide_eq_decide]
  omega
/-- A job is valid, and there is not far too much of something. -/
def fineJ (j : JobD) : Bool := decide (max j.st.bs.length j.ws.length ≤ 40) && validJb j
theorem fine_valid (j : JobD) : fineJ j = validJb j := by
  unfold fineJ
  cases h : validJb j with
  | false => simp
  | true =>
    obtain ⟨h1, h2, _⟩ := validJb_parts h
    have h3 := (validSt_parts h1).1
    rw [decide_eq_true (by omega)]; rfl
set_option maxHeartbeats 4000000 in
theorem fine_any (j : JobD) (bs ws : Value) (w : World) (hbs : SpansAt w bs j.st.bs (fun k => k < w.heap.size)) (hws : SpansAt w ws j.ws (fun k => k < w.heap.size)) :
    Calls Tryd.prog 32 #[jobV j bs ws] w fun e w' => e = .returned (.bool (validJb j)) ∧ Below w.heap.size w w' := by
  have HBS := Lib.hid hbs
  have HWS := Lib.hid hws
  obtain ⟨ao, cap, rfl, _⟩ := id hbs
  obtain ⟨ao2, cap2, rfl, _⟩ := id hws
  obtain ⟨nb, hnb⟩ : ∃ n, n = j.st.bs.length := ⟨_, rfl⟩
  obtain ⟨nw, hnw⟩ : ∃ n, n = j.ws.length := ⟨_, rfl⟩
  rw [← hnb] at HBS
  rw [← hnw] at HWS
  have HF := Lib.hid (fine_valid j)
  have HNB := Lib.hid hnb
  have HNW := Lib.hid hnw
  have hjv : jobV j (.slice ao nb cap) (.slice ao2 nw cap2) = .agg #[.slice ao nb cap, .int .i64 j.st.film.1, .int .i64 j.st.film.2, .slice ao2 nw cap2] := rfl
  rw [← hnb, ← hnw, hjv]
  have HJV := Lib.hid hjv
  clear hbs hws hnb hnw hjv
  have hrow : ∀ o, o = Obj.cells #[.slice ao nb cap, .int .i64 j.st.film.1, .int .i64 j.st.film.2, .slice ao2 nw cap2] 28 (0, 0) → (w.alloc o).heap[w.heap.size]? = some o := fun o _ => heap_alloc_at _ _ _ rfl
  have HR := Lib.hid (hrow _ rfl)
  clear hrow
  go_enter Tryd.func32, Tryd.ntmps32
  go_wp2_with fail
  have hc := far_any j nb cap nw cap2 0 0 ao ao2 none (w.alloc (.cells #[.slice ao nb cap, .int .i64 j.st.film.1, .int .i64 j.st.film.2, .slice ao2 nw cap2] 28))
  rw [HJV.out] at hc
  refine hc.mono ?_
  rintro e w1 ⟨rfl, hb1⟩
  clear hc
  dsimp only
  have hr1 := (hb1.block _ (by simp)).trans HR.out
  have hb01 : Below w.heap.size w w1 := (Below.alloc' _ _).trans (hb1.mono (by simp))
  have H1 := Lib.hid (And.intro hr1 hb01)
  have c0 : w1.cell? ⟨w.heap.size, 0, none⟩ = some (.slice ao nb cap) := by rw [cell_of_row _ _ _ _ _ _ hr1]; rfl
  have c1 : w1.cell? ⟨w.heap.size, 1, none⟩ = some (.int .i64 j.st.film.1) := by rw [cell_of_row _ _ _ _ _ _ hr1]; rfl
  have c2 : w1.cell? ⟨w.heap.size, 2, none⟩ = some (.int .i64 j.st.film.2) := by rw [cell_of_row _ _ _ _ _ _ hr1]; rfl
  have c3 : w1.cell? ⟨w.heap.size, 3, none⟩ = some (.slice ao2 nw cap2) := by rw [cell_of_row _ _ _ _ _ _ hr1]; rfl
  clear hb1 hr1 hb01
  by_cases h40 : 40 < max nb (max nw 0)
  · rw [decide_eq_true h40]
    have HX := Lib.hid (show validJb j = false by rw [← HF.out]; unfold fineJ; rw [decide_eq_false (by rw [← HNB.out, ← HNW.out]; omega)]; rfl)
    clear h40
    go_wp2
    go_ret
    exact ⟨by rw [HX.out]; rfl, H1.out.2⟩
  · rw [decide_eq_false h40]
    clear h40
    go_wp2_with fail
    have hc := r12job_any j (.slice ao nb cap) (.slice ao2 nw cap2) w1 (by rw [HNB.out] at HBS ⊢; exact (HBS.out.later H1.out.2.size (fun k h1 _ => H1.out.2.block k h1)).low) (by rw [HNW.out] at HWS ⊢; exact (HWS.out.later H1.out.2.size (fun k h1 _ => H1.out.2.block k h1)).low)
    rw [HJV.out] at hc
    refine hc.mono ?_
    rintro e w2 ⟨rfl, hb2⟩
    clear hc
    dsimp only
    have H2 := Lib.hid (H1.out.2.trans (hb2.mono H1.out.2.size))
    clear hb2
    cases hv : validJb j with
    | false =>
      have HV := Lib.hid hv
      clear hv
      go_wp2
      go_ret
      exact ⟨by rw [HV.out]; rfl, H2.out⟩
    | true =>
      have HV := Lib.hid hv
      clear hv
      go_wp2
      go_ret
      exact ⟨by rw [HV.out]; rfl, H2.out⟩
theorem shl_one : ∀ n : Fin 9, (wrap64 (2 ^ n.val) : Int) = ((2 ^ n.val : Nat) : Int) := by decide +kernel
set_option maxHeartbeats 4000000 in
theorem levery_any (j : JobD) (nb cap : Nat) (ao : Option Addr) (ws : Value) (hnb : nb = j.st.bs.length) (h8 : nb ≤ 8) (w : World) :
    Calls Tryd.prog 30 #[jobV j (.slice ao nb cap) ws] w fun e w' => e = .returned (.int .i64 (allD j : Nat)) ∧ Below w.heap.size w w' := by
  unfold jobV allD
  rw [← hnb]
  clear hnb
  have hs := shl_one ⟨nb, by omega⟩
  dsimp only at hs
  have hp8 : 2 ^ nb ≤ 256 := (Nat.pow_le_pow_right (by decide) h8 : _ ≤ 2 ^ 8)
  have hp1 := Nat.two_pow_pos nb
  obtain ⟨P, hP⟩ : ∃ P, P = 2 ^ nb := ⟨_, rfl⟩
  rw [← hP] at hs hp8 hp1 ⊢
  have hs2 : wrap64 (2 ^ nb) = (P : Int) := by rw [← hs]
  have hw : wrap64 ((P : Int) - 1) = (P : Int) - 1 := by unfold wrap64; omega
  clear hP hs
  go_enter Tryd.func30, Tryd.ntmps30
  go_wp2
  go_ret
  exact ⟨by rw [show ((P - 1 : Nat) : Int) = (P : Int) - 1 by omega]; rfl, Below.alloc' _ _⟩
/-- The document's job with wants more. -/
def sampleJ (l : List (Int × Int)) : JobD := ⟨stackS, (31, 36) :: (20, 24) :: l⟩
def SS (b : Nat) (v : Value) (Y : World) : Prop := Y.cell? ⟨b, 0, none⟩ = some v ∧ Y.cell? ⟨b, 1, none⟩ = some (.int .i64 1) ∧ Y.cell? ⟨b, 2, none⟩ = some (.int .i64 2)
theorem SS.below {b : Nat} {v : Value} {Y Y' : World} (h : SS b v Y) (hb : Below Y.heap.size Y Y') : SS b v Y' :=
  ⟨cell_below h.1 hb, cell_below h.2.1 hb, cell_below h.2.2 hb⟩
theorem SS.keepsS {b q : Nat} {v : Value} {Y Y' : World} (h : SS b v Y) (hq : b < q) (hk : Keeps (fun k => k = q) Y Y') : SS b v Y' := by
  have hc : ∀ i u, Y.cell? ⟨b, i, none⟩ = some u → Y'.cell? ⟨b, i, none⟩ = some u := fun i u h => (World.cell?_of_block (w := Y) (w' := Y') (a := ⟨b, i, none⟩) (hk.block b (lt_of_cell h) (by omega))).trans h
  exact ⟨hc _ _ h.1, hc _ _ h.2.1, hc _ _ h.2.2⟩
/-- What extra wants come as: none, or one. -/
def ExtraJ (w : World) (v : Value) (l : List (Int × Int)) : Prop := (l = [] ∧ v = .slice none 0 0) ∨ ∃ g lo hi, l = [(lo, hi)] ∧ v = .slice (some ⟨g, 0, none⟩) 1 1 ∧ w.heap[g]? = some (.cells #[.int .i64 lo, .int .i64 hi] 24 (0, 0))
set_option maxRecDepth 100000 in
set_option maxHeartbeats 4000000 in
theorem sample_any (l : List (Int × Int)) (v : Value) (w : World) (hx : ExtraJ w v l) : Calls Tryd.prog 71 #[v] w fun e w' => (∃ bs ws, e = .returned (jobV (sampleJ l) bs ws) ∧ SpansAt w' bs stackS.bs (fun k => w.heap.size ≤ k ∧ k < w'.heap.size) ∧ SpansAt w' ws (sampleJ l).ws (fun k => w.heap.size ≤ k ∧ k < w'.heap.size)) ∧ Below w.heap.size w w' := by
  have HX := Lib.hid hx
  clear hx
  go_enter Tryd.func71, Tryd.ntmps71
  go_wp2_with fail
  obtain ⟨A, hA⟩ : ∃ A, A = w.alloc (.cells #[.slice none 0 0, .int .i64 0, .int .i64 0, .slice none 0 0] 28) := ⟨_, rfl⟩
  have HA1 := Lib.hid (show A.heap[w.heap.size]? = some (.cells #[.slice none 0 0, .int .i64 0, .int .i64 0, .slice none 0 0] 28 (0, 0)) by rw [hA]; exact heap_alloc_at _ _ _ rfl)
  have HA2 := Lib.hid (show Below w.heap.size w A by rw [hA]; exact Below.alloc' _ _)
  have hA3 : A.heap.size = w.heap.size + 1 := by rw [hA]; simp
  rw [← hA]
  clear hA
  refine (lspan_any (10) (10) _).mono ?_
  rintro e w1 ⟨rfl, hb1⟩
  have H1 := Lib.hid hb1
  clear hb1
  unfold spV
  dsimp only
  go_wp2_with fail
  refine (lspan_any (12) (13) _).mono ?_
  rintro e w2 ⟨rfl, hb1⟩
  have H2 := Lib.hid hb1
  clear hb1
  unfold spV
  dsimp only
  go_wp2_with fail
  refine (lspan_any (20) (20) _).mono ?_
  rintro e w3 ⟨rfl, hb1⟩
  have H3 := Lib.hid hb1
  clear hb1
  unfold spV
  dsimp only
  go_wp2_with fail
  refine (lspan_any (31) (32) _).mono ?_
  rintro e w4 ⟨rfl, hb1⟩
  have H4 := Lib.hid hb1
  clear hb1
  unfold spV
  dsimp only
  go_wp2_with fail
  have a1 := H1.out.size
  have a2 := H2.out.size
  have a3 := H3.out.size
  have a4 := H4.out.size
  obtain ⟨g, hg⟩ : ∃ x, x = w4.heap.size := ⟨_, rfl⟩
  obtain ⟨B, hB⟩ : ∃ B, B = w4.alloc (.cells #[.int .i64 10, .int .i64 10, .int .i64 12, .int .i64 13, .int .i64 20, .int .i64 20, .int .i64 31, .int .i64 32] 24) := ⟨_, rfl⟩
  have hBr : B.heap[g]? = some (.cells #[.int .i64 10, .int .i64 10, .int .i64 12, .int .i64 13, .int .i64 20, .int .i64 20, .int .i64 31, .int .i64 32] 24 (0, 0)) := by rw [hB, hg]; exact heap_alloc_at _ _ _ rfl
  have hBb : Below w.heap.size w B := by rw [hB]; exact ((HA2.out.trans (H1.out.mono (by omega))).trans ((H2.out.mono (by omega)).trans ((H3.out.mono (by omega)).trans (H4.out.mono (by omega))))).alloc (by omega) _
  have hBa : B.heap[w.heap.size]? = some (.cells #[.slice none 0 0, .int .i64 0, .int .i64 0, .slice none 0 0] 28 (0, 0)) := by
    rw [hB]
    exact (hget_old _ _ _ (by omega)).trans ((H4.out.block _ (by omega)).trans ((H3.out.block _ (by omega)).trans ((H2.out.block _ (by omega)).trans ((H1.out.block _ (by omega)).trans HA1.out))))
  try rw [← hB]
  try rw [← hg]
  have hgs := lt_of_block hBr
  have hga : w.heap.size < g := by omega
  clear hB hg
  refine (lspan_any 1 2 _).mono ?_
  rintro e w5 ⟨rfl, hb5⟩
  unfold spV
  dsimp only
  have r5 := (hb5.block _ (lt_of_block hBa)).trans hBa
  have g5 := (hb5.block _ hgs).trans hBr
  have b5 := hBb.trans (hb5.mono hBb.size)
  have R5 := Lib.hid (And.intro r5 (And.intro g5 b5))
  clear r5 g5 b5 hb5 hBr hBb hBa
  go_wp2_with fail
  obtain ⟨sb, hsb⟩ : ∃ x, x = w5.heap.size := ⟨_, rfl⟩
  obtain ⟨C, hC⟩ : ∃ C, C = w5.alloc (.cells #[.slice (some ⟨g, 0, none⟩) 4 4, .int .i64 1, .int .i64 2] 26 (0, 0)) := ⟨_, rfl⟩
  have hCr : C.heap[sb]? = some (.cells #[.slice (some ⟨g, 0, none⟩) 4 4, .int .i64 1, .int .i64 2] 26 (0, 0)) := by rw [hC, hsb]; exact heap_alloc_at _ _ _ rfl
  have hb5C : Below w5.heap.size w5 C := by rw [hC]; exact Below.alloc' _ _
  have hwC : Below w.heap.size w C := R5.out.2.2.trans (hb5C.mono R5.out.2.2.size)
  have haC := (hb5C.block _ (lt_of_block R5.out.1)).trans R5.out.1
  have hgC := (hb5C.block _ (lt_of_block R5.out.2.1)).trans R5.out.2.1
  have hsbs := lt_of_block hCr
  have hsbw : w.heap.size < sb := by rw [hsb]; exact lt_of_block R5.out.1
  have hS0 : SS sb (.slice (some ⟨g, 0, none⟩) 4 4) C := ⟨by rw [cell_of_row _ _ _ _ _ _ hCr]; rfl, by rw [cell_of_row _ _ _ _ _ _ hCr]; rfl, by rw [cell_of_row _ _ _ _ _ _ hCr]; rfl⟩
  rw [← hC]
  try rw [← hsb]
  have RC := Lib.hid (And.intro hwC (And.intro haC hgC))
  clear hC hsb hCr hb5C hwC haC hgC R5
  refine wp_region_tail 7 #[false, false, false, false, false, false, false, true] (SS sb (.slice (some ⟨g, 0, none⟩) 4 4)) (by kernel_rfl) (by kernel_rfl) (by rfl) (hS0.below (Below.refl _ _).drew) fun hS => ?_
  obtain ⟨D, hD⟩ : ∃ D, D = C.drew := ⟨_, rfl⟩
  have hCD : Below C.heap.size C D := by rw [hD]; exact (Below.refl _ _).drew
  rw [← hD] at hS ⊢
  have HCD := Lib.hid hCD
  clear hD hCD hS0
  refine wpAnyH_take (i := 0) (v := ?_) rfl (by kernel_rfl) (by kernel_rfl) (by kernel_rfl) (fun _ _ _ h => h) (Or.inl ⟨by rfl, ?_⟩) hS ?_
  rotate_left
  · (intro W hSw; obtain ⟨q0, q1, q2⟩ := hSw; go_simp; try with_reducible rfl)
  try simp only [List.getElem_toArray, List.getElem_cons_succ, List.getElem_cons_zero, Act.put, List.setIfInBounds_toArray, List.set_cons_zero, List.set_cons_succ]
  refine wpAnyH_take (i := 4) (v := ?_) rfl (by kernel_rfl) (by kernel_rfl) (by kernel_rfl) (fun _ _ _ h => h) (Or.inl ⟨by rfl, ?_⟩) hS ?_
  rotate_left
  · (intro W hSw; obtain ⟨q0, q1, q2⟩ := hSw; go_simp; try with_reducible rfl)
  try simp only [List.getElem_toArray, List.getElem_cons_succ, List.getElem_cons_zero, Act.put, List.setIfInBounds_toArray, List.set_cons_zero, List.set_cons_succ]
  refine wpAnyH_call (k := 1) (by kernel_rfl) rfl rfl (f := 72) (args := #[.int .i64 31, .int .i64 36]) (by simp [execOp, go_sem, Act.eval, Act.put]) ?_
  refine (lspan_any 31 36 _).mono ?_
  rintro e w6 ⟨rfl, hb6⟩
  unfold spV
  dsimp only
  have H6 := Lib.hid (HCD.out.trans (hb6.mono HCD.out.size))
  refine ⟨hS.below hb6, ?_⟩
  have hS := hS.below hb6
  clear hb6
  try simp only [List.getElem_toArray, List.getElem_cons_succ, List.getElem_cons_zero, Act.put, List.setIfInBounds_toArray, List.set_cons_zero, List.set_cons_succ]
  refine wpAnyH_call (k := 2) (by kernel_rfl) rfl rfl (f := 72) (args := #[.int .i64 20, .int .i64 24]) (by simp [execOp, go_sem, Act.eval, Act.put]) ?_
  refine (lspan_any 20 24 _).mono ?_
  rintro e w7 ⟨rfl, hb7⟩
  unfold spV
  dsimp only
  have H7 := Lib.hid (H6.out.trans (hb7.mono H6.out.size))
  refine ⟨hS.below hb7, ?_⟩
  have hS := hS.below hb7
  clear hb7
  try simp only [List.getElem_toArray, List.getElem_cons_succ, List.getElem_cons_zero, Act.put, List.setIfInBounds_toArray, List.set_cons_zero, List.set_cons_succ]
  refine wpAnyH_ready (rs := [3]) (by kernel_rfl) (by simp) ?_
  refine AllReadyH.cons rfl (fun K hK => ?_) AllReadyH.nil
  go_simp
  obtain ⟨q, hq⟩ : ∃ x, x = w7.heap.size := ⟨_, rfl⟩
  obtain ⟨E, hE⟩ : ∃ E, E = w7.alloc (.cells #[.int .i64 31, .int .i64 36, .int .i64 20, .int .i64 24] 24) := ⟨_, rfl⟩
  have hEr : E.heap[q]? = some (.cells #[.int .i64 31, .int .i64 36, .int .i64 20, .int .i64 24] 24 (0, 0)) := by rw [hE, hq]; exact heap_alloc_at _ _ _ rfl
  have h7E : Below w7.heap.size w7 E := by rw [hE]; exact Below.alloc' _ _
  have hqC : C.heap.size ≤ q := by rw [hq]; exact H7.out.size
  have hCE : Below C.heap.size C E := H7.out.trans (h7E.mono H7.out.size)
  try rw [← hE]
  try rw [← hq]
  have hS2 := hS.below h7E
  clear hE hq hS h7E
  refine hK _ _ hS2 (fun hS => ?_)
  clear hK K hS2
  try simp only [List.getElem_toArray, List.getElem_cons_succ, List.getElem_cons_zero, Act.put, List.setIfInBounds_toArray, List.set_cons_zero, List.set_cons_succ]
  have hownE : E.ownsRow q 24 2 (.slice (some ⟨q, 0, none⟩) 2 2) 2 (([(31, 36), (20, 24)] : List (Int × Int)).flatMap spanC) := ⟨by decide, .inr ⟨q, 2, _, rfl, Nat.le_refl _, hEr, by decide, by decide, by rfl, by rfl⟩⟩
  have hqE := lt_of_block hEr
  have H8 := Lib.hid (And.intro hownE hCE)
  clear hEr
  refine wpAnyH_oper (k := 5) (by kernel_rfl) rfl (by kernel_rfl) ?_
  have hfin : ∀ (v' : Value) (W : World), W.ownsRow q 24 2 v' (2 + l.length) (([(31, 36), (20, 24)] : List (Int × Int)).flatMap spanC ++ l.flatMap spanC) → Keeps (fun k => k = q) E W → (∃ a c, v' = .slice a (2 + l.length) c) ∧ SpansAt W v' (sampleJ l).ws (fun k => q ≤ k ∧ k < W.heap.size) ∧ Below C.heap.size C W := by
    intro v' W h1 h2
    refine ⟨?_, spans_of_own (by show 2 + l.length = l.length + 1 + 1; omega) ?_, H8.out.2.trans (h2.below H8.out.2.size (fun k h e => by omega))⟩
    · rcases h1.2 with ⟨h3, h4⟩ | ⟨g, cap, cur, h3, _⟩
      · omega
      · exact ⟨_, _, h3⟩
    · rw [← List.flatMap_append] at h1
      exact h1
  have HFIN := Lib.hid hfin
  clear hfin
  rcases HX.out with ⟨rfl, rfl⟩ | ⟨xg, lo, hi, rfl, rfl, hxg⟩
  · refine wp_append_nilJ (.tmp 14) (.tmp 15) 22 rfl 24 2 16 _ underSpansJ infoSpanJ q 2 2 (Nat.le_refl _) rfl 0 rfl ?_
    have hsl := HFIN.out _ E (by simpa using H8.out.1) (Keeps.refl _ _)
    have HSL := Lib.hid hsl
    refine ⟨hS, ?_⟩
    try simp only [List.getElem_toArray, List.getElem_cons_succ, List.getElem_cons_zero, Act.put, List.setIfInBounds_toArray, List.set_cons_zero, List.set_cons_succ]
    refine wpAnyH_take (i := 6) (v := ?_) rfl (by kernel_rfl) (by kernel_rfl) (by kernel_rfl) (fun _ _ _ h => h) (Or.inl ⟨by rfl, ?_⟩) hS ?_
    rotate_left
    · (intro W hSw; obtain ⟨q0, q1, q2⟩ := hSw; go_simp; try with_reducible rfl)
    try simp only [List.getElem_toArray, List.getElem_cons_succ, List.getElem_cons_zero, Act.put, List.setIfInBounds_toArray, List.set_cons_zero, List.set_cons_succ]
    refine wpAnyH_done (by kernel_rfl) ?_ _
    unfold TailQ
    simp only [List.drop_succ_cons, List.drop_zero]
    have hr0 := (hsl.2.2.block _ (lt_of_block RC.out.2.1)).trans RC.out.2.1
    have HR0 := Lib.hid hr0
    have p0 : E.cell? ⟨w.heap.size, 0, none⟩ = some (.slice none 0 0) := by rw [cell_of_row _ _ _ _ _ _ hr0]; rfl
    have p1 : E.cell? ⟨w.heap.size, 1, none⟩ = some (.int .i64 0) := by rw [cell_of_row _ _ _ _ _ _ hr0]; rfl
    have p2 : E.cell? ⟨w.heap.size, 2, none⟩ = some (.int .i64 0) := by rw [cell_of_row _ _ _ _ _ _ hr0]; rfl
    have p3 : E.cell? ⟨w.heap.size, 3, none⟩ = some (.slice none 0 0) := by rw [cell_of_row _ _ _ _ _ _ hr0]; rfl
    have pf : ∀ k, E.frozen? ⟨w.heap.size, k, none⟩ = false := fun k => frozen_of_row _ _ _ _ _ hr0
    clear hr0 hsl hS
    go_wp2_with fail
    obtain ⟨W9, hW9⟩ : ∃ W, W = (((E.setCell ⟨w.heap.size, 0, none⟩ (.slice (some ⟨g, 0, none⟩) 4 4)).setCell ⟨w.heap.size, 1, none⟩ (.int .i64 1)).setCell ⟨w.heap.size, 2, none⟩ (.int .i64 2)).setCell ⟨w.heap.size, 3, none⟩ (.slice (some ⟨q, 0, none⟩) 2 2) := ⟨_, rfl⟩
    have hr9 : W9.heap[w.heap.size]? = some (.cells #[.slice (some ⟨g, 0, none⟩) 4 4, .int .i64 1, .int .i64 2, (.slice (some ⟨q, 0, none⟩) 2 2)] 28 (0, 0)) := by rw [hW9]; exact four_setJ HR0.out
    have hk9 : Keeps (fun k => k = w.heap.size) E W9 := by rw [hW9]; exact keeps_fourJ _ _ _ _ _ _
    rw [← hW9]
    clear hW9 p0 p1 p2 p3 pf
    have q0 : W9.cell? ⟨w.heap.size, 0, none⟩ = some (.slice (some ⟨g, 0, none⟩) 4 4) := by rw [cell_of_row _ _ _ _ _ _ hr9]; rfl
    have q1 : W9.cell? ⟨w.heap.size, 1, none⟩ = some (.int .i64 1) := by rw [cell_of_row _ _ _ _ _ _ hr9]; rfl
    have q2 : W9.cell? ⟨w.heap.size, 2, none⟩ = some (.int .i64 2) := by rw [cell_of_row _ _ _ _ _ _ hr9]; rfl
    have q3 : W9.cell? ⟨w.heap.size, 3, none⟩ = some (.slice (some ⟨q, 0, none⟩) 2 2) := by rw [cell_of_row _ _ _ _ _ _ hr9]; rfl
    have hs9 := hk9.size
    have hsC := HSL.out.2.2.size
    have hg9 := (hk9.block g (by have := lt_of_block RC.out.2.2; omega) (by omega)).trans ((HSL.out.2.2.block g (lt_of_block RC.out.2.2)).trans RC.out.2.2)
    refine bodyPost_ret (v := .agg #[.slice (some ⟨g, 0, none⟩) 4 4, .int .i64 1, .int .i64 2, (.slice (some ⟨q, 0, none⟩) 2 2)]) (by simp [results, Tryd.results71, go_sem, q0, q1, q2, q3]) rfl ⟨⟨_, _, rfl, ?_, ?_⟩, RC.out.1.trans ((HSL.out.2.2.mono RC.out.1.size).trans (hk9.below (by have := RC.out.1.size; omega) (fun k h e => by omega)))⟩
    · refine ⟨some ⟨g, 0, none⟩, 4, rfl, by decide, by decide, fun i hi => ⟨g, 0, rfl, ⟨by omega, lt_of_block hg9⟩, lt_of_block hg9, ?_⟩⟩
      have hi4 : i < 4 := hi
      have hc : i = 0 ∨ i = 1 ∨ i = 2 ∨ i = 3 := by omega
      rcases hc with rfl | rfl | rfl | rfl <;> exact ⟨by rw [cell_of_row _ _ _ _ _ _ hg9]; rfl, by rw [cell_of_row _ _ _ _ _ _ hg9]; rfl⟩
    · obtain ⟨a, c, g1, g2, g3, g4⟩ := HSL.out.2.1.later hs9 (fun k h1 h2 => hk9.block k h1 (by omega))
      refine ⟨a, c, g1, g2, g3, fun q hq => ?_⟩
      obtain ⟨b, off, f1, f2, f3, f4⟩ := g4 q hq
      exact ⟨b, off, f1, ⟨by omega, f3⟩, f3, f4⟩
  · refine wp_append_here (.tmp 14) (.tmp 15) 22 rfl q 24 2 16 _ underSpansJ infoSpanJ rfl (by decide) (.slice (some ⟨q, 0, none⟩) 2 2) 2 _ rfl H8.out.1 ⟨xg, 0, none⟩ 1 1 [.int .i64 lo, .int .i64 hi] rfl rfl (news_block ((H8.out.2.block xg (by have := lt_of_block hxg; have := RC.out.1.size; omega)).trans ((RC.out.1.block xg (lt_of_block hxg)).trans hxg))) (by simp [Value.oneCell']) (by omega) (by decide) (by omega) ?_
    intro v7 V7 hown7 hg7 hat7
    have hk7 := keeps_grown hg7
    have hkE : Keeps (fun k => k = q) E V7 := hk7.mono (fun k _ e => (Option.some.inj e).symm)
    have hsl := HFIN.out v7 V7 (by simpa [spanC] using hown7) hkE
    obtain ⟨⟨a7, c7, rfl⟩, _⟩ := id hsl
    have hS := hS.keepsS (by omega) hkE
    clear hown7 hg7 hat7 hk7 hkE
    have HSL := Lib.hid hsl
    refine ⟨hS, ?_⟩
    try simp only [List.getElem_toArray, List.getElem_cons_succ, List.getElem_cons_zero, Act.put, List.setIfInBounds_toArray, List.set_cons_zero, List.set_cons_succ]
    refine wpAnyH_take (i := 6) (v := ?_) rfl (by kernel_rfl) (by kernel_rfl) (by kernel_rfl) (fun _ _ _ h => h) (Or.inl ⟨by rfl, ?_⟩) hS ?_
    rotate_left
    · (intro W hSw; obtain ⟨q0, q1, q2⟩ := hSw; go_simp; try with_reducible rfl)
    try simp only [List.getElem_toArray, List.getElem_cons_succ, List.getElem_cons_zero, Act.put, List.setIfInBounds_toArray, List.set_cons_zero, List.set_cons_succ]
    refine wpAnyH_done (by kernel_rfl) ?_ _
    unfold TailQ
    simp only [List.drop_succ_cons, List.drop_zero]
    have hr0 := (hsl.2.2.block _ (lt_of_block RC.out.2.1)).trans RC.out.2.1
    have HR0 := Lib.hid hr0
    have p0 : V7.cell? ⟨w.heap.size, 0, none⟩ = some (.slice none 0 0) := by rw [cell_of_row _ _ _ _ _ _ hr0]; rfl
    have p1 : V7.cell? ⟨w.heap.size, 1, none⟩ = some (.int .i64 0) := by rw [cell_of_row _ _ _ _ _ _ hr0]; rfl
    have p2 : V7.cell? ⟨w.heap.size, 2, none⟩ = some (.int .i64 0) := by rw [cell_of_row _ _ _ _ _ _ hr0]; rfl
    have p3 : V7.cell? ⟨w.heap.size, 3, none⟩ = some (.slice none 0 0) := by rw [cell_of_row _ _ _ _ _ _ hr0]; rfl
    have pf : ∀ k, V7.frozen? ⟨w.heap.size, k, none⟩ = false := fun k => frozen_of_row _ _ _ _ _ hr0
    clear hr0 hsl hS
    go_wp2_with fail
    obtain ⟨W9, hW9⟩ : ∃ W, W = (((V7.setCell ⟨w.heap.size, 0, none⟩ (.slice (some ⟨g, 0, none⟩) 4 4)).setCell ⟨w.heap.size, 1, none⟩ (.int .i64 1)).setCell ⟨w.heap.size, 2, none⟩ (.int .i64 2)).setCell ⟨w.heap.size, 3, none⟩ (.slice a7 (2 + 1) c7) := ⟨_, rfl⟩
    have hr9 : W9.heap[w.heap.size]? = some (.cells #[.slice (some ⟨g, 0, none⟩) 4 4, .int .i64 1, .int .i64 2, (.slice a7 (2 + 1) c7)] 28 (0, 0)) := by rw [hW9]; exact four_setJ HR0.out
    have hk9 : Keeps (fun k => k = w.heap.size) V7 W9 := by rw [hW9]; exact keeps_fourJ _ _ _ _ _ _
    rw [← hW9]
    clear hW9 p0 p1 p2 p3 pf
    have q0 : W9.cell? ⟨w.heap.size, 0, none⟩ = some (.slice (some ⟨g, 0, none⟩) 4 4) := by rw [cell_of_row _ _ _ _ _ _ hr9]; rfl
    have q1 : W9.cell? ⟨w.heap.size, 1, none⟩ = some (.int .i64 1) := by rw [cell_of_row _ _ _ _ _ _ hr9]; rfl
    have q2 : W9.cell? ⟨w.heap.size, 2, none⟩ = some (.int .i64 2) := by rw [cell_of_row _ _ _ _ _ _ hr9]; rfl
    have q3 : W9.cell? ⟨w.heap.size, 3, none⟩ = some (.slice a7 (2 + 1) c7) := by rw [cell_of_row _ _ _ _ _ _ hr9]; rfl
    have hs9 := hk9.size
    have hsC := HSL.out.2.2.size
    have hg9 := (hk9.block g (by have := lt_of_block RC.out.2.2; omega) (by omega)).trans ((HSL.out.2.2.block g (lt_of_block RC.out.2.2)).trans RC.out.2.2)
    refine bodyPost_ret (v := .agg #[.slice (some ⟨g, 0, none⟩) 4 4, .int .i64 1, .int .i64 2, (.slice a7 (2 + 1) c7)]) (by simp [results, Tryd.results71, go_sem, q0, q1, q2, q3]) rfl ⟨⟨_, _, rfl, ?_, ?_⟩, RC.out.1.trans ((HSL.out.2.2.mono RC.out.1.size).trans (hk9.below (by have := RC.out.1.size; omega) (fun k h e => by omega)))⟩
    · refine ⟨some ⟨g, 0, none⟩, 4, rfl, by decide, by decide, fun i hi => ⟨g, 0, rfl, ⟨by omega, lt_of_block hg9⟩, lt_of_block hg9, ?_⟩⟩
      have hi4 : i < 4 := hi
      have hc : i = 0 ∨ i = 1 ∨ i = 2 ∨ i = 3 := by omega
      rcases hc with rfl | rfl | rfl | rfl <;> exact ⟨by rw [cell_of_row _ _ _ _ _ _ hg9]; rfl, by rw [cell_of_row _ _ _ _ _ _ hg9]; rfl⟩
    · obtain ⟨a, c, g1, g2, g3, g4⟩ := HSL.out.2.1.later hs9 (fun k h1 h2 => hk9.block k h1 (by omega))
      refine ⟨a, c, g1, g2, g3, fun q hq => ?_⟩
      obtain ⟨b, off, f1, f2, f3, f4⟩ := g4 q hq
      exact ⟨b, off, f1, ⟨by omega, f3⟩, f3, f4⟩
end Go.Proofs.YtbmfphiecllggaaDoor

/- What the document fixes of chapter 12, in the statements about jobs: awake is true. -/
namespace Go.Proofs.YtbmfphiecllggaaDoor
set_option linter.unusedVariables false
set_option linter.unusedSimpArgs false
open Go.RowKit Go.Shelf
attribute [local go_sem] Oper.semAt_some

theorem val_check : checkD (sampleJ []) [5, 4] = ((1, 2), 0) := by decide +kernel
theorem val_plan : planD (sampleJ []) = ([8, 4], 0) := by decide +kernel
theorem val_alone : aloneD (sampleJ [(50, 51)]) = (3, 0) := by decide +kernel
theorem val_most2 : mostD (sampleJ [(31, 33)]) = ((2, 3), 0) := val_most
theorem val_why : whyD (sampleJ [(31, 33)]) = (7, 0) := by decide +kernel
theorem val_rounds2 : roundsD (sampleJ [(31, 33)]) = ([0, 0, 1], 0) := val_rounds
theorem val_lend : lendD (sampleJ []) = (3, 0) := by decide +kernel
theorem val_plan2 : planD (sampleJ [(31, 33)]) = ([], 4) := by decide +kernel
/-- One of the jobs, in its box. -/
structure OneJ (b : Nat) (l : List (Int × Int)) (x : Option Addr) (c : Nat) (y : Option Addr) (n d : Nat) (W : World) : Prop where
  row : W.heap[b]? = some (.cells #[.slice x 4 c, .int .i64 1, .int .i64 2, .slice y n d] 28 (0, 0))
  s : SpansAt W (.slice x 4 c) stackS.bs (fun k => k < W.heap.size)
  t : SpansAt W (.slice y n d) (sampleJ l).ws (fun k => k < W.heap.size)
theorem OneJ.later {b : Nat} {l : List (Int × Int)} {x y : Option Addr} {c n d : Nat} {W W' : World} (h : OneJ b l x c y n d W) (hb : Below W.heap.size W W') : OneJ b l x c y n d W' :=
  ⟨(hb.block _ (lt_of_block h.row)).trans h.row, (h.s.later hb.size (fun k h _ => hb.block k h)).low9, (h.t.later hb.size (fun k h _ => hb.block k h)).low9⟩
theorem OneJ.cs {b : Nat} {l : List (Int × Int)} {x y : Option Addr} {c n d : Nat} {W : World} (h : OneJ b l x c y n d W) : W.cell? ⟨b, 0, none⟩ = some (.slice x 4 c) ∧ W.cell? ⟨b, 1, none⟩ = some (.int .i64 1) ∧ W.cell? ⟨b, 2, none⟩ = some (.int .i64 2) ∧ W.cell? ⟨b, 3, none⟩ = some (.slice y n d) :=
  ⟨by rw [cell_of_row _ _ _ _ _ _ h.row]; rfl, by rw [cell_of_row _ _ _ _ _ _ h.row]; rfl, by rw [cell_of_row _ _ _ _ _ _ h.row]; rfl, by rw [cell_of_row _ _ _ _ _ _ h.row]; rfl⟩
set_option maxRecDepth 100000 in
set_option maxHeartbeats 8000000 in
theorem lawake_any (w : World) (htz : TabZ w) : Calls Tryd.prog 27 #[] w fun e w' => e = .returned (.bool true) ∧ Below w.heap.size w w' := by
  have HTZ := Lib.hid htz
  have h1z := htz.lt
  clear htz
  have hjv : ∀ l v u, jobV (sampleJ l) v u = .agg #[v, .int .i64 1, .int .i64 2, u] := fun _ _ _ => rfl
  have HJV := Lib.hid hjv
  clear hjv
  go_enter Tryd.func27, Tryd.ntmps27
  go_wp2_with fail
  refine (sample_any [] _ _ (.inl ⟨rfl, rfl⟩)).mono ?_
  rintro e w1 ⟨⟨v1, u1, rfl, hv, hu⟩, hb1⟩
  rw [HJV.out]
  dsimp only
  have H1 := Lib.hid (And.intro hv.low9 hu.low9)
  have HB1 := Lib.hid hb1
  obtain ⟨x1, c1, rfl, _⟩ := id hv
  obtain ⟨y1, d1, rfl, _⟩ := id hu
  clear hv hu hb1
  go_wp2_with fail
  refine (lspan_any 31 33 _).mono ?_
  rintro e w2 ⟨rfl, hb⟩
  unfold spV
  dsimp only
  have H2 := Lib.hid hb
  clear hb
  go_wp2_with fail
  have hx := heap_alloc_at w2 (.cells #[.int .i64 31, .int .i64 33] 24) _ rfl
  refine (sample_any [(31, 33)] _ _ (.inr ⟨_, 31, 33, rfl, rfl, hx⟩)).mono ?_
  rintro e w3 ⟨⟨v3, u3, rfl, hv, hu⟩, hb⟩
  rw [HJV.out]
  dsimp only
  have H3 := Lib.hid (And.intro hv.low9 hu.low9)
  have HB3 := Lib.hid (HB1.out.trans ((H2.out.mono HB1.out.size).trans ((Below.alloc' _ _).mono (by have := HB1.out.size; have := H2.out.size; omega))) |>.trans (hb.mono (by have := HB1.out.size; have := H2.out.size; simp; omega)))
  have H13 := Lib.hid (H2.out.trans (((Below.alloc' _ _).mono H2.out.size).trans (hb.mono (by have := H2.out.size; simp; omega))))
  obtain ⟨x3, c3, rfl, _⟩ := id hv
  obtain ⟨y3, d3, rfl, _⟩ := id hu
  clear hv hu hb hx
  go_wp2_with fail
  refine (lspan_any 50 51 _).mono ?_
  rintro e w4 ⟨rfl, hb⟩
  unfold spV
  dsimp only
  have H4 := Lib.hid hb
  clear hb
  go_wp2_with fail
  have hx := heap_alloc_at w4 (.cells #[.int .i64 50, .int .i64 51] 24) _ rfl
  refine (sample_any [(50, 51)] _ _ (.inr ⟨_, 50, 51, rfl, rfl, hx⟩)).mono ?_
  rintro e w5 ⟨⟨v5, u5, rfl, hv, hu⟩, hb⟩
  rw [HJV.out]
  dsimp only
  have H5 := Lib.hid (And.intro hv.low9 hu.low9)
  have H35 := Lib.hid (H4.out.trans (((Below.alloc' _ _).mono H4.out.size).trans (hb.mono (by have := H4.out.size; simp; omega))))
  obtain ⟨x5, c5, rfl, _⟩ := id hv
  obtain ⟨y5, d5, rfl, _⟩ := id hu
  have hl1 : stackS.bs.length = 4 := rfl
  have hl2 : (sampleJ []).ws.length = 2 := rfl
  have hl3 : (sampleJ [(31, 33)]).ws.length = 3 := rfl
  have hl4 : (sampleJ [(50, 51)]).ws.length = 3 := rfl
  rw [hl1] at H1 H3 H5 ⊢
  rw [hl2] at H1 ⊢
  rw [hl3] at H3 ⊢
  rw [hl4] at H5 ⊢
  clear hl1 hl2 hl3 hl4 hv hu hb hx
  obtain ⟨b, hbe⟩ : ∃ x, x = w5.heap.size := ⟨_, rfl⟩
  have hs35 := H35.out.size
  have hs13 := H13.out.size
  have hO : ∀ o, o = Obj.cells #[.int .i64 5, .int .i64 4] 3 (0, 0) → ∃ W6, W6 = (((w5.alloc (.cells #[.slice x1 4 c1, .int .i64 1, .int .i64 2, .slice y1 2 d1] 28)).alloc (.cells #[.slice x3 4 c3, .int .i64 1, .int .i64 2, .slice y3 3 d3] 28)).alloc (.cells #[.slice x5 4 c5, .int .i64 1, .int .i64 2, .slice y5 3 d5] 28)).alloc o ∧
      OneJ b [] x1 c1 y1 2 d1 W6 ∧ OneJ (b + 1) [(31, 33)] x3 c3 y3 3 d3 W6 ∧ OneJ (b + 1 + 1) [(50, 51)] x5 c5 y5 3 d5 W6 ∧ W6.heap[b + 1 + 1 + 1]? = some o ∧ Below w.heap.size w W6 := by
    rintro o rfl
    refine ⟨_, rfl, ?_⟩
    have h5 : Below w5.heap.size w5 ((((w5.alloc (.cells #[.slice x1 4 c1, .int .i64 1, .int .i64 2, .slice y1 2 d1] 28)).alloc (.cells #[.slice x3 4 c3, .int .i64 1, .int .i64 2, .slice y3 3 d3] 28)).alloc (.cells #[.slice x5 4 c5, .int .i64 1, .int .i64 2, .slice y5 3 d5] 28)).alloc (.cells #[.int .i64 5, .int .i64 4] 3 (0, 0))) :=
      ((((Below.refl _ _).alloc (Nat.le_refl _) _).alloc (by simp) _).alloc (by simp <;> omega) _).alloc (by simp <;> omega) _
    have h3 : Below w3.heap.size w3 _ := H35.out.trans (h5.mono hs35)
    have h1 : Below w1.heap.size w1 _ := H13.out.trans (h3.mono hs13)
    have hB3 := HB3.out.size
    rw [hbe]
    refine ⟨⟨(by repeat (first | (refine heap_alloc_at _ _ _ ?_; (simp <;> omega); done) | (refine (hget_old _ _ _ ?_).trans ?_; · (simp <;> omega)))), (H1.out.1.later h1.size (fun k h _ => h1.block k h)).low9, (H1.out.2.later h1.size (fun k h _ => h1.block k h)).low9⟩, ⟨(by repeat (first | (refine heap_alloc_at _ _ _ ?_; (simp <;> omega); done) | (refine (hget_old _ _ _ ?_).trans ?_; · (simp <;> omega)))), (H3.out.1.later h3.size (fun k h _ => h3.block k h)).low9, (H3.out.2.later h3.size (fun k h _ => h3.block k h)).low9⟩, ⟨(by repeat (first | (refine heap_alloc_at _ _ _ ?_; (simp <;> omega); done) | (refine (hget_old _ _ _ ?_).trans ?_; · (simp <;> omega)))), (H5.out.1.later h5.size (fun k h _ => h5.block k h)).low9, (H5.out.2.later h5.size (fun k h _ => h5.block k h)).low9⟩, heap_alloc_at _ _ _ (by simp), HB3.out.trans (h3.mono (by omega))⟩
  obtain ⟨W6, hW6, o1, o3, o5, hr6, hb6⟩ := hO _ rfl
  have HAW6 := Lib.hid o1
  have HBW6 := Lib.hid o3
  have HCW6 := Lib.hid o5
  have HWW6 := Lib.hid hb6
  have HNW6 : Hid (NumsAt W6 (.slice (some ⟨b + 1 + 1 + 1, 0, none⟩) 2 2) [5, 4] (fun k => k < W6.heap.size)) := by
    refine ⟨some ⟨b + 1 + 1 + 1, 0, none⟩, 2, rfl, by decide, by decide, fun i hi => ⟨_, 0, rfl, lt_of_block hr6, lt_of_block hr6, ?_⟩⟩
    have hi4 : i < 2 := hi
    have hc : i = 0 ∨ i = 1 := by omega
    rcases hc with rfl | rfl <;> (rw [cell_of_row _ _ _ _ _ _ hr6]; rfl)
  have HWE := Lib.hid hW6
  clear hO hW6 o1 o3 o5 hr6 hb6 H1 H3 H5 H35 H13 HB1 HB3 H2 H4 hs35 hs13
  go_wp2_with fail
  rw [← HWE.out, ← hbe]
  clear HWE
  have hc := Check_any (sampleJ []) (.slice x1 4 c1) (.slice y1 2 d1) [5, 4] (.slice (some ⟨b + 1 + 1 + 1, 0, none⟩) 2 2) W6 HAW6.out.s HAW6.out.t HNW6.out (by decide)
  rw [HJV.out, val_check] at hc
  refine hc.mono ?_
  rintro e W7 ⟨rfl, hb⟩
  clear hc hbe HNW6
  dsimp only
  have HAW7 := Lib.hid (HAW6.out.later hb)
  have HBW7 := Lib.hid (HBW6.out.later hb)
  have HCW7 := Lib.hid (HCW6.out.later hb)
  have HWW7 := Lib.hid (HWW6.out.trans (hb.mono HWW6.out.size))
  clear hb
  obtain ⟨k0, k1, k2, k3⟩ := HAW7.out.cs
  go_wp2_with fail
  clear k0 k1 k2 k3
  have hc := Plan_any (sampleJ []) (.slice x1 4 c1) (.slice y1 2 d1) W7 HAW7.out.s HAW7.out.t (HTZ.out.below HWW7.out h1z)
  rw [HJV.out] at hc
  refine hc.mono ?_
  rintro e W8 ⟨pv, rfl, hpv, hb⟩
  clear hc
  rw [val_plan] at hpv ⊢
  dsimp only
  have HP8 := Lib.hid hpv
  obtain ⟨pa, pc, rfl, _⟩ := id hpv
  have hl2 : ((([8, 4] : List Nat), (0 : Int)).1.map fun s : Nat => (s : Int)).length = 2 := rfl
  rw [hl2] at HP8 ⊢
  have HAW8 := Lib.hid (HAW7.out.later hb)
  have HBW8 := Lib.hid (HBW7.out.later hb)
  have HCW8 := Lib.hid (HCW7.out.later hb)
  have HWW8 := Lib.hid (HWW7.out.trans (hb.mono HWW7.out.size))
  clear hb hpv hl2
  obtain ⟨k0, k1, k2, k3⟩ := HCW8.out.cs
  go_wp2_with fail
  clear k0 k1 k2 k3
  have hc := Alone_any (sampleJ [(50, 51)]) (.slice x5 4 c5) (.slice y5 3 d5) W8 HCW8.out.s HCW8.out.t
  rw [HJV.out, val_alone] at hc
  refine hc.mono ?_
  rintro e W9 ⟨rfl, hb⟩
  clear hc
  dsimp only
  have HP9 := Lib.hid (HP8.out.later hb.size (fun k h _ => hb.block k h))
  have HAW9 := Lib.hid (HAW8.out.later hb)
  have HBW9 := Lib.hid (HBW8.out.later hb)
  have HCW9 := Lib.hid (HCW8.out.later hb)
  have HWW9 := Lib.hid (HWW8.out.trans (hb.mono HWW8.out.size))
  clear hb
  obtain ⟨k0, k1, k2, k3⟩ := HBW9.out.cs
  go_wp2_with fail
  clear k0 k1 k2 k3
  have hc := Most_any (sampleJ [(31, 33)]) (.slice x3 4 c3) (.slice y3 3 d3) W9 HBW9.out.s HBW9.out.t (HTZ.out.below HWW9.out h1z)
  rw [HJV.out, val_most2] at hc
  refine hc.mono ?_
  rintro e W10 ⟨rfl, hb⟩
  clear hc
  dsimp only
  have HP10 := Lib.hid (HP9.out.later hb.size (fun k h _ => hb.block k h))
  have HAW10 := Lib.hid (HAW9.out.later hb)
  have HBW10 := Lib.hid (HBW9.out.later hb)
  have HCW10 := Lib.hid (HCW9.out.later hb)
  have HWW10 := Lib.hid (HWW9.out.trans (hb.mono HWW9.out.size))
  clear hb
  obtain ⟨k0, k1, k2, k3⟩ := HBW10.out.cs
  go_wp2_with fail
  clear k0 k1 k2 k3
  have hc := Why_any (sampleJ [(31, 33)]) (.slice x3 4 c3) (.slice y3 3 d3) W10 HBW10.out.s HBW10.out.t (HTZ.out.below HWW10.out h1z)
  rw [HJV.out, val_why] at hc
  refine hc.mono ?_
  rintro e W11 ⟨rfl, hb⟩
  clear hc
  dsimp only
  have HP11 := Lib.hid (HP10.out.later hb.size (fun k h _ => hb.block k h))
  have HAW11 := Lib.hid (HAW10.out.later hb)
  have HBW11 := Lib.hid (HBW10.out.later hb)
  have HCW11 := Lib.hid (HCW10.out.later hb)
  have HWW11 := Lib.hid (HWW10.out.trans (hb.mono HWW10.out.size))
  clear hb
  obtain ⟨k0, k1, k2, k3⟩ := HBW11.out.cs
  go_wp2_with fail
  clear k0 k1 k2 k3
  have hc := Rounds_any (sampleJ [(31, 33)]) (.slice x3 4 c3) (.slice y3 3 d3) W11 HBW11.out.s HBW11.out.t (HTZ.out.below HWW11.out h1z)
  rw [HJV.out] at hc
  refine hc.mono ?_
  rintro e W12 ⟨rv, rfl, hrv, hb⟩
  clear hc
  rw [val_rounds2] at hrv ⊢
  dsimp only
  have HR12 := Lib.hid hrv
  obtain ⟨ra, rc, rfl, _⟩ := id hrv
  have hl3 : ((([0, 0, 1] : List Nat), (0 : Int)).1.map fun s : Nat => (s : Int)).length = 3 := rfl
  rw [hl3] at HR12 ⊢
  have HP12 := Lib.hid (HP11.out.later hb.size (fun k h _ => hb.block k h))
  have HAW12 := Lib.hid (HAW11.out.later hb)
  have HBW12 := Lib.hid (HBW11.out.later hb)
  have HCW12 := Lib.hid (HCW11.out.later hb)
  have HWW12 := Lib.hid (HWW11.out.trans (hb.mono HWW11.out.size))
  clear hb hrv hl3
  obtain ⟨k0, k1, k2, k3⟩ := HAW12.out.cs
  go_wp2_with fail
  clear k0 k1 k2 k3
  have hc := Lend_any (sampleJ []) (.slice x1 4 c1) (.slice y1 2 d1) W12 HAW12.out.s HAW12.out.t (HTZ.out.below HWW12.out h1z)
  rw [HJV.out, val_lend] at hc
  refine hc.mono ?_
  rintro e W13 ⟨rfl, hb⟩
  clear hc
  dsimp only
  have HP13 := Lib.hid (HP12.out.later hb.size (fun k h _ => hb.block k h))
  have HR13 := Lib.hid (HR12.out.later hb.size (fun k h _ => hb.block k h))
  have HAW13 := Lib.hid (HAW12.out.later hb)
  have HBW13 := Lib.hid (HBW12.out.later hb)
  have HCW13 := Lib.hid (HCW12.out.later hb)
  have HWW13 := Lib.hid (HWW12.out.trans (hb.mono HWW12.out.size))
  clear hb
  obtain ⟨k0, k1, k2, k3⟩ := HBW13.out.cs
  go_wp2_with fail
  clear k0 k1 k2 k3
  have hc := Plan_any (sampleJ [(31, 33)]) (.slice x3 4 c3) (.slice y3 3 d3) W13 HBW13.out.s HBW13.out.t (HTZ.out.below HWW13.out h1z)
  rw [HJV.out] at hc
  refine hc.mono ?_
  rintro e W14 ⟨p2, rfl, hp2, hb⟩
  clear hc
  rw [val_plan2] at hp2 ⊢
  dsimp only
  obtain ⟨qa, qc, rfl, _⟩ := id hp2
  have HP14 := Lib.hid (HP13.out.later hb.size (fun k h _ => hb.block k h))
  have HR14 := Lib.hid (HR13.out.later hb.size (fun k h _ => hb.block k h))
  have HAW14 := Lib.hid (HAW13.out.later hb)
  have HBW14 := Lib.hid (HBW13.out.later hb)
  have HCW14 := Lib.hid (HCW13.out.later hb)
  have HWW14 := Lib.hid (HWW13.out.trans (hb.mono HWW13.out.size))
  clear hb hp2
  go_wp2_with fail
  have hr := heap_alloc_at W14 (.cells #[.int .i64 8, .int .i64 4] 3) _ rfl
  have hn : NumsAt (W14.alloc (.cells #[.int .i64 8, .int .i64 4] 3)) (.slice (some ⟨W14.heap.size, 0, none⟩) 2 2) [8, 4] (fun _ => True) := by
    refine ⟨some ⟨W14.heap.size, 0, none⟩, 2, rfl, by decide, by decide, fun i hi => ⟨_, 0, rfl, trivial, lt_of_block hr, ?_⟩⟩
    have hi4 : i < 2 := hi
    have hc : i = 0 ∨ i = 1 := by omega
    rcases hc with rfl | rfl <;> (rw [cell_of_row _ _ _ _ _ _ hr]; rfl)
  refine (r12ints_any [8, 4] [8, 4] _ _ _ _ (by decide) (by decide) _ (HP14.out.later (by simp) (fun k h _ => hget_old _ _ _ (by omega))) hn).mono ?_
  rintro e W15 ⟨rfl, hb⟩
  simp only [decide_true]
  have HW15 := Lib.hid ((HWW14.out.alloc HWW14.out.size _).trans (hb.mono (by have := HWW14.out.size; simp; omega)))
  have HR15 := Lib.hid ((HR14.out.later (W := W14.alloc (.cells #[.int .i64 8, .int .i64 4] 3)) (by simp) (fun k h _ => hget_old _ _ _ (by omega))).later hb.size (fun k h _ => hb.block k h))
  clear hn hr hb
  go_wp2_with fail
  have hr := heap_alloc_at W15 (.cells #[.int .i64 0, .int .i64 0, .int .i64 1] 3) _ rfl
  have hn : NumsAt (W15.alloc (.cells #[.int .i64 0, .int .i64 0, .int .i64 1] 3)) (.slice (some ⟨W15.heap.size, 0, none⟩) 3 3) [0, 0, 1] (fun _ => True) := by
    refine ⟨some ⟨W15.heap.size, 0, none⟩, 3, rfl, by decide, by decide, fun i hi => ⟨_, 0, rfl, trivial, lt_of_block hr, ?_⟩⟩
    have hi4 : i < 3 := hi
    have hc : i = 0 ∨ i = 1 ∨ i = 2 := by omega
    rcases hc with rfl | rfl | rfl <;> (rw [cell_of_row _ _ _ _ _ _ hr]; rfl)
  refine (r12ints_any [0, 0, 1] [0, 0, 1] _ _ _ _ (by decide) (by decide) _ (HR15.out.later (by simp) (fun k h _ => hget_old _ _ _ (by omega))) hn).mono ?_
  rintro e W16 ⟨rfl, hb⟩
  simp only [decide_true]
  have HW16 := Lib.hid ((HW15.out.alloc HW15.out.size _).trans (hb.mono (by have := HW15.out.size; simp; omega)))
  clear hn hr hb
  go_wp2
  go_ret
  exact ⟨rfl, HW16.out⟩
end Go.Proofs.YtbmfphiecllggaaDoor

/- The statements about jobs: truths, plans and sets by numbers. -/
namespace Go.Proofs.YtbmfphiecllggaaDoor
set_option linter.unusedVariables false
set_option linter.unusedSimpArgs false
open Go.RowKit Go.Shelf
attribute [local go_sem] Oper.semAt_some

theorem bit1_i64 : ∀ n : Fin 8, ∀ s : Fin 256, (bits BinOp.and IntKind.i64 ((s.val : Int) / 2 ^ n.val) 1 == 1) = s.val.testBit n.val := by decide +kernel
theorem SpansAt.mono9 {W : World} {v : Value} {l : List (Int × Int)} {Rd Rd' : Nat → Prop} (h : SpansAt W v l Rd) (hr : ∀ k, k < W.heap.size → Rd k → Rd' k) : SpansAt W v l Rd' := by
  obtain ⟨a, c, g1, g2, g3, g4⟩ := h
  exact ⟨a, c, g1, g2, g3, fun q hq => by obtain ⟨b, off, f1, f2, f3, f4⟩ := g4 q hq; exact ⟨b, off, f1, hr b f3 f2, f3, f4⟩⟩
theorem NumsAt.low9 {W : World} {v : Value} {l : List Int} {Rd : Nat → Prop} (h : NumsAt W v l Rd) : NumsAt W v l (fun k => k < W.heap.size) := by
  obtain ⟨a, c, g1, g2, g3, g4⟩ := h
  exact ⟨a, c, g1, g2, g3, fun q hq => by obtain ⟨b, off, f1, f2, f3, f4⟩ := g4 q hq; exact ⟨b, off, f1, f3, f3, f4⟩⟩
set_option maxRecDepth 100000 in
set_option maxHeartbeats 4000000 in
theorem ldraw_any (l : List Int) (b1 b2 B K : Nat) (v : Value) (lo hi : Int) (hb : 0 ≤ lo ∧ lo ≤ hi ∧ hi ≤ 5000) (hK : K ≤ 100000) (w : World) (hd : DrawJ .u8 49 l b1 b2 B v K w) :
    Calls Tryd.prog 73 #[.agg #[.int .i64 lo, .int .i64 hi], .pointer (some ⟨b1, 0, none⟩), .pointer (some ⟨b2, 0, none⟩)] w (DrawnR lo hi fun w' => DrawJ .u8 49 l b1 b2 B v (K + 1) w' ∧ Keeps (fun k => k = b1) w w') := by
  obtain ⟨hb1, hb2, hb3⟩ := hb
  obtain ⟨⟨k, hk, h1⟩, h2, hus, hne, hl1, hl2⟩ := hd
  obtain ⟨ao, cap, rfl, hlc, hcm, hel⟩ := id hus
  unfold maxLen at hcm
  have hs1 := lt_of_block h1
  have hs2 := lt_of_block h2
  obtain ⟨W1, hW1⟩ : ∃ W1, W1 = (w.setCell ⟨b1, 0, none⟩ (.int .i64 ((k : Int) + 1))).alloc (.cells #[.int .i64 lo, .int .i64 hi] 24 (0, 0)) := ⟨_, rfl⟩
  have c1 : ∀ o, (w.alloc o).cell? ⟨b1, 0, none⟩ = some (.int .i64 k) := fun o => cell_of_row _ _ 0 _ _ _ ((hget_old _ _ _ (by omega)).trans h1)
  have c3 : ∀ j o, (w.alloc o).frozen? ⟨b1, j, none⟩ = false := fun j o => frozen_of_row _ _ _ _ _ ((hget_old _ _ _ (by omega)).trans h1)
  have k1 : W1.heap[b1]? = some (.cells #[.int .i64 ((k + 1 : Nat) : Int)] 3 (0, 0)) := by
    rw [hW1]
    refine (hget_old _ _ _ (by simp [World.setCell]; omega)).trans ?_
    simp [World.setCell, Array.getElem?_modify, h1]
  have kk : Keeps (fun k => k = b1) w W1 := by rw [hW1]; exact (Keeps.setCell (Mut := fun k => k = b1) _ _ _ rfl).trans (Keeps.alloc _ _ _)
  have k4 : W1.heap[w.heap.size]? = some (.cells #[.int .i64 lo, .int .i64 hi] 24 (0, 0)) := by rw [hW1]; exact heap_alloc_at _ _ _ (by simp [World.setCell])
  have k2 : W1.heap[b2]? = some (.cells #[.slice ao l.length cap] 49 (0, 0)) := (kk.block _ hs2 hne).trans h2
  have k3 : SmallAt .u8 W1 (.slice ao l.length cap) l (fun k => k ≠ b1 ∧ k < B) := hus.later kk.size (fun k hk hr => kk.block k hk hr.1)
  have hst : Hid (∀ n, DrawJ .u8 49 l b1 b2 B (.slice ao l.length cap) (K + 1) (W1.drewN n) ∧ Keeps (fun k => k = b1) w (W1.drewN n)) := fun n => ⟨⟨⟨k + 1, by omega, k1⟩, k2, k3, hne, hl1, hl2⟩, ⟨kk.os, kk.tape, kk.output, kk.size, kk.block⟩⟩
  have d1 : W1.cell? ⟨b1, 0, none⟩ = some (.int .i64 ((k : Int) + 1)) := by rw [cell_of_row _ _ 0 _ _ _ k1]; simp
  have d2 : W1.cell? ⟨b2, 0, none⟩ = some (.slice ao l.length cap) := cell_of_row _ _ 0 _ _ _ k2
  have d3 : W1.cell? ⟨w.heap.size, 0, none⟩ = some (.int .i64 lo) := by rw [cell_of_row _ _ 0 _ _ _ k4]; rfl
  have d4 : W1.cell? ⟨w.heap.size, 1, none⟩ = some (.int .i64 hi) := by rw [cell_of_row _ _ 1 _ _ _ k4]; rfl
  have hz : (hi - lo + 1 == 0) = false := by rw [beq_eq_false_iff_ne]; omega
  have HW1 := Lib.hid hW1
  have hwk : IntKind.i64.wrap ((k : Int) + 1) = (k : Int) + 1 := IntWalk.i64_in _ (by omega)
  rcases Nat.eq_zero_or_pos l.length with h0 | h0
  · have hb : (((l.length : Nat) : Int) == 0) = true := by rw [beq_iff_eq]; omega
    rw [hW1] at d1 d2 d3 d4
    clear hel hus k1 k2 k3 k4 kk hW1 h1 h2 h0
    go_enter Tryd.func73, Tryd.ntmps73
    go_wp2_with fail
    rw [← HW1.out]
    go_ret
    exact ⟨_, Int.le_refl _, hb2, rfl, hst.out 0⟩
  · have hb : (((l.length : Nat) : Int) == 0) = false := by rw [beq_eq_false_iff_ne]; omega
    obtain ⟨r, hr⟩ : ∃ r : Nat, ((k : Int) + 1) % (l.length : Int) = r := ⟨(((k : Int) + 1) % (l.length : Int)).toNat, by have := Int.emod_nonneg ((k : Int) + 1) (b := (l.length : Int)) (by omega); omega⟩
    have hrl : r < l.length := by have := Int.emod_lt_of_pos ((k : Int) + 1) (b := (l.length : Int)) (by omega); omega
    obtain ⟨ao', cap', e', _, _, hel1⟩ := id k3
    cases e'
    obtain ⟨⟨u1, u2⟩, b, off, rfl, hbb, hbs, hc⟩ := hel1 r hrl
    generalize l[r] = u at *
    have hw2 : IntKind.i64.wrap (37 * ((k : Int) + 1)) = 37 * ((k : Int) + 1) := IntWalk.i64_in _ (by omega)
    have hw3 : IntKind.i64.wrap (u + 37 * ((k : Int) + 1)) = u + 37 * ((k : Int) + 1) := IntWalk.i64_in _ (by omega)
    have hw4 : IntKind.i64.wrap (hi - lo) = hi - lo := IntWalk.i64_in _ (by omega)
    have hw5 : IntKind.i64.wrap (hi - lo + 1) = hi - lo + 1 := IntWalk.i64_in _ (by omega)
    have hes := emod_span (n := u + 37 * ((k : Int) + 1)) hb2
    have hw6 : IntKind.i64.wrap (lo + (u + 37 * ((k : Int) + 1)) % (hi - lo + 1)) = lo + (u + 37 * ((k : Int) + 1)) % (hi - lo + 1) := IntWalk.i64_in _ (by omega)
    have h83 : 0 ≤ u + 37 * ((k : Int) + 1) := by omega
    have hrr : 0 ≤ (k : Int) + 1 := by omega
    have HES := Lib.hid hes
    rw [hW1] at d1 d2 d3 d4 hc
    clear hel hel1 hus k1 k2 k3 k4 kk hW1 h1 h2 h0 hes
    go_enter Tryd.func73, Tryd.ntmps73
    go_wp2_with fail
    go_quiet (fail)
    go_wp2
    rw [← HW1.out]
    go_ret
    exact ⟨_, HES.out.1, HES.out.2, rfl, hst.out nq⟩
set_option maxHeartbeats 4000000 in
theorem ldraws_any (l : List Int) (v : Value) (w : World) (h : SmallAt .u8 w v l (fun k => k < w.heap.size)) :
    Calls Tryd.prog 28 #[v] w fun e w' => e = .returned (.func (.func 73) #[] #[.pointer (some ⟨w.heap.size + 1, 0, none⟩), .pointer (some ⟨w.heap.size, 0, none⟩)]) ∧ w'.heap.size = w.heap.size + 2 ∧ DrawJ .u8 49 l (w.heap.size + 1) w.heap.size (w.heap.size + 2) v 0 w' ∧ Below w.heap.size w w' := by
  have H := Lib.hid h
  obtain ⟨ao, cap, rfl, _⟩ := id h
  clear h
  obtain ⟨n, hn⟩ : ∃ n, n = l.length := ⟨_, rfl⟩
  rw [← hn] at H ⊢
  have HN := Lib.hid hn
  clear hn
  have hmf : ∀ (fn : Fn) (first cap : Array Value) (w : World), (Instr.makeFunc fn first cap).run Tryd.prog w = .ok (.func fn first cap) w := fun _ _ _ _ => rfl
  go_enter Tryd.func28, Tryd.ntmps28
  go_wp2
  go_ret
  refine ⟨rfl, by simp, ⟨⟨0, Nat.le_refl _, heap_alloc_at _ _ _ (by simp)⟩, (hget_old _ _ _ (by simp)).trans (heap_alloc_at _ _ _ rfl), ?_, by omega, by omega, by omega⟩, ((Below.refl _ _).alloc (Nat.le_refl _) _).alloc (by simp) _⟩
  rw [HN.out] at H ⊢
  exact (H.out.later (by simp <;> omega) (fun k h1 h2 => (hget_old _ _ _ (by simp; omega)).trans (hget_old _ _ _ (by omega)))).mono (fun k h1 h2 => ⟨by omega, by omega⟩)
set_option maxRecDepth 100000 in
set_option maxHeartbeats 4000000 in
/-- Whether the wants of a set can be met at once, by what is told. -/
theorem lcan_any (j : JobD) (hv : validJb j = true) (set : Nat) (hset : set < 256) (bs ws : Value) (w : World) (hbs : SpansAt w bs j.st.bs (fun k => k < w.heap.size)) (hws : SpansAt w ws j.ws (fun k => k < w.heap.size)) (htz : TabZ w) :
    Calls Tryd.prog 37 #[jobV j bs ws, .int .i64 set] w fun e w' => e = .returned (.bool (canD j set)) ∧ Below w.heap.size w w' := by
  have HBS := Lib.hid hbs
  have HWS := Lib.hid hws
  have HTZ := Lib.hid htz
  have HV := Lib.hid hv
  have h1z := htz.lt
  obtain ⟨ao, cap, rfl, _⟩ := id hbs
  obtain ⟨ao2, cap2, rfl, _⟩ := id hws
  obtain ⟨nb, hnb⟩ : ∃ n, n = j.st.bs.length := ⟨_, rfl⟩
  obtain ⟨nw, hnw⟩ : ∃ n, n = j.ws.length := ⟨_, rfl⟩
  rw [← hnb] at HBS
  rw [← hnw] at HWS
  have HNB := Lib.hid hnb
  have HNW := Lib.hid hnw
  have hjv : jobV j (.slice ao nb cap) (.slice ao2 nw cap2) = .agg #[.slice ao nb cap, .int .i64 j.st.film.1, .int .i64 j.st.film.2, .slice ao2 nw cap2] := rfl
  rw [← hnb, ← hnw, hjv]
  have HJV := Lib.hid hjv
  have hb0 := Below.alloc' w (.cells #[.slice ao nb cap, .int .i64 j.st.film.1, .int .i64 j.st.film.2, .slice ao2 nw cap2] 28)
  have HB0 := Lib.hid hb0
  clear hbs hws htz hnb hnw hjv hb0 hv
  go_enter Tryd.func37, Tryd.ntmps37
  go_wp2_with fail
  have hc := r12only_any j (by have := (validJb_parts HV.out).2.1; omega) set hset (.slice ao nb cap) (.slice ao2 nw cap2) _ ⟨_, _, _, rfl⟩ (HWS.out.later HB0.out.size (fun k h1 _ => HB0.out.block k h1)).low9
  rw [HJV.out] at hc
  refine hc.mono ?_
  rintro e w1 ⟨⟨wv, rfl, hwv⟩, hb1⟩
  clear hc
  dsimp only
  obtain ⟨a5, c5, rfl, _⟩ := id hwv
  obtain ⟨nx, hnx⟩ : ∃ n, n = (onlyD j set).ws.length := ⟨_, rfl⟩
  rw [← hnx] at hwv ⊢
  have HWV := Lib.hid hwv.low9
  have hjx : jobV (onlyD j set) (.slice ao nb cap) (.slice a5 nx c5) = .agg #[.slice ao nb cap, .int .i64 j.st.film.1, .int .i64 j.st.film.2, .slice a5 nx c5] := rfl
  rw [hjx]
  have HJX := Lib.hid hjx
  have HB1 := Lib.hid (HB0.out.trans (hb1.mono HB0.out.size))
  clear hwv hjx hb1 hnx
  go_wp2_with fail
  have hc := Plan_any (onlyD j set) (.slice ao nb cap) (.slice a5 nx c5) w1 (HBS.out.later HB1.out.size (fun k h1 _ => HB1.out.block k h1)).low9 HWV.out (HTZ.out.below HB1.out h1z)
  rw [HJX.out] at hc
  refine hc.mono ?_
  rintro e w2 ⟨pv, rfl, hpv, hb2⟩
  clear hc
  dsimp only
  obtain ⟨a6, c6, rfl, _⟩ := id hpv
  obtain ⟨pe, hpe⟩ : ∃ x, x = (planD (onlyD j set)).2 := ⟨_, rfl⟩
  rw [← hpe]
  have HB2 := Lib.hid (HB1.out.trans (hb2.mono HB1.out.size))
  have hvx := valid_only HV.out set
  have hval : decide (pe = 0) = canD j set := by
    rw [hpe, ← can_only]
    cases hc : canD (onlyD j set) (everyD (onlyD j set)) with
    | true => rw [planD_can hvx hc]; rfl
    | false => rw [planD_cannot hvx hc]; rfl
  have HVAL := Lib.hid hval
  clear hpv hb2 hval hvx hpe
  by_cases h0 : pe = 0
  · subst h0
    have hv2 := HVAL.out
    rw [decide_eq_true rfl] at hv2
    have HV2 := Lib.hid hv2
    clear hv2
    go_wp2
    go_ret
    exact ⟨by rw [← HV2.out]; rfl, HB2.out⟩
  · have hv2 := HVAL.out
    rw [decide_eq_false h0] at hv2
    have HV2 := Lib.hid hv2
    have hpe0 : (pe == 0) = false := by simp [h0]
    clear hv2
    go_wp2
    go_ret
    exact ⟨by rw [← HV2.out]; rfl, HB2.out⟩
/-- What 'made' comes to: no blocks, or a list of as many sets as wants. -/
def MadeJ (j : JobD) (w : World) (e : Ending) (w' : World) : Prop :=
  (j.st.bs.length = 0 ∧ e = .returned (.tuple #[.slice none 0 0, .bool (decide (j.ws.length = 0))]) ∧ Below w.heap.size w w') ∨
  (j.st.bs.length ≠ 0 ∧ ∃ (l : List Nat) (v : Value), l.length = j.ws.length ∧ (∀ s ∈ l, 1 ≤ s ∧ s < 2 ^ j.st.bs.length) ∧ e = .returned (.tuple #[v, .bool true]) ∧ NumsAt w' v (l.map fun s : Nat => (s : Int)) (fun k => w.heap.size ≤ k) ∧ Below w.heap.size w w')
theorem one_mod {n a : Int} (ha : 1 ≤ a) (hn : 0 ≤ n) : 1 ≤ 1 + n % a ∧ 1 + n % a ≤ a := by
  have h1 := Int.emod_nonneg n (b := a) (by omega)
  have h2 := Int.emod_lt_of_pos n (b := a) (by omega)
  omega
set_option maxRecDepth 100000 in
set_option maxHeartbeats 4000000 in
theorem made_any (j : JobD) (hv : validJb j = true) (l : List Int) (v : Value) (bs ws : Value) (w : World) (hbs : SpansAt w bs j.st.bs (fun k => k < w.heap.size)) (hws : SpansAt w ws j.ws (fun k => k < w.heap.size)) (hus : SmallAt .u8 w v l (fun k => k < w.heap.size)) :
    Calls Tryd.prog 31 #[jobV j bs ws, v] w (MadeJ j w) := by
  have HUS := Lib.hid hus
  obtain ⟨ao, cap, rfl, _⟩ := id hbs
  obtain ⟨ao2, cap2, rfl, _⟩ := id hws
  obtain ⟨ao3, cap3, rfl, _⟩ := id hus
  obtain ⟨nb, hnb⟩ : ∃ n, n = j.st.bs.length := ⟨_, rfl⟩
  obtain ⟨nw, hnw⟩ : ∃ n, n = j.ws.length := ⟨_, rfl⟩
  obtain ⟨nu, hnu⟩ : ∃ n, n = l.length := ⟨_, rfl⟩
  have hnb8 : nb ≤ 8 := by rw [hnb]; exact (validSt_parts (validJb_parts hv).1).1
  have hnw4 : nw ≤ 4 := by rw [hnw]; exact (validJb_parts hv).2.1
  rw [← hnu] at HUS
  have HNB := Lib.hid hnb
  have HNW := Lib.hid hnw
  have HNU := Lib.hid hnu
  have hjv : jobV j (.slice ao nb cap) (.slice ao2 nw cap2) = .agg #[.slice ao nb cap, .int .i64 j.st.film.1, .int .i64 j.st.film.2, .slice ao2 nw cap2] := rfl
  rw [← hnb, ← hnw, ← hnu, hjv]
  have HJV := Lib.hid hjv
  unfold MadeJ
  rw [← hnb, ← hnw]
  have hb0 := Below.alloc' w (.cells #[.slice ao nb cap, .int .i64 j.st.film.1, .int .i64 j.st.film.2, .slice ao2 nw cap2] 28)
  have HB0 := Lib.hid hb0
  have HR0 := Lib.hid (heap_alloc_at w (.cells #[.slice ao nb cap, .int .i64 j.st.film.1, .int .i64 j.st.film.2, .slice ao2 nw cap2] 28) _ rfl)
  clear hbs hws hus hnb hnw hnu hjv hb0 hv
  go_enter Tryd.func31, Tryd.ntmps31
  by_cases h0 : nb = 0
  · have h0i : ((nb : Int) == 0) = true := by rw [beq_iff_eq]; omega
    have h0j : (nb : Int) = 0 := by omega
    have HN0 := Lib.hid h0
    clear h0
    go_wp2_with fail
    go_quiet (fail)
    have hbn : ∀ n, Below w.heap.size w ((w.alloc (.cells #[.slice ao nb cap, .int .i64 j.st.film.1, .int .i64 j.st.film.2, .slice ao2 nw cap2] 28)).drewN n) := fun n => ⟨HB0.out.os, HB0.out.tape, HB0.out.output, HB0.out.size, HB0.out.block⟩
    have HBN := Lib.hid hbn
    clear hbn
    have hbq : ((nw : Int) == 0) = decide (nw = 0) := by
      rw [Bool.eq_iff_iff]; simp
    have HBQ := Lib.hid hbq
    clear hbq
    go_wp2
    exact bodyPost_ret (v := .tuple #[.slice none 0 0, .bool ((nw : Int) == 0)]) (by simp [results, Tryd.results31, go_sem]) rfl (.inl ⟨HN0.out, by rw [← HBQ.out], HBN.out _⟩)
  · have h0i : ¬ (nb : Int) = 0 := by omega
    have HN0 := Lib.hid h0
    have h1nb : 1 ≤ nb := by omega
    clear h0
    go_wp2_with fail
    refine wp_name (fun W => W.heap[w.heap.size]? = some (.cells #[.slice ao nb cap, .int .i64 j.st.film.1, .int .i64 j.st.film.2, .slice ao2 nw cap2] 28 (0, 0)) ∧ Below w.heap.size w W) ⟨HR0.out, HB0.out⟩ ?_
    rintro W0 ⟨hr0, hb0⟩
    have HI := Lib.hid (And.intro hr0 hb0)
    clear hr0 hb0 HR0 HB0
    have hp8 : 2 ^ nb ≤ 256 := (Nat.pow_le_pow_right (by decide) hnb8 : _ ≤ 2 ^ 8)
    have hp2 : 2 ≤ 2 ^ nb := (Nat.pow_le_pow_right (by decide) h1nb : 2 ^ 1 ≤ _)
    obtain ⟨A, hA⟩ : ∃ A, A = 2 ^ nb - 1 := ⟨_, rfl⟩
    have hA1 : 1 ≤ A ∧ A ≤ 255 := by omega
    have HA := Lib.hid (show A = allD j by unfold allD; rw [← HNB.out]; exact hA)
    have HAP := Lib.hid (show A + 1 = 2 ^ nb by omega)
    clear hA hp8 hp2
    go_loopw [4, 20] (fun lv iv wr => ∃ (i : Nat) (xs : List Nat), i ≤ nw ∧ iv = .int .i64 i ∧ xs.length = i ∧ (∀ s ∈ xs, 1 ≤ s ∧ s < 2 ^ nb) ∧ wr.ownsRow (w.heap.size + 1) 3 1 lv i ((xs.map fun s : Nat => (s : Int)).map (Value.int .i64)) ∧ wr.heap[w.heap.size]? = some (.cells #[.slice ao nb cap, .int .i64 j.st.film.1, .int .i64 j.st.film.2, .slice ao2 nw cap2] 28 (0, 0)) ∧ Below w.heap.size w wr) (fun _ iv _ => nw - (intOf iv).toNat)
    case atStart => exact ⟨0, [], Nat.zero_le _, rfl, rfl, by simp, World.ownsRow_nil _ _ _ _, HI.out.1, HI.out.2⟩
    case round =>
      obtain ⟨i, xs, hi, rfl, hxl, hxs, hown, hrow, hb⟩ := hrel
      have HXL := Lib.hid hxl
      have HXS := Lib.hid hxs
      have HOWN := Lib.hid hown
      have HROW := Lib.hid hrow
      have HB := Lib.hid hb
      have hws := lt_of_block hrow
      have c0 : wr.cell? ⟨w.heap.size, 0, none⟩ = some (.slice ao nb cap) := by rw [cell_of_row _ _ _ _ _ _ hrow]; rfl
      have c1 : wr.cell? ⟨w.heap.size, 1, none⟩ = some (.int .i64 j.st.film.1) := by rw [cell_of_row _ _ _ _ _ _ hrow]; rfl
      have c2 : wr.cell? ⟨w.heap.size, 2, none⟩ = some (.int .i64 j.st.film.2) := by rw [cell_of_row _ _ _ _ _ _ hrow]; rfl
      have c3 : wr.cell? ⟨w.heap.size, 3, none⟩ = some (.slice ao2 nw cap2) := by rw [cell_of_row _ _ _ _ _ _ hrow]; rfl
      clear hxl hxs hown hrow hb
      by_cases hlt : i < nw
      · have hw : IntKind.i64.wrap ((i : Int) + 1) = ((i + 1 : Nat) : Int) := by rw [IntWalk.i64_in _ (by omega)]; omega
        have hlti : (i : Int) < (nw : Int) := by omega
        have hzA : ((A : Int) == 0) = false := by rw [beq_eq_false_iff_ne]; omega
        by_cases hu : nu = 0
        · have hui : ¬ 0 < (nu : Int) := by omega
          have HU := Lib.hid hu
          clear hu
          go_wp2_with fail
          have hc := levery_any j nb cap ao (.slice ao2 nw cap2) HNB.out hnb8 wr
          rw [HJV.out, ← HA.out] at hc
          refine hc.mono ?_
          rintro e w5 ⟨rfl, hb5⟩
          clear hc c0 c1 c2 c3
          dsimp only
          have hom := one_mod (n := (0 : Int)) (a := (A : Int)) (by omega) (by omega)
          obtain ⟨m, hm⟩ : ∃ m : Nat, (m : Int) = 1 + (0 : Int) % (A : Int) := ⟨(1 + (0 : Int) % (A : Int)).toNat, by omega⟩
          have hwm : IntKind.i64.wrap (1 + (0 : Int) % (A : Int)) = (m : Int) := by rw [IntWalk.i64_in _ (by omega)]; omega
          have hu0 : 0 ≤ (0 : Int) := by omega
          have hown5 : w5.ownsRow (w.heap.size + 1) 3 1 u4 i ((xs.map fun s : Nat => (s : Int)).map (Value.int .i64)) := own_block HOWN.out (fun k e => hb5.block k (HOWN.out.lt k e).2)
          have H5 := Lib.hid (And.intro hown5 (And.intro ((hb5.block _ hws).trans HROW.out) (HB.out.trans (hb5.mono HB.out.size))))
          have hs5 := hb5.size
          have HM1 := Lib.hid (show (0 : Int) = 0 → m = 1 from fun h => by rw [h] at hm; simp at hm; omega)
          have HM := Lib.hid (show 1 ≤ m ∧ m < 2 ^ nb by have := HAP.out; omega)
          clear hown5 hb5 hm hom
          go_wp2_with (first | (refine wpList_append_here rfl (.tmp 34) (.tmp 40) 32 rfl (w.heap.size + 1) 3 1 8 _ underInts infoInt rfl (by decide) u4 i _ rfl (own_block H5.out.1 (fun k e => Below.heap_alloc _ _ _ (H5.out.1.lt k e).2)) w5.heap.size 1 #[.int .i64 1] 3 (0, 0) rfl (heap_alloc_at _ _ _ rfl) rfl (by simp [Value.oneCell']) (by omega) (by decide) (by simp <;> omega) ?_))
          intro v7 W7 hown7 hg7 hat7
          have hk7 := keeps_grown hg7
          have hob : ∀ k, u4.ownBlock = some k → w.heap.size + 1 ≤ k := fun k e => (H5.out.1.lt k e).1
          have hk57 : Keeps (fun k => u4.ownBlock = some k) w5 W7 := (Keeps.alloc (fun k => u4.ownBlock = some k) _ _).trans hk7
          have hr7 := (hk57.block _ (by omega) (fun e => by have := hob _ e; omega)).trans H5.out.2.1
          have hb7 := H5.out.2.2.trans (hk57.below H5.out.2.2.size (fun k h e => by have := hob _ e; omega))
          have H7 := Lib.hid (And.intro hown7 (And.intro hr7 hb7))
          clear hown7 hg7 hat7 hk7 hob hk57 hr7 hb7
          go_wp2_with fail
          refine ⟨⟨i + 1, xs ++ [m], hlt, by push_cast; rfl, by rw [List.length_append, HXL.out]; rfl, fun s hs => ?_, by have h7 := H7.out.1; first | (simpa using h7) | (rw [HM1.out trivial]; simpa using h7) | (rw [HM1.out rfl]; simpa using h7), H7.out.2.1, H7.out.2.2⟩, by simp [intOf]; omega⟩
          rcases List.mem_append.1 hs with hs | hs
          · exact HXS.out s hs
          · rw [List.mem_singleton.1 hs]; exact HM.out
        · have hui : 0 < (nu : Int) := by omega
          have hzu : ((nu : Int) == 0) = false := by rw [beq_eq_false_iff_ne]; omega
          have hi0 : 0 ≤ (i : Int) := by omega
          obtain ⟨r, hr⟩ : ∃ r : Nat, (i : Int) % (nu : Int) = r := ⟨((i : Int) % (nu : Int)).toNat, by have := Int.emod_nonneg (i : Int) (b := (nu : Int)) (by omega); omega⟩
          have hrl : r < l.length := by have := Int.emod_lt_of_pos (i : Int) (b := (nu : Int)) (by omega); rw [← HNU.out]; omega
          have hrn : (r : Int) < (nu : Int) := by rw [HNU.out]; omega
          obtain ⟨a9, c9, e9, _, _, hel⟩ := HUS.out
          injection e9 with e1 e2 e3
          subst e1 e3
          clear e2
          obtain ⟨⟨u1, u2⟩, b, off, rfl, hbw, _, ec⟩ := hel r hrl
          have ec := (World.cell?_of_block (w := w) (w' := wr) (a := ⟨b, off + r, none⟩) (HB.out.block b hbw)).trans ec
          obtain ⟨u, hue⟩ : ∃ u, u = l[r] := ⟨_, rfl⟩
          rw [← hue] at ec u1 u2
          have hcu : IntKind.i64.wrap u = u := IntWalk.i64_in _ (by omega)
          clear hu hue hel
          go_wp2_with fail
          clear hr ec
          have hc := levery_any j nb cap ao (.slice ao2 nw cap2) HNB.out hnb8 wr
          rw [HJV.out, ← HA.out] at hc
          refine hc.mono ?_
          rintro e w5 ⟨rfl, hb5⟩
          clear hc c0 c1 c2 c3
          dsimp only
          have hom := one_mod (n := (u : Int)) (a := (A : Int)) (by omega) (by omega)
          obtain ⟨m, hm⟩ : ∃ m : Nat, (m : Int) = 1 + (u : Int) % (A : Int) := ⟨(1 + (u : Int) % (A : Int)).toNat, by omega⟩
          have hwm : IntKind.i64.wrap (1 + (u : Int) % (A : Int)) = (m : Int) := by rw [IntWalk.i64_in _ (by omega)]; omega
          have hu0 : 0 ≤ (u : Int) := by omega
          have hown5 : w5.ownsRow (w.heap.size + 1) 3 1 u4 i ((xs.map fun s : Nat => (s : Int)).map (Value.int .i64)) := own_block HOWN.out (fun k e => hb5.block k (HOWN.out.lt k e).2)
          have H5 := Lib.hid (And.intro hown5 (And.intro ((hb5.block _ hws).trans HROW.out) (HB.out.trans (hb5.mono HB.out.size))))
          have hs5 := hb5.size
          have HM1 := Lib.hid (show (u : Int) = 0 → m = 1 from fun h => by rw [h] at hm; simp at hm; omega)
          have HM := Lib.hid (show 1 ≤ m ∧ m < 2 ^ nb by have := HAP.out; omega)
          clear hown5 hb5 hm hom
          go_wp2_with (first | (refine wpList_append_here rfl (.tmp 34) (.tmp 40) 32 rfl (w.heap.size + 1) 3 1 8 _ underInts infoInt rfl (by decide) u4 i _ rfl (own_block H5.out.1 (fun k e => Below.heap_alloc _ _ _ (H5.out.1.lt k e).2)) w5.heap.size 1 #[.int .i64 m] 3 (0, 0) rfl (heap_alloc_at _ _ _ rfl) rfl (by simp [Value.oneCell']) (by omega) (by decide) (by simp <;> omega) ?_))
          intro v7 W7 hown7 hg7 hat7
          have hk7 := keeps_grown hg7
          have hob : ∀ k, u4.ownBlock = some k → w.heap.size + 1 ≤ k := fun k e => (H5.out.1.lt k e).1
          have hk57 : Keeps (fun k => u4.ownBlock = some k) w5 W7 := (Keeps.alloc (fun k => u4.ownBlock = some k) _ _).trans hk7
          have hr7 := (hk57.block _ (by omega) (fun e => by have := hob _ e; omega)).trans H5.out.2.1
          have hb7 := H5.out.2.2.trans (hk57.below H5.out.2.2.size (fun k h e => by have := hob _ e; omega))
          have H7 := Lib.hid (And.intro hown7 (And.intro hr7 hb7))
          clear hown7 hg7 hat7 hk7 hob hk57 hr7 hb7
          go_wp2_with fail
          refine ⟨⟨i + 1, xs ++ [m], hlt, by push_cast; rfl, by rw [List.length_append, HXL.out]; rfl, fun s hs => ?_, by have h7 := H7.out.1; first | (simpa using h7) | (rw [HM1.out trivial]; simpa using h7) | (rw [HM1.out rfl]; simpa using h7), H7.out.2.1, H7.out.2.2⟩, by simp [intOf]; omega⟩
          rcases List.mem_append.1 hs with hs | hs
          · exact HXS.out s hs
          · rw [List.mem_singleton.1 hs]; exact HM.out
      · have hin : nw = i := by omega
        subst hin
        have hlti : ¬ (nw : Int) < (nw : Int) := by omega
        have hnum := nums_of_own (show nw = (xs.map fun s : Nat => (s : Int)).length by rw [List.length_map, HXL.out]) HOWN.out
        obtain ⟨av, cv, hve, _⟩ := id hnum
        subst hve
        have HNUM := Lib.hid hnum
        clear hnum
        go_wp2
        exact bodyPost_ret (v := .tuple #[_, .bool true]) (by simp [results, Tryd.results31, go_sem]) rfl (.inr ⟨HN0.out, xs, HXL.out, HXS.out, _, rfl, HNUM.out.mono (fun k h => by omega), HB.out⟩)
end Go.Proofs.YtbmfphiecllggaaDoor

/- JobTrue: each stack of a right plan truly is as long as is wanted, and none has a block of another one. -/
namespace Go.Proofs.YtbmfphiecllggaaDoor
set_option linter.unusedVariables false
set_option linter.unusedSimpArgs false
open Go.RowKit Go.Shelf
attribute [local go_sem] Oper.semAt_some

theorem bit0_i64 : ∀ n : Fin 8, ∀ s : Fin 256, (bits BinOp.and IntKind.i64 ((s.val : Int) / 2 ^ n.val) 1 == 0) = !(s.val.testBit n.val) := by decide +kernel
theorem ofInt_i64 (a : Nat) (ha : a < 4611686018427387904) : (BitVec.ofInt 64 (a : Int)).toNat = a := by
  rw [BitVec.ofInt_natCast, BitVec.toNat_ofNat]; exact Nat.mod_eq_of_lt (by omega)
theorem and_i64 (a b : Nat) (ha : a < 4611686018427387904) (hb : b < 4611686018427387904) : bits .and .i64 (a : Int) (b : Int) = ((a &&& b : Nat) : Int) := by
  have hx : a &&& b < 2 ^ 62 := Nat.and_lt_two_pow _ (by omega)
  show IntKind.i64.wrap ((BitVec.ofInt 64 (a : Int) &&& BitVec.ofInt 64 (b : Int)).toNat : Int) = _
  rw [BitVec.toNat_and, ofInt_i64 a ha, ofInt_i64 b hb]
  exact IntWalk.i64_in _ (by omega)
theorem or_i64 (a b : Nat) (ha : a < 4611686018427387904) (hb : b < 4611686018427387904) : bits .or .i64 (a : Int) (b : Int) = ((a ||| b : Nat) : Int) := by
  have hx : a ||| b < 2 ^ 62 := Nat.or_lt_two_pow (by omega) (by omega)
  show IntKind.i64.wrap ((BitVec.ofInt 64 (a : Int) ||| BitVec.ofInt 64 (b : Int)).toNat : Int) = _
  rw [BitVec.toNat_or, ofInt_i64 a ha, ofInt_i64 b hb]
  exact IntWalk.i64_in _ (by omega)
def ldrawV (b2 : Nat) : Value := .func (.func 73) #[] #[.pointer (some ⟨b2 + 1, 0, none⟩), .pointer (some ⟨b2, 0, none⟩)]
set_option maxRecDepth 100000 in
set_option maxHeartbeats 8000000 in
theorem lgood_any (j : JobD) (hv : validJb j = true) (p : List Nat) (hp : PlanFacts j p) (l xs : List Int) (sv pv : Value) (xr xo xd b2 nb nw cap cap2 cap4 K : Nat) (ao ao2 ao4 : Option Addr) (hnb : nb = j.st.bs.length) (hnw : nw = j.ws.length) (hxl : xs.length = nb) (hK : K ≤ 500)
    (hxs : ∀ q (h : q < xs.length) (h' : q < j.st.bs.length), j.st.bs[q].1 ≤ xs[q] ∧ xs[q] ≤ j.st.bs[q].2) (w : World) (hxr : xr < b2) (hxo : b2 + 2 ≤ xo) (hxd : b2 + 2 ≤ xd)
    (hx : w.heap[xr]? = some (.cells #[.slice ao nb cap, .int .i64 j.st.film.1, .int .i64 j.st.film.2, .slice ao2 nw cap2] 28 (0, 0)))
    (hoo : w.heap[xo]? = some (.cells #[.slice ao4 nb cap4] 32 (0, 0))) (hdd : w.heap[xd]? = some (.cells #[ldrawV b2] 39 (0, 0)))
    (hws : SpansAt w (.slice ao2 nw cap2) j.ws (fun k => k ≠ b2 + 1)) (hpv : NumsAt w pv (p.map fun s : Nat => (s : Int)) (fun k => k ≠ b2 + 1))
    (hd : DrawJ .u8 49 l (b2 + 1) b2 (b2 + 2) sv K w) (ho : NumsAt w (.slice ao4 nb cap4) xs (fun k => b2 + 2 ≤ k)) :
    Calls Tryd.prog 29 #[pv, .pointer (some ⟨xr, 0, none⟩), .pointer (some ⟨xo, 0, none⟩), .pointer (some ⟨xd, 0, none⟩)] w fun e w' => e = .returned (.bool true) ∧ DrawJ .u8 49 l (b2 + 1) b2 (b2 + 2) sv (K + 8 * nw) w' ∧ Keeps (fun k => k = b2 + 1) w w' := by
  have HV := Lib.hid hv
  have HP := Lib.hid hp
  have HNB := Lib.hid hnb
  have HNW := Lib.hid hnw
  have HXL := Lib.hid hxl
  have HXS := Lib.hid hxs
  have HX := Lib.hid hx
  have HOO := Lib.hid hoo
  have HDD := Lib.hid hdd
  have HD := Lib.hid hd
  have HO := Lib.hid ho
  have hnb8 : nb ≤ 8 := by rw [hnb]; exact (validSt_parts (validJb_parts hv).1).1
  have hnw4 : nw ≤ 4 := by rw [hnw]; exact (validJb_parts hv).2.1
  have hp256 : 2 ^ nb ≤ 256 := (Nat.pow_le_pow_right (by decide) hnb8 : _ ≤ 2 ^ 8)
  have hp1 : 1 ≤ 2 ^ nb := Nat.two_pow_pos nb
  have hplen : p.length = nw := by rw [hnw, hp.len]
  obtain ⟨ap, cp, hpe, _⟩ := id hpv
  subst hpe
  rw [List.length_map, hplen] at hpv ⊢
  have HNP := Lib.hid hplen
  have HPV := Lib.hid hpv
  have HWS := Lib.hid hws
  obtain ⟨fl, hfl⟩ : ∃ x, x = j.st.film.1 := ⟨_, rfl⟩
  obtain ⟨fh, hfh⟩ : ∃ x, x = j.st.film.2 := ⟨_, rfl⟩
  have hfm := (validSt_parts (validJb_parts hv).1).2.1
  have hjv : jobV j (.slice ao nb cap) (.slice ao2 nw cap2) = .agg #[.slice ao nb cap, .int .i64 fl, .int .i64 fh, .slice ao2 nw cap2] := by unfold jobV; rw [← hfl, ← hfh]
  have HJV := Lib.hid hjv
  rw [← hfl, ← hfh] at HX hfm
  have HF := Lib.hid (And.intro hfl (And.intro hfh hfm))
  have hc0 := cell_of_row _ _ 3 _ _ _ HX.out
  have c3 : w.cell? ⟨xr, 3, none⟩ = some (.slice ao2 nw cap2) := by rw [hc0]; rfl
  clear hv hp hnb hnw hxl hxs hx hoo hdd hws hpv hd ho hfl hfh hfm hplen hjv hc0
  go_enter Tryd.func29, Tryd.ntmps29
  go_wp2_with fail
  clear c3
  go_loopw [6, 21] (fun uv kv wr => ∃ k : Nat, k ≤ nw ∧ kv = .int .i64 k ∧ uv = .int .i64 (unionJ (p.take k) : Nat) ∧ DrawJ .u8 49 l (b2 + 1) b2 (b2 + 2) sv (K + 8 * k) wr ∧ Keeps (fun k => k = b2 + 1) w wr) (fun _ kv _ => nw - (intOf kv).toNat)
  case atStart => exact ⟨0, Nat.zero_le _, rfl, rfl, HD.out, Keeps.refl _ _⟩
  case round =>
    obtain ⟨k, hk, rfl, rfl, hdr, hkk⟩ := hrel
    have hus2 : unionJ (p.take k) < 2 ^ nb := by
      have := union_lt j.st.bs.length (p.take k) 0 (Nat.two_pow_pos _) (fun s hs => HP.out.lt s (List.mem_of_mem_take hs))
      rw [← HNB.out] at this
      exact this
    obtain ⟨us, hus⟩ : ∃ x, x = unionJ (p.take k) := ⟨_, rfl⟩
    rw [← hus] at hus2 ⊢
    have HUS := Lib.hid hus
    have HDK := Lib.hid hdr
    have HKK := Lib.hid hkk
    have hszk := hkk.size
    clear hus hdr hkk
    by_cases hlt : k < nw
    · have hwk : IntKind.i64.wrap ((k : Int) + 1) = ((k + 1 : Nat) : Int) := by rw [IntWalk.i64_in _ (by omega)]; omega
      have hlti : (k : Int) < (nw : Int) := by omega
      have hkp : k < p.length := by rw [HNP.out]; exact hlt
      have hkx : k < j.ws.length := by rw [← HNW.out]; exact hlt
      obtain ⟨a9, c9, e9, _, _, hel⟩ := HPV.out.later (W := wr) hszk (fun q h1 h2 => HKK.out.block q h1 h2)
      rw [List.length_map, HNP.out] at e9
      injection e9 with e1 e2 e3
      subst e1 e3
      clear e2
      obtain ⟨pb, po, rfl, _, _, e3⟩ := hel k (by rw [List.length_map]; exact hkp)
      rw [List.getElem_map] at e3
      obtain ⟨a9, c9, e9, _, _, hel5⟩ := HWS.out.later (W := wr) hszk (fun q h1 h2 => HKK.out.block q h1 h2)
      rw [← HNW.out] at e9
      injection e9 with e1 e2 e6
      subst e1 e6
      clear e2
      obtain ⟨wb, wo, rfl, _⟩ := hel5 k hkx
      obtain ⟨s, hs⟩ : ∃ x, x = p[k] := ⟨_, rfl⟩
      rw [← hs] at e3
      have hr9 := HP.out.right k hkp hkx
      have hf9 := HP.out.free k hkp
      rw [← hs, ← HUS.out] at hf9
      rw [← hs] at hr9
      obtain ⟨⟨wl, wh⟩, hwant⟩ : ∃ x, x = j.ws[k] := ⟨_, rfl⟩
      rw [← hwant] at hr9
      have HWANT := Lib.hid hwant
      have hs2 : s < 2 ^ nb := by have := (mem_rightsJ.1 hr9).1; rw [← HNB.out] at this; exact this
      have hs0 : s ≠ 0 := (mem_rightsJ.1 hr9).2.1
      have hs256 : s < 256 := by omega
      have hun : unionJ (p.take (k + 1)) = us ||| s := by rw [union_take p k hkp, ← HUS.out, ← hs]
      have HS := Lib.hid (And.intro hr9 (And.intro hf9 hun))
      have hxo9 := (HKK.out.block xo (lt_of_block HOO.out) (by omega)).trans HOO.out
      have o0 : wr.cell? ⟨xo, 0, none⟩ = some (.slice ao4 nb cap4) := by rw [cell_of_row _ _ _ _ _ _ hxo9]; rfl
      clear hs hr9 hf9 hwant hel hel5 hun hxo9
      go_wp2_with fail
      clear e3 o0
      go_loopw [9, 10, 28] (fun lv fv iv wq => ∃ (i : Nat) (lg : Int) (fs : Bool), i ≤ nb ∧ iv = .int .i64 i ∧ lv = .int .i64 lg ∧ fv = .bool fs ∧ LongR j.st s i lg fs ∧ DrawJ .u8 49 l (b2 + 1) b2 (b2 + 2) sv (K + 8 * k + i) wq ∧ Keeps (fun k => k = b2 + 1) w wq) (fun _ _ iv _ => nb - (intOf iv).toNat)
      case atStart => exact ⟨0, 0, true, Nat.zero_le _, rfl, rfl, rfl, LongR.zero _ _, HDK.out, HKK.out⟩
      case round =>
        obtain ⟨i, lg, fs, hi, rfl, rfl, rfl, hlr, hdr, hkq⟩ := hrel
        have HLR := Lib.hid hlr
        have HDR := Lib.hid hdr
        have HKQ := Lib.hid hkq
        have hkqs := hkq.size
        have hxr9 := (hkq.block xr (lt_of_block HX.out) (by omega)).trans HX.out
        have hxd9 := (hkq.block xd (lt_of_block HDD.out) (by omega)).trans HDD.out
        have HXR := Lib.hid hxr9
        have c1 : wr.cell? ⟨xr, 1, none⟩ = some (.int .i64 fl) := by rw [cell_of_row _ _ _ _ _ _ hxr9]; rfl
        have c2 : wr.cell? ⟨xr, 2, none⟩ = some (.int .i64 fh) := by rw [cell_of_row _ _ _ _ _ _ hxr9]; rfl
        have cd : wr.cell? ⟨xd, 0, none⟩ = some (.func (.func 73) #[] #[.pointer (some ⟨b2 + 1, 0, none⟩), .pointer (some ⟨b2, 0, none⟩)]) := by rw [cell_of_row _ _ _ _ _ _ hxd9]; rfl
        have hlb := hlr.bound (validJb_parts HV.out).1
        clear hlr hdr hkq hxr9 hxd9
        by_cases hlt2 : i < nb
        · have hw : IntKind.i64.wrap ((i : Int) + 1) = ((i + 1 : Nat) : Int) := by rw [IntWalk.i64_in _ (by omega)]; omega
          have hlti2 : (i : Int) < (nb : Int) := by omega
          have hil : i < xs.length := by rw [HXL.out]; exact hlt2
          have hib : i < j.st.bs.length := by rw [← HNB.out]; exact hlt2
          obtain ⟨a9, c9, e9, _, _, hel⟩ := HO.out.later (W := wr) hkqs (fun q h1 h2 => HKQ.out.block q h1 (by omega))
          rw [HXL.out] at e9
          injection e9 with e1 e2 e3
          subst e1 e3
          clear e2
          obtain ⟨ob, oo, rfl, _, _, ec⟩ := hel i hil
          obtain ⟨m, hm⟩ : ∃ m, m = xs[i] := ⟨_, rfl⟩
          have hmb := HXS.out i hil hib
          rw [← hm] at ec hmb
          have hok := (validSt_parts (validJb_parts HV.out).1).2.2 _ (List.getElem_mem hib)
          unfold blockOk at hok
          simp only [Bool.and_eq_true, decide_eq_true_eq] at hok
          have HM := Lib.hid hmb
          have hm6 : 0 ≤ m ∧ m ≤ 500 := by omega
          clear hel hm hmb hok
          have eg := enters_of (P := Tryd.prog) Tryd.func73 (by kernel_rfl) rfl
          have hbb := bit0_i64 ⟨i, by omega⟩ ⟨s, hs256⟩
          dsimp only at hbb
          cases hbit : s.testBit i with
          | false =>
            rw [hbit] at hbb
            have HL2 := Lib.hid (HLR.out.skip hib hbit)
            clear hbit
            go_wp2_with fail
            exact ⟨⟨i + 1, lg, fs, hlt2, by push_cast; rfl, rfl, rfl, HL2.out, HDR.out.mono (by omega), HKQ.out⟩, by simp [intOf]; omega⟩
          | true =>
            rw [hbit] at hbb
            have HBIT := Lib.hid hbit
            clear hbit
            cases fs with
            | true =>
              have HL2 := Lib.hid (HLR.out.next hib HBIT.out (m := m) (f := fl) HM.out (by have := HF.out; rw [← this.1, ← this.2.1]; omega))
              have hwl : IntKind.i64.wrap (lg + m) = lg + m := IntWalk.i64_in _ (by omega)
              go_wp2_with fail
              exact ⟨⟨i + 1, lg + m, false, hlt2, by push_cast; rfl, rfl, rfl, HL2.out, HDR.out.mono (by omega), HKQ.out⟩, by simp [intOf]; omega⟩
            | false =>
              go_wp2_with fail
              refine (ldraw_any l (b2 + 1) b2 (b2 + 2) (K + 8 * k + i) _ fl fh (by have := HF.out.2.2; omega) (by omega) _ HDR.out).mono ?_
              rintro e w6 ⟨f, hf1, hf2, rfl, hd6, hk6⟩
              dsimp only
              have HL2 := Lib.hid (HLR.out.next hib HBIT.out (m := m) (f := f) HM.out (by have := HF.out; rw [← this.1, ← this.2.1]; omega))
              have hfb := HF.out.2.2
              have hwl : IntKind.i64.wrap (lg + f) = lg + f := IntWalk.i64_in _ (by omega)
              have hwl2 : IntKind.i64.wrap (lg + f + m) = lg + f + m := IntWalk.i64_in _ (by omega)
              have H6 := Lib.hid (And.intro hd6 (HKQ.out.trans hk6))
              clear hd6 hk6 hfb hf1 hf2
              go_wp2_with fail
              exact ⟨⟨i + 1, lg + f + m, false, hlt2, by push_cast; rfl, rfl, rfl, HL2.out, H6.out.1.mono (by omega), H6.out.2⟩, by simp [intOf]; omega⟩
        · have hin : nb = i := by omega
          subst hin
          have hlti2 : ¬ (nb : Int) < (nb : Int) := by omega
          have hw9 : wl ≤ lg ∧ lg ≤ wh := by
            have hlr := HLR.out
            rw [HNB.out] at hlr
            exact hlr.done (want := (wl, wh)) HS.out.1
          have hwA : ¬ lg < wl := by omega
          have hwB : ¬ wh < lg := by omega
          have hs1 : ¬ (s : Int) < 1 := by omega
          have hand : bits .and .i64 (us : Int) (s : Int) = 0 := by rw [and_i64 us s (by omega) (by omega), HS.out.2.1]; rfl
          have hor := or_i64 us s (by omega) (by omega)
          obtain ⟨un, hune⟩ : ∃ x, x = us ||| s := ⟨_, rfl⟩
          rw [← hune] at hor
          have HUN := Lib.hid hune
          obtain ⟨A, hA⟩ : ∃ A, A = allD j := ⟨_, rfl⟩
          have hsA : ¬ (A : Int) < (s : Int) := by rw [hA]; unfold allD; rw [← HNB.out]; omega
          have HA := Lib.hid hA
          clear hw9 hune hA
          have c0 : wr.cell? ⟨xr, 0, none⟩ = some (.slice ao nb cap) := by rw [cell_of_row _ _ _ _ _ _ HXR.out]; rfl
          have c3 : wr.cell? ⟨xr, 3, none⟩ = some (.slice (some ⟨wb, wo, none⟩) nw cap2) := by rw [cell_of_row _ _ _ _ _ _ HXR.out]; rfl
          go_wp2_with fail
          have hc := levery_any j nb cap ao (.slice (some ⟨wb, wo, none⟩) nw cap2) HNB.out hnb8 wr
          rw [HJV.out, ← HA.out] at hc
          refine hc.mono ?_
          rintro e w5 ⟨rfl, hb5⟩
          clear hc c0 c1 c2 c3 cd
          dsimp only
          have hk5 : Keeps (fun k => k = b2 + 1) w w5 := HKQ.out.trans (Keeps.of_below hb5 (fun k h1 h2 => absurd h2 (by omega)))
          have hx5 := (hb5.block xr (lt_of_block HXR.out)).trans HXR.out
          have c3 : w5.cell? ⟨xr, 3, none⟩ = some (.slice (some ⟨wb, wo, none⟩) nw cap2) := by rw [cell_of_row _ _ _ _ _ _ hx5]; rfl
          obtain ⟨a9, c9, e9, _, _, hel5⟩ := HWS.out.later (W := w5) hk5.size (fun q h1 h2 => hk5.block q h1 h2)
          rw [← HNW.out] at e9
          injection e9 with e1 e2 e6
          subst e1 e6
          clear e2
          obtain ⟨wb2, wo2, e7, _, _, e4, e5⟩ := hel5 k hkx
          injection e7 with e7
          injection e7 with e7 e8 _
          subst e7 e8
          rw [← HWANT.out] at e4 e5
          have H5 := Lib.hid hk5
          have HD5 := Lib.hid (HDR.out.later hb5.size (fun k h1 _ => hb5.block k h1))
          clear hel5 hk5 hb5 hx5
          go_wp2_with fail
          exact ⟨⟨k + 1, hlt, by push_cast; rfl, by rw [HS.out.2.2, ← HUN.out], HD5.out.mono (by omega), H5.out⟩, by simp [intOf]; omega⟩
    · have hkn : nw = k := by omega
      subst hkn
      have hlti : ¬ (nw : Int) < (nw : Int) := by omega
      go_wp2_with fail
      go_ret
      exact ⟨rfl, HDK.out, HKK.out⟩
end Go.Proofs.YtbmfphiecllggaaDoor
