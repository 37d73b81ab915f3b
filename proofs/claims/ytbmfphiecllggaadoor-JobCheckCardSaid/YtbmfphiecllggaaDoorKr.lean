/- Texts Hw, Hx, Hy in one file; each begins with a word on what it proves. -/
import Derived.Test.YtbmfphiecllggaaDoorTie
import Derived.Test.YtbmfphiecllggaaDoorCards
import Derived.SevenTiedAt
import Derived.Test.YtbmfphiecllggaaDoorKn
import Derived.Test.YtbmfphiecllggaaDoorKe
import Derived.Test.YtbmfphiecllggaaDoorKg
import Derived.Test.YtbmfphiecllggaaDoorKj

/- General: a drawn region whose orders come together again. And what JobCheck asks, in plain words. -/
namespace Go.Proofs.YtbmfphiecllggaaDoor
set_option linter.unusedVariables false
set_option linter.unusedSimpArgs false
open Go.RowKit Go.Shelf

section
variable {P : Program} {ops : Array Oper} {md : Region.Mode} {S : World → Prop}
def PutAll (a : Act) : List (Option Nat) → List Value → Act
  | d :: ds, v :: vs => PutAll (a.put d v) ds vs
  | _, _ => a
/-- Behind a region: its values, and what holds of them and of the world. -/
def CutQ (ds : List (Option Nat)) (a : Act) (R : List Value → World → Prop) : Exit → Act → World → Prop :=
  fun e a' w' => e = .normal ∧ ∃ xs, a' = PutAll a ds xs ∧ R xs w'
theorem region_cut {id : Nat} {d : Bool} (ds : List (Option Nat)) (R : List Value → World → Prop) {Q : Exit → Act → World → Prop} {a : Act} {w : World} (h1 : (Code.region id ops d).wp P (CutQ ds a R) a w)
    (h2 : ∀ xs w', R xs w' → Q .normal (PutAll a ds xs) w') : (Code.region id ops d).wp P Q a w :=
  wp_mono h1 fun e a' w' h => by
    obtain ⟨rfl, xs, rfl, hr⟩ := h
    exact h2 xs w' hr
theorem wpOp_of {Q : Exit → Act → World → Prop} {i : Nat} {o : Oper} {K : Act → World → Prop} {a : Act} {w : World} (ho : ops[i]? = some o) (hg : Region.wanted o (yielded ops a.tmps) = true) (h : o.wp P a w K Q) : wpOp P ops Q i K a w := by
  unfold wpOp
  rw [ho]
  simp only [hg, if_true]
  exact .inl h
theorem oper_value {Q : Exit → Act → World → Prop} {o : Oper} {K : Act → World → Prop} {a : Act} {w w' : World} {v : Value} (hrun : (execOp a.eval o).run P w = .ok (.value v) w') (h : K (a.put o.dst v) w') : o.wp P a w K Q := by
  unfold Oper.wp
  rw [hrun]
  exact h
theorem oper_call {Q : Exit → Act → World → Prop} {o : Oper} {K : Act → World → Prop} {a : Act} {w : World} {f : FuncId} {args : Array Value} (hrun : (execOp a.eval o).run P w = .ok (.enter f args) w)
    (h : Calls P f args w fun
      | .returned v, w' => K (a.put o.dst v) w'
      | .panicked c, w' => Q (.panic c) a w'
      | .outgrown, _ => LetsOut Q) : o.wp P a w K Q := by
  unfold Oper.wp
  rw [hrun]
  simp only [Oper.upon]
  refine h.mono fun e w'' he => ?_
  cases e <;> exact he
end

/-! ### what Check tells -/
theorem check_range {j : JobD} (hv : validJb j = true) {l : List Int} (h : isPlanD j l = false) : checkD j l = ((0, 0), 2) := by
  unfold checkD errD
  rw [hv, h]
  rfl
theorem notplan_len (j : JobD) (l : List Int) (h : l.length ≠ j.ws.length) : isPlanD j l = false := by unfold isPlanD; rw [decide_eq_false h]; rfl
theorem notplan_mem (j : JobD) (l : List Int) (x : Int) (h : x ∈ l) (hx : isSetS j.st x = false) : isPlanD j l = false := by
  unfold isPlanD
  cases h1 : l.all fun n => isSetS j.st n with
  | false => rw [Bool.and_false]
  | true => rw [List.all_eq_true.1 h1 x h] at hx; cases hx
theorem notset_zero (s : StackD) : isSetS s 0 = false := by unfold isSetS; simp
theorem notset_more (s : StackD) : isSetS s ((2 ^ s.bs.length : Nat) : Int) = false := by
  unfold isSetS
  have : ((2 ^ s.bs.length : Nat) : Int) = (2 : Int) ^ s.bs.length := by simp
  rw [this, Bool.and_eq_false_iff]
  right
  rw [decide_eq_false_iff_not]
  omega
theorem isplan_of {j : JobD} {p : List Nat} (hl : p.length = j.ws.length) (hp : ∀ s ∈ p, 1 ≤ s ∧ s < 2 ^ j.st.bs.length) : isPlanD j (p.map fun n : Nat => (n : Int)) = true := by
  unfold isPlanD
  rw [List.length_map, hl, decide_eq_true rfl, Bool.true_and, List.all_eq_true]
  intro n hn
  obtain ⟨s, hs, rfl⟩ := List.mem_map.1 hn
  have h1 := hp s hs
  have h4 : ((2 ^ j.st.bs.length : Nat) : Int) = (2 : Int) ^ j.st.bs.length := by simp
  unfold isSetS
  simp only [Bool.and_eq_true, decide_eq_true_eq]
  omega
/-- What Check tells, from one want on. -/
def fromJ (j : JobD) (p : List Nat) (i : Nat) : Option (Nat × Int) := wrongJ (rightsD j) i (unionJ (p.take i)) ((p.drop i).map fun n : Nat => (n : Int))
def tellJ : Option (Nat × Int) → (Int × Int) × Int
  | none => ((0, 0), 4)
  | some x => ((x.1, x.2), 0)
theorem check_from {j : JobD} (hv : validJb j = true) {p : List Nat} (hl : p.length = j.ws.length) (hp : ∀ s ∈ p, 1 ≤ s ∧ s < 2 ^ j.st.bs.length) :
    checkD j (p.map fun n : Nat => (n : Int)) = tellJ (fromJ j p 0) := by
  have he : errD j (isPlanD j (p.map fun n : Nat => (n : Int))) = 0 := by rw [isplan_of hl hp]; exact errD_ok hv
  unfold checkD
  rw [he, if_neg (by decide)]
  show _ = tellJ (wrongJ (rightsD j) 0 0 (p.map fun n : Nat => (n : Int)))
  generalize wrongJ (rightsD j) 0 0 (p.map fun n : Nat => (n : Int)) = r
  cases r <;> rfl
theorem from_end (j : JobD) (p : List Nat) : fromJ j p p.length = none := by unfold fromJ; rw [List.drop_length]; rfl
theorem from_next (j : JobD) (p : List Nat) (i : Nat) (h : i < p.length) (h' : i < j.ws.length) : fromJ j p i = if p[i] ∉ rightsS j.st j.ws[i] then some (i, 1) else if p[i] &&& unionJ (p.take i) ≠ 0 then some (i, 2) else fromJ j p (i + 1) := by
  unfold fromJ
  rw [List.drop_eq_getElem_cons h, List.map_cons, wrongJ]
  have hr : (rightsD j).getD i [] = rightsS j.st j.ws[i] := by
    rw [List.getD_eq_getElem?_getD]
    simp [rightsD, h']
  rw [hr, Int.toNat_natCast, union_take p i h]
theorem grade_right {j : JobD} (hv : validJb j = true) {s : Nat} (hs : 1 ≤ s ∧ s < 2 ^ j.st.bs.length) (w : Int × Int) : gradeS j.st s w = 2 ↔ s ∈ rightsS j.st w := by
  rw [grade_two (validJb_parts hv).1]
  constructor
  · intro h
    exact mem_rightsJ.2 ⟨hs.2, by omega, h⟩
  · intro h
    exact (mem_rightsJ.1 h).2.2
end Go.Proofs.YtbmfphiecllggaaDoor

/- JobCheck, walked. -/
namespace Go.Proofs.YtbmfphiecllggaaDoor
set_option linter.unusedVariables false
set_option linter.unusedSimpArgs false
open Go.RowKit Go.Shelf
attribute [local go_sem] Oper.semAt_some

def SMC (x : Nat) (v0 v3 : Value) (f1 f2 : Int) (Y : World) : Prop :=
  Y.cell? ⟨x, 0, none⟩ = some v0 ∧ Y.cell? ⟨x, 1, none⟩ = some (.int .i64 f1) ∧ Y.cell? ⟨x, 2, none⟩ = some (.int .i64 f2) ∧ Y.cell? ⟨x, 3, none⟩ = some v3
theorem SMC.below {x : Nat} {v0 v3 : Value} {f1 f2 : Int} {Y Y' : World} (h : SMC x v0 v3 f1 f2 Y) (hb : Below Y.heap.size Y Y') : SMC x v0 v3 f1 f2 Y' :=
  ⟨cell_below h.1 hb, cell_below h.2.1 hb, cell_below h.2.2.1 hb, cell_below h.2.2.2 hb⟩

theorem own_empty9 {w : World} {base g : Nat} (h : w.heap[g]? = some (.cells #[] 3 (0, 0))) (hb : base ≤ g) : w.ownsRow base 3 1 (.slice (some ⟨g, 0, none⟩) 0 0) 0 [] :=
  ⟨rfl, .inr ⟨g, 0, #[], rfl, hb, h, Nat.le_refl _, by simp, rfl, rfl⟩⟩
/-- What is read of a want. -/
def SK (x : Nat) (v0 v3 : Value) (f1 f2 : Int) (b off q : Nat) (lo hi : Int) (Y : World) : Prop :=
  Y.cell? ⟨x, 0, none⟩ = some v0 ∧ Y.cell? ⟨x, 1, none⟩ = some (.int .i64 f1) ∧ Y.cell? ⟨x, 2, none⟩ = some (.int .i64 f2) ∧ Y.cell? ⟨x, 3, none⟩ = some v3 ∧ Y.cell? ⟨b, off + q * 2, none⟩ = some (.int .i64 lo) ∧ Y.cell? ⟨b, off + q * 2 + 1, none⟩ = some (.int .i64 hi)
theorem SK.below {x : Nat} {v0 v3 : Value} {f1 f2 : Int} {b off q : Nat} {lo hi : Int} {Y Y' : World} (h : SK x v0 v3 f1 f2 b off q lo hi Y) (hb : Below Y.heap.size Y Y') : SK x v0 v3 f1 f2 b off q lo hi Y' :=
  ⟨cell_below h.1 hb, cell_below h.2.1 hb, cell_below h.2.2.1 hb, cell_below h.2.2.2.1 hb, cell_below h.2.2.2.2.1 hb, cell_below h.2.2.2.2.2 hb⟩
theorem made_nums {w : World} {g n : Nat} (h : w.heap[g]? = some (.cells (madeCells #[.int .i64 0] n) 3 (0, 0))) (hn : n ≤ 1000) : NumsAt w (.slice (some ⟨g, 0, none⟩) n n) (List.replicate n 0) (fun k => g ≤ k) := by
  refine nums_of_own (show n = (List.replicate n (0 : Int)).length by simp) ⟨by simp, .inr ⟨g, n, madeCells #[.int .i64 0] n, rfl, Nat.le_refl _, h, Nat.le_refl _, by unfold maxLen; omega, by rw [size_madeCells, Nat.mul_one], ?_⟩⟩
  rw [Nat.mul_one, toList_madeCells_one, List.map_replicate]
  simp
set_option maxRecDepth 100000 in
set_option maxHeartbeats 8000000 in
theorem lcheck_any (j : JobD) (bs ws : Value) (l : List Int) (v : Value) (w : World) (hbs : SpansAt w bs j.st.bs (fun k => k < w.heap.size)) (hws : SpansAt w ws j.ws (fun k => k < w.heap.size)) (hus : SmallAt .u8 w v l (fun k => k < w.heap.size)) (htz : TabZ w) :
    Calls Tryd.prog 5 #[jobV j bs ws, v] w fun e w' => e = .returned (.bool true) ∧ Below w.heap.size w w' := by
  have HBS := Lib.hid hbs
  have HWS := Lib.hid hws
  have HUS := Lib.hid hus
  have HTZ := Lib.hid htz
  have h1z := htz.lt
  obtain ⟨ao, cap, hv1, _⟩ := id hbs
  obtain ⟨ao2, cap2, hv2, _⟩ := id hws
  obtain ⟨ao3, cap3, hv3, _⟩ := id hus
  subst hv1 hv2 hv3
  obtain ⟨nb, hnb⟩ : ∃ n, n = j.st.bs.length := ⟨_, rfl⟩
  obtain ⟨nw, hnw⟩ : ∃ n, n = j.ws.length := ⟨_, rfl⟩
  obtain ⟨nu, hnu⟩ : ∃ n, n = l.length := ⟨_, rfl⟩
  rw [← hnb] at HBS
  rw [← hnw] at HWS
  rw [← hnu] at HUS
  unfold jobV
  rw [← hnb, ← hnw, ← hnu]
  have HNB := Lib.hid hnb
  have HNW := Lib.hid hnw
  have HNU := Lib.hid hnu
  clear hbs hws hus htz hnb hnw hnu
  obtain ⟨fl, hfl⟩ : ∃ x, x = j.st.film.1 := ⟨_, rfl⟩
  obtain ⟨fh, hfh⟩ : ∃ x, x = j.st.film.2 := ⟨_, rfl⟩
  rw [← hfl, ← hfh]
  have HFL := Lib.hid (And.intro hfl hfh)
  clear hfl hfh
  have HJV := Lib.hid (show jobV j (.slice ao nb cap) (.slice ao2 nw cap2) = .agg #[.slice ao nb cap, .int .i64 fl, .int .i64 fh, .slice ao2 nw cap2] by unfold jobV; rw [← HFL.out.1, ← HFL.out.2])
  have HBw0 := Lib.hid (Below.alloc' w (.cells #[.slice ao nb cap, .int .i64 fl, .int .i64 fh, .slice ao2 nw cap2] 28))
  have HXw0 := Lib.hid (show (w.alloc (.cells #[.slice ao nb cap, .int .i64 fl, .int .i64 fh, .slice ao2 nw cap2] 28)).heap[w.heap.size]? = some (.cells #[.slice ao nb cap, .int .i64 fl, .int .i64 fh, .slice ao2 nw cap2] 28 (0, 0)) from heap_alloc_at _ _ _ rfl)
  go_enter Tryd.func5, Tryd.ntmps5
  go_wp2_with fail
  have hc := fine_any j (.slice ao nb cap) (.slice ao2 nw cap2) _ (HBS.out.later HBw0.out.size (fun k h1 _ => HBw0.out.block k h1)).low9 (HWS.out.later HBw0.out.size (fun k h1 _ => HBw0.out.block k h1)).low9
  rw [HJV.out] at hc
  refine hc.mono ?_
  rintro e w1 ⟨rfl, hb⟩
  clear hc
  dsimp only
  have HXw1 := Lib.hid ((hb.block _ (lt_of_block HXw0.out)).trans HXw0.out)
  have HBw1 := Lib.hid (HBw0.out.trans (hb.mono HBw0.out.size))
  clear hb
  cases hv : validJb j with
  | false =>
    clear hv
    go_wp2_with fail
    refine (lawake_any _ (HTZ.out.below HBw1.out h1z)).mono ?_
    rintro e w9 ⟨rfl, hb9⟩
    dsimp only
    have HB9 := Lib.hid (HBw1.out.trans (hb9.mono HBw1.out.size))
    clear hb9
    go_wp2_with fail
    go_ret
    exact ⟨rfl, HB9.out⟩
  | true =>
    have HV := Lib.hid hv
    have hnw4 : nw ≤ 4 := by rw [HNW.out]; exact (validJb_parts hv).2.1
    have hnb8 : nb ≤ 8 := by rw [HNB.out]; exact (validSt_parts (validJb_parts hv).1).1
    clear hv
    have c0 : w1.cell? ⟨w.heap.size, 0, none⟩ = some (.slice ao nb cap) := by rw [cell_of_row _ _ _ _ _ _ HXw1.out]; rfl
    have c1 : w1.cell? ⟨w.heap.size, 1, none⟩ = some (.int .i64 fl) := by rw [cell_of_row _ _ _ _ _ _ HXw1.out]; rfl
    have c2 : w1.cell? ⟨w.heap.size, 2, none⟩ = some (.int .i64 fh) := by rw [cell_of_row _ _ _ _ _ _ HXw1.out]; rfl
    have c3 : w1.cell? ⟨w.heap.size, 3, none⟩ = some (.slice ao2 nw cap2) := by rw [cell_of_row _ _ _ _ _ _ HXw1.out]; rfl
    go_upto_region 3 with fail
    clear c0 c1 c2 c3
    have hS0 : SMC w.heap.size (.slice ao nb cap) (.slice ao2 nw cap2) fl fh w1 := ⟨by rw [cell_of_row _ _ _ _ _ _ HXw1.out]; rfl, by rw [cell_of_row _ _ _ _ _ _ HXw1.out]; rfl, by rw [cell_of_row _ _ _ _ _ _ HXw1.out]; rfl, by rw [cell_of_row _ _ _ _ _ _ HXw1.out]; rfl⟩
    have HS0 := Lib.hid hS0
    clear hS0
    refine wp_region_held_drew (S := SMC w.heap.size (.slice ao nb cap) (.slice ao2 nw cap2) fl fh) (by kernel_rfl) (HS0.out.below (Below.refl _ _).drew) fun hS => ?_
    obtain ⟨D, hD⟩ : ∃ D, D = World.drew w1 := ⟨_, rfl⟩
    have hAD : Below w1.heap.size w1 D := by rw [hD]; exact (Below.refl _ _).drew
    rw [← hD] at hS ⊢
    have HXD := Lib.hid ((hAD.block _ (lt_of_block HXw1.out)).trans HXw1.out)
    have HBD := Lib.hid (HBw1.out.trans (hAD.mono HBw1.out.size))
    clear hAD
    clear hD HS0
    have hw1 : IntKind.i64.wrap ((nw : Int) + 1) = ((nw + 1 : Nat) : Int) := by rw [IntWalk.i64_in _ (by omega)]; omega
    refine wpAnyH_take (i := 0) (v := ?_) rfl (by kernel_rfl) (by kernel_rfl) (by kernel_rfl) (fun _ _ _ h => h) (Or.inl ⟨by rfl, ?_⟩) hS ?_
    rotate_left
    · (intro W hSw; obtain ⟨q0, q1, q2, q3⟩ := hSw; go_simp; try with_reducible rfl)
    try simp only [List.getElem_toArray, List.getElem_cons_succ, List.getElem_cons_zero, Act.put, List.setIfInBounds_toArray, List.set_cons_zero, List.set_cons_succ]
    refine wpAnyH_take (i := 1) (v := ?_) rfl (by kernel_rfl) (by kernel_rfl) (by kernel_rfl) (fun _ _ _ h => h) (Or.inl ⟨by rfl, ?_⟩) hS ?_
    rotate_left
    · (intro W hSw; obtain ⟨q0, q1, q2, q3⟩ := hSw; go_simp; try with_reducible rfl)
    try simp only [List.getElem_toArray, List.getElem_cons_succ, List.getElem_cons_zero, Act.put, List.setIfInBounds_toArray, List.set_cons_zero, List.set_cons_succ]
    refine wpAnyH_take (i := 2) (v := ?_) rfl (by kernel_rfl) (by kernel_rfl) (by kernel_rfl) (fun _ _ _ h => h) (Or.inl ⟨by rfl, ?_⟩) hS ?_
    rotate_left
    · (intro W hSw; obtain ⟨q0, q1, q2, q3⟩ := hSw; go_simp; try with_reducible rfl)
    try simp only [List.getElem_toArray, List.getElem_cons_succ, List.getElem_cons_zero, Act.put, List.setIfInBounds_toArray, List.set_cons_zero, List.set_cons_succ]
    refine wpAnyH_take (i := 3) (v := ?_) rfl (by kernel_rfl) (by kernel_rfl) (by kernel_rfl) (fun _ _ _ h => h) (Or.inl ⟨by rfl, ?_⟩) hS ?_
    rotate_left
    · (intro W hSw; obtain ⟨q0, q1, q2, q3⟩ := hSw; go_simp; try with_reducible rfl)
    try simp only [List.getElem_toArray, List.getElem_cons_succ, List.getElem_cons_zero, Act.put, List.setIfInBounds_toArray, List.set_cons_zero, List.set_cons_succ]
    refine wpAnyH_take (i := 4) (v := ?_) rfl (by kernel_rfl) (by kernel_rfl) (by kernel_rfl) (fun _ _ _ h => h) (Or.inl ⟨by rfl, ?_⟩) hS ?_
    rotate_left
    · (intro W hSw; obtain ⟨q0, q1, q2, q3⟩ := hSw; go_simp; try with_reducible rfl)
    try simp only [List.getElem_toArray, List.getElem_cons_succ, List.getElem_cons_zero, Act.put, List.setIfInBounds_toArray, List.set_cons_zero, List.set_cons_succ]
    have hmk : (Instr.makeSlice 32 (.int .i64 ((nw + 1 : Nat) : Int)) (.int .i64 ((nw + 1 : Nat) : Int))).run Tryd.prog D = .ok (.slice (some ⟨D.heap.size, 0, none⟩) (nw + 1) (nw + 1)) (D.alloc (.cells (madeCells #[.int .i64 0] (nw + 1)) 3)) := by
      obtain ⟨i0, hi0, hz0, hz1, hz2⟩ := info_parts infoInt
      have := run_makeSlice (P := Tryd.prog) (w := D) 32 3 i0 _ underInts hi0 hz0 .i64 .i64 ((nw + 1 : Nat) : Int) ((nw + 1 : Nat) : Int) (by omega) (by omega) (by rw [hz1]; simp; omega) (by rw [hz2]; omega) (by omega)
      rw [hz1] at this
      simpa [Value.cells] using this
    have hn3 : NumsAt (D.alloc (.cells (madeCells #[.int .i64 0] (nw + 1)) 3)) (.slice (some ⟨D.heap.size, 0, none⟩) (nw + 1) (nw + 1)) (List.replicate (nw + 1) 0) (fun k => D.heap.size ≤ k) := made_nums (heap_alloc_at _ _ _ rfl) (by omega)
    have hb3 := Below.alloc' D (.cells (madeCells #[.int .i64 0] (nw + 1)) 3)
    obtain ⟨w2, hw2⟩ : ∃ W, W = D.alloc (.cells (madeCells #[.int .i64 0] (nw + 1)) 3) := ⟨_, rfl⟩
    rw [← hw2] at hmk hn3 hb3
    have hS2 := hS.below hb3
    have HN3 := Lib.hid hn3
    refine wpAnyH_run (k := 5) (v := .slice (some ⟨D.heap.size, 0, none⟩) (nw + 1) (nw + 1)) (w' := w2) (by kernel_rfl) rfl rfl (by simp only [Int.natCast_add, Int.natCast_one] at hmk; simp [execOp, go_sem, Act.eval, Act.put, hmk]) hS2 ?_
    have HXw2 := Lib.hid ((hb3.block _ (lt_of_block HXD.out)).trans HXD.out)
    have HBw2 := Lib.hid (HBD.out.trans (hb3.mono HBD.out.size))
    clear hb3
    clear hmk hn3 hw2 hS
    have hS := hS2
    clear hS2
    try simp only [List.getElem_toArray, List.getElem_cons_succ, List.getElem_cons_zero, Act.put, List.setIfInBounds_toArray, List.set_cons_zero, List.set_cons_succ]
    have hc := Check_any j (.slice ao nb cap) (.slice ao2 nw cap2) (List.replicate (nw + 1) 0) (.slice (some ⟨D.heap.size, 0, none⟩) (nw + 1) (nw + 1)) w2 (HBS.out.later HBw2.out.size (fun k h1 _ => HBw2.out.block k h1)).low9 (HWS.out.later HBw2.out.size (fun k h1 _ => HBw2.out.block k h1)).low9 HN3.out.low9 (by rw [List.length_replicate]; omega)
    rw [HJV.out, check_range HV.out (notplan_len j _ (by rw [List.length_replicate, ← HNW.out]; omega))] at hc
    refine wpAnyH_call (k := 6) (by kernel_rfl) rfl rfl (f := 21) (args := #[.agg #[.slice ao nb cap, .int .i64 fl, .int .i64 fh, .slice ao2 nw cap2], .slice (some ⟨D.heap.size, 0, none⟩) (nw + 1) (nw + 1)]) (by simp [execOp, go_sem, Act.eval, Act.put]) ?_
    refine hc.mono ?_
    rintro e w3 ⟨rfl, hb⟩
    clear hc
    dsimp only
    have hS3 := hS.below hb
    have HXw3 := Lib.hid ((hb.block _ (lt_of_block HXw2.out)).trans HXw2.out)
    have HBw3 := Lib.hid (HBw2.out.trans (hb.mono HBw2.out.size))
    clear hb
    clear hS
    refine ⟨hS3, ?_⟩
    have hS := hS3
    clear hS3
    try simp only [List.getElem_toArray, List.getElem_cons_succ, List.getElem_cons_zero, Act.put, List.setIfInBounds_toArray, List.set_cons_zero, List.set_cons_succ]
    refine wpAnyH_take (i := 7) (v := ?_) rfl (by kernel_rfl) (by kernel_rfl) (by kernel_rfl) (fun _ _ _ h => h) (Or.inl ⟨by rfl, ?_⟩) hS ?_
    rotate_left
    · (intro W hSw; obtain ⟨q0, q1, q2, q3⟩ := hSw; go_simp; try with_reducible rfl)
    try simp only [List.getElem_toArray, List.getElem_cons_succ, List.getElem_cons_zero, Act.put, List.setIfInBounds_toArray, List.set_cons_zero, List.set_cons_succ]
    refine wpAnyH_take (i := 8) (v := ?_) rfl (by kernel_rfl) (by kernel_rfl) (by kernel_rfl) (fun _ _ _ h => h) (Or.inl ⟨by rfl, ?_⟩) hS ?_
    rotate_left
    · (intro W hSw; obtain ⟨q0, q1, q2, q3⟩ := hSw; go_simp; try with_reducible rfl)
    try simp only [List.getElem_toArray, List.getElem_cons_succ, List.getElem_cons_zero, Act.put, List.setIfInBounds_toArray, List.set_cons_zero, List.set_cons_succ]
    refine wpAnyH_take (i := 9) (v := ?_) rfl (by kernel_rfl) (by kernel_rfl) (by kernel_rfl) (fun _ _ _ h => h) (Or.inl ⟨by rfl, ?_⟩) hS ?_
    rotate_left
    · (intro W hSw; obtain ⟨q0, q1, q2, q3⟩ := hSw; go_simp; try with_reducible rfl)
    try simp only [List.getElem_toArray, List.getElem_cons_succ, List.getElem_cons_zero, Act.put, List.setIfInBounds_toArray, List.set_cons_zero, List.set_cons_succ]
    refine wpAnyH_take (i := 10) (v := ?_) rfl (by kernel_rfl) (by kernel_rfl) (by kernel_rfl) (fun _ _ _ h => h) (Or.inl ⟨by rfl, ?_⟩) hS ?_
    rotate_left
    · (intro W hSw; obtain ⟨q0, q1, q2, q3⟩ := hSw; go_simp; try with_reducible rfl)
    try simp only [List.getElem_toArray, List.getElem_cons_succ, List.getElem_cons_zero, Act.put, List.setIfInBounds_toArray, List.set_cons_zero, List.set_cons_succ]
    refine wpAnyH_take (i := 11) (v := ?_) rfl (by kernel_rfl) (by kernel_rfl) (by kernel_rfl) (fun _ _ _ h => h) (Or.inl ⟨by rfl, ?_⟩) hS ?_
    rotate_left
    · (intro W hSw; obtain ⟨q0, q1, q2, q3⟩ := hSw; go_simp; try with_reducible rfl)
    try simp only [List.getElem_toArray, List.getElem_cons_succ, List.getElem_cons_zero, Act.put, List.setIfInBounds_toArray, List.set_cons_zero, List.set_cons_succ]
    refine wpAnyH_take (i := 12) (v := ?_) rfl (by kernel_rfl) (by kernel_rfl) (by kernel_rfl) (fun _ _ _ h => h) (Or.inl ⟨by rfl, ?_⟩) hS ?_
    rotate_left
    · (intro W hSw; obtain ⟨q0, q1, q2, q3⟩ := hSw; go_simp; try with_reducible rfl)
    try simp only [List.getElem_toArray, List.getElem_cons_succ, List.getElem_cons_zero, Act.put, List.setIfInBounds_toArray, List.set_cons_zero, List.set_cons_succ]
    refine wpAnyH_take (i := 13) (v := ?_) rfl (by kernel_rfl) (by kernel_rfl) (by kernel_rfl) (fun _ _ _ h => h) (Or.inl ⟨by rfl, ?_⟩) hS ?_
    rotate_left
    · (intro W hSw; obtain ⟨q0, q1, q2, q3⟩ := hSw; go_simp; try with_reducible rfl)
    try simp only [List.getElem_toArray, List.getElem_cons_succ, List.getElem_cons_zero, Act.put, List.setIfInBounds_toArray, List.set_cons_zero, List.set_cons_succ]
    refine wpAnyH_done (by kernel_rfl) ?_ _
    try simp only [List.getElem_toArray, List.getElem_cons_succ, List.getElem_cons_zero, Act.put, List.setIfInBounds_toArray, List.set_cons_zero, List.set_cons_succ]
    clear hS HN3
    have c0 : w3.cell? ⟨w.heap.size, 0, none⟩ = some (.slice ao nb cap) := by rw [cell_of_row _ _ _ _ _ _ HXw3.out]; rfl
    have c1 : w3.cell? ⟨w.heap.size, 1, none⟩ = some (.int .i64 fl) := by rw [cell_of_row _ _ _ _ _ _ HXw3.out]; rfl
    have c2 : w3.cell? ⟨w.heap.size, 2, none⟩ = some (.int .i64 fh) := by rw [cell_of_row _ _ _ _ _ _ HXw3.out]; rfl
    have c3 : w3.cell? ⟨w.heap.size, 3, none⟩ = some (.slice ao2 nw cap2) := by rw [cell_of_row _ _ _ _ _ _ HXw3.out]; rfl
    go_wp2_with fail
    have hc := made_any j HV.out l (.slice ao3 nu cap3) (.slice ao nb cap) (.slice ao2 nw cap2) w3 (HBS.out.later HBw3.out.size (fun k h1 _ => HBw3.out.block k h1)).low9 (HWS.out.later HBw3.out.size (fun k h1 _ => HBw3.out.block k h1)).low9 (by rw [HNU.out] at HUS ⊢; exact (HUS.out.later HBw3.out.size (fun k h1 _ => HBw3.out.block k h1)).mono (fun k h1 _ => h1))
    rw [HJV.out] at hc
    refine hc.mono ?_
    intro e w4 hm
    obtain ⟨hb, hm⟩ := made_cases hm
    rcases hm with ⟨_, _, rfl⟩ | ⟨p, v, hpl, hps, rfl, hpn⟩
    · clear hc c0 c1 c2 c3
      dsimp only
      have HXw4 := Lib.hid ((hb.block _ (lt_of_block HXw3.out)).trans HXw3.out)
      have HBw4 := Lib.hid (HBw3.out.trans (hb.mono HBw3.out.size))
      clear hb
      go_wp2_with fail
      refine (lawake_any _ (HTZ.out.below HBw4.out h1z)).mono ?_
      rintro e w9 ⟨rfl, hb9⟩
      dsimp only
      have HB9 := Lib.hid (HBw4.out.trans (hb9.mono HBw4.out.size))
      clear hb9
      go_wp2_with fail
      go_ret
      exact ⟨rfl, HB9.out⟩
    · clear hc c0 c1 c2 c3
      dsimp only
      obtain ⟨a8, c8, hve8, _⟩ := id hpn
      subst hve8
      have hpl2 : p.length = nw := by rw [hpl, HNW.out]
      rw [List.length_map, hpl2] at hpn ⊢
      have HPN4 := Lib.hid hpn.low9
      have HPS := Lib.hid (And.intro hpl (And.intro hps hpl2))
      have HXw4 := Lib.hid ((hb.block _ (lt_of_block HXw3.out)).trans HXw3.out)
      have HBw4 := Lib.hid (HBw3.out.trans (hb.mono HBw3.out.size))
      clear hb
      clear hpl hps hpl2 hpn
      by_cases hn0 : nw = 0
      · have hn0i : ¬ 0 < nw := by omega
        have HPV9 := HPN4
        clear hn0
        have c0 : w4.cell? ⟨w.heap.size, 0, none⟩ = some (.slice ao nb cap) := by rw [cell_of_row _ _ _ _ _ _ HXw4.out]; rfl
        have c1 : w4.cell? ⟨w.heap.size, 1, none⟩ = some (.int .i64 fl) := by rw [cell_of_row _ _ _ _ _ _ HXw4.out]; rfl
        have c2 : w4.cell? ⟨w.heap.size, 2, none⟩ = some (.int .i64 fh) := by rw [cell_of_row _ _ _ _ _ _ HXw4.out]; rfl
        have c3 : w4.cell? ⟨w.heap.size, 3, none⟩ = some (.slice ao2 nw cap2) := by rw [cell_of_row _ _ _ _ _ _ HXw4.out]; rfl
        go_upto_region 14 with fail
        clear hn0i c0 c1 c2 c3
        have c0 : w4.cell? ⟨w.heap.size, 0, none⟩ = some (.slice ao nb cap) := by rw [cell_of_row _ _ _ _ _ _ HXw4.out]; rfl
        have c1 : w4.cell? ⟨w.heap.size, 1, none⟩ = some (.int .i64 fl) := by rw [cell_of_row _ _ _ _ _ _ HXw4.out]; rfl
        have c2 : w4.cell? ⟨w.heap.size, 2, none⟩ = some (.int .i64 fh) := by rw [cell_of_row _ _ _ _ _ _ HXw4.out]; rfl
        have c3 : w4.cell? ⟨w.heap.size, 3, none⟩ = some (.slice ao2 nw cap2) := by rw [cell_of_row _ _ _ _ _ _ HXw4.out]; rfl
        go_wp2_with fail
        have hc := Check_any j (.slice ao nb cap) (.slice ao2 nw cap2) (p.map fun s : Nat => (s : Int)) (.slice a8 nw c8) w4 (HBS.out.later HBw4.out.size (fun k h1 _ => HBw4.out.block k h1)).low9 (HWS.out.later HBw4.out.size (fun k h1 _ => HBw4.out.block k h1)).low9 HPV9.out (by rw [List.length_map, HPS.out.2.2]; omega)
        rw [HJV.out, check_from HV.out HPS.out.1 HPS.out.2.1] at hc
        obtain ⟨⟨⟨wh, ru⟩, er⟩, hres⟩ : ∃ y : (Int × Int) × Int, y = tellJ (fromJ j p 0) := ⟨_, rfl⟩
        rw [← hres] at hc
        have HRES := Lib.hid hres
        clear hres
        refine hc.mono ?_
        rintro e wt ⟨rfl, hb⟩
        clear hc c0 c1 c2 c3
        dsimp only
        have HPVt := Lib.hid (HPV9.out.later hb.size (fun k h _ => hb.block k h)).low9
        have HXwt := Lib.hid ((hb.block _ (lt_of_block HXw4.out)).trans HXw4.out)
        have HBwt := Lib.hid (HBw4.out.trans (hb.mono HBw4.out.size))
        clear hb
        go_wp2_with fail
        go_loopw [19, 97] (fun uv iv wr => ∃ i : Nat, i ≤ nw ∧ iv = .int .i64 i ∧ uv = .int .i64 (unionJ (p.take i) : Nat) ∧ Below wt.heap.size wt wr ∧ fromJ j p 0 = fromJ j p i) (fun _ iv _ => nw - (intOf iv).toNat)
        case atStart => exact ⟨0, Nat.zero_le _, rfl, rfl, Below.refl _ _, rfl⟩
        case round =>
          obtain ⟨i, hi, rfl, rfl, hb, hfr⟩ := hrel
          have HFR := Lib.hid hfr
          have HXwr := Lib.hid ((hb.block _ (lt_of_block HXwt.out)).trans HXwt.out)
          have HBwr := Lib.hid (HBwt.out.trans (hb.mono HBwt.out.size))
          have HBt := Lib.hid hb
          have HPVr := Lib.hid (HPVt.out.later hb.size (fun k h _ => hb.block k h)).low9
          clear hfr hb
          by_cases hlt : i < nw
          · have hw : IntKind.i64.wrap ((i : Int) + 1) = ((i + 1 : Nat) : Int) := by rw [IntWalk.i64_in _ (by omega)]; omega
            have hlti : (i : Int) < (nw : Int) := by omega
            have hi0 : 0 ≤ (i : Int) := by omega
            have hip : i < p.length := by rw [HPS.out.2.2]; exact hlt
            have hiw : i < j.ws.length := by rw [← HNW.out]; exact hlt
            have hnx := from_next j p i hip hiw
            have hus2 : unionJ (p.take i) < 256 := union_lt 8 (p.take i) 0 (by decide) (fun s hs => Nat.lt_of_lt_of_le (HPS.out.2.1 s (List.mem_of_mem_take hs)).2 (Nat.pow_le_pow_right (by decide) (by rw [← HNB.out]; exact hnb8)))
            have hun : unionJ (p.take (i + 1)) = unionJ (p.take i) ||| p[i] := union_take p i hip
            have hsp := HPS.out.2.1 p[i] (List.getElem_mem hip)
            have hgr := grade_right HV.out hsp j.ws[i]
            have hwo : wantOk j.ws[i] = true := (validJb_parts HV.out).2.2 _ (List.getElem_mem hiw)
            obtain ⟨a9, c9, e9, _, _, hel⟩ := HPVr.out
            injection e9 with e1 e2 e3
            obtain ⟨pb, po, hpe, _, _, e6⟩ := hel i (by rw [List.length_map]; exact hip)
            rw [List.getElem_map] at e6
            rw [hpe] at e1
            try subst e1
            clear hel e2 e3 hpe
            obtain ⟨a10, c10, e10, _, _, hel⟩ := HWS.out.later (W := wr) HBwr.out.size (fun k h1 _ => HBwr.out.block k h1)
            injection e10 with e1 e2 e3
            obtain ⟨wb, wo, hwe, _, _, e7, e8⟩ := hel i hiw
            rw [hwe] at e1
            try subst e1
            clear hel e2 e3 hwe
            obtain ⟨us, hus⟩ : ∃ y, y = unionJ (p.take i) := ⟨_, rfl⟩
            obtain ⟨s, hs⟩ : ∃ y, y = p[i] := ⟨_, rfl⟩
            obtain ⟨⟨lo, hi9⟩, hwant⟩ : ∃ y, y = j.ws[i] := ⟨_, rfl⟩
            rw [← hs] at e6 hsp hun hnx hgr
            rw [← hus] at hus2 hun hnx ⊢
            rw [← hwant] at e7 e8 hnx hwo hgr
            have hs256 : s < 256 := Nat.lt_of_lt_of_le hsp.2 (Nat.pow_le_pow_right (by decide) (by rw [← HNB.out]; exact hnb8) : _ ≤ 2 ^ 8)
            have HSP := Lib.hid (And.intro hsp hwo)
            have HNX := Lib.hid (And.intro hnx (And.intro hun hgr))
            clear hus hs hwant hsp hwo hnx hun hgr
            go_upto_region 19 with fail
            have hS0 : SK w.heap.size (.slice ao nb cap) (.slice (some ⟨wb, wo, none⟩) nw cap2) fl fh wb wo i lo hi9 wr := ⟨by rw [cell_of_row _ _ _ _ _ _ HXwr.out]; rfl, by rw [cell_of_row _ _ _ _ _ _ HXwr.out]; rfl, by rw [cell_of_row _ _ _ _ _ _ HXwr.out]; rfl, by rw [cell_of_row _ _ _ _ _ _ HXwr.out]; rfl, e7, e8⟩
            have HSK := Lib.hid hS0
            clear hS0 e6 e7 e8
            refine wp_region_held_drew (S := SK w.heap.size (.slice ao nb cap) (.slice (some ⟨wb, wo, none⟩) nw cap2) fl fh wb wo i lo hi9) (by kernel_rfl) (HSK.out.below (Below.refl _ _).drew) fun hS => ?_
            obtain ⟨D, hD⟩ : ∃ D, D = World.drew wr := ⟨_, rfl⟩
            have hAD : Below wr.heap.size wr D := by rw [hD]; exact (Below.refl _ _).drew
            rw [← hD] at hS ⊢
            have HBtD := Lib.hid (HBt.out.trans (hAD.mono HBt.out.size))
            have HBD := Lib.hid (HBwr.out.trans (hAD.mono HBwr.out.size))
            clear hD hAD
            refine wpAnyH_take (i := 0) (v := ?_) rfl (by kernel_rfl) (by kernel_rfl) (by kernel_rfl) (fun _ _ _ h => h) (Or.inl ⟨by rfl, ?_⟩) hS ?_
            rotate_left
            · (intro W hSw; obtain ⟨q0, q1, q2, q3, q4, q5⟩ := hSw; go_simp; try with_reducible rfl)
            try simp only [List.getElem_toArray, List.getElem_cons_succ, List.getElem_cons_zero, Act.put, List.setIfInBounds_toArray, List.set_cons_zero, List.set_cons_succ]
            refine wpAnyH_take (i := 1) (v := ?_) rfl (by kernel_rfl) (by kernel_rfl) (by kernel_rfl) (fun _ _ _ h => h) (Or.inl ⟨by rfl, ?_⟩) hS ?_
            rotate_left
            · (intro W hSw; obtain ⟨q0, q1, q2, q3, q4, q5⟩ := hSw; go_simp; try with_reducible rfl)
            try simp only [List.getElem_toArray, List.getElem_cons_succ, List.getElem_cons_zero, Act.put, List.setIfInBounds_toArray, List.set_cons_zero, List.set_cons_succ]
            refine wpAnyH_take (i := 2) (v := ?_) rfl (by kernel_rfl) (by kernel_rfl) (by kernel_rfl) (fun _ _ _ h => h) (Or.inl ⟨by rfl, ?_⟩) hS ?_
            rotate_left
            · (intro W hSw; obtain ⟨q0, q1, q2, q3, q4, q5⟩ := hSw; go_simp; try with_reducible rfl)
            try simp only [List.getElem_toArray, List.getElem_cons_succ, List.getElem_cons_zero, Act.put, List.setIfInBounds_toArray, List.set_cons_zero, List.set_cons_succ]
            refine wpAnyH_take (i := 3) (v := ?_) rfl (by kernel_rfl) (by kernel_rfl) (by kernel_rfl) (fun _ _ _ h => h) (Or.inl ⟨by rfl, ?_⟩) hS ?_
            rotate_left
            · (intro W hSw; obtain ⟨q0, q1, q2, q3, q4, q5⟩ := hSw; go_simp; try with_reducible rfl)
            try simp only [List.getElem_toArray, List.getElem_cons_succ, List.getElem_cons_zero, Act.put, List.setIfInBounds_toArray, List.set_cons_zero, List.set_cons_succ]
            refine wpAnyH_take (i := 4) (v := ?_) rfl (by kernel_rfl) (by kernel_rfl) (by kernel_rfl) (fun _ _ _ h => h) (Or.inl ⟨by rfl, ?_⟩) hS ?_
            rotate_left
            · (intro W hSw; obtain ⟨q0, q1, q2, q3, q4, q5⟩ := hSw; go_simp; try with_reducible rfl)
            try simp only [List.getElem_toArray, List.getElem_cons_succ, List.getElem_cons_zero, Act.put, List.setIfInBounds_toArray, List.set_cons_zero, List.set_cons_succ]
            refine wpAnyH_take (i := 5) (v := ?_) rfl (by kernel_rfl) (by kernel_rfl) (by kernel_rfl) (fun _ _ _ h => h) (Or.inl ⟨by rfl, ?_⟩) hS ?_
            rotate_left
            · (intro W hSw; obtain ⟨q0, q1, q2, q3, q4, q5⟩ := hSw; go_simp; try with_reducible rfl)
            try simp only [List.getElem_toArray, List.getElem_cons_succ, List.getElem_cons_zero, Act.put, List.setIfInBounds_toArray, List.set_cons_zero, List.set_cons_succ]
            refine wpAnyH_take (i := 6) (v := ?_) rfl (by kernel_rfl) (by kernel_rfl) (by kernel_rfl) (fun _ _ _ h => h) (Or.inl ⟨by rfl, ?_⟩) hS ?_
            rotate_left
            · (intro W hSw; obtain ⟨q0, q1, q2, q3, q4, q5⟩ := hSw; go_simp; try with_reducible rfl)
            try simp only [List.getElem_toArray, List.getElem_cons_succ, List.getElem_cons_zero, Act.put, List.setIfInBounds_toArray, List.set_cons_zero, List.set_cons_succ]
            refine wpAnyH_take (i := 7) (v := ?_) rfl (by kernel_rfl) (by kernel_rfl) (by kernel_rfl) (fun _ _ _ h => h) (Or.inl ⟨by rfl, ?_⟩) hS ?_
            rotate_left
            · (intro W hSw; obtain ⟨q0, q1, q2, q3, q4, q5⟩ := hSw; go_simp; try with_reducible rfl)
            try simp only [List.getElem_toArray, List.getElem_cons_succ, List.getElem_cons_zero, Act.put, List.setIfInBounds_toArray, List.set_cons_zero, List.set_cons_succ]
            have hc := rightS_any j.st (.slice ao nb cap) s (lo, hi9) D (validJb_parts HV.out).1 HSP.out.1.1 HSP.out.1.2 HSP.out.2 (HBS.out.later HBD.out.size (fun k h1 _ => HBD.out.block k h1)).low9
            have hsv : stackV j.st (.slice ao nb cap) = .agg #[.slice ao nb cap, .int .i64 fl, .int .i64 fh] := by unfold stackV; rw [← HFL.out.1, ← HFL.out.2]
            obtain ⟨gr, hgr⟩ : ∃ y, y = gradeS j.st s (lo, hi9) := ⟨_, rfl⟩
            rw [hsv, ← hgr] at hc
            have HGR := Lib.hid hgr
            refine wpAnyH_call (k := 8) (by kernel_rfl) rfl rfl (f := 33) (args := #[.agg #[.slice ao nb cap, .int .i64 fl, .int .i64 fh], .int .i64 s, .agg #[.int .i64 lo, .int .i64 hi9]]) (by simp [execOp, go_sem, Act.eval, Act.put]) ?_
            refine hc.mono ?_
            rintro e w7 ⟨rfl, hb⟩
            clear hc hsv hgr
            dsimp only
            have HBt7 := Lib.hid (HBtD.out.trans (hb.mono HBtD.out.size))
            have HBw7 := Lib.hid (HBD.out.trans (hb.mono HBD.out.size))
            have hS7 := hS.below hb
            clear hb hS
            refine ⟨hS7, ?_⟩
            have hS := hS7
            clear hS7
            try simp only [List.getElem_toArray, List.getElem_cons_succ, List.getElem_cons_zero, Act.put, List.setIfInBounds_toArray, List.set_cons_zero, List.set_cons_succ]
            refine wpAnyH_take (i := 9) (v := ?_) rfl (by kernel_rfl) (by kernel_rfl) (by kernel_rfl) (fun _ _ _ h => h) (Or.inl ⟨by rfl, ?_⟩) hS ?_
            rotate_left
            · (intro W hSw; obtain ⟨q0, q1, q2, q3, q4, q5⟩ := hSw; go_simp; try with_reducible rfl)
            try simp only [List.getElem_toArray, List.getElem_cons_succ, List.getElem_cons_zero, Act.put, List.setIfInBounds_toArray, List.set_cons_zero, List.set_cons_succ]
            refine wpAnyH_take (i := 10) (v := ?_) rfl (by kernel_rfl) (by kernel_rfl) (by kernel_rfl) (fun _ _ _ h => h) (Or.inl ⟨by rfl, ?_⟩) hS ?_
            rotate_left
            · (intro W hSw; obtain ⟨q0, q1, q2, q3, q4, q5⟩ := hSw; go_simp; try with_reducible rfl)
            try simp only [List.getElem_toArray, List.getElem_cons_succ, List.getElem_cons_zero, Act.put, List.setIfInBounds_toArray, List.set_cons_zero, List.set_cons_succ]
            refine wpAnyH_take (i := 11) (v := ?_) rfl (by kernel_rfl) (by kernel_rfl) (by kernel_rfl) (fun _ _ _ h => h) (Or.inl ⟨by rfl, ?_⟩) hS ?_
            rotate_left
            · (intro W hSw; obtain ⟨q0, q1, q2, q3, q4, q5⟩ := hSw; go_simp; try with_reducible rfl)
            try simp only [List.getElem_toArray, List.getElem_cons_succ, List.getElem_cons_zero, Act.put, List.setIfInBounds_toArray, List.set_cons_zero, List.set_cons_succ]
            refine wpAnyH_take (i := 12) (v := ?_) rfl (by kernel_rfl) (by kernel_rfl) (by kernel_rfl) (fun _ _ _ h => h) (Or.inl ⟨by rfl, ?_⟩) hS ?_
            rotate_left
            · (intro W hSw; obtain ⟨q0, q1, q2, q3, q4, q5⟩ := hSw; go_simp; try with_reducible rfl)
            try simp only [List.getElem_toArray, List.getElem_cons_succ, List.getElem_cons_zero, Act.put, List.setIfInBounds_toArray, List.set_cons_zero, List.set_cons_succ]
            refine wpAnyH_take (i := 13) (v := ?_) rfl (by kernel_rfl) (by kernel_rfl) (by kernel_rfl) (fun _ _ _ h => h) (Or.inl ⟨by rfl, ?_⟩) hS ?_
            rotate_left
            · (intro W hSw; obtain ⟨q0, q1, q2, q3, q4, q5⟩ := hSw; go_simp; try with_reducible rfl)
            try simp only [List.getElem_toArray, List.getElem_cons_succ, List.getElem_cons_zero, Act.put, List.setIfInBounds_toArray, List.set_cons_zero, List.set_cons_succ]
            refine wpAnyH_done (by kernel_rfl) ?_ _
            try simp only [List.getElem_toArray, List.getElem_cons_succ, List.getElem_cons_zero, Act.put, List.setIfInBounds_toArray, List.set_cons_zero, List.set_cons_succ]
            clear hS
            by_cases hr : s ∈ rightsS j.st (lo, hi9)
            · have hg2 : gr = 2 := by rw [HGR.out]; exact HNX.out.2.2.2 hr
              have hand := and_i64 us s (by omega) (by omega)
              have hor := or_i64 us s (by omega) (by omega)
              subst hg2
              by_cases hz : s &&& us = 0
              · have hz2 : us &&& s = 0 := by rw [Nat.and_comm]; exact hz
                rw [hz2] at hand
                have hfn := HNX.out.1
                rw [if_neg (fun h => h hr), if_neg (fun h => h hz)] at hfn
                have HF2 := Lib.hid (HFR.out.trans hfn)
                obtain ⟨un, hune⟩ : ∃ y, y = us ||| s := ⟨_, rfl⟩
                rw [← hune] at hor
                have HUE := Lib.hid hune
                clear hz hz2 hr hfn hune
                go_wp2_with fail
                exact ⟨⟨i + 1, hlt, by push_cast; rfl, by rw [HNX.out.2.1, ← HUE.out], HBt7.out, HF2.out⟩, by simp [intOf]; omega⟩
              · have hz2 : us &&& s ≠ 0 := by rw [Nat.and_comm]; exact hz
                have hfn := HNX.out.1
                rw [if_neg (fun h => h hr), if_pos hz] at hfn
                have hres := HRES.out
                rw [HFR.out, hfn] at hres
                injection hres with h1 h3
                injection h1 with h1 h2
                subst h1 h2 h3
                obtain ⟨an, hane⟩ : ∃ y, y = us &&& s := ⟨_, rfl⟩
                rw [← hane] at hand hz2
                have hz3 : ¬ (an : Int) = 0 := by omega
                have hz4 : ((an : Int) == 0) = false := by rw [beq_eq_false_iff_ne]; exact hz3
                clear hz hr hfn hane
                go_wp2_with fail
                refine (lawake_any _ (HTZ.out.below HBw7.out h1z)).mono ?_
                rintro e w9 ⟨rfl, hb9⟩
                dsimp only
                have HB9 := Lib.hid (HBw7.out.trans (hb9.mono HBw7.out.size))
                clear hb9
                go_wp2_with fail
                go_ret
                exact ⟨rfl, HB9.out⟩
            · have hg2 : ¬ gr = 2 := by rw [HGR.out]; exact fun h => hr (HNX.out.2.2.1 h)
              have hg3 : (gr == 2) = false := by rw [beq_eq_false_iff_ne]; exact hg2
              have hfn := HNX.out.1
              rw [if_pos hr] at hfn
              have hres := HRES.out
              rw [HFR.out, hfn] at hres
              injection hres with h1 h3
              injection h1 with h1 h2
              subst h1 h2 h3
              clear hr hfn
              go_wp2_with fail
              refine (lawake_any _ (HTZ.out.below HBw7.out h1z)).mono ?_
              rintro e w9 ⟨rfl, hb9⟩
              dsimp only
              have HB9 := Lib.hid (HBw7.out.trans (hb9.mono HBw7.out.size))
              clear hb9
              go_wp2_with fail
              go_ret
              exact ⟨rfl, HB9.out⟩
          · have hin : nw = i := by omega
            subst hin
            have hlti : ¬ (nw : Int) < (nw : Int) := by omega
            have hres := HRES.out
            rw [HFR.out, ← HPS.out.2.2, from_end] at hres
            injection hres with h1 h3
            injection h1 with h1 h2
            subst h1 h2 h3
            clear hlt
            go_wp2_with fail
            refine (lawake_any _ (HTZ.out.below HBwr.out h1z)).mono ?_
            rintro e w9 ⟨rfl, hb9⟩
            dsimp only
            have HB9 := Lib.hid (HBwr.out.trans (hb9.mono HBwr.out.size))
            clear hb9
            go_wp2_with fail
            go_ret
            exact ⟨rfl, HB9.out⟩
      · have hn1 : 1 ≤ nw := by omega
        have hn1i : 0 < nw := by omega
        obtain ⟨a9, c9, e9, hc8, hc9, hel⟩ := HPN4.out
        rw [List.length_map, HPS.out.2.2] at e9
        injection e9 with e1 e2 e3
        subst e1 e3
        clear e2
        rw [List.length_map, HPS.out.2.2] at hc8
        obtain ⟨qb, qo, hqe, _, hqb, _⟩ := hel 0 (by rw [List.length_map, HPS.out.2.2]; omega)
        subst hqe
        obtain ⟨qt, hqt⟩ : ∃ y, y = if c8 = 1 then qo else qo + 1 := ⟨_, rfl⟩
        have hqi : (if c8 = 1 then some ({ block := qb, off := qo } : Addr) else some { block := qb, off := qo + 1 }) = some { block := qb, off := qt } := by rw [hqt]; split <;> rfl
        have HQI := Lib.hid hqi
        have htl : ∀ Y, Below w4.heap.size w4 Y → ∀ (k : Nat) (u : Value), (((p.drop 1).map fun s : Nat => (s : Int)).map (Value.int .i64))[k]? = some u → Y.cell? (Addr.add ⟨qb, qt, none⟩ k) = some u := fun Y hb k u hu => by
          obtain ⟨hk, rfl⟩ := List.getElem?_eq_some_iff.1 hu
          have hk2 : k + 1 < (p.map fun s : Nat => (s : Int)).length := by
            have := HPS.out.2.2
            simp at hk ⊢
            omega
          have hq1 : qt = qo + 1 := by
            rw [hqt, if_neg]
            have := HPS.out.2.2
            simp at hk2
            omega
          obtain ⟨b', o', e1, _, hbl, e3⟩ := hel (k + 1) hk2
          injection e1 with e1
          injection e1 with e1 e2 _
          subst e1 e2
          rw [hq1, show Addr.add ⟨qb, qo + 1, none⟩ k = ⟨qb, qo + (k + 1), none⟩ from by rw [Addr.add_lit, Nat.add_assoc, Nat.add_comm 1 k]]
          rw [(World.cell?_of_block (w := w4) (w' := Y) (a := ⟨qb, qo + (k + 1), none⟩) (hb.block qb hbl)).trans e3]
          simp
        have HTL := Lib.hid htl
        have hsx : ∀ Y, Below w4.heap.size w4 Y → SMC w.heap.size (.slice ao nb cap) (.slice ao2 nw cap2) fl fh Y := fun Y hb => by
          have hx := (hb.block _ (lt_of_block HXw4.out)).trans HXw4.out
          exact ⟨by rw [cell_of_row _ _ _ _ _ _ hx]; rfl, by rw [cell_of_row _ _ _ _ _ _ hx]; rfl, by rw [cell_of_row _ _ _ _ _ _ hx]; rfl, by rw [cell_of_row _ _ _ _ _ _ hx]; rfl⟩
        have HSX := Lib.hid hsx
        have HB4w4 := Lib.hid (Below.refl w4.heap.size w4)
        clear htl hel hsx hqb hc9 hqi hqt
        have hn1j : 1 ≤ (nw : Int) := by omega
        go_upto_region 10 with fail
        refine region_cut [some 55, some 56, some 57, some 58, some 59, some 60, some 61, some 62, some 54, some 63, some 64, some 65, some 10, some 11, some 12] (fun xs Y => ∃ g1 g5 v4 v6, xs = [.agg #[.slice ao nb cap, .int .i64 fl, .int .i64 fh, .slice ao2 nw cap2], .slice (some ⟨g1, 0, none⟩) 0 0, .slice (some ⟨qb, qo, none⟩) nw c8, .slice (some ⟨qb, qt, none⟩) (nw - 1) (c8 - 1), v4, .slice (some ⟨g5, 0, none⟩) 1 1, v6, .tuple #[.int .i64 0, .int .i64 0, .int .i64 2], .tuple #[.int .i64 0, .int .i64 0, .int .i64 2], .int .i64 0, .int .i64 0, .int .i64 2, .int .i64 0, .int .i64 0, .int .i64 2] ∧ Below w4.heap.size w4 Y) ?_ ?_
        · skip
          refine wp_region_held_drew (S := SMC w.heap.size (.slice ao nb cap) (.slice ao2 nw cap2) fl fh) (by kernel_rfl) (HSX.out _ HB4w4.out.drew) fun hS => ?_
          obtain ⟨D4, hD⟩ : ∃ D, D = World.drew w4 := ⟨_, rfl⟩
          have hAD : Below w4.heap.size w4 D4 := by rw [hD]; exact (Below.refl _ _).drew
          rw [← hD] at hS ⊢
          have HB4D4 := Lib.hid (HB4w4.out.trans (hAD.mono HB4w4.out.size))
          clear hD hAD
          refine wpAnyH_take (i := 0) (v := ?_) rfl (by kernel_rfl) (by kernel_rfl) (by kernel_rfl) (fun _ _ _ h => nomatch h.1) (Or.inl ⟨by rfl, ?_⟩) hS ?_
          rotate_left
          · (intro W hSw; obtain ⟨q0, q1, q2, q3⟩ := hSw; go_simp; try with_reducible rfl)
          try simp only [List.getElem_toArray, List.getElem_cons_succ, List.getElem_cons_zero, Act.put, List.setIfInBounds_toArray, List.set_cons_zero, List.set_cons_succ]
          refine wpAnyH_take (i := 2) (v := ?_) rfl (by kernel_rfl) (by kernel_rfl) (by kernel_rfl) (fun _ _ _ h => nomatch h.1) (Or.inl ⟨by rfl, ?_⟩) hS ?_
          rotate_left
          · (intro W hSw; obtain ⟨q0, q1, q2, q3⟩ := hSw; go_simp; try with_reducible rfl)
          try simp only [List.getElem_toArray, List.getElem_cons_succ, List.getElem_cons_zero, Act.put, List.setIfInBounds_toArray, List.set_cons_zero, List.set_cons_succ]
          refine wpAnyH_take (i := 3) (v := ?_) rfl (by kernel_rfl) (by kernel_rfl) (by kernel_rfl) (fun _ _ _ h => nomatch h.1) (Or.inl ⟨by rfl, ?_⟩) hS ?_
          rotate_left
          · (intro W hSw; obtain ⟨q0, q1, q2, q3⟩ := hSw; go_simp; try with_reducible rfl)
          try simp only [List.getElem_toArray, List.getElem_cons_succ, List.getElem_cons_zero, Act.put, List.setIfInBounds_toArray, List.set_cons_zero, List.set_cons_succ]
          rw [HQI.out]
          refine wpAnyH_all (rs := [1, 5]) (by kernel_rfl) (by simp) fun i hi => ?_
          rcases (show i = 1 ∨ i = 5 by simpa using hi) with rfl | rfl <;> clear hi <;> refine wpOp_of rfl (by kernel_rfl) ?_
          · skip
            obtain ⟨g1, hg1⟩ : ∃ g, g = D4.heap.size := ⟨_, rfl⟩
            refine oper_value (v := .slice (some ⟨g1, 0, none⟩) 0 0) (w' := D4.alloc (.cells #[] 3)) (by rw [hg1]; simp [execOp, go_sem, Act.eval, Act.put]) ?_
            have hb := Below.alloc' D4 (.cells #[] 3)
            have hc1 : (D4.alloc (.cells #[] 3)).heap[g1]? = some (.cells #[] 3 (0, 0)) := heap_alloc_at _ _ _ hg1
            obtain ⟨Y1, hZ⟩ : ∃ W, W = D4.alloc (.cells #[] 3) := ⟨_, rfl⟩
            rw [← hZ] at hb hc1 ⊢
            have HC1 := Lib.hid hc1
            have HG1 := Lib.hid (show w4.heap.size ≤ g1 by rw [hg1]; exact HB4D4.out.size)
            try have HNE := Lib.hid (show g1 ≠ g5 by have := lt_of_block HC5.out; omega)
            try have HC5 := Lib.hid ((hb.block _ (lt_of_block HC5.out)).trans HC5.out)
            have HB4Y1 := Lib.hid (HB4D4.out.trans (hb.mono HB4D4.out.size))
            clear hZ hc1 hg1
            have hS9 := hS.below hb
            refine ⟨hS9, ?_⟩
            clear hS
            have hS := hS9
            clear hS9
            try simp only [List.getElem_toArray, List.getElem_cons_succ, List.getElem_cons_zero, Act.put, List.setIfInBounds_toArray, List.set_cons_zero, List.set_cons_succ]
            clear hb
            refine wpAnyH_all (rs := [4, 5]) (by kernel_rfl) (by simp) fun i hi => ?_
            rcases (show i = 4 ∨ i = 5 by simpa using hi) with rfl | rfl <;> clear hi <;> refine wpOp_of rfl (by kernel_rfl) ?_
            · skip
              refine wp_append_here (.tmp 56) (.tmp 58) 32 rfl w4.heap.size 3 1 8 (.int .i64 0) underInts infoInt rfl (by decide) (.slice (some ⟨g1, 0, none⟩) 0 0) 0 [] rfl (own_empty9 HC1.out HG1.out) ⟨qb, qt, none⟩ (nw - 1) (c8 - 1) (((p.drop 1).map fun s : Nat => (s : Int)).map (Value.int .i64)) rfl (by rw [List.length_map, List.length_map, List.length_drop, HPS.out.2.2, Nat.mul_one]) (HTL.out Y1 HB4Y1.out) (by intro u hu; obtain ⟨y, _, rfl⟩ := List.mem_map.1 hu; rfl) (by omega) (by decide) HB4Y1.out.size ?_
              intro v4 Y2 ho4 hg4 _
              have hk4 := keeps_grown hg4
              have hb4 : Below w4.heap.size w4 Y2 := HB4Y1.out.trans (hk4.below HB4Y1.out.size (fun k h e => by have := HG1.out; simp [Value.ownBlock] at e; omega))
              try have HC5 := Lib.hid ((hk4.block g5 (lt_of_block HC5.out) (fun e => by have := HNE.out; simp [Value.ownBlock] at e; omega)).trans HC5.out)
              have HO4 := Lib.hid (show World.ownsRow Y2 w4.heap.size 3 1 v4 (nw - 1) (((p.drop 1).map fun s : Nat => (s : Int)).map (Value.int .i64)) by simpa using ho4)
              have HB4Y2 := Lib.hid hb4
              have hS9 := HSX.out Y2 hb4
              refine ⟨hS9, ?_⟩
              clear hS
              have hS := hS9
              clear hS9 hb4 hk4 ho4 hg4
              try simp only [List.getElem_toArray, List.getElem_cons_succ, List.getElem_cons_zero, Act.put, List.setIfInBounds_toArray, List.set_cons_zero, List.set_cons_succ]
              refine wpAnyH_all (rs := [5]) (by kernel_rfl) (by simp) fun i hi => ?_
              obtain rfl : i = 5 := by simpa using hi
              clear hi
              refine wpOp_of rfl (by kernel_rfl) ?_
              obtain ⟨g5, hg5⟩ : ∃ g, g = Y2.heap.size := ⟨_, rfl⟩
              refine oper_value (v := .slice (some ⟨g5, 0, none⟩) 1 1) (w' := Y2.alloc (.cells #[.int .i64 0] 3)) (by rw [hg5]; simp [execOp, go_sem, Act.eval, Act.put]) ?_
              have hb := Below.alloc' Y2 (.cells #[.int .i64 0] 3)
              have hc5 : (Y2.alloc (.cells #[.int .i64 0] 3)).heap[g5]? = some (.cells #[.int .i64 0] 3 (0, 0)) := heap_alloc_at _ _ _ hg5
              obtain ⟨Y3, hZ⟩ : ∃ W, W = Y2.alloc (.cells #[.int .i64 0] 3) := ⟨_, rfl⟩
              rw [← hZ] at hb hc5 ⊢
              have HC5 := Lib.hid hc5
              try have HNE := Lib.hid (show g1 ≠ g5 by have := lt_of_block HC1.out; omega)
              try have HC1 := Lib.hid ((hb.block _ (lt_of_block HC1.out)).trans HC1.out)
              try have HO4 := Lib.hid (own_below HO4.out hb)
              have HB4Y3 := Lib.hid (HB4Y2.out.trans (hb.mono HB4Y2.out.size))
              clear hZ hc5 hg5
              have hS9 := hS.below hb
              refine ⟨hS9, ?_⟩
              clear hS
              have hS := hS9
              clear hS9
              try simp only [List.getElem_toArray, List.getElem_cons_succ, List.getElem_cons_zero, Act.put, List.setIfInBounds_toArray, List.set_cons_zero, List.set_cons_succ]
              clear hb
              refine wpAnyH_all (rs := [6]) (by kernel_rfl) (by simp) fun i hi => ?_
              obtain rfl : i = 6 := by simpa using hi
              clear hi
              refine wpOp_of rfl (by kernel_rfl) ?_
              refine wp_append_here (.tmp 59) (.tmp 60) 32 rfl w4.heap.size 3 1 8 (.int .i64 0) underInts infoInt rfl (by decide) v4 (nw - 1) (((p.drop 1).map fun s : Nat => (s : Int)).map (Value.int .i64)) rfl HO4.out ⟨g5, 0, none⟩ 1 1 [.int .i64 0] rfl rfl (news_block HC5.out) (by simp [Value.oneCell']) (by omega) (by decide) HB4Y3.out.size ?_
              intro v6 Y6 ho6 hg6 _
              have hk6 := keeps_grown hg6
              have hb6 : Below w4.heap.size w4 Y6 := HB4Y3.out.trans (hk6.below HB4Y3.out.size (fun k h e => by have := (HO4.out.lt k e).1; omega))
              have hn6 : NumsAt Y6 v6 (((p.drop 1).map fun s : Nat => (s : Int)) ++ [0]) (fun k => w4.heap.size ≤ k) := nums_of_own (show nw - 1 + 1 = _ by rw [List.length_append, List.length_map, List.length_drop, HPS.out.2.2]; rfl) (by rw [List.map_append]; exact ho6)
              have HN6 := Lib.hid hn6.low9
              have HB4Y6 := Lib.hid hb6
              have hS9 := HSX.out Y6 hb6
              refine ⟨hS9, ?_⟩
              clear hS
              have hS := hS9
              clear hS9 hb6 hk6 ho6 hg6 hn6
              try simp only [List.getElem_toArray, List.getElem_cons_succ, List.getElem_cons_zero, Act.put, List.setIfInBounds_toArray, List.set_cons_zero, List.set_cons_succ]
              have HBwY6 := Lib.hid (HBw4.out.trans (HB4Y6.out.mono HBw4.out.size))
              have hc := Check_any j (.slice ao nb cap) (.slice ao2 nw cap2) (((p.drop 1).map fun s : Nat => (s : Int)) ++ [0]) v6 Y6 (HBS.out.later HBwY6.out.size (fun k h1 _ => HBwY6.out.block k h1)).low9 (HWS.out.later HBwY6.out.size (fun k h1 _ => HBwY6.out.block k h1)).low9 HN6.out (by rw [List.length_append, List.length_map, List.length_drop, HPS.out.2.2]; simp; omega)
              rw [HJV.out, check_range HV.out (notplan_mem j _ 0 (by simp) (notset_zero _))] at hc
              refine wpAnyH_call (k := 7) (by kernel_rfl) rfl rfl (f := 21) (args := #[.agg #[.slice ao nb cap, .int .i64 fl, .int .i64 fh, .slice ao2 nw cap2], v6]) (by simp [execOp, go_sem, Act.eval, Act.put]) ?_
              refine hc.mono ?_
              rintro e Y7 ⟨rfl, hb⟩
              clear hc
              dsimp only
              have HB4Y7 := Lib.hid (HB4Y6.out.trans (hb.mono HB4Y6.out.size))
              have hS9 := hS.below hb
              refine ⟨hS9, ?_⟩
              clear hS
              have hS := hS9
              clear hS9
              try simp only [List.getElem_toArray, List.getElem_cons_succ, List.getElem_cons_zero, Act.put, List.setIfInBounds_toArray, List.set_cons_zero, List.set_cons_succ]
              clear hb
              refine wpAnyH_take (i := 8) (v := ?_) rfl (by kernel_rfl) (by kernel_rfl) (by kernel_rfl) (fun _ _ _ h => nomatch h.1) (Or.inl ⟨by rfl, ?_⟩) hS ?_
              rotate_left
              · (intro W hSw; obtain ⟨q0, q1, q2, q3⟩ := hSw; go_simp; try with_reducible rfl)
              try simp only [List.getElem_toArray, List.getElem_cons_succ, List.getElem_cons_zero, Act.put, List.setIfInBounds_toArray, List.set_cons_zero, List.set_cons_succ]
              refine wpAnyH_take (i := 9) (v := ?_) rfl (by kernel_rfl) (by kernel_rfl) (by kernel_rfl) (fun _ _ _ h => nomatch h.1) (Or.inl ⟨by rfl, ?_⟩) hS ?_
              rotate_left
              · (intro W hSw; obtain ⟨q0, q1, q2, q3⟩ := hSw; go_simp; try with_reducible rfl)
              try simp only [List.getElem_toArray, List.getElem_cons_succ, List.getElem_cons_zero, Act.put, List.setIfInBounds_toArray, List.set_cons_zero, List.set_cons_succ]
              refine wpAnyH_take (i := 10) (v := ?_) rfl (by kernel_rfl) (by kernel_rfl) (by kernel_rfl) (fun _ _ _ h => nomatch h.1) (Or.inl ⟨by rfl, ?_⟩) hS ?_
              rotate_left
              · (intro W hSw; obtain ⟨q0, q1, q2, q3⟩ := hSw; go_simp; try with_reducible rfl)
              try simp only [List.getElem_toArray, List.getElem_cons_succ, List.getElem_cons_zero, Act.put, List.setIfInBounds_toArray, List.set_cons_zero, List.set_cons_succ]
              refine wpAnyH_take (i := 11) (v := ?_) rfl (by kernel_rfl) (by kernel_rfl) (by kernel_rfl) (fun _ _ _ h => nomatch h.1) (Or.inl ⟨by rfl, ?_⟩) hS ?_
              rotate_left
              · (intro W hSw; obtain ⟨q0, q1, q2, q3⟩ := hSw; go_simp; try with_reducible rfl)
              try simp only [List.getElem_toArray, List.getElem_cons_succ, List.getElem_cons_zero, Act.put, List.setIfInBounds_toArray, List.set_cons_zero, List.set_cons_succ]
              refine wpAnyH_take (i := 12) (v := ?_) rfl (by kernel_rfl) (by kernel_rfl) (by kernel_rfl) (fun _ _ _ h => nomatch h.1) (Or.inl ⟨by rfl, ?_⟩) hS ?_
              rotate_left
              · (intro W hSw; obtain ⟨q0, q1, q2, q3⟩ := hSw; go_simp; try with_reducible rfl)
              try simp only [List.getElem_toArray, List.getElem_cons_succ, List.getElem_cons_zero, Act.put, List.setIfInBounds_toArray, List.set_cons_zero, List.set_cons_succ]
              refine wpAnyH_take (i := 13) (v := ?_) rfl (by kernel_rfl) (by kernel_rfl) (by kernel_rfl) (fun _ _ _ h => nomatch h.1) (Or.inl ⟨by rfl, ?_⟩) hS ?_
              rotate_left
              · (intro W hSw; obtain ⟨q0, q1, q2, q3⟩ := hSw; go_simp; try with_reducible rfl)
              try simp only [List.getElem_toArray, List.getElem_cons_succ, List.getElem_cons_zero, Act.put, List.setIfInBounds_toArray, List.set_cons_zero, List.set_cons_succ]
              refine wpAnyH_take (i := 14) (v := ?_) rfl (by kernel_rfl) (by kernel_rfl) (by kernel_rfl) (fun _ _ _ h => nomatch h.1) (Or.inl ⟨by rfl, ?_⟩) hS ?_
              rotate_left
              · (intro W hSw; obtain ⟨q0, q1, q2, q3⟩ := hSw; go_simp; try with_reducible rfl)
              try simp only [List.getElem_toArray, List.getElem_cons_succ, List.getElem_cons_zero, Act.put, List.setIfInBounds_toArray, List.set_cons_zero, List.set_cons_succ]
              refine wpAnyH_done (by kernel_rfl) ?_ _
              try simp only [List.getElem_toArray, List.getElem_cons_succ, List.getElem_cons_zero, Act.put, List.setIfInBounds_toArray, List.set_cons_zero, List.set_cons_succ]
              refine ⟨rfl, _, ?_, ⟨g1, g5, v4, v6, rfl, HB4Y7.out⟩⟩
              simp only [PutAll, Act.put, List.setIfInBounds_toArray, List.set_cons_zero, List.set_cons_succ]
            · skip
              obtain ⟨g5, hg5⟩ : ∃ g, g = Y1.heap.size := ⟨_, rfl⟩
              refine oper_value (v := .slice (some ⟨g5, 0, none⟩) 1 1) (w' := Y1.alloc (.cells #[.int .i64 0] 3)) (by rw [hg5]; simp [execOp, go_sem, Act.eval, Act.put]) ?_
              have hb := Below.alloc' Y1 (.cells #[.int .i64 0] 3)
              have hc5 : (Y1.alloc (.cells #[.int .i64 0] 3)).heap[g5]? = some (.cells #[.int .i64 0] 3 (0, 0)) := heap_alloc_at _ _ _ hg5
              obtain ⟨Y2, hZ⟩ : ∃ W, W = Y1.alloc (.cells #[.int .i64 0] 3) := ⟨_, rfl⟩
              rw [← hZ] at hb hc5 ⊢
              have HC5 := Lib.hid hc5
              try have HNE := Lib.hid (show g1 ≠ g5 by have := lt_of_block HC1.out; omega)
              try have HC1 := Lib.hid ((hb.block _ (lt_of_block HC1.out)).trans HC1.out)
              try have HO4 := Lib.hid (own_below HO4.out hb)
              have HB4Y2 := Lib.hid (HB4Y1.out.trans (hb.mono HB4Y1.out.size))
              clear hZ hc5 hg5
              have hS9 := hS.below hb
              refine ⟨hS9, ?_⟩
              clear hS
              have hS := hS9
              clear hS9
              try simp only [List.getElem_toArray, List.getElem_cons_succ, List.getElem_cons_zero, Act.put, List.setIfInBounds_toArray, List.set_cons_zero, List.set_cons_succ]
              clear hb
              refine wpAnyH_all (rs := [4]) (by kernel_rfl) (by simp) fun i hi => ?_
              obtain rfl : i = 4 := by simpa using hi
              clear hi
              refine wpOp_of rfl (by kernel_rfl) ?_
              refine wp_append_here (.tmp 56) (.tmp 58) 32 rfl w4.heap.size 3 1 8 (.int .i64 0) underInts infoInt rfl (by decide) (.slice (some ⟨g1, 0, none⟩) 0 0) 0 [] rfl (own_empty9 HC1.out HG1.out) ⟨qb, qt, none⟩ (nw - 1) (c8 - 1) (((p.drop 1).map fun s : Nat => (s : Int)).map (Value.int .i64)) rfl (by rw [List.length_map, List.length_map, List.length_drop, HPS.out.2.2, Nat.mul_one]) (HTL.out Y2 HB4Y2.out) (by intro u hu; obtain ⟨y, _, rfl⟩ := List.mem_map.1 hu; rfl) (by omega) (by decide) HB4Y2.out.size ?_
              intro v4 Y3 ho4 hg4 _
              have hk4 := keeps_grown hg4
              have hb4 : Below w4.heap.size w4 Y3 := HB4Y2.out.trans (hk4.below HB4Y2.out.size (fun k h e => by have := HG1.out; simp [Value.ownBlock] at e; omega))
              try have HC5 := Lib.hid ((hk4.block g5 (lt_of_block HC5.out) (fun e => by have := HNE.out; simp [Value.ownBlock] at e; omega)).trans HC5.out)
              have HO4 := Lib.hid (show World.ownsRow Y3 w4.heap.size 3 1 v4 (nw - 1) (((p.drop 1).map fun s : Nat => (s : Int)).map (Value.int .i64)) by simpa using ho4)
              have HB4Y3 := Lib.hid hb4
              have hS9 := HSX.out Y3 hb4
              refine ⟨hS9, ?_⟩
              clear hS
              have hS := hS9
              clear hS9 hb4 hk4 ho4 hg4
              try simp only [List.getElem_toArray, List.getElem_cons_succ, List.getElem_cons_zero, Act.put, List.setIfInBounds_toArray, List.set_cons_zero, List.set_cons_succ]
              refine wpAnyH_all (rs := [6]) (by kernel_rfl) (by simp) fun i hi => ?_
              obtain rfl : i = 6 := by simpa using hi
              clear hi
              refine wpOp_of rfl (by kernel_rfl) ?_
              refine wp_append_here (.tmp 59) (.tmp 60) 32 rfl w4.heap.size 3 1 8 (.int .i64 0) underInts infoInt rfl (by decide) v4 (nw - 1) (((p.drop 1).map fun s : Nat => (s : Int)).map (Value.int .i64)) rfl HO4.out ⟨g5, 0, none⟩ 1 1 [.int .i64 0] rfl rfl (news_block HC5.out) (by simp [Value.oneCell']) (by omega) (by decide) HB4Y3.out.size ?_
              intro v6 Y6 ho6 hg6 _
              have hk6 := keeps_grown hg6
              have hb6 : Below w4.heap.size w4 Y6 := HB4Y3.out.trans (hk6.below HB4Y3.out.size (fun k h e => by have := (HO4.out.lt k e).1; omega))
              have hn6 : NumsAt Y6 v6 (((p.drop 1).map fun s : Nat => (s : Int)) ++ [0]) (fun k => w4.heap.size ≤ k) := nums_of_own (show nw - 1 + 1 = _ by rw [List.length_append, List.length_map, List.length_drop, HPS.out.2.2]; rfl) (by rw [List.map_append]; exact ho6)
              have HN6 := Lib.hid hn6.low9
              have HB4Y6 := Lib.hid hb6
              have hS9 := HSX.out Y6 hb6
              refine ⟨hS9, ?_⟩
              clear hS
              have hS := hS9
              clear hS9 hb6 hk6 ho6 hg6 hn6
              try simp only [List.getElem_toArray, List.getElem_cons_succ, List.getElem_cons_zero, Act.put, List.setIfInBounds_toArray, List.set_cons_zero, List.set_cons_succ]
              have HBwY6 := Lib.hid (HBw4.out.trans (HB4Y6.out.mono HBw4.out.size))
              have hc := Check_any j (.slice ao nb cap) (.slice ao2 nw cap2) (((p.drop 1).map fun s : Nat => (s : Int)) ++ [0]) v6 Y6 (HBS.out.later HBwY6.out.size (fun k h1 _ => HBwY6.out.block k h1)).low9 (HWS.out.later HBwY6.out.size (fun k h1 _ => HBwY6.out.block k h1)).low9 HN6.out (by rw [List.length_append, List.length_map, List.length_drop, HPS.out.2.2]; simp; omega)
              rw [HJV.out, check_range HV.out (notplan_mem j _ 0 (by simp) (notset_zero _))] at hc
              refine wpAnyH_call (k := 7) (by kernel_rfl) rfl rfl (f := 21) (args := #[.agg #[.slice ao nb cap, .int .i64 fl, .int .i64 fh, .slice ao2 nw cap2], v6]) (by simp [execOp, go_sem, Act.eval, Act.put]) ?_
              refine hc.mono ?_
              rintro e Y7 ⟨rfl, hb⟩
              clear hc
              dsimp only
              have HB4Y7 := Lib.hid (HB4Y6.out.trans (hb.mono HB4Y6.out.size))
              have hS9 := hS.below hb
              refine ⟨hS9, ?_⟩
              clear hS
              have hS := hS9
              clear hS9
              try simp only [List.getElem_toArray, List.getElem_cons_succ, List.getElem_cons_zero, Act.put, List.setIfInBounds_toArray, List.set_cons_zero, List.set_cons_succ]
              clear hb
              refine wpAnyH_take (i := 8) (v := ?_) rfl (by kernel_rfl) (by kernel_rfl) (by kernel_rfl) (fun _ _ _ h => nomatch h.1) (Or.inl ⟨by rfl, ?_⟩) hS ?_
              rotate_left
              · (intro W hSw; obtain ⟨q0, q1, q2, q3⟩ := hSw; go_simp; try with_reducible rfl)
              try simp only [List.getElem_toArray, List.getElem_cons_succ, List.getElem_cons_zero, Act.put, List.setIfInBounds_toArray, List.set_cons_zero, List.set_cons_succ]
              refine wpAnyH_take (i := 9) (v := ?_) rfl (by kernel_rfl) (by kernel_rfl) (by kernel_rfl) (fun _ _ _ h => nomatch h.1) (Or.inl ⟨by rfl, ?_⟩) hS ?_
              rotate_left
              · (intro W hSw; obtain ⟨q0, q1, q2, q3⟩ := hSw; go_simp; try with_reducible rfl)
              try simp only [List.getElem_toArray, List.getElem_cons_succ, List.getElem_cons_zero, Act.put, List.setIfInBounds_toArray, List.set_cons_zero, List.set_cons_succ]
              refine wpAnyH_take (i := 10) (v := ?_) rfl (by kernel_rfl) (by kernel_rfl) (by kernel_rfl) (fun _ _ _ h => nomatch h.1) (Or.inl ⟨by rfl, ?_⟩) hS ?_
              rotate_left
              · (intro W hSw; obtain ⟨q0, q1, q2, q3⟩ := hSw; go_simp; try with_reducible rfl)
              try simp only [List.getElem_toArray, List.getElem_cons_succ, List.getElem_cons_zero, Act.put, List.setIfInBounds_toArray, List.set_cons_zero, List.set_cons_succ]
              refine wpAnyH_take (i := 11) (v := ?_) rfl (by kernel_rfl) (by kernel_rfl) (by kernel_rfl) (fun _ _ _ h => nomatch h.1) (Or.inl ⟨by rfl, ?_⟩) hS ?_
              rotate_left
              · (intro W hSw; obtain ⟨q0, q1, q2, q3⟩ := hSw; go_simp; try with_reducible rfl)
              try simp only [List.getElem_toArray, List.getElem_cons_succ, List.getElem_cons_zero, Act.put, List.setIfInBounds_toArray, List.set_cons_zero, List.set_cons_succ]
              refine wpAnyH_take (i := 12) (v := ?_) rfl (by kernel_rfl) (by kernel_rfl) (by kernel_rfl) (fun _ _ _ h => nomatch h.1) (Or.inl ⟨by rfl, ?_⟩) hS ?_
              rotate_left
              · (intro W hSw; obtain ⟨q0, q1, q2, q3⟩ := hSw; go_simp; try with_reducible rfl)
              try simp only [List.getElem_toArray, List.getElem_cons_succ, List.getElem_cons_zero, Act.put, List.setIfInBounds_toArray, List.set_cons_zero, List.set_cons_succ]
              refine wpAnyH_take (i := 13) (v := ?_) rfl (by kernel_rfl) (by kernel_rfl) (by kernel_rfl) (fun _ _ _ h => nomatch h.1) (Or.inl ⟨by rfl, ?_⟩) hS ?_
              rotate_left
              · (intro W hSw; obtain ⟨q0, q1, q2, q3⟩ := hSw; go_simp; try with_reducible rfl)
              try simp only [List.getElem_toArray, List.getElem_cons_succ, List.getElem_cons_zero, Act.put, List.setIfInBounds_toArray, List.set_cons_zero, List.set_cons_succ]
              refine wpAnyH_take (i := 14) (v := ?_) rfl (by kernel_rfl) (by kernel_rfl) (by kernel_rfl) (fun _ _ _ h => nomatch h.1) (Or.inl ⟨by rfl, ?_⟩) hS ?_
              rotate_left
              · (intro W hSw; obtain ⟨q0, q1, q2, q3⟩ := hSw; go_simp; try with_reducible rfl)
              try simp only [List.getElem_toArray, List.getElem_cons_succ, List.getElem_cons_zero, Act.put, List.setIfInBounds_toArray, List.set_cons_zero, List.set_cons_succ]
              refine wpAnyH_done (by kernel_rfl) ?_ _
              try simp only [List.getElem_toArray, List.getElem_cons_succ, List.getElem_cons_zero, Act.put, List.setIfInBounds_toArray, List.set_cons_zero, List.set_cons_succ]
              refine ⟨rfl, _, ?_, ⟨g1, g5, v4, v6, rfl, HB4Y7.out⟩⟩
              simp only [PutAll, Act.put, List.setIfInBounds_toArray, List.set_cons_zero, List.set_cons_succ]
          · skip
            obtain ⟨g5, hg5⟩ : ∃ g, g = D4.heap.size := ⟨_, rfl⟩
            refine oper_value (v := .slice (some ⟨g5, 0, none⟩) 1 1) (w' := D4.alloc (.cells #[.int .i64 0] 3)) (by rw [hg5]; simp [execOp, go_sem, Act.eval, Act.put]) ?_
            have hb := Below.alloc' D4 (.cells #[.int .i64 0] 3)
            have hc5 : (D4.alloc (.cells #[.int .i64 0] 3)).heap[g5]? = some (.cells #[.int .i64 0] 3 (0, 0)) := heap_alloc_at _ _ _ hg5
            obtain ⟨Y1, hZ⟩ : ∃ W, W = D4.alloc (.cells #[.int .i64 0] 3) := ⟨_, rfl⟩
            rw [← hZ] at hb hc5 ⊢
            have HC5 := Lib.hid hc5
            try have HNE := Lib.hid (show g1 ≠ g5 by have := lt_of_block HC1.out; omega)
            try have HC1 := Lib.hid ((hb.block _ (lt_of_block HC1.out)).trans HC1.out)
            try have HO4 := Lib.hid (own_below HO4.out hb)
            have HB4Y1 := Lib.hid (HB4D4.out.trans (hb.mono HB4D4.out.size))
            clear hZ hc5 hg5
            have hS9 := hS.below hb
            refine ⟨hS9, ?_⟩
            clear hS
            have hS := hS9
            clear hS9
            try simp only [List.getElem_toArray, List.getElem_cons_succ, List.getElem_cons_zero, Act.put, List.setIfInBounds_toArray, List.set_cons_zero, List.set_cons_succ]
            clear hb
            refine wpAnyH_all (rs := [1]) (by kernel_rfl) (by simp) fun i hi => ?_
            obtain rfl : i = 1 := by simpa using hi
            clear hi
            refine wpOp_of rfl (by kernel_rfl) ?_
            obtain ⟨g1, hg1⟩ : ∃ g, g = Y1.heap.size := ⟨_, rfl⟩
            refine oper_value (v := .slice (some ⟨g1, 0, none⟩) 0 0) (w' := Y1.alloc (.cells #[] 3)) (by rw [hg1]; simp [execOp, go_sem, Act.eval, Act.put]) ?_
            have hb := Below.alloc' Y1 (.cells #[] 3)
            have hc1 : (Y1.alloc (.cells #[] 3)).heap[g1]? = some (.cells #[] 3 (0, 0)) := heap_alloc_at _ _ _ hg1
            obtain ⟨Y2, hZ⟩ : ∃ W, W = Y1.alloc (.cells #[] 3) := ⟨_, rfl⟩
            rw [← hZ] at hb hc1 ⊢
            have HC1 := Lib.hid hc1
            have HG1 := Lib.hid (show w4.heap.size ≤ g1 by rw [hg1]; exact HB4Y1.out.size)
            try have HNE := Lib.hid (show g1 ≠ g5 by have := lt_of_block HC5.out; omega)
            try have HC5 := Lib.hid ((hb.block _ (lt_of_block HC5.out)).trans HC5.out)
            have HB4Y2 := Lib.hid (HB4Y1.out.trans (hb.mono HB4Y1.out.size))
            clear hZ hc1 hg1
            have hS9 := hS.below hb
            refine ⟨hS9, ?_⟩
            clear hS
            have hS := hS9
            clear hS9
            try simp only [List.getElem_toArray, List.getElem_cons_succ, List.getElem_cons_zero, Act.put, List.setIfInBounds_toArray, List.set_cons_zero, List.set_cons_succ]
            clear hb
            refine wpAnyH_all (rs := [4]) (by kernel_rfl) (by simp) fun i hi => ?_
            obtain rfl : i = 4 := by simpa using hi
            clear hi
            refine wpOp_of rfl (by kernel_rfl) ?_
            refine wp_append_here (.tmp 56) (.tmp 58) 32 rfl w4.heap.size 3 1 8 (.int .i64 0) underInts infoInt rfl (by decide) (.slice (some ⟨g1, 0, none⟩) 0 0) 0 [] rfl (own_empty9 HC1.out HG1.out) ⟨qb, qt, none⟩ (nw - 1) (c8 - 1) (((p.drop 1).map fun s : Nat => (s : Int)).map (Value.int .i64)) rfl (by rw [List.length_map, List.length_map, List.length_drop, HPS.out.2.2, Nat.mul_one]) (HTL.out Y2 HB4Y2.out) (by intro u hu; obtain ⟨y, _, rfl⟩ := List.mem_map.1 hu; rfl) (by omega) (by decide) HB4Y2.out.size ?_
            intro v4 Y3 ho4 hg4 _
            have hk4 := keeps_grown hg4
            have hb4 : Below w4.heap.size w4 Y3 := HB4Y2.out.trans (hk4.below HB4Y2.out.size (fun k h e => by have := HG1.out; simp [Value.ownBlock] at e; omega))
            try have HC5 := Lib.hid ((hk4.block g5 (lt_of_block HC5.out) (fun e => by have := HNE.out; simp [Value.ownBlock] at e; omega)).trans HC5.out)
            have HO4 := Lib.hid (show World.ownsRow Y3 w4.heap.size 3 1 v4 (nw - 1) (((p.drop 1).map fun s : Nat => (s : Int)).map (Value.int .i64)) by simpa using ho4)
            have HB4Y3 := Lib.hid hb4
            have hS9 := HSX.out Y3 hb4
            refine ⟨hS9, ?_⟩
            clear hS
            have hS := hS9
            clear hS9 hb4 hk4 ho4 hg4
            try simp only [List.getElem_toArray, List.getElem_cons_succ, List.getElem_cons_zero, Act.put, List.setIfInBounds_toArray, List.set_cons_zero, List.set_cons_succ]
            refine wpAnyH_all (rs := [6]) (by kernel_rfl) (by simp) fun i hi => ?_
            obtain rfl : i = 6 := by simpa using hi
            clear hi
            refine wpOp_of rfl (by kernel_rfl) ?_
            refine wp_append_here (.tmp 59) (.tmp 60) 32 rfl w4.heap.size 3 1 8 (.int .i64 0) underInts infoInt rfl (by decide) v4 (nw - 1) (((p.drop 1).map fun s : Nat => (s : Int)).map (Value.int .i64)) rfl HO4.out ⟨g5, 0, none⟩ 1 1 [.int .i64 0] rfl rfl (news_block HC5.out) (by simp [Value.oneCell']) (by omega) (by decide) HB4Y3.out.size ?_
            intro v6 Y6 ho6 hg6 _
            have hk6 := keeps_grown hg6
            have hb6 : Below w4.heap.size w4 Y6 := HB4Y3.out.trans (hk6.below HB4Y3.out.size (fun k h e => by have := (HO4.out.lt k e).1; omega))
            have hn6 : NumsAt Y6 v6 (((p.drop 1).map fun s : Nat => (s : Int)) ++ [0]) (fun k => w4.heap.size ≤ k) := nums_of_own (show nw - 1 + 1 = _ by rw [List.length_append, List.length_map, List.length_drop, HPS.out.2.2]; rfl) (by rw [List.map_append]; exact ho6)
            have HN6 := Lib.hid hn6.low9
            have HB4Y6 := Lib.hid hb6
            have hS9 := HSX.out Y6 hb6
            refine ⟨hS9, ?_⟩
            clear hS
            have hS := hS9
            clear hS9 hb6 hk6 ho6 hg6 hn6
            try simp only [List.getElem_toArray, List.getElem_cons_succ, List.getElem_cons_zero, Act.put, List.setIfInBounds_toArray, List.set_cons_zero, List.set_cons_succ]
            have HBwY6 := Lib.hid (HBw4.out.trans (HB4Y6.out.mono HBw4.out.size))
            have hc := Check_any j (.slice ao nb cap) (.slice ao2 nw cap2) (((p.drop 1).map fun s : Nat => (s : Int)) ++ [0]) v6 Y6 (HBS.out.later HBwY6.out.size (fun k h1 _ => HBwY6.out.block k h1)).low9 (HWS.out.later HBwY6.out.size (fun k h1 _ => HBwY6.out.block k h1)).low9 HN6.out (by rw [List.length_append, List.length_map, List.length_drop, HPS.out.2.2]; simp; omega)
            rw [HJV.out, check_range HV.out (notplan_mem j _ 0 (by simp) (notset_zero _))] at hc
            refine wpAnyH_call (k := 7) (by kernel_rfl) rfl rfl (f := 21) (args := #[.agg #[.slice ao nb cap, .int .i64 fl, .int .i64 fh, .slice ao2 nw cap2], v6]) (by simp [execOp, go_sem, Act.eval, Act.put]) ?_
            refine hc.mono ?_
            rintro e Y7 ⟨rfl, hb⟩
            clear hc
            dsimp only
            have HB4Y7 := Lib.hid (HB4Y6.out.trans (hb.mono HB4Y6.out.size))
            have hS9 := hS.below hb
            refine ⟨hS9, ?_⟩
            clear hS
            have hS := hS9
            clear hS9
            try simp only [List.getElem_toArray, List.getElem_cons_succ, List.getElem_cons_zero, Act.put, List.setIfInBounds_toArray, List.set_cons_zero, List.set_cons_succ]
            clear hb
            refine wpAnyH_take (i := 8) (v := ?_) rfl (by kernel_rfl) (by kernel_rfl) (by kernel_rfl) (fun _ _ _ h => nomatch h.1) (Or.inl ⟨by rfl, ?_⟩) hS ?_
            rotate_left
            · (intro W hSw; obtain ⟨q0, q1, q2, q3⟩ := hSw; go_simp; try with_reducible rfl)
            try simp only [List.getElem_toArray, List.getElem_cons_succ, List.getElem_cons_zero, Act.put, List.setIfInBounds_toArray, List.set_cons_zero, List.set_cons_succ]
            refine wpAnyH_take (i := 9) (v := ?_) rfl (by kernel_rfl) (by kernel_rfl) (by kernel_rfl) (fun _ _ _ h => nomatch h.1) (Or.inl ⟨by rfl, ?_⟩) hS ?_
            rotate_left
            · (intro W hSw; obtain ⟨q0, q1, q2, q3⟩ := hSw; go_simp; try with_reducible rfl)
            try simp only [List.getElem_toArray, List.getElem_cons_succ, List.getElem_cons_zero, Act.put, List.setIfInBounds_toArray, List.set_cons_zero, List.set_cons_succ]
            refine wpAnyH_take (i := 10) (v := ?_) rfl (by kernel_rfl) (by kernel_rfl) (by kernel_rfl) (fun _ _ _ h => nomatch h.1) (Or.inl ⟨by rfl, ?_⟩) hS ?_
            rotate_left
            · (intro W hSw; obtain ⟨q0, q1, q2, q3⟩ := hSw; go_simp; try with_reducible rfl)
            try simp only [List.getElem_toArray, List.getElem_cons_succ, List.getElem_cons_zero, Act.put, List.setIfInBounds_toArray, List.set_cons_zero, List.set_cons_succ]
            refine wpAnyH_take (i := 11) (v := ?_) rfl (by kernel_rfl) (by kernel_rfl) (by kernel_rfl) (fun _ _ _ h => nomatch h.1) (Or.inl ⟨by rfl, ?_⟩) hS ?_
            rotate_left
            · (intro W hSw; obtain ⟨q0, q1, q2, q3⟩ := hSw; go_simp; try with_reducible rfl)
            try simp only [List.getElem_toArray, List.getElem_cons_succ, List.getElem_cons_zero, Act.put, List.setIfInBounds_toArray, List.set_cons_zero, List.set_cons_succ]
            refine wpAnyH_take (i := 12) (v := ?_) rfl (by kernel_rfl) (by kernel_rfl) (by kernel_rfl) (fun _ _ _ h => nomatch h.1) (Or.inl ⟨by rfl, ?_⟩) hS ?_
            rotate_left
            · (intro W hSw; obtain ⟨q0, q1, q2, q3⟩ := hSw; go_simp; try with_reducible rfl)
            try simp only [List.getElem_toArray, List.getElem_cons_succ, List.getElem_cons_zero, Act.put, List.setIfInBounds_toArray, List.set_cons_zero, List.set_cons_succ]
            refine wpAnyH_take (i := 13) (v := ?_) rfl (by kernel_rfl) (by kernel_rfl) (by kernel_rfl) (fun _ _ _ h => nomatch h.1) (Or.inl ⟨by rfl, ?_⟩) hS ?_
            rotate_left
            · (intro W hSw; obtain ⟨q0, q1, q2, q3⟩ := hSw; go_simp; try with_reducible rfl)
            try simp only [List.getElem_toArray, List.getElem_cons_succ, List.getElem_cons_zero, Act.put, List.setIfInBounds_toArray, List.set_cons_zero, List.set_cons_succ]
            refine wpAnyH_take (i := 14) (v := ?_) rfl (by kernel_rfl) (by kernel_rfl) (by kernel_rfl) (fun _ _ _ h => nomatch h.1) (Or.inl ⟨by rfl, ?_⟩) hS ?_
            rotate_left
            · (intro W hSw; obtain ⟨q0, q1, q2, q3⟩ := hSw; go_simp; try with_reducible rfl)
            try simp only [List.getElem_toArray, List.getElem_cons_succ, List.getElem_cons_zero, Act.put, List.setIfInBounds_toArray, List.set_cons_zero, List.set_cons_succ]
            refine wpAnyH_done (by kernel_rfl) ?_ _
            try simp only [List.getElem_toArray, List.getElem_cons_succ, List.getElem_cons_zero, Act.put, List.setIfInBounds_toArray, List.set_cons_zero, List.set_cons_succ]
            refine ⟨rfl, _, ?_, ⟨g1, g5, v4, v6, rfl, HB4Y7.out⟩⟩
            simp only [PutAll, Act.put, List.setIfInBounds_toArray, List.set_cons_zero, List.set_cons_succ]
        · rintro xs w5 ⟨f1, f5, x4, x6, rfl, hb5⟩
          have HB4w5 := Lib.hid hb5
          clear hb5
          simp only [PutAll, Act.put, List.setIfInBounds_toArray, List.set_cons_zero, List.set_cons_succ]
          go_upto_region 11 with fail
          refine wp_region_held_drew (S := SMC w.heap.size (.slice ao nb cap) (.slice ao2 nw cap2) fl fh) (by kernel_rfl) (HSX.out _ HB4w5.out.drew) fun hS => ?_
          obtain ⟨D5, hD⟩ : ∃ D, D = World.drew w5 := ⟨_, rfl⟩
          have hAD : Below w5.heap.size w5 D5 := by rw [hD]; exact (Below.refl _ _).drew
          rw [← hD] at hS ⊢
          have HB4D5 := Lib.hid (HB4w5.out.trans (hAD.mono HB4w5.out.size))
          clear hD hAD
          refine wpAnyH_take (i := 0) (v := ?_) rfl (by kernel_rfl) (by kernel_rfl) (by kernel_rfl) (fun _ _ _ h => h) (Or.inl ⟨by rfl, ?_⟩) hS ?_
          rotate_left
          · (intro W hSw; obtain ⟨q0, q1, q2, q3⟩ := hSw; go_simp; try with_reducible rfl)
          try simp only [List.getElem_toArray, List.getElem_cons_succ, List.getElem_cons_zero, Act.put, List.setIfInBounds_toArray, List.set_cons_zero, List.set_cons_succ]
          refine wpAnyH_take (i := 2) (v := ?_) rfl (by kernel_rfl) (by kernel_rfl) (by kernel_rfl) (fun _ _ _ h => h) (Or.inl ⟨by rfl, ?_⟩) hS ?_
          rotate_left
          · (intro W hSw; obtain ⟨q0, q1, q2, q3⟩ := hSw; go_simp; try with_reducible rfl)
          try simp only [List.getElem_toArray, List.getElem_cons_succ, List.getElem_cons_zero, Act.put, List.setIfInBounds_toArray, List.set_cons_zero, List.set_cons_succ]
          refine wpAnyH_take (i := 3) (v := ?_) rfl (by kernel_rfl) (by kernel_rfl) (by kernel_rfl) (fun _ _ _ h => h) (Or.inl ⟨by rfl, ?_⟩) hS ?_
          rotate_left
          · (intro W hSw; obtain ⟨q0, q1, q2, q3⟩ := hSw; go_simp; try with_reducible rfl)
          try simp only [List.getElem_toArray, List.getElem_cons_succ, List.getElem_cons_zero, Act.put, List.setIfInBounds_toArray, List.set_cons_zero, List.set_cons_succ]
          rw [HQI.out]
          refine wpAnyH_take (i := 5) (v := ?_) rfl (by kernel_rfl) (by kernel_rfl) (by kernel_rfl) (fun _ _ _ h => h) (Or.inl ⟨by rfl, ?_⟩) hS ?_
          rotate_left
          · (intro W hSw; obtain ⟨q0, q1, q2, q3⟩ := hSw; go_simp; try with_reducible rfl)
          try simp only [List.getElem_toArray, List.getElem_cons_succ, List.getElem_cons_zero, Act.put, List.setIfInBounds_toArray, List.set_cons_zero, List.set_cons_succ]
          refine wpAnyH_all (rs := [1]) (by kernel_rfl) (by simp) fun i hi => ?_
          obtain rfl : i = 1 := by simpa using hi
          clear hi
          refine wpOp_of rfl (by kernel_rfl) ?_
          obtain ⟨g1, hg1⟩ : ∃ g, g = D5.heap.size := ⟨_, rfl⟩
          refine oper_value (v := .slice (some ⟨g1, 0, none⟩) 0 0) (w' := D5.alloc (.cells #[] 3)) (by rw [hg1]; simp [execOp, go_sem, Act.eval, Act.put]) ?_
          have hb := Below.alloc' D5 (.cells #[] 3)
          have hc1 : (D5.alloc (.cells #[] 3)).heap[g1]? = some (.cells #[] 3 (0, 0)) := heap_alloc_at _ _ _ hg1
          obtain ⟨Y1, hZ⟩ : ∃ W, W = D5.alloc (.cells #[] 3) := ⟨_, rfl⟩
          rw [← hZ] at hb hc1 ⊢
          have HC1 := Lib.hid hc1
          have HG1 := Lib.hid (show w4.heap.size ≤ g1 by rw [hg1]; exact HB4D5.out.size)
          try have HNE := Lib.hid (show g1 ≠ g5 by have := lt_of_block HC5.out; omega)
          try have HC5 := Lib.hid ((hb.block _ (lt_of_block HC5.out)).trans HC5.out)
          have HB4Y1 := Lib.hid (HB4D5.out.trans (hb.mono HB4D5.out.size))
          clear hZ hc1 hg1
          have hS9 := hS.below hb
          refine ⟨hS9, ?_⟩
          clear hS
          have hS := hS9
          clear hS9
          try simp only [List.getElem_toArray, List.getElem_cons_succ, List.getElem_cons_zero, Act.put, List.setIfInBounds_toArray, List.set_cons_zero, List.set_cons_succ]
          clear hb
          refine wpAnyH_all (rs := [4]) (by kernel_rfl) (by simp) fun i hi => ?_
          obtain rfl : i = 4 := by simpa using hi
          clear hi
          refine wpOp_of rfl (by kernel_rfl) ?_
          refine wp_append_here (.tmp 68) (.tmp 70) 32 rfl w4.heap.size 3 1 8 (.int .i64 0) underInts infoInt rfl (by decide) (.slice (some ⟨g1, 0, none⟩) 0 0) 0 [] rfl (own_empty9 HC1.out HG1.out) ⟨qb, qt, none⟩ (nw - 1) (c8 - 1) (((p.drop 1).map fun s : Nat => (s : Int)).map (Value.int .i64)) rfl (by rw [List.length_map, List.length_map, List.length_drop, HPS.out.2.2, Nat.mul_one]) (HTL.out Y1 HB4Y1.out) (by intro u hu; obtain ⟨y, _, rfl⟩ := List.mem_map.1 hu; rfl) (by omega) (by decide) HB4Y1.out.size ?_
          intro v4 Y2 ho4 hg4 _
          have hk4 := keeps_grown hg4
          have hb4 : Below w4.heap.size w4 Y2 := HB4Y1.out.trans (hk4.below HB4Y1.out.size (fun k h e => by have := HG1.out; simp [Value.ownBlock] at e; omega))
          try have HC5 := Lib.hid ((hk4.block g5 (lt_of_block HC5.out) (fun e => by have := HNE.out; simp [Value.ownBlock] at e; omega)).trans HC5.out)
          have HO4 := Lib.hid (show World.ownsRow Y2 w4.heap.size 3 1 v4 (nw - 1) (((p.drop 1).map fun s : Nat => (s : Int)).map (Value.int .i64)) by simpa using ho4)
          have HB4Y2 := Lib.hid hb4
          have hS9 := HSX.out Y2 hb4
          refine ⟨hS9, ?_⟩
          clear hS
          have hS := hS9
          clear hS9 hb4 hk4 ho4 hg4
          try simp only [List.getElem_toArray, List.getElem_cons_succ, List.getElem_cons_zero, Act.put, List.setIfInBounds_toArray, List.set_cons_zero, List.set_cons_succ]
          have HBwY2 := Lib.hid (HBw4.out.trans (HB4Y2.out.mono HBw4.out.size))
          have hc := levery_any j nb cap ao (.slice ao2 nw cap2) HNB.out hnb8 Y2
          rw [HJV.out] at hc
          have hp256 : 2 ^ nb ≤ 256 := (Nat.pow_le_pow_right (by decide) hnb8 : _ ≤ 2 ^ 8)
          have hp1 := Nat.two_pow_pos nb
          obtain ⟨al, hal⟩ : ∃ y, y = allD j := ⟨_, rfl⟩
          have hal2 : al + 1 = 2 ^ nb := by rw [hal]; unfold allD; rw [← HNB.out]; omega
          rw [← hal] at hc
          refine wpAnyH_call (k := 6) (by kernel_rfl) rfl rfl (f := 30) (args := #[.agg #[.slice ao nb cap, .int .i64 fl, .int .i64 fh, .slice ao2 nw cap2]]) (by simp [execOp, go_sem, Act.eval, Act.put]) ?_
          refine hc.mono ?_
          rintro e Y3 ⟨rfl, hb⟩
          clear hc
          dsimp only
          have HO4 := Lib.hid (own_below HO4.out hb)
          have HB4Y3 := Lib.hid (HB4Y2.out.trans (hb.mono HB4Y2.out.size))
          have hS9 := hS.below hb
          refine ⟨hS9, ?_⟩
          clear hS
          have hS := hS9
          clear hS9
          try simp only [List.getElem_toArray, List.getElem_cons_succ, List.getElem_cons_zero, Act.put, List.setIfInBounds_toArray, List.set_cons_zero, List.set_cons_succ]
          clear hb
          obtain ⟨A, hA⟩ : ∃ A, A = al + 1 := ⟨_, rfl⟩
          have hwal : IntKind.i64.wrap ((al : Int) + 1) = (A : Int) := by rw [IntWalk.i64_in _ (by omega)]; omega
          have HA := Lib.hid (show isSetS j.st (A : Int) = false by rw [hA, hal2, HNB.out]; exact notset_more _)
          clear hA hal2 hal hp256 hp1
          refine wpAnyH_take (i := 7) (v := ?_) rfl (by kernel_rfl) (by kernel_rfl) (by kernel_rfl) (fun _ _ _ h => h) (Or.inl ⟨by rfl, ?_⟩) hS ?_
          rotate_left
          · (intro W hSw; obtain ⟨q0, q1, q2, q3⟩ := hSw; go_simp; try with_reducible rfl)
          try simp only [List.getElem_toArray, List.getElem_cons_succ, List.getElem_cons_zero, Act.put, List.setIfInBounds_toArray, List.set_cons_zero, List.set_cons_succ]
          refine wpAnyH_all (rs := [8]) (by kernel_rfl) (by simp) fun i hi => ?_
          obtain rfl : i = 8 := by simpa using hi
          clear hi
          refine wpOp_of rfl (by kernel_rfl) ?_
          obtain ⟨g5, hg5⟩ : ∃ g, g = Y3.heap.size := ⟨_, rfl⟩
          refine oper_value (v := .slice (some ⟨g5, 0, none⟩) 1 1) (w' := Y3.alloc (.cells #[.int .i64 (A : Int)] 3)) (by rw [hg5]; simp [execOp, go_sem, Act.eval, Act.put]) ?_
          have hb := Below.alloc' Y3 (.cells #[.int .i64 (A : Int)] 3)
          have hc5 : (Y3.alloc (.cells #[.int .i64 (A : Int)] 3)).heap[g5]? = some (.cells #[.int .i64 (A : Int)] 3 (0, 0)) := heap_alloc_at _ _ _ hg5
          obtain ⟨Y4, hZ⟩ : ∃ W, W = Y3.alloc (.cells #[.int .i64 (A : Int)] 3) := ⟨_, rfl⟩
          rw [← hZ] at hb hc5 ⊢
          have HC5 := Lib.hid hc5
          try have HNE := Lib.hid (show g1 ≠ g5 by have := lt_of_block HC1.out; omega)
          try have HC1 := Lib.hid ((hb.block _ (lt_of_block HC1.out)).trans HC1.out)
          try have HO4 := Lib.hid (own_below HO4.out hb)
          have HB4Y4 := Lib.hid (HB4Y3.out.trans (hb.mono HB4Y3.out.size))
          clear hZ hc5 hg5
          have hS9 := hS.below hb
          refine ⟨hS9, ?_⟩
          clear hS
          have hS := hS9
          clear hS9
          try simp only [List.getElem_toArray, List.getElem_cons_succ, List.getElem_cons_zero, Act.put, List.setIfInBounds_toArray, List.set_cons_zero, List.set_cons_succ]
          clear hb
          refine wpAnyH_all (rs := [9]) (by kernel_rfl) (by simp) fun i hi => ?_
          obtain rfl : i = 9 := by simpa using hi
          clear hi
          refine wpOp_of rfl (by kernel_rfl) ?_
          refine wp_append_here (.tmp 71) (.tmp 75) 32 rfl w4.heap.size 3 1 8 (.int .i64 0) underInts infoInt rfl (by decide) v4 (nw - 1) (((p.drop 1).map fun s : Nat => (s : Int)).map (Value.int .i64)) rfl HO4.out ⟨g5, 0, none⟩ 1 1 [.int .i64 (A : Int)] rfl rfl (news_block HC5.out) (by simp [Value.oneCell']) (by omega) (by decide) HB4Y4.out.size ?_
          intro v6 Y5 ho6 hg6 _
          have hk6 := keeps_grown hg6
          have hb6 : Below w4.heap.size w4 Y5 := HB4Y4.out.trans (hk6.below HB4Y4.out.size (fun k h e => by have := (HO4.out.lt k e).1; omega))
          have hn6 : NumsAt Y5 v6 (((p.drop 1).map fun s : Nat => (s : Int)) ++ [(A : Int)]) (fun k => w4.heap.size ≤ k) := nums_of_own (show nw - 1 + 1 = _ by rw [List.length_append, List.length_map, List.length_drop, HPS.out.2.2]; rfl) (by rw [List.map_append]; exact ho6)
          have HN6 := Lib.hid hn6.low9
          have HB4Y5 := Lib.hid hb6
          have hS9 := HSX.out Y5 hb6
          refine ⟨hS9, ?_⟩
          clear hS
          have hS := hS9
          clear hS9 hb6 hk6 ho6 hg6 hn6
          try simp only [List.getElem_toArray, List.getElem_cons_succ, List.getElem_cons_zero, Act.put, List.setIfInBounds_toArray, List.set_cons_zero, List.set_cons_succ]
          have HBwY5 := Lib.hid (HBw4.out.trans (HB4Y5.out.mono HBw4.out.size))
          have hc := Check_any j (.slice ao nb cap) (.slice ao2 nw cap2) (((p.drop 1).map fun s : Nat => (s : Int)) ++ [(A : Int)]) v6 Y5 (HBS.out.later HBwY5.out.size (fun k h1 _ => HBwY5.out.block k h1)).low9 (HWS.out.later HBwY5.out.size (fun k h1 _ => HBwY5.out.block k h1)).low9 HN6.out (by rw [List.length_append, List.length_map, List.length_drop, HPS.out.2.2]; simp; omega)
          rw [HJV.out, check_range HV.out (notplan_mem j _ (A : Int) (by simp) HA.out)] at hc
          refine wpAnyH_call (k := 10) (by kernel_rfl) rfl rfl (f := 21) (args := #[.agg #[.slice ao nb cap, .int .i64 fl, .int .i64 fh, .slice ao2 nw cap2], v6]) (by simp [execOp, go_sem, Act.eval, Act.put]) ?_
          refine hc.mono ?_
          rintro e Y6 ⟨rfl, hb⟩
          clear hc
          dsimp only
          have HB4Y6 := Lib.hid (HB4Y5.out.trans (hb.mono HB4Y5.out.size))
          have hS9 := hS.below hb
          refine ⟨hS9, ?_⟩
          clear hS
          have hS := hS9
          clear hS9
          try simp only [List.getElem_toArray, List.getElem_cons_succ, List.getElem_cons_zero, Act.put, List.setIfInBounds_toArray, List.set_cons_zero, List.set_cons_succ]
          clear hb
          refine wpAnyH_take (i := 11) (v := ?_) rfl (by kernel_rfl) (by kernel_rfl) (by kernel_rfl) (fun _ _ _ h => h) (Or.inl ⟨by rfl, ?_⟩) hS ?_
          rotate_left
          · (intro W hSw; obtain ⟨q0, q1, q2, q3⟩ := hSw; go_simp; try with_reducible rfl)
          try simp only [List.getElem_toArray, List.getElem_cons_succ, List.getElem_cons_zero, Act.put, List.setIfInBounds_toArray, List.set_cons_zero, List.set_cons_succ]
          refine wpAnyH_take (i := 12) (v := ?_) rfl (by kernel_rfl) (by kernel_rfl) (by kernel_rfl) (fun _ _ _ h => h) (Or.inl ⟨by rfl, ?_⟩) hS ?_
          rotate_left
          · (intro W hSw; obtain ⟨q0, q1, q2, q3⟩ := hSw; go_simp; try with_reducible rfl)
          try simp only [List.getElem_toArray, List.getElem_cons_succ, List.getElem_cons_zero, Act.put, List.setIfInBounds_toArray, List.set_cons_zero, List.set_cons_succ]
          refine wpAnyH_take (i := 13) (v := ?_) rfl (by kernel_rfl) (by kernel_rfl) (by kernel_rfl) (fun _ _ _ h => h) (Or.inl ⟨by rfl, ?_⟩) hS ?_
          rotate_left
          · (intro W hSw; obtain ⟨q0, q1, q2, q3⟩ := hSw; go_simp; try with_reducible rfl)
          try simp only [List.getElem_toArray, List.getElem_cons_succ, List.getElem_cons_zero, Act.put, List.setIfInBounds_toArray, List.set_cons_zero, List.set_cons_succ]
          refine wpAnyH_take (i := 14) (v := ?_) rfl (by kernel_rfl) (by kernel_rfl) (by kernel_rfl) (fun _ _ _ h => h) (Or.inl ⟨by rfl, ?_⟩) hS ?_
          rotate_left
          · (intro W hSw; obtain ⟨q0, q1, q2, q3⟩ := hSw; go_simp; try with_reducible rfl)
          try simp only [List.getElem_toArray, List.getElem_cons_succ, List.getElem_cons_zero, Act.put, List.setIfInBounds_toArray, List.set_cons_zero, List.set_cons_succ]
          refine wpAnyH_take (i := 15) (v := ?_) rfl (by kernel_rfl) (by kernel_rfl) (by kernel_rfl) (fun _ _ _ h => h) (Or.inl ⟨by rfl, ?_⟩) hS ?_
          rotate_left
          · (intro W hSw; obtain ⟨q0, q1, q2, q3⟩ := hSw; go_simp; try with_reducible rfl)
          try simp only [List.getElem_toArray, List.getElem_cons_succ, List.getElem_cons_zero, Act.put, List.setIfInBounds_toArray, List.set_cons_zero, List.set_cons_succ]
          refine wpAnyH_take (i := 16) (v := ?_) rfl (by kernel_rfl) (by kernel_rfl) (by kernel_rfl) (fun _ _ _ h => h) (Or.inl ⟨by rfl, ?_⟩) hS ?_
          rotate_left
          · (intro W hSw; obtain ⟨q0, q1, q2, q3⟩ := hSw; go_simp; try with_reducible rfl)
          try simp only [List.getElem_toArray, List.getElem_cons_succ, List.getElem_cons_zero, Act.put, List.setIfInBounds_toArray, List.set_cons_zero, List.set_cons_succ]
          refine wpAnyH_take (i := 17) (v := ?_) rfl (by kernel_rfl) (by kernel_rfl) (by kernel_rfl) (fun _ _ _ h => h) (Or.inl ⟨by rfl, ?_⟩) hS ?_
          rotate_left
          · (intro W hSw; obtain ⟨q0, q1, q2, q3⟩ := hSw; go_simp; try with_reducible rfl)
          try simp only [List.getElem_toArray, List.getElem_cons_succ, List.getElem_cons_zero, Act.put, List.setIfInBounds_toArray, List.set_cons_zero, List.set_cons_succ]
          refine wpAnyH_done (by kernel_rfl) ?_ _
          try simp only [List.getElem_toArray, List.getElem_cons_succ, List.getElem_cons_zero, Act.put, List.setIfInBounds_toArray, List.set_cons_zero, List.set_cons_succ]
          clear hS HC5 HC1 HO4 HN6 HA hwal
          have HBwY6 := Lib.hid (HBw4.out.trans (HB4Y6.out.mono HBw4.out.size))
          have HXwY6 := Lib.hid ((HB4Y6.out.block _ (lt_of_block HXw4.out)).trans HXw4.out)
          have HPV9 := Lib.hid (HPN4.out.later HB4Y6.out.size (fun k h _ => HB4Y6.out.block k h)).low9
          obtain ⟨z, hz⟩ : ∃ z, z = Y6 := ⟨_, rfl⟩
          rw [← hz] at HBwY6 HXwY6 HPV9 ⊢
          have HBz := HBwY6
          have HXz := HXwY6
          clear hz
          have c0 : z.cell? ⟨w.heap.size, 0, none⟩ = some (.slice ao nb cap) := by rw [cell_of_row _ _ _ _ _ _ HXz.out]; rfl
          have c1 : z.cell? ⟨w.heap.size, 1, none⟩ = some (.int .i64 fl) := by rw [cell_of_row _ _ _ _ _ _ HXz.out]; rfl
          have c2 : z.cell? ⟨w.heap.size, 2, none⟩ = some (.int .i64 fh) := by rw [cell_of_row _ _ _ _ _ _ HXz.out]; rfl
          have c3 : z.cell? ⟨w.heap.size, 3, none⟩ = some (.slice ao2 nw cap2) := by rw [cell_of_row _ _ _ _ _ _ HXz.out]; rfl
          go_wp2_with fail
          have hc := Check_any j (.slice ao nb cap) (.slice ao2 nw cap2) (p.map fun s : Nat => (s : Int)) (.slice (some ⟨qb, qo, none⟩) nw c8) z (HBS.out.later HBz.out.size (fun k h1 _ => HBz.out.block k h1)).low9 (HWS.out.later HBz.out.size (fun k h1 _ => HBz.out.block k h1)).low9 HPV9.out (by rw [List.length_map, HPS.out.2.2]; omega)
          rw [HJV.out, check_from HV.out HPS.out.1 HPS.out.2.1] at hc
          obtain ⟨⟨⟨wh, ru⟩, er⟩, hres⟩ : ∃ y : (Int × Int) × Int, y = tellJ (fromJ j p 0) := ⟨_, rfl⟩
          rw [← hres] at hc
          have HRES := Lib.hid hres
          clear hres
          refine hc.mono ?_
          rintro e wt ⟨rfl, hb⟩
          clear hc c0 c1 c2 c3
          dsimp only
          have HPVt := Lib.hid (HPV9.out.later hb.size (fun k h _ => hb.block k h)).low9
          have HXwt := Lib.hid ((hb.block _ (lt_of_block HXz.out)).trans HXz.out)
          have HBwt := Lib.hid (HBz.out.trans (hb.mono HBz.out.size))
          clear hb
          go_wp2_with fail
          go_loopw [19, 97] (fun uv iv wr => ∃ i : Nat, i ≤ nw ∧ iv = .int .i64 i ∧ uv = .int .i64 (unionJ (p.take i) : Nat) ∧ Below wt.heap.size wt wr ∧ fromJ j p 0 = fromJ j p i) (fun _ iv _ => nw - (intOf iv).toNat)
          case atStart => exact ⟨0, Nat.zero_le _, rfl, rfl, Below.refl _ _, rfl⟩
          case round =>
            obtain ⟨i, hi, rfl, rfl, hb, hfr⟩ := hrel
            have HFR := Lib.hid hfr
            have HXwr := Lib.hid ((hb.block _ (lt_of_block HXwt.out)).trans HXwt.out)
            have HBwr := Lib.hid (HBwt.out.trans (hb.mono HBwt.out.size))
            have HBt := Lib.hid hb
            have HPVr := Lib.hid (HPVt.out.later hb.size (fun k h _ => hb.block k h)).low9
            clear hfr hb
            by_cases hlt : i < nw
            · have hw : IntKind.i64.wrap ((i : Int) + 1) = ((i + 1 : Nat) : Int) := by rw [IntWalk.i64_in _ (by omega)]; omega
              have hlti : (i : Int) < (nw : Int) := by omega
              have hi0 : 0 ≤ (i : Int) := by omega
              have hip : i < p.length := by rw [HPS.out.2.2]; exact hlt
              have hiw : i < j.ws.length := by rw [← HNW.out]; exact hlt
              have hnx := from_next j p i hip hiw
              have hus2 : unionJ (p.take i) < 256 := union_lt 8 (p.take i) 0 (by decide) (fun s hs => Nat.lt_of_lt_of_le (HPS.out.2.1 s (List.mem_of_mem_take hs)).2 (Nat.pow_le_pow_right (by decide) (by rw [← HNB.out]; exact hnb8)))
              have hun : unionJ (p.take (i + 1)) = unionJ (p.take i) ||| p[i] := union_take p i hip
              have hsp := HPS.out.2.1 p[i] (List.getElem_mem hip)
              have hgr := grade_right HV.out hsp j.ws[i]
              have hwo : wantOk j.ws[i] = true := (validJb_parts HV.out).2.2 _ (List.getElem_mem hiw)
              obtain ⟨a9, c9, e9, _, _, hel⟩ := HPVr.out
              injection e9 with e1 e2 e3
              obtain ⟨pb, po, hpe, _, _, e6⟩ := hel i (by rw [List.length_map]; exact hip)
              rw [List.getElem_map] at e6
              rw [hpe] at e1
              try subst e1
              clear hel e2 e3 hpe
              obtain ⟨a10, c10, e10, _, _, hel⟩ := HWS.out.later (W := wr) HBwr.out.size (fun k h1 _ => HBwr.out.block k h1)
              injection e10 with e1 e2 e3
              obtain ⟨wb, wo, hwe, _, _, e7, e8⟩ := hel i hiw
              rw [hwe] at e1
              try subst e1
              clear hel e2 e3 hwe
              obtain ⟨us, hus⟩ : ∃ y, y = unionJ (p.take i) := ⟨_, rfl⟩
              obtain ⟨s, hs⟩ : ∃ y, y = p[i] := ⟨_, rfl⟩
              obtain ⟨⟨lo, hi9⟩, hwant⟩ : ∃ y, y = j.ws[i] := ⟨_, rfl⟩
              rw [← hs] at e6 hsp hun hnx hgr
              rw [← hus] at hus2 hun hnx ⊢
              rw [← hwant] at e7 e8 hnx hwo hgr
              have hs256 : s < 256 := Nat.lt_of_lt_of_le hsp.2 (Nat.pow_le_pow_right (by decide) (by rw [← HNB.out]; exact hnb8) : _ ≤ 2 ^ 8)
              have HSP := Lib.hid (And.intro hsp hwo)
              have HNX := Lib.hid (And.intro hnx (And.intro hun hgr))
              clear hus hs hwant hsp hwo hnx hun hgr
              go_upto_region 19 with fail
              have hS0 : SK w.heap.size (.slice ao nb cap) (.slice (some ⟨wb, wo, none⟩) nw cap2) fl fh wb wo i lo hi9 wr := ⟨by rw [cell_of_row _ _ _ _ _ _ HXwr.out]; rfl, by rw [cell_of_row _ _ _ _ _ _ HXwr.out]; rfl, by rw [cell_of_row _ _ _ _ _ _ HXwr.out]; rfl, by rw [cell_of_row _ _ _ _ _ _ HXwr.out]; rfl, e7, e8⟩
              have HSK := Lib.hid hS0
              clear hS0 e6 e7 e8
              refine wp_region_held_drew (S := SK w.heap.size (.slice ao nb cap) (.slice (some ⟨wb, wo, none⟩) nw cap2) fl fh wb wo i lo hi9) (by kernel_rfl) (HSK.out.below (Below.refl _ _).drew) fun hS => ?_
              obtain ⟨D, hD⟩ : ∃ D, D = World.drew wr := ⟨_, rfl⟩
              have hAD : Below wr.heap.size wr D := by rw [hD]; exact (Below.refl _ _).drew
              rw [← hD] at hS ⊢
              have HBtD := Lib.hid (HBt.out.trans (hAD.mono HBt.out.size))
              have HBD := Lib.hid (HBwr.out.trans (hAD.mono HBwr.out.size))
              clear hD hAD
              refine wpAnyH_take (i := 0) (v := ?_) rfl (by kernel_rfl) (by kernel_rfl) (by kernel_rfl) (fun _ _ _ h => h) (Or.inl ⟨by rfl, ?_⟩) hS ?_
              rotate_left
              · (intro W hSw; obtain ⟨q0, q1, q2, q3, q4, q5⟩ := hSw; go_simp; try with_reducible rfl)
              try simp only [List.getElem_toArray, List.getElem_cons_succ, List.getElem_cons_zero, Act.put, List.setIfInBounds_toArray, List.set_cons_zero, List.set_cons_succ]
              refine wpAnyH_take (i := 1) (v := ?_) rfl (by kernel_rfl) (by kernel_rfl) (by kernel_rfl) (fun _ _ _ h => h) (Or.inl ⟨by rfl, ?_⟩) hS ?_
              rotate_left
              · (intro W hSw; obtain ⟨q0, q1, q2, q3, q4, q5⟩ := hSw; go_simp; try with_reducible rfl)
              try simp only [List.getElem_toArray, List.getElem_cons_succ, List.getElem_cons_zero, Act.put, List.setIfInBounds_toArray, List.set_cons_zero, List.set_cons_succ]
              refine wpAnyH_take (i := 2) (v := ?_) rfl (by kernel_rfl) (by kernel_rfl) (by kernel_rfl) (fun _ _ _ h => h) (Or.inl ⟨by rfl, ?_⟩) hS ?_
              rotate_left
              · (intro W hSw; obtain ⟨q0, q1, q2, q3, q4, q5⟩ := hSw; go_simp; try with_reducible rfl)
              try simp only [List.getElem_toArray, List.getElem_cons_succ, List.getElem_cons_zero, Act.put, List.setIfInBounds_toArray, List.set_cons_zero, List.set_cons_succ]
              refine wpAnyH_take (i := 3) (v := ?_) rfl (by kernel_rfl) (by kernel_rfl) (by kernel_rfl) (fun _ _ _ h => h) (Or.inl ⟨by rfl, ?_⟩) hS ?_
              rotate_left
              · (intro W hSw; obtain ⟨q0, q1, q2, q3, q4, q5⟩ := hSw; go_simp; try with_reducible rfl)
              try simp only [List.getElem_toArray, List.getElem_cons_succ, List.getElem_cons_zero, Act.put, List.setIfInBounds_toArray, List.set_cons_zero, List.set_cons_succ]
              refine wpAnyH_take (i := 4) (v := ?_) rfl (by kernel_rfl) (by kernel_rfl) (by kernel_rfl) (fun _ _ _ h => h) (Or.inl ⟨by rfl, ?_⟩) hS ?_
              rotate_left
              · (intro W hSw; obtain ⟨q0, q1, q2, q3, q4, q5⟩ := hSw; go_simp; try with_reducible rfl)
              try simp only [List.getElem_toArray, List.getElem_cons_succ, List.getElem_cons_zero, Act.put, List.setIfInBounds_toArray, List.set_cons_zero, List.set_cons_succ]
              refine wpAnyH_take (i := 5) (v := ?_) rfl (by kernel_rfl) (by kernel_rfl) (by kernel_rfl) (fun _ _ _ h => h) (Or.inl ⟨by rfl, ?_⟩) hS ?_
              rotate_left
              · (intro W hSw; obtain ⟨q0, q1, q2, q3, q4, q5⟩ := hSw; go_simp; try with_reducible rfl)
              try simp only [List.getElem_toArray, List.getElem_cons_succ, List.getElem_cons_zero, Act.put, List.setIfInBounds_toArray, List.set_cons_zero, List.set_cons_succ]
              refine wpAnyH_take (i := 6) (v := ?_) rfl (by kernel_rfl) (by kernel_rfl) (by kernel_rfl) (fun _ _ _ h => h) (Or.inl ⟨by rfl, ?_⟩) hS ?_
              rotate_left
              · (intro W hSw; obtain ⟨q0, q1, q2, q3, q4, q5⟩ := hSw; go_simp; try with_reducible rfl)
              try simp only [List.getElem_toArray, List.getElem_cons_succ, List.getElem_cons_zero, Act.put, List.setIfInBounds_toArray, List.set_cons_zero, List.set_cons_succ]
              refine wpAnyH_take (i := 7) (v := ?_) rfl (by kernel_rfl) (by kernel_rfl) (by kernel_rfl) (fun _ _ _ h => h) (Or.inl ⟨by rfl, ?_⟩) hS ?_
              rotate_left
              · (intro W hSw; obtain ⟨q0, q1, q2, q3, q4, q5⟩ := hSw; go_simp; try with_reducible rfl)
              try simp only [List.getElem_toArray, List.getElem_cons_succ, List.getElem_cons_zero, Act.put, List.setIfInBounds_toArray, List.set_cons_zero, List.set_cons_succ]
              have hc := rightS_any j.st (.slice ao nb cap) s (lo, hi9) D (validJb_parts HV.out).1 HSP.out.1.1 HSP.out.1.2 HSP.out.2 (HBS.out.later HBD.out.size (fun k h1 _ => HBD.out.block k h1)).low9
              have hsv : stackV j.st (.slice ao nb cap) = .agg #[.slice ao nb cap, .int .i64 fl, .int .i64 fh] := by unfold stackV; rw [← HFL.out.1, ← HFL.out.2]
              obtain ⟨gr, hgr⟩ : ∃ y, y = gradeS j.st s (lo, hi9) := ⟨_, rfl⟩
              rw [hsv, ← hgr] at hc
              have HGR := Lib.hid hgr
              refine wpAnyH_call (k := 8) (by kernel_rfl) rfl rfl (f := 33) (args := #[.agg #[.slice ao nb cap, .int .i64 fl, .int .i64 fh], .int .i64 s, .agg #[.int .i64 lo, .int .i64 hi9]]) (by simp [execOp, go_sem, Act.eval, Act.put]) ?_
              refine hc.mono ?_
              rintro e w7 ⟨rfl, hb⟩
              clear hc hsv hgr
              dsimp only
              have HBt7 := Lib.hid (HBtD.out.trans (hb.mono HBtD.out.size))
              have HBw7 := Lib.hid (HBD.out.trans (hb.mono HBD.out.size))
              have hS7 := hS.below hb
              clear hb hS
              refine ⟨hS7, ?_⟩
              have hS := hS7
              clear hS7
              try simp only [List.getElem_toArray, List.getElem_cons_succ, List.getElem_cons_zero, Act.put, List.setIfInBounds_toArray, List.set_cons_zero, List.set_cons_succ]
              refine wpAnyH_take (i := 9) (v := ?_) rfl (by kernel_rfl) (by kernel_rfl) (by kernel_rfl) (fun _ _ _ h => h) (Or.inl ⟨by rfl, ?_⟩) hS ?_
              rotate_left
              · (intro W hSw; obtain ⟨q0, q1, q2, q3, q4, q5⟩ := hSw; go_simp; try with_reducible rfl)
              try simp only [List.getElem_toArray, List.getElem_cons_succ, List.getElem_cons_zero, Act.put, List.setIfInBounds_toArray, List.set_cons_zero, List.set_cons_succ]
              refine wpAnyH_take (i := 10) (v := ?_) rfl (by kernel_rfl) (by kernel_rfl) (by kernel_rfl) (fun _ _ _ h => h) (Or.inl ⟨by rfl, ?_⟩) hS ?_
              rotate_left
              · (intro W hSw; obtain ⟨q0, q1, q2, q3, q4, q5⟩ := hSw; go_simp; try with_reducible rfl)
              try simp only [List.getElem_toArray, List.getElem_cons_succ, List.getElem_cons_zero, Act.put, List.setIfInBounds_toArray, List.set_cons_zero, List.set_cons_succ]
              refine wpAnyH_take (i := 11) (v := ?_) rfl (by kernel_rfl) (by kernel_rfl) (by kernel_rfl) (fun _ _ _ h => h) (Or.inl ⟨by rfl, ?_⟩) hS ?_
              rotate_left
              · (intro W hSw; obtain ⟨q0, q1, q2, q3, q4, q5⟩ := hSw; go_simp; try with_reducible rfl)
              try simp only [List.getElem_toArray, List.getElem_cons_succ, List.getElem_cons_zero, Act.put, List.setIfInBounds_toArray, List.set_cons_zero, List.set_cons_succ]
              refine wpAnyH_take (i := 12) (v := ?_) rfl (by kernel_rfl) (by kernel_rfl) (by kernel_rfl) (fun _ _ _ h => h) (Or.inl ⟨by rfl, ?_⟩) hS ?_
              rotate_left
              · (intro W hSw; obtain ⟨q0, q1, q2, q3, q4, q5⟩ := hSw; go_simp; try with_reducible rfl)
              try simp only [List.getElem_toArray, List.getElem_cons_succ, List.getElem_cons_zero, Act.put, List.setIfInBounds_toArray, List.set_cons_zero, List.set_cons_succ]
              refine wpAnyH_take (i := 13) (v := ?_) rfl (by kernel_rfl) (by kernel_rfl) (by kernel_rfl) (fun _ _ _ h => h) (Or.inl ⟨by rfl, ?_⟩) hS ?_
              rotate_left
              · (intro W hSw; obtain ⟨q0, q1, q2, q3, q4, q5⟩ := hSw; go_simp; try with_reducible rfl)
              try simp only [List.getElem_toArray, List.getElem_cons_succ, List.getElem_cons_zero, Act.put, List.setIfInBounds_toArray, List.set_cons_zero, List.set_cons_succ]
              refine wpAnyH_done (by kernel_rfl) ?_ _
              try simp only [List.getElem_toArray, List.getElem_cons_succ, List.getElem_cons_zero, Act.put, List.setIfInBounds_toArray, List.set_cons_zero, List.set_cons_succ]
              clear hS
              by_cases hr : s ∈ rightsS j.st (lo, hi9)
              · have hg2 : gr = 2 := by rw [HGR.out]; exact HNX.out.2.2.2 hr
                have hand := and_i64 us s (by omega) (by omega)
                have hor := or_i64 us s (by omega) (by omega)
                subst hg2
                by_cases hz : s &&& us = 0
                · have hz2 : us &&& s = 0 := by rw [Nat.and_comm]; exact hz
                  rw [hz2] at hand
                  have hfn := HNX.out.1
                  rw [if_neg (fun h => h hr), if_neg (fun h => h hz)] at hfn
                  have HF2 := Lib.hid (HFR.out.trans hfn)
                  obtain ⟨un, hune⟩ : ∃ y, y = us ||| s := ⟨_, rfl⟩
                  rw [← hune] at hor
                  have HUE := Lib.hid hune
                  clear hz hz2 hr hfn hune
                  go_wp2_with fail
                  exact ⟨⟨i + 1, hlt, by push_cast; rfl, by rw [HNX.out.2.1, ← HUE.out], HBt7.out, HF2.out⟩, by simp [intOf]; omega⟩
                · have hz2 : us &&& s ≠ 0 := by rw [Nat.and_comm]; exact hz
                  have hfn := HNX.out.1
                  rw [if_neg (fun h => h hr), if_pos hz] at hfn
                  have hres := HRES.out
                  rw [HFR.out, hfn] at hres
                  injection hres with h1 h3
                  injection h1 with h1 h2
                  subst h1 h2 h3
                  obtain ⟨an, hane⟩ : ∃ y, y = us &&& s := ⟨_, rfl⟩
                  rw [← hane] at hand hz2
                  have hz3 : ¬ (an : Int) = 0 := by omega
                  have hz4 : ((an : Int) == 0) = false := by rw [beq_eq_false_iff_ne]; exact hz3
                  clear hz hr hfn hane
                  go_wp2_with fail
                  refine (lawake_any _ (HTZ.out.below HBw7.out h1z)).mono ?_
                  rintro e w9 ⟨rfl, hb9⟩
                  dsimp only
                  have HB9 := Lib.hid (HBw7.out.trans (hb9.mono HBw7.out.size))
                  clear hb9
                  go_wp2_with fail
                  go_ret
                  exact ⟨rfl, HB9.out⟩
              · have hg2 : ¬ gr = 2 := by rw [HGR.out]; exact fun h => hr (HNX.out.2.2.1 h)
                have hg3 : (gr == 2) = false := by rw [beq_eq_false_iff_ne]; exact hg2
                have hfn := HNX.out.1
                rw [if_pos hr] at hfn
                have hres := HRES.out
                rw [HFR.out, hfn] at hres
                injection hres with h1 h3
                injection h1 with h1 h2
                subst h1 h2 h3
                clear hr hfn
                go_wp2_with fail
                refine (lawake_any _ (HTZ.out.below HBw7.out h1z)).mono ?_
                rintro e w9 ⟨rfl, hb9⟩
                dsimp only
                have HB9 := Lib.hid (HBw7.out.trans (hb9.mono HBw7.out.size))
                clear hb9
                go_wp2_with fail
                go_ret
                exact ⟨rfl, HB9.out⟩
            · have hin : nw = i := by omega
              subst hin
              have hlti : ¬ (nw : Int) < (nw : Int) := by omega
              have hres := HRES.out
              rw [HFR.out, ← HPS.out.2.2, from_end] at hres
              injection hres with h1 h3
              injection h1 with h1 h2
              subst h1 h2 h3
              clear hlt
              go_wp2_with fail
              refine (lawake_any _ (HTZ.out.below HBwr.out h1z)).mono ?_
              rintro e w9 ⟨rfl, hb9⟩
              dsimp only
              have HB9 := Lib.hid (HBwr.out.trans (hb9.mono HBwr.out.size))
              clear hb9
              go_wp2_with fail
              go_ret
              exact ⟨rfl, HB9.out⟩
end Go.Proofs.YtbmfphiecllggaaDoor

/- JobCheck: the law returns true, and its arguments read as they did. -/
namespace Go.Proofs.YtbmfphiecllggaaDoor
set_option linter.unusedVariables false
set_option linter.unusedSimpArgs false
open Go.ChangeShapes Go.WideShapes Go.ChangeAt Go.RowKit Go.Deep
set_option maxRecDepth 100000 in
theorem jobCheck_lifted (os : Os) (started : os.Started) (H : Type) (enc : TypeId × Value → H) :
    ReturnsInHanded {} Tryd.checked os 5 .any (fun w args => (Rows.jobCheckSpec.pre enc Tryd.prog Tryd.f5 [] false w args ∧ laidMetH Tryd.prog laidB w) ∧ sizedMet enc Tryd.prog Tryd.f5 (OpenSpec.ofChange Rows.jobCheckSpec) false w args)
      (Rows.jobCheckSpec.post enc Tryd.prog Tryd.f5 false true false false) := by
  refine returnsInHanded_of_change_and (C := Tryd.checked) (X := fun w _ => laidMetH Tryd.prog laidB w) (fun _ _ _ hh h => h.of_heap hh) own_knob started (by kernel_rfl) Tryd.func5
    (ChangeSpec.witness_shaped (enc := enc) (C := Tryd.checked) (os := os) (X := fun w _ => laidMetH Tryd.prog laidB w) false (World.doorLaid Tryd.prog 400 os) #[.agg #[.slice none 0 0, .int .i64 0, .int .i64 0, .slice none 0 0], .slice none 0 0] 8 rfl (World.shaped_of_RefB (by kernel_rfl) (by kernel_rfl)) (by kernel_rfl) (by kernel_rfl) (by kernel_rfl) (door_met os _)) ?_
  intro W base args ds gs before hval0 hW _ _ hL _
  have hval : ∀ (j : Nat) t v, Tryd.f5.params[j]? = some t → args[j]? = some v → Value.okWide Tryd.prog W .any base t v := hval0
  have hW' := hW
  obtain ⟨p, q, hA0, hV, rfl, hfz, hnd⟩ := hW
  have hA : DataW.TrodAll enc Tryd.prog W 0 (fun _ => true) true Tryd.f5.params.toList args.toList ds p := hA0
  rw [Tryd.params5] at hA hval
  obtain ⟨rfl, rfl⟩ := trodVars_none hV
  clear hA0 hval0
  simp only [List.append_nil] at hW'
  have hst := hA
  have htz := of_laid hL
  obtain ⟨v0, v1, d0, d1, p0, p1, rfl, rfl, rfl, h0, h1⟩ := trodAll_two hA
  obtain ⟨j, bs, ws, rfl, hbs, hws⟩ := open_jobV (hval 0 _ _ rfl rfl) h0
  obtain ⟨fuel, hf⟩ := h1
  obtain ⟨ao, len, cap, rfl⟩ := okWide_slice Tryd.underlying49 (hval 1 _ _ rfl rfl)
  obtain ⟨l, hus⟩ := open_smallV (v := .slice ao len cap) Tryd.underlying49 (by kernel_rfl) (by kernel_rfl) (fun _ h => by have := u8_range h; omega) hf
  refine (lcheck_any j bs ws l _ W hbs hws hus htz).mono fun e W' ⟨he, hb⟩ => ?_
  subst he
  exact ⟨_, rfl, lawEnd hW' rfl hst rfl (by decide +kernel) rfl rfl hb⟩
theorem jobCheck_over : Rows.jobCheckRow.holds Tryd.pinned (OpenSpec.ofChange Rows.jobCheckSpec) :=
  OpenClaim.holds_of_wide 5 Tryd.f5 rfl rfl rfl rfl rfl rfl rfl ⟨rfl, rfl, rfl, rfl, rfl⟩ rfl rfl rfl rfl rfl (by kernel_rfl) Tryd.func5 (by kernel_rfl)
    (of_decide_eq_true (by kernel_rfl)) (by unfold Func.isWrapper; first | (rw [if_pos (by decide +kernel)]; kernel_rfl) | (rw [if_neg (by decide +kernel)]; exact ⟨rfl, rfl⟩))
    (fun os started H enc _ => jobCheck_lifted os started H enc)
theorem job_check : Rows.JobCheckCardSaid :=
  Claim7.holds_tied_plain_at .later [] [.data, .data] true (true, "0142e81380ab833cdd0b1d3ff1be0aee862e67f2dcc1be2b06267f938ad4868f") true
    jobCheck_over (fun _ h => by cases h) (by kernel_rfl) (fun _ h => by cases h) jobCheck_row_tie rfl ⟨rfl, rfl⟩ (by kernel_rfl) rfl
    (fun f fn hf hfn => by
      obtain rfl : f = 5 := Option.some.inj ((show Tryd.prog.funcNamed "blockworks/blockworkslaw12.JobCheck" = some 5 by kernel_rfl).symm.trans hf) |>.symm
      obtain rfl : fn = Tryd.f5 := (Option.some.inj (Tryd.func5.symm.trans hfn)).symm
      exact ⟨by kernel_rfl, fun j t ht => by
        rw [Tryd.params5] at ht
        have hm : t ∈ [28, 49] := by simpa using Array.mem_of_getElem? ht
        have hall : ([28, 49].all fun u => !Tryd.prog.wantsStandIn u) = true := by kernel_rfl
        exact (show Tryd.prog.wantsStandIn t = false by simpa using List.all_eq_true.1 hall t hm)⟩)
    (by kernel_rfl)
#print axioms job_check
end Go.Proofs.YtbmfphiecllggaaDoor
