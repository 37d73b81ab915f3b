/- Texts Wa, If, Wb, Wc, It, In, We in one file; each begins with a word on what it proves. -/
import Derived.Laws.BitsAllLaws
import Derived.TacticsInMore
import Derived.LoopNIn
import Derived.LoopIn
import Derived.StillTail
import Derived.OrdersHeld
import Derived.Deep.RegionHeld
import Derived.Deep.RegionHeld3
import Derived.Test.YtbmfphiecllggaaDoorKd
import Derived.Test.YtbmfphiecllggaaDoorKb
import Derived.Test.YtbmfphiecllggaaDoorKa
import Derived.Test.YtbmfphiecllggaaDoorKc

/- The small functions of package job. -/
namespace Go.Proofs.YtbmfphiecllggaaDoor
set_option linter.unusedVariables false
set_option linter.unusedSimpArgs false
open Go.RowKit Go.Shelf
attribute [local go_sem] Oper.semAt_some

/-! ### a refusal -/
theorem jask_ok (n : Int) (w : World) :
    Calls Tryd.prog 49 #[.bool true, .int .i64 n] w fun e w' => e = .returned (.tuple #[]) ∧ w = w' := by
  go_enter Tryd.func49, Tryd.ntmps49
  go_wp2
  go_end0
  exact ⟨rfl, rfl⟩
def jrefV (n : Int) : Value := .iface 130 (.int .i64 n)
theorem jask_no (n : Int) (w : World) :
    Calls Tryd.prog 49 #[.bool false, .int .i64 n] w fun e w' => e = .panicked [{ v := jrefV n, recovered := false }] ∧ w = w' := by
  go_enter Tryd.func49, Tryd.ntmps49
  go_wp2
  exact ⟨rfl, rfl, rfl⟩
set_option maxRecDepth 100000 in
set_option maxHeartbeats 2000000 in
theorem janswer_idle (ep : Nat) (w : World) :
    CallsD Tryd.prog 46 #[.pointer (some ⟨ep, 0, none⟩)] .returning w fun e u' w' => e = .returned (.tuple #[]) ∧ u' = .returning ∧ w' = w := by
  refine callsD_of_wpS Tryd.func46 rfl fun c₀ cs hu => ?_
  have hm : c₀ = { c₀ with mode := .returning } := by cases c₀; simp_all
  simp only [Tryd.ntmps46, List.size_toArray, List.length_cons, List.length_nil, Nat.reduceAdd, Nat.reduceSub, Array.replicate_succ, Array.replicate_zero, List.push_toArray, List.append_toArray, List.nil_append, List.cons_append]
  refine wpS_seq ?_
  apply wpS_region
  simp [wpOpsS, go_sem, recoverD, hu, Oper.upon, Exit.thenS]
  refine wpS_of_wp ?_
  go_wp2
  simp only [bodyPostS]
  exact ⟨trivial, .returning, by rw [← hm], .tuple #[], by simp [results, Tryd.results46, go_sem], by first | exact ⟨rfl, rfl, rfl⟩ | exact ⟨trivial, rfl, rfl⟩ | simp⟩
set_option maxRecDepth 100000 in
set_option maxHeartbeats 2000000 in
theorem janswer_stop (n : Int) (ep : Nat) (x : Int) (w : World) (hep : w.heap[ep]? = some (.cells #[.int .i64 x] 33 (0, 0))) :
    CallsD Tryd.prog 46 #[.pointer (some ⟨ep, 0, none⟩)] (.panicking [{ v := jrefV n, recovered := false }]) w fun e u' w' => e = .returned (.tuple #[]) ∧ u' = .panicking [{ v := jrefV n, recovered := true }] ∧ Keeps (fun k => k = ep) w w' ∧ w'.heap[ep]? = some (.cells #[.int .i64 n] 33 (0, 0)) := by
  have hlt := lt_of_block hep
  have hta : ∀ W : World, (Instr.typeAssert (.iface 130 (.int .i64 n)) 20 130 true).run Tryd.prog W = .ok (.tuple #[.int .i64 n, .bool true]) W := fun W => by kernel_rfl
  have c0 : w.cell? ⟨ep, 0, none⟩ = some (.int .i64 x) := by rw [cell_of_row _ _ _ _ _ _ hep]; rfl
  have c1 : w.frozen? ⟨ep, 0, none⟩ = false := frozen_of_row _ _ _ _ _ hep
  refine callsD_of_wpS Tryd.func46 rfl fun c₀ cs hu => ?_
  simp only [Tryd.ntmps46, List.size_toArray, List.length_cons, List.length_nil, Nat.reduceAdd, Nat.reduceSub, Array.replicate_succ, Array.replicate_zero, List.push_toArray, List.append_toArray, List.nil_append, List.cons_append]
  refine wpS_seq ?_
  apply wpS_region
  simp [wpOpsS, go_sem, recoverD, hu, Oper.upon, Exit.thenS]
  refine wpS_of_wp ?_
  unfold jrefV
  have c2 : (w.setCell ⟨ep, 0, none⟩ (.int .i64 n)).heap[ep]? = some (.cells #[.int .i64 n] 33 (0, 0)) := by
    simp [World.setCell, Array.getElem?_modify, hep]
  have C2 := Lib.hid c2
  have HT := Lib.hid hta
  clear c2
  go_wp2
  simp only [bodyPostS]
  exact ⟨trivial, _, rfl, .tuple #[], by simp [results, Tryd.results46, go_sem], by first | exact ⟨rfl, rfl, Keeps.setCell (Mut := fun k => k = ep) _ _ _ rfl, C2.out⟩ | exact ⟨trivial, rfl, Keeps.setCell (Mut := fun k => k = ep) _ _ _ rfl, C2.out⟩⟩
/-- A refusal that is answered. -/
theorem jleaf_stop {fn : Func} (n : Int) {R : Ending → World → Prop} (E : Nat) (x : Int) (tmps : Array Value) (w5 : World) (he : w5.heap[E]? = some (.cells #[.int .i64 x] 33 (0, 0)))
    (hR : ∀ W', Keeps (fun k => k = E) w5 W' → W'.heap[E]? = some (.cells #[.int .i64 n] 33 (0, 0)) → ∃ v, (results fn tmps).run Tryd.prog W' = .ok v W' ∧ R (.returned v) W') :
    Leaves Tryd.prog fn tmps R [{ target := .fn (.func 46) #[], args := #[.pointer (some ⟨E, 0, none⟩)] }] (.panicking [{ v := jrefV n, recovered := false }]) w5 := by
  refine leaves_cons (f := 46) (args := #[.pointer (some ⟨E, 0, none⟩)]) (by simp) (by simp [go_sem, invoke]) ?_
  refine (janswer_stop n E x w5 he).mono ?_
  rintro e u' w' ⟨rfl, rfl, hk, he'⟩
  exact hR _ hk he'
theorem jleaf_ret {fn : Func} {R : Ending → World → Prop} (E : Nat) (tmps : Array Value) (w5 : World) (hR : ∃ v, (results fn tmps).run Tryd.prog w5 = .ok v w5 ∧ R (.returned v) w5) :
    Leaves Tryd.prog fn tmps R [{ target := .fn (.func 46) #[], args := #[.pointer (some ⟨E, 0, none⟩)] }] .returning w5 := by
  refine leaves_cons (f := 46) (args := #[.pointer (some ⟨E, 0, none⟩)]) (by simp) (by simp [go_sem, invoke]) ?_
  refine (janswer_idle E w5).mono ?_
  rintro e u' w' ⟨rfl, rfl, rfl⟩
  exact hR

/-! ### sets -/
theorem jwithin_any (n a b : Int) (w : World) :
    Calls Tryd.prog 85 #[.int .i64 n, .int .i64 a, .int .i64 b] w fun e w' => e = .returned (.bool (decide (a ≤ n) && decide (n ≤ b))) ∧ w = w' := by
  go_enter Tryd.func85, Tryd.ntmps85
  go_wp2
  all_goals go_ret
  all_goals exact ⟨by simp [*]; try omega, rfl⟩
theorem jalways_any (v : Value) (w : World) :
    Calls Tryd.prog 48 #[v] w fun e w' => e = .returned (.bool true) ∧ w = w' := by
  go_enter Tryd.func48, Tryd.ntmps48
  go_wp2
  go_ret
  exact ⟨rfl, rfl⟩
theorem jmany_any (s : Nat) (hs : s < 256) (w : World) :
    Calls Tryd.prog 77 #[.int .u64 s] w fun e w' => e = .returned (.int .i64 (sizeJ 8 s)) ∧ w = w' := by
  go_enter Tryd.func77, Tryd.ntmps77
  go_wp2_with (go_at_call 93; refine (onesJ_any s hs _).mono ?_; rintro e w' ⟨rfl, rfl⟩)
  go_ret
  exact ⟨rfl, rfl⟩
theorem not_bitJ (b i : Nat) (hb : b < 256) (hi : i < 64) : (18446744073709551615 - b).testBit i = !b.testBit i := by
  rw [show 18446744073709551615 - b = 2 ^ 64 - (b + 1) by omega, Nat.testBit_two_pow_sub_succ (by omega)]
  simp [hi]
theorem and_notJ (a b : Nat) (ha : a < 256) (hb : b < 256) : a &&& (18446744073709551615 - b) = afterJ a b := by
  apply Nat.eq_of_testBit_eq
  intro i
  rw [Nat.testBit_and, afterJ_bit]
  rcases Nat.lt_or_ge i 64 with h | h
  · rw [not_bitJ b i hb h]
  · have : a.testBit i = false := Nat.testBit_lt_two_pow (Nat.lt_of_lt_of_le ha (Nat.pow_le_pow_right (by decide : 0 < 2) (by omega : 8 ≤ i)))
    rw [this]; rfl
theorem sub_afterJ (s b : Nat) : subJ s b = decide (afterJ s b = 0) := by
  rw [Bool.eq_iff_iff, subJ_iff, decide_eq_true_eq]
  constructor
  · intro h
    apply Nat.eq_of_testBit_eq
    intro i
    rw [afterJ_bit, Nat.zero_testBit]
    cases hs : s.testBit i with
    | false => rfl
    | true => rw [h i hs]; rfl
  · intro h i hi
    have := afterJ_bit s b i
    rw [h, Nat.zero_testBit, hi] at this
    simpa using this
theorem japart_any (s b : Nat) (hs : s < 256) (hb : b < 256) (w : World) :
    Calls Tryd.prog 65 #[.int .u64 s, .int .u64 ((18446744073709551615 - b : Nat) : Int)] w fun e w' => e = .returned (.bool (subJ s b)) ∧ w = w' := by
  have h := u64_and_nat s (18446744073709551615 - b) (by omega) (by omega)
  rw [and_notJ s b hs hb] at h
  have H := Lib.hid (sub_afterJ s b)
  obtain ⟨q, hq⟩ : ∃ q, q = 18446744073709551615 - b := ⟨_, rfl⟩
  rw [← hq] at h ⊢
  clear hq
  go_enter Tryd.func65, Tryd.ntmps65
  by_cases hz : afterJ s b = 0
  · rw [hz] at h
    go_wp2
    go_ret
    exact ⟨by rw [H.out, hz]; rfl, rfl⟩
  · have hz2 : ¬ ((afterJ s b : Nat) : Int) = 0 := by omega
    obtain ⟨c, hc⟩ : ∃ c, c = afterJ s b := ⟨_, rfl⟩
    rw [← hc] at h hz2
    have HC := Lib.hid hc
    clear hc
    go_wp2
    go_ret
    exact ⟨by have : ¬ c = 0 := by rw [HC.out]; exact hz
              rw [H.out, ← HC.out]; simp [this], rfl⟩
theorem japart2_any (s o : Nat) (hs : s < 256) (ho : o < 256) (w : World) :
    Calls Tryd.prog 65 #[.int .u64 s, .int .u64 o] w fun e w' => e = .returned (.bool (decide (s &&& o = 0))) ∧ w = w' := by
  have h := u64_and_nat s o (by omega) (by omega)
  obtain ⟨c, hc⟩ : ∃ c, c = s &&& o := ⟨_, rfl⟩
  rw [← hc] at h ⊢
  clear hc
  go_enter Tryd.func65, Tryd.ntmps65
  by_cases hz : c = 0
  · subst hz
    go_wp2
    go_ret
    exact ⟨rfl, rfl⟩
  · have hz2 : ¬ (c : Int) = 0 := by omega
    go_wp2
    go_ret
    exact ⟨by simp [hz], rfl⟩
theorem jafter_any (ws bs s : Nat) (i : Nat) (hw : ws < 256) (hb : bs < 256) (hs : s < 256) (hi : i < 8) (w : World) :
    Calls Tryd.prog 62 #[.agg #[.int .u64 ws, .int .u64 bs], .int .i64 i, .int .u64 s] w fun e w' => e = .returned (.agg #[.int .u64 (afterJ ws (2 ^ i) : Nat), .int .u64 (afterJ bs s : Nat)]) ∧ Below w.heap.size w w' := by
  have h1 := u64_andNot_nat bs s (by omega) (by omega)
  have h2 : ∀ q : Nat, q < 256 → bits .andNot .u64 (ws : Int) (q : Int) = ((afterJ ws q : Nat) : Int) := fun q hq => by
    have := u64_andNot_nat ws q (by omega) (by omega)
    rwa [and_notJ ws q hw hq] at this
  rw [and_notJ bs s hb hs] at h1
  obtain ⟨a, ha⟩ : ∃ a, a = afterJ bs s := ⟨_, rfl⟩
  rw [← ha] at h1 ⊢
  clear ha
  obtain ⟨q, hq, hi2⟩ : ∃ q, q = 2 ^ i ∧ q < 256 := ⟨_, rfl, Nat.lt_of_le_of_lt (Nat.pow_le_pow_right (by decide) (by omega : i ≤ 7)) (by decide)⟩
  have h3 := h2 q hi2
  have hsh : IntKind.u64.wrap (2 ^ i) = (q : Int) := by
    have hc : i = 0 ∨ i = 1 ∨ i = 2 ∨ i = 3 ∨ i = 4 ∨ i = 5 ∨ i = 6 ∨ i = 7 := by omega
    rcases hc with rfl | rfl | rfl | rfl | rfl | rfl | rfl | rfl <;> (rw [hq]; rfl)
  rw [← hq]
  obtain ⟨b, hb⟩ : ∃ b, b = afterJ ws q := ⟨_, rfl⟩
  rw [← hb] at h3 ⊢
  clear hb h2 hq
  go_enter Tryd.func62, Tryd.ntmps62
  go_wp2_with fail
  go_region
  go_wp2
  refine bodyPost_ret (v := .agg #[.int .u64 b, .int .u64 a]) ?_ rfl ⟨rfl, (((Below.refl _ _).alloc (Nat.le_refl _) _).alloc (by simp) _).drew⟩
  simp [results, Tryd.results62, go_sem]

/-! ### scores -/
def scoreV : Option (Nat × Nat) → Value
  | none => .iface 92 (.agg #[])
  | some x => .iface 94 (.agg #[.int .u64 x.1, .int .i64 x.2])
theorem never_can (w : World) : Calls Tryd.prog 126 #[.agg #[]] w fun e w' => e = .returned (.bool false) ∧ Below w.heap.size w w' := by
  go_enter Tryd.func126, Tryd.ntmps126
  go_wp2
  go_ret
  exact ⟨rfl, (Below.refl _ _).alloc (Nat.le_refl _) _⟩
theorem never_least (w : World) : Calls Tryd.prog 127 #[.agg #[]] w fun e w' => e = .returned (.int .i64 9) ∧ Below w.heap.size w w' := by
  go_enter Tryd.func127, Tryd.ntmps127
  go_wp2
  go_ret
  exact ⟨rfl, (Below.refl _ _).alloc (Nat.le_refl _) _⟩
theorem plan_can (s n : Int) (w : World) : Calls Tryd.prog 128 #[.agg #[.int .u64 s, .int .i64 n]] w fun e w' => e = .returned (.bool true) ∧ Below w.heap.size w w' := by
  go_enter Tryd.func128, Tryd.ntmps128
  go_wp2
  go_ret
  exact ⟨rfl, (Below.refl _ _).alloc (Nat.le_refl _) _⟩
theorem part_plan {W : World} {b : Nat} {x y : Value} {fr : Nat × Nat} (h : W.heap[b]? = some (.cells #[x, y] 94 fr)) : (partAt ⟨b, 0, none⟩ 0 0).run Tryd.prog W = .ok ⟨b, 0, none⟩ W := by
  have h1 : byteOfCell Tryd.prog Tryd.prog.depth 94 0 = some 0 := by kernel_rfl
  have h2 : Tryd.prog.cellsOf 94 = 2 := by kernel_rfl
  unfold partAt byteOf
  have h3 : W.shape? b = some (94, 2) := by unfold World.shape?; rw [h]; rfl
  have h4 : (viewAt b).run Tryd.prog W = .ok none W := by simp [viewAt, Sem.run_bind, Sem.run, shape, h3]
  simp [Sem.run_bind, Sem.run, shape, noView, program, h1, h2, h3, h4]
theorem plan_least (s : Int) (n : Nat) (hn : n ≤ 8) (w : World) : Calls Tryd.prog 129 #[.agg #[.int .u64 s, .int .i64 n]] w fun e w' => e = .returned (.int .i64 n) ∧ Below w.heap.size w w' := by
  go_enter Tryd.func129, Tryd.ntmps129
  go_wp2_with fail
  refine wp_name (fun X => X.heap[w.heap.size]? = some (.cells #[.int .u64 s, .int .i64 n] 94 (0, 0)) ∧ Below w.heap.size w X) ⟨heap_alloc_at _ _ _ rfl, (Below.refl _ _).alloc (Nat.le_refl _) _⟩ ?_
  rintro X ⟨hx, hb⟩
  have hlt := lt_of_block hx
  have hmin : min (9 : Int) (n : Int) = (n : Int) := by omega
  refine region_fix 6 (fun W' => Below X.heap.size X W') (by kernel_rfl) (by kernel_rfl) (Below.refl _ _).drew ?_
  simp only [List.take_succ_cons, List.take_zero, List.drop_succ_cons, List.drop_zero]
  refine WF_step ?_ (fun W' hC => ?_) rfl ?_
  rotate_left
  · have hy := (hC.block _ hlt).trans hx
    have m9 := part_plan hy
    have m0 : W'.cell? ⟨w.heap.size, 0, none⟩ = some (.int .u64 s) := by rw [cell_of_row _ _ _ _ _ _ hy]; rfl
    have m1 : W'.cell? ⟨w.heap.size, 1, none⟩ = some (.int .i64 n) := by rw [cell_of_row _ _ _ _ _ _ hy]; rfl
    go_simp
    exact fix_value hC
  simp only [Act.put, List.setIfInBounds_toArray, List.set_cons_zero, List.set_cons_succ]
  refine WF_step ?_ (fun W' hC => ?_) rfl ?_
  rotate_left
  · have hy := (hC.block _ hlt).trans hx
    have m9 := part_plan hy
    have m0 : W'.cell? ⟨w.heap.size, 0, none⟩ = some (.int .u64 s) := by rw [cell_of_row _ _ _ _ _ _ hy]; rfl
    have m1 : W'.cell? ⟨w.heap.size, 1, none⟩ = some (.int .i64 n) := by rw [cell_of_row _ _ _ _ _ _ hy]; rfl
    go_simp
    exact fix_value hC
  simp only [Act.put, List.setIfInBounds_toArray, List.set_cons_zero, List.set_cons_succ]
  refine WF_step (.int .i64 9) (fun W' hC => ?_) rfl ?_
  · go_simp
    refine fix_enter ((never_least _).mono ?_)
    rintro e w1 ⟨rfl, hb1⟩
    exact ⟨rfl, hC.trans (hb1.mono hC.size)⟩
  simp only [Act.put, List.setIfInBounds_toArray, List.set_cons_zero, List.set_cons_succ]
  refine WF_step ?_ (fun W' hC => ?_) rfl ?_
  rotate_left
  · have hy := (hC.block _ hlt).trans hx
    have m9 := part_plan hy
    have m0 : W'.cell? ⟨w.heap.size, 0, none⟩ = some (.int .u64 s) := by rw [cell_of_row _ _ _ _ _ _ hy]; rfl
    have m1 : W'.cell? ⟨w.heap.size, 1, none⟩ = some (.int .i64 n) := by rw [cell_of_row _ _ _ _ _ _ hy]; rfl
    go_simp
    exact fix_value hC
  simp only [Act.put, List.setIfInBounds_toArray, List.set_cons_zero, List.set_cons_succ]
  refine WF_step ?_ (fun W' hC => ?_) rfl ?_
  rotate_left
  · have hy := (hC.block _ hlt).trans hx
    have m9 := part_plan hy
    have m0 : W'.cell? ⟨w.heap.size, 0, none⟩ = some (.int .u64 s) := by rw [cell_of_row _ _ _ _ _ _ hy]; rfl
    have m1 : W'.cell? ⟨w.heap.size, 1, none⟩ = some (.int .i64 n) := by rw [cell_of_row _ _ _ _ _ _ hy]; rfl
    go_simp
    exact fix_value hC
  simp only [Act.put, List.setIfInBounds_toArray, List.set_cons_zero, List.set_cons_succ]
  refine WF_step ?_ (fun W' hC => ?_) rfl ?_
  rotate_left
  · have hy := (hC.block _ hlt).trans hx
    have m9 := part_plan hy
    have m0 : W'.cell? ⟨w.heap.size, 0, none⟩ = some (.int .u64 s) := by rw [cell_of_row _ _ _ _ _ _ hy]; rfl
    have m1 : W'.cell? ⟨w.heap.size, 1, none⟩ = some (.int .i64 n) := by rw [cell_of_row _ _ _ _ _ _ hy]; rfl
    go_simp
    exact fix_value hC
  simp only [Act.put, List.setIfInBounds_toArray, List.set_cons_zero, List.set_cons_succ]
  refine WF_nil ?_
  intro X6 hC6
  have hb6 := hb.trans (hC6.mono hb.size)
  have HB6 := Lib.hid hb6
  go_wp2
  go_ret
  exact ⟨rfl, HB6.out⟩
theorem method_ncan (cs : Array Value) (w : World) : (method 286 92 (.agg cs) "blockworks/job.can").run Tryd.prog w = .ok (126, .agg cs) w := by kernel_rfl
theorem method_nleast (cs : Array Value) (w : World) : (method 286 92 (.agg cs) "blockworks/job.least").run Tryd.prog w = .ok (127, .agg cs) w := by kernel_rfl
theorem method_pcan (cs : Array Value) (w : World) : (method 286 94 (.agg cs) "blockworks/job.can").run Tryd.prog w = .ok (128, .agg cs) w := by kernel_rfl
theorem method_pleast (cs : Array Value) (w : World) : (method 286 94 (.agg cs) "blockworks/job.least").run Tryd.prog w = .ok (129, .agg cs) w := by kernel_rfl

/-! ### the first want of a set -/
/-- What the table of package bits holds where it is looked at. -/
structure TabZ (w : World) : Prop where
  c0 : w.cell? ⟨1, 0, none⟩ = some (.int .u8 0)
  c1 : w.cell? ⟨1, 1, none⟩ = some (.int .u8 1)
  c3 : w.cell? ⟨1, 3, none⟩ = some (.int .u8 2)
  c7 : w.cell? ⟨1, 7, none⟩ = some (.int .u8 3)
def tzJ (x : Nat) : Nat := if x.testBit 0 then 0 else if x.testBit 1 then 1 else if x.testBit 2 then 2 else 3
set_option maxRecDepth 100000 in
theorem tz64_any (x : Nat) (h0 : 1 ≤ x) (h1 : x < 16) (w : World) (ht : TabZ w) :
    Calls Tryd.prog 96 #[.int .u64 x] w fun e w' => e = .returned (.int .i64 (tzJ x)) ∧ w = w' := by
  obtain ⟨c0, c1, c3, c7⟩ := ht
  have hc : x = 1 ∨ x = 2 ∨ x = 3 ∨ x = 4 ∨ x = 5 ∨ x = 6 ∨ x = 7 ∨ x = 8 ∨ x = 9 ∨ x = 10 ∨ x = 11 ∨ x = 12 ∨ x = 13 ∨ x = 14 ∨ x = 15 := by omega
  go_enter Tryd.func96, Tryd.ntmps96
  rcases hc with rfl | rfl | rfl | rfl | rfl | rfl | rfl | rfl | rfl | rfl | rfl | rfl | rfl | rfl | rfl
  · have e : IntKind.u64.wrap (bits BinOp.and IntKind.u64 1 (IntKind.u64.wrap (-1)) * 285870213051353865) / 288230376151711744 = 0 := by decide +kernel
    go_wp2
    go_ret
    exact ⟨rfl, rfl⟩
  · have e : IntKind.u64.wrap (bits BinOp.and IntKind.u64 2 (IntKind.u64.wrap (-2)) * 285870213051353865) / 288230376151711744 = 1 := by decide +kernel
    go_wp2
    go_ret
    exact ⟨rfl, rfl⟩
  · have e : IntKind.u64.wrap (bits BinOp.and IntKind.u64 3 (IntKind.u64.wrap (-3)) * 285870213051353865) / 288230376151711744 = 0 := by decide +kernel
    go_wp2
    go_ret
    exact ⟨rfl, rfl⟩
  · have e : IntKind.u64.wrap (bits BinOp.and IntKind.u64 4 (IntKind.u64.wrap (-4)) * 285870213051353865) / 288230376151711744 = 3 := by decide +kernel
    go_wp2
    go_ret
    exact ⟨rfl, rfl⟩
  · have e : IntKind.u64.wrap (bits BinOp.and IntKind.u64 5 (IntKind.u64.wrap (-5)) * 285870213051353865) / 288230376151711744 = 0 := by decide +kernel
    go_wp2
    go_ret
    exact ⟨rfl, rfl⟩
  · have e : IntKind.u64.wrap (bits BinOp.and IntKind.u64 6 (IntKind.u64.wrap (-6)) * 285870213051353865) / 288230376151711744 = 1 := by decide +kernel
    go_wp2
    go_ret
    exact ⟨rfl, rfl⟩
  · have e : IntKind.u64.wrap (bits BinOp.and IntKind.u64 7 (IntKind.u64.wrap (-7)) * 285870213051353865) / 288230376151711744 = 0 := by decide +kernel
    go_wp2
    go_ret
    exact ⟨rfl, rfl⟩
  · have e : IntKind.u64.wrap (bits BinOp.and IntKind.u64 8 (IntKind.u64.wrap (-8)) * 285870213051353865) / 288230376151711744 = 7 := by decide +kernel
    go_wp2
    go_ret
    exact ⟨rfl, rfl⟩
  · have e : IntKind.u64.wrap (bits BinOp.and IntKind.u64 9 (IntKind.u64.wrap (-9)) * 285870213051353865) / 288230376151711744 = 0 := by decide +kernel
    go_wp2
    go_ret
    exact ⟨rfl, rfl⟩
  · have e : IntKind.u64.wrap (bits BinOp.and IntKind.u64 10 (IntKind.u64.wrap (-10)) * 285870213051353865) / 288230376151711744 = 1 := by decide +kernel
    go_wp2
    go_ret
    exact ⟨rfl, rfl⟩
  · have e : IntKind.u64.wrap (bits BinOp.and IntKind.u64 11 (IntKind.u64.wrap (-11)) * 285870213051353865) / 288230376151711744 = 0 := by decide +kernel
    go_wp2
    go_ret
    exact ⟨rfl, rfl⟩
  · have e : IntKind.u64.wrap (bits BinOp.and IntKind.u64 12 (IntKind.u64.wrap (-12)) * 285870213051353865) / 288230376151711744 = 3 := by decide +kernel
    go_wp2
    go_ret
    exact ⟨rfl, rfl⟩
  · have e : IntKind.u64.wrap (bits BinOp.and IntKind.u64 13 (IntKind.u64.wrap (-13)) * 285870213051353865) / 288230376151711744 = 0 := by decide +kernel
    go_wp2
    go_ret
    exact ⟨rfl, rfl⟩
  · have e : IntKind.u64.wrap (bits BinOp.and IntKind.u64 14 (IntKind.u64.wrap (-14)) * 285870213051353865) / 288230376151711744 = 1 := by decide +kernel
    go_wp2
    go_ret
    exact ⟨rfl, rfl⟩
  · have e : IntKind.u64.wrap (bits BinOp.and IntKind.u64 15 (IntKind.u64.wrap (-15)) * 285870213051353865) / 288230376151711744 = 0 := by decide +kernel
    go_wp2
    go_ret
    exact ⟨rfl, rfl⟩
theorem tz_any (x : Nat) (h0 : 1 ≤ x) (h1 : x < 16) (w : World) (ht : TabZ w) :
    Calls Tryd.prog 81 #[.int .u64 x] w fun e w' => e = .returned (.int .i64 (tzJ x)) ∧ w = w' := by
  have HT := Lib.hid ht
  clear ht
  go_enter Tryd.func81, Tryd.ntmps81
  go_wp2_with (go_at_call 96; refine (tz64_any x h0 h1 _ HT.out).mono ?_; rintro e w' ⟨rfl, rfl⟩)
  go_ret
  exact ⟨rfl, rfl⟩
end Go.Proofs.YtbmfphiecllggaaDoor

/- Iterators, and what ranges over one: something that the iterator reads stands in each round. -/
namespace Go.Proofs.YtbmfphiecllggaaDoor
set_option linter.unusedVariables false
set_option linter.unusedSimpArgs false
open Go.RowKit

/-- A function value yields these, one after the other, as long as it is told to go on; Φ is what must stand in each round. -/
def SeqF {α : Type} (P : Program) (g : FuncId) (lb : Array Value) (encs : α → Array Value) (xs : List α) (Rd : Nat → Prop) (Φ : World → Prop) (W : World) : Prop :=
  ∀ (l : Nat) (Mut : Nat → Prop) (J Jx : List α → (Nat → Prop) → World → Prop), (∀ s G W1, J s G W1 → Φ W1) →
    (∀ k, Mut k → k < W.heap.size ∧ ¬ Rd k) → Stable W.heap.size J → Stable W.heap.size Jx →
    (∀ pre x rest G W1, xs = pre ++ x :: rest → J pre G W1 → W.heap.size ≤ W1.heap.size → (∀ k, G k → W.heap.size ≤ k) → YieldAt Fence.wide 0 P l (encs x) W1 fun e W2 =>
      Keeps (fun k => Mut k ∨ G k) W1 W2 ∧ ((e = .returned (.bool true) ∧ J (pre ++ [x]) (Grow G W1 W2) W2) ∨ (e = .returned (.bool false) ∧ Jx (pre ++ [x]) (Grow G W1 W2) W2))) →
    J [] (fun _ => False) W →
    Calls P g (#[.func (.yield l) #[] #[]] ++ lb) W fun e W2 => (∃ v, e = .returned v) ∧ Keeps (fun k => Mut k ∨ W.heap.size ≤ k) W W2 ∧
      ∃ G, (J xs G W2 ∨ ∃ pre x rest, xs = pre ++ x :: rest ∧ Jx (pre ++ [x]) G W2)

theorem wp_rangeF {α : Type} {P : Program} {g : Operand} {ps : Array Tmp} {assign body : Code} {Q : Exit → Act → World → Prop} {a : Act} {w : World} {gf : Nat} {lb : Array Value}
    (hg : a.eval g = .func (.func gf) #[] lb) (eg : ∀ args w, (callFunc gf args).run P w = .ok (.enter gf args) w)
    {encs : α → Array Value} (hps : ∀ x, (encs x).size = ps.size) (Rd Mut : Nat → Prop) (hRd : ∀ k, Rd k → k < w.heap.size) (hM : ∀ k, Mut k → k < w.heap.size ∧ ¬ Rd k) (Φ : World → Prop) (xs : List α)
    (hseq : ∀ W, Below w.heap.size w W → SeqF P gf lb encs xs Rd Φ W)
    (I : List α → (Nat → Prop) → World → Prop) (Ix : Code → List α → (Nat → Prop) → World → Prop) (hΦ : ∀ s G W, I s G W → Φ W) (hI : Stable w.heap.size I) (hIx : ∀ c, Stable w.heap.size (Ix c)) (h0 : I [] (fun _ => False) w)
    (hround : ∀ l pre x rest G W, xs = pre ++ x :: rest → I pre G W → w.heap.size ≤ l → l < W.heap.size → (∀ k, G k → l < k) →
      assign.wpIn (Fence.wide.inRound l) 0 P (Exit.then (fun a₁ W₁ => Keeps (fun k => Mut k ∨ G k) W W₁ ∧ ∀ W₂, Keeps (fun k => k = l) W₁ W₂ → W₂.heap.size = W₁.heap.size →
        body.wpIn (Fence.wide.inRound l) 0 P (roundEndG Mut I Ix (pre ++ [x]) G W W₂) a₁ W₂) (fun _ _ _ => False))
        { tmps := (ps.zip (encs x)).foldl (fun t (p, v) => t.setIfInBounds p v) a.tmps, defers := [] } W)
    (hdone : ∀ D G W, I xs G W → (∀ k, G k → D < k) → Keeps (fun k => Mut k ∨ w.heap.size ≤ k) w W → W.heap[D]? = some (.deferred (some [])) → w.heap.size ≤ D →
      Q .normal { a with defers := { target := .collected D, args := #[] } :: a.defers } W)
    (hstop : ∀ D c pre x rest G W, xs = pre ++ x :: rest → Ix c (pre ++ [x]) G W → (∀ k, G k → D < k) → Keeps (fun k => Mut k ∨ w.heap.size ≤ k) w W → W.heap[D]? = some (.deferred (some [])) → w.heap.size ≤ D →
      c.wp P Q { a with defers := { target := .collected D, args := #[] } :: a.defers } W) :
    (Code.rangeFunc g ps assign body).wp P Q a w := by
  refine (wpIn_wide (n := 0)).1 (wpIn_rangeFunc ?_)
  intro fn hfn
  obtain ⟨rec, hrec⟩ : ∃ rec : LoopState → Option Code → Loop, rec = fun st pe => { state := st, pending := pe, fn, tmps := a.tmps, params := ps, assign, body, defers := w.heap.size } := ⟨_, rfl⟩
  obtain ⟨W1, hW1⟩ : ∃ W1, (w.alloc (.deferred (some []))).alloc (.loop (rec .ready none)) = W1 := ⟨_, rfl⟩
  have hsz : W1.heap.size = w.heap.size + 2 := by rw [← hW1]; simp
  have hL1 : W1.heap[w.heap.size + 1]? = some (.loop (rec .ready none)) := by rw [← hW1]; exact heap_alloc_at _ _ _ (by simp)
  have hK1 : W1.heap[w.heap.size]? = some (.deferred (some [])) := by rw [← hW1]; exact (hget_old _ _ _ (by simp)).trans (heap_alloc_at _ _ _ rfl)
  have hkw : ∀ M : Nat → Prop, Keeps M w W1 := fun M => by rw [← hW1]; exact (Keeps.alloc _ _ _).trans (Keeps.alloc _ _ _)
  have hb1 : Below w.heap.size w W1 := (hkw (fun _ => False)).below (Nat.le_refl _) (fun _ _ h => h)
  refine ⟨w.heap.size + 1, [{ target := .collected w.heap.size, args := #[] }], W1, { target := .fn (.func gf) lb, args := #[.func (.yield (w.heap.size + 1)) #[] #[]] }, W1, gf,
    #[.func (.yield (w.heap.size + 1)) #[] #[]] ++ lb, W1, ?_, ?_, fun _ _ => trivial, ?_, fun h => by simp [Fence.wide] at h, ?_⟩
  · rw [← hW1, hrec]; exact run_enterLoop_outer _ _ _ _ _
  · simp only [resolve, hg]
    simp [go_sem]
  · simp [invoke, go_sem, eg]
  refine callsIn_wide.2 ((hseq W1 hb1 (w.heap.size + 1) (fun k => Mut k ∨ k = w.heap.size + 1)
    (fun s G W => I s G W ∧ W.heap[w.heap.size + 1]? = some (.loop (rec .ready none)) ∧ W.heap[w.heap.size]? = some (.deferred (some [])) ∧ ∀ k, G k → w.heap.size + 2 ≤ k)
    (fun s G W => ∃ c, Ix c s G W ∧ W.heap[w.heap.size + 1]? = some (.loop (rec .done (some c))) ∧ W.heap[w.heap.size]? = some (.deferred (some [])) ∧ ∀ k, G k → w.heap.size + 2 ≤ k)
    (fun s G W h => hΦ s G W h.1) ?_ ?_ ?_ ?_ ?_).mono ?_)
  · rintro k (hk | rfl)
    · exact ⟨by have := (hM k hk).1; omega, (hM k hk).2⟩
    · exact ⟨by omega, fun h => by have := hRd _ h; omega⟩
  · rintro s G A B ⟨hi, hl, hd, hG⟩ hk
    exact ⟨hI s G A B hi (hk.mono fun k _ h => ⟨by omega, h.2⟩), (hk.block _ (lt_of_block hl) (by omega)).trans hl, (hk.block _ (lt_of_block hd) (by omega)).trans hd, hG⟩
  · rintro s G A B ⟨c, hi, hl, hd, hG⟩ hk
    exact ⟨c, hIx c s G A B hi (hk.mono fun k _ h => ⟨by omega, h.2⟩), (hk.block _ (lt_of_block hl) (by omega)).trans hl, (hk.block _ (lt_of_block hd) (by omega)).trans hd, hG⟩
  · -- one round
    rintro pre x rest G W hxs ⟨hi, hl, hd, hG⟩ hWs _
    have hlt : w.heap.size + 1 < W.heap.size := by omega
    have hy := run_yield (P := P) (args := encs x) hl (by rw [hrec]; exact hps x)
    rw [hrec] at hy
    refine ⟨fn, _, assign, body, hy, roundIn_of_wpIn hfn (wpIn_mono (hround (w.heap.size + 1) pre x rest G W hxs hi (by omega) hlt (fun k h => by have := hG k h; omega)) ?_)⟩
    intro e a1 Wa hp
    cases e with
    | normal =>
      obtain ⟨hkm, hbody⟩ := hp
      have hla : Wa.heap[w.heap.size + 1]? = some (.loop (rec .ready none)) := (hkm.block _ hlt (fun h => h.elim (fun h => by have := (hM _ h).1; omega) (fun h => by have := hG _ h; omega))).trans hl
      have hda : Wa.heap[w.heap.size]? = some (.deferred (some [])) := (hkm.block _ (by omega) (fun h => h.elim (fun h => by have := (hM _ h).1; omega) (fun h => by have := hG _ h; omega))).trans hd
      refine ⟨_, run_beginRound hla (by rw [hrec]), ?_⟩
      refine wpIn_mono (hbody _ (Keeps.putObj _ _ _ rfl) (by simp)) ?_
      intro e2 a2 W3 hp
      have hl2 : (Wa.putObj (w.heap.size + 1) (.loop { rec .ready none with state := .busy })).heap[w.heap.size + 1]? = some (.loop { rec .ready none with state := .busy }) := World.putObj_heap_same (lt_of_block hla)
      have hd2 : (Wa.putObj (w.heap.size + 1) (.loop { rec .ready none with state := .busy })).heap[w.heap.size]? = some (.deferred (some [])) := (World.putObj_heap_other (by omega)).trans hda
      have fin : ∀ (jump : Option Code), Keeps (fun k => Mut k ∨ G k) (Wa.putObj (w.heap.size + 1) (.loop { rec .ready none with state := .busy })) W3 → ∃ W4,
          (Instr.endRound (w.heap.size + 1) jump).run P W3 = .ok (.bool jump.isNone) W4 ∧
          W4.heap[w.heap.size + 1]? = some (.loop (rec (if jump.isNone then .ready else .done) jump)) ∧ W4.heap[w.heap.size]? = some (.deferred (some [])) ∧
          Keeps (fun k => (Mut k ∨ k = w.heap.size + 1) ∨ G k) W W4 ∧ Keeps (fun k => k = w.heap.size + 1) W3 W4 ∧ W4.heap.size = W3.heap.size := fun jump hk3 => by
        have hs2 : (Wa.putObj (w.heap.size + 1) (.loop { rec .ready none with state := .busy })).heap.size = Wa.heap.size := by simp
        have hl3 := (hk3.block _ (by have := lt_of_block hl2; exact this) (fun h => h.elim (fun h => by have := (hM _ h).1; omega) (fun h => by have := hG _ h; omega))).trans hl2
        have hd3 := (hk3.block _ (by have := lt_of_block hd2; exact this) (fun h => h.elim (fun h => by have := (hM _ h).1; omega) (fun h => by have := hG _ h; omega))).trans hd2
        have hr := run_endRound (P := P) jump hl3
        refine ⟨_, hr, ?_, (World.putObj_heap_other (by omega)).trans hd3, ?_, Keeps.putObj _ _ _ rfl, by simp⟩
        · rw [World.putObj_heap_same (lt_of_block hl3), hrec]
        · exact (hkm.mono fun k _ h => h.elim (fun h => .inl (.inl h)) .inr).trans ((Keeps.putObj _ _ _ (.inl (.inr rfl))).trans ((hk3.mono fun k _ h => h.elim (fun h => .inl (.inl h)) .inr).trans (Keeps.putObj _ _ _ (.inl (.inr rfl)))))
      have hstep : ∀ (J : List α → (Nat → Prop) → World → Prop) (W4 : World), Stable w.heap.size J → J (pre ++ [x]) (Grow G W W3) W3 → Keeps (fun k => k = w.heap.size + 1) W3 W4 → W4.heap.size = W3.heap.size → J (pre ++ [x]) (Grow G W W4) W4 := fun J W4 hJ hj hk hs => by
        have : Grow G W W4 = Grow G W W3 := by unfold Grow; rw [hs]
        rw [this]
        refine hJ _ _ _ _ hj (hk.mono fun k _ h => ?_)
        subst h
        refine ⟨by omega, ?_⟩
        rintro (h | h)
        · have := hG _ h; omega
        · omega
      have hGG : ∀ W4 : World, ∀ k, Grow G W W4 k → w.heap.size + 2 ≤ k := by
        rintro W4 k (h | h)
        · exact hG k h
        · omega
      cases e2 with
      | normal =>
        obtain ⟨hk3, hi3⟩ := hp
        obtain ⟨W4, hr, hl4, hd4, hkk, hk4, hs4⟩ := fin none hk3
        exact ⟨_, _, hr, hkk, .inl ⟨rfl, hstep _ _ hI hi3 hk4 hs4, hl4, hd4, hGG _⟩⟩
      | ret =>
        obtain ⟨hk3, hi3⟩ := hp
        obtain ⟨W4, hr, hl4, hd4, hkk, hk4, hs4⟩ := fin (some .ret) hk3
        exact ⟨_, _, hr, hkk, .inr ⟨rfl, _, hstep _ _ (hIx _) hi3 hk4 hs4, hl4, hd4, hGG _⟩⟩
      | exit id =>
        obtain ⟨hk3, hi3⟩ := hp
        obtain ⟨W4, hr, hl4, hd4, hkk, hk4, hs4⟩ := fin (some (.exit id)) hk3
        exact ⟨_, _, hr, hkk, .inr ⟨rfl, _, hstep _ _ (hIx _) hi3 hk4 hs4, hl4, hd4, hGG _⟩⟩
      | goto t =>
        obtain ⟨hk3, hi3⟩ := hp
        obtain ⟨W4, hr, hl4, hd4, hkk, hk4, hs4⟩ := fin (some (.goto t)) hk3
        exact ⟨_, _, hr, hkk, .inr ⟨rfl, _, hstep _ _ (hIx _) hi3 hk4 hs4, hl4, hd4, hGG _⟩⟩
      | panic ch => exact hp.elim
      | outgrown => exact hp.elim
    | ret => exact hp.elim
    | exit id => exact hp.elim
    | goto t => exact hp.elim
    | panic ch => exact hp.elim
    | outgrown => exact hp.elim
  · exact ⟨hI _ _ _ _ h0 (hkw _), hL1, hK1, fun _ h => h.elim⟩
  · -- behind the iterator
    rintro e W2 ⟨⟨v, rfl⟩, hk, G, h⟩
    have hkk : ∀ o, Keeps (fun k => Mut k ∨ w.heap.size ≤ k) w (W2.putObj (w.heap.size + 1) o) := fun o =>
      ((hkw _).trans (hk.mono fun k _ h => h.elim (fun h => h.elim .inl fun e => .inr (by omega)) (fun h => .inr (by omega)))).trans (Keeps.putObj _ _ _ (.inr (by omega)))
    have hst : ∀ (J : List α → (Nat → Prop) → World → Prop) (s : List α) (o : Obj), Stable w.heap.size J → J s G W2 → (∀ k, G k → w.heap.size + 2 ≤ k) → J s G (W2.putObj (w.heap.size + 1) o) := fun J s o hJ hj hG =>
      hJ _ _ _ _ hj (Keeps.putObj _ _ _ ⟨by omega, fun h => by have := hG _ h; omega⟩)
    rcases h with ⟨hi, hl, hd, hG⟩ | ⟨pre, x, rest, hxs, c, hi, hl, hd, hG⟩
    · exact ⟨none, _, by have := run_endLoop (P := P) hl (by rw [hrec]; simp); rw [hrec] at this; exact this,
        hdone _ G _ (hst _ _ _ hI hi hG) (fun k h => by have := hG k h; omega) (hkk _) ((World.putObj_heap_other (by omega)).trans hd) (Nat.le_refl _)⟩
    · exact ⟨some c, _, by have := run_endLoop (P := P) hl (by rw [hrec]; simp); rw [hrec] at this; exact this,
        wpIn_wide.2 (hstop _ c pre x rest G _ hxs (hst _ _ _ (hIx c) hi hG) (fun k h => by have := hG k h; omega) (hkk _) ((World.putObj_heap_other (by omega)).trans hd) (Nat.le_refl _))⟩

end Go.Proofs.YtbmfphiecllggaaDoor

/- A job that is looked at, in memory; its sets; its stacks, one after the other. -/
namespace Go.Proofs.YtbmfphiecllggaaDoor
set_option linter.unusedVariables false
set_option linter.unusedSimpArgs false
open Go.RowKit Go.Shelf
attribute [local go_sem] Oper.semAt_some

/-- The parts of a job that come in. -/
structure JobO (j : JobD) (B pp mp : Nat) (bs ws : Value) (r : Nat → Value) (W : World) : Prop where
  obj : W.heap[pp]? = some (.cells #[bs, .int .i64 j.st.film.1, .int .i64 j.st.film.2, ws, r 0, r 1, r 2, r 3, .map (some mp)] 104 (0, 0))
  bs : SpansAt W bs j.st.bs (fun k => k < B)
  ws : SpansAt W ws j.ws (fun k => k < B)
  lp : B ≤ pp
  lm : B ≤ mp
  ne : pp ≠ mp
theorem JobO.keeps {j : JobD} {B pp mp : Nat} {bs ws : Value} {r : Nat → Value} {W W' : World} (h : JobO j B pp mp bs ws r W) (hk : Keeps (fun k => k = mp) W W') : JobO j B pp mp bs ws r W' :=
  ⟨(hk.block pp (lt_of_block h.obj) h.ne).trans h.obj, h.bs.later hk.size (fun k h1 h2 => hk.block k h1 (by have := h.lm; omega)), h.ws.later hk.size (fun k h1 h2 => hk.block k h1 (by have := h.lm; omega)), h.lp, h.lm, h.ne⟩
theorem JobO.later {j : JobD} {B pp mp : Nat} {bs ws : Value} {r : Nat → Value} {W W' : World} (h : JobO j B pp mp bs ws r W) (hb : Below W.heap.size W W') : JobO j B pp mp bs ws r W' :=
  h.keeps (Keeps.of_below hb (fun k h1 h2 => absurd h2 (by omega)))
theorem validJb_parts {j : JobD} (h : validJb j = true) : validSt j.st = true ∧ j.ws.length ≤ 4 ∧ ∀ w ∈ j.ws, wantOk w = true := by
  unfold validJb at h
  simp only [Bool.and_eq_true, decide_eq_true_eq, List.all_eq_true] at h
  exact ⟨h.1.1, h.1.2, h.2⟩
theorem validJb_of {j : JobD} (h1 : validSt j.st = true) (h2 : j.ws.length ≤ 4) (h3 : ∀ w ∈ j.ws, wantOk w = true) : validJb j = true := by
  unfold validJb
  simp only [Bool.and_eq_true, decide_eq_true_eq, List.all_eq_true]
  exact ⟨⟨h1, h2⟩, h3⟩
set_option maxRecDepth 100000 in
theorem jall_any {j : JobD} {B pp mp : Nat} {bs ws : Value} {r : Nat → Value} (h8 : j.st.bs.length ≤ 8) (w : World) (h : JobO j B pp mp bs ws r w) :
    Calls Tryd.prog 60 #[.pointer (some ⟨pp, 0, none⟩)] w fun e w' => e = .returned (.int .u64 (allD j : Nat)) ∧ w = w' := by
  obtain ⟨ao, cap, hv, _⟩ := h.bs
  subst hv
  unfold allD
  have c0 : w.cell? ⟨pp, 0, none⟩ = some (.slice ao j.st.bs.length cap) := by rw [cell_of_row _ _ _ _ _ _ h.obj]; rfl
  obtain ⟨n, hn⟩ : ∃ n, n = j.st.bs.length := ⟨_, rfl⟩
  rw [← hn] at c0 h8 ⊢
  clear h hn
  go_enter Tryd.func60, Tryd.ntmps60
  have hc : n = 0 ∨ n = 1 ∨ n = 2 ∨ n = 3 ∨ n = 4 ∨ n = 5 ∨ n = 6 ∨ n = 7 ∨ n = 8 := by omega
  rcases hc with rfl | rfl | rfl | rfl | rfl | rfl | rfl | rfl | rfl
  all_goals go_wp2
  all_goals go_ret
  all_goals exact ⟨rfl, rfl⟩
set_option maxRecDepth 100000 in
theorem jevery_any {j : JobD} {B pp mp : Nat} {bs ws : Value} {r : Nat → Value} (h4 : j.ws.length ≤ 4) (w : World) (h : JobO j B pp mp bs ws r w) :
    Calls Tryd.prog 51 #[.pointer (some ⟨pp, 0, none⟩)] w fun e w' => e = .returned (.int .u64 (everyD j : Nat)) ∧ w = w' := by
  obtain ⟨ao, cap, hv, _⟩ := h.ws
  subst hv
  unfold everyD
  have c0 : w.cell? ⟨pp, 3, none⟩ = some (.slice ao j.ws.length cap) := by rw [cell_of_row _ _ _ _ _ _ h.obj]; rfl
  obtain ⟨n, hn⟩ : ∃ n, n = j.ws.length := ⟨_, rfl⟩
  rw [← hn] at c0 h4 ⊢
  clear h hn
  go_enter Tryd.func51, Tryd.ntmps51
  have hc : n = 0 ∨ n = 1 ∨ n = 2 ∨ n = 3 ∨ n = 4 := by omega
  rcases hc with rfl | rfl | rfl | rfl | rfl
  all_goals go_wp2
  all_goals go_ret
  all_goals exact ⟨rfl, rfl⟩
/-- What two sets come to together, step by step. -/
def unJ (x y : Nat) : Nat → Nat
  | 0 => 0
  | 1 => x
  | _ => x ||| y
theorem junion_any (x y b : Nat) (hx : x < 256) (hy : y < 256) (w : World) (c0 : w.cell? ⟨b, 0, none⟩ = some (.int .u64 x)) (c1 : w.cell? ⟨b, 1, none⟩ = some (.int .u64 y)) :
    Calls Tryd.prog 54 #[.slice (some ⟨b, 0, none⟩) 2 2] w fun e w' => e = .returned (.int .u64 (x ||| y : Nat)) ∧ w = w' := by
  have h0 : bits .or .u64 0 (x : Int) = (x : Int) := by have := u64_or_nat 0 x (by omega) (by omega); rwa [Nat.zero_or] at this
  have h1 := u64_or_nat x y (by omega) (by omega)
  go_enter Tryd.func54, Tryd.ntmps54
  go_wp2_with fail
  go_loopw [2, 7] (fun sv iv wr => ∃ i : Nat, i ≤ 2 ∧ iv = .int .i64 i ∧ sv = .int .u64 (unJ x y i : Nat) ∧ w = wr) (fun _ iv _ => 2 - (intOf iv).toNat)
  case atStart => exact ⟨0, by omega, rfl, rfl, rfl⟩
  case round =>
    obtain ⟨i, hi, rfl, rfl, rfl⟩ := hrel
    have hcase : i = 0 ∨ i = 1 ∨ i = 2 := by omega
    rcases hcase with rfl | rfl | rfl
    · simp only [unJ]
      go_wp2
      exact ⟨⟨1, by omega, rfl, rfl, trivial⟩, by simp [intOf]⟩
    · simp only [unJ]
      go_wp2
      exact ⟨⟨2, by omega, rfl, rfl, trivial⟩, by simp [intOf]⟩
    · simp only [unJ]
      go_wp2
      go_ret
      exact ⟨rfl, rfl⟩

/-! ### which wants can be met alone -/
theorem JobO.span {j : JobD} {B pp mp : Nat} {bs ws : Value} {r : Nat → Value} {W : World} (h : JobO j B pp mp bs ws r W) (hB : B ≤ W.heap.size) : SpansAt W bs j.st.bs (fun k => k < W.heap.size) := by
  obtain ⟨ao, cap, h1, h2, h3, h4⟩ := h.bs
  exact ⟨ao, cap, h1, h2, h3, fun i hi => by obtain ⟨b, off, e1, e2, e3⟩ := h4 i hi; exact ⟨b, off, e1, e3.1, e3⟩⟩
theorem fewest_ok {s : StackD} {w : Int × Int} (hv : validSt s = true) (hw : wantOk w = true) : (fewestS s w).2 = if rightsS s w = [] then 4 else 0 := by
  have he : errS s (wantOk w) = 0 := by unfold errS; rw [hv, hw]; rfl
  cases hl : leastJ (rightsS s w) with
  | none => rw [fewest_noneS he hl, if_pos (least_none.1 hl)]
  | some t => rw [fewest_someS he hl, if_neg (fun h => by rw [least_none.2 h] at hl; cases hl)]
def aloneF (j : JobD) (i : Nat) : Bool := !((rightsS j.st (j.ws.getD i (0, 0))).isEmpty)
theorem alone_set (j : JobD) : aloneN j = setJ (aloneF j) j.ws.length := rfl
theorem shl_u64 (i : Nat) (hi : i < 8) : IntKind.u64.wrap (2 ^ i) = ((2 ^ i : Nat) : Int) := by
  have hc : i = 0 ∨ i = 1 ∨ i = 2 ∨ i = 3 ∨ i = 4 ∨ i = 5 ∨ i = 6 ∨ i = 7 := by omega
  rcases hc with rfl | rfl | rfl | rfl | rfl | rfl | rfl | rfl <;> rfl
set_option maxRecDepth 100000 in
set_option maxHeartbeats 4000000 in
theorem alone_any {j : JobD} {B pp mp : Nat} {bs ws : Value} {r : Nat → Value} (hv : validJb j = true) (w : World) (h : JobO j B pp mp bs ws r w) :
    Calls Tryd.prog 50 #[.pointer (some ⟨pp, 0, none⟩)] w fun e w' => e = .returned (.int .u64 (aloneN j : Nat)) ∧ Below w.heap.size w w' := by
  obtain ⟨hst, h4, hwk⟩ := validJb_parts hv
  have HWK := Lib.hid hwk
  have H := Lib.hid h
  have hpp := lt_of_block h.obj
  obtain ⟨ao, cap, hv1, _⟩ := h.bs
  obtain ⟨ao2, cap2, hv2, _⟩ := h.ws
  subst hv1 hv2
  obtain ⟨nb, hnb⟩ : ∃ n, n = j.st.bs.length := ⟨_, rfl⟩
  obtain ⟨nw, hnw⟩ : ∃ n, n = j.ws.length := ⟨_, rfl⟩
  have HNB := Lib.hid hnb
  have HNW := Lib.hid hnw
  rw [← hnb, ← hnw] at H
  rw [← hnw] at h4
  clear h hnb hnw hwk
  have c3 : w.cell? ⟨pp, 3, none⟩ = some (.slice ao2 nw cap2) := by rw [cell_of_row _ _ _ _ _ _ H.out.obj]; rfl
  go_enter Tryd.func50, Tryd.ntmps50
  go_wp2_with fail
  clear c3
  go_loopw [2, 12] (fun sv iv wr => ∃ i : Nat, i ≤ nw ∧ iv = .int .i64 i ∧ sv = .int .u64 (setJ (aloneF j) i : Nat) ∧ Below w.heap.size w wr) (fun _ iv _ => nw - (intOf iv).toNat)
  case atStart => exact ⟨0, Nat.zero_le _, rfl, rfl, Below.refl _ _⟩
  case round =>
    obtain ⟨wo, hwo⟩ : ∃ x, x = wr := ⟨_, rfl⟩
    subst hwo
    obtain ⟨i, hi, rfl, rfl, hb⟩ := hrel
    have HB := Lib.hid hb
    clear hb
    by_cases hlt : i < nw
    · obtain ⟨ao', cap', hv', _, _, hel⟩ := (H.out.later HB.out).ws
      injection hv' with hao hnn hcap
      subst hao hcap
      clear hnn
      obtain ⟨b, off, rfl, hbB, hbl, e0, e1⟩ := hel i (by rw [← HNW.out]; exact hlt)
      obtain ⟨⟨wl, wh⟩, hx⟩ : ∃ x, x = j.ws[i]'(by rw [← HNW.out]; exact hlt) := ⟨_, rfl⟩
      rw [← hx] at e0 e1
      have hwok := HWK.out _ (show (wl, wh) ∈ j.ws by rw [hx]; exact List.getElem_mem _)
      have HX := Lib.hid hx
      have HE := Lib.hid (And.intro e0 e1)
      have HWOK := Lib.hid hwok
      clear hx hel e0 e1 hwok
      have hw : IntKind.i64.wrap ((i : Int) + 1) = ((i + 1 : Nat) : Int) := by rw [IntWalk.i64_in _ (by omega)]; omega
      have hlti : (i : Int) < (nw : Int) := by omega
      go_wp2_with fail
      refine wp_region_held_drew (S := fun W => JobO j B pp mp (.slice ao nb cap) (.slice (some ⟨b, off, none⟩) nw cap2) r W ∧ W.cell? ⟨b, off + i * 2, none⟩ = some (.int .i64 wl) ∧ W.cell? ⟨b, off + i * 2 + 1, none⟩ = some (.int .i64 wh) ∧ Below w.heap.size w W) (by kernel_rfl) ⟨(H.out.later HB.out).later (Below.refl _ _).drew, HE.out.1, HE.out.2, HB.out.drew⟩ fun hS => ?_
      generalize wo.drew = W1 at hS
      have hpw : b < w.heap.size := by have := H.out.lp; omega
      refine wpAnyH_take (i := 0) (v := ?_) rfl (by kernel_rfl) (by kernel_rfl) (by kernel_rfl) (fun _ _ _ h => h) (Or.inl ⟨by rfl, ?_⟩) hS ?_
      rotate_left
      · intro W hSw
        have s0 : W.cell? ⟨pp, 0, none⟩ = some (.slice ao nb cap) := by rw [cell_of_row _ _ _ _ _ _ hSw.1.obj]; rfl
        have s1 : W.cell? ⟨pp, 1, none⟩ = some (.int .i64 j.st.film.1) := by rw [cell_of_row _ _ _ _ _ _ hSw.1.obj]; rfl
        have s2 : W.cell? ⟨pp, 2, none⟩ = some (.int .i64 j.st.film.2) := by rw [cell_of_row _ _ _ _ _ _ hSw.1.obj]; rfl
        have s3 : W.cell? ⟨pp, 3, none⟩ = some (.slice (some ⟨b, off, none⟩) nw cap2) := by rw [cell_of_row _ _ _ _ _ _ hSw.1.obj]; rfl
        have s4 := hSw.2.1
        have s5 := hSw.2.2.1
        go_simp
        try with_reducible rfl
      try simp only [List.getElem_toArray, List.getElem_cons_succ, List.getElem_cons_zero, Act.put, List.setIfInBounds_toArray, List.set_cons_zero, List.set_cons_succ]
      refine wpAnyH_take (i := 1) (v := ?_) rfl (by kernel_rfl) (by kernel_rfl) (by kernel_rfl) (fun _ _ _ h => h) (Or.inl ⟨by rfl, ?_⟩) hS ?_
      rotate_left
      · intro W hSw
        have s0 : W.cell? ⟨pp, 0, none⟩ = some (.slice ao nb cap) := by rw [cell_of_row _ _ _ _ _ _ hSw.1.obj]; rfl
        have s1 : W.cell? ⟨pp, 1, none⟩ = some (.int .i64 j.st.film.1) := by rw [cell_of_row _ _ _ _ _ _ hSw.1.obj]; rfl
        have s2 : W.cell? ⟨pp, 2, none⟩ = some (.int .i64 j.st.film.2) := by rw [cell_of_row _ _ _ _ _ _ hSw.1.obj]; rfl
        have s3 : W.cell? ⟨pp, 3, none⟩ = some (.slice (some ⟨b, off, none⟩) nw cap2) := by rw [cell_of_row _ _ _ _ _ _ hSw.1.obj]; rfl
        have s4 := hSw.2.1
        have s5 := hSw.2.2.1
        go_simp
        try with_reducible rfl
      try simp only [List.getElem_toArray, List.getElem_cons_succ, List.getElem_cons_zero, Act.put, List.setIfInBounds_toArray, List.set_cons_zero, List.set_cons_succ]
      refine wpAnyH_take (i := 2) (v := ?_) rfl (by kernel_rfl) (by kernel_rfl) (by kernel_rfl) (fun _ _ _ h => h) (Or.inl ⟨by rfl, ?_⟩) hS ?_
      rotate_left
      · intro W hSw
        have s0 : W.cell? ⟨pp, 0, none⟩ = some (.slice ao nb cap) := by rw [cell_of_row _ _ _ _ _ _ hSw.1.obj]; rfl
        have s1 : W.cell? ⟨pp, 1, none⟩ = some (.int .i64 j.st.film.1) := by rw [cell_of_row _ _ _ _ _ _ hSw.1.obj]; rfl
        have s2 : W.cell? ⟨pp, 2, none⟩ = some (.int .i64 j.st.film.2) := by rw [cell_of_row _ _ _ _ _ _ hSw.1.obj]; rfl
        have s3 : W.cell? ⟨pp, 3, none⟩ = some (.slice (some ⟨b, off, none⟩) nw cap2) := by rw [cell_of_row _ _ _ _ _ _ hSw.1.obj]; rfl
        have s4 := hSw.2.1
        have s5 := hSw.2.2.1
        go_simp
        try with_reducible rfl
      try simp only [List.getElem_toArray, List.getElem_cons_succ, List.getElem_cons_zero, Act.put, List.setIfInBounds_toArray, List.set_cons_zero, List.set_cons_succ]
      refine wpAnyH_take (i := 3) (v := ?_) rfl (by kernel_rfl) (by kernel_rfl) (by kernel_rfl) (fun _ _ _ h => h) (Or.inl ⟨by rfl, ?_⟩) hS ?_
      rotate_left
      · intro W hSw
        have s0 : W.cell? ⟨pp, 0, none⟩ = some (.slice ao nb cap) := by rw [cell_of_row _ _ _ _ _ _ hSw.1.obj]; rfl
        have s1 : W.cell? ⟨pp, 1, none⟩ = some (.int .i64 j.st.film.1) := by rw [cell_of_row _ _ _ _ _ _ hSw.1.obj]; rfl
        have s2 : W.cell? ⟨pp, 2, none⟩ = some (.int .i64 j.st.film.2) := by rw [cell_of_row _ _ _ _ _ _ hSw.1.obj]; rfl
        have s3 : W.cell? ⟨pp, 3, none⟩ = some (.slice (some ⟨b, off, none⟩) nw cap2) := by rw [cell_of_row _ _ _ _ _ _ hSw.1.obj]; rfl
        have s4 := hSw.2.1
        have s5 := hSw.2.2.1
        go_simp
        try with_reducible rfl
      try simp only [List.getElem_toArray, List.getElem_cons_succ, List.getElem_cons_zero, Act.put, List.setIfInBounds_toArray, List.set_cons_zero, List.set_cons_succ]
      refine wpAnyH_take (i := 4) (v := ?_) rfl (by kernel_rfl) (by kernel_rfl) (by kernel_rfl) (fun _ _ _ h => h) (Or.inl ⟨by rfl, ?_⟩) hS ?_
      rotate_left
      · intro W hSw
        have s0 : W.cell? ⟨pp, 0, none⟩ = some (.slice ao nb cap) := by rw [cell_of_row _ _ _ _ _ _ hSw.1.obj]; rfl
        have s1 : W.cell? ⟨pp, 1, none⟩ = some (.int .i64 j.st.film.1) := by rw [cell_of_row _ _ _ _ _ _ hSw.1.obj]; rfl
        have s2 : W.cell? ⟨pp, 2, none⟩ = some (.int .i64 j.st.film.2) := by rw [cell_of_row _ _ _ _ _ _ hSw.1.obj]; rfl
        have s3 : W.cell? ⟨pp, 3, none⟩ = some (.slice (some ⟨b, off, none⟩) nw cap2) := by rw [cell_of_row _ _ _ _ _ _ hSw.1.obj]; rfl
        have s4 := hSw.2.1
        have s5 := hSw.2.2.1
        go_simp
        try with_reducible rfl
      try simp only [List.getElem_toArray, List.getElem_cons_succ, List.getElem_cons_zero, Act.put, List.setIfInBounds_toArray, List.set_cons_zero, List.set_cons_succ]
      refine wpAnyH_take (i := 5) (v := ?_) rfl (by kernel_rfl) (by kernel_rfl) (by kernel_rfl) (fun _ _ _ h => h) (Or.inl ⟨by rfl, ?_⟩) hS ?_
      rotate_left
      · intro W hSw
        have s0 : W.cell? ⟨pp, 0, none⟩ = some (.slice ao nb cap) := by rw [cell_of_row _ _ _ _ _ _ hSw.1.obj]; rfl
        have s1 : W.cell? ⟨pp, 1, none⟩ = some (.int .i64 j.st.film.1) := by rw [cell_of_row _ _ _ _ _ _ hSw.1.obj]; rfl
        have s2 : W.cell? ⟨pp, 2, none⟩ = some (.int .i64 j.st.film.2) := by rw [cell_of_row _ _ _ _ _ _ hSw.1.obj]; rfl
        have s3 : W.cell? ⟨pp, 3, none⟩ = some (.slice (some ⟨b, off, none⟩) nw cap2) := by rw [cell_of_row _ _ _ _ _ _ hSw.1.obj]; rfl
        have s4 := hSw.2.1
        have s5 := hSw.2.2.1
        go_simp
        try with_reducible rfl
      try simp only [List.getElem_toArray, List.getElem_cons_succ, List.getElem_cons_zero, Act.put, List.setIfInBounds_toArray, List.set_cons_zero, List.set_cons_succ]
      refine wpAnyH_take (i := 6) (v := ?_) rfl (by kernel_rfl) (by kernel_rfl) (by kernel_rfl) (fun _ _ _ h => h) (Or.inl ⟨by rfl, ?_⟩) hS ?_
      rotate_left
      · intro W hSw
        have s0 : W.cell? ⟨pp, 0, none⟩ = some (.slice ao nb cap) := by rw [cell_of_row _ _ _ _ _ _ hSw.1.obj]; rfl
        have s1 : W.cell? ⟨pp, 1, none⟩ = some (.int .i64 j.st.film.1) := by rw [cell_of_row _ _ _ _ _ _ hSw.1.obj]; rfl
        have s2 : W.cell? ⟨pp, 2, none⟩ = some (.int .i64 j.st.film.2) := by rw [cell_of_row _ _ _ _ _ _ hSw.1.obj]; rfl
        have s3 : W.cell? ⟨pp, 3, none⟩ = some (.slice (some ⟨b, off, none⟩) nw cap2) := by rw [cell_of_row _ _ _ _ _ _ hSw.1.obj]; rfl
        have s4 := hSw.2.1
        have s5 := hSw.2.2.1
        go_simp
        try with_reducible rfl
      try simp only [List.getElem_toArray, List.getElem_cons_succ, List.getElem_cons_zero, Act.put, List.setIfInBounds_toArray, List.set_cons_zero, List.set_cons_succ]
      refine wpAnyH_take (i := 7) (v := ?_) rfl (by kernel_rfl) (by kernel_rfl) (by kernel_rfl) (fun _ _ _ h => h) (Or.inl ⟨by rfl, ?_⟩) hS ?_
      rotate_left
      · intro W hSw
        have s0 : W.cell? ⟨pp, 0, none⟩ = some (.slice ao nb cap) := by rw [cell_of_row _ _ _ _ _ _ hSw.1.obj]; rfl
        have s1 : W.cell? ⟨pp, 1, none⟩ = some (.int .i64 j.st.film.1) := by rw [cell_of_row _ _ _ _ _ _ hSw.1.obj]; rfl
        have s2 : W.cell? ⟨pp, 2, none⟩ = some (.int .i64 j.st.film.2) := by rw [cell_of_row _ _ _ _ _ _ hSw.1.obj]; rfl
        have s3 : W.cell? ⟨pp, 3, none⟩ = some (.slice (some ⟨b, off, none⟩) nw cap2) := by rw [cell_of_row _ _ _ _ _ _ hSw.1.obj]; rfl
        have s4 := hSw.2.1
        have s5 := hSw.2.2.1
        go_simp
        try with_reducible rfl
      try simp only [List.getElem_toArray, List.getElem_cons_succ, List.getElem_cons_zero, Act.put, List.setIfInBounds_toArray, List.set_cons_zero, List.set_cons_succ]
      refine wpAnyH_take (i := 8) (v := ?_) rfl (by kernel_rfl) (by kernel_rfl) (by kernel_rfl) (fun _ _ _ h => h) (Or.inl ⟨by rfl, ?_⟩) hS ?_
      rotate_left
      · intro W hSw
        have s0 : W.cell? ⟨pp, 0, none⟩ = some (.slice ao nb cap) := by rw [cell_of_row _ _ _ _ _ _ hSw.1.obj]; rfl
        have s1 : W.cell? ⟨pp, 1, none⟩ = some (.int .i64 j.st.film.1) := by rw [cell_of_row _ _ _ _ _ _ hSw.1.obj]; rfl
        have s2 : W.cell? ⟨pp, 2, none⟩ = some (.int .i64 j.st.film.2) := by rw [cell_of_row _ _ _ _ _ _ hSw.1.obj]; rfl
        have s3 : W.cell? ⟨pp, 3, none⟩ = some (.slice (some ⟨b, off, none⟩) nw cap2) := by rw [cell_of_row _ _ _ _ _ _ hSw.1.obj]; rfl
        have s4 := hSw.2.1
        have s5 := hSw.2.2.1
        go_simp
        try with_reducible rfl
      try simp only [List.getElem_toArray, List.getElem_cons_succ, List.getElem_cons_zero, Act.put, List.setIfInBounds_toArray, List.set_cons_zero, List.set_cons_succ]
      refine wpAnyH_take (i := 9) (v := ?_) rfl (by kernel_rfl) (by kernel_rfl) (by kernel_rfl) (fun _ _ _ h => h) (Or.inl ⟨by rfl, ?_⟩) hS ?_
      rotate_left
      · intro W hSw
        have s0 : W.cell? ⟨pp, 0, none⟩ = some (.slice ao nb cap) := by rw [cell_of_row _ _ _ _ _ _ hSw.1.obj]; rfl
        have s1 : W.cell? ⟨pp, 1, none⟩ = some (.int .i64 j.st.film.1) := by rw [cell_of_row _ _ _ _ _ _ hSw.1.obj]; rfl
        have s2 : W.cell? ⟨pp, 2, none⟩ = some (.int .i64 j.st.film.2) := by rw [cell_of_row _ _ _ _ _ _ hSw.1.obj]; rfl
        have s3 : W.cell? ⟨pp, 3, none⟩ = some (.slice (some ⟨b, off, none⟩) nw cap2) := by rw [cell_of_row _ _ _ _ _ _ hSw.1.obj]; rfl
        have s4 := hSw.2.1
        have s5 := hSw.2.2.1
        go_simp
        try with_reducible rfl
      try simp only [List.getElem_toArray, List.getElem_cons_succ, List.getElem_cons_zero, Act.put, List.setIfInBounds_toArray, List.set_cons_zero, List.set_cons_succ]
      refine wpAnyH_take (i := 10) (v := ?_) rfl (by kernel_rfl) (by kernel_rfl) (by kernel_rfl) (fun _ _ _ h => h) (Or.inl ⟨by rfl, ?_⟩) hS ?_
      rotate_left
      · intro W hSw
        have s0 : W.cell? ⟨pp, 0, none⟩ = some (.slice ao nb cap) := by rw [cell_of_row _ _ _ _ _ _ hSw.1.obj]; rfl
        have s1 : W.cell? ⟨pp, 1, none⟩ = some (.int .i64 j.st.film.1) := by rw [cell_of_row _ _ _ _ _ _ hSw.1.obj]; rfl
        have s2 : W.cell? ⟨pp, 2, none⟩ = some (.int .i64 j.st.film.2) := by rw [cell_of_row _ _ _ _ _ _ hSw.1.obj]; rfl
        have s3 : W.cell? ⟨pp, 3, none⟩ = some (.slice (some ⟨b, off, none⟩) nw cap2) := by rw [cell_of_row _ _ _ _ _ _ hSw.1.obj]; rfl
        have s4 := hSw.2.1
        have s5 := hSw.2.2.1
        go_simp
        try with_reducible rfl
      try simp only [List.getElem_toArray, List.getElem_cons_succ, List.getElem_cons_zero, Act.put, List.setIfInBounds_toArray, List.set_cons_zero, List.set_cons_succ]
      refine wpAnyH_take (i := 11) (v := ?_) rfl (by kernel_rfl) (by kernel_rfl) (by kernel_rfl) (fun _ _ _ h => h) (Or.inl ⟨by rfl, ?_⟩) hS ?_
      rotate_left
      · intro W hSw
        have s0 : W.cell? ⟨pp, 0, none⟩ = some (.slice ao nb cap) := by rw [cell_of_row _ _ _ _ _ _ hSw.1.obj]; rfl
        have s1 : W.cell? ⟨pp, 1, none⟩ = some (.int .i64 j.st.film.1) := by rw [cell_of_row _ _ _ _ _ _ hSw.1.obj]; rfl
        have s2 : W.cell? ⟨pp, 2, none⟩ = some (.int .i64 j.st.film.2) := by rw [cell_of_row _ _ _ _ _ _ hSw.1.obj]; rfl
        have s3 : W.cell? ⟨pp, 3, none⟩ = some (.slice (some ⟨b, off, none⟩) nw cap2) := by rw [cell_of_row _ _ _ _ _ _ hSw.1.obj]; rfl
        have s4 := hSw.2.1
        have s5 := hSw.2.2.1
        go_simp
        try with_reducible rfl
      try simp only [List.getElem_toArray, List.getElem_cons_succ, List.getElem_cons_zero, Act.put, List.setIfInBounds_toArray, List.set_cons_zero, List.set_cons_succ]
      refine wpAnyH_take (i := 12) (v := ?_) rfl (by kernel_rfl) (by kernel_rfl) (by kernel_rfl) (fun _ _ _ h => h) (Or.inl ⟨by rfl, ?_⟩) hS ?_
      rotate_left
      · intro W hSw
        have s0 : W.cell? ⟨pp, 0, none⟩ = some (.slice ao nb cap) := by rw [cell_of_row _ _ _ _ _ _ hSw.1.obj]; rfl
        have s1 : W.cell? ⟨pp, 1, none⟩ = some (.int .i64 j.st.film.1) := by rw [cell_of_row _ _ _ _ _ _ hSw.1.obj]; rfl
        have s2 : W.cell? ⟨pp, 2, none⟩ = some (.int .i64 j.st.film.2) := by rw [cell_of_row _ _ _ _ _ _ hSw.1.obj]; rfl
        have s3 : W.cell? ⟨pp, 3, none⟩ = some (.slice (some ⟨b, off, none⟩) nw cap2) := by rw [cell_of_row _ _ _ _ _ _ hSw.1.obj]; rfl
        have s4 := hSw.2.1
        have s5 := hSw.2.2.1
        go_simp
        try with_reducible rfl
      try simp only [List.getElem_toArray, List.getElem_cons_succ, List.getElem_cons_zero, Act.put, List.setIfInBounds_toArray, List.set_cons_zero, List.set_cons_succ]
      refine wpAnyH_call (k := 13) (by kernel_rfl) rfl rfl (f := 23) (args := #[stackV j.st (.slice ao nb cap), spV (wl, wh)]) (by simp [execOp, go_sem, Act.eval, Act.put, stackV, spV]) ?_
      refine (fewestS_any j.st (.slice ao nb cap) (wl, wh) W1 (hS.1.span (by have := hS.2.2.2.size; have := H.out.lp; omega))).mono ?_
      rintro e w5 ⟨rfl, hb5⟩
      dsimp only
      have hs1 := hS.2.2.2.size
      have hc5 : ∀ o, w5.cell? ⟨b, o, none⟩ = W1.cell? ⟨b, o, none⟩ := fun o => World.cell?_of_block (w := W1) (a := ⟨b, o, none⟩) (hb5.block b (by omega))
      have hS5 := And.intro (hS.1.later hb5) (And.intro ((hc5 _).trans hS.2.1) (And.intro ((hc5 _).trans hS.2.2.1) (hS.2.2.2.trans (hb5.mono hs1))))
      refine ⟨hS5, ?_⟩
      clear hS
      have hS := hS5
      have hfe := fewest_ok hst HWOK.out
      obtain ⟨f1, hf1⟩ : ∃ x, x = (fewestS j.st (wl, wh)).1 := ⟨_, rfl⟩
      rw [hfe, ← hf1]
      have hrg : rightsS j.st (j.ws.getD i (0, 0)) = rightsS j.st (wl, wh) := by rw [HX.out]; simp [List.getD, show i < j.ws.length by rw [← HNW.out]; exact hlt]
      have HRG := Lib.hid hrg
      clear hf1 hfe hS5 hb5 hc5 hrg
      try simp only [List.getElem_toArray, List.getElem_cons_succ, List.getElem_cons_zero, Act.put, List.setIfInBounds_toArray, List.set_cons_zero, List.set_cons_succ]
      refine wpAnyH_take (i := 14) (v := ?_) rfl (by kernel_rfl) (by kernel_rfl) (by kernel_rfl) (fun _ _ _ h => h) (Or.inl ⟨by rfl, ?_⟩) hS ?_
      rotate_left
      · intro W hSw
        have s0 : W.cell? ⟨pp, 0, none⟩ = some (.slice ao nb cap) := by rw [cell_of_row _ _ _ _ _ _ hSw.1.obj]; rfl
        have s1 : W.cell? ⟨pp, 1, none⟩ = some (.int .i64 j.st.film.1) := by rw [cell_of_row _ _ _ _ _ _ hSw.1.obj]; rfl
        have s2 : W.cell? ⟨pp, 2, none⟩ = some (.int .i64 j.st.film.2) := by rw [cell_of_row _ _ _ _ _ _ hSw.1.obj]; rfl
        have s3 : W.cell? ⟨pp, 3, none⟩ = some (.slice (some ⟨b, off, none⟩) nw cap2) := by rw [cell_of_row _ _ _ _ _ _ hSw.1.obj]; rfl
        have s4 := hSw.2.1
        have s5 := hSw.2.2.1
        go_simp
        try with_reducible rfl
      try simp only [List.getElem_toArray, List.getElem_cons_succ, List.getElem_cons_zero, Act.put, List.setIfInBounds_toArray, List.set_cons_zero, List.set_cons_succ]
      refine wpAnyH_take (i := 15) (v := ?_) rfl (by kernel_rfl) (by kernel_rfl) (by kernel_rfl) (fun _ _ _ h => h) (Or.inl ⟨by rfl, ?_⟩) hS ?_
      rotate_left
      · intro W hSw
        have s0 : W.cell? ⟨pp, 0, none⟩ = some (.slice ao nb cap) := by rw [cell_of_row _ _ _ _ _ _ hSw.1.obj]; rfl
        have s1 : W.cell? ⟨pp, 1, none⟩ = some (.int .i64 j.st.film.1) := by rw [cell_of_row _ _ _ _ _ _ hSw.1.obj]; rfl
        have s2 : W.cell? ⟨pp, 2, none⟩ = some (.int .i64 j.st.film.2) := by rw [cell_of_row _ _ _ _ _ _ hSw.1.obj]; rfl
        have s3 : W.cell? ⟨pp, 3, none⟩ = some (.slice (some ⟨b, off, none⟩) nw cap2) := by rw [cell_of_row _ _ _ _ _ _ hSw.1.obj]; rfl
        have s4 := hSw.2.1
        have s5 := hSw.2.2.1
        go_simp
        try with_reducible rfl
      try simp only [List.getElem_toArray, List.getElem_cons_succ, List.getElem_cons_zero, Act.put, List.setIfInBounds_toArray, List.set_cons_zero, List.set_cons_succ]
      refine wpAnyH_take (i := 16) (v := ?_) rfl (by kernel_rfl) (by kernel_rfl) (by kernel_rfl) (fun _ _ _ h => h) (Or.inl ⟨by rfl, ?_⟩) hS ?_
      rotate_left
      · intro W hSw
        have s0 : W.cell? ⟨pp, 0, none⟩ = some (.slice ao nb cap) := by rw [cell_of_row _ _ _ _ _ _ hSw.1.obj]; rfl
        have s1 : W.cell? ⟨pp, 1, none⟩ = some (.int .i64 j.st.film.1) := by rw [cell_of_row _ _ _ _ _ _ hSw.1.obj]; rfl
        have s2 : W.cell? ⟨pp, 2, none⟩ = some (.int .i64 j.st.film.2) := by rw [cell_of_row _ _ _ _ _ _ hSw.1.obj]; rfl
        have s3 : W.cell? ⟨pp, 3, none⟩ = some (.slice (some ⟨b, off, none⟩) nw cap2) := by rw [cell_of_row _ _ _ _ _ _ hSw.1.obj]; rfl
        have s4 := hSw.2.1
        have s5 := hSw.2.2.1
        go_simp
        try with_reducible rfl
      try simp only [List.getElem_toArray, List.getElem_cons_succ, List.getElem_cons_zero, Act.put, List.setIfInBounds_toArray, List.set_cons_zero, List.set_cons_succ]
      refine wpAnyH_take (i := 17) (v := ?_) rfl (by kernel_rfl) (by kernel_rfl) (by kernel_rfl) (fun _ _ _ h => h) (Or.inl ⟨by rfl, ?_⟩) hS ?_
      rotate_left
      · intro W hSw
        have s0 : W.cell? ⟨pp, 0, none⟩ = some (.slice ao nb cap) := by rw [cell_of_row _ _ _ _ _ _ hSw.1.obj]; rfl
        have s1 : W.cell? ⟨pp, 1, none⟩ = some (.int .i64 j.st.film.1) := by rw [cell_of_row _ _ _ _ _ _ hSw.1.obj]; rfl
        have s2 : W.cell? ⟨pp, 2, none⟩ = some (.int .i64 j.st.film.2) := by rw [cell_of_row _ _ _ _ _ _ hSw.1.obj]; rfl
        have s3 : W.cell? ⟨pp, 3, none⟩ = some (.slice (some ⟨b, off, none⟩) nw cap2) := by rw [cell_of_row _ _ _ _ _ _ hSw.1.obj]; rfl
        have s4 := hSw.2.1
        have s5 := hSw.2.2.1
        go_simp
        try with_reducible rfl
      try simp only [List.getElem_toArray, List.getElem_cons_succ, List.getElem_cons_zero, Act.put, List.setIfInBounds_toArray, List.set_cons_zero, List.set_cons_succ]
      refine wpAnyH_take (i := 18) (v := ?_) rfl (by kernel_rfl) (by kernel_rfl) (by kernel_rfl) (fun _ _ _ h => h) (Or.inl ⟨by rfl, ?_⟩) hS ?_
      rotate_left
      · intro W hSw
        have s0 : W.cell? ⟨pp, 0, none⟩ = some (.slice ao nb cap) := by rw [cell_of_row _ _ _ _ _ _ hSw.1.obj]; rfl
        have s1 : W.cell? ⟨pp, 1, none⟩ = some (.int .i64 j.st.film.1) := by rw [cell_of_row _ _ _ _ _ _ hSw.1.obj]; rfl
        have s2 : W.cell? ⟨pp, 2, none⟩ = some (.int .i64 j.st.film.2) := by rw [cell_of_row _ _ _ _ _ _ hSw.1.obj]; rfl
        have s3 : W.cell? ⟨pp, 3, none⟩ = some (.slice (some ⟨b, off, none⟩) nw cap2) := by rw [cell_of_row _ _ _ _ _ _ hSw.1.obj]; rfl
        have s4 := hSw.2.1
        have s5 := hSw.2.2.1
        go_simp
        try with_reducible rfl
      try simp only [List.getElem_toArray, List.getElem_cons_succ, List.getElem_cons_zero, Act.put, List.setIfInBounds_toArray, List.set_cons_zero, List.set_cons_succ]
      refine wpAnyH_done (by kernel_rfl) ?_ _
      try simp only [List.getElem_toArray, List.getElem_cons_succ, List.getElem_cons_zero, Act.put, List.setIfInBounds_toArray, List.set_cons_zero, List.set_cons_succ]
      have HB5 := Lib.hid hS.2.2.2
      clear hS
      have hslt := setJ_lt (aloneF j) i
      obtain ⟨s, hs⟩ : ∃ s, s = setJ (aloneF j) i := ⟨_, rfl⟩
      have hsn : setJ (aloneF j) (i + 1) = s + (if !((rightsS j.st (wl, wh)).isEmpty) then 2 ^ i else 0) := by rw [setJ, ← hs, aloneF, HRG.out]
      rw [← hs] at hslt ⊢
      have HSN := Lib.hid hsn
      clear hs hsn
      by_cases hem : rightsS j.st (wl, wh) = []
      · rw [if_pos hem]
        rw [hem] at HSN
        go_wp2
        exact ⟨⟨i + 1, hlt, rfl, by rw [HSN.out]; rfl, HB5.out⟩, by simp [intOf]; omega⟩
      · rw [if_neg hem]
        have hemb : (rightsS j.st (wl, wh)).isEmpty = false := by cases hr : rightsS j.st (wl, wh) with | nil => exact absurd hr hem | cons a l => rfl
        rw [hemb] at HSN
        have hsh := shl_u64 i (by omega)
        have hor := or_add s i hslt
        have h2i : 2 ^ i ≤ 8 := Nat.pow_le_pow_right (by decide) (by omega : i ≤ 3)
        obtain ⟨q, hq⟩ : ∃ q, q = 2 ^ i := ⟨_, rfl⟩
        rw [← hq] at hsh hor h2i hslt
        have HQ := Lib.hid hq
        clear hq
        go_wp2_with fail
        refine (junion_any s q w5.heap.size (by omega) (by omega) _ (by rw [cell_of_row _ _ _ _ _ _ (heap_alloc_at _ _ _ rfl)]; rfl) (by rw [cell_of_row _ _ _ _ _ _ (heap_alloc_at _ _ _ rfl)]; rfl)).mono ?_
        rintro e w6 ⟨rfl, rfl⟩
        rw [hor]
        dsimp only
        go_wp2
        exact ⟨⟨i + 1, hlt, rfl, by rw [HSN.out, HQ.out]; rfl, HB5.out.alloc HB5.out.size _⟩, by simp [intOf]; omega⟩
    · obtain rfl : i = nw := by omega
      go_wp2
      go_ret
      exact ⟨by rw [alone_set, ← HNW.out]; rfl, HB.out⟩
end Go.Proofs.YtbmfphiecllggaaDoor

/- All stacks of a job, one after the other; marks among the deferred calls. -/
namespace Go.Proofs.YtbmfphiecllggaaDoor
set_option linter.unusedVariables false
set_option linter.unusedSimpArgs false
open Go.RowKit Go.Shelf
attribute [local go_sem] Oper.semAt_some

set_option maxRecDepth 100000 in
theorem jall_cell (pp n cap : Nat) (ao : Option Addr) (h8 : n ≤ 8) (w : World) (c0 : w.cell? ⟨pp, 0, none⟩ = some (.slice ao n cap)) :
    Calls Tryd.prog 60 #[.pointer (some ⟨pp, 0, none⟩)] w fun e w' => e = .returned (.int .u64 (2 ^ n - 1 : Nat)) ∧ w = w' := by
  go_enter Tryd.func60, Tryd.ntmps60
  have hc : n = 0 ∨ n = 1 ∨ n = 2 ∨ n = 3 ∨ n = 4 ∨ n = 5 ∨ n = 6 ∨ n = 7 ∨ n = 8 := by omega
  rcases hc with rfl | rfl | rfl | rfl | rfl | rfl | rfl | rfl | rfl
  all_goals go_wp2
  all_goals go_ret
  all_goals exact ⟨rfl, rfl⟩
/-- All stacks of so many blocks, in order. -/
def stacksL (n : Nat) : List Nat := (List.range (2 ^ n - 1)).map (· + 1)
theorem stacksL_len (n : Nat) : (stacksL n).length = 2 ^ n - 1 := by simp [stacksL]
theorem stacksL_at (n k : Nat) (h : k < (stacksL n).length) : (stacksL n)[k] = k + 1 := by simp [stacksL]
theorem rights_stacks (s : StackD) (w : Int × Int) : rightsS s w = (stacksL s.bs.length).filter fun t => insideJ w (lenS s t) := by
  unfold rightsS rightsJ stacksL
  have hp := Nat.two_pow_pos s.bs.length
  obtain ⟨m, hm⟩ : ∃ m, 2 ^ s.bs.length = m + 1 := ⟨2 ^ s.bs.length - 1, by omega⟩
  rw [hm, List.range_succ_eq_map, List.filter_cons]
  simp only [bne_self_eq_false, Bool.false_and, Bool.false_eq_true, if_false]
  rw [show m + 1 - 1 = m by omega]
  show List.filter _ (List.map (fun x => x + 1) _) = List.filter _ (List.map (fun x => x + 1) _)
  rw [List.filter_map, List.filter_map]
  congr 1
theorem stacks_any (pp b1 : Nat) (w : World) (h : b1 = w.heap.size) :
    Calls Tryd.prog 80 #[.pointer (some ⟨pp, 0, none⟩)] w fun e w' => e = .returned (.func (.func 94) #[] #[.pointer (some ⟨b1, 0, none⟩)]) ∧ w' = w.alloc (.cells #[.pointer (some ⟨pp, 0, none⟩)] 74 (0, 0)) := by
  have hmf : ∀ (fn : Fn) (first cap : Array Value) (w : World), (Instr.makeFunc fn first cap).run Tryd.prog w = .ok (.func fn first cap) w := fun _ _ _ _ => rfl
  subst h
  go_enter Tryd.func80, Tryd.ntmps80
  go_wp2
  go_ret
  exact ⟨rfl, rfl⟩
set_option maxRecDepth 100000 in
set_option maxHeartbeats 4000000 in
theorem stacks_seq (pp b1 n cap : Nat) (ao : Option Addr) (h8 : n ≤ 8) (W : World) (hb1 : W.heap[b1]? = some (.cells #[.pointer (some ⟨pp, 0, none⟩)] 74 (0, 0))) :
    SeqF Tryd.prog 94 #[.pointer (some ⟨b1, 0, none⟩)] (fun s : Nat => #[.int .u64 s]) (stacksL n) (fun k => k = b1) (fun W1 => W1.cell? ⟨pp, 0, none⟩ = some (.slice ao n cap)) W := by
  intro l Mut J Jx hP hM hJ hJx hY h0
  have HM := Lib.hid hM
  have HY := Lib.hid hY
  have HP := Lib.hid hP
  clear hM hJ hJx hY hP
  have hlt1 := lt_of_block hb1
  have HB1 := Lib.hid hb1
  clear hb1
  have hp2 : 2 ^ n ≤ 256 := Nat.pow_le_pow_right (by decide) h8
  have hp1 := Nat.two_pow_pos n
  refine callsIn_wide.1 (callsIn_of_wp (F := Fence.wide) (n := 0) Tryd.func94 rfl trivial ?_ rfl)
  simp only [Tryd.ntmps94, List.size_toArray, List.length_cons, List.length_nil, Nat.reduceAdd, Nat.reduceSub, Array.replicate_succ, Array.replicate_zero, List.push_toArray, List.append_toArray, List.nil_append, List.cons_append]
  have facts : ∀ wr, Keeps (fun k => Mut k ∨ W.heap.size ≤ k) W wr → wr.cell? ⟨b1, 0, none⟩ = some (.pointer (some ⟨pp, 0, none⟩)) := by
    intro wr hk
    have k1 := (hk.block b1 hlt1 (fun h => h.elim (fun h => (HM.out _ h).2 rfl) (fun h => by omega))).trans HB1.out
    rw [cell_of_row wr b1 _ _ _ _ k1]; rfl
  have HF := Lib.hid facts
  clear facts
  obtain ⟨m, hm⟩ : ∃ m, m = 2 ^ n - 1 := ⟨_, rfl⟩
  have hm256 : m ≤ 255 := by omega
  have hlen : (stacksL n).length = m := by rw [stacksL_len, hm]
  have HLEN := Lib.hid hlen
  have HM2 := Lib.hid hm
  clear hm hlen hp1 hp2
  gi_wp2
  gi_loopw [3] (fun z wr => ∃ (i : Nat) (G : Nat → Prop), i ≤ m ∧ z = .int .u64 ((i + 1 : Nat) : Int) ∧ J ((stacksL n).take i) G wr ∧ Keeps (fun k => Mut k ∨ W.heap.size ≤ k) W wr ∧ (∀ k, G k → W.heap.size ≤ k)) (fun z _ => 257 - (match z with | .int _ i => i.toNat | _ => 0))
  case atStart => exact ⟨0, fun _ => False, Nat.zero_le _, rfl, h0, Keeps.refl _ _, fun _ h => h.elim⟩
  case round =>
    obtain ⟨i, G, hi, rfl, hj, hk, hG⟩ := hrel
    have HK := Lib.hid hk
    have HJJ := Lib.hid hj
    have HG := Lib.hid hG
    have f0 := HF.out wr hk
    have f1 := HP.out _ _ _ hj
    have F1 := Lib.hid f1
    clear hj hk hG f1
    gi_wp2_with fail
    refine ⟨trivial, rfl, callsIn_wide.2 ((jall_cell pp n cap ao h8 _ F1.out).mono ?_)⟩
    rintro e w2 ⟨rfl, rfl⟩
    rw [← HM2.out]
    dsimp only
    by_cases hlt : i < m
    · have hc : ((i + 1 : Nat) : Int) ≤ (m : Int) := by omega
      have hin : i < (stacksL n).length := by rw [HLEN.out]; exact hlt
      have hsp : stacksL n = (stacksL n).take i ++ (i + 1) :: (stacksL n).drop (i + 1) := by
        conv => lhs; rw [← List.take_append_drop i (stacksL n), ← List.getElem_cons_drop (h := hin), stacksL_at]
      have htk : (stacksL n).take (i + 1) = (stacksL n).take i ++ [i + 1] := by rw [List.take_succ_eq_append_getElem hin, stacksL_at]
      obtain ⟨fn, tmps, assign, body, hy, hR⟩ := HY.out _ _ _ G wr hsp HJJ.out HK.out.size HG.out
      have hwr : IntKind.u64.wrap (((i + 1 : Nat) : Int) + 1) = ((i + 1 + 1 : Nat) : Int) := by rw [IntWalk.u64_in _ (by omega)]; omega
      rw [← htk] at hR
      have HR := Lib.hid hR
      have HSP := Lib.hid hsp
      have HTK := Lib.hid htk
      clear hsp htk hR hin
      push_cast at hy hwr hc
      gi_wp2
      refine ⟨rfl, HR.out.mono ?_⟩
      rintro e W3 ⟨hk3, ⟨rfl, hj3⟩ | ⟨rfl, hj3⟩⟩
      · have HK3 := Lib.hid (HK.out.trans (hk3.mono fun k _ h => h.elim .inl fun h => .inr (HG.out k h)))
        have HJ3 := Lib.hid hj3
        have hs3 := HK.out.size
        clear hk3 hj3
        gi_wp2
        go_roundw
        case rel => exact ⟨i + 1, _, hlt, rfl, HJ3.out, HK3.out, fun k h => h.elim (HG.out k) (fun h => by omega)⟩
        case measure => simp [intOf]; omega
      · have HK3 := Lib.hid (HK.out.trans (hk3.mono fun k _ h => h.elim .inl fun h => .inr (HG.out k h)))
        have HJ3 := Lib.hid hj3
        clear hk3 hj3
        gi_wp2
        exact bodyPost_ret (v := .tuple #[]) (by simp [results, Tryd.results94, go_sem]) rfl ⟨⟨_, rfl⟩, HK3.out, _, .inr ⟨_, _, _, HSP.out, by rw [← HTK.out]; exact HJ3.out⟩⟩
    · obtain rfl : i = m := by omega
      have hc : ¬ ((i + 1 : Nat) : Int) ≤ (i : Int) := by omega
      gi_wp2
      first | go_end0 | skip
      exact ⟨⟨_, rfl⟩, HK.out, G, .inl (by have := HJJ.out; rw [← HLEN.out, List.take_length] at this; exact this)⟩
end Go.Proofs.YtbmfphiecllggaaDoor

/- A drawn region of which the last operations come behind all others, in order: the others in whatever order, with a condition held; then the last ones. Of any program. -/
namespace Go.Proofs.YtbmfphiecllggaaDoor
set_option linter.unusedVariables false
set_option linter.unusedSimpArgs false
section
variable {P : Program} {md : Region.Mode} {ops : Array Oper} {Q Q' : Exit → Act → World → Prop}

theorem upon_monoQ {o : Oper} {a : Act} {K K' : Act → World → Prop} (hK : ∀ a w, K a w → K' a w) (hQ : ∀ e a w, e ≠ Exit.normal → Q e a w → Q' e a w) :
    ∀ r, o.upon P a K Q r → o.upon P a K' Q' r := by
  have hl : LetsOut Q → LetsOut Q' := fun ⟨a, w, h⟩ => ⟨a, w, hQ _ _ _ (by simp) h⟩
  intro r h
  cases r with
  | ok n w' =>
    cases n <;> simp only [Oper.upon] at h ⊢ <;>
      first
        | exact hK _ _ h
        | exact Calls.mono h (fun e w'' he => by cases e <;> first | exact hK _ _ he | exact hQ _ _ _ (by simp) he | exact hl he)
        | exact Rows.mono h (fun _ _ he => hK _ _ he)
  | halt x w' => cases x <;> simp only [Oper.upon] at h ⊢ <;> first | exact hQ _ _ _ (by simp) h | exact h

theorem wpOp_monoQ {i : Nat} {a : Act} {w : World} {K K' : Act → World → Prop} (hK : ∀ a w, K a w → K' a w) (hQ : ∀ e a w, e ≠ Exit.normal → Q e a w → Q' e a w)
    (h : wpOp P ops Q i K a w) : wpOp P ops Q' i K' a w := by
  unfold wpOp at *
  split
  · exact hK _ _ (by simpa [*] using h)
  · rename_i o ho
    simp only [ho] at h
    split
    · rename_i hw
      simp only [hw, if_true] at h
      rcases h with h | ⟨h1, a', w', h2⟩
      · exact .inl (upon_monoQ hK hQ _ h)
      · exact .inr ⟨h1, a', w', hQ _ _ _ (by simp) h2⟩
    · rename_i hw; simp only [hw] at h; exact hK _ _ h

theorem wpAny_fuel1 : ∀ (f : Nat) (listed : Array Bool) (a : Act) (w : World), wpAny P md ops Q f listed a w → wpAny P md ops Q (f + 1) listed a w
  | 0, _, _, _, h => ⟨fun _ => h.2, by rw [h.1]; simp⟩
  | f + 1, _, _, _, h => ⟨h.1, fun i hi => wpOp_mono (fun a' w' h' => wpAny_fuel1 f _ a' w' h') (h.2 i hi)⟩
theorem wpAny_fuel (g : Nat) : ∀ (f : Nat) (listed : Array Bool) (a : Act) (w : World), wpAny P md ops Q g listed a w → wpAny P md ops Q (f + g) listed a w
  | 0, _, _, _, h => by rw [Nat.zero_add]; exact h
  | f + 1, _, _, _, h => by rw [show f + 1 + g = (f + g) + 1 by omega]; exact wpAny_fuel1 _ _ _ _ (wpAny_fuel g f _ _ _ h)

/-- The operations ahead of n wait for such alone as come ahead of them. -/
def backB (md : Region.Mode) (ops : Array Oper) (n : Nat) : Bool :=
  (List.range n).all fun i => match ops[i]? with
    | some o => o.after.all fun e => !Region.binds md e || decide (e.on < i)
    | none => false
theorem backB_spec {n i : Nat} {o : Oper} (h : backB md ops n = true) (hi : i < n) (ho : ops[i]? = some o) : ∀ e ∈ o.after, Region.binds md e = true → e.on < i := by
  have h1 := List.all_eq_true.1 h i (List.mem_range.2 hi)
  simp only [ho] at h1
  intro e he hb
  have h2 := Array.all_eq_true'.1 h1 e he
  rw [hb] at h2
  simpa using h2
theorem backB_some {n i : Nat} (h : backB md ops n = true) (hi : i < n) : ∃ o, ops[i]? = some o := by
  have h1 := List.all_eq_true.1 h i (List.mem_range.2 hi)
  cases h2 : ops[i]? with
  | none => rw [h2] at h1; cases h1
  | some o => exact ⟨o, rfl⟩

/-- The first n as they are, all others as if they had come up. -/
def TailRel (n : Nat) (listed listed' : Array Bool) : Prop := listed'.size = listed.size ∧ (∀ i, i < n → listed'[i]? = listed[i]?) ∧ ∀ t, n ≤ t → listed'.getD t true = true
theorem getD_of_get {l l' : Array Bool} {i : Nat} (h : l'[i]? = l[i]?) (d : Bool) : l'.getD i d = l.getD i d := by
  rw [Array.getD_eq_getD_getElem?, Array.getD_eq_getD_getElem?, h]
theorem TailRel.ready {n : Nat} {listed listed' : Array Bool} (hr : TailRel n listed listed') (hb : backB md ops n = true) (j : Nat) : j ∈ Region.ready md ops listed' ↔ (j < n ∧ j ∈ Region.ready md ops listed) := by
  rw [mem_ready, mem_ready]
  constructor
  · rintro ⟨h1, o, h2, h3⟩
    have hj : j < n := by
      rcases Nat.lt_or_ge j n with h | h
      · exact h
      · rw [hr.2.2 j h] at h1; cases h1
    refine ⟨hj, by rw [← getD_of_get (hr.2.1 j hj)]; exact h1, o, h2, fun e he hbi => ?_⟩
    have := backB_spec hb hj h2 e he hbi
    rw [← getD_of_get (hr.2.1 e.on (by omega))]
    exact h3 e he hbi
  · rintro ⟨hj, h1, o, h2, h3⟩
    refine ⟨by rw [getD_of_get (hr.2.1 j hj)]; exact h1, o, h2, fun e he hbi => ?_⟩
    have := backB_spec hb hj h2 e he hbi
    rw [getD_of_get (hr.2.1 e.on (by omega))]
    exact h3 e he hbi
theorem TailRel.set {n i : Nat} {listed listed' : Array Bool} (hr : TailRel n listed listed') : TailRel n (listed.setIfInBounds i true) (listed'.setIfInBounds i true) := by
  refine ⟨by simp [hr.1], fun j hj => ?_, fun t ht => ?_⟩
  · rw [Array.getElem?_setIfInBounds, Array.getElem?_setIfInBounds, hr.1, hr.2.1 j hj]
  · by_cases h : i = t
    · subst h
      rw [Array.getD_eq_getD_getElem?, Array.getElem?_setIfInBounds]
      rw [if_pos rfl]
      split <;> rfl
    · rw [getD_set_ne true h]; exact hr.2.2 t ht
/-- None may come up: all ahead of n have. -/
theorem all_listed {n : Nat} {listed : Array Bool} (hb : backB md ops n = true) (hsz : listed.size = ops.size) (h : ∀ j, j < n → j ∉ Region.ready md ops listed) : ∀ i, i < n → listed.getD i true = true := by
  intro i
  induction i using Nat.strongRecOn with
  | _ i ih =>
    intro hi
    cases hl : listed.getD i true with
    | true => rfl
    | false =>
      obtain ⟨o, ho⟩ := backB_some hb hi
      refine (h i hi (mem_ready.2 ⟨hl, o, ho, fun e he hbi => ?_⟩)).elim
      have h1 := backB_spec hb hi ho e he hbi
      have h2 := ih e.on h1 (by omega)
      cases h3 : listed.getD e.on false with
      | true => rfl
      | false =>
        have hlt : e.on < listed.size := by rw [hsz]; have := (Array.getElem?_eq_some_iff.1 ho).1; omega
        rw [getD_in hlt h3] at h2
        cases h2

/-- What must be so of a region's shape. -/
def tailB (l : List Oper) (n : Nat) : Bool :=
  decide (n < l.length) && Region.sinkB .any l.toArray n && Region.chainB .any l.toArray n && backB .any l.toArray n && Region.seqB .any l.toArray (l.drop n).length n (Array.replicate n true ++ Array.replicate (l.length - n) false)
/-- All that comes behind the first n: they are carried out in order. -/
def TailQ (P : Program) (l : List Oper) (n : Nat) (Q : Exit → Act → World → Prop) : Exit → Act → World → Prop
  | .normal, a, w => wpList P l.toArray Q (l.drop n) a w
  | e, a, w => Q e a w
theorem wpAny_of_tail {l : List Oper} {n : Nat} {S : World → Prop} (hB : tailB l n = true) :
    ∀ (f : Nat) (listed listed' : Array Bool) (a : Act) (w : World), HeadInv .any l.toArray n listed → TailRel n listed listed' →
      wpAnyH P .any l.toArray (TailQ P l n Q) S f listed' a w → wpAny P .any l.toArray Q (f + (l.drop n).length) listed a w := by
  unfold tailB at hB
  simp only [Bool.and_eq_true, decide_eq_true_eq] at hB
  obtain ⟨⟨⟨⟨hn, hs⟩, hc⟩, hb⟩, hq⟩ := hB
  have hend : ∀ (f : Nat) (listed listed' : Array Bool) (a : Act) (w : World), HeadInv .any l.toArray n listed → TailRel n listed listed' → Region.ready .any l.toArray listed' = [] → TailQ P l n Q .normal a w → wpAny P .any l.toArray Q (f + (l.drop n).length) listed a w := by
    intro f listed listed' a w inv hr h0 h
    have h1 : ∀ i, i < n → listed.getD i true = true := all_listed hb inv.size (fun j hj hm => by
      have := (hr.ready hb j).2 ⟨hj, hm⟩
      rw [h0] at this; cases this)
    have h2 : listed = Array.replicate n true ++ Array.replicate (l.length - n) false := by
      apply Array.ext
      · rw [inv.size]; simp; omega
      · intro i hi1 hi2
        have hi3 : i < l.length := by have := inv.size; simp at this; omega
        rcases Nat.lt_or_ge i n with h | h
        · have := h1 i h
          rw [Array.getD_eq_getD_getElem?, Array.getElem?_eq_getElem hi1, Option.getD_some] at this
          rw [this, Array.getElem_append_left (by simpa using h)]
          simp
        · have := inv.tail i h (by simpa using hi3)
          rw [Array.getD_eq_getD_getElem?, Array.getElem?_eq_getElem hi1, Option.getD_some] at this
          rw [this, Array.getElem_append_right (by simpa using h)]
          simp
    rw [h2]
    refine wpAny_fuel _ f _ a w (wpAny_of_seq (md := .any) (l.drop n) n _ a w (fun j => by simp [List.getElem?_drop]) hq h)
  intro f
  induction f with
  | zero => intro listed listed' a w inv hr h; exact hend 0 listed listed' a w inv hr h.1 h.2
  | succ f ih =>
    intro listed listed' a w inv hr h
    cases h0 : Region.ready .any l.toArray listed' with
    | nil => exact hend (f + 1) listed listed' a w inv hr h0 (h.1 h0)
    | cons i0 rs =>
      have hi0 : i0 ∈ Region.ready .any l.toArray listed' := by rw [h0]; simp
      obtain ⟨hi1, hi2⟩ := (hr.ready hb i0).1 hi0
      have hw := tail_waits hs hc (by simpa using hn) inv _ i0 rfl hi1 (mem_ready.1 hi2).1
      rw [show f + 1 + (l.drop n).length = (f + (l.drop n).length) + 1 by omega]
      refine ⟨fun h => (by rw [h] at hi2; cases hi2), fun j hj => ?_⟩
      have hjn : j < n := by
        rcases Nat.lt_or_ge j n with h | h
        · exact h
        · exact (hw j h hj).elim
      have hj' := (hr.ready hb j).2 ⟨hjn, hj⟩
      refine wpOp_monoQ (fun a' w' h' => ih _ _ a' w' (inv.set hj hjn) hr.set h'.2) (fun e a' w' he hx => ?_) (h.2 j hj')
      cases e <;> first | exact hx | exact (he rfl).elim
/-- THE BEGINNING: S is shown of the world behind the draw; then the first n in whatever order, the others as if they had come up; and behind them the others, in order. -/
theorem wp_region_tail {id : Nat} {a : Act} {w : World} {l : List Oper} (n : Nat) (L : Array Bool) (S : World → Prop) (hm : P.follows .mixedOrders = true) (hB : tailB l n = true) (hL : L = Array.replicate n false ++ Array.replicate (l.length - n) true) (hS : S w.drew)
    (h : S w.drew → wpAnyH P .any l.toArray (TailQ P l n Q) S n L a w.drew) : (Code.region id l.toArray true).wp P Q a w := by
  subst hL
  have hn : n < l.length := by
    unfold tailB at hB
    simp only [Bool.and_eq_true, decide_eq_true_eq] at hB
    exact hB.1.1.1.1
  refine wp_region_any hm ?_
  have := wpAny_of_tail hB n (Array.replicate l.toArray.size false) (Array.replicate n false ++ Array.replicate (l.length - n) true) a w.drew
    ⟨by simp, fun j oj _ hl => (by rw [getD_replicate_false] at hl; cases hl), fun t _ ht => getD_in (by simpa using ht) (getD_replicate_false _ _)⟩ ⟨by simp; omega, fun i hi => by
      rw [Array.getElem?_append_left (by simpa using hi)]
      simp [hi, show i < l.length by omega], fun t ht => by
      rw [Array.getD_eq_getD_getElem?]
      rcases Nat.lt_or_ge t l.length with h | h
      · rw [Array.getElem?_append_right (by simpa using ht), Array.getElem?_replicate]; split <;> rfl
      · rw [Array.getElem?_eq_none (by simp; omega)]; rfl⟩ (h hS)
  rw [show n + (l.drop n).length = l.toArray.size by simp; omega] at this
  exact this
end

end Go.Proofs.YtbmfphiecllggaaDoor

/- A drawn region inside a round, by the laws for one that is in no round. -/
namespace Go.Proofs.YtbmfphiecllggaaDoor
set_option linter.unusedVariables false
set_option linter.unusedSimpArgs false
open Go.RowKit

section
variable {P : Program} {ops : Array Oper} {md : Region.Mode} {l : Nat}
theorem rows_in {row : String} {args : Array Value} {w : World} {R : Value → World → Prop} (h : Rows P row args w R) : RowsIn (Fence.wide.inRound l) 0 P row args w R :=
  fun c cs _ => let ⟨v, w', r, s⟩ := h c cs; ⟨v, w', r, stepsIn_wide.2 s⟩
theorem oper_in {o : Oper} {a : Act} {w : World} {K : Act → World → Prop} {Q : Exit → Act → World → Prop} (hd : ∀ c, o.op ≠ .defer c) (h : o.wp P a w K Q) : o.wpIn (Fence.wide.inRound l) 0 P a w K Q := by
  refine ⟨fun _ _ => trivial, ?_⟩
  rw [show (Fence.wide.inRound l).round = some l from rfl, Oper.semAt_some l a.eval o hd]
  unfold Oper.wp at h
  generalize (execOp a.eval o).run P w = r at *
  cases r with
  | ok n w' =>
    cases n <;> simp only [Oper.upon] at h <;> simp only [Oper.uponIn]
    case value => exact h
    case skip => exact h
    case defer => exact h
    case enter f args => exact ⟨(fun h => by cases h), CallsIn.inRound l (callsIn_wide.2 h)⟩
    case row row args => exact ⟨(fun h => by cases h), rows_in h⟩
  | halt x w' =>
    cases x <;> simp only [Oper.upon] at h <;> simp only [Oper.uponIn]
    case panic => exact h
theorem wpAnyIn_of {Q : Exit → Act → World → Prop} (hnd : noDefer ops = true) (hnl : ¬ LetsOut Q) : ∀ (fuel : Nat) (listed : Array Bool) (a : Act) (w : World), wpAny P md ops Q fuel listed a w → wpAnyIn (Fence.wide.inRound l) 0 P md ops Q fuel listed a w
  | 0, _, _, _, h => h
  | f + 1, listed, a, w, h => by
    refine ⟨h.1, fun i hi => ?_⟩
    have h1 := h.2 i hi
    unfold wpOp at h1
    unfold wpOpIn
    cases ho : ops[i]? with
    | none => simp only [ho] at h1; exact wpAnyIn_of hnd hnl f _ _ _ h1
    | some o =>
      simp only [ho] at h1
      simp only
      split
      · rename_i hw
        rw [if_pos hw] at h1
        rcases h1 with h1 | h1
        · exact Oper.wpIn_mono (fun a' w' h' => wpAnyIn_of hnd hnl f _ _ _ h') (oper_in (noDefer_spec hnd i o ho) h1)
        · exact absurd h1.2 hnl
      · rename_i hw
        rw [if_neg hw] at h1
        exact ⟨fun _ _ => trivial, wpAnyIn_of hnd hnl f _ _ _ h1⟩
/-- The first n in whatever order, with S; behind them the others, in order. -/
theorem region_tailIn {S : World → Prop} {id : Nat} {Q : Exit → Act → World → Prop} {a : Act} {w : World} {ls : List Oper} (n : Nat) (L : Array Bool) (hm : P.follows .mixedOrders = true) (hB : tailB ls n = true) (hnd : noDefer ls.toArray = true) (hnl : ¬ LetsOut Q) (hL : L = Array.replicate n false ++ Array.replicate (ls.length - n) true) (hS : S w.drew)
    (h : S w.drew → wpAnyH P .any ls.toArray (TailQ P ls n Q) S n L a w.drew) : (Code.region id ls.toArray true).wpIn (Fence.wide.inRound l) 0 P Q a w := by
  subst hL
  have hn : n < ls.length := by
    unfold tailB at hB
    simp only [Bool.and_eq_true, decide_eq_true_eq] at hB
    exact hB.1.1.1.1
  refine wpIn_region_any hm (wpAnyIn_of hnd hnl _ _ _ _ ?_)
  have := wpAny_of_tail hB n (Array.replicate ls.toArray.size false) (Array.replicate n false ++ Array.replicate (ls.length - n) true) a w.drew
    ⟨by simp, fun j oj _ hl => (by rw [getD_replicate_false] at hl; cases hl), fun t _ ht => getD_in (by simpa using ht) (getD_replicate_false _ _)⟩ ⟨by simp; omega, fun i hi => by
      rw [Array.getElem?_append_left (by simpa using hi)]
      simp [hi, show i < ls.length by omega], fun t ht => by
      rw [Array.getD_eq_getD_getElem?]
      rcases Nat.lt_or_ge t ls.length with h | h
      · rw [Array.getElem?_append_right (by simpa using ht), Array.getElem?_replicate]; split <;> rfl
      · rw [Array.getElem?_eq_none (by simp; omega)]; rfl⟩ (h hS)
  rw [show n + (ls.drop n).length = ls.toArray.size by simp; omega] at this
  exact this
end
end Go.Proofs.YtbmfphiecllggaaDoor

/- Marks among the deferred calls, a loop that lays more of them, and small laws of a job. -/
namespace Go.Proofs.YtbmfphiecllggaaDoor
set_option linter.unusedVariables false
set_option linter.unusedSimpArgs false
open Go.RowKit Go.Shelf

def putT (T : Array Value) (ns : List Nat) (u : Nat → Value) : Array Value := ns.foldl (fun t n => t.setIfInBounds n (u n)) T
def getT (a : Act) (n : Nat) : Value := a.tmps.getD n undef
/-- A loop that changes these slots, and lays deferred calls. -/
theorem wp_loopT {P : Program} {c : Code} {Q : Exit → Act → World → Prop} {T : Array Value} {d0 : List Deferred} {w : World} (ns : List Nat) (I : (Nat → Value) → List Deferred → World → Prop) (μ : (Nat → Value) → World → Nat)
    (hT : T = putT T ns (getT ⟨T, d0⟩)) (h0 : I (getT ⟨T, d0⟩) d0 w)
    (round : ∀ u ds wr, I u ds wr → c.wp P (Exit.then (fun a' w' => I (getT a') a'.defers w' ∧ μ (getT a') w' < μ u wr ∧ a'.tmps = putT T ns (getT a')) Q) ⟨putT T ns u, ds⟩ wr) : (Code.loop c).wp P Q ⟨T, d0⟩ w := by
  refine wp_loop (fun a w => a.tmps = putT T ns (getT a) ∧ I (getT a) a.defers w) (fun a w => μ (getT a) w) ⟨hT, h0⟩ ?_
  rintro ⟨t, ds⟩ wr ⟨h1, h2⟩
  have h3 := round _ _ _ h2
  have h4 : t = putT T ns (getT ⟨t, ds⟩) := h1
  rw [← h4] at h3
  refine wp_mono h3 ?_
  intro e a' w' h
  cases e with
  | normal => exact ⟨⟨h.2.2, h.1⟩, h.2.1⟩
  | _ => exact h
def marks (Ds : List Nat) : List Deferred := Ds.map fun D => { target := .collected D, args := #[] }
/-- The deferred calls are marks, of loops that collected none. -/
def MarksW (lo : Nat) (ds : List Deferred) (W : World) : Prop := ∃ Ds, ds = marks Ds ∧ Ds.Nodup ∧ ∀ D ∈ Ds, lo ≤ D ∧ W.heap[D]? = some (.deferred (some []))
theorem MarksW.nil (lo : Nat) (W : World) : MarksW lo [] W := ⟨[], rfl, List.nodup_nil, fun _ h => by cases h⟩
theorem MarksW.later {lo : Nat} {ds : List Deferred} {W W' : World} {Mut : Nat → Prop} (h : MarksW lo ds W) (hk : Keeps Mut W W') (hm : ∀ k, W.heap[k]? = some (.deferred (some [])) → ¬ Mut k) : MarksW lo ds W' := by
  obtain ⟨Ds, h1, h2, h3⟩ := h
  exact ⟨Ds, h1, h2, fun D hD => ⟨(h3 D hD).1, (hk.block D (lt_of_block (h3 D hD).2) (hm D (h3 D hD).2)).trans (h3 D hD).2⟩⟩
theorem MarksW.cons {lo : Nat} {ds : List Deferred} {W : World} {D : Nat} (h : MarksW lo ds W) (hl : lo ≤ D) (hD : W.heap[D]? = some (.deferred (some []))) (hn : ∀ Ds, ds = marks Ds → D ∉ Ds) : MarksW lo ({ target := .collected D, args := #[] } :: ds) W := by
  obtain ⟨Ds, h1, h2, h3⟩ := h
  refine ⟨D :: Ds, by rw [h1]; rfl, List.nodup_cons.2 ⟨hn Ds h1, h2⟩, fun x hx => ?_⟩
  rcases List.mem_cons.1 hx with rfl | h
  · exact ⟨hl, hD⟩
  · exact h3 x h
theorem marks_inj {A B : List Nat} (h : marks A = marks B) : A = B := by
  induction A generalizing B with
  | nil => cases B with
    | nil => rfl
    | cons b B => simp [marks] at h
  | cons a A ih => cases B with
    | nil => simp [marks] at h
    | cons b B =>
      simp only [marks, List.map_cons, List.cons.injEq, Deferred.mk.injEq, Target.collected.injEq, and_true] at h
      rw [h.1, ih h.2]
theorem MarksW.lt {lo : Nat} {ds : List Deferred} {W : World} (h : MarksW lo ds W) {D : Nat} (hD : W.heap.size ≤ D) : ∀ Ds, ds = marks Ds → D ∉ Ds := by
  obtain ⟨Ds, h1, h2, h3⟩ := h
  intro E hE hm
  rw [h1] at hE
  obtain rfl := marks_inj hE
  have := lt_of_block (h3 D hm).2
  omega
/-- The marks are passed when the function is left. -/
theorem leaves_marks {F : Fence} {n : Nat} {P : Program} {fn : Func} {tmps : Array Value} {R : Ending → World → Prop} : ∀ (Ds : List Nat) (W : World), Ds.Nodup → (∀ D ∈ Ds, W.heap[D]? = some (.deferred (some []))) →
    (∀ W', Keeps (fun k => k ∈ Ds) W W' → LeavesInM F n P fn tmps R [] .returning W') → LeavesInM F n P fn tmps R (marks Ds) .returning W
  | [], W, _, _, h => h W (Keeps.refl _ _)
  | D :: Ds, W, hn, hD, h => by
    refine ⟨by simp, .inl ⟨D, _, rfl, run_takeDeferred (hD D (List.mem_cons_self ..)), ?_⟩⟩
    have hkp : Keeps (fun k => k = D) W (W.putObj D (.deferred none)) := Keeps.putObj _ _ _ rfl
    refine leaves_marks Ds _ (List.nodup_cons.1 hn).2 (fun x hx => ?_) fun W' hk => ?_
    · have hx2 := hD x (List.mem_cons_of_mem _ hx)
      exact (hkp.block x (lt_of_block hx2) (fun e => (List.nodup_cons.1 hn).1 (e ▸ hx))).trans hx2
    · exact h W' ((hkp.mono (fun k _ e => by rw [e]; exact List.mem_cons_self ..)).trans (hk.mono (fun k _ e => List.mem_cons_of_mem _ e)))

theorem LenJ.with_le {l : LenJ} {b f : Int × Int} (h : l.lo ≤ l.hi) (hb : b.1 ≤ b.2) (hf : f.1 ≤ f.2) : (l.with b f).lo ≤ (l.with b f).hi := by
  unfold LenJ.with
  split
  · show l.lo + f.1 + b.1 ≤ l.hi + f.2 + b.2
    omega
  · show l.lo + b.1 ≤ l.hi + b.2
    omega
theorem lenJ_le {f : Int × Int} (hf : f.1 ≤ f.2) : ∀ (l : List (Int × Int)) (a : LenJ), (∀ b ∈ l, b.1 ≤ b.2) → a.lo ≤ a.hi → (l.foldl (fun l b => l.with b f) a).lo ≤ (l.foldl (fun l b => l.with b f) a).hi
  | [], _, _, h => h
  | b :: l, a, hb, h => by
    rw [List.foldl_cons]
    exact lenJ_le hf l _ (fun x hx => hb x (List.mem_cons_of_mem _ hx)) (LenJ.with_le h (hb b (List.mem_cons_self ..)) hf)
theorem mem_selJ {α : Type} : ∀ (l : List α) (s : Nat) (b : α), b ∈ selJ l s → b ∈ l
  | [], _, _, h => by simp [selJ] at h
  | x :: l, s, b, h => by
    unfold selJ at h
    split at h
    · rcases List.mem_cons.1 h with rfl | h
      · exact List.mem_cons_self ..
      · exact List.mem_cons_of_mem _ (mem_selJ l _ _ h)
    · exact List.mem_cons_of_mem _ (mem_selJ l _ _ h)
theorem grade_two {s : StackD} (hv : validSt s = true) (t : Nat) (w : Int × Int) : gradeS s t w = 2 ↔ insideJ w (lenS s t) = true := by
  have hle : (lenS s t).lo ≤ (lenS s t).hi := by
    obtain ⟨h8, hf, hb⟩ : s.bs.length ≤ 8 ∧ filmOk s.film = true ∧ ∀ b ∈ s.bs, blockOk b = true := by
      unfold validSt at hv
      simp only [Bool.and_eq_true, decide_eq_true_eq, List.all_eq_true] at hv
      exact ⟨hv.1.1, hv.1.2, hv.2⟩
    refine lenJ_le ?_ _ _ (fun b hb' => ?_) (Int.le_refl _)
    · unfold filmOk at hf; simp only [Bool.and_eq_true, decide_eq_true_eq] at hf; exact hf.1.2
    · have := hb b (mem_selJ _ _ _ hb'); unfold blockOk at this; simp only [Bool.and_eq_true, decide_eq_true_eq] at this; exact this.1.1.2
  unfold gradeS
  cases hi : insideJ w (lenS s t) with
  | false => 
    simp only [Bool.false_eq_true, if_false, iff_false]
    split <;> decide
  | true =>
    have hm : meetsJ w (lenS s t) = true := by
      unfold insideJ at hi; unfold meetsJ
      simp only [Bool.and_eq_true, decide_eq_true_eq] at hi ⊢
      omega
    rw [hm]
    decide
/-- Sets in memory. -/
def SetsAt (W : World) (v : Value) (l : List Nat) (Rd : Nat → Prop) : Prop :=
  ∃ ao cap, v = .slice ao l.length cap ∧ ∀ i (h : i < l.length), ∃ b off, ao = some ⟨b, off, none⟩ ∧ Rd b ∧ b < W.heap.size ∧ W.cell? ⟨b, off + i, none⟩ = some (.int .u64 l[i])
theorem sets_of_own {W : World} {base : Nat} {e : TypeId} {v : Value} {l : List Nat} {Rd : Nat → Prop} (h : W.ownsRow base e 1 v l.length (l.map fun s : Nat => Value.int .u64 s)) (hR : ∀ k, base ≤ k → Rd k) : SetsAt W v l Rd := by
  rcases h.2 with ⟨h2, h3⟩ | ⟨g, cap, cur, h2, h3, h4, h5, h6, h7, h8⟩
  · exact ⟨none, 0, by rw [h2, h3], fun i hi => by omega⟩
  · refine ⟨_, cap, h2, fun i hi => ⟨g, 0, rfl, hR g h3, lt_of_block h4, ?_⟩⟩
    rw [cell_of_row W g _ _ _ _ h4, Nat.zero_add]
    have h9 : (cur.toList.take (l.length * 1))[i]? = (l.map fun s : Nat => Value.int .u64 s)[i]? := by rw [h8]
    rw [Nat.mul_one, List.getElem?_take_of_lt hi] at h9
    rw [← Array.getElem?_toList, h9]
    simp [hi]
theorem SetsAt.later {W W' : World} {v : Value} {l : List Nat} {Rd : Nat → Prop} (h : SetsAt W v l Rd) (hs : W.heap.size ≤ W'.heap.size) (hk : ∀ k, k < W.heap.size → Rd k → W'.heap[k]? = W.heap[k]?) : SetsAt W' v l Rd := by
  obtain ⟨ao, cap, h1, h2⟩ := h
  refine ⟨ao, cap, h1, fun i hi => ?_⟩
  obtain ⟨b, off, e1, e2, e3, e4⟩ := h2 i hi
  exact ⟨b, off, e1, e2, Nat.lt_of_lt_of_le e3 hs, (World.cell?_of_block (w := W) (w' := W') (a := ⟨b, off + i, none⟩) (hk b e3 e2)).trans e4⟩
theorem SetsAt.passes {W W' : World} {v : Value} {l : List Nat} {Rd Rd' Mut : Nat → Prop} (h : SetsAt W v l Rd) (hk : Keeps Mut W W') (hm : ∀ q, Mut q → W.heap[q]? = some (.deferred (some []))) (hR : ∀ q, Rd q → Rd' q) : SetsAt W' v l Rd' := by
  obtain ⟨ao, cap, h1, h2⟩ := h
  refine ⟨ao, cap, h1, fun i hi => ?_⟩
  obtain ⟨b, off, e1, e2, e3, e4⟩ := h2 i hi
  refine ⟨b, off, e1, hR b e2, Nat.lt_of_lt_of_le e3 hk.size, (World.cell?_of_block (w := W) (w' := W') (a := ⟨b, off + i, none⟩) (hk.block b e3 (fun h => ?_))).trans e4⟩
  have h5 := hm b h
  simp [World.cell?, h5] at e4
theorem SetsAt.nil (W : World) (Rd : Nat → Prop) : SetsAt W (.slice none 0 0) [] Rd := ⟨none, 0, rfl, fun i hi => by simp at hi⟩
/-- An operation that comes up alone, by its law. -/
theorem wpAnyH_oper {P : Program} {md : Region.Mode} {ops : Array Oper} {S : World → Prop} {Q : Exit → Act → World → Prop} {k fuel : Nat} {o : Oper} {listed : Array Bool} {a : Act} {w : World} (hr : Region.ready md ops listed = [k]) (ho : ops[k]? = some o) (hg : Region.wanted o (yielded ops a.tmps) = true)
    (h : o.wp P a w (fun a' w' => S w' ∧ wpAnyH P md ops Q S fuel (listed.setIfInBounds k true) a' w') Q) : wpAnyH P md ops Q S (fuel + 1) listed a w := by
  refine wpAnyH_all hr (by simp) fun i hi => ?_
  obtain rfl : i = k := by simpa using hi
  unfold wpOp
  rw [ho]
  simp only [hg, if_true]
  left
  exact h
end Go.Proofs.YtbmfphiecllggaaDoor
