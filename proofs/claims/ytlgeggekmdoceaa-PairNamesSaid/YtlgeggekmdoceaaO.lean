/- By how much two blocks differ, by all tables. -/
import Derived.Test.YtlgeggekmdoceaaN
namespace Go.Proofs.Ytlgeggekmdoceaa
set_option linter.unusedVariables false
set_option linter.unusedSimpArgs false
open Go.RowKit Go.Shelf
attribute [local go_sem] Oper.semAt_some

theorem okTab_of (p : PairD) (hp : OkP p) (s : Nat) (x : (Int × Int) × Tab) (h : x ∈ pairOuts p s) : okTab x.2 := by
  obtain ⟨h1, h2, _⟩ := outs_mem _ _ _ h
  have hz := hp.zz; have hr := hp.rr
  intro i j hi hj
  rw [h2]
  exact fw_range _ (okB_bounds p hp s) _ _ _ _ (by omega) (by omega) (by omega) (by omega) _ h1 216 (by omega) i j hi hj

set_option maxRecDepth 100000 in
set_option maxHeartbeats 1000000 in
theorem differ_any (p : PairD) (hp : OkP p) (hne : pairOuts p (allR p) ≠ []) (bp mb : Nat) (bs rs : Value) (x y : Nat) (hx : x < 6) (hy : y < 6) (w : World) (ht : Told p bp mb bs rs w) :
    Calls Try.prog 51 #[.pointer (some ⟨bp, 0, none⟩), .int .i64 x, .int .i64 y] w
      fun e w' => (∃ s, IsHull (fun v => v ∈ (pairOuts p (allR p)).map (difOf x y)) s ∧ e = .returned (spanV s)) ∧ Below w.heap.size w w' := by
  have hmf : ∀ fn first cap w, (Instr.makeFunc fn first cap).run Try.prog w = .ok (.func fn first cap) w := fun _ _ _ _ => rfl
  have hal : ∀ o1 o2 o3, Below w.heap.size w (((w.alloc o1).alloc o2).alloc o3) := fun _ _ _ => (((Below.refl _ _).alloc (Nat.le_refl _) _).alloc (by simp) _).alloc (by simp <;> omega) _
  have HT := Lib.hid ht
  have HAL := Lib.hid hal
  have HP := Lib.hid hp
  clear ht hal hp
  go_enter Try.func51, Try.ntmps51
  go_wp2_with (first | (go_at_call 61; obtain ⟨W, hW⟩ : ∃ W, W = ((w.alloc (.cells #[.int .i64 x] 3 (0, 0))).alloc (.cells #[.int .i64 y] 3 (0, 0))).alloc (.cells #[.int .i64 0, .int .i64 0] 24 (0, 0)) := ⟨_, rfl⟩; rw [← hW]))
  have hWb : Below w.heap.size w W := by rw [hW]; exact HAL.out _ _ _
  have hWs : W.heap.size = w.heap.size + 3 := by rw [hW]; simp
  have w0 : W.heap[w.heap.size]? = some (.cells #[.int .i64 x] 3 (0, 0)) := by rw [hW]; exact (by repeat (first | (refine heap_alloc_at _ _ _ ?_; (simp <;> omega); done) | (refine (hget_old _ _ _ ?_).trans ?_; · (simp <;> omega))))
  have w1 : W.heap[w.heap.size + 1]? = some (.cells #[.int .i64 y] 3 (0, 0)) := by rw [hW]; exact (by repeat (first | (refine heap_alloc_at _ _ _ ?_; (simp <;> omega); done) | (refine (hget_old _ _ _ ?_).trans ?_; · (simp <;> omega))))
  have w2 : W.heap[w.heap.size + 1 + 1]? = some (.cells #[.int .i64 0, .int .i64 0] 24 (0, 0)) := by rw [hW]; exact (by repeat (first | (refine heap_alloc_at _ _ _ ?_; (simp <;> omega); done) | (refine (hget_old _ _ _ ?_).trans ?_; · (simp <;> omega))))
  clear hW
  have htW := HT.out.later hWb
  refine (bspan_any bp mb _ hne (difOf x y) bs rs p.zl p.zh p.rl p.rh 95 _ W htW.b htW.m (enters_of Try.func95 (by kernel_rfl) rfl) (fun e he W' hb' => differ1_any e.1 e.2 (okTab_of p HP.out _ e he) x y hx hy w.heap.size (w.heap.size + 1) W' ((hb'.block _ (by omega)).trans w0) ((hb'.block _ (by omega)).trans w1))).mono ?_
  rintro e w4 ⟨⟨⟨lo, hi⟩, hh, rfl⟩, hb4⟩
  have hr1 : w4.heap[w.heap.size + 1 + 1]? = some (.cells #[.int .i64 0, .int .i64 0] 24 (0, 0)) := (hb4.block _ (by omega)).trans w2
  have f0 := cell_of_row w4 _ 0 _ _ _ hr1
  have f1 := cell_of_row w4 _ 1 _ _ _ hr1
  have f2 : ∀ k, w4.frozen? ⟨w.heap.size + 1 + 1, k, none⟩ = false := fun k => frozen_of_row _ _ _ _ _ hr1
  have HR1 := Lib.hid hr1
  have HB1 := Lib.hid (hWb.trans (hb4.mono (by omega)))
  have HH := Lib.hid hh
  clear hr1 hb4 hh w0 w1 w2 hWb hWs htW
  unfold spanV
  go_wp2
  obtain ⟨W3, hW3⟩ : ∃ W3, W3 = (w4.setCell ⟨w.heap.size + 1 + 1, 0, none⟩ (.int .i64 lo)).setCell ⟨w.heap.size + 1 + 1, 1, none⟩ (.int .i64 hi) := ⟨_, rfl⟩
  have hs3 : W3.heap[w.heap.size + 1 + 1]? = some (.cells #[.int .i64 lo, .int .i64 hi] 24 (0, 0)) := by rw [hW3]; exact two_setCell HR1.out
  have e0 : W3.cell? ⟨w.heap.size + 1 + 1, 0, none⟩ = some (.int .i64 lo) := by rw [cell_of_row W3 _ _ _ _ _ hs3]; rfl
  have e1 : W3.cell? ⟨w.heap.size + 1 + 1, 1, none⟩ = some (.int .i64 hi) := by rw [cell_of_row W3 _ _ _ _ _ hs3]; rfl
  rw [← hW3]
  refine bodyPost_ret (v := spanV (lo, hi)) (by simp [results, Try.results51, go_sem, spanV, e0, e1]) rfl ⟨⟨(lo, hi), HH.out, rfl⟩, ?_⟩
  rw [hW3]
  exact (HB1.out.setCell (by simp; omega) _).setCell (by simp; omega) _

end Go.Proofs.Ytlgeggekmdoceaa
