/- By how much two blocks differ; what is shown: spans of all tables. -/
import Derived.Test.YtlgeggekmdoceaaM
namespace Go.Proofs.Ytlgeggekmdoceaa
set_option linter.unusedVariables false
set_option linter.unusedSimpArgs false
open Go.RowKit Go.Shelf
attribute [local go_sem] Oper.semAt_some

def okTab (t : Tab) : Prop := ∀ i j, i < 6 → j < 6 → -1000000000000 ≤ t i j ∧ t i j ≤ 1000000000000
def shoOf (m : Int) (e : (Int × Int) × Tab) : Int × Int := (showsC e.1.1 e.1.2 m, showsC e.1.1 e.1.2 m)
def difOf (x y : Nat) (e : (Int × Int) × Tab) : Int × Int := (- e.2 y x, e.2 x y)

set_option maxRecDepth 100000 in
set_option maxHeartbeats 1000000 in
theorem differ1_any (c : Int × Int) (t : Tab) (ht : okTab t) (x y : Nat) (hx : x < 6) (hy : y < 6) (px py : Nat) (w : World) (hpx : w.heap[px]? = some (.cells #[.int .i64 x] 3 (0, 0))) (hpy : w.heap[py]? = some (.cells #[.int .i64 y] 3 (0, 0))) :
    Calls Try.prog 95 (#[encC c, .agg (tcells t)] ++ #[.pointer (some ⟨px, 0, none⟩), .pointer (some ⟨py, 0, none⟩)]) w
      fun e w' => e = .returned (spanV (difOf x y (c, t))) ∧ Below w.heap.size w w' := by
  obtain ⟨cz, cr⟩ := c
  unfold encC
  have hlx := lt_of_block hpx
  have hly := lt_of_block hpy
  have d0 : ∀ o1 o2 o3, (((w.alloc o1).alloc o2).alloc o3).cell? ⟨px, 0, none⟩ = some (.int .i64 x) := fun o1 o2 o3 => by rw [cell_of_row _ _ _ _ _ _ ((hget_old _ _ _ (by simp; omega)).trans ((hget_old _ _ _ (by simp; omega)).trans ((hget_old _ _ _ (by omega)).trans hpx)))]; rfl
  have d1 : ∀ o1 o2 o3, (((w.alloc o1).alloc o2).alloc o3).cell? ⟨py, 0, none⟩ = some (.int .i64 y) := fun o1 o2 o3 => by rw [cell_of_row _ _ _ _ _ _ ((hget_old _ _ _ (by simp; omega)).trans ((hget_old _ _ _ (by simp; omega)).trans ((hget_old _ _ _ (by omega)).trans hpy)))]; rfl
  go_enter Try.func95, Try.ntmps95
  go_wp2_with (first | (refine wpList_load_row rfl 84 _ rfl (w.heap.size + 1) rfl 84 (tcells t) (0, 0) _ (by repeat (first | (refine heap_alloc_at _ _ _ ?_; (simp <;> omega); done) | (refine (hget_old _ _ _ ?_).trans ?_; · (simp <;> omega)))) underTab rfl (sizeTab _) ?_) | (go_at_call 96; refine (tspan_any t x y hx hy (ht y x hy hx) _).mono ?_; rintro e w1 ⟨rfl, hb1⟩; have hr1 : w1.heap[w.heap.size + 1 + 1]? = some (.cells #[.int .i64 0, .int .i64 0] 24 (0, 0)) := (hb1.block _ (by simp <;> omega)).trans (by repeat (first | (refine heap_alloc_at _ _ _ ?_; (simp <;> omega); done) | (refine (hget_old _ _ _ ?_).trans ?_; · (simp <;> omega)))); have f0 := cell_of_row w1 _ 0 _ _ _ hr1; have f1 := cell_of_row w1 _ 1 _ _ _ hr1; have f2 : ∀ k, w1.frozen? ⟨w.heap.size + 1 + 1, k, none⟩ = false := fun k => frozen_of_row _ _ _ _ _ hr1; have HR1 := Lib.hid hr1; have HB1 := Lib.hid hb1; clear hr1 hb1))
  obtain ⟨W3, hW3⟩ : ∃ W3, W3 = (w1.setCell ⟨w.heap.size + 1 + 1, 0, none⟩ (.int .i64 (- t y x))).setCell ⟨w.heap.size + 1 + 1, 1, none⟩ (.int .i64 (t x y)) := ⟨_, rfl⟩
  have hs3 : W3.heap[w.heap.size + 1 + 1]? = some (.cells #[.int .i64 (- t y x), .int .i64 (t x y)] 24 (0, 0)) := by rw [hW3]; exact two_setCell HR1.out
  have e0 : W3.cell? ⟨w.heap.size + 1 + 1, 0, none⟩ = some (.int .i64 (- t y x)) := by rw [cell_of_row W3 _ _ _ _ _ hs3]; rfl
  have e1 : W3.cell? ⟨w.heap.size + 1 + 1, 1, none⟩ = some (.int .i64 (t x y)) := by rw [cell_of_row W3 _ _ _ _ _ hs3]; rfl
  rw [← hW3]
  refine bodyPost_ret (v := spanV (difOf x y ((cz, cr), t))) (by simp [results, Try.results95, go_sem, spanV, e0, e1, difOf, shoOf]) rfl ⟨rfl, ?_⟩
  rw [hW3]
  exact ((((((Below.refl _ _).alloc (Nat.le_refl _) _).alloc (by simp) _).alloc (by simp <;> omega) _).trans (HB1.out.mono (by simp <;> omega))).setCell (by simp; omega) _).setCell (by simp; omega) _

set_option maxRecDepth 100000 in
set_option maxHeartbeats 1000000 in
theorem shows3_any (z r m : Int) (t : Tab) (hz : -1000000 ≤ z ∧ z ≤ 1000000) (hr : -1000000 ≤ r * m ∧ r * m ≤ 1000000) (pm : Nat) (w : World) (hpm : w.heap[pm]? = some (.cells #[.int .i64 m] 3 (0, 0))) :
    Calls Try.prog 62 (#[encC (z, r), .agg (tcells t)] ++ #[.pointer (some ⟨pm, 0, none⟩)]) w
      fun e w' => e = .returned (spanV (shoOf m ((z, r), t))) ∧ Below w.heap.size w w' := by
  unfold encC
  have hlx := lt_of_block hpm
  have d0 : ∀ o1 o2 o3, (((w.alloc o1).alloc o2).alloc o3).cell? ⟨pm, 0, none⟩ = some (.int .i64 m) := fun o1 o2 o3 => by rw [cell_of_row _ _ _ _ _ _ ((hget_old _ _ _ (by simp; omega)).trans ((hget_old _ _ _ (by simp; omega)).trans ((hget_old _ _ _ (by omega)).trans hpm)))]; rfl
  have HZ := Lib.hid hz
  have HR := Lib.hid hr
  clear hz hr
  go_enter Try.func62, Try.ntmps62
  go_wp2_with (first | (go_at_call 63; refine (cshows_any z r m HZ.out HR.out _).mono ?_; rintro e w1 ⟨rfl, hb1⟩; have hr1 : w1.heap[w.heap.size + 1 + 1]? = some (.cells #[.int .i64 0, .int .i64 0] 24 (0, 0)) := (hb1.block _ (by simp <;> omega)).trans (by repeat (first | (refine heap_alloc_at _ _ _ ?_; (simp <;> omega); done) | (refine (hget_old _ _ _ ?_).trans ?_; · (simp <;> omega)))); have f0 := cell_of_row w1 _ 0 _ _ _ hr1; have f1 := cell_of_row w1 _ 1 _ _ _ hr1; have f2 : ∀ k, w1.frozen? ⟨w.heap.size + 1 + 1, k, none⟩ = false := fun k => frozen_of_row _ _ _ _ _ hr1; have HR1 := Lib.hid hr1; have HB1 := Lib.hid hb1; clear hr1 hb1))
  obtain ⟨W3, hW3⟩ : ∃ W3, W3 = (w1.setCell ⟨w.heap.size + 1 + 1, 0, none⟩ (.int .i64 (showsC z r m))).setCell ⟨w.heap.size + 1 + 1, 1, none⟩ (.int .i64 (showsC z r m)) := ⟨_, rfl⟩
  have hs3 : W3.heap[w.heap.size + 1 + 1]? = some (.cells #[.int .i64 (showsC z r m), .int .i64 (showsC z r m)] 24 (0, 0)) := by rw [hW3]; exact two_setCell HR1.out
  have e0 : W3.cell? ⟨w.heap.size + 1 + 1, 0, none⟩ = some (.int .i64 (showsC z r m)) := by rw [cell_of_row W3 _ _ _ _ _ hs3]; rfl
  have e1 : W3.cell? ⟨w.heap.size + 1 + 1, 1, none⟩ = some (.int .i64 (showsC z r m)) := by rw [cell_of_row W3 _ _ _ _ _ hs3]; rfl
  rw [← hW3]
  refine bodyPost_ret (v := spanV (shoOf m ((z, r), t))) (by simp [results, Try.results62, go_sem, spanV, e0, e1, difOf, shoOf]) rfl ⟨rfl, ?_⟩
  rw [hW3]
  exact ((((((Below.refl _ _).alloc (Nat.le_refl _) _).alloc (by simp) _).alloc (by simp <;> omega) _).trans (HB1.out.mono (by simp <;> omega))).setCell (by simp; omega) _).setCell (by simp; omega) _

set_option maxRecDepth 100000 in
set_option maxHeartbeats 1000000 in
theorem bspan_any (bp mb : Nat) (xs : List ((Int × Int) × Tab)) (hne : xs ≠ []) (g : (Int × Int) × Tab → Int × Int) (bs rs : Value) (zl zh rl rh : Int) (f : Nat) (caps : Array Value) (w : World)
    (hbp : w.heap[bp]? = some (benchObj bs rs zl zh rl rh (.map (some mb)))) (hm : w.heap[mb]? = some (.map (entsOf xs) xs.length))
    (eg : ∀ args w, (callFunc f args).run Try.prog w = .ok (.enter f args) w)
    (hf : ∀ x ∈ xs, ∀ W, Below w.heap.size w W → Calls Try.prog f (#[encC x.1, .agg (tcells x.2)] ++ caps) W fun e W' => e = .returned (spanV (g x)) ∧ Below W.heap.size W W') :
    Calls Try.prog 61 #[.pointer (some ⟨bp, 0, none⟩), .func (.func f) #[] caps] w fun e w' => (∃ s, IsHull (fun x => x ∈ xs.map g) s ∧ e = .returned (spanV s)) ∧ Below w.heap.size w w' := by
  have hlt := lt_of_block hbp
  have hlm := lt_of_block hm
  have d0 : ∀ o, (w.alloc o).cell? ⟨bp, 6, none⟩ = some (.map (some mb)) := fun o => by rw [cell_of_row _ _ _ _ _ _ ((hget_old _ _ _ (by omega)).trans hbp)]; rfl
  have hal : ∀ o, Below w.heap.size w (w.alloc o) := fun o => (Below.refl _ _).alloc (Nat.le_refl _) _
  have HF := Lib.hid hf
  have HM := Lib.hid hm
  have HAL := Lib.hid hal
  clear hf hm hal hbp
  go_enter Try.func61, Try.ntmps61
  go_wp2_with (first | (go_at_call 97; refine (hull_any xs hne g mb f caps _ ((HAL.out _).block _ hlm |>.trans HM.out) eg (fun x hx W hW => HF.out x hx W ((HAL.out _).trans (hW.mono (by simp)))) ).mono ?_; rintro e w1 ⟨⟨⟨lo, hi⟩, hh, rfl⟩, hb1⟩; have hr1 : w1.heap[w.heap.size]? = some (.cells #[.int .i64 0, .int .i64 0] 24 (0, 0)) := (hb1.block _ (by simp <;> omega)).trans (by repeat (first | (refine heap_alloc_at _ _ _ ?_; (simp <;> omega); done) | (refine (hget_old _ _ _ ?_).trans ?_; · (simp <;> omega)))); have f0 := cell_of_row w1 _ 0 _ _ _ hr1; have f1 := cell_of_row w1 _ 1 _ _ _ hr1; have f2 : ∀ k, w1.frozen? ⟨w.heap.size, k, none⟩ = false := fun k => frozen_of_row _ _ _ _ _ hr1; have HR1 := Lib.hid hr1; have HB1 := Lib.hid hb1; have HH := Lib.hid hh; clear hr1 hb1 hh; unfold spanV))
  obtain ⟨W3, hW3⟩ : ∃ W3, W3 = (w1.setCell ⟨w.heap.size, 0, none⟩ (.int .i64 lo)).setCell ⟨w.heap.size, 1, none⟩ (.int .i64 hi) := ⟨_, rfl⟩
  have hs3 : W3.heap[w.heap.size]? = some (.cells #[.int .i64 lo, .int .i64 hi] 24 (0, 0)) := by rw [hW3]; exact two_setCell HR1.out
  have e0 : W3.cell? ⟨w.heap.size, 0, none⟩ = some (.int .i64 lo) := by rw [cell_of_row W3 _ _ _ _ _ hs3]; rfl
  have e1 : W3.cell? ⟨w.heap.size, 1, none⟩ = some (.int .i64 hi) := by rw [cell_of_row W3 _ _ _ _ _ hs3]; rfl
  rw [← hW3]
  refine bodyPost_ret (v := spanV (lo, hi)) (by simp [results, Try.results61, go_sem, spanV, e0, e1]) rfl ⟨⟨(lo, hi), HH.out, rfl⟩, ?_⟩
  rw [hW3]
  exact (((HAL.out _).trans (HB1.out.mono (by simp))).setCell (by simp) _).setCell (by simp) _

/-- A benchmark: what a looked-at pair's memory holds. -/
structure Told (p : PairD) (bp mb : Nat) (bs rs : Value) (w : World) : Prop where
  b : w.heap[bp]? = some (benchObj bs rs p.zl p.zh p.rl p.rh (.map (some mb)))
  m : w.heap[mb]? = some (.map (entsOf (pairOuts p (allR p))) (pairOuts p (allR p)).length)
theorem Told.later {p : PairD} {bp mb : Nat} {bs rs : Value} {w W : World} (h : Told p bp mb bs rs w) (hb : Below w.heap.size w W) : Told p bp mb bs rs W :=
  ⟨(hb.block _ (lt_of_block h.b)).trans h.b, (hb.block _ (lt_of_block h.m)).trans h.m⟩
theorem outs_mem (l : List Bnd) (cs : List (Int × Int)) (x : (Int × Int) × Tab) (h : x ∈ outs l cs) : x.1 ∈ cs ∧ x.2 = tabOf l x.1 ∧ diagOk x.2 = true := by
  induction cs with
  | nil => simp [outs] at h
  | cons c cs ih =>
    have h1 : outs l (c :: cs) = outs l [c] ++ outs l cs := outs_append l [c] cs
    rw [h1, List.mem_append] at h
    rcases h with h | h
    · cases hd : diagOk (tabOf l c) with
      | true => rw [outs_yes l c hd] at h; simp at h; subst h; exact ⟨by simp, rfl, hd⟩
      | false => rw [outs_no l c hd] at h; simp at h
    · obtain ⟨a, b⟩ := ih h; exact ⟨List.mem_cons_of_mem _ a, b⟩
end Go.Proofs.Ytlgeggekmdoceaa
