/- Whether there is a truth by some bounds. -/
import Derived.Test.YtlgeggekmdoceaaF
import Derived.Test.YtlgeggekmdoceaaP
namespace Go.Proofs.Ytlgeggekmdoceaa
set_option linter.unusedVariables false
set_option linter.unusedSimpArgs false
open Go.RowKit Go.Shelf
attribute [local go_sem] Oper.semAt_some

theorem own_form {w : World} {base : Nat} {e : TypeId} {v : Value} {n : Nat} {xs : List Value} (h : w.ownsRow base e 1 v n xs) : ∃ ao cap, v = .slice ao n cap := by
  rcases h.2 with ⟨h2, h3⟩ | ⟨g, cap, cur, h2, _⟩
  · exact ⟨none, 0, by rw [h2, h3]⟩
  · exact ⟨_, cap, h2⟩
theorem own_length {w : World} {base : Nat} {e : TypeId} {v : Value} {n : Nat} {xs : List Value} (h : w.ownsRow base e 1 v n xs) : xs.length = n := by have := h.1; omega
theorem listAt_of_own {w W : World} {base : Nat} {e : TypeId} {v : Value} {n : Nat} {xs : List Value} (h : w.ownsRow base e 1 v n xs) (hb : Below w.heap.size w W) (hn : n ≤ 1000) (Rd : Nat → Prop) (hR : ∀ k, k < w.heap.size → Rd k) : ListAt W v xs Rd := by
  have hl := own_length h
  rcases h.2 with ⟨h2, h3⟩ | ⟨g, cap, cur, h2, h3, h4, h5, h6, h7, h8⟩
  · subst h3
    exact ⟨none, 0, by rw [h2, hl], by omega, fun i hi => by omega⟩
  · refine ⟨_, cap, by rw [h2, hl], by omega, fun i hi => ⟨g, 0, rfl, hR g (lt_of_block h4), Nat.lt_of_lt_of_le (lt_of_block h4) hb.size, ?_⟩⟩
    rw [Nat.zero_add, cell_of_row W g i cur e (0, 0) ((hb.block g (lt_of_block h4)).trans h4)]
    subst h8
    simp at hi ⊢

set_option maxRecDepth 100000 in
set_option maxHeartbeats 2000000 in
theorem can_any (bnds : List Bnd) (hok : ∀ x ∈ bnds, okB x) (hnb : bnds.length ≤ 1000) (bp base : Nat) (bs rs mv lv : Value) (zl zh rl rh : Int) (hz : zl ≤ zh) (hr : rl ≤ rh) (hz1 : -1000 ≤ zl) (hz2 : zh ≤ 1000) (hq1 : -1000 ≤ rl) (hq2 : rh ≤ 1000)
    (w : World) (hbp : w.heap[bp]? = some (benchObj bs rs zl zh rl rh mv)) (hlv : w.ownsRow base 134 1 lv bnds.length (bnds.map encB)) :
    Calls Try.prog 70 #[.pointer (some ⟨bp, 0, none⟩), lv] w fun e w' => e = .returned (.bool (decide (outs bnds (comps zl zh rl rh) ≠ []))) ∧ Below w.heap.size w w' := by
  obtain ⟨ao, cap, rfl⟩ := own_form hlv
  have hlt := lt_of_block hbp
  have HBP := Lib.hid hbp
  have HLV := Lib.hid hlv
  have HOK := Lib.hid hok
  clear hbp hlv hok
  refine calls_of_wp_marks Try.func70 rfl ?_
  simp only [Try.ntmps70, List.size_toArray, List.length_cons, List.length_nil, Nat.reduceAdd, Nat.reduceSub, Array.replicate_succ, Array.replicate_zero, List.push_toArray, List.append_toArray, List.nil_append, List.cons_append]
  go_wp2_with fail
  refine (tables_any bp bnds.length cap ao _).mono ?_
  rintro e w1 ⟨rfl, rfl⟩
  go_wp2_with fail
  obtain ⟨W1, hW1⟩ : ∃ W1, W1 = ((w.alloc (.cells #[.bool false] 4)).alloc (boxPtr bp)).alloc (.cells #[.slice ao bnds.length cap] 87 (0, 0)) := ⟨_, rfl⟩
  rw [← hW1]
  have hsz : W1.heap.size = w.heap.size + 3 := by rw [hW1]; simp
  have hbel : Below w.heap.size w W1 := by rw [hW1]; exact ((((Below.refl _ _).alloc (Nat.le_refl _) _).alloc (by simp) _).alloc (by simp; omega) _)
  have hx0 : W1.heap[w.heap.size]? = some (.cells #[.bool false] 4 (0, 0)) := by rw [hW1]; exact (by repeat (first | (refine heap_alloc_at _ _ _ ?_; (simp <;> omega); done) | (refine (hget_old _ _ _ ?_).trans ?_; · (simp <;> omega))))
  have hx1 : W1.heap[w.heap.size + 1]? = some (boxPtr bp) := by rw [hW1]; exact (by repeat (first | (refine heap_alloc_at _ _ _ ?_; (simp <;> omega); done) | (refine (hget_old _ _ _ ?_).trans ?_; · (simp <;> omega))))
  have hx2 : W1.heap[w.heap.size + 1 + 1]? = some (.cells #[.slice ao bnds.length cap] 87 (0, 0)) := by rw [hW1]; exact (by repeat (first | (refine heap_alloc_at _ _ _ ?_; (simp <;> omega); done) | (refine (hget_old _ _ _ ?_).trans ?_; · (simp <;> omega))))
  clear hW1
  have HX0 := Lib.hid hx0
  have HX1 := Lib.hid hx1
  have HX2 := Lib.hid hx2
  have HBEL := Lib.hid hbel
  clear hx0 hx1 hx2 hbel
  refine wp_range (gf := 103) (lb := #[.pointer (some ⟨w.heap.size + 1, 0, none⟩), .pointer (some ⟨w.heap.size + 1 + 1, 0, none⟩)]) rfl (enters_of Try.func103 (by kernel_rfl) rfl) (encs := fun x : (Int × Int) × Tab => #[.agg #[.int .i64 x.1.1, .int .i64 x.1.2], .agg (tcells x.2)]) (fun _ => rfl)
    (fun k => k ≠ w.heap.size ∧ k < W1.heap.size) (fun k => k = w.heap.size) ?hRd ?hM (outs bnds (comps zl zh rl rh)) ?hseq
    (fun pre _ Wr => pre = [] ∧ Wr.heap[w.heap.size]? = some (.cells #[.bool false] 4 (0, 0)) ∧ Below w.heap.size w Wr)
    (fun c pre _ Wr => c = .ret ∧ Wr.heap[w.heap.size]? = some (.cells #[.bool true] 4 (0, 0)) ∧ Below w.heap.size w Wr)
    ?hI ?hIx ?h0 ?hround ?hdone ?hstop
  case hRd => intro k hk; exact hk.2
  case hM => rintro k rfl; exact ⟨by omega, fun h => h.1 rfl⟩
  case hseq =>
    intro W' hb
    refine tables_seq bnds HOK.out (w.heap.size + 1) (w.heap.size + 1 + 1) bp bs rs mv (.slice ao bnds.length cap) zl zh rl rh hz hr hz1 hz2 hq1 hq2 (fw_range bnds HOK.out zl zh rl rh hz1 hz2 hq1 hq2) _ W' ⟨by omega, by omega⟩ ⟨by omega, by omega⟩ ⟨by omega, by omega⟩ ((hb.block _ (by omega)).trans HX1.out) ((hb.block _ (by omega)).trans ((HBEL.out.block _ hlt).trans HBP.out)) ((hb.block _ (by omega)).trans HX2.out) ?_
    exact listAt_of_own HLV.out (HBEL.out.trans (hb.mono (by omega))) hnb _ (fun k hk => ⟨by omega, by omega⟩)
  case hI =>
    rintro s G A B ⟨h1, h2, h3⟩ hk
    exact ⟨h1, (hk.block _ (lt_of_block h2) (by omega)).trans h2, h3.trans (hk.below (by have := h3.size; omega) (fun k h => by omega))⟩
  case hIx =>
    rintro c s G A B ⟨h1, h2, h3⟩ hk
    exact ⟨h1, (hk.block _ (lt_of_block h2) (by omega)).trans h2, h3.trans (hk.below (by have := h3.size; omega) (fun k h => by omega))⟩
  case h0 => exact ⟨rfl, HX0.out, HBEL.out⟩
  case hround =>
    rintro l pre x rest G Wr hxs ⟨rfl, h2, h3⟩ hl1 hl2 hGl
    have c0 : Wr.cell? ⟨w.heap.size, 0, none⟩ = some (.bool false) := by rw [cell_of_row Wr _ _ _ _ _ h2]; rfl
    have H2 := Lib.hid h2
    have H3 := Lib.hid h3
    clear h2 h3
    gi_wp2
    refine ⟨Keeps.refl _ _, ?_⟩
    intro W2 hk2 hs2
    have hw2 := (hk2.block _ (lt_of_block H2.out) (by omega)).trans H2.out
    have c0 : W2.cell? ⟨w.heap.size, 0, none⟩ = some (.bool false) := by rw [cell_of_row W2 _ _ _ _ _ hw2]; rfl
    have c1 : W2.frozen? ⟨w.heap.size, 0, none⟩ = false := frozen_of_row W2 _ _ _ _ hw2
    have HW2 := Lib.hid hw2
    have HK2 := Lib.hid hk2
    clear hw2 hk2 hs2
    gi_wp2
    refine ⟨Keeps.setCell _ _ _ rfl, rfl, one_setCell HW2.out, ?_⟩
    have hb2 : Below w.heap.size w W2 := H3.out.trans (HK2.out.below (by have := H3.out.size; omega) (fun k h => by omega))
    exact hb2.setCell (Nat.le_refl _) _
  case hdone =>
    rintro D G W' ⟨hxs, h2, h3⟩ hGD hkk hD hDs
    have c0 : W'.cell? ⟨w.heap.size, 0, none⟩ = some (.bool false) := by rw [cell_of_row W' _ _ _ _ _ h2]; rfl
    have c1 : W'.frozen? ⟨w.heap.size, 0, none⟩ = false := frozen_of_row W' _ _ _ _ h2
    have H2 := Lib.hid h2
    have H3 := Lib.hid h3
    have HD := Lib.hid hD
    have HX := Lib.hid hxs
    clear h2 h3 hD hxs hGD hkk
    go_wp2
    have hD2 : (W'.setCell ⟨w.heap.size, 0, none⟩ (.bool false)).heap[D]? = some (.deferred (some [])) := (Below.heap_setCell _ _ _ _ (by simp; omega)).trans HD.out
    refine ⟨by simp, .inl ⟨_, _, rfl, run_takeDeferred hD2, ?_⟩⟩
    have hr : ((W'.setCell ⟨w.heap.size, 0, none⟩ (.bool false)).putObj D (.deferred none)).heap[w.heap.size]? = some (.cells #[.bool false] 4 (0, 0)) := (World.putObj_heap_other (by omega)).trans (one_setCell H2.out)
    have cc : ((W'.setCell ⟨w.heap.size, 0, none⟩ (.bool false)).putObj D (.deferred none)).cell? ⟨w.heap.size, 0, none⟩ = some (.bool false) := by rw [cell_of_row _ _ _ _ _ _ hr]; rfl
    refine ⟨.bool false, ?_, by rw [HX.out]; rfl, ?_⟩
    · simp [results, Try.results70, go_sem, cc]
    · exact (H3.out.setCell (Nat.le_refl _) _).trans ((Keeps.putObj (Mut := fun k => k = D) _ _ _ rfl).below (by have := H3.out.size; simp; omega) (fun k h => by omega))
  case hstop =>
    rintro D c pre x rest G W' hxs ⟨rfl, h2, h3⟩ hGD hkk hD hDs
    have H2 := Lib.hid h2
    have H3 := Lib.hid h3
    have HD := Lib.hid hD
    have HX := Lib.hid hxs
    clear h2 h3 hD hxs hGD hkk
    go_wp2
    refine ⟨by simp, .inl ⟨_, _, rfl, run_takeDeferred HD.out, ?_⟩⟩
    have hr : (W'.putObj D (.deferred none)).heap[w.heap.size]? = some (.cells #[.bool true] 4 (0, 0)) := (World.putObj_heap_other (by omega)).trans H2.out
    have cc : (W'.putObj D (.deferred none)).cell? ⟨w.heap.size, 0, none⟩ = some (.bool true) := by rw [cell_of_row _ _ _ _ _ _ hr]; rfl
    refine ⟨.bool true, ?_, by rw [HX.out]; simp, ?_⟩
    · simp [results, Try.results70, go_sem, cc]
    · exact H3.out.trans ((Keeps.putObj (Mut := fun k => k = D) _ _ _ rfl).below (by have := H3.out.size; omega) (fun k h => by omega))

end Go.Proofs.Ytlgeggekmdoceaa
