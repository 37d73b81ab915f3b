/- Shows. -/
import Derived.Test.YtlgeggekmdoceaaS
namespace Go.Proofs.Ytlgeggekmdoceaa
set_option linter.unusedVariables false
set_option linter.unusedSimpArgs false
open Go.RowKit Go.Shelf
attribute [local go_sem] Oper.semAt_some

theorem shows2_any (x : Int) (px : Nat) (bv : Value) (w : World) (hpx : w.heap[px]? = some (.cells #[.int .i64 x] 3 (0, 0))) :
    Calls Try.prog 59 (#[bv] ++ #[.pointer (some ⟨px, 0, none⟩)]) w fun e w' => e = .returned (.bool (inB x 0 60)) ∧ w = w' := by
  have d0 : w.cell? ⟨px, 0, none⟩ = some (.int .i64 x) := by rw [cell_of_row w _ _ _ _ _ hpx]; rfl
  go_enter Try.func59, Try.ntmps59
  go_wp2_with (first | (go_at_call 60; refine (isMinute_any x w).mono ?_; rintro e w' ⟨rfl, rfl⟩))
  go_ret
  exact ⟨rfl, rfl⟩
theorem showsp_results (t1 t2 : Array Value) (h4 : t1.getD 4 undef = t2.getD 4 undef) (h5 : t1.getD 5 undef = t2.getD 5 undef) : results Try.f19 t1 = results Try.f19 t2 := by
  have : Try.f19.results = #[.cell 4 24, .cell 5 30] := rfl
  unfold results
  rw [this]
  have h4' : t1[4]?.getD undef = t2[4]?.getD undef := by simpa [Array.getD_eq_getD_getElem?] using h4
  have h5' : t1[5]?.getD undef = t2[5]?.getD undef := by simpa [Array.getD_eq_getD_getElem?] using h5
  simp [h4', h5']
theorem showsp_put {R : Ending → World → Prop} {c : List PanicEntry} {d : Nat} {v : Value} {a : Act} {w : World} (h4 : d ≠ 4) (h5 : d ≠ 5)
    (h : bodyPostD Try.prog Try.f19 R (.panic c) (a.put (some d) v) w) : bodyPostD Try.prog Try.f19 R (.panic c) a w := by
  refine Leaves.congr (fun w v hh => ?_) _ _ _ h
  rw [showsp_results _ a.tmps] at hh
  · exact hh
  · simp [Act.put, Array.getD_eq_getD_getElem?, Array.getElem?_setIfInBounds, h4]
  · simp [Act.put, Array.getD_eq_getD_getElem?, Array.getElem?_setIfInBounds, h5]
theorem showsp_run (tmps : Array Value) (S E : Nat) (lo hi n : Int) (W : World) (h4 : tmps.getD 4 undef = .pointer (some ⟨S, 0, none⟩)) (h5 : tmps.getD 5 undef = .pointer (some ⟨E, 0, none⟩))
    (hs : W.heap[S]? = some (.cells #[.int .i64 lo, .int .i64 hi] 24 (0, 0))) (he : W.heap[E]? = some (.cells #[.int .i64 n] 30 (0, 0))) :
    (results Try.f19 tmps).run Try.prog W = .ok (.tuple #[spanV (lo, hi), .int .i64 n]) W := by
  have e0 : W.cell? ⟨S, 0, none⟩ = some (.int .i64 lo) := by rw [cell_of_row W _ _ _ _ _ hs]; rfl
  have e1 : W.cell? ⟨S, 1, none⟩ = some (.int .i64 hi) := by rw [cell_of_row W _ _ _ _ _ hs]; rfl
  have e2 : W.cell? ⟨E, 0, none⟩ = some (.int .i64 n) := by rw [cell_of_row W _ _ _ _ _ he]; rfl
  rw [showsp_results tmps #[undef, undef, undef, undef, .pointer (some ⟨S, 0, none⟩), .pointer (some ⟨E, 0, none⟩)] h4 h5]
  simp [results, Try.results19, go_sem, spanV, e0, e1, e2]
theorem showsp_leaf (n : Int) (R : Ending → World → Prop) (S E : Nat) (tmps : Array Value) (w5 : World) (h4 : tmps.getD 4 undef = .pointer (some ⟨S, 0, none⟩)) (h5 : tmps.getD 5 undef = .pointer (some ⟨E, 0, none⟩)) (hSE : S ≠ E)
    (hs : w5.heap[S]? = some (.cells #[.int .i64 0, .int .i64 0] 24 (0, 0))) (he : w5.heap[E]? = some (.cells #[.int .i64 0] 30 (0, 0)))
    (hR : ∀ W', Keeps (fun k => k = E) w5 W' → R (.returned (.tuple #[spanV (0, 0), .int .i64 n])) W') :
    Leaves Try.prog Try.f19 tmps R [{ target := .fn (.func 58) #[.pointer (some ⟨E, 0, none⟩)], args := #[] }] (.panicking [{ v := stopV n, recovered := false }]) w5 := by
  refine leaves_cons (f := 58) (args := #[.pointer (some ⟨E, 0, none⟩)]) (by simp) (by simp [go_sem, invoke]) ?_
  refine (catch_stop_shows n E 0 w5 he).mono ?_
  rintro e u' w' ⟨rfl, rfl, hk, he'⟩
  exact ⟨_, showsp_run tmps S E 0 0 n w' h4 h5 ((hk.block _ (lt_of_block hs) (by omega)).trans hs) he', hR _ hk⟩
theorem showsp_leaf_ret (R : Ending → World → Prop) (S E : Nat) (lo hi : Int) (tmps : Array Value) (w5 : World) (h4 : tmps.getD 4 undef = .pointer (some ⟨S, 0, none⟩)) (h5 : tmps.getD 5 undef = .pointer (some ⟨E, 0, none⟩))
    (hs : w5.heap[S]? = some (.cells #[.int .i64 lo, .int .i64 hi] 24 (0, 0))) (he : w5.heap[E]? = some (.cells #[.int .i64 0] 30 (0, 0)))
    (hR : R (.returned (.tuple #[spanV (lo, hi), .int .i64 0])) w5) :
    Leaves Try.prog Try.f19 tmps R [{ target := .fn (.func 58) #[.pointer (some ⟨E, 0, none⟩)], args := #[] }] .returning w5 := by
  refine leaves_cons (f := 58) (args := #[.pointer (some ⟨E, 0, none⟩)]) (by simp) (by simp [go_sem, invoke]) ?_
  refine (catch_idle_shows E w5).mono ?_
  rintro e u' w' ⟨rfl, rfl, rfl⟩
  exact ⟨_, showsp_run tmps S E lo hi 0 w' h4 h5 hs he, hR⟩

set_option maxRecDepth 100000 in
set_option maxHeartbeats 8000000 in
theorem showsp_any (p : PairD) (bs rs : Value) (x : Int) (Rd : Nat → Prop) (w : World) (hRd : ∀ k, Rd k → k < w.heap.size) (hbs : SpansAt w bs p.bs Rd) (hrs : ReadsAt w rs p.rs Rd) :
    Calls Try.prog 19 #[.agg (pairRow p bs rs), .int .i64 x] w fun e w' => ∃ s er, e = .returned (.tuple #[spanV s, .int .i64 er]) ∧ ToldRes p (inB x 0 60) (shoOf x) s er ∧ Below w.heap.size w w' := by
  have hmf : ∀ fn first cap w, (Instr.makeFunc fn first cap).run Try.prog w = .ok (.func fn first cap) w := fun _ _ _ _ => rfl
  obtain ⟨W0, hW0⟩ : ∃ W0, W0 = (((w.alloc (.cells (pairRow p bs rs) 27 (0, 0))).alloc (.cells #[.int .i64 x] 3 (0, 0))).alloc (.cells #[.int .i64 0, .int .i64 0] 24 (0, 0))).alloc (.cells #[.int .i64 0] 30 (0, 0)) := ⟨_, rfl⟩
  have w0 : W0.heap[w.heap.size]? = some (.cells (pairRow p bs rs) 27 (0, 0)) := by rw [hW0]; exact (by repeat (first | (refine heap_alloc_at _ _ _ ?_; (simp <;> omega); done) | (refine (hget_old _ _ _ ?_).trans ?_; · (simp <;> omega))))
  have w1 : W0.heap[w.heap.size + 1]? = some (.cells #[.int .i64 x] 3 (0, 0)) := by rw [hW0]; exact (by repeat (first | (refine heap_alloc_at _ _ _ ?_; (simp <;> omega); done) | (refine (hget_old _ _ _ ?_).trans ?_; · (simp <;> omega))))
  have w2 : W0.heap[w.heap.size + 1 + 1]? = some (.cells #[.int .i64 0, .int .i64 0] 24 (0, 0)) := by rw [hW0]; exact (by repeat (first | (refine heap_alloc_at _ _ _ ?_; (simp <;> omega); done) | (refine (hget_old _ _ _ ?_).trans ?_; · (simp <;> omega))))
  have w3 : W0.heap[w.heap.size + 1 + 1 + 1]? = some (.cells #[.int .i64 0] 30 (0, 0)) := by rw [hW0]; exact (by repeat (first | (refine heap_alloc_at _ _ _ ?_; (simp <;> omega); done) | (refine (hget_old _ _ _ ?_).trans ?_; · (simp <;> omega))))
  have hbW : Below w.heap.size w W0 := by rw [hW0]; exact ((((Below.refl _ _).alloc (Nat.le_refl _) _).alloc (by simp) _).alloc (by simp <;> omega) _).alloc (by simp <;> omega) _
  have hsW : W0.heap.size = w.heap.size + 4 := by rw [hW0]; simp
  have hbsW : SpansAt W0 bs p.bs Rd := hbs.later (by omega) (fun k hk _ => hbW.block k hk)
  have hrsW : ReadsAt W0 rs p.rs Rd := hrs.later (by omega) (fun k hk _ => hbW.block k hk)
  have hf : validB p = true → ∀ W bp, Below W0.heap.size W0 W → W.heap[bp]? = some (benchObj bs rs p.zl p.zh p.rl p.rh (.map none)) → Calls Try.prog 59 (#[.pointer (some ⟨bp, 0, none⟩)] ++ #[.pointer (some ⟨w.heap.size + 1, 0, none⟩)]) W fun e W' => e = .returned (.bool (inB x 0 60)) ∧ W = W' := fun hv W bp hb hbp => by
    exact shows2_any x (w.heap.size + 1) _ W ((hb.block _ (by omega)).trans w1)
  have HF := Lib.hid hf
  have HBS := Lib.hid hbsW
  have HRS := Lib.hid hrsW
  have HB := Lib.hid hbW
  clear hf hbsW hrsW hbW hbs hrs
  have c0 : W0.cell? ⟨w.heap.size, 0, none⟩ = some bs := by rw [cell_of_row W0 _ _ _ _ _ w0]; rfl
  have c1 : W0.cell? ⟨w.heap.size, 1, none⟩ = some (.int .i64 p.zl) := by rw [cell_of_row W0 _ _ _ _ _ w0]; rfl
  have c2 : W0.cell? ⟨w.heap.size, 2, none⟩ = some (.int .i64 p.zh) := by rw [cell_of_row W0 _ _ _ _ _ w0]; rfl
  have c3 : W0.cell? ⟨w.heap.size, 3, none⟩ = some (.int .i64 p.rl) := by rw [cell_of_row W0 _ _ _ _ _ w0]; rfl
  have c4 : W0.cell? ⟨w.heap.size, 4, none⟩ = some (.int .i64 p.rh) := by rw [cell_of_row W0 _ _ _ _ _ w0]; rfl
  have c5 : W0.cell? ⟨w.heap.size, 5, none⟩ = some rs := by rw [cell_of_row W0 _ _ _ _ _ w0]; rfl
  have c6 : W0.cell? ⟨w.heap.size + 1, 0, none⟩ = some (.int .i64 x) := by rw [cell_of_row W0 _ _ _ _ _ w1]; rfl
  have eg := enters_of Try.func59 (by kernel_rfl) rfl
  have h2 := Lib.hid w2
  have h3 := Lib.hid w3
  clear w2 w3
  unfold pairRow at hW0 ⊢
  cases hv : validB p with
  | false =>
    go_enter_defers Try.func19, Try.ntmps19
    go_wp2_with fail
    rw [← hW0]
    refine (open_bad p bs rs Rd W0 (by exact HBS.out) (by exact HRS.out) 59 #[.pointer (some ⟨w.heap.size + 1, 0, none⟩)] _ eg (by exact HF.out) hv).mono ?_
    rintro e w5 ⟨rfl, hb5⟩
    refine showsp_leaf 1 _ (w.heap.size + 1 + 1) (w.heap.size + 1 + 1 + 1) _ w5 rfl rfl (by omega) ((hb5.block _ (by omega)).trans h2.out) ((hb5.block _ (by omega)).trans h3.out) (fun W' hk => ⟨_, _, rfl, .inl ⟨hv, rfl, rfl⟩, ?_⟩)
    exact HB.out.trans ((hb5.mono (by omega)).trans (hk.below (by have := hb5.size; omega) (fun k h => by omega)))
  | true =>
    cases hin : inB x 0 60 with
    | false =>
      go_enter_defers Try.func19, Try.ntmps19
      go_wp2_with fail
      rw [← hW0]
      refine (open_no p bs rs Rd W0 (by exact HBS.out) (by exact HRS.out) 59 #[.pointer (some ⟨w.heap.size + 1, 0, none⟩)] _ eg (by exact HF.out) hv hin).mono ?_
      rintro e w5 ⟨rfl, hb5⟩
      refine showsp_leaf 2 _ (w.heap.size + 1 + 1) (w.heap.size + 1 + 1 + 1) _ w5 rfl rfl (by omega) ((hb5.block _ (by omega)).trans h2.out) ((hb5.block _ (by omega)).trans h3.out) (fun W' hk => ⟨_, _, rfl, .inr (.inl ⟨hv, rfl, rfl, rfl⟩), ?_⟩)
      exact HB.out.trans ((hb5.mono (by omega)).trans (hk.below (by have := hb5.size; omega) (fun k h => by omega)))
    | true =>
      have hp := OkP.of p hv
      go_enter_defers Try.func19, Try.ntmps19
      go_wp2_with fail
      rw [← hW0]
      refine (open_yes p bs rs Rd W0 (by exact HBS.out) (by exact HRS.out) 59 #[.pointer (some ⟨w.heap.size + 1, 0, none⟩)] _ eg (by exact HF.out) hv hin).mono ?_
      rintro e w5 ⟨bp, rfl, hle, hbp, hb5⟩
      have hle5 : W0.heap.size ≤ w5.heap.size := hb5.size
      have hltb := lt_of_block hbp
      have HB5 := Lib.hid (HB.out.trans (hb5.mono (by omega)))
      have hbs5 : SpansAt w5 bs p.bs Rd := HBS.out.later hle5 (fun k hk _ => hb5.block k hk)
      have hrs5 : ReadsAt w5 rs p.rs Rd := HRS.out.later hle5 (fun k hk _ => hb5.block k hk)
      have HBP := Lib.hid hbp
      have HB5' := Lib.hid hb5
      clear hbp hb5
      go_wp2_with fail
      by_cases hne : pairOuts p (allR p) = []
      · refine (told_no p hp bp bs rs w5 HBP.out Rd (fun k hk => by have := hRd k hk; omega) hbs5 hrs5 hne).mono ?_
        rintro e w6 ⟨rfl, hb6⟩
        refine showsp_leaf 10 _ (w.heap.size + 1 + 1) (w.heap.size + 1 + 1 + 1) _ w6 rfl rfl (by omega) ((hb6.block _ (by omega) (by omega)).trans ((HB5'.out.block _ (by omega)).trans h2.out)) ((hb6.block _ (by omega) (by omega)).trans ((HB5'.out.block _ (by omega)).trans h3.out)) (fun W' hk => ⟨_, _, rfl, .inr (.inr (.inl ⟨hv, rfl, hne, rfl, rfl⟩)), ?_⟩)
        exact HB5.out.trans ((hb6.below (by omega) (fun k h => by omega)).trans (hk.below (by have := hb6.size; omega) (fun k h => by omega)))
      · refine (told_yes p hp bp bs rs w5 HBP.out Rd (fun k hk => by have := hRd k hk; omega) hbs5 hrs5 hne).mono ?_
        rintro e w6 ⟨rfl, ⟨mb, ht⟩, hb6⟩
        have hs6 := hb6.size
        have f1 := (hb6.block (w.heap.size + 1) (by omega) (by omega)).trans ((HB5'.out.block _ (by omega)).trans w1)
        have f2 := (hb6.block (w.heap.size + 1 + 1) (by omega) (by omega)).trans ((HB5'.out.block _ (by omega)).trans h2.out)
        have f3 := (hb6.block (w.heap.size + 1 + 1 + 1) (by omega) (by omega)).trans ((HB5'.out.block _ (by omega)).trans h3.out)
        have HB6 := Lib.hid (HB5.out.trans (hb6.below (by omega) (fun k h => by omega)))
        have F1 := Lib.hid f1
        have F2 := Lib.hid f2
        have F3 := Lib.hid f3
        have HT := Lib.hid ht
        clear f1 f2 f3 ht hb6 c0 c1 c2 c3 c4 c5 c6
        go_wp2_with fail
        refine (bspan_any bp mb _ hne (shoOf x) bs rs p.zl p.zh p.rl p.rh 62 _ w6 HT.out.b HT.out.m (enters_of Try.func62 (by kernel_rfl) rfl) (fun e he W' hb' => ?_)).mono ?_
        · obtain ⟨⟨z, r⟩, t⟩ := e
          obtain ⟨hc, _, _⟩ := outs_mem _ _ _ he
          obtain ⟨b1, b2, b3, b4⟩ := comps_mem hc
          have hz := hp.zz
          have hr := hp.rr
          simp only [inB, decide_eq_true_eq] at hin
          have hm : -300 ≤ r * x ∧ r * x ≤ 300 := by
            have e1 : 0 ≤ (r + 5) * x := Int.mul_nonneg (by omega) (by omega)
            have e2 : 0 ≤ (5 - r) * x := Int.mul_nonneg (by omega) (by omega)
            rw [Int.add_mul] at e1
            rw [Int.sub_mul] at e2
            omega
          exact shows3_any z r x t (by omega) (by omega) (w.heap.size + 1) W' ((hb'.block _ (by omega)).trans F1.out)
        rintro e w7 ⟨⟨⟨lo, hi⟩, hh, rfl⟩, hb7⟩
        have hs7 := hb7.size
        have g2 := (hb7.block _ (by omega)).trans F2.out
        have g3 := (hb7.block _ (by omega)).trans F3.out
        have d2 : ∀ k, w7.frozen? ⟨w.heap.size + 1 + 1, k, none⟩ = false := fun k => frozen_of_row _ _ _ _ _ g2
        have d3 : ∀ k, w7.frozen? ⟨w.heap.size + 1 + 1 + 1, k, none⟩ = false := fun k => frozen_of_row _ _ _ _ _ g3
        have d0 : w7.cell? ⟨w.heap.size + 1 + 1, 0, none⟩ = some (.int .i64 0) := by rw [cell_of_row w7 _ _ _ _ _ g2]; rfl
        have d1 : w7.cell? ⟨w.heap.size + 1 + 1, 1, none⟩ = some (.int .i64 0) := by rw [cell_of_row w7 _ _ _ _ _ g2]; rfl
        have d4 : w7.cell? ⟨w.heap.size + 1 + 1 + 1, 0, none⟩ = some (.int .i64 0) := by rw [cell_of_row w7 _ _ _ _ _ g3]; rfl
        have G2 := Lib.hid (two_setCell (x' := .int .i64 lo) (y' := .int .i64 hi) g2)
        have G3 := Lib.hid g3
        have HB7 := Lib.hid (HB6.out.trans (hb7.mono (by have := HB6.out.size; omega)))
        have HH := Lib.hid hh
        clear g2 g3 hb7 hh
        unfold spanV
        go_wp2
        obtain ⟨W8, hW8⟩ : ∃ W8, W8 = (w7.setCell ⟨w.heap.size + 1 + 1, 0, none⟩ (.int .i64 lo)).setCell ⟨w.heap.size + 1 + 1, 1, none⟩ (.int .i64 hi) := ⟨_, rfl⟩
        have k2 : W8.heap[w.heap.size + 1 + 1]? = some (.cells #[.int .i64 lo, .int .i64 hi] 24 (0, 0)) := by rw [hW8]; exact G2.out
        have k3 : W8.heap[w.heap.size + 1 + 1 + 1]? = some (.cells #[.int .i64 0] 30 (0, 0)) := by rw [hW8]; exact (Below.heap_setCell _ _ _ _ (by simp)).trans ((Below.heap_setCell _ _ _ _ (by simp)).trans G3.out)
        have hb8 : Below w.heap.size w W8 := by rw [hW8]; exact (HB7.out.setCell (by simp; omega) _).setCell (by simp; omega) _
        rw [← hW8]
        obtain ⟨W9, hW9⟩ : ∃ W9, W9 = W8.setCell ⟨w.heap.size + 1 + 1 + 1, 0, none⟩ (.int .i64 0) := ⟨_, rfl⟩
        have l2 : W9.heap[w.heap.size + 1 + 1]? = some (.cells #[.int .i64 lo, .int .i64 hi] 24 (0, 0)) := by rw [hW9]; exact (Below.heap_setCell _ _ _ _ (by simp)).trans k2
        have l3 : W9.heap[w.heap.size + 1 + 1 + 1]? = some (.cells #[.int .i64 0] 30 (0, 0)) := by rw [hW9]; simp [World.setCell, Array.getElem?_modify, k3]
        have hb9 : Below w.heap.size w W9 := by rw [hW9]; exact hb8.setCell (by simp; omega) _
        rw [← hW9]
        exact showsp_leaf_ret _ (w.heap.size + 1 + 1) (w.heap.size + 1 + 1 + 1) lo hi _ W9 rfl rfl l2 l3 ⟨_, _, rfl, .inr (.inr (.inr ⟨hv, rfl, hne, rfl, HH.out⟩)), hb9⟩

end Go.Proofs.Ytlgeggekmdoceaa
