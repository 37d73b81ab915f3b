/- Texts V, W, Y in one file; each begins with a word on what it proves. -/
import Derived.Test.YtlgeggekmdoceaaKb

/- Shows. -/
namespace Go.Proofs.Ytlgeggekmdoceaa
set_option linter.unusedVariables false
set_option linter.unusedSimpArgs false
open Go.RowKit Go.Shelf
attribute [local go_sem] Oper.semAt_some

theorem shows2_any (x : Int) (px : Nat) (bv : Value) (w : World) (hpx : w.heap[px]? = some (.cells #[.int .i64 x] 3 (0, 0))) :
    Calls Try.prog 59 (#[bv] ++ #[.pointer (some ⟨px, 0, none⟩)]) w fun e w' => e = .returned (.bool (inB x 0 60)) ∧ w = w' := by
  have d0 : w.cell? ⟨px, 0, none⟩ = some (.int .i64 x) := by rw [cell_of_row w _ _ _ _ _ hpx]; rfl
  go_enter Try.func59, Try.ntmps59
  go_wp2_with (first | (go_at_call 60; refine (isMinute_any x w).mono ?_; rintro e w' ⟨rfl, rfl⟩))
  go_ret
  exact ⟨rfl, rfl⟩
theorem showsp_results (t1 t2 : Array Value) (h4 : t1.getD 4 undef = t2.getD 4 undef) (h5 : t1.getD 5 undef = t2.getD 5 undef) : results Try.f19 t1 = results Try.f19 t2 := by
  have : Try.f19.results = #[.cell 4 24, .cell 5 30] := rfl
  unfold results
  rw [this]
  have h4' : t1[4]?.getD undef = t2[4]?.getD undef := by simpa [Array.getD_eq_getD_getElem?] using h4
  have h5' : t1[5]?.getD undef = t2[5]?.getD undef := by simpa [Array.getD_eq_getD_getElem?] using h5
  simp [h4', h5']
theorem showsp_put {R : Ending → World → Prop} {c : List PanicEntry} {d : Nat} {v : Value} {a : Act} {w : World} (h4 : d ≠ 4) (h5 : d ≠ 5)
    (h : bodyPostD Try.prog Try.f19 R (.panic c) (a.put (some d) v) w) : bodyPostD Try.prog Try.f19 R (.panic c) a w := by
  refine Leaves.congr (fun w v hh => ?_) _ _ _ h
  rw [showsp_results _ a.tmps] at hh
  · exact hh
  · simp [Act.put, Array.getD_eq_getD_getElem?, Array.getElem?_setIfInBounds, h4]
  · simp [Act.put, Array.getD_eq_getD_getElem?, Array.getElem?_setIfInBounds, h5]
theorem showsp_run (tmps : Array Value) (S E : Nat) (lo hi n : Int) (W : World) (h4 : tmps.getD 4 undef = .pointer (some ⟨S, 0, none⟩)) (h5 : tmps.getD 5 undef = .pointer (some ⟨E, 0, none⟩))
    (hs : W.heap[S]? = some (.cells #[.int .i64 lo, .int .i64 hi] 24 (0, 0))) (he : W.heap[E]? = some (.cells #[.int .i64 n] 30 (0, 0))) :
    (results Try.f19 tmps).run Try.prog W = .ok (.tuple #[spanV (lo, hi), .int .i64 n]) W := by
  have e0 : W.cell? ⟨S, 0, none⟩ = some (.int .i64 lo) := by rw [cell_of_row W _ _ _ _ _ hs]; rfl
  have e1 : W.cell? ⟨S, 1, none⟩ = some (.int .i64 hi) := by rw [cell_of_row W _ _ _ _ _ hs]; rfl
  have e2 : W.cell? ⟨E, 0, none⟩ = some (.int .i64 n) := by rw [cell_of_row W _ _ _ _ _ he]; rfl
  rw [showsp_results tmps #[undef, undef, undef, undef, .pointer (some ⟨S, 0, none⟩), .pointer (some ⟨E, 0, none⟩)] h4 h5]
  simp [results, Try.results19, go_sem, spanV, e0, e1, e2]
theorem showsp_leaf (n : Int) (R : Ending → World → Prop) (S E : Nat) (tmps : Array Value) (w5 : World) (h4 : tmps.getD 4 undef = .pointer (some ⟨S, 0, none⟩)) (h5 : tmps.getD 5 undef = .pointer (some ⟨E, 0, none⟩)) (hSE : S ≠ E)
    (hs : w5.heap[S]? = some (.cells #[.int .i64 0, .int .i64 0] 24 (0, 0))) (he : w5.heap[E]? = some (.cells #[.int .i64 0] 30 (0, 0)))
    (hR : ∀ W', Keeps (fun k => k = E) w5 W' → R (.returned (.tuple #[spanV (0, 0), .int .i64 n])) W') :
    Leaves Try.prog Try.f19 tmps R [{ target := .fn (.func 58) #[.pointer (some ⟨E, 0, none⟩)], args := #[] }] (.panicking [{ v := stopV n, recovered := false }]) w5 := by
  refine leaves_cons (f := 58) (args := #[.pointer (some ⟨E, 0, none⟩)]) (by simp) (by simp [go_sem, invoke]) ?_
  refine (catch_stop_shows n E 0 w5 he).mono ?_
  rintro e u' w' ⟨rfl, rfl, hk, he'⟩
  exact ⟨_, showsp_run tmps S E 0 0 n w' h4 h5 ((hk.block _ (lt_of_block hs) (by omega)).trans hs) he', hR _ hk⟩
theorem showsp_leaf_ret (R : Ending → World → Prop) (S E : Nat) (lo hi : Int) (tmps : Array Value) (w5 : World) (h4 : tmps.getD 4 undef = .pointer (some ⟨S, 0, none⟩)) (h5 : tmps.getD 5 undef = .pointer (some ⟨E, 0, none⟩))
    (hs : w5.heap[S]? = some (.cells #[.int .i64 lo, .int .i64 hi] 24 (0, 0))) (he : w5.heap[E]? = some (.cells #[.int .i64 0] 30 (0, 0)))
    (hR : R (.returned (.tuple #[spanV (lo, hi), .int .i64 0])) w5) :
    Leaves Try.prog Try.f19 tmps R [{ target := .fn (.func 58) #[.pointer (some ⟨E, 0, none⟩)], args := #[] }] .returning w5 := by
  refine leaves_cons (f := 58) (args := #[.pointer (some ⟨E, 0, none⟩)]) (by simp) (by simp [go_sem, invoke]) ?_
  refine (catch_idle_shows E w5).mono ?_
  rintro e u' w' ⟨rfl, rfl, rfl⟩
  exact ⟨_, showsp_run tmps S E lo hi 0 w' h4 h5 hs he, hR⟩

set_option maxRecDepth 100000 in
set_option maxHeartbeats 8000000 in
theorem showsp_any (p : PairD) (bs rs : Value) (x : Int) (Rd : Nat → Prop) (w : World) (hRd : ∀ k, Rd k → k < w.heap.size) (hbs : SpansAt w bs p.bs Rd) (hrs : ReadsAt w rs p.rs Rd) :
    Calls Try.prog 19 #[.agg (pairRow p bs rs), .int .i64 x] w fun e w' => ∃ s er, e = .returned (.tuple #[spanV s, .int .i64 er]) ∧ ToldRes p (inB x 0 60) (shoOf x) s er ∧ Below w.heap.size w w' := by
  have hmf : ∀ fn first cap w, (Instr.makeFunc fn first cap).run Try.prog w = .ok (.func fn first cap) w := fun _ _ _ _ => rfl
  obtain ⟨W0, hW0⟩ : ∃ W0, W0 = (((w.alloc (.cells (pairRow p bs rs) 27 (0, 0))).alloc (.cells #[.int .i64 x] 3 (0, 0))).alloc (.cells #[.int .i64 0, .int .i64 0] 24 (0, 0))).alloc (.cells #[.int .i64 0] 30 (0, 0)) := ⟨_, rfl⟩
  have w0 : W0.heap[w.heap.size]? = some (.cells (pairRow p bs rs) 27 (0, 0)) := by rw [hW0]; exact (by repeat (first | (refine heap_alloc_at _ _ _ ?_; (simp <;> omega); done) | (refine (hget_old _ _ _ ?_).trans ?_; · (simp <;> omega))))
  have w1 : W0.heap[w.heap.size + 1]? = some (.cells #[.int .i64 x] 3 (0, 0)) := by rw [hW0]; exact (by repeat (first | (refine heap_alloc_at _ _ _ ?_; (simp <;> omega); done) | (refine (hget_old _ _ _ ?_).trans ?_; · (simp <;> omega))))
  have w2 : W0.heap[w.heap.size + 1 + 1]? = some (.cells #[.int .i64 0, .int .i64 0] 24 (0, 0)) := by rw [hW0]; exact (by repeat (first | (refine heap_alloc_at _ _ _ ?_; (simp <;> omega); done) | (refine (hget_old _ _ _ ?_).trans ?_; · (simp <;> omega))))
  have w3 : W0.heap[w.heap.size + 1 + 1 + 1]? = some (.cells #[.int .i64 0] 30 (0, 0)) := by rw [hW0]; exact (by repeat (first | (refine heap_alloc_at _ _ _ ?_; (simp <;> omega); done) | (refine (hget_old _ _ _ ?_).trans ?_; · (simp <;> omega))))
  have hbW : Below w.heap.size w W0 := by rw [hW0]; exact ((((Below.refl _ _).alloc (Nat.le_refl _) _).alloc (by simp) _).alloc (by simp <;> omega) _).alloc (by simp <;> omega) _
  have hsW : W0.heap.size = w.heap.size + 4 := by rw [hW0]; simp
  have hbsW : SpansAt W0 bs p.bs Rd := hbs.later (by omega) (fun k hk _ => hbW.block k hk)
  have hrsW : ReadsAt W0 rs p.rs Rd := hrs.later (by omega) (fun k hk _ => hbW.block k hk)
  have hf : validB p = true → ∀ W bp, Below W0.heap.size W0 W → W.heap[bp]? = some (benchObj bs rs p.zl p.zh p.rl p.rh (.map none)) → Calls Try.prog 59 (#[.pointer (some ⟨bp, 0, none⟩)] ++ #[.pointer (some ⟨w.heap.size + 1, 0, none⟩)]) W fun e W' => e = .returned (.bool (inB x 0 60)) ∧ W = W' := fun hv W bp hb hbp => by
    exact shows2_any x (w.heap.size + 1) _ W ((hb.block _ (by omega)).trans w1)
  have HF := Lib.hid hf
  have HBS := Lib.hid hbsW
  have HRS := Lib.hid hrsW
  have HB := Lib.hid hbW
  clear hf hbsW hrsW hbW hbs hrs
  have c0 : W0.cell? ⟨w.heap.size, 0, none⟩ = some bs := by rw [cell_of_row W0 _ _ _ _ _ w0]; rfl
  have c1 : W0.cell? ⟨w.heap.size, 1, none⟩ = some (.int .i64 p.zl) := by rw [cell_of_row W0 _ _ _ _ _ w0]; rfl
  have c2 : W0.cell? ⟨w.heap.size, 2, none⟩ = some (.int .i64 p.zh) := by rw [cell_of_row W0 _ _ _ _ _ w0]; rfl
  have c3 : W0.cell? ⟨w.heap.size, 3, none⟩ = some (.int .i64 p.rl) := by rw [cell_of_row W0 _ _ _ _ _ w0]; rfl
  have c4 : W0.cell? ⟨w.heap.size, 4, none⟩ = some (.int .i64 p.rh) := by rw [cell_of_row W0 _ _ _ _ _ w0]; rfl
  have c5 : W0.cell? ⟨w.heap.size, 5, none⟩ = some rs := by rw [cell_of_row W0 _ _ _ _ _ w0]; rfl
  have c6 : W0.cell? ⟨w.heap.size + 1, 0, none⟩ = some (.int .i64 x) := by rw [cell_of_row W0 _ _ _ _ _ w1]; rfl
  have eg := enters_of Try.func59 (by kernel_rfl) rfl
  have h2 := Lib.hid w2
  have h3 := Lib.hid w3
  clear w2 w3
  unfold pairRow at hW0 ⊢
  cases hv : validB p with
  | false =>
    go_enter_defers Try.func19, Try.ntmps19
    go_wp2_with fail
    rw [← hW0]
    refine (open_bad p bs rs Rd W0 (by exact HBS.out) (by exact HRS.out) 59 #[.pointer (some ⟨w.heap.size + 1, 0, none⟩)] _ eg (by exact HF.out) hv).mono ?_
    rintro e w5 ⟨rfl, hb5⟩
    refine showsp_leaf 1 _ (w.heap.size + 1 + 1) (w.heap.size + 1 + 1 + 1) _ w5 rfl rfl (by omega) ((hb5.block _ (by omega)).trans h2.out) ((hb5.block _ (by omega)).trans h3.out) (fun W' hk => ⟨_, _, rfl, .inl ⟨hv, rfl, rfl⟩, ?_⟩)
    exact HB.out.trans ((hb5.mono (by omega)).trans (hk.below (by have := hb5.size; omega) (fun k h => by omega)))
  | true =>
    cases hin : inB x 0 60 with
    | false =>
      go_enter_defers Try.func19, Try.ntmps19
      go_wp2_with fail
      rw [← hW0]
      refine (open_no p bs rs Rd W0 (by exact HBS.out) (by exact HRS.out) 59 #[.pointer (some ⟨w.heap.size + 1, 0, none⟩)] _ eg (by exact HF.out) hv hin).mono ?_
      rintro e w5 ⟨rfl, hb5⟩
      refine showsp_leaf 2 _ (w.heap.size + 1 + 1) (w.heap.size + 1 + 1 + 1) _ w5 rfl rfl (by omega) ((hb5.block _ (by omega)).trans h2.out) ((hb5.block _ (by omega)).trans h3.out) (fun W' hk => ⟨_, _, rfl, .inr (.inl ⟨hv, rfl, rfl, rfl⟩), ?_⟩)
      exact HB.out.trans ((hb5.mono (by omega)).trans (hk.below (by have := hb5.size; omega) (fun k h => by omega)))
    | true =>
      have hp := OkP.of p hv
      go_enter_defers Try.func19, Try.ntmps19
      go_wp2_with fail
      rw [← hW0]
      refine (open_yes p bs rs Rd W0 (by exact HBS.out) (by exact HRS.out) 59 #[.pointer (some ⟨w.heap.size + 1, 0, none⟩)] _ eg (by exact HF.out) hv hin).mono ?_
      rintro e w5 ⟨bp, rfl, hle, hbp, hb5⟩
      have hle5 : W0.heap.size ≤ w5.heap.size := hb5.size
      have hltb := lt_of_block hbp
      have HB5 := Lib.hid (HB.out.trans (hb5.mono (by omega)))
      have hbs5 : SpansAt w5 bs p.bs Rd := HBS.out.later hle5 (fun k hk _ => hb5.block k hk)
      have hrs5 : ReadsAt w5 rs p.rs Rd := HRS.out.later hle5 (fun k hk _ => hb5.block k hk)
      have HBP := Lib.hid hbp
      have HB5' := Lib.hid hb5
      clear hbp hb5
      go_wp2_with fail
      by_cases hne : pairOuts p (allR p) = []
      · refine (told_no p hp bp bs rs w5 HBP.out Rd (fun k hk => by have := hRd k hk; omega) hbs5 hrs5 hne).mono ?_
        rintro e w6 ⟨rfl, hb6⟩
        refine showsp_leaf 10 _ (w.heap.size + 1 + 1) (w.heap.size + 1 + 1 + 1) _ w6 rfl rfl (by omega) ((hb6.block _ (by omega) (by omega)).trans ((HB5'.out.block _ (by omega)).trans h2.out)) ((hb6.block _ (by omega) (by omega)).trans ((HB5'.out.block _ (by omega)).trans h3.out)) (fun W' hk => ⟨_, _, rfl, .inr (.inr (.inl ⟨hv, rfl, hne, rfl, rfl⟩)), ?_⟩)
        exact HB5.out.trans ((hb6.below (by omega) (fun k h => by omega)).trans (hk.below (by have := hb6.size; omega) (fun k h => by omega)))
      · refine (told_yes p hp bp bs rs w5 HBP.out Rd (fun k hk => by have := hRd k hk; omega) hbs5 hrs5 hne).mono ?_
        rintro e w6 ⟨rfl, ⟨mb, ht⟩, hb6⟩
        have hs6 := hb6.size
        have f1 := (hb6.block (w.heap.size + 1) (by omega) (by omega)).trans ((HB5'.out.block _ (by omega)).trans w1)
        have f2 := (hb6.block (w.heap.size + 1 + 1) (by omega) (by omega)).trans ((HB5'.out.block _ (by omega)).trans h2.out)
        have f3 := (hb6.block (w.heap.size + 1 + 1 + 1) (by omega) (by omega)).trans ((HB5'.out.block _ (by omega)).trans h3.out)
        have HB6 := Lib.hid (HB5.out.trans (hb6.below (by omega) (fun k h => by omega)))
        have F1 := Lib.hid f1
        have F2 := Lib.hid f2
        have F3 := Lib.hid f3
        have HT := Lib.hid ht
        clear f1 f2 f3 ht hb6 c0 c1 c2 c3 c4 c5 c6
        go_wp2_with fail
        refine (bspan_any bp mb _ hne (shoOf x) bs rs p.zl p.zh p.rl p.rh 62 _ w6 HT.out.b HT.out.m (enters_of Try.func62 (by kernel_rfl) rfl) (fun e he W' hb' => ?_)).mono ?_
        · obtain ⟨⟨z, r⟩, t⟩ := e
          obtain ⟨hc, _, _⟩ := outs_mem _ _ _ he
          obtain ⟨b1, b2, b3, b4⟩ := comps_mem hc
          have hz := hp.zz
          have hr := hp.rr
          simp only [inB, decide_eq_true_eq] at hin
          have hm : -300 ≤ r * x ∧ r * x ≤ 300 := by
            have e1 : 0 ≤ (r + 5) * x := Int.mul_nonneg (by omega) (by omega)
            have e2 : 0 ≤ (5 - r) * x := Int.mul_nonneg (by omega) (by omega)
            rw [Int.add_mul] at e1
            rw [Int.sub_mul] at e2
            omega
          exact shows3_any z r x t (by omega) (by omega) (w.heap.size + 1) W' ((hb'.block _ (by omega)).trans F1.out)
        rintro e w7 ⟨⟨⟨lo, hi⟩, hh, rfl⟩, hb7⟩
        have hs7 := hb7.size
        have g2 := (hb7.block _ (by omega)).trans F2.out
        have g3 := (hb7.block _ (by omega)).trans F3.out
        have d2 : ∀ k, w7.frozen? ⟨w.heap.size + 1 + 1, k, none⟩ = false := fun k => frozen_of_row _ _ _ _ _ g2
        have d3 : ∀ k, w7.frozen? ⟨w.heap.size + 1 + 1 + 1, k, none⟩ = false := fun k => frozen_of_row _ _ _ _ _ g3
        have d0 : w7.cell? ⟨w.heap.size + 1 + 1, 0, none⟩ = some (.int .i64 0) := by rw [cell_of_row w7 _ _ _ _ _ g2]; rfl
        have d1 : w7.cell? ⟨w.heap.size + 1 + 1, 1, none⟩ = some (.int .i64 0) := by rw [cell_of_row w7 _ _ _ _ _ g2]; rfl
        have d4 : w7.cell? ⟨w.heap.size + 1 + 1 + 1, 0, none⟩ = some (.int .i64 0) := by rw [cell_of_row w7 _ _ _ _ _ g3]; rfl
        have G2 := Lib.hid (two_setCell (x' := .int .i64 lo) (y' := .int .i64 hi) g2)
        have G3 := Lib.hid g3
        have HB7 := Lib.hid (HB6.out.trans (hb7.mono (by have := HB6.out.size; omega)))
        have HH := Lib.hid hh
        clear g2 g3 hb7 hh
        unfold spanV
        go_wp2
        obtain ⟨W8, hW8⟩ : ∃ W8, W8 = (w7.setCell ⟨w.heap.size + 1 + 1, 0, none⟩ (.int .i64 lo)).setCell ⟨w.heap.size + 1 + 1, 1, none⟩ (.int .i64 hi) := ⟨_, rfl⟩
        have k2 : W8.heap[w.heap.size + 1 + 1]? = some (.cells #[.int .i64 lo, .int .i64 hi] 24 (0, 0)) := by rw [hW8]; exact G2.out
        have k3 : W8.heap[w.heap.size + 1 + 1 + 1]? = some (.cells #[.int .i64 0] 30 (0, 0)) := by rw [hW8]; exact (Below.heap_setCell _ _ _ _ (by simp)).trans ((Below.heap_setCell _ _ _ _ (by simp)).trans G3.out)
        have hb8 : Below w.heap.size w W8 := by rw [hW8]; exact (HB7.out.setCell (by simp; omega) _).setCell (by simp; omega) _
        rw [← hW8]
        obtain ⟨W9, hW9⟩ : ∃ W9, W9 = W8.setCell ⟨w.heap.size + 1 + 1 + 1, 0, none⟩ (.int .i64 0) := ⟨_, rfl⟩
        have l2 : W9.heap[w.heap.size + 1 + 1]? = some (.cells #[.int .i64 lo, .int .i64 hi] 24 (0, 0)) := by rw [hW9]; exact (Below.heap_setCell _ _ _ _ (by simp)).trans k2
        have l3 : W9.heap[w.heap.size + 1 + 1 + 1]? = some (.cells #[.int .i64 0] 30 (0, 0)) := by rw [hW9]; simp [World.setCell, Array.getElem?_modify, k3]
        have hb9 : Below w.heap.size w W9 := by rw [hW9]; exact hb8.setCell (by simp; omega) _
        rw [← hW9]
        exact showsp_leaf_ret _ (w.heap.size + 1 + 1) (w.heap.size + 1 + 1 + 1) lo hi _ W9 rfl rfl l2 l3 ⟨_, _, rfl, .inr (.inr (.inr ⟨hv, rfl, hne, rfl, HH.out⟩)), hb9⟩

end Go.Proofs.Ytlgeggekmdoceaa

/- Least. -/
namespace Go.Proofs.Ytlgeggekmdoceaa
set_option linter.unusedVariables false
set_option linter.unusedSimpArgs false
open Go.RowKit Go.Shelf
attribute [local go_sem] Oper.semAt_some

/-- The least span that has some spans. -/
def hullOf : List (Int × Int) → Int × Int
  | [] => (0, 0)
  | a :: l => l.foldl (fun s x => (min s.1 x.1, max s.2 x.2)) a
theorem hullOf_fold (l : List (Int × Int)) (S : Int × Int → Prop) (s : Int × Int) (h : IsHull S s) : IsHull (fun x => S x ∨ x ∈ l) (l.foldl (fun s x => (min s.1 x.1, max s.2 x.2)) s) := by
  induction l generalizing S s with
  | nil => exact h.congr (by simp)
  | cons a l ih =>
    refine (ih _ _ (h.add a)).congr fun x => ?_
    simp [or_assoc]
theorem hullOf_is (l : List (Int × Int)) (h : l ≠ []) : IsHull (fun x => x ∈ l) (hullOf l) := by
  obtain ⟨a, l, rfl⟩ := List.exists_cons_of_ne_nil h
  refine (hullOf_fold l _ a (IsHull.one a)).congr fun x => ?_
  simp
theorem IsHull.eq {l : List (Int × Int)} {s : Int × Int} (h : IsHull (fun x => x ∈ l) s) : s = hullOf l := by
  refine h.unique (hullOf_is l ?_)
  obtain ⟨⟨a, ha, _⟩, _⟩ := h
  exact List.ne_nil_of_mem ha
/-- By how much two blocks differ. -/
def difS (p : PairD) (x y : Nat) : Int × Int := hullOf ((pairOuts p (allR p)).map (difOf x y))
theorem difS_range (p : PairD) (hp : OkP p) (hne : pairOuts p (allR p) ≠ []) (x y : Nat) (hx : x < 6) (hy : y < 6) : -1000000000000 ≤ (difS p x y).1 ∧ (difS p x y).1 ≤ 1000000000000 ∧ -1000000000000 ≤ (difS p x y).2 ∧ (difS p x y).2 ≤ 1000000000000 := by
  obtain ⟨⟨a, ha, e1⟩, ⟨b, hb, e2⟩, _⟩ := hullOf_is ((pairOuts p (allR p)).map (difOf x y)) (by simpa using hne)
  have h1 : ∀ c ∈ (pairOuts p (allR p)).map (difOf x y), -1000000000000 ≤ c.1 ∧ c.1 ≤ 1000000000000 ∧ -1000000000000 ≤ c.2 ∧ c.2 ≤ 1000000000000 := by
    intro c hc
    obtain ⟨e, he, rfl⟩ := List.mem_map.1 hc
    have h2 := okTab_of p hp _ e he x y hx hy
    have h3 := okTab_of p hp _ e he y x hy hx
    unfold difOf
    simp only
    omega
  have := h1 a ha
  have := h1 b hb
  unfold difS
  omega
def widS (p : PairD) (x y : Nat) : Int := (difS p x y).2 - (difS p x y).1
def leastStep (p : PairD) (acc : Int × Int × Int) (k i : Nat) : Int × Int × Int :=
  if acc.2.2 < widS p k i ∨ (widS p k i = acc.2.2 ∧ (k : Int) < acc.1) then ((k : Int), (i : Int), widS p k i) else acc
def leastRow (p : PairD) (i : Nat) (acc : Int × Int × Int) : Nat → Int × Int × Int
  | 0 => acc
  | k + 1 => leastStep p (leastRow p i acc k) k i
def leastAll (p : PairD) : Nat → Int × Int × Int
  | 0 => (0, 0, -1)
  | i + 1 => leastRow p i (leastAll p i) i
/-- What Least returns. -/
def leastF (p : PairD) : (Int × Int × Int) × Int :=
  if validB p = false then ((0, 0, 0), 1) else if pairOuts p (allR p) = [] then ((0, 0, 0), 10) else if p.bs.length ≤ 1 then ((0, 0, 0), 4) else (leastAll p p.bs.length, 0)

theorem least_results (t1 t2 : Array Value) (h2 : t1.getD 2 undef = t2.getD 2 undef) (h3 : t1.getD 3 undef = t2.getD 3 undef) (h4 : t1.getD 4 undef = t2.getD 4 undef) (h5 : t1.getD 5 undef = t2.getD 5 undef) : results Try.f23 t1 = results Try.f23 t2 := by
  have : Try.f23.results = #[.tmp 2, .tmp 3, .tmp 4, .cell 5 30] := rfl
  unfold results
  rw [this]
  simp only [Array.getD_eq_getD_getElem?] at h2 h3 h4 h5
  simp [h2, h3, h4, h5]
theorem least_run (tmps : Array Value) (E : Nat) (x y z n : Int) (W : World) (h2 : tmps.getD 2 undef = .int .i64 x) (h3 : tmps.getD 3 undef = .int .i64 y) (h4 : tmps.getD 4 undef = .int .i64 z) (h5 : tmps.getD 5 undef = .pointer (some ⟨E, 0, none⟩))
    (he : W.heap[E]? = some (.cells #[.int .i64 n] 30 (0, 0))) :
    (results Try.f23 tmps).run Try.prog W = .ok (.tuple #[.int .i64 x, .int .i64 y, .int .i64 z, .int .i64 n]) W := by
  have e2 : W.cell? ⟨E, 0, none⟩ = some (.int .i64 n) := by rw [cell_of_row W _ _ _ _ _ he]; rfl
  rw [least_results tmps #[undef, undef, .int .i64 x, .int .i64 y, .int .i64 z, .pointer (some ⟨E, 0, none⟩)] h2 h3 h4 h5]
  simp [results, Try.results23, go_sem, e2]
theorem least_leaf (n : Int) (R : Ending → World → Prop) (E : Nat) (tmps : Array Value) (w5 : World) (h2 : tmps.getD 2 undef = .int .i64 0) (h3 : tmps.getD 3 undef = .int .i64 0) (h4 : tmps.getD 4 undef = .int .i64 0) (h5 : tmps.getD 5 undef = .pointer (some ⟨E, 0, none⟩))
    (he : w5.heap[E]? = some (.cells #[.int .i64 0] 30 (0, 0)))
    (hR : ∀ W', Keeps (fun k => k = E) w5 W' → R (.returned (.tuple #[.int .i64 0, .int .i64 0, .int .i64 0, .int .i64 n])) W') :
    Leaves Try.prog Try.f23 tmps R [{ target := .fn (.func 73) #[.pointer (some ⟨E, 0, none⟩)], args := #[] }] (.panicking [{ v := stopV n, recovered := false }]) w5 := by
  refine leaves_cons (f := 73) (args := #[.pointer (some ⟨E, 0, none⟩)]) (by simp) (by simp [go_sem, invoke]) ?_
  refine (catch_stop_least n E 0 w5 he).mono ?_
  rintro e u' w' ⟨rfl, rfl, hk, he'⟩
  exact ⟨_, least_run tmps E 0 0 0 n w' h2 h3 h4 h5 he', hR _ hk⟩
theorem least_leaf_ret (R : Ending → World → Prop) (E : Nat) (x y z : Int) (tmps : Array Value) (w5 : World) (h2 : tmps.getD 2 undef = .int .i64 x) (h3 : tmps.getD 3 undef = .int .i64 y) (h4 : tmps.getD 4 undef = .int .i64 z) (h5 : tmps.getD 5 undef = .pointer (some ⟨E, 0, none⟩))
    (he : w5.heap[E]? = some (.cells #[.int .i64 0] 30 (0, 0)))
    (hR : R (.returned (.tuple #[.int .i64 x, .int .i64 y, .int .i64 z, .int .i64 0])) w5) :
    Leaves Try.prog Try.f23 tmps R [{ target := .fn (.func 73) #[.pointer (some ⟨E, 0, none⟩)], args := #[] }] .returning w5 := by
  refine leaves_cons (f := 73) (args := #[.pointer (some ⟨E, 0, none⟩)]) (by simp) (by simp [go_sem, invoke]) ?_
  refine (catch_idle_least E w5).mono ?_
  rintro e u' w' ⟨rfl, rfl, rfl⟩
  exact ⟨_, least_run tmps E x y z 0 w' h2 h3 h4 h5 he, hR⟩

set_option maxRecDepth 100000 in
set_option maxHeartbeats 8000000 in
theorem leastp_any (p : PairD) (bs rs : Value) (Rd : Nat → Prop) (w : World) (hRd : ∀ k, Rd k → k < w.heap.size) (hbs : SpansAt w bs p.bs Rd) (hrs : ReadsAt w rs p.rs Rd) :
    Calls Try.prog 23 #[.agg (pairRow p bs rs)] w fun e w' => e = .returned (.tuple #[.int .i64 (leastF p).1.1, .int .i64 (leastF p).1.2.1, .int .i64 (leastF p).1.2.2, .int .i64 (leastF p).2]) ∧ Below w.heap.size w w' := by
  have hmf : ∀ fn first cap w, (Instr.makeFunc fn first cap).run Try.prog w = .ok (.func fn first cap) w := fun _ _ _ _ => rfl
  obtain ⟨r, hr⟩ : ∃ r, r = leastF p := ⟨_, rfl⟩
  rw [← hr]
  obtain ⟨W0, hW0⟩ : ∃ W0, W0 = (w.alloc (.cells (pairRow p bs rs) 27 (0, 0))).alloc (.cells #[.int .i64 0] 30 (0, 0)) := ⟨_, rfl⟩
  have w0 : W0.heap[w.heap.size]? = some (.cells (pairRow p bs rs) 27 (0, 0)) := by rw [hW0]; exact (by repeat (first | (refine heap_alloc_at _ _ _ ?_; (simp <;> omega); done) | (refine (hget_old _ _ _ ?_).trans ?_; · (simp <;> omega))))
  have w3 : W0.heap[w.heap.size + 1]? = some (.cells #[.int .i64 0] 30 (0, 0)) := by rw [hW0]; exact (by repeat (first | (refine heap_alloc_at _ _ _ ?_; (simp <;> omega); done) | (refine (hget_old _ _ _ ?_).trans ?_; · (simp <;> omega))))
  have hbW : Below w.heap.size w W0 := by rw [hW0]; exact ((Below.refl _ _).alloc (Nat.le_refl _) _).alloc (by simp) _
  have hsW : W0.heap.size = w.heap.size + 2 := by rw [hW0]; simp
  have hbsW : SpansAt W0 bs p.bs Rd := hbs.later (by omega) (fun k hk _ => hbW.block k hk)
  have hrsW : ReadsAt W0 rs p.rs Rd := hrs.later (by omega) (fun k hk _ => hbW.block k hk)
  have hf : validB p = true → ∀ W bp, Below W0.heap.size W0 W → W.heap[bp]? = some (benchObj bs rs p.zl p.zh p.rl p.rh (.map none)) → Calls Try.prog 67 (#[.pointer (some ⟨bp, 0, none⟩)] ++ #[]) W fun e W' => e = .returned (.bool true) ∧ W = W' := fun hv W bp hb hbp => always_any _ _
  have HF := Lib.hid hf
  have HBS := Lib.hid hbsW
  have HRS := Lib.hid hrsW
  have HB := Lib.hid hbW
  clear hf hbsW hrsW hbW hrs
  have c0 : W0.cell? ⟨w.heap.size, 0, none⟩ = some bs := by rw [cell_of_row W0 _ _ _ _ _ w0]; rfl
  have c1 : W0.cell? ⟨w.heap.size, 1, none⟩ = some (.int .i64 p.zl) := by rw [cell_of_row W0 _ _ _ _ _ w0]; rfl
  have c2 : W0.cell? ⟨w.heap.size, 2, none⟩ = some (.int .i64 p.zh) := by rw [cell_of_row W0 _ _ _ _ _ w0]; rfl
  have c3 : W0.cell? ⟨w.heap.size, 3, none⟩ = some (.int .i64 p.rl) := by rw [cell_of_row W0 _ _ _ _ _ w0]; rfl
  have c4 : W0.cell? ⟨w.heap.size, 4, none⟩ = some (.int .i64 p.rh) := by rw [cell_of_row W0 _ _ _ _ _ w0]; rfl
  have c5 : W0.cell? ⟨w.heap.size, 5, none⟩ = some rs := by rw [cell_of_row W0 _ _ _ _ _ w0]; rfl
  have eg := enters_of Try.func67 (by kernel_rfl) rfl
  have h3 := Lib.hid w3
  have h0 := Lib.hid w0
  clear w3 w0
  unfold pairRow at hW0 ⊢
  go_enter_defers Try.func23, Try.ntmps23
  go_wp2_with fail
  rw [← hW0]
  clear hW0
  cases hv : validB p with
  | false =>
    have hF : r = ((0, 0, 0), 1) := by rw [hr]; unfold leastF; rw [if_pos hv]
    refine (open_bad p bs rs Rd W0 (by exact HBS.out) (by exact HRS.out) 67 #[] true eg (by exact HF.out) hv).mono ?_
    rintro e w5 ⟨rfl, hb5⟩
    refine least_leaf 1 _ (w.heap.size + 1) _ w5 rfl rfl rfl rfl ((hb5.block _ (by omega)).trans h3.out) (fun W' hk => ⟨by rw [hF], ?_⟩)
    exact HB.out.trans ((hb5.mono (by omega)).trans (hk.below (by have := hb5.size; omega) (fun k h => by omega)))
  | true =>
    have hp := OkP.of p hv
    refine (open_yes p bs rs Rd W0 (by exact HBS.out) (by exact HRS.out) 67 #[] true eg (by exact HF.out) hv rfl).mono ?_
    rintro e w5 ⟨bp, rfl, hle, hbp, hb5⟩
    have hle5 : W0.heap.size ≤ w5.heap.size := hb5.size
    have hltb := lt_of_block hbp
    have HB5 := Lib.hid (HB.out.trans (hb5.mono (by omega)))
    have hbs5 : SpansAt w5 bs p.bs Rd := HBS.out.later hle5 (fun k hk _ => hb5.block k hk)
    have hrs5 : ReadsAt w5 rs p.rs Rd := HRS.out.later hle5 (fun k hk _ => hb5.block k hk)
    have HBP := Lib.hid hbp
    have HB5' := Lib.hid hb5
    clear hbp hb5
    go_wp2_with fail
    by_cases hne : pairOuts p (allR p) = []
    · have hF : r = ((0, 0, 0), 10) := by rw [hr]; unfold leastF; rw [if_neg (by simp [hv]), if_pos hne]
      refine (told_no p hp bp bs rs w5 HBP.out Rd (fun k hk => by have := hRd k hk; omega) hbs5 hrs5 hne).mono ?_
      rintro e w6 ⟨rfl, hb6⟩
      refine least_leaf 10 _ (w.heap.size + 1) _ w6 rfl rfl rfl rfl ((hb6.block _ (by omega) (by omega)).trans ((HB5'.out.block _ (by omega)).trans h3.out)) (fun W' hk => ⟨by rw [hF], ?_⟩)
      exact HB5.out.trans ((hb6.below (by omega) (fun k h => by omega)).trans (hk.below (by have := hb6.size; omega) (fun k h => by omega)))
    · refine (told_yes p hp bp bs rs w5 HBP.out Rd (fun k hk => by have := hRd k hk; omega) hbs5 hrs5 hne).mono ?_
      rintro e w6 ⟨rfl, ⟨mb, ht⟩, hb6⟩
      have hs6 := hb6.size
      have f0 := (hb6.block (w.heap.size) (by omega) (by omega)).trans ((HB5'.out.block _ (by omega)).trans h0.out)
      have f3 := (hb6.block (w.heap.size + 1) (by omega) (by omega)).trans ((HB5'.out.block _ (by omega)).trans h3.out)
      have HB6 := Lib.hid (HB5.out.trans (hb6.below (by omega) (fun k h => by omega)))
      have hbse := hbs
      obtain ⟨ao, cap, rfl, hc1, hc2, _⟩ := hbse
      clear c0 c1 c2 c3 c4 c5
      have c0 : w6.cell? ⟨w.heap.size, 0, none⟩ = some (.slice ao p.bs.length cap) := by rw [cell_of_row w6 _ _ _ _ _ f0]; rfl
      have F0 := Lib.hid f0
      have F3 := Lib.hid f3
      have HT := Lib.hid ht
      clear f0 f3 ht hb6
      by_cases h1 : p.bs.length ≤ 1
      · have hF : r = ((0, 0, 0), 4) := by rw [hr]; unfold leastF; rw [if_neg (by simp [hv]), if_neg hne, if_pos h1]
        have hd : decide ((1 : Int) < p.bs.length) = false := by simp; omega
        go_wp2_with fail
        refine (must_no 4 _).mono ?_
        rintro e w' ⟨rfl, rfl⟩
        refine least_leaf 4 _ (w.heap.size + 1) _ w6 rfl rfl rfl rfl F3.out (fun W' hk => ⟨by rw [hF], ?_⟩)
        exact HB6.out.trans (hk.below (by have := HB6.out.size; omega) (fun k h => by omega))
      · have hF : r = (leastAll p p.bs.length, 0) := by rw [hr]; unfold leastF; rw [if_neg (by simp [hv]), if_neg hne, if_neg h1]
        have hd : decide ((1 : Int) < p.bs.length) = true := by simp; omega
        go_wp2_with fail
        refine (must_ok 4 _).mono ?_
        rintro e w' ⟨rfl, rfl⟩
        clear hd
        go_wp2_with fail
        have h62 := HB6.out.size
        have hn5 := hp.n5
        go_loopw [7, 8, 9, 26] (fun a b c i wr => ∃ k : Nat, k ≤ p.bs.length ∧ i = .int .i64 k ∧ a = .int .i64 (leastAll p k).1 ∧ b = .int .i64 (leastAll p k).2.1 ∧ c = .int .i64 (leastAll p k).2.2 ∧ Below w6.heap.size w6 wr) (fun _ _ _ i _ => p.bs.length - (intOf i).toNat)
        case atStart => exact ⟨0, by omega, rfl, rfl, rfl, rfl, Below.refl _ _⟩
        case round =>
          obtain ⟨k, hk, rfl, rfl, rfl, rfl, hb⟩ := hrel
          have HBr := Lib.hid hb
          clear hb c0
          by_cases hlk : k < p.bs.length
          · go_wp2_with fail
            go_loopw [7, 8, 9, 30] (fun a b c i wr => ∃ m : Nat, m ≤ k ∧ i = .int .i64 m ∧ a = .int .i64 (leastRow p k (leastAll p k) m).1 ∧ b = .int .i64 (leastRow p k (leastAll p k) m).2.1 ∧ c = .int .i64 (leastRow p k (leastAll p k) m).2.2 ∧ Below w6.heap.size w6 wr) (fun _ _ _ i _ => k - (intOf i).toNat)
            case atStart => exact ⟨0, by omega, rfl, rfl, rfl, rfl, HBr.out⟩
            case round =>
              obtain ⟨m, hm, rfl, rfl, rfl, rfl, hb⟩ := hrel
              have HBm := Lib.hid hb
              clear hb
              have hst : leastRow p k (leastAll p k) (m + 1) = leastStep p (leastRow p k (leastAll p k) m) m k := rfl
              have HST := Lib.hid hst
              clear hst
              obtain ⟨acc, hacc⟩ : ∃ acc, acc = leastRow p k (leastAll p k) m := ⟨_, rfl⟩
              rw [← hacc]
              rw [← hacc] at HST
              have HA := Lib.hid hacc
              clear hacc
              obtain ⟨o1, o2, o3⟩ := acc
              by_cases hlm : m < k
              · go_wp2_with fail
                refine (differ_any p hp hne bp mb _ rs m k (by omega) (by omega) _ (HT.out.later HBm.out)).mono ?_
                rintro e w7 ⟨⟨⟨lo, hi⟩, hh, rfl⟩, hb7⟩
                have hrg := difS_range p hp hne m k (by omega) (by omega)
                have he : (lo, hi) = difS p m k := hh.eq
                have hw : widS p m k = hi - lo := by unfold widS; rw [← he]
                rw [← he] at hrg
                obtain ⟨r1, r2, r3, r4⟩ := hrg
                have hsub : IntKind.i64.wrap (hi - lo) = hi - lo := IntWalk.i64_in _ (by simp only at r1 r2 r3 r4; omega)
                have HB7 := Lib.hid (HBm.out.trans (hb7.mono HBm.out.size))
                have HW := Lib.hid hw
                have hs7 := HB7.out.size
                clear hb7 hh he hw r1 r2 r3 r4
                unfold spanV
                go_wp2
                all_goals refine ⟨⟨m + 1, by omega, by go_num, ?_, ?_, ?_, HB7.out.alloc (by omega) _⟩, by simp [intOf]; omega⟩
                all_goals rw [HST.out]
                all_goals unfold leastStep
                all_goals rw [HW.out]
                all_goals split
                all_goals rename_i hsp
                all_goals dsimp only at hsp ⊢
                all_goals first | rfl | (exfalso; omega) | (congr 1; omega)
              · obtain rfl : m = k := by omega
                have h1 : leastAll p (m + 1) = (o1, o2, o3) := HA.out.symm
                go_wp2
                exact ⟨⟨m + 1, by omega, by go_num, by rw [h1], by rw [h1], by rw [h1], HBm.out⟩, by simp [intOf]; omega⟩
          · obtain rfl : k = p.bs.length := by omega
            have k3 := (HBr.out.block (w.heap.size + 1) (by omega)).trans F3.out
            have d0 : wr.cell? ⟨w.heap.size + 1, 0, none⟩ = some (.int .i64 0) := by rw [cell_of_row wr _ _ _ _ _ k3]; rfl
            have d1 : ∀ j, wr.frozen? ⟨w.heap.size + 1, j, none⟩ = false := fun j => frozen_of_row _ _ _ _ _ k3
            have K3 := Lib.hid k3
            clear k3
            go_wp2
            obtain ⟨W9, hW9⟩ : ∃ W9, W9 = wr.setCell ⟨w.heap.size + 1, 0, none⟩ (.int .i64 0) := ⟨_, rfl⟩
            have l3 : W9.heap[w.heap.size + 1]? = some (.cells #[.int .i64 0] 30 (0, 0)) := by rw [hW9]; simp [World.setCell, Array.getElem?_modify, K3.out]
            have hb9 : Below w.heap.size w W9 := by rw [hW9]; exact (HB6.out.trans (HBr.out.mono (by omega))).setCell (by simp) _
            rw [← hW9]
            exact least_leaf_ret _ (w.heap.size + 1) _ _ _ _ W9 rfl rfl rfl rfl l3 ⟨by rw [hF], hb9⟩

end Go.Proofs.Ytlgeggekmdoceaa

/- How many are in a set. -/
namespace Go.Proofs.Ytlgeggekmdoceaa
set_option linter.unusedVariables false
set_option linter.unusedSimpArgs false
open Go.RowKit Go.Shelf
attribute [local go_sem] Oper.semAt_some

/-- How many numbers below 8 are in a set. -/
def ones (x : Nat) : Nat := ((List.range 8).filter x.testBit).length
set_option maxRecDepth 100000 in
set_option maxHeartbeats 8000000 in
theorem ones64_any (x : Nat) (hx : x < 256) (w : World) :
    Calls Try.prog 101 #[.int .u64 x] w fun e w' => e = .returned (.int .i64 (ones x)) ∧ w = w' := by
  go_enter Try.func101, Try.ntmps101
  go_wp2
  go_ret
  refine ⟨?_, rfl⟩
  refine congrArg (fun n => Ending.returned (Value.int .i64 n)) ?_
  obtain ⟨y, rfl⟩ : ∃ y : Fin 256, x = y.val := ⟨⟨x, hx⟩, rfl⟩
  clear hx
  revert y
  decide +kernel
set_option maxRecDepth 100000 in
theorem ones_any (x : Nat) (hx : x < 256) (w : World) :
    Calls Try.prog 82 #[.int .u64 x] w fun e w' => e = .returned (.int .i64 (ones x)) ∧ w = w' := by
  go_enter Try.func82, Try.ntmps82
  go_wp2_with (first | (go_at_call 101; refine (ones64_any x hx _).mono ?_; rintro e w' ⟨rfl, rfl⟩))
  go_ret
  exact ⟨rfl, rfl⟩

end Go.Proofs.Ytlgeggekmdoceaa
