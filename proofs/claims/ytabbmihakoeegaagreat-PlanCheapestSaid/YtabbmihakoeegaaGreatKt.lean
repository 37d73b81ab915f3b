/- Texts Qb, Qc in one file; each begins with a word on what it proves. -/
import Derived.Test.YtabbmihakoeegaaGreatKs
import Derived.Test.YtabbmihakoeegaaGreatKn

/- PlanCheapest, walked. -/
namespace Go.Proofs.YtabbmihakoeegaaGreat
set_option linter.unusedVariables false
set_option linter.unusedSimpArgs false
open Go.RowKit Go.Shelf
attribute [local go_sem] Oper.semAt_some

theorem cheap_cases {q : PlanD} (hv : validP q = true) :
    (truA q.pr = [] ∧ fewestV q = (0, 10) ∧ cheapestV q = ((0, 0), 10)) ∨
    (truA q.pr ≠ [] ∧ enoughV q (everyV q) = false ∧ fewestV q = (0, 4) ∧ cheapestV q = ((0, 0), 4)) ∨
    (truA q.pr ≠ [] ∧ enoughV q (everyV q) = true ∧ fewestV q = ((fewS q : Int), 0) ∧ cheapestV q = (((cheapSetV q : Int), costV q (cheapSetV q)), 0)) := by
  by_cases ht : truA q.pr = []
  · exact .inl ⟨ht, fewest_err (errE_no hv ht) (by decide), cheap_err (errE_no hv ht) (by decide)⟩
  · cases he : enoughV q (everyV q) with
    | false => exact .inr (.inl ⟨ht, rfl, fewest_err (errE_none hv ht he) (by decide), cheap_err (errE_none hv ht he) (by decide)⟩)
    | true => exact .inr (.inr ⟨ht, rfl, fewest_ok (errE_ok hv ht he), cheap_ok (errE_ok hv ht he)⟩)
set_option maxRecDepth 100000 in
set_option maxHeartbeats 8000000 in
theorem cheapl_any (q : PlanD) (bs rs ps : Value) (x : Int) (hx : 0 ≤ x ∧ x < 256) (w : World) (hpa : PlanAt w q bs rs ps) :
    Calls Tryz.prog 6 #[.agg (planRow q bs rs ps), .int .u8 x] w fun e w' => e = .returned (.bool true) ∧ Below w.heap.size w w' := by
  obtain ⟨aob, capb, hbv, _⟩ := id hpa.p.b
  obtain ⟨aor, capr, hrv, _⟩ := id hpa.p.r
  obtain ⟨aop, capp, hpv, _⟩ := id hpa.n
  subst hbv hrv hpv
  obtain ⟨W0, hW0⟩ : ∃ W0, W0 = w.alloc (.cells (planRow q (.slice aob q.pr.bs.length capb) (.slice aor q.pr.rs.length capr) (.slice aop q.prices.length capp)) 30 (0, 0)) := ⟨_, rfl⟩
  have hb0 : Below w.heap.size w W0 := by rw [hW0]; exact (Below.refl _ _).alloc (Nat.le_refl _) _
  have hr1 : W0.heap[w.heap.size]? = some (.cells (planRow q (.slice aob q.pr.bs.length capb) (.slice aor q.pr.rs.length capr) (.slice aop q.prices.length capp)) 30 (0, 0)) := by rw [hW0]; exact heap_alloc_at _ _ _ rfl
  have hsw : W0.heap.size = w.heap.size + 1 := by rw [hW0]; simp
  have HB0 := Lib.hid hb0
  have HR1 := Lib.hid hr1
  have HPA := Lib.hid (hpa.later hb0)
  have rows : ∀ W', Below W0.heap.size W0 W' → (W'.cell? ⟨w.heap.size, 0, none⟩ = some (.slice aob q.pr.bs.length capb) ∧ W'.cell? ⟨w.heap.size, 1, none⟩ = some (.int .i64 q.pr.zl) ∧ W'.cell? ⟨w.heap.size, 2, none⟩ = some (.int .i64 q.pr.zh) ∧
        W'.cell? ⟨w.heap.size, 3, none⟩ = some (.int .i64 q.pr.rl) ∧ W'.cell? ⟨w.heap.size, 4, none⟩ = some (.int .i64 q.pr.rh) ∧ W'.cell? ⟨w.heap.size, 5, none⟩ = some (.slice aor q.pr.rs.length capr) ∧ W'.cell? ⟨w.heap.size, 6, none⟩ = some (.int .i64 q.wide) ∧ W'.cell? ⟨w.heap.size, 7, none⟩ = some (.slice aop q.prices.length capp)) := fun W' hb => by
    have q1 := (hb.block w.heap.size (by omega)).trans hr1
    unfold planRow at q1
    refine ⟨?_, ?_, ?_, ?_, ?_, ?_, ?_, ?_⟩ <;> (rw [cell_of_row _ _ _ _ _ _ q1]; rfl)
  have ROWS := Lib.hid rows
  clear rows hb0 hr1 hpa
  unfold planRow at hW0 ⊢
  obtain ⟨c0, c1, c2, c3, c4, c5, c6, c7⟩ := ROWS.out W0 (Below.refl _ _)
  have HB1 : Hid (Below W0.heap.size W0 W0) := Lib.hid (Below.refl _ _)
  go_enter Tryz.func6, Tryz.ntmps6
  go_wp2_with fail
  rw [← hW0]
  clear hW0
  refine (fine8_any W0 HPA.out).mono ?_
  rintro e w1 ⟨rfl, hb⟩
  have HB2 := Lib.hid (HB1.out.trans (hb.mono HB1.out.size))
  clear hb
  try dsimp only
  clear c0 c1 c2 c3 c4 c5 c6 c7
  obtain ⟨c0, c1, c2, c3, c4, c5, c6, c7⟩ := ROWS.out w1 HB2.out
  cases hf : fineQ q with
  | false =>
    go_wp2_with fail
    refine (awake_any _).mono ?_
    rintro e vz ⟨rfl, hb⟩
    have HBZ := Lib.hid (HB2.out.trans (hb.mono HB2.out.size))
    clear hb
    try dsimp only
    go_wp2
    go_ret
    exact ⟨rfl, HB0.out.trans (HBZ.out.mono HB0.out.size)⟩
  | true =>
  have hv : validP q = true := by unfold fineQ at hf; rw [Bool.and_eq_true] at hf; exact hf.2
  have hq := OkQ.of hv
  have hm8 := hq.m8
  have h256 := hq.p256
  have hev := @everyV_lt q
  have HQ := Lib.hid hq
  have HV := Lib.hid hv
  clear hf hq
  rcases cheap_cases hv with ⟨ht, E1, E2⟩ | ⟨ht, hen, E1, E2⟩ | ⟨ht, hen, E1, E2⟩
  · have F1 := Lib.hid E1
    have F2 := Lib.hid E2
    clear ht E1 E2 hv
    go_wp2_with fail
    refine (cheapestV_any (HPA.out.later HB2.out)).mono ?_
    rintro e w2 ⟨he, hb⟩
    rw [F2.out] at he
    try dsimp only at he
    subst he
    have HB3 := Lib.hid (HB2.out.trans (hb.mono HB2.out.size))
    clear hb
    try dsimp only
    clear c0 c1 c2 c3 c4 c5 c6 c7
    obtain ⟨c0, c1, c2, c3, c4, c5, c6, c7⟩ := ROWS.out w2 HB3.out
    go_wp2_with fail
    refine (fewestV_any (HPA.out.later HB3.out)).mono ?_
    rintro e w3 ⟨he, hb⟩
    rw [F1.out] at he
    try dsimp only at he
    subst he
    have HB4 := Lib.hid (HB3.out.trans (hb.mono HB3.out.size))
    clear hb
    try dsimp only
    clear c0 c1 c2 c3 c4 c5 c6 c7
    obtain ⟨c0, c1, c2, c3, c4, c5, c6, c7⟩ := ROWS.out w3 HB4.out
    go_wp2_with fail
    refine (awake_any _).mono ?_
    rintro e vz ⟨rfl, hb⟩
    have HBZ := Lib.hid (HB4.out.trans (hb.mono HB4.out.size))
    clear hb
    try dsimp only
    go_wp2
    go_ret
    exact ⟨rfl, HB0.out.trans (HBZ.out.mono HB0.out.size)⟩
  · have F1 := Lib.hid E1
    have F2 := Lib.hid E2
    clear ht hen E1 E2 hv
    go_wp2_with fail
    refine (cheapestV_any (HPA.out.later HB2.out)).mono ?_
    rintro e w2 ⟨he, hb⟩
    rw [F2.out] at he
    try dsimp only at he
    subst he
    have HB3 := Lib.hid (HB2.out.trans (hb.mono HB2.out.size))
    clear hb
    try dsimp only
    clear c0 c1 c2 c3 c4 c5 c6 c7
    obtain ⟨c0, c1, c2, c3, c4, c5, c6, c7⟩ := ROWS.out w2 HB3.out
    go_wp2_with fail
    refine (fewestV_any (HPA.out.later HB3.out)).mono ?_
    rintro e w3 ⟨he, hb⟩
    rw [F1.out] at he
    try dsimp only at he
    subst he
    have HB4 := Lib.hid (HB3.out.trans (hb.mono HB3.out.size))
    clear hb
    try dsimp only
    clear c0 c1 c2 c3 c4 c5 c6 c7
    obtain ⟨c0, c1, c2, c3, c4, c5, c6, c7⟩ := ROWS.out w3 HB4.out
    go_wp2_with fail
    refine (awake_any _).mono ?_
    rintro e vz ⟨rfl, hb⟩
    have HBZ := Lib.hid (HB4.out.trans (hb.mono HB4.out.size))
    clear hb
    try dsimp only
    go_wp2
    go_ret
    exact ⟨rfl, HB0.out.trans (HBZ.out.mono HB0.out.size)⟩
  have hok := cheapS_ok (OkQ.of hv) ht hen
  have HEC := Lib.hid (fun (t : Nat) (h : t < 2 ^ q.prices.length) => enoughC_is hv ht h)
  obtain ⟨s, hs⟩ : ∃ s, s = cheapSetV q := ⟨_, rfl⟩
  obtain ⟨f, hf⟩ : ∃ s, s = fewS q := ⟨_, rfl⟩
  obtain ⟨ev, hevs⟩ : ∃ s, s = everyV q := ⟨_, rfl⟩
  rw [← hs, ← hf] at hok
  rw [← hf] at E1
  rw [← hs] at E2
  rw [← hevs] at hev
  obtain ⟨c, hc⟩ : ∃ c, c = costV q s := ⟨_, rfl⟩
  obtain ⟨cf, hcf⟩ : ∃ c, c = costV q f := ⟨_, rfl⟩
  rw [← hc] at E2
  have hslt := hok.lt
  have hflt := hok.flt
  have hfew := hok.few
  have hsize := hok.size
  rw [← hc, ← hcf] at hfew
  have F1 := Lib.hid E1
  have F2 := Lib.hid E2
  have HC := Lib.hid hc
  have HCF := Lib.hid hcf
  have HEVS := Lib.hid hevs
  have HES := Lib.hid ((HEC.out s hslt).trans hok.en)
  have g1 : ¬ (s : Int) < 0 := by omega
  have g2 : ¬ (ev : Int) < (s : Int) := by rw [hevs]; unfold everyV; omega
  have g2e : s ≤ ev := by omega
  have g1d : decide ((s : Int) < 0) = false := decide_eq_false g1
  have g2d : decide ((ev : Int) < (s : Int)) = false := decide_eq_false g2
  have g2n : decide (ev < s) = false := decide_eq_false (by omega)
  have f1 : ¬ (f : Int) < 0 := by omega
  have f2 : ¬ (ev : Int) < (f : Int) := by rw [hevs]; unfold everyV; omega
  have f2e : f ≤ ev := by omega
  have f1d : decide ((f : Int) < 0) = false := decide_eq_false f1
  have f2d : decide ((ev : Int) < (f : Int)) = false := decide_eq_false f2
  have f2n : decide (ev < f) = false := decide_eq_false (by omega)
  have k1 : ¬ cf < c := by omega
  have k1d : decide (cf < c) = false := decide_eq_false k1
  have k2 : ¬ (ones s : Int) < (ones f : Int) := by omega
  have k2d : decide ((ones s : Int) < (ones f : Int)) = false := decide_eq_false k2
  obtain ⟨xn, hxn⟩ : ∃ n : Nat, x = n := ⟨x.toNat, by omega⟩
  subst hxn
  have hxl : xn < 256 := by omega
  have hand := i64_and_nat xn ev hxl (by omega)
  have hwx : IntKind.i64.wrap (xn : Int) = (xn : Int) := IntWalk.i64_in _ (by omega)
  have hown : xn &&& ev < 2 ^ q.prices.length := Nat.lt_of_le_of_lt Nat.and_le_right hev
  obtain ⟨own, hown'⟩ : ∃ o, o = xn &&& ev := ⟨_, rfl⟩
  rw [← hown'] at hand hown
  obtain ⟨co, hco⟩ : ∃ c, c = costV q own := ⟨_, rfl⟩
  have hbest := hok.best own hown
  rw [← hc, ← hco] at hbest
  have HCO := Lib.hid hco
  have HBEST := Lib.hid hbest
  clear ht hen E1 E2 hv hok hs hf hevs hown' hc hcf hco hbest
  go_wp2_with fail
  refine (cheapestV_any (HPA.out.later HB2.out)).mono ?_
  rintro e w2 ⟨he, hb⟩
  rw [F2.out] at he
  try dsimp only at he
  subst he
  have HB3 := Lib.hid (HB2.out.trans (hb.mono HB2.out.size))
  clear hb
  try dsimp only
  clear c0 c1 c2 c3 c4 c5 c6 c7
  obtain ⟨c0, c1, c2, c3, c4, c5, c6, c7⟩ := ROWS.out w2 HB3.out
  go_wp2_with fail
  refine (fewestV_any (HPA.out.later HB3.out)).mono ?_
  rintro e w3 ⟨he, hb⟩
  rw [F1.out] at he
  try dsimp only at he
  subst he
  have HB4 := Lib.hid (HB3.out.trans (hb.mono HB3.out.size))
  clear hb
  try dsimp only
  clear c0 c1 c2 c3 c4 c5 c6 c7
  obtain ⟨c0, c1, c2, c3, c4, c5, c6, c7⟩ := ROWS.out w3 HB4.out
  go_wp2_with fail
  refine (every8_any HQ.out.m8 _ (HPA.out.later HB4.out)).mono ?_
  rintro e w4 ⟨rfl, hb⟩
  have HB5 := Lib.hid (HB4.out.trans (hb.mono HB4.out.size))
  clear hb
  try dsimp only
  rw [← HEVS.out]
  clear c0 c1 c2 c3 c4 c5 c6 c7
  obtain ⟨c0, c1, c2, c3, c4, c5, c6, c7⟩ := ROWS.out w4 HB5.out
  go_wp2_with fail
  refine (enough8_any _ _ (HPA.out.later HB5.out)).mono ?_
  rintro e w5 ⟨he, hb⟩
  rw [HES.out] at he
  try dsimp only at he
  subst he
  have HB6 := Lib.hid (HB5.out.trans (hb.mono HB5.out.size))
  clear hb
  try dsimp only
  clear c0 c1 c2 c3 c4 c5 c6 c7
  obtain ⟨c0, c1, c2, c3, c4, c5, c6, c7⟩ := ROWS.out w5 HB6.out
  go_wp2_with fail
  refine (price8_any HQ.out s (by omega) _ (HPA.out.later HB6.out)).mono ?_
  rintro e w6 ⟨he, hb⟩
  rw [← HC.out] at he
  try dsimp only at he
  subst he
  have HB7 := Lib.hid (HB6.out.trans (hb.mono HB6.out.size))
  clear hb
  try dsimp only
  clear c0 c1 c2 c3 c4 c5 c6 c7
  obtain ⟨c0, c1, c2, c3, c4, c5, c6, c7⟩ := ROWS.out w6 HB7.out
  go_wp2_with fail
  refine (price8_any HQ.out f (by omega) _ (HPA.out.later HB7.out)).mono ?_
  rintro e w7 ⟨he, hb⟩
  rw [← HCF.out] at he
  try dsimp only at he
  subst he
  have HB8 := Lib.hid (HB7.out.trans (hb.mono HB7.out.size))
  clear hb
  try dsimp only
  clear c0 c1 c2 c3 c4 c5 c6 c7
  obtain ⟨c0, c1, c2, c3, c4, c5, c6, c7⟩ := ROWS.out w7 HB8.out
  go_wp2_with fail
  refine (size8_any f (by omega) _).mono ?_
  rintro e wz ⟨rfl, rfl⟩
  try dsimp only
  go_wp2_with fail
  refine (size8_any s (by omega) _).mono ?_
  rintro e wz ⟨rfl, rfl⟩
  try dsimp only
  go_wp2_with fail
  cases heo : enoughV q own with
  | false =>
    have HEO := Lib.hid ((HEC.out own hown).trans heo)
    clear heo
    refine (enough8_any _ _ (HPA.out.later HB8.out)).mono ?_
    rintro e w8 ⟨he, hb⟩
    rw [HEO.out] at he
    try dsimp only at he
    subst he
    have HB9 := Lib.hid (HB8.out.trans (hb.mono HB8.out.size))
    clear hb
    try dsimp only
    clear c0 c1 c2 c3 c4 c5 c6 c7
    obtain ⟨c0, c1, c2, c3, c4, c5, c6, c7⟩ := ROWS.out w8 HB9.out
    go_wp2_with fail
    refine (awake_any _).mono ?_
    rintro e vz ⟨rfl, hb⟩
    have HBZ := Lib.hid (HB9.out.trans (hb.mono HB9.out.size))
    clear hb
    try dsimp only
    go_wp2
    go_ret
    exact ⟨rfl, HB0.out.trans (HBZ.out.mono HB0.out.size)⟩
  | true =>
  have HEO := Lib.hid ((HEC.out own hown).trans heo)
  have hb2 := HBEST.out heo
  clear heo
  refine (enough8_any _ _ (HPA.out.later HB8.out)).mono ?_
  rintro e w8 ⟨he, hb⟩
  rw [HEO.out] at he
  try dsimp only at he
  subst he
  have HB9 := Lib.hid (HB8.out.trans (hb.mono HB8.out.size))
  clear hb
  try dsimp only
  clear c0 c1 c2 c3 c4 c5 c6 c7
  obtain ⟨c0, c1, c2, c3, c4, c5, c6, c7⟩ := ROWS.out w8 HB9.out
  go_wp2_with fail
  by_cases h2 : c < co
  · clear hb2
    refine (price8_any HQ.out own (by omega) _ (HPA.out.later HB9.out)).mono ?_
    rintro e w9 ⟨he, hb⟩
    rw [← HCO.out] at he
    try dsimp only at he
    subst he
    have HBA := Lib.hid (HB9.out.trans (hb.mono HB9.out.size))
    clear hb
    try dsimp only
    clear c0 c1 c2 c3 c4 c5 c6 c7
    obtain ⟨c0, c1, c2, c3, c4, c5, c6, c7⟩ := ROWS.out w9 HBA.out
    go_wp2_with fail
    refine (awake_any _).mono ?_
    rintro e vz ⟨rfl, hb⟩
    have HBZ := Lib.hid (HBA.out.trans (hb.mono HBA.out.size))
    clear hb
    try dsimp only
    go_wp2
    go_ret
    exact ⟨rfl, HB0.out.trans (HBZ.out.mono HB0.out.size)⟩
  have h3 : co = c := by omega
  subst h3
  by_cases h4 : ones s < ones own
  · have h4i : (ones s : Int) < (ones own : Int) := by omega
    clear hb2 h4
    refine (price8_any HQ.out own (by omega) _ (HPA.out.later HB9.out)).mono ?_
    rintro e w9 ⟨he, hb⟩
    rw [← HCO.out] at he
    try dsimp only at he
    subst he
    have HBA := Lib.hid (HB9.out.trans (hb.mono HB9.out.size))
    clear hb
    try dsimp only
    clear c0 c1 c2 c3 c4 c5 c6 c7
    obtain ⟨c0, c1, c2, c3, c4, c5, c6, c7⟩ := ROWS.out w9 HBA.out
    go_wp2_with fail
    refine (size8_any own (by omega) _).mono ?_
    rintro e wz ⟨rfl, rfl⟩
    try dsimp only
    go_wp2_with fail
    refine (size8_any s (by omega) _).mono ?_
    rintro e wz ⟨rfl, rfl⟩
    try dsimp only
    go_wp2_with fail
    refine (awake_any _).mono ?_
    rintro e vz ⟨rfl, hb⟩
    have HBZ := Lib.hid (HBA.out.trans (hb.mono HBA.out.size))
    clear hb
    try dsimp only
    go_wp2
    go_ret
    exact ⟨rfl, HB0.out.trans (HBZ.out.mono HB0.out.size)⟩
  · have h4i : ¬ (ones s : Int) < (ones own : Int) := by omega
    have h5 : ones own = ones s := by omega
    have h6 : ¬ (own : Int) < (s : Int) := by omega
    have HO2 := Lib.hid h5
    clear hb2 h4 h5
    refine (price8_any HQ.out own (by omega) _ (HPA.out.later HB9.out)).mono ?_
    rintro e w9 ⟨he, hb⟩
    rw [← HCO.out] at he
    try dsimp only at he
    subst he
    have HBA := Lib.hid (HB9.out.trans (hb.mono HB9.out.size))
    clear hb
    try dsimp only
    clear c0 c1 c2 c3 c4 c5 c6 c7
    obtain ⟨c0, c1, c2, c3, c4, c5, c6, c7⟩ := ROWS.out w9 HBA.out
    go_wp2_with fail
    refine (size8_any own (by omega) _).mono ?_
    rintro e wz ⟨rfl, rfl⟩
    try dsimp only
    go_wp2_with fail
    rw [HO2.out]
    refine (size8_any s (by omega) _).mono ?_
    rintro e wz ⟨rfl, rfl⟩
    try dsimp only
    go_wp2_with fail
    refine (size8_any own (by omega) _).mono ?_
    rintro e wz ⟨rfl, rfl⟩
    try dsimp only
    go_wp2_with fail
    rw [HO2.out]
    refine (size8_any s (by omega) _).mono ?_
    rintro e wz ⟨rfl, rfl⟩
    try dsimp only
    go_wp2_with fail
    refine (awake_any _).mono ?_
    rintro e vz ⟨rfl, hb⟩
    have HBZ := Lib.hid (HBA.out.trans (hb.mono HBA.out.size))
    clear hb
    try dsimp only
    go_wp2
    go_ret
    exact ⟨rfl, HB0.out.trans (HBZ.out.mono HB0.out.size)⟩
end Go.Proofs.YtabbmihakoeegaaGreat

/- PlanCheapest: whatever the plan and the number: the law returns true. No conditions. -/
namespace Go.Proofs.YtabbmihakoeegaaGreat
set_option linter.unusedVariables false
set_option linter.unusedSimpArgs false
open Go.ChangeShapes Go.WideShapes Go.ChangeAt Go.RowKit

set_option maxRecDepth 100000 in
theorem planCheapest_lifted (os : Os) (started : os.Started) (H : Type) (enc : TypeId × Value → H) :
    ReturnsInHanded {} Tryz.checked os 6 .any (Rows.planCheapestSpec.pre6 enc Tryz.prog Tryz.f6 Rows.planCheapestRow.domain false) (Rows.planCheapestSpec.post enc Tryz.prog Tryz.f6 false true false false) := by
  refine returnsInHanded_of_change (C := Tryz.checked) own_knob started (by kernel_rfl) Tryz.func6
    (ChangeSpec.witness6 (enc := enc) (C := Tryz.checked) false ⟨#[], #[.agg #[.slice none 0 0, .int .i64 0, .int .i64 0, .int .i64 0, .int .i64 0, .slice none 0 0, .int .i64 0, .slice none 0 0], .int .u8 0], []⟩ 8 (by kernel_rfl) (by kernel_rfl) (by kernel_rfl) (by kernel_rfl)) ?_
  intro W base args ds gs before hval0 hW hcnd _
  have hval : ∀ (j : Nat) t v, Tryz.f6.params[j]? = some t → args[j]? = some v → Value.okWide Tryz.prog W .any base t v := hval0
  have hW' := hW
  obtain ⟨p, q, hA0, hV, rfl, hfz, hnd⟩ := hW
  have hA : DataW.TrodAll enc Tryz.prog W 0 (fun _ => true) true Tryz.f6.params.toList args.toList ds p := hA0
  rw [Tryz.params6] at hA hval
  obtain ⟨rfl, rfl⟩ := trodVars_none hV
  clear hA0 hval0
  simp only [List.append_nil] at hW'
  have hst := hA
  obtain ⟨v0, v1, d0, d1, p0, p1, rfl, rfl, rfl, h0, h1⟩ := trodAll_two hA
  obtain ⟨qd, bs, rs, pv, rfl, hpa⟩ := open_plan (hval 0 _ _ rfl rfl) h0
  obtain ⟨x, rfl, _, _, hx⟩ := Go.ChangeShapes.open_int under_u8 (hval 1 _ _ rfl rfl) h1
  refine (cheapl_any qd bs rs pv x (u8_range hx) W hpa).mono fun e W' ⟨he, hb⟩ => ?_
  subst he
  exact ⟨_, rfl, lawEnd hW' rfl hst rfl (by decide +kernel) rfl rfl hb⟩
theorem planCheapest_over : Rows.planCheapestRow.holds Tryz.pinned (OpenSpec.ofChange Rows.planCheapestSpec) :=
  OpenClaim.holds_of_wide 6 Tryz.f6 rfl rfl rfl rfl rfl rfl rfl ⟨rfl, rfl, rfl, rfl, rfl⟩ rfl rfl rfl rfl rfl (by kernel_rfl) Tryz.func6 (by kernel_rfl)
    (of_decide_eq_true (by kernel_rfl)) (by unfold Func.isWrapper; first | (rw [if_pos (by decide +kernel)]; kernel_rfl) | (rw [if_neg (by decide +kernel)]; exact ⟨rfl, rfl⟩))
    (fun os started H enc _ => planCheapest_lifted os started H enc)
/-- The statement. -/
theorem plan_cheapest : Rows.PlanCheapestSaid := planCheapest_over

end Go.Proofs.YtabbmihakoeegaaGreat
