/- Texts Yq, Yr in one file; each begins with a word on what it proves. -/
import Derived.Lib.MinMax
import Derived.Test.YtabbmihakoeegaaKn

/- PlanBest, walked. -/
namespace Go.Proofs.Ytabbmihakoeegaa
set_option linter.unusedVariables false
set_option linter.unusedSimpArgs false
open Go.RowKit Go.Shelf
attribute [local go_sem] Oper.semAt_some

theorem best_no {q : PlanD} (hv : validP q = true) (ht : truA q.pr = []) {m : Int} (h0 : 0 ≤ m) (h8 : m ≤ 8) : bestPlV q m = ((0, 0), 10) :=
  best_err (errP_no hv (by unfold inB; rw [decide_eq_true_eq]; omega) ht) (by decide)
theorem best_yes {q : PlanD} (hv : validP q = true) (ht : truA q.pr ≠ []) {m : Int} (h0 : 0 ≤ m) (h8 : m ≤ 8) : bestPlV q m = ((((bestPV q m).1 : Int), (bestPV q m).2), 0) :=
  bestPl_ok (errP_ok hv (by unfold inB; rw [decide_eq_true_eq]; omega) ht)
set_option maxRecDepth 100000 in
set_option maxHeartbeats 8000000 in
theorem bestl_any (q : PlanD) (bs rs ps : Value) (x y : Int) (hx : 0 ≤ x ∧ x < 256) (hy : 0 ≤ y ∧ y < 256) (w : World) (hpa : PlanAt w q bs rs ps) :
    Calls Try.prog 5 #[.agg (planRow q bs rs ps), .int .u8 x, .int .u8 y] w fun e w' => e = .returned (.bool true) ∧ Below w.heap.size w w' := by
  obtain ⟨aob, capb, hbv, _⟩ := id hpa.p.b
  obtain ⟨aor, capr, hrv, _⟩ := id hpa.p.r
  obtain ⟨aop, capp, hpv, _⟩ := id hpa.n
  subst hbv hrv hpv
  obtain ⟨W0, hW0⟩ : ∃ W0, W0 = w.alloc (.cells (planRow q (.slice aob q.pr.bs.length capb) (.slice aor q.pr.rs.length capr) (.slice aop q.prices.length capp)) 30 (0, 0)) := ⟨_, rfl⟩
  have hb0 : Below w.heap.size w W0 := by rw [hW0]; exact (Below.refl _ _).alloc (Nat.le_refl _) _
  have hr1 : W0.heap[w.heap.size]? = some (.cells (planRow q (.slice aob q.pr.bs.length capb) (.slice aor q.pr.rs.length capr) (.slice aop q.prices.length capp)) 30 (0, 0)) := by rw [hW0]; exact heap_alloc_at _ _ _ rfl
  have hsw : W0.heap.size = w.heap.size + 1 := by rw [hW0]; simp
  have HB0 := Lib.hid hb0
  have HR1 := Lib.hid hr1
  have HPA := Lib.hid (hpa.later hb0)
  have rows : ∀ W', Below W0.heap.size W0 W' → (W'.cell? ⟨w.heap.size, 0, none⟩ = some (.slice aob q.pr.bs.length capb) ∧ W'.cell? ⟨w.heap.size, 1, none⟩ = some (.int .i64 q.pr.zl) ∧ W'.cell? ⟨w.heap.size, 2, none⟩ = some (.int .i64 q.pr.zh) ∧
        W'.cell? ⟨w.heap.size, 3, none⟩ = some (.int .i64 q.pr.rl) ∧ W'.cell? ⟨w.heap.size, 4, none⟩ = some (.int .i64 q.pr.rh) ∧ W'.cell? ⟨w.heap.size, 5, none⟩ = some (.slice aor q.pr.rs.length capr) ∧ W'.cell? ⟨w.heap.size, 6, none⟩ = some (.int .i64 q.wide) ∧ W'.cell? ⟨w.heap.size, 7, none⟩ = some (.slice aop q.prices.length capp)) := fun W' hb => by
    have q1 := (hb.block w.heap.size (by omega)).trans hr1
    unfold planRow at q1
    refine ⟨?_, ?_, ?_, ?_, ?_, ?_, ?_, ?_⟩ <;> (rw [cell_of_row _ _ _ _ _ _ q1]; rfl)
  have ROWS := Lib.hid rows
  clear rows hb0 hr1 hpa
  unfold planRow at hW0 ⊢
  obtain ⟨c0, c1, c2, c3, c4, c5, c6, c7⟩ := ROWS.out W0 (Below.refl _ _)
  have HB1 : Hid (Below W0.heap.size W0 W0) := Lib.hid (Below.refl _ _)
  go_enter Try.func5, Try.ntmps5
  go_wp2_with fail
  rw [← hW0]
  clear hW0
  refine (fine8_any W0 HPA.out).mono ?_
  rintro e w1 ⟨rfl, hb⟩
  have HB2 := Lib.hid (HB1.out.trans (hb.mono HB1.out.size))
  clear hb
  try dsimp only
  clear c0 c1 c2 c3 c4 c5 c6 c7
  obtain ⟨c0, c1, c2, c3, c4, c5, c6, c7⟩ := ROWS.out w1 HB2.out
  cases hf : fineQ q with
  | false =>
    go_wp2_with fail
    refine (awake_any _).mono ?_
    rintro e vz ⟨rfl, hb⟩
    have HBZ := Lib.hid (HB2.out.trans (hb.mono HB2.out.size))
    clear hb
    try dsimp only
    go_wp2
    go_ret
    exact ⟨rfl, HB0.out.trans (HBZ.out.mono HB0.out.size)⟩
  | true =>
  have hv : validP q = true := by unfold fineQ at hf; rw [Bool.and_eq_true] at hf; exact hf.2
  have hq := OkQ.of hv
  have hm8 := hq.m8
  have h256 := hq.p256
  have hev := @everyV_lt q
  have HQ := Lib.hid hq
  have HV := Lib.hid hv
  clear hf hq
  obtain ⟨m, hm⟩ : ∃ m, x % 9 = m := ⟨_, rfl⟩
  have hm0 : 0 ≤ m := by omega
  have hm9 : m ≤ 8 := by omega
  have hwx : IntKind.i64.wrap x = x := IntWalk.i64_in _ (by omega)
  by_cases ht : truA q.pr = []
  · have F1 := Lib.hid (best_no hv ht hm0 hm9)
    have F2 : Hid (blocksV q 0 = ((0, 0), 10)) := Lib.hid (blocks_no hv ht (Nat.two_pow_pos _))
    clear ht hv
    go_wp2_with fail
    refine (bestPlV_any m (HPA.out.later HB2.out)).mono ?_
    rintro e w2 ⟨he, hb⟩
    rw [F1.out] at he
    try dsimp only at he
    subst he
    have HB3 := Lib.hid (HB2.out.trans (hb.mono HB2.out.size))
    clear hb
    try dsimp only
    clear c0 c1 c2 c3 c4 c5 c6 c7
    obtain ⟨c0, c1, c2, c3, c4, c5, c6, c7⟩ := ROWS.out w2 HB3.out
    go_wp2_with fail
    refine (blocksV_any 0 (HPA.out.later HB3.out)).mono ?_
    rintro e w3 ⟨he, hb⟩
    rw [F2.out] at he
    try dsimp only at he
    subst he
    have HB4 := Lib.hid (HB3.out.trans (hb.mono HB3.out.size))
    clear hb
    try dsimp only
    clear c0 c1 c2 c3 c4 c5 c6 c7
    obtain ⟨c0, c1, c2, c3, c4, c5, c6, c7⟩ := ROWS.out w3 HB4.out
    go_wp2_with fail
    refine (awake_any _).mono ?_
    rintro e vz ⟨rfl, hb⟩
    have HBZ := Lib.hid (HB4.out.trans (hb.mono HB4.out.size))
    clear hb
    try dsimp only
    go_wp2
    go_ret
    exact ⟨rfl, HB0.out.trans (HBZ.out.mono HB0.out.size)⟩
  have hok := best_ok (OkQ.of hv) ht hm0 hm9
  have E1 := best_yes hv ht hm0 hm9
  have E2 := blocks_set hv ht (s := 0) (Nat.two_pow_pos _)
  have E3 := best_yes hv ht (m := min 8 (m + 1)) (by omega) (by omega)
  have E4 := best_yes hv ht (m := 8) (by omega) (by omega)
  have HEV : Hid (∀ s : Nat, s < 2 ^ q.prices.length → blocksV q (s : Int) = ((((setN (fun b => decide (widB q.pr s b ≤ q.wide)) q.pr.bs.length : Nat) : Int), widestV q.pr s), 0)) := Lib.hid fun s hs => blocks_set hv ht hs
  obtain ⟨s, hs⟩ : ∃ s, s = (bestPV q m).1 := ⟨_, rfl⟩
  obtain ⟨wd, hwd⟩ : ∃ s, s = (bestPV q m).2 := ⟨_, rfl⟩
  obtain ⟨s2, hs2⟩ : ∃ s, s = (bestPV q (min 8 (m + 1))).1 := ⟨_, rfl⟩
  obtain ⟨le, hle⟩ : ∃ s, s = (bestPV q (min 8 (m + 1))).2 := ⟨_, rfl⟩
  obtain ⟨s3, hs3⟩ : ∃ s, s = (bestPV q 8).1 := ⟨_, rfl⟩
  obtain ⟨al, hal⟩ : ∃ s, s = (bestPV q 8).2 := ⟨_, rfl⟩
  obtain ⟨ev, hevs⟩ : ∃ s, s = everyV q := ⟨_, rfl⟩
  rw [← hs, ← hwd, ← hle, ← hal] at hok
  rw [← hs, ← hwd] at E1
  rw [← hs2, ← hle] at E3
  rw [← hs3, ← hal] at E4
  have hslt := hok.lt
  have E5 := HEV.out s hslt
  have E6 := HEV.out (everyV q) hev
  rw [hok.own] at E5
  rw [hok.all] at E6
  rw [← hevs] at hev E6
  have hsz := hok.size
  have hlw := hok.least
  have HOK := Lib.hid hok
  obtain ⟨b5, hb5⟩ : ∃ x, x = setN (fun b => decide (widB q.pr s b ≤ q.wide)) q.pr.bs.length := ⟨_, rfl⟩
  obtain ⟨b6, hb6⟩ : ∃ x, x = setN (fun b => decide (widB q.pr ev b ≤ q.wide)) q.pr.bs.length := ⟨_, rfl⟩
  obtain ⟨b2, hb2⟩ : ∃ x, x = setN (fun b => decide (widB q.pr 0 b ≤ q.wide)) q.pr.bs.length := ⟨_, rfl⟩
  obtain ⟨w20, hw20⟩ : ∃ x, x = widestV q.pr 0 := ⟨_, rfl⟩
  rw [← hb5] at E5
  rw [← hb6] at E6
  rw [← hb2, ← hw20] at E2
  have E2' : blocksV q 0 = (((b2 : Int), w20), 0) := E2
  have F1 := Lib.hid E1
  have F2 := Lib.hid E2'
  have F3 := Lib.hid E3
  have F4 := Lib.hid E4
  have F5 := Lib.hid E5
  have F6 := Lib.hid E6
  have HEVS := Lib.hid hevs
  have g1 : ¬ (s : Int) < 0 := by omega
  have g2 : ¬ (ev : Int) < (s : Int) := by rw [hevs]; unfold everyV; omega
  have g2e : s ≤ ev := by omega
  have g1d : decide ((s : Int) < 0) = false := decide_eq_false g1
  have g2d : decide ((ev : Int) < (s : Int)) = false := decide_eq_false g2
  have g2n : decide (ev < s) = false := decide_eq_false (by omega)
  have g3 : ¬ m < (ones s : Int) := by omega
  have g4 : ¬ wd < le := by omega
  have hwm : IntKind.i64.wrap (m + 1) = m + 1 := IntWalk.i64_in _ (by omega)
  obtain ⟨yn, hyn⟩ : ∃ n : Nat, y = n := ⟨y.toNat, by omega⟩
  subst hyn
  have hyl : yn < 256 := by omega
  have hand := i64_and_nat yn ev hyl (by omega)
  have hwy : IntKind.i64.wrap (yn : Int) = (yn : Int) := IntWalk.i64_in _ (by omega)
  have hown : yn &&& ev < 2 ^ q.prices.length := Nat.lt_of_le_of_lt Nat.and_le_right hev
  obtain ⟨own, hown'⟩ : ∃ o, o = yn &&& ev := ⟨_, rfl⟩
  rw [← hown'] at hand hown
  have hbest := hok.best own hown
  have E7 := HEV.out own hown
  obtain ⟨b7, hb7⟩ : ∃ x, x = setN (fun b => decide (widB q.pr own b ≤ q.wide)) q.pr.bs.length := ⟨_, rfl⟩
  obtain ⟨wo, hwo⟩ : ∃ x, x = widestV q.pr own := ⟨_, rfl⟩
  rw [← hwo] at hbest
  rw [← hb7, ← hwo] at E7
  have F7 := Lib.hid E7
  have HBEST := Lib.hid hbest
  clear E1 E2 E2' E3 E4 E5 E6 E7 hok hs hwd hs2 hle hs3 hal hevs hb5 hb6 hb2 hw20 hb7 hwo hown' ht hv hbest
  go_wp2_with fail
  refine (bestPlV_any m (HPA.out.later HB2.out)).mono ?_
  rintro e w2 ⟨he, hb⟩
  rw [F1.out] at he
  try dsimp only at he
  subst he
  have HB3 := Lib.hid (HB2.out.trans (hb.mono HB2.out.size))
  clear hb
  try dsimp only
  clear c0 c1 c2 c3 c4 c5 c6 c7
  obtain ⟨c0, c1, c2, c3, c4, c5, c6, c7⟩ := ROWS.out w2 HB3.out
  go_wp2_with fail
  refine (blocksV_any 0 (HPA.out.later HB3.out)).mono ?_
  rintro e w3 ⟨he, hb⟩
  rw [F2.out] at he
  try dsimp only at he
  subst he
  have HB4 := Lib.hid (HB3.out.trans (hb.mono HB3.out.size))
  clear hb
  try dsimp only
  clear c0 c1 c2 c3 c4 c5 c6 c7
  obtain ⟨c0, c1, c2, c3, c4, c5, c6, c7⟩ := ROWS.out w3 HB4.out
  go_wp2_with fail
  refine (every8_any HQ.out.m8 _ (HPA.out.later HB4.out)).mono ?_
  rintro e w4 ⟨rfl, hb⟩
  have HB5 := Lib.hid (HB4.out.trans (hb.mono HB4.out.size))
  clear hb
  try dsimp only
  rw [← HEVS.out]
  clear c0 c1 c2 c3 c4 c5 c6 c7
  obtain ⟨c0, c1, c2, c3, c4, c5, c6, c7⟩ := ROWS.out w4 HB5.out
  go_wp2_with fail
  refine (size8_any s (by omega) _).mono ?_
  rintro e wz ⟨rfl, rfl⟩
  try dsimp only
  go_wp2_with fail
  refine (blocksV_any s (HPA.out.later HB5.out)).mono ?_
  rintro e w5 ⟨he, hb⟩
  rw [F5.out] at he
  try dsimp only at he
  subst he
  have HB6 := Lib.hid (HB5.out.trans (hb.mono HB5.out.size))
  clear hb
  try dsimp only
  clear c0 c1 c2 c3 c4 c5 c6 c7
  obtain ⟨c0, c1, c2, c3, c4, c5, c6, c7⟩ := ROWS.out w5 HB6.out
  go_wp2_with fail
  refine (bestPlV_any _ (HPA.out.later HB6.out)).mono ?_
  rintro e w6 ⟨he, hb⟩
  rw [F3.out] at he
  try dsimp only at he
  subst he
  have HB7 := Lib.hid (HB6.out.trans (hb.mono HB6.out.size))
  clear hb
  try dsimp only
  clear c0 c1 c2 c3 c4 c5 c6 c7
  obtain ⟨c0, c1, c2, c3, c4, c5, c6, c7⟩ := ROWS.out w6 HB7.out
  go_wp2_with fail
  refine (blocksV_any ev (HPA.out.later HB7.out)).mono ?_
  rintro e w7 ⟨he, hb⟩
  rw [F6.out] at he
  try dsimp only at he
  subst he
  have HB8 := Lib.hid (HB7.out.trans (hb.mono HB7.out.size))
  clear hb
  try dsimp only
  clear c0 c1 c2 c3 c4 c5 c6 c7
  obtain ⟨c0, c1, c2, c3, c4, c5, c6, c7⟩ := ROWS.out w7 HB8.out
  go_wp2_with fail
  refine (bestPlV_any 8 (HPA.out.later HB8.out)).mono ?_
  rintro e w8 ⟨he, hb⟩
  rw [F4.out] at he
  try dsimp only at he
  subst he
  have HB9 := Lib.hid (HB8.out.trans (hb.mono HB8.out.size))
  clear hb
  try dsimp only
  clear c0 c1 c2 c3 c4 c5 c6 c7
  obtain ⟨c0, c1, c2, c3, c4, c5, c6, c7⟩ := ROWS.out w8 HB9.out
  go_wp2_with fail
  by_cases h1 : (ones own : Int) ≤ m
  case neg =>
    have h1' : m < (ones own : Int) := by omega
    clear h1
    refine (size8_any own (by omega) _).mono ?_
    rintro e wz ⟨rfl, rfl⟩
    try dsimp only
    go_wp2_with fail
    refine (awake_any _).mono ?_
    rintro e vz ⟨rfl, hb⟩
    have HBZ := Lib.hid (HB9.out.trans (hb.mono HB9.out.size))
    clear hb
    try dsimp only
    go_wp2
    go_ret
    exact ⟨rfl, HB0.out.trans (HBZ.out.mono HB0.out.size)⟩
  have h1' : ¬ m < (ones own : Int) := by omega
  have hb2 := HBEST.out h1
  clear h1
  refine (size8_any own (by omega) _).mono ?_
  rintro e wz ⟨rfl, rfl⟩
  try dsimp only
  go_wp2_with fail
  by_cases h2 : wd < wo
  · clear hb2
    refine (blocksV_any own (HPA.out.later HB9.out)).mono ?_
    rintro e w9 ⟨he, hb⟩
    rw [F7.out] at he
    try dsimp only at he
    subst he
    have HBA := Lib.hid (HB9.out.trans (hb.mono HB9.out.size))
    clear hb
    try dsimp only
    clear c0 c1 c2 c3 c4 c5 c6 c7
    obtain ⟨c0, c1, c2, c3, c4, c5, c6, c7⟩ := ROWS.out w9 HBA.out
    go_wp2_with fail
    refine (awake_any _).mono ?_
    rintro e vz ⟨rfl, hb⟩
    have HBZ := Lib.hid (HBA.out.trans (hb.mono HBA.out.size))
    clear hb
    try dsimp only
    go_wp2
    go_ret
    exact ⟨rfl, HB0.out.trans (HBZ.out.mono HB0.out.size)⟩
  have h3 : wo = wd := by omega
  subst h3
  by_cases h4 : ones s < ones own
  · have h4i : (ones s : Int) < (ones own : Int) := by omega
    clear hb2 h4
    refine (blocksV_any own (HPA.out.later HB9.out)).mono ?_
    rintro e w9 ⟨he, hb⟩
    rw [F7.out] at he
    try dsimp only at he
    subst he
    have HBA := Lib.hid (HB9.out.trans (hb.mono HB9.out.size))
    clear hb
    try dsimp only
    clear c0 c1 c2 c3 c4 c5 c6 c7
    obtain ⟨c0, c1, c2, c3, c4, c5, c6, c7⟩ := ROWS.out w9 HBA.out
    go_wp2_with fail
    refine (size8_any own (by omega) _).mono ?_
    rintro e wz ⟨rfl, rfl⟩
    try dsimp only
    go_wp2_with fail
    refine (size8_any s (by omega) _).mono ?_
    rintro e wz ⟨rfl, rfl⟩
    try dsimp only
    go_wp2_with fail
    refine (awake_any _).mono ?_
    rintro e vz ⟨rfl, hb⟩
    have HBZ := Lib.hid (HBA.out.trans (hb.mono HBA.out.size))
    clear hb
    try dsimp only
    go_wp2
    go_ret
    exact ⟨rfl, HB0.out.trans (HBZ.out.mono HB0.out.size)⟩
  · have h4i : ¬ (ones s : Int) < (ones own : Int) := by omega
    have h5 : ones own = ones s := by omega
    have h6 : ¬ (own : Int) < (s : Int) := by omega
    have HO2 := Lib.hid h5
    clear hb2 h4 h5
    refine (blocksV_any own (HPA.out.later HB9.out)).mono ?_
    rintro e w9 ⟨he, hb⟩
    rw [F7.out] at he
    try dsimp only at he
    subst he
    have HBA := Lib.hid (HB9.out.trans (hb.mono HB9.out.size))
    clear hb
    try dsimp only
    clear c0 c1 c2 c3 c4 c5 c6 c7
    obtain ⟨c0, c1, c2, c3, c4, c5, c6, c7⟩ := ROWS.out w9 HBA.out
    go_wp2_with fail
    refine (size8_any own (by omega) _).mono ?_
    rintro e wz ⟨rfl, rfl⟩
    try dsimp only
    go_wp2_with fail
    rw [HO2.out]
    refine (size8_any s (by omega) _).mono ?_
    rintro e wz ⟨rfl, rfl⟩
    try dsimp only
    go_wp2_with fail
    refine (size8_any own (by omega) _).mono ?_
    rintro e wz ⟨rfl, rfl⟩
    try dsimp only
    go_wp2_with fail
    rw [HO2.out]
    refine (size8_any s (by omega) _).mono ?_
    rintro e wz ⟨rfl, rfl⟩
    try dsimp only
    go_wp2_with fail
    refine (awake_any _).mono ?_
    rintro e vz ⟨rfl, hb⟩
    have HBZ := Lib.hid (HBA.out.trans (hb.mono HBA.out.size))
    clear hb
    try dsimp only
    go_wp2
    go_ret
    exact ⟨rfl, HB0.out.trans (HBZ.out.mono HB0.out.size)⟩
end Go.Proofs.Ytabbmihakoeegaa

/- PlanBest: whatever the plan and the numbers: the law returns true. No conditions. -/
namespace Go.Proofs.Ytabbmihakoeegaa
set_option linter.unusedVariables false
set_option linter.unusedSimpArgs false
open Go.ChangeShapes Go.WideShapes Go.ChangeAt Go.RowKit

set_option maxRecDepth 100000 in
theorem planBest_lifted (os : Os) (started : os.Started) (H : Type) (enc : TypeId × Value → H) :
    ReturnsInHanded {} Try.checked os 5 .any (Rows.planBestSpec.pre6 enc Try.prog Try.f5 Rows.planBestRow.domain false) (Rows.planBestSpec.post enc Try.prog Try.f5 false true false false) := by
  refine returnsInHanded_of_change (C := Try.checked) own_knob started (by kernel_rfl) Try.func5
    (ChangeSpec.witness6 (enc := enc) (C := Try.checked) false ⟨#[], #[.agg #[.slice none 0 0, .int .i64 0, .int .i64 0, .int .i64 0, .int .i64 0, .slice none 0 0, .int .i64 0, .slice none 0 0], .int .u8 0, .int .u8 0], []⟩ 8 (by kernel_rfl) (by kernel_rfl) (by kernel_rfl) (by kernel_rfl)) ?_
  intro W base args ds gs before hval0 hW hcnd _
  have hval : ∀ (j : Nat) t v, Try.f5.params[j]? = some t → args[j]? = some v → Value.okWide Try.prog W .any base t v := hval0
  have hW' := hW
  obtain ⟨p, q, hA0, hV, rfl, hfz, hnd⟩ := hW
  have hA : DataW.TrodAll enc Try.prog W 0 (fun _ => true) true Try.f5.params.toList args.toList ds p := hA0
  rw [Try.params5] at hA hval
  obtain ⟨rfl, rfl⟩ := trodVars_none hV
  clear hA0 hval0
  simp only [List.append_nil] at hW'
  have hst := hA
  obtain ⟨v0, v1, v2, d0, d1, d2, p0, p1, p2, rfl, rfl, rfl, h0, h1, h2⟩ := trodAll_three hA
  obtain ⟨qd, bs, rs, pv, rfl, hpa⟩ := open_plan (hval 0 _ _ rfl rfl) h0
  obtain ⟨x, rfl, _, _, hx⟩ := Go.ChangeShapes.open_int under_u8 (hval 1 _ _ rfl rfl) h1
  obtain ⟨y, rfl, _, _, hy⟩ := Go.ChangeShapes.open_int under_u8 (hval 2 _ _ rfl rfl) h2
  refine (bestl_any qd bs rs pv x y (u8_range hx) (u8_range hy) W hpa).mono fun e W' ⟨he, hb⟩ => ?_
  subst he
  exact ⟨_, rfl, lawEnd hW' rfl hst rfl (by decide +kernel) rfl rfl hb⟩
theorem planBest_over : Rows.planBestRow.holds Try.pinned (OpenSpec.ofChange Rows.planBestSpec) :=
  OpenClaim.holds_of_wide 5 Try.f5 rfl rfl rfl rfl rfl rfl rfl ⟨rfl, rfl, rfl, rfl, rfl⟩ rfl rfl rfl rfl rfl (by kernel_rfl) Try.func5 (by kernel_rfl)
    (of_decide_eq_true (by kernel_rfl)) (by unfold Func.isWrapper; first | (rw [if_pos (by decide +kernel)]; kernel_rfl) | (rw [if_neg (by decide +kernel)]; exact ⟨rfl, rfl⟩))
    (fun os started H enc _ => planBest_lifted os started H enc)
/-- The statement. -/
theorem plan_best : Rows.PlanBestSaid := planBest_over

end Go.Proofs.Ytabbmihakoeegaa
