/- Texts Yu, Yw, Yv in one file; each begins with a word on what it proves. -/
import Derived.Lib.MinMax
import Derived.Test.YtabbmihakoeegaaKn

/- PlanBlocks (plain). -/
namespace Go.Proofs.Ytabbmihakoeegaa
set_option linter.unusedVariables false
set_option linter.unusedSimpArgs false
open Go.RowKit Go.Shelf
attribute [local go_sem] Oper.semAt_some

/-! ### plain -/
def wK (p : PairD) (s : Nat) : Nat → Int
  | 0 => 0
  | k + 1 => max (wK p s k) (widB p s k)
theorem wK_le {p : PairD} {s : Nat} {w : Int} : ∀ k, wK p s k ≤ w ↔ 0 ≤ w ∧ ∀ b, b < k → widB p s b ≤ w
  | 0 => ⟨fun h => ⟨h, fun b hb => absurd hb (Nat.not_lt_zero _)⟩, fun h => h.1⟩
  | k + 1 => by
    have ih := wK_le (p := p) (s := s) (w := w) k
    unfold wK
    constructor
    · intro h
      have h1 := ih.1 (by omega)
      exact ⟨h1.1, fun b hb => by
        by_cases e : b = k
        · subst e; omega
        · exact h1.2 b (by omega)⟩
    · intro h
      have h1 := ih.2 ⟨h.1, fun b hb => h.2 b (by omega)⟩
      have h2 := h.2 k (by omega)
      omega
theorem wK_end {q : PlanD} (hq : OkQ q) (ht : truA q.pr ≠ []) (s : Nat) : wK q.pr s q.pr.bs.length = widestV q.pr s := by
  have hp := OkP.of _ hq.pr
  have h5 := hp.n5
  have h1 := hp.n1
  refine Int.le_antisymm ((wK_le _).2 ⟨?_, fun b hb => ?_⟩) (widest_le.2 fun b hb => ?_)
  · exact Int.le_trans (widB_40 hq.pr s 0 (truA_of_every hq ht s)).1 (widest_le.1 (Int.le_refl _) 0 (by omega))
  · exact widest_le.1 (Int.le_refl _) b (by omega)
  · have h2 := (wK_le (p := q.pr) (s := s) (w := wK q.pr s q.pr.bs.length) q.pr.bs.length).1 (Int.le_refl _)
    by_cases hb2 : b < q.pr.bs.length
    · exact h2.2 b hb2
    · unfold widB
      rw [if_neg hb2]
      exact h2.1
theorem wK_80 {q : PlanD} (hq : OkQ q) (ht : truA q.pr ≠ []) (s k : Nat) : wK q.pr s k ≤ 80 :=
  (wK_le k).2 ⟨by decide, fun b _ => (widB_40 hq.pr s b (truA_of_every hq ht s)).2⟩
theorem wK_pos (p : PairD) (s : Nat) : ∀ k, 0 ≤ wK p s k
  | 0 => Int.le_refl _
  | k + 1 => by have := wK_pos p s k; unfold wK; omega
theorem or_i64 : ∀ n : Fin 8, ∀ s : Fin 256, bits BinOp.or IntKind.i64 (s.val : Int) (wrap64 (2 ^ n.val)) = ((s.val ||| 2 ^ n.val : Nat) : Int) := by decide +kernel
def wellS (q : PlanD) (s i : Nat) : Nat := setN (fun b => decide (widB q.pr s b ≤ q.wide)) i
theorem well_sub {q : PlanD} (hq : OkQ q) (ht : truA q.pr ≠ []) {s t : Nat} (h : Sub q.pr s t) : bits BinOp.andNot IntKind.i64 (wellS q s q.pr.bs.length : Int) (wellS q t q.pr.bs.length : Int) = 0 := by
  have h5 := (OkP.of _ hq.pr).n5
  have h1 := setN_lt (fun b => decide (widB q.pr s b ≤ q.wide)) q.pr.bs.length
  have h2 := setN_lt (fun b => decide (widB q.pr t b ≤ q.wide)) q.pr.bs.length
  have h3 : 2 ^ q.pr.bs.length ≤ 2 ^ 5 := Nat.pow_le_pow_right (by decide) h5
  refine andNot_and ⟨wellS q s q.pr.bs.length, by unfold wellS; omega⟩ ⟨wellS q t q.pr.bs.length, by unfold wellS; omega⟩ (andNot_sub ⟨q.pr.bs.length, by omega⟩ _ _ h1 h2 fun i hi hb => ?_)
  unfold wellS at hb ⊢
  rw [testBit_setN, Bool.and_eq_true, decide_eq_true_eq] at hb ⊢
  refine ⟨hb.1, ?_⟩
  have h4 := widB_mono hq.pr h (truA_of_every hq ht t) i
  have h5 := hb.2
  rw [decide_eq_true_eq] at h5 ⊢
  omega
theorem blocks_range {q : PlanD} (hv : validP q = true) {n : Int} (h : n < 0 ∨ (everyV q : Int) < n) : blocksV q n = ((0, 0), 2) :=
  blocks_err (errP_range hv (by unfold isSetV inB; rw [decide_eq_false_iff_not]; omega)) (by decide)
theorem best_range {q : PlanD} (hv : validP q = true) : bestPlV q 9 = ((0, 0), 2) := best_err (errP_range hv (by decide)) (by decide)
end Go.Proofs.Ytabbmihakoeegaa

/- PlanBlocks, walked. -/
namespace Go.Proofs.Ytabbmihakoeegaa
set_option linter.unusedVariables false
set_option linter.unusedSimpArgs false
open Go.RowKit Go.Shelf
attribute [local go_sem] Oper.semAt_some

set_option maxRecDepth 100000 in
set_option maxHeartbeats 8000000 in
theorem blocksl_any (q : PlanD) (bs rs ps : Value) (x y : Int) (hx : 0 ≤ x ∧ x < 256) (hy : 0 ≤ y ∧ y < 256) (w : World) (hpa : PlanAt w q bs rs ps) :
    Calls Try.prog 3 #[.agg (planRow q bs rs ps), .int .u8 x, .int .u8 y] w fun e w' => e = .returned (.bool true) ∧ Below w.heap.size w w' := by
  obtain ⟨aob, capb, hbv, _⟩ := id hpa.p.b
  obtain ⟨aor, capr, hrv, _⟩ := id hpa.p.r
  obtain ⟨aop, capp, hpv, _⟩ := id hpa.n
  subst hbv hrv hpv
  obtain ⟨W0, hW0⟩ : ∃ W0, W0 = w.alloc (.cells (planRow q (.slice aob q.pr.bs.length capb) (.slice aor q.pr.rs.length capr) (.slice aop q.prices.length capp)) 30 (0, 0)) := ⟨_, rfl⟩
  have hb0 : Below w.heap.size w W0 := by rw [hW0]; exact (Below.refl _ _).alloc (Nat.le_refl _) _
  have hr1 : W0.heap[w.heap.size]? = some (.cells (planRow q (.slice aob q.pr.bs.length capb) (.slice aor q.pr.rs.length capr) (.slice aop q.prices.length capp)) 30 (0, 0)) := by rw [hW0]; exact heap_alloc_at _ _ _ rfl
  have hsw : W0.heap.size = w.heap.size + 1 := by rw [hW0]; simp
  have HB0 := Lib.hid hb0
  have HR1 := Lib.hid hr1
  have HPA := Lib.hid (hpa.later hb0)
  have rows : ∀ W', Below W0.heap.size W0 W' → (W'.cell? ⟨w.heap.size, 0, none⟩ = some (.slice aob q.pr.bs.length capb) ∧ W'.cell? ⟨w.heap.size, 1, none⟩ = some (.int .i64 q.pr.zl) ∧ W'.cell? ⟨w.heap.size, 2, none⟩ = some (.int .i64 q.pr.zh) ∧
        W'.cell? ⟨w.heap.size, 3, none⟩ = some (.int .i64 q.pr.rl) ∧ W'.cell? ⟨w.heap.size, 4, none⟩ = some (.int .i64 q.pr.rh) ∧ W'.cell? ⟨w.heap.size, 5, none⟩ = some (.slice aor q.pr.rs.length capr) ∧ W'.cell? ⟨w.heap.size, 6, none⟩ = some (.int .i64 q.wide) ∧ W'.cell? ⟨w.heap.size, 7, none⟩ = some (.slice aop q.prices.length capp)) := fun W' hb => by
    have q1 := (hb.block w.heap.size (by omega)).trans hr1
    unfold planRow at q1
    refine ⟨?_, ?_, ?_, ?_, ?_, ?_, ?_, ?_⟩ <;> (rw [cell_of_row _ _ _ _ _ _ q1]; rfl)
  have ROWS := Lib.hid rows
  clear rows hb0 hr1 hpa
  unfold planRow at hW0 ⊢
  obtain ⟨c0, c1, c2, c3, c4, c5, c6, c7⟩ := ROWS.out W0 (Below.refl _ _)
  have HB1 : Hid (Below W0.heap.size W0 W0) := Lib.hid (Below.refl _ _)
  go_enter Try.func3, Try.ntmps3
  go_wp2_with fail
  rw [← hW0]
  clear hW0
  refine (heavy8_any 20000 W0 HPA.out).mono ?_
  rintro e w1 ⟨rfl, hb⟩
  have HB2 := Lib.hid (HB1.out.trans (hb.mono HB1.out.size))
  clear hb
  try dsimp only
  clear c0 c1 c2 c3 c4 c5 c6 c7
  obtain ⟨c0, c1, c2, c3, c4, c5, c6, c7⟩ := ROWS.out w1 HB2.out
  cases hh : heavyQ q 20000 with
  | true =>
    go_wp2_with fail
    refine (awake_any _).mono ?_
    rintro e vz ⟨rfl, hb⟩
    have HBZ := Lib.hid (HB2.out.trans (hb.mono HB2.out.size))
    clear hb
    try dsimp only
    go_wp2
    go_ret
    exact ⟨rfl, HB0.out.trans (HBZ.out.mono HB0.out.size)⟩
  | false =>
  clear hh
  cases hv : validP q with
  | false =>
    have F1 := Lib.hid (blocks_err (q := q) (n := 0) (errP_bad hv) (by decide))
    have HV := Lib.hid hv
    clear hv
    go_wp2_with fail
    refine (blocksV_any 0 (HPA.out.later HB2.out)).mono ?_
    rintro e w2 ⟨he, hb⟩
    rw [F1.out] at he
    try dsimp only at he
    subst he
    have HB3 := Lib.hid (HB2.out.trans (hb.mono HB2.out.size))
    clear hb
    try dsimp only
    clear c0 c1 c2 c3 c4 c5 c6 c7
    obtain ⟨c0, c1, c2, c3, c4, c5, c6, c7⟩ := ROWS.out w2 HB3.out
    go_wp2_with fail
    refine (plan8_any _ (HPA.out.later HB3.out)).mono ?_
    rintro e w3 ⟨he, hb⟩
    rw [HV.out] at he
    try dsimp only at he
    subst he
    have HB4 := Lib.hid (HB3.out.trans (hb.mono HB3.out.size))
    clear hb
    try dsimp only
    clear c0 c1 c2 c3 c4 c5 c6 c7
    obtain ⟨c0, c1, c2, c3, c4, c5, c6, c7⟩ := ROWS.out w3 HB4.out
    go_wp2_with fail
    refine (awake_any _).mono ?_
    rintro e vz ⟨rfl, hb⟩
    have HBZ := Lib.hid (HB4.out.trans (hb.mono HB4.out.size))
    clear hb
    try dsimp only
    go_wp2
    go_ret
    exact ⟨rfl, HB0.out.trans (HBZ.out.mono HB0.out.size)⟩
  | true =>
  have hq := OkQ.of hv
  have hm8 := hq.m8
  have h256 := hq.p256
  have hev := @everyV_lt q
  have hp := OkP.of _ hq.pr
  have hn5 := hp.n5
  have hn1 := hp.n1
  have HQ := Lib.hid hq
  have HV := Lib.hid hv
  have E2 := blocks_range hv (n := ((everyV q : Nat) : Int) + 1) (by omega)
  have E3 := blocks_range hv (n := -1) (by omega)
  have E4 := best_range hv
  obtain ⟨ev, hevs⟩ : ∃ s, s = everyV q := ⟨_, rfl⟩
  rw [← hevs] at E2
  have HEVS := Lib.hid hevs
  rw [← hevs] at hev
  have hwe : IntKind.i64.wrap ((ev : Int) + 1) = (ev : Int) + 1 := IntWalk.i64_in _ (by omega)
  have F2 := Lib.hid E2
  have F3 := Lib.hid E3
  have F4 := Lib.hid E4
  clear E2 E3 E4 hevs
  by_cases ht : truA q.pr = []
  · have F1 : Hid (blocksV q 0 = ((0, 0), 10)) := Lib.hid (blocks_no hv ht (Nat.two_pow_pos _))
    have F5 : Hid (knownV q.pr 0 = ((0, 0), 10)) := Lib.hid (knownV_no hq.pr ht 0 hn1)
    clear ht hv hq hp
    go_wp2_with fail
    refine (blocksV_any 0 (HPA.out.later HB2.out)).mono ?_
    rintro e w2 ⟨he, hb⟩
    rw [F1.out] at he
    try dsimp only at he
    subst he
    have HB3 := Lib.hid (HB2.out.trans (hb.mono HB2.out.size))
    clear hb
    try dsimp only
    clear c0 c1 c2 c3 c4 c5 c6 c7
    obtain ⟨c0, c1, c2, c3, c4, c5, c6, c7⟩ := ROWS.out w2 HB3.out
    go_wp2_with fail
    refine (plan8_any _ (HPA.out.later HB3.out)).mono ?_
    rintro e w3 ⟨he, hb⟩
    rw [HV.out] at he
    try dsimp only at he
    subst he
    have HB4 := Lib.hid (HB3.out.trans (hb.mono HB3.out.size))
    clear hb
    try dsimp only
    clear c0 c1 c2 c3 c4 c5 c6 c7
    obtain ⟨c0, c1, c2, c3, c4, c5, c6, c7⟩ := ROWS.out w3 HB4.out
    go_wp2_with fail
    refine (every8_any HQ.out.m8 _ (HPA.out.later HB4.out)).mono ?_
    rintro e w4 ⟨rfl, hb⟩
    have HB5 := Lib.hid (HB4.out.trans (hb.mono HB4.out.size))
    clear hb
    try dsimp only
    rw [← HEVS.out]
    clear c0 c1 c2 c3 c4 c5 c6 c7
    obtain ⟨c0, c1, c2, c3, c4, c5, c6, c7⟩ := ROWS.out w4 HB5.out
    go_wp2_with fail
    refine (blocksV_any _ (HPA.out.later HB5.out)).mono ?_
    rintro e w5 ⟨he, hb⟩
    rw [F2.out] at he
    try dsimp only at he
    subst he
    have HB6 := Lib.hid (HB5.out.trans (hb.mono HB5.out.size))
    clear hb
    try dsimp only
    clear c0 c1 c2 c3 c4 c5 c6 c7
    obtain ⟨c0, c1, c2, c3, c4, c5, c6, c7⟩ := ROWS.out w5 HB6.out
    go_wp2_with fail
    refine (blocksV_any _ (HPA.out.later HB6.out)).mono ?_
    rintro e w6 ⟨he, hb⟩
    rw [F3.out] at he
    try dsimp only at he
    subst he
    have HB7 := Lib.hid (HB6.out.trans (hb.mono HB6.out.size))
    clear hb
    try dsimp only
    clear c0 c1 c2 c3 c4 c5 c6 c7
    obtain ⟨c0, c1, c2, c3, c4, c5, c6, c7⟩ := ROWS.out w6 HB7.out
    go_wp2_with fail
    refine (bestPlV_any _ (HPA.out.later HB7.out)).mono ?_
    rintro e w7 ⟨he, hb⟩
    rw [F4.out] at he
    try dsimp only at he
    subst he
    have HB8 := Lib.hid (HB7.out.trans (hb.mono HB7.out.size))
    clear hb
    try dsimp only
    clear c0 c1 c2 c3 c4 c5 c6 c7
    obtain ⟨c0, c1, c2, c3, c4, c5, c6, c7⟩ := ROWS.out w7 HB8.out
    go_wp2_with fail
    refine (knownV_any (HPA.out.later HB8.out).p 0).mono ?_
    rintro e w8 ⟨he, hb⟩
    rw [F5.out] at he
    try dsimp only at he
    subst he
    have HB9 := Lib.hid (HB8.out.trans (hb.mono HB8.out.size))
    clear hb
    try dsimp only
    have HB9b := Lib.hid (HB9.out.alloc HB9.out.size (.cells #[.int .i64 0, .int .i64 0] 24))
    clear c0 c1 c2 c3 c4 c5 c6 c7
    obtain ⟨c0, c1, c2, c3, c4, c5, c6, c7⟩ := ROWS.out _ HB9b.out
    unfold spanV
    go_wp2_with fail
    refine (awake_any _).mono ?_
    rintro e vz ⟨rfl, hb⟩
    have HBZ := Lib.hid (HB9b.out.trans (hb.mono HB9b.out.size))
    clear hb
    try dsimp only
    go_wp2
    go_ret
    exact ⟨rfl, HB0.out.trans (HBZ.out.mono HB0.out.size)⟩
  have hne := truA_of_every hq ht
  obtain ⟨b1, w1v, E1⟩ : ∃ (b1 : Nat) (w1v : Int), blocksV q 0 = (((b1 : Int), w1v), 0) := ⟨_, _, blocks_set hv ht (s := 0) (Nat.two_pow_pos _)⟩
  obtain ⟨kl, kh, hk0⟩ : ∃ a b, hullD q.pr 0 5 = (a, b) := ⟨_, _, rfl⟩
  have E5 : knownV q.pr 0 = ((kl, kh), 0) := by rw [← hk0]; exact knownV_yes hq.pr ht 0 hn1
  obtain ⟨xn, hxn⟩ : ∃ n : Nat, x = n := ⟨x.toNat, by omega⟩
  subst hxn
  have hxl : xn < 256 := by omega
  have hand := i64_and_nat xn ev hxl (by omega)
  have hwx : IntKind.i64.wrap (xn : Int) = (xn : Int) := IntWalk.i64_in _ (by omega)
  have hsl : xn &&& ev < 2 ^ q.prices.length := Nat.lt_of_le_of_lt Nat.and_le_right hev
  obtain ⟨s, hs'⟩ : ∃ o, o = xn &&& ev := ⟨_, rfl⟩
  rw [← hs'] at hand hsl
  have E6 := blocks_set hv ht hsl
  rw [← wK_end hq ht s] at E6
  have E6' : blocksV q (s : Int) = (((wellS q s q.pr.bs.length : Int), wK q.pr s q.pr.bs.length), 0) := E6
  obtain ⟨yn, hyn⟩ : ∃ n : Nat, y = n := ⟨y.toNat, by omega⟩
  subst hyn
  have hwy : IntKind.i64.wrap (yn : Int) = (yn : Int) := IntWalk.i64_in _ (by omega)
  have HMORE : Hid (∀ t, t < 2 ^ q.prices.length → Sub q.pr s t → ∃ wt, blocksV q (t : Int) = (((wellS q t q.pr.bs.length : Int), wt), 0) ∧ wt ≤ wK q.pr s q.pr.bs.length ∧ bits BinOp.andNot IntKind.i64 (wellS q s q.pr.bs.length : Int) (wellS q t q.pr.bs.length : Int) = 0) := Lib.hid fun t htl hsub =>
    ⟨widestV q.pr t, blocks_set hv ht htl, by rw [wK_end hq ht s]; exact widest_mono hq.pr hsub (hne t), well_sub hq ht hsub⟩
  have HT := Lib.hid ht
  have F1 := Lib.hid E1
  have F5 := Lib.hid E5
  have F6 := Lib.hid E6'
  clear E1 E5 E6 E6' ht hv hq hp hs' hk0 hne
  go_wp2_with fail
  refine (blocksV_any 0 (HPA.out.later HB2.out)).mono ?_
  rintro e w2 ⟨he, hb⟩
  rw [F1.out] at he
  try dsimp only at he
  subst he
  have HB3 := Lib.hid (HB2.out.trans (hb.mono HB2.out.size))
  clear hb
  try dsimp only
  clear c0 c1 c2 c3 c4 c5 c6 c7
  obtain ⟨c0, c1, c2, c3, c4, c5, c6, c7⟩ := ROWS.out w2 HB3.out
  go_wp2_with fail
  refine (plan8_any _ (HPA.out.later HB3.out)).mono ?_
  rintro e w3 ⟨he, hb⟩
  rw [HV.out] at he
  try dsimp only at he
  subst he
  have HB4 := Lib.hid (HB3.out.trans (hb.mono HB3.out.size))
  clear hb
  try dsimp only
  clear c0 c1 c2 c3 c4 c5 c6 c7
  obtain ⟨c0, c1, c2, c3, c4, c5, c6, c7⟩ := ROWS.out w3 HB4.out
  go_wp2_with fail
  refine (every8_any HQ.out.m8 _ (HPA.out.later HB4.out)).mono ?_
  rintro e w4 ⟨rfl, hb⟩
  have HB5 := Lib.hid (HB4.out.trans (hb.mono HB4.out.size))
  clear hb
  try dsimp only
  rw [← HEVS.out]
  clear c0 c1 c2 c3 c4 c5 c6 c7
  obtain ⟨c0, c1, c2, c3, c4, c5, c6, c7⟩ := ROWS.out w4 HB5.out
  go_wp2_with fail
  refine (blocksV_any _ (HPA.out.later HB5.out)).mono ?_
  rintro e w5 ⟨he, hb⟩
  rw [F2.out] at he
  try dsimp only at he
  subst he
  have HB6 := Lib.hid (HB5.out.trans (hb.mono HB5.out.size))
  clear hb
  try dsimp only
  clear c0 c1 c2 c3 c4 c5 c6 c7
  obtain ⟨c0, c1, c2, c3, c4, c5, c6, c7⟩ := ROWS.out w5 HB6.out
  go_wp2_with fail
  refine (blocksV_any _ (HPA.out.later HB6.out)).mono ?_
  rintro e w6 ⟨he, hb⟩
  rw [F3.out] at he
  try dsimp only at he
  subst he
  have HB7 := Lib.hid (HB6.out.trans (hb.mono HB6.out.size))
  clear hb
  try dsimp only
  clear c0 c1 c2 c3 c4 c5 c6 c7
  obtain ⟨c0, c1, c2, c3, c4, c5, c6, c7⟩ := ROWS.out w6 HB7.out
  go_wp2_with fail
  refine (bestPlV_any _ (HPA.out.later HB7.out)).mono ?_
  rintro e w7 ⟨he, hb⟩
  rw [F4.out] at he
  try dsimp only at he
  subst he
  have HB8 := Lib.hid (HB7.out.trans (hb.mono HB7.out.size))
  clear hb
  try dsimp only
  clear c0 c1 c2 c3 c4 c5 c6 c7
  obtain ⟨c0, c1, c2, c3, c4, c5, c6, c7⟩ := ROWS.out w7 HB8.out
  go_wp2_with fail
  refine (knownV_any (HPA.out.later HB8.out).p 0).mono ?_
  rintro e w8 ⟨he, hb⟩
  rw [F5.out] at he
  try dsimp only at he
  subst he
  have HB9 := Lib.hid (HB8.out.trans (hb.mono HB8.out.size))
  clear hb
  try dsimp only
  have HB9b := Lib.hid (HB9.out.alloc HB9.out.size (.cells #[.int .i64 kl, .int .i64 kh] 24))
  clear c0 c1 c2 c3 c4 c5 c6 c7
  obtain ⟨c0, c1, c2, c3, c4, c5, c6, c7⟩ := ROWS.out _ HB9b.out
  unfold spanV
  go_wp2_with fail
  refine (blocksV_any _ (HPA.out.later HB9b.out)).mono ?_
  rintro e wa ⟨he, hb⟩
  rw [F6.out] at he
  try dsimp only at he
  subst he
  have HBA := Lib.hid (HB9b.out.trans (hb.mono HB9b.out.size))
  clear hb
  try dsimp only
  clear c0 c1 c2 c3 c4 c5 c6 c7
  obtain ⟨c0, c1, c2, c3, c4, c5, c6, c7⟩ := ROWS.out wa HBA.out
  go_wp2_with fail
  clear c0 c1 c2 c3 c4 c5 c6 c7
  go_loopw [26, 27, 135] (fun wv lv iv wr => ∃ i : Nat, i ≤ q.pr.bs.length ∧ iv = .int .i64 i ∧ wv = .int .i64 (wK q.pr s i) ∧ lv = .int .i64 (wellS q s i : Nat) ∧ Below W0.heap.size W0 wr) (fun _ _ iv _ => q.pr.bs.length - (intOf iv).toNat)
  case atStart => exact ⟨0, Nat.zero_le _, rfl, rfl, rfl, HBA.out⟩
  case round =>
    obtain ⟨i, hi, rfl, rfl, rfl, hb⟩ := hrel
    have HB := Lib.hid hb
    have hzr := hb.size
    clear hb
    by_cases hlt : i < q.pr.bs.length
    · have hlti : (i : Int) < (q.pr.bs.length : Int) := by omega
      have hwi : IntKind.i64.wrap ((i : Int) + 1) = ((i + 1 : Nat) : Int) := by rw [IntWalk.i64_in _ (by omega)]; omega
      have hvo := onlyP_valid q.pr s HQ.out.pr
      have hno := truA_of_every HQ.out HT.out s
      obtain ⟨lo, hh, hk⟩ : ∃ a b, hullD (onlyP q.pr s) i 5 = (a, b) := ⟨_, _, rfl⟩
      have K1 : knownV (onlyP q.pr s) (i : Int) = ((lo, hh), 0) := by rw [← hk]; exact knownV_yes hvo hno i hlt
      have hr := hullD_40 (OkP.of _ hvo) hno i 5
      rw [hk] at hr
      dsimp only at hr
      have hwd : widB q.pr s i = hh - lo := by unfold widB; rw [if_pos hlt, hk]
      have hww : IntKind.i64.wrap (hh - lo) = hh - lo := IntWalk.i64_in _ (by omega)
      have hwk : wK q.pr s (i + 1) = max (wK q.pr s i) (hh - lo) := by rw [← hwd]; rfl
      have hsx : wellS q s (i + 1) = if hh - lo ≤ q.wide then wellS q s i ||| 2 ^ i else wellS q s i := by
        unfold wellS
        rw [setN_next, hwd]
        simp
      have hst := setN_lt (fun b => decide (widB q.pr s b ≤ q.wide)) i
      have hp2 : 2 ^ i ≤ 2 ^ 5 := Nat.pow_le_pow_right (by decide) (by omega)
      have hor := or_i64 ⟨i, by omega⟩ ⟨wellS q s i, by unfold wellS; omega⟩
      dsimp only at hor
      obtain ⟨wk, hwk2⟩ : ∃ a, a = wK q.pr s i := ⟨_, rfl⟩
      obtain ⟨st, hst2⟩ : ∃ a, a = wellS q s i := ⟨_, rfl⟩
      rw [← hwk2] at hwk
      rw [← hst2] at hsx hor
      rw [← hwk2, ← hst2]
      have HWK := Lib.hid hwk
      have HSX := Lib.hid hsx
      have HK1 := Lib.hid K1
      clear hvo hno hk hr hwd hwk hsx hst hwk2 hst2 K1
      obtain ⟨c0, c1, c2, c3, c4, c5, c6, c7⟩ := ROWS.out wr HB.out
      go_wp2_with fail
      refine (only8_any HQ.out s (by omega) _ (HPA.out.later HB.out)).mono ?_
      rintro e u1 ⟨rs', rfl, hrs, hb⟩
      have hba := HB.out.trans (hb.mono HB.out.size)
      have hpr : PairAt u1 (onlyP q.pr s) (.slice aob q.pr.bs.length capb) rs' := PairAt.of (HPA.out.later hba).p.b hrs
      have HPR := Lib.hid hpr
      have HBO := Lib.hid hba
      clear hb hba hrs hpr
      dsimp only
      clear c0 c1 c2 c3 c4 c5 c6 c7
      go_wp2_with fail
      refine (knownV_any HPR.out i).mono ?_
      rintro e u2 ⟨he, hb⟩
      rw [HK1.out] at he
      dsimp only at he
      subst he
      have HU2 := Lib.hid ((HBO.out.trans (hb.mono HBO.out.size)).alloc (by have := HBO.out.size; have := hb.size; omega) (.cells #[.int .i64 lo, .int .i64 hh] 24))
      clear hb HBO HPR
      dsimp only
      unfold spanV
      obtain ⟨c0, c1, c2, c3, c4, c5, c6, c7⟩ := ROWS.out _ HU2.out
      by_cases hle : hh - lo ≤ q.wide
      · rw [if_pos hle] at HSX
        go_wp2_with fail
        exact ⟨⟨i + 1, by omega, rfl, by rw [HWK.out], by rw [HSX.out], HU2.out⟩, by simp [intOf]; omega⟩
      · rw [if_neg hle] at HSX
        go_wp2_with fail
        exact ⟨⟨i + 1, by omega, rfl, by rw [HWK.out], by rw [HSX.out], HU2.out⟩, by simp [intOf]; omega⟩
    · obtain rfl : i = q.pr.bs.length := by omega
      obtain ⟨c0, c1, c2, c3, c4, c5, c6, c7⟩ := ROWS.out wr HB.out
      by_cases hz : q.prices.length = 0
      · obtain ⟨wt, E7, hle, hsub⟩ := HMORE.out s hsl (fun _ _ h => h)
        have hz1 : ¬ (0 : Int) < (q.prices.length : Int) := by omega
        have F7 := Lib.hid E7
        clear E7 hz
        go_wp2_with fail
        refine (blocksV_any _ (HPA.out.later HB.out)).mono ?_
        rintro e wb ⟨he, hb⟩
        rw [F7.out] at he
        try dsimp only at he
        subst he
        have HBB := Lib.hid (HB.out.trans (hb.mono HB.out.size))
        clear hb
        try dsimp only
        clear c0 c1 c2 c3 c4 c5 c6 c7
        obtain ⟨c0, c1, c2, c3, c4, c5, c6, c7⟩ := ROWS.out wb HBB.out
        go_wp2_with fail
        refine (awake_any _).mono ?_
        rintro e vz ⟨rfl, hb⟩
        have HBZ := Lib.hid (HBB.out.trans (hb.mono HBB.out.size))
        clear hb
        try dsimp only
        go_wp2
        go_ret
        exact ⟨rfl, HB0.out.trans (HBZ.out.mono HB0.out.size)⟩
      · obtain ⟨k, hk⟩ : ∃ k : Nat, (yn : Int) % (q.prices.length : Int) = k := ⟨((yn : Int) % (q.prices.length : Int)).toNat, by have := Int.emod_nonneg (yn : Int) (b := (q.prices.length : Int)) (by omega); omega⟩
        have hkl : k < q.prices.length := by have := Int.emod_lt_of_pos (yn : Int) (b := (q.prices.length : Int)) (by omega); omega
        have hz1 : (0 : Int) < (q.prices.length : Int) := by omega
        have hz0 : ((q.prices.length : Int) == 0) = false := by rw [beq_eq_false_iff_ne]; omega
        have hor := or_i64 ⟨k, by omega⟩ ⟨s, by omega⟩
        dsimp only at hor
        have htl := or_lt hsl hkl
        obtain ⟨wt, E7, hle, hsub⟩ := HMORE.out (s ||| 2 ^ k) htl (fun j _ h => by rw [Nat.testBit_or, h]; rfl)
        obtain ⟨t, ht⟩ : ∃ t, t = s ||| 2 ^ k := ⟨_, rfl⟩
        rw [← ht] at E7 hsub hor htl
        have F7 := Lib.hid E7
        clear E7 ht
        go_wp2_with fail
        refine (blocksV_any _ (HPA.out.later HB.out)).mono ?_
        rintro e wb ⟨he, hb⟩
        rw [F7.out] at he
        try dsimp only at he
        subst he
        have HBB := Lib.hid (HB.out.trans (hb.mono HB.out.size))
        clear hb
        try dsimp only
        clear c0 c1 c2 c3 c4 c5 c6 c7
        obtain ⟨c0, c1, c2, c3, c4, c5, c6, c7⟩ := ROWS.out wb HBB.out
        go_wp2_with fail
        refine (awake_any _).mono ?_
        rintro e vz ⟨rfl, hb⟩
        have HBZ := Lib.hid (HBB.out.trans (hb.mono HBB.out.size))
        clear hb
        try dsimp only
        go_wp2
        go_ret
        exact ⟨rfl, HB0.out.trans (HBZ.out.mono HB0.out.size)⟩
end Go.Proofs.Ytabbmihakoeegaa

/- PlanBlocks: whatever the plan and the numbers: the law returns true. No conditions. -/
namespace Go.Proofs.Ytabbmihakoeegaa
set_option linter.unusedVariables false
set_option linter.unusedSimpArgs false
open Go.ChangeShapes Go.WideShapes Go.ChangeAt Go.RowKit

set_option maxRecDepth 100000 in
theorem planBlocks_lifted (os : Os) (started : os.Started) (H : Type) (enc : TypeId × Value → H) :
    ReturnsInHanded {} Try.checked os 3 .any (Rows.planBlocksSpec.pre6 enc Try.prog Try.f3 Rows.planBlocksRow.domain false) (Rows.planBlocksSpec.post enc Try.prog Try.f3 false true false false) := by
  refine returnsInHanded_of_change (C := Try.checked) own_knob started (by kernel_rfl) Try.func3
    (ChangeSpec.witness6 (enc := enc) (C := Try.checked) false ⟨#[], #[.agg #[.slice none 0 0, .int .i64 0, .int .i64 0, .int .i64 0, .int .i64 0, .slice none 0 0, .int .i64 0, .slice none 0 0], .int .u8 0, .int .u8 0], []⟩ 8 (by kernel_rfl) (by kernel_rfl) (by kernel_rfl) (by kernel_rfl)) ?_
  intro W base args ds gs before hval0 hW hcnd _
  have hval : ∀ (j : Nat) t v, Try.f3.params[j]? = some t → args[j]? = some v → Value.okWide Try.prog W .any base t v := hval0
  have hW' := hW
  obtain ⟨p, q, hA0, hV, rfl, hfz, hnd⟩ := hW
  have hA : DataW.TrodAll enc Try.prog W 0 (fun _ => true) true Try.f3.params.toList args.toList ds p := hA0
  rw [Try.params3] at hA hval
  obtain ⟨rfl, rfl⟩ := trodVars_none hV
  clear hA0 hval0
  simp only [List.append_nil] at hW'
  have hst := hA
  obtain ⟨v0, v1, v2, d0, d1, d2, p0, p1, p2, rfl, rfl, rfl, h0, h1, h2⟩ := trodAll_three hA
  obtain ⟨qd, bs, rs, pv, rfl, hpa⟩ := open_plan (hval 0 _ _ rfl rfl) h0
  obtain ⟨x, rfl, _, _, hx⟩ := Go.ChangeShapes.open_int under_u8 (hval 1 _ _ rfl rfl) h1
  obtain ⟨y, rfl, _, _, hy⟩ := Go.ChangeShapes.open_int under_u8 (hval 2 _ _ rfl rfl) h2
  refine (blocksl_any qd bs rs pv x y (u8_range hx) (u8_range hy) W hpa).mono fun e W' ⟨he, hb⟩ => ?_
  subst he
  exact ⟨_, rfl, lawEnd hW' rfl hst rfl (by decide +kernel) rfl rfl hb⟩
theorem planBlocks_over : Rows.planBlocksRow.holds Try.pinned (OpenSpec.ofChange Rows.planBlocksSpec) :=
  OpenClaim.holds_of_wide 3 Try.f3 rfl rfl rfl rfl rfl rfl rfl ⟨rfl, rfl, rfl, rfl, rfl⟩ rfl rfl rfl rfl rfl (by kernel_rfl) Try.func3 (by kernel_rfl)
    (of_decide_eq_true (by kernel_rfl)) (by unfold Func.isWrapper; first | (rw [if_pos (by decide +kernel)]; kernel_rfl) | (rw [if_neg (by decide +kernel)]; exact ⟨rfl, rfl⟩))
    (fun os started H enc _ => planBlocks_lifted os started H enc)
/-- The statement. -/
theorem plan_blocks : Rows.PlanBlocksSaid := planBlocks_over

end Go.Proofs.Ytabbmihakoeegaa
