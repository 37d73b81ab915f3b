/- Texts Qn, Qo, Qt, Qu in one file; each begins with a word on what it proves. -/
import Derived.Test.YtabbmihakoeegaaGreatKv
import Derived.Test.YtabbmihakoeegaaGreatKn

/- The reference: Fewest, Cheapest, Needed. -/
namespace Go.Proofs.YtabbmihakoeegaaGreat
set_option linter.unusedVariables false
set_option linter.unusedSimpArgs false
open Go.RowKit Go.Shelf
attribute [local go_sem] Oper.semAt_some

set_option maxRecDepth 100000 in
set_option maxHeartbeats 4000000 in
theorem rfewest_any {q : PlanD} (hl : validP q = true → Light q) {bs rs ps : Value} (w : World) (hpa : PlanAt w q bs rs ps) :
    Calls Tryz.prog 15 #[.agg (planRow q bs rs ps)] w fun e w' => e = .returned (.tuple #[.int .i64 (fewestV q).1, .int .i64 (fewestV q).2]) ∧ Below w.heap.size w w' := by
  have HL := Lib.hid hl
  clear hl
  obtain ⟨aob, capb, hbv, _⟩ := id hpa.p.b
  obtain ⟨aor, capr, hrv, _⟩ := id hpa.p.r
  obtain ⟨aop, capp, hpv, _⟩ := id hpa.n
  subst hbv hrv hpv
  obtain ⟨W0, hW0⟩ : ∃ W0, W0 = w.alloc (.cells (planRow q (.slice aob q.pr.bs.length capb) (.slice aor q.pr.rs.length capr) (.slice aop q.prices.length capp)) 30 (0, 0)) := ⟨_, rfl⟩
  have hb0 : Below w.heap.size w W0 := by rw [hW0]; exact (Below.refl _ _).alloc (Nat.le_refl _) _
  have hr1 : W0.heap[w.heap.size]? = some (.cells (planRow q (.slice aob q.pr.bs.length capb) (.slice aor q.pr.rs.length capr) (.slice aop q.prices.length capp)) 30 (0, 0)) := by rw [hW0]; exact heap_alloc_at _ _ _ rfl
  have hsw : W0.heap.size = w.heap.size + 1 := by rw [hW0]; simp
  have HB0 := Lib.hid hb0
  have HR1 := Lib.hid hr1
  have HPA := Lib.hid (hpa.later hb0)
  have rows : ∀ W', Below W0.heap.size W0 W' → (W'.cell? ⟨w.heap.size, 0, none⟩ = some (.slice aob q.pr.bs.length capb) ∧ W'.cell? ⟨w.heap.size, 1, none⟩ = some (.int .i64 q.pr.zl) ∧ W'.cell? ⟨w.heap.size, 2, none⟩ = some (.int .i64 q.pr.zh) ∧
        W'.cell? ⟨w.heap.size, 3, none⟩ = some (.int .i64 q.pr.rl) ∧ W'.cell? ⟨w.heap.size, 4, none⟩ = some (.int .i64 q.pr.rh) ∧ W'.cell? ⟨w.heap.size, 5, none⟩ = some (.slice aor q.pr.rs.length capr) ∧ W'.cell? ⟨w.heap.size, 6, none⟩ = some (.int .i64 q.wide) ∧ W'.cell? ⟨w.heap.size, 7, none⟩ = some (.slice aop q.prices.length capp)) := fun W' hb => by
    have q1 := (hb.block w.heap.size (by omega)).trans hr1
    unfold planRow at q1
    refine ⟨?_, ?_, ?_, ?_, ?_, ?_, ?_, ?_⟩ <;> (rw [cell_of_row _ _ _ _ _ _ q1]; rfl)
  have ROWS := Lib.hid rows
  clear rows hb0 hr1 hpa
  unfold planRow at hW0 ⊢
  obtain ⟨c0, c1, c2, c3, c4, c5, c6, c7⟩ := ROWS.out W0 (Below.refl _ _)
  have HB1 : Hid (Below W0.heap.size W0 W0) := Lib.hid (Below.refl _ _)
  go_enter Tryz.func15, Tryz.ntmps15
  go_wp2_with fail
  rw [← hW0]
  clear hW0
  refine (rtold8_any HL.out _ (HPA.out.later HB1.out)).mono ?_
  rintro e w2 ⟨rfl, hb⟩
  have HB2 := Lib.hid (HB1.out.trans (hb.mono HB1.out.size))
  clear hb
  try dsimp only
  clear c0 c1 c2 c3 c4 c5 c6 c7
  obtain ⟨c0, c1, c2, c3, c4, c5, c6, c7⟩ := ROWS.out w2 HB2.out
  obtain ⟨er, her⟩ : ∃ x, x = errE q := ⟨_, rfl⟩
  rw [← her]
  by_cases hz : er = 0
  case neg =>
    have HV := Lib.hid (fewest_err her.symm hz)
    have hz1 : (er != 0) = true := by simpa using hz
    have hz2 : (er == 0) = false := by rw [beq_eq_false_iff_ne]; exact hz
    clear her c0 c1 c2 c3 c4 c5 c6 c7
    go_wp2_with fail
    refine bodyPost_ret (v := .tuple #[.int .i64 0, .int .i64 er]) (by simp [results, Tryz.results15, go_sem]) rfl ⟨?_, HB0.out.trans (HB2.out.mono HB0.out.size)⟩
    rw [HV.out]
  case pos =>
  subst hz
  obtain ⟨hv, ht, hen⟩ := errE_zero her.symm
  have hq := OkQ.of hv
  have h256 := hq.p256
  have hm8 := hq.m8
  have hev := @everyV_lt q
  have HLL := Lib.hid (HL.out hv)
  have HT := Lib.hid ht
  have HQ := Lib.hid hq
  have HER := Lib.hid her
  have HEN := Lib.hid hen
  obtain ⟨ev, hevs⟩ : ∃ s, s = everyV q := ⟨_, rfl⟩
  have HEVS := Lib.hid hevs
  clear her hv ht hen hq
  have HVAL := Lib.hid ((fewest_ok HER.out.symm).trans (by rw [← scan_end (pr := false) HEN.out, ← HEVS.out]))
  have HSC : Hid (∀ k, k ≤ ev → ScanOk q false (enoughV q) k (scanF q false (enoughV q) k)) := Lib.hid fun k hk => scan_inv HEN.out k (by rw [← HEVS.out]; exact hk)
  rw [← hevs] at hev
  have HSZ : Hid (scanF q false (enoughV q) 0 = ev) := Lib.hid hevs.symm
  clear hevs
  go_wp2_with fail
  refine (every8_any HQ.out.m8 _ (HPA.out.later HB2.out)).mono ?_
  rintro e w3 ⟨rfl, hb⟩
  have HB3 := Lib.hid (HB2.out.trans (hb.mono HB2.out.size))
  clear hb
  try dsimp only
  rw [← HEVS.out]
  clear c0 c1 c2 c3 c4 c5 c6 c7
  obtain ⟨c0, c1, c2, c3, c4, c5, c6, c7⟩ := ROWS.out w3 HB3.out
  clear c0 c1 c2 c3 c4 c5 c6 c7
  go_wp2_with fail
  go_loopw [5, 6] (fun bv iv wr => ∃ k : Nat, k ≤ ev ∧ iv = .int .i64 k ∧ bv = .int .i64 (scanF q false (enoughV q) k : Nat) ∧ Below W0.heap.size W0 wr) (fun _ iv _ => ev - (intOf iv).toNat)
  case atStart => exact ⟨0, Nat.zero_le _, rfl, by rw [HSZ.out], HB3.out⟩
  case round =>
    obtain ⟨k, hk, rfl, rfl, hb⟩ := hrel
    have HB := Lib.hid hb
    clear hb
    obtain ⟨c0, c1, c2, c3, c4, c5, c6, c7⟩ := ROWS.out wr HB.out
    have hbl := (HSC.out k hk).lt
    have hnx : scanF q false (enoughV q) (k + 1) = if lessW q false k (scanF q false (enoughV q) k) && enoughV q k then k else scanF q false (enoughV q) k := rfl
    have hls : lessW q false k (scanF q false (enoughV q) k) = true ↔ (ones k < ones (scanF q false (enoughV q) k) ∨ (ones k = ones (scanF q false (enoughV q) k) ∧ k < scanF q false (enoughV q) k)) := by
      rw [lessW_iff]
      have e : muchV q false k = muchV q false (scanF q false (enoughV q) k) := rfl
      omega
    obtain ⟨b, hbb⟩ : ∃ x, x = scanF q false (enoughV q) k := ⟨_, rfl⟩
    rw [← hbb] at hnx hbl hls
    rw [← hbb]
    have HBB := Lib.hid hbb
    have hwi : IntKind.i64.wrap ((k : Int) + 1) = ((k + 1 : Nat) : Int) := by rw [IntWalk.i64_in _ (by omega)]; omega
    clear hbb
    go_wp2_with fail
    refine (every8_any HQ.out.m8 _ (HPA.out.later HB.out)).mono ?_
    rintro e w5 ⟨rfl, hb⟩
    have HB5 := Lib.hid (HB.out.trans (hb.mono HB.out.size))
    clear hb
    try dsimp only
    rw [← HEVS.out]
    clear c0 c1 c2 c3 c4 c5 c6 c7
    obtain ⟨c0, c1, c2, c3, c4, c5, c6, c7⟩ := ROWS.out w5 HB5.out
    by_cases hlt : k < ev
    case neg =>
      have hlti : ¬ (k : Int) < (ev : Int) := by omega
      have hltd : decide (k < ev) = false := decide_eq_false hlt
      have hke : k = ev := by omega
      have HV2 := HVAL.out
      rw [← hke, ← HBB.out] at HV2
      have HV3 := Lib.hid HV2
      clear HV2 hke hnx hls c0 c1 c2 c3 c4 c5 c6 c7
      go_wp2_with fail
      refine bodyPost_ret (v := .tuple #[.int .i64 (b : Nat), .int .i64 0]) (by simp [results, Tryz.results15, go_sem]) rfl ⟨?_, HB0.out.trans (HB5.out.mono HB0.out.size)⟩
      rw [HV3.out]
    case pos =>
    have hlti : (k : Int) < (ev : Int) := by omega
    have hltd : decide (k < ev) = true := decide_eq_true hlt
    have hkl : k < 2 ^ q.prices.length := by omega
    go_wp2_with fail
    by_cases h1 : ones k < ones b
    · have h1i : (ones k : Int) < (ones b : Int) := by omega
      rw [hls.2 (by omega), Bool.true_and] at hnx
      cases he : enoughV q k with
      | true =>
        rw [he] at hnx
        have HE := Lib.hid he
        have HNX := Lib.hid hnx
        clear hnx hls h1 he
        refine (size8_any k (by omega) _).mono ?_
        rintro e wz ⟨rfl, rfl⟩
        try dsimp only
        go_wp2_with fail
        refine (size8_any b (by omega) _).mono ?_
        rintro e wz ⟨rfl, rfl⟩
        try dsimp only
        go_wp2_with fail
        refine (renough_any HQ.out HT.out HLL.out k hkl _ (HPA.out.later HB5.out)).mono ?_
        rintro e w6 ⟨he, hb⟩
        rw [HE.out] at he
        try dsimp only at he
        subst he
        have HB6 := Lib.hid (HB5.out.trans (hb.mono HB5.out.size))
        clear hb
        try dsimp only
        clear c0 c1 c2 c3 c4 c5 c6 c7
        obtain ⟨c0, c1, c2, c3, c4, c5, c6, c7⟩ := ROWS.out w6 HB6.out
        go_wp2_with fail
        exact ⟨⟨k + 1, by omega, rfl, by rw [HNX.out]; rfl, HB6.out⟩, by simp [intOf]; omega⟩
      | false =>
        rw [he] at hnx
        have HE := Lib.hid he
        have HNX := Lib.hid hnx
        clear hnx hls h1 he
        refine (size8_any k (by omega) _).mono ?_
        rintro e wz ⟨rfl, rfl⟩
        try dsimp only
        go_wp2_with fail
        refine (size8_any b (by omega) _).mono ?_
        rintro e wz ⟨rfl, rfl⟩
        try dsimp only
        go_wp2_with fail
        refine (renough_any HQ.out HT.out HLL.out k hkl _ (HPA.out.later HB5.out)).mono ?_
        rintro e w6 ⟨he, hb⟩
        rw [HE.out] at he
        try dsimp only at he
        subst he
        have HB6 := Lib.hid (HB5.out.trans (hb.mono HB5.out.size))
        clear hb
        try dsimp only
        clear c0 c1 c2 c3 c4 c5 c6 c7
        obtain ⟨c0, c1, c2, c3, c4, c5, c6, c7⟩ := ROWS.out w6 HB6.out
        go_wp2_with fail
        exact ⟨⟨k + 1, by omega, rfl, by rw [HNX.out]; rfl, HB6.out⟩, by simp [intOf]; omega⟩
    · have h1i : ¬ (ones k : Int) < (ones b : Int) := by omega
      by_cases h2 : ones k = ones b ∧ k < b
      · obtain ⟨h2a, h2b⟩ := h2
        have h2i : (k : Int) < (b : Int) := by omega
        rw [hls.2 (by omega), Bool.true_and] at hnx
        have HO2 := Lib.hid h2a
        cases he : enoughV q k with
        | true =>
          rw [he] at hnx
          have HE := Lib.hid he
          have HNX := Lib.hid hnx
          clear hnx hls h1 he h2a
          refine (size8_any k (by omega) _).mono ?_
          rintro e wz ⟨rfl, rfl⟩
          try dsimp only
          go_wp2_with fail
          refine (size8_any b (by omega) _).mono ?_
          rintro e wz ⟨rfl, rfl⟩
          dsimp only
          rw [← HO2.out]
          go_wp2_with fail
          refine (size8_any k (by omega) _).mono ?_
          rintro e wz ⟨rfl, rfl⟩
          try dsimp only
          go_wp2_with fail
          refine (size8_any b (by omega) _).mono ?_
          rintro e wz ⟨rfl, rfl⟩
          dsimp only
          rw [← HO2.out]
          go_wp2_with fail
          refine (renough_any HQ.out HT.out HLL.out k hkl _ (HPA.out.later HB5.out)).mono ?_
          rintro e w6 ⟨he, hb⟩
          rw [HE.out] at he
          try dsimp only at he
          subst he
          have HB6 := Lib.hid (HB5.out.trans (hb.mono HB5.out.size))
          clear hb
          try dsimp only
          clear c0 c1 c2 c3 c4 c5 c6 c7
          obtain ⟨c0, c1, c2, c3, c4, c5, c6, c7⟩ := ROWS.out w6 HB6.out
          go_wp2_with fail
          exact ⟨⟨k + 1, by omega, rfl, by rw [HNX.out]; rfl, HB6.out⟩, by simp [intOf]; omega⟩
        | false =>
          rw [he] at hnx
          have HE := Lib.hid he
          have HNX := Lib.hid hnx
          clear hnx hls h1 he h2a
          refine (size8_any k (by omega) _).mono ?_
          rintro e wz ⟨rfl, rfl⟩
          try dsimp only
          go_wp2_with fail
          refine (size8_any b (by omega) _).mono ?_
          rintro e wz ⟨rfl, rfl⟩
          dsimp only
          rw [← HO2.out]
          go_wp2_with fail
          refine (size8_any k (by omega) _).mono ?_
          rintro e wz ⟨rfl, rfl⟩
          try dsimp only
          go_wp2_with fail
          refine (size8_any b (by omega) _).mono ?_
          rintro e wz ⟨rfl, rfl⟩
          dsimp only
          rw [← HO2.out]
          go_wp2_with fail
          refine (renough_any HQ.out HT.out HLL.out k hkl _ (HPA.out.later HB5.out)).mono ?_
          rintro e w6 ⟨he, hb⟩
          rw [HE.out] at he
          try dsimp only at he
          subst he
          have HB6 := Lib.hid (HB5.out.trans (hb.mono HB5.out.size))
          clear hb
          try dsimp only
          clear c0 c1 c2 c3 c4 c5 c6 c7
          obtain ⟨c0, c1, c2, c3, c4, c5, c6, c7⟩ := ROWS.out w6 HB6.out
          go_wp2_with fail
          exact ⟨⟨k + 1, by omega, rfl, by rw [HNX.out]; rfl, HB6.out⟩, by simp [intOf]; omega⟩
      · have hlf : lessW q false k b = false := by
          cases hl : lessW q false k b with
          | false => rfl
          | true => have := hls.1 hl; omega
        rw [hlf, Bool.false_and] at hnx
        have HNX := Lib.hid hnx
        by_cases h3 : ones k = ones b
        · have h4 : ¬ (k : Int) < (b : Int) := by omega
          have h4d : decide (k < b) = false := decide_eq_false (by omega)
          have HO2 := Lib.hid h3
          clear hnx hls h1 hlf h2 h3
          refine (size8_any k (by omega) _).mono ?_
          rintro e wz ⟨rfl, rfl⟩
          try dsimp only
          go_wp2_with fail
          refine (size8_any b (by omega) _).mono ?_
          rintro e wz ⟨rfl, rfl⟩
          dsimp only
          rw [← HO2.out]
          go_wp2_with fail
          refine (size8_any k (by omega) _).mono ?_
          rintro e wz ⟨rfl, rfl⟩
          try dsimp only
          go_wp2_with fail
          refine (size8_any b (by omega) _).mono ?_
          rintro e wz ⟨rfl, rfl⟩
          dsimp only
          rw [← HO2.out]
          clear c0 c1 c2 c3 c4 c5 c6 c7
          go_wp2_with fail
          exact ⟨⟨k + 1, by omega, rfl, by rw [HNX.out]; rfl, HB5.out⟩, by simp [intOf]; omega⟩
        · have h3e : ((ones k : Int) == (ones b : Int)) = false := by rw [beq_eq_false_iff_ne]; omega
          clear hnx hls h1 hlf h2
          refine (size8_any k (by omega) _).mono ?_
          rintro e wz ⟨rfl, rfl⟩
          try dsimp only
          go_wp2_with fail
          refine (size8_any b (by omega) _).mono ?_
          rintro e wz ⟨rfl, rfl⟩
          try dsimp only
          go_wp2_with fail
          refine (size8_any k (by omega) _).mono ?_
          rintro e wz ⟨rfl, rfl⟩
          try dsimp only
          go_wp2_with fail
          clear c0 c1 c2 c3 c4 c5 c6 c7
          refine (size8_any b (by omega) _).mono ?_
          rintro e wz ⟨rfl, rfl⟩
          try dsimp only
          go_wp2_with fail
          exact ⟨⟨k + 1, by omega, rfl, by rw [HNX.out]; rfl, HB5.out⟩, by simp [intOf]; omega⟩
end Go.Proofs.YtabbmihakoeegaaGreat

/- The reference: Cheapest, Needed. -/
namespace Go.Proofs.YtabbmihakoeegaaGreat
set_option linter.unusedVariables false
set_option linter.unusedSimpArgs false
open Go.RowKit Go.Shelf
attribute [local go_sem] Oper.semAt_some

set_option maxRecDepth 100000 in
set_option maxHeartbeats 4000000 in
theorem rcheapest_any {q : PlanD} (hl : validP q = true → Light q) {bs rs ps : Value} (w : World) (hpa : PlanAt w q bs rs ps) :
    Calls Tryz.prog 17 #[.agg (planRow q bs rs ps)] w fun e w' => e = .returned (.tuple #[.int .i64 (cheapestV q).1.1, .int .i64 (cheapestV q).1.2, .int .i64 (cheapestV q).2]) ∧ Below w.heap.size w w' := by
  have HL := Lib.hid hl
  clear hl
  obtain ⟨aob, capb, hbv, _⟩ := id hpa.p.b
  obtain ⟨aor, capr, hrv, _⟩ := id hpa.p.r
  obtain ⟨aop, capp, hpv, _⟩ := id hpa.n
  subst hbv hrv hpv
  obtain ⟨W0, hW0⟩ : ∃ W0, W0 = w.alloc (.cells (planRow q (.slice aob q.pr.bs.length capb) (.slice aor q.pr.rs.length capr) (.slice aop q.prices.length capp)) 30 (0, 0)) := ⟨_, rfl⟩
  have hb0 : Below w.heap.size w W0 := by rw [hW0]; exact (Below.refl _ _).alloc (Nat.le_refl _) _
  have hr1 : W0.heap[w.heap.size]? = some (.cells (planRow q (.slice aob q.pr.bs.length capb) (.slice aor q.pr.rs.length capr) (.slice aop q.prices.length capp)) 30 (0, 0)) := by rw [hW0]; exact heap_alloc_at _ _ _ rfl
  have hsw : W0.heap.size = w.heap.size + 1 := by rw [hW0]; simp
  have HB0 := Lib.hid hb0
  have HR1 := Lib.hid hr1
  have HPA := Lib.hid (hpa.later hb0)
  have rows : ∀ W', Below W0.heap.size W0 W' → (W'.cell? ⟨w.heap.size, 0, none⟩ = some (.slice aob q.pr.bs.length capb) ∧ W'.cell? ⟨w.heap.size, 1, none⟩ = some (.int .i64 q.pr.zl) ∧ W'.cell? ⟨w.heap.size, 2, none⟩ = some (.int .i64 q.pr.zh) ∧
        W'.cell? ⟨w.heap.size, 3, none⟩ = some (.int .i64 q.pr.rl) ∧ W'.cell? ⟨w.heap.size, 4, none⟩ = some (.int .i64 q.pr.rh) ∧ W'.cell? ⟨w.heap.size, 5, none⟩ = some (.slice aor q.pr.rs.length capr) ∧ W'.cell? ⟨w.heap.size, 6, none⟩ = some (.int .i64 q.wide) ∧ W'.cell? ⟨w.heap.size, 7, none⟩ = some (.slice aop q.prices.length capp)) := fun W' hb => by
    have q1 := (hb.block w.heap.size (by omega)).trans hr1
    unfold planRow at q1
    refine ⟨?_, ?_, ?_, ?_, ?_, ?_, ?_, ?_⟩ <;> (rw [cell_of_row _ _ _ _ _ _ q1]; rfl)
  have ROWS := Lib.hid rows
  clear rows hb0 hr1 hpa
  unfold planRow at hW0 ⊢
  obtain ⟨c0, c1, c2, c3, c4, c5, c6, c7⟩ := ROWS.out W0 (Below.refl _ _)
  have HB1 : Hid (Below W0.heap.size W0 W0) := Lib.hid (Below.refl _ _)
  go_enter Tryz.func17, Tryz.ntmps17
  go_wp2_with fail
  rw [← hW0]
  clear hW0
  refine (rtold8_any HL.out _ (HPA.out.later HB1.out)).mono ?_
  rintro e w2 ⟨rfl, hb⟩
  have HB2 := Lib.hid (HB1.out.trans (hb.mono HB1.out.size))
  clear hb
  try dsimp only
  clear c0 c1 c2 c3 c4 c5 c6 c7
  obtain ⟨c0, c1, c2, c3, c4, c5, c6, c7⟩ := ROWS.out w2 HB2.out
  obtain ⟨er, her⟩ : ∃ x, x = errE q := ⟨_, rfl⟩
  rw [← her]
  by_cases hz : er = 0
  case neg =>
    have HV := Lib.hid (cheap_err her.symm hz)
    have hz1 : (er != 0) = true := by simpa using hz
    have hz2 : (er == 0) = false := by rw [beq_eq_false_iff_ne]; exact hz
    clear her c0 c1 c2 c3 c4 c5 c6 c7
    go_wp2_with fail
    refine bodyPost_ret (v := .tuple #[.int .i64 0, .int .i64 0, .int .i64 er]) (by simp [results, Tryz.results17, go_sem]) rfl ⟨?_, HB0.out.trans (HB2.out.mono HB0.out.size)⟩
    rw [HV.out]
  case pos =>
  subst hz
  obtain ⟨hv, ht, hen⟩ := errE_zero her.symm
  have hq := OkQ.of hv
  have h256 := hq.p256
  have hm8 := hq.m8
  have hev := @everyV_lt q
  have HLL := Lib.hid (HL.out hv)
  have HT := Lib.hid ht
  have HQ := Lib.hid hq
  have HER := Lib.hid her
  have HEN := Lib.hid hen
  obtain ⟨ev, hevs⟩ : ∃ s, s = everyV q := ⟨_, rfl⟩
  have HEVS := Lib.hid hevs
  clear her hv ht hen hq
  have HVAL := Lib.hid ((cheap_ok HER.out.symm).trans (by rw [show cheapSetV q = scanF q true (enoughV q) ev by rw [HEVS.out, scan_end (pr := true) HEN.out]; rfl]))
  have HSC : Hid (∀ k, k ≤ ev → ScanOk q true (enoughV q) k (scanF q true (enoughV q) k)) := Lib.hid fun k hk => scan_inv HEN.out k (by rw [← HEVS.out]; exact hk)
  rw [← hevs] at hev
  have HSZ : Hid (scanF q true (enoughV q) 0 = ev) := Lib.hid hevs.symm
  clear hevs
  go_wp2_with fail
  refine (every8_any HQ.out.m8 _ (HPA.out.later HB2.out)).mono ?_
  rintro e w3 ⟨rfl, hb⟩
  have HB3 := Lib.hid (HB2.out.trans (hb.mono HB2.out.size))
  clear hb
  try dsimp only
  rw [← HEVS.out]
  clear c0 c1 c2 c3 c4 c5 c6 c7
  obtain ⟨c0, c1, c2, c3, c4, c5, c6, c7⟩ := ROWS.out w3 HB3.out
  clear c0 c1 c2 c3 c4 c5 c6 c7
  go_wp2_with fail
  go_loopw [6, 7] (fun bv iv wr => ∃ k : Nat, k ≤ ev ∧ iv = .int .i64 k ∧ bv = .int .i64 (scanF q true (enoughV q) k : Nat) ∧ Below W0.heap.size W0 wr) (fun _ iv _ => ev - (intOf iv).toNat)
  case atStart => exact ⟨0, Nat.zero_le _, rfl, by rw [HSZ.out], HB3.out⟩
  case round =>
    obtain ⟨k, hk, rfl, rfl, hb⟩ := hrel
    have HB := Lib.hid hb
    clear hb
    obtain ⟨c0, c1, c2, c3, c4, c5, c6, c7⟩ := ROWS.out wr HB.out
    have hsk := HSC.out k hk
    have hbl := hsk.lt
    have hnx : scanF q true (enoughV q) (k + 1) = if lessW q true k (scanF q true (enoughV q) k) && enoughV q k then k else scanF q true (enoughV q) k := rfl
    have hwi : IntKind.i64.wrap ((k : Int) + 1) = ((k + 1 : Nat) : Int) := by rw [IntWalk.i64_in _ (by omega)]; omega
    go_wp2_with fail
    refine (every8_any HQ.out.m8 _ (HPA.out.later HB.out)).mono ?_
    rintro e w5 ⟨rfl, hb⟩
    have HB5 := Lib.hid (HB.out.trans (hb.mono HB.out.size))
    clear hb
    try dsimp only
    rw [← HEVS.out]
    by_cases hlt : k < ev
    case neg =>
      have hlti : ¬ (k : Int) < (ev : Int) := by omega
      have hltd : decide (k < ev) = false := decide_eq_false hlt
      have hke : k = ev := by omega
      obtain ⟨b, hbb⟩ : ∃ x, x = scanF q true (enoughV q) k := ⟨_, rfl⟩
      have HV2 := HVAL.out
      rw [← hke, ← hbb] at HV2
      rw [← hbb] at hbl ⊢
      have HV3 := Lib.hid HV2
      clear HV2 hke hnx hsk hbb
      clear c0 c1 c2 c3 c4 c5 c6 c7
      obtain ⟨c0, c1, c2, c3, c4, c5, c6, c7⟩ := ROWS.out w5 HB5.out
      go_wp2_with fail
      refine (price8_any HQ.out b (by omega) _ (HPA.out.later HB5.out)).mono ?_
      rintro e w6 ⟨rfl, hb⟩
      have HB6 := Lib.hid (HB5.out.trans (hb.mono HB5.out.size))
      clear hb
      try dsimp only
      clear c0 c1 c2 c3 c4 c5 c6 c7
      go_wp2_with fail
      refine bodyPost_ret (v := .tuple #[.int .i64 (b : Nat), .int .i64 (costV q b), .int .i64 0]) (by simp [results, Tryz.results17, go_sem]) rfl ⟨?_, HB0.out.trans (HB6.out.mono HB0.out.size)⟩
      rw [HV3.out]
    case pos =>
    have hls := scan_tie HQ.out hsk (by rw [← HEVS.out]; exact hlt)
    obtain ⟨b, hbb⟩ : ∃ x, x = scanF q true (enoughV q) k := ⟨_, rfl⟩
    rw [← hbb] at hnx hbl hls ⊢
    obtain ⟨a, ha⟩ : ∃ x, x = costV q k := ⟨_, rfl⟩
    obtain ⟨bb, hbp⟩ : ∃ x, x = costV q b := ⟨_, rfl⟩
    rw [show muchV q true k = a from ha.symm, show muchV q true b = bb from hbp.symm] at hls
    have HA := Lib.hid ha
    have HBP := Lib.hid hbp
    have hlti : (k : Int) < (ev : Int) := by omega
    have hltd : decide (k < ev) = true := decide_eq_true hlt
    have hkl : k < 2 ^ q.prices.length := by omega
    clear hsk hbb ha hbp c0 c1 c2 c3 c4 c5 c6 c7
    go_wp2_with fail
    refine wp_region_held_drew (S := fun W' => W'.cell? ⟨w.heap.size, 0, none⟩ = some (.slice aob q.pr.bs.length capb) ∧ W'.cell? ⟨w.heap.size, 1, none⟩ = some (.int .i64 q.pr.zl) ∧ W'.cell? ⟨w.heap.size, 2, none⟩ = some (.int .i64 q.pr.zh) ∧ W'.cell? ⟨w.heap.size, 3, none⟩ = some (.int .i64 q.pr.rl) ∧ W'.cell? ⟨w.heap.size, 4, none⟩ = some (.int .i64 q.pr.rh) ∧ W'.cell? ⟨w.heap.size, 5, none⟩ = some (.slice aor q.pr.rs.length capr) ∧ W'.cell? ⟨w.heap.size, 6, none⟩ = some (.int .i64 q.wide) ∧ W'.cell? ⟨w.heap.size, 7, none⟩ = some (.slice aop q.prices.length capp)) (by kernel_rfl) (ROWS.out _ HB5.out.drew) fun hS => ?_
    have HBD := Lib.hid HB5.out.drew
    refine wpAnyH_take (i := 0) (v := ?_) rfl (by kernel_rfl) (by kernel_rfl) (by kernel_rfl) (fun _ _ _ h => h) (Or.inl ⟨by rfl, ?_⟩) hS ?_
    rotate_left
    · (intro W hSw; obtain ⟨q0, q1, q2, q3, q4, q5, q6, q7⟩ := hSw; go_simp; try with_reducible rfl)
    try simp only [List.getElem_toArray, List.getElem_cons_succ, List.getElem_cons_zero, Act.put, List.setIfInBounds_toArray, List.set_cons_zero, List.set_cons_succ]
    refine wpAnyH_take (i := 1) (v := ?_) rfl (by kernel_rfl) (by kernel_rfl) (by kernel_rfl) (fun _ _ _ h => h) (Or.inl ⟨by rfl, ?_⟩) hS ?_
    rotate_left
    · (intro W hSw; obtain ⟨q0, q1, q2, q3, q4, q5, q6, q7⟩ := hSw; go_simp; try with_reducible rfl)
    try simp only [List.getElem_toArray, List.getElem_cons_succ, List.getElem_cons_zero, Act.put, List.setIfInBounds_toArray, List.set_cons_zero, List.set_cons_succ]
    refine wpAnyH_take (i := 3) (v := ?_) rfl (by kernel_rfl) (by kernel_rfl) (by kernel_rfl) (fun _ _ _ h => h) (Or.inl ⟨by rfl, ?_⟩) hS ?_
    rotate_left
    · (intro W hSw; obtain ⟨q0, q1, q2, q3, q4, q5, q6, q7⟩ := hSw; go_simp; try with_reducible rfl)
    try simp only [List.getElem_toArray, List.getElem_cons_succ, List.getElem_cons_zero, Act.put, List.setIfInBounds_toArray, List.set_cons_zero, List.set_cons_succ]
    refine wpAnyH_take (i := 4) (v := ?_) rfl (by kernel_rfl) (by kernel_rfl) (by kernel_rfl) (fun _ _ _ h => h) (Or.inl ⟨by rfl, ?_⟩) hS ?_
    rotate_left
    · (intro W hSw; obtain ⟨q0, q1, q2, q3, q4, q5, q6, q7⟩ := hSw; go_simp; try with_reducible rfl)
    try simp only [List.getElem_toArray, List.getElem_cons_succ, List.getElem_cons_zero, Act.put, List.setIfInBounds_toArray, List.set_cons_zero, List.set_cons_succ]
    refine wpAnyH_ready (rs := [2]) (by kernel_rfl) (by simp) ?_
    refine AllReadyH.cons rfl (fun K hK => ?_) AllReadyH.nil
    go_simp
    refine (price8_any HQ.out k (by omega) _ (HPA.out.later HBD.out)).mono ?_
    rintro e wa ⟨he, hb⟩
    rw [← HA.out] at he
    subst he
    have HBa := Lib.hid (HBD.out.trans (hb.mono HBD.out.size))
    clear hb
    dsimp only
    refine hK.out _ _ (ROWS.out _ HBa.out) (fun hS => ?_)
    clear hK K
    try simp only [List.getElem_toArray, List.getElem_cons_succ, List.getElem_cons_zero, Act.put, List.setIfInBounds_toArray, List.set_cons_zero, List.set_cons_succ]
    refine wpAnyH_ready (rs := [5]) (by kernel_rfl) (by simp) ?_
    refine AllReadyH.cons rfl (fun K hK => ?_) AllReadyH.nil
    go_simp
    refine (price8_any HQ.out b (by omega) _ (HPA.out.later HBa.out)).mono ?_
    rintro e wb ⟨he, hb⟩
    rw [← HBP.out] at he
    subst he
    have HBb := Lib.hid (HBa.out.trans (hb.mono HBa.out.size))
    clear hb
    dsimp only
    refine hK.out _ _ (ROWS.out _ HBb.out) (fun hS => ?_)
    clear hK K
    try simp only [List.getElem_toArray, List.getElem_cons_succ, List.getElem_cons_zero, Act.put, List.setIfInBounds_toArray, List.set_cons_zero, List.set_cons_succ]
    refine wpAnyH_take (i := 6) (v := ?_) rfl (by kernel_rfl) (by kernel_rfl) (by kernel_rfl) (fun _ _ _ h => h) (Or.inl ⟨by rfl, ?_⟩) hS ?_
    rotate_left
    · (intro W hSw; obtain ⟨q0, q1, q2, q3, q4, q5, q6, q7⟩ := hSw; go_simp; try with_reducible rfl)
    try simp only [List.getElem_toArray, List.getElem_cons_succ, List.getElem_cons_zero, Act.put, List.setIfInBounds_toArray, List.set_cons_zero, List.set_cons_succ]
    refine wpAnyH_take (i := 7) (v := ?_) rfl (by kernel_rfl) (by kernel_rfl) (by kernel_rfl) (fun _ _ _ h => h) (Or.inl ⟨by rfl, ?_⟩) hS ?_
    rotate_left
    · (intro W hSw; obtain ⟨q0, q1, q2, q3, q4, q5, q6, q7⟩ := hSw; go_simp; try with_reducible rfl)
    try simp only [List.getElem_toArray, List.getElem_cons_succ, List.getElem_cons_zero, Act.put, List.setIfInBounds_toArray, List.set_cons_zero, List.set_cons_succ]
    refine wpAnyH_done (by kernel_rfl) ?_ _
    clear hS
    obtain ⟨c0, c1, c2, c3, c4, c5, c6, c7⟩ := ROWS.out _ HBb.out
    by_cases h1 : a < bb
    · have h1d : decide (a < bb) = true := decide_eq_true h1
      rw [hls.2 (.inl h1), Bool.true_and] at hnx
      go_wp2_with fail
      cases he : enoughV q k with
      | true =>
        rw [he] at hnx
        have HE := Lib.hid he
        have HNX := Lib.hid hnx
        clear hnx hls he
        refine (renough_any HQ.out HT.out HLL.out k hkl _ (HPA.out.later HBb.out)).mono ?_
        rintro e w6 ⟨he, hb⟩
        rw [HE.out] at he
        try dsimp only at he
        subst he
        have HB6 := Lib.hid (HBb.out.trans (hb.mono HBb.out.size))
        clear hb
        try dsimp only
        clear c0 c1 c2 c3 c4 c5 c6 c7
        obtain ⟨c0, c1, c2, c3, c4, c5, c6, c7⟩ := ROWS.out w6 HB6.out
        go_wp2_with fail
        exact ⟨⟨k + 1, by omega, rfl, by rw [HNX.out]; rfl, HB6.out⟩, by simp [intOf]; omega⟩
      | false =>
        rw [he] at hnx
        have HE := Lib.hid he
        have HNX := Lib.hid hnx
        clear hnx hls he
        refine (renough_any HQ.out HT.out HLL.out k hkl _ (HPA.out.later HBb.out)).mono ?_
        rintro e w6 ⟨he, hb⟩
        rw [HE.out] at he
        try dsimp only at he
        subst he
        have HB6 := Lib.hid (HBb.out.trans (hb.mono HBb.out.size))
        clear hb
        try dsimp only
        clear c0 c1 c2 c3 c4 c5 c6 c7
        obtain ⟨c0, c1, c2, c3, c4, c5, c6, c7⟩ := ROWS.out w6 HB6.out
        go_wp2_with fail
        exact ⟨⟨k + 1, by omega, rfl, by rw [HNX.out]; rfl, HB6.out⟩, by simp [intOf]; omega⟩
    · have h1d : decide (a < bb) = false := decide_eq_false h1
      by_cases h2 : a = bb
      · by_cases h3 : ones k < ones b
        · have h3i : (ones k : Int) < (ones b : Int) := by omega
          rw [hls.2 (.inr ⟨h2, h3⟩), Bool.true_and] at hnx
          have HEQ := Lib.hid h2
          have h2e : (a == bb) = true := by rw [h2]; exact beq_self_eq_true bb
          clear h2 h3
          go_wp2_with fail
          refine (size8_any k (by omega) _).mono ?_
          rintro e wz ⟨rfl, rfl⟩
          try dsimp only
          go_wp2_with fail
          refine (size8_any b (by omega) _).mono ?_
          rintro e wz ⟨rfl, rfl⟩
          try dsimp only
          go_wp2_with fail
          cases he : enoughV q k with
          | true =>
            rw [he] at hnx
            have HE := Lib.hid he
            have HNX := Lib.hid hnx
            clear hnx hls he
            refine (renough_any HQ.out HT.out HLL.out k hkl _ (HPA.out.later HBb.out)).mono ?_
            rintro e w6 ⟨he, hb⟩
            rw [HE.out] at he
            try dsimp only at he
            subst he
            have HB6 := Lib.hid (HBb.out.trans (hb.mono HBb.out.size))
            clear hb
            try dsimp only
            clear c0 c1 c2 c3 c4 c5 c6 c7
            obtain ⟨c0, c1, c2, c3, c4, c5, c6, c7⟩ := ROWS.out w6 HB6.out
            go_wp2_with fail
            exact ⟨⟨k + 1, by omega, rfl, by rw [HNX.out]; rfl, HB6.out⟩, by simp [intOf]; omega⟩
          | false =>
            rw [he] at hnx
            have HE := Lib.hid he
            have HNX := Lib.hid hnx
            clear hnx hls he
            refine (renough_any HQ.out HT.out HLL.out k hkl _ (HPA.out.later HBb.out)).mono ?_
            rintro e w6 ⟨he, hb⟩
            rw [HE.out] at he
            try dsimp only at he
            subst he
            have HB6 := Lib.hid (HBb.out.trans (hb.mono HBb.out.size))
            clear hb
            try dsimp only
            clear c0 c1 c2 c3 c4 c5 c6 c7
            obtain ⟨c0, c1, c2, c3, c4, c5, c6, c7⟩ := ROWS.out w6 HB6.out
            go_wp2_with fail
            exact ⟨⟨k + 1, by omega, rfl, by rw [HNX.out]; rfl, HB6.out⟩, by simp [intOf]; omega⟩
        · have h3i : ¬ (ones k : Int) < (ones b : Int) := by omega
          have hlf : lessW q true k b = false := by
            cases hl : lessW q true k b with
            | false => rfl
            | true => have := hls.1 hl; omega
          rw [hlf, Bool.false_and] at hnx
          have HNX := Lib.hid hnx
          have h2e : (a == bb) = true := by rw [h2]; exact beq_self_eq_true bb
          clear h2 h3 hlf hnx hls
          go_wp2_with fail
          refine (size8_any k (by omega) _).mono ?_
          rintro e wz ⟨rfl, rfl⟩
          try dsimp only
          go_wp2_with fail
          clear c0 c1 c2 c3 c4 c5 c6 c7
          refine (size8_any b (by omega) _).mono ?_
          rintro e wz ⟨rfl, rfl⟩
          try dsimp only
          go_wp2_with fail
          exact ⟨⟨k + 1, by omega, rfl, by rw [HNX.out]; rfl, HBb.out⟩, by simp [intOf]; omega⟩
      · have h2e : (a == bb) = false := by rw [beq_eq_false_iff_ne]; exact h2
        have hlf : lessW q true k b = false := by
          cases hl : lessW q true k b with
          | false => rfl
          | true => have := hls.1 hl; omega
        rw [hlf, Bool.false_and] at hnx
        have HNX := Lib.hid hnx
        clear hlf hnx hls c0 c1 c2 c3 c4 c5 c6 c7
        go_wp2_with fail
        exact ⟨⟨k + 1, by omega, rfl, by rw [HNX.out]; rfl, HBb.out⟩, by simp [intOf]; omega⟩
set_option maxRecDepth 100000 in
set_option maxHeartbeats 4000000 in
theorem rneeded_any {q : PlanD} (hl : validP q = true → Light q) {bs rs ps : Value} (w : World) (hpa : PlanAt w q bs rs ps) :
    Calls Tryz.prog 19 #[.agg (planRow q bs rs ps)] w fun e w' => e = .returned (.tuple #[.int .i64 (neededV q).1, .int .i64 (neededV q).2]) ∧ Below w.heap.size w w' := by
  have HL := Lib.hid hl
  clear hl
  obtain ⟨aob, capb, hbv, _⟩ := id hpa.p.b
  obtain ⟨aor, capr, hrv, _⟩ := id hpa.p.r
  obtain ⟨aop, capp, hpv, _⟩ := id hpa.n
  subst hbv hrv hpv
  obtain ⟨W0, hW0⟩ : ∃ W0, W0 = w.alloc (.cells (planRow q (.slice aob q.pr.bs.length capb) (.slice aor q.pr.rs.length capr) (.slice aop q.prices.length capp)) 30 (0, 0)) := ⟨_, rfl⟩
  have hb0 : Below w.heap.size w W0 := by rw [hW0]; exact (Below.refl _ _).alloc (Nat.le_refl _) _
  have hr1 : W0.heap[w.heap.size]? = some (.cells (planRow q (.slice aob q.pr.bs.length capb) (.slice aor q.pr.rs.length capr) (.slice aop q.prices.length capp)) 30 (0, 0)) := by rw [hW0]; exact heap_alloc_at _ _ _ rfl
  have hsw : W0.heap.size = w.heap.size + 1 := by rw [hW0]; simp
  have HB0 := Lib.hid hb0
  have HR1 := Lib.hid hr1
  have HPA := Lib.hid (hpa.later hb0)
  have rows : ∀ W', Below W0.heap.size W0 W' → (W'.cell? ⟨w.heap.size, 0, none⟩ = some (.slice aob q.pr.bs.length capb) ∧ W'.cell? ⟨w.heap.size, 1, none⟩ = some (.int .i64 q.pr.zl) ∧ W'.cell? ⟨w.heap.size, 2, none⟩ = some (.int .i64 q.pr.zh) ∧
        W'.cell? ⟨w.heap.size, 3, none⟩ = some (.int .i64 q.pr.rl) ∧ W'.cell? ⟨w.heap.size, 4, none⟩ = some (.int .i64 q.pr.rh) ∧ W'.cell? ⟨w.heap.size, 5, none⟩ = some (.slice aor q.pr.rs.length capr) ∧ W'.cell? ⟨w.heap.size, 6, none⟩ = some (.int .i64 q.wide) ∧ W'.cell? ⟨w.heap.size, 7, none⟩ = some (.slice aop q.prices.length capp)) := fun W' hb => by
    have q1 := (hb.block w.heap.size (by omega)).trans hr1
    unfold planRow at q1
    refine ⟨?_, ?_, ?_, ?_, ?_, ?_, ?_, ?_⟩ <;> (rw [cell_of_row _ _ _ _ _ _ q1]; rfl)
  have ROWS := Lib.hid rows
  clear rows hb0 hr1 hpa
  unfold planRow at hW0 ⊢
  obtain ⟨c0, c1, c2, c3, c4, c5, c6, c7⟩ := ROWS.out W0 (Below.refl _ _)
  have HB1 : Hid (Below W0.heap.size W0 W0) := Lib.hid (Below.refl _ _)
  go_enter Tryz.func19, Tryz.ntmps19
  go_wp2_with fail
  rw [← hW0]
  clear hW0
  refine (rtold8_any HL.out _ (HPA.out.later HB1.out)).mono ?_
  rintro e w2 ⟨rfl, hb⟩
  have HB2 := Lib.hid (HB1.out.trans (hb.mono HB1.out.size))
  clear hb
  try dsimp only
  clear c0 c1 c2 c3 c4 c5 c6 c7
  obtain ⟨c0, c1, c2, c3, c4, c5, c6, c7⟩ := ROWS.out w2 HB2.out
  obtain ⟨er, her⟩ : ∃ x, x = errE q := ⟨_, rfl⟩
  rw [← her]
  by_cases hz : er = 0
  case neg =>
    have HV := Lib.hid (needed_err her.symm hz)
    have hz1 : (er != 0) = true := by simpa using hz
    have hz2 : (er == 0) = false := by rw [beq_eq_false_iff_ne]; exact hz
    clear her c0 c1 c2 c3 c4 c5 c6 c7
    go_wp2_with fail
    refine bodyPost_ret (v := .tuple #[.int .i64 0, .int .i64 er]) (by simp [results, Tryz.results19, go_sem]) rfl ⟨?_, HB0.out.trans (HB2.out.mono HB0.out.size)⟩
    rw [HV.out]
  case pos =>
  subst hz
  obtain ⟨hv, ht, hen⟩ := errE_zero her.symm
  have hq := OkQ.of hv
  have h256 := hq.p256
  have hm8 := hq.m8
  have hev := @everyV_lt q
  have HLL := Lib.hid (HL.out hv)
  have HT := Lib.hid ht
  have HQ := Lib.hid hq
  have HER := Lib.hid her
  have HEN := Lib.hid hen
  obtain ⟨ev, hevs⟩ : ∃ s, s = everyV q := ⟨_, rfl⟩
  have HEVS := Lib.hid hevs
  clear her hv ht hen hq
  have HVAL := Lib.hid (needed_ok HER.out.symm)
  obtain ⟨f, hf⟩ : ∃ f : Nat → Bool, f = fun i => !enoughV q (everyV q - 2 ^ i) := ⟨_, rfl⟩
  rw [← hf] at HVAL
  have HF : Hid (∀ k, f k = !enoughV q (ev - 2 ^ k)) := Lib.hid fun k => by rw [hf, hevs]
  rw [← hevs] at hev
  clear hevs hf
  go_wp2_with fail
  clear c0 c1 c2 c3 c4 c5 c6 c7
  go_loopw [5, 6] (fun ov iv wr => ∃ k : Nat, k ≤ q.prices.length ∧ iv = .int .i64 k ∧ ov = .int .i64 (setN f k : Nat) ∧ Below W0.heap.size W0 wr) (fun _ iv _ => q.prices.length - (intOf iv).toNat)
  case atStart => exact ⟨0, Nat.zero_le _, rfl, rfl, HB2.out⟩
  case round =>
    obtain ⟨k, hk, rfl, rfl, hb⟩ := hrel
    have HB := Lib.hid hb
    clear hb
    obtain ⟨c0, c1, c2, c3, c4, c5, c6, c7⟩ := ROWS.out wr HB.out
    have hwi : IntKind.i64.wrap ((k : Int) + 1) = ((k + 1 : Nat) : Int) := by rw [IntWalk.i64_in _ (by omega)]; omega
    by_cases hlt : k < q.prices.length
    case neg =>
      obtain rfl : k = q.prices.length := by omega
      clear c0 c1 c2 c3 c4 c5 c6
      go_wp2_with fail
      refine bodyPost_ret (v := .tuple #[.int .i64 (setN f q.prices.length : Nat), .int .i64 0]) (by simp [results, Tryz.results19, go_sem]) rfl ⟨?_, HB0.out.trans (HB.out.mono HB0.out.size)⟩
      rw [HVAL.out]
    case pos =>
    have hlti : (k : Int) < (q.prices.length : Int) := by omega
    have hsl := setN_lt f k
    have hp8 : 2 ^ k ≤ 2 ^ 8 := Nat.pow_le_pow_right (by decide) (by omega)
    have hpe : 2 ^ k ≤ ev := by
      have h1 : 2 ^ k < 2 ^ q.prices.length := Nat.pow_lt_pow_right (by decide) hlt
      have h2 := HEVS.out
      unfold everyV at h2
      omega
    have hnx := setN_add f k
    obtain ⟨st, hst⟩ : ∃ x, x = setN f k := ⟨_, rfl⟩
    obtain ⟨pw, hpw⟩ : ∃ x, x = 2 ^ k := ⟨_, rfl⟩
    rw [← hst] at hsl hnx
    rw [HF.out k, ← hpw] at hnx
    rw [← hpw] at hsl hp8 hpe
    rw [← hst]
    have HPW := Lib.hid hpw
    have hw1 : IntKind.i64.wrap ((ev : Int) - (pw : Int)) = ((ev - pw : Nat) : Int) := by rw [IntWalk.i64_in _ (by omega)]; omega
    have hw2 : IntKind.i64.wrap ((st : Int) + (pw : Int)) = ((st + pw : Nat) : Int) := by rw [IntWalk.i64_in _ (by omega)]; omega
    have hel : ev - pw < 2 ^ q.prices.length := by omega
    clear hst hpw
    go_wp2_with fail
    clear c0 c1 c2 c3 c4 c5 c6 c7
    refine wp_region_held_drew (S := fun W' => W'.cell? ⟨w.heap.size, 0, none⟩ = some (.slice aob q.pr.bs.length capb) ∧ W'.cell? ⟨w.heap.size, 1, none⟩ = some (.int .i64 q.pr.zl) ∧ W'.cell? ⟨w.heap.size, 2, none⟩ = some (.int .i64 q.pr.zh) ∧ W'.cell? ⟨w.heap.size, 3, none⟩ = some (.int .i64 q.pr.rl) ∧ W'.cell? ⟨w.heap.size, 4, none⟩ = some (.int .i64 q.pr.rh) ∧ W'.cell? ⟨w.heap.size, 5, none⟩ = some (.slice aor q.pr.rs.length capr) ∧ W'.cell? ⟨w.heap.size, 6, none⟩ = some (.int .i64 q.wide) ∧ W'.cell? ⟨w.heap.size, 7, none⟩ = some (.slice aop q.prices.length capp)) (by kernel_rfl) (ROWS.out _ HB.out.drew) fun hS => ?_
    have HBD := Lib.hid HB.out.drew
    refine wpAnyH_take (i := 0) (v := ?_) rfl (by kernel_rfl) (by kernel_rfl) (by kernel_rfl) (fun _ _ _ h => h) (Or.inl ⟨by rfl, ?_⟩) hS ?_
    rotate_left
    · (intro W hSw; obtain ⟨q0, q1, q2, q3, q4, q5, q6, q7⟩ := hSw; go_simp; try with_reducible rfl)
    try simp only [List.getElem_toArray, List.getElem_cons_succ, List.getElem_cons_zero, Act.put, List.setIfInBounds_toArray, List.set_cons_zero, List.set_cons_succ]
    refine wpAnyH_take (i := 1) (v := ?_) rfl (by kernel_rfl) (by kernel_rfl) (by kernel_rfl) (fun _ _ _ h => h) (Or.inl ⟨by rfl, ?_⟩) hS ?_
    rotate_left
    · (intro W hSw; obtain ⟨q0, q1, q2, q3, q4, q5, q6, q7⟩ := hSw; go_simp; try with_reducible rfl)
    try simp only [List.getElem_toArray, List.getElem_cons_succ, List.getElem_cons_zero, Act.put, List.setIfInBounds_toArray, List.set_cons_zero, List.set_cons_succ]
    refine wpAnyH_take (i := 3) (v := ?_) rfl (by kernel_rfl) (by kernel_rfl) (by kernel_rfl) (fun _ _ _ h => h) (Or.inl ⟨by rfl, ?_⟩) hS ?_
    rotate_left
    · (intro W hSw; obtain ⟨q0, q1, q2, q3, q4, q5, q6, q7⟩ := hSw; go_simp; try with_reducible rfl)
    try simp only [List.getElem_toArray, List.getElem_cons_succ, List.getElem_cons_zero, Act.put, List.setIfInBounds_toArray, List.set_cons_zero, List.set_cons_succ]
    refine wpAnyH_ready (rs := [2]) (by kernel_rfl) (by simp) ?_
    refine AllReadyH.cons rfl (fun K hK => ?_) AllReadyH.nil
    go_simp
    refine (every8_any HQ.out.m8 _ (HPA.out.later HBD.out)).mono ?_
    rintro e wa ⟨he, hb⟩
    rw [← HEVS.out] at he
    subst he
    have HBa := Lib.hid (HBD.out.trans (hb.mono HBD.out.size))
    clear hb
    try dsimp only
    refine hK.out _ _ (ROWS.out _ HBa.out) (fun hS => ?_)
    clear hK K
    try simp only [List.getElem_toArray, List.getElem_cons_succ, List.getElem_cons_zero, Act.put, List.setIfInBounds_toArray, List.set_cons_zero, List.set_cons_succ]
    refine wpAnyH_ready (rs := [4]) (by kernel_rfl) (by simp) ?_
    refine AllReadyH.cons rfl (fun K hK => ?_) AllReadyH.nil
    go_simp
    refine (power8_any k (by omega) _).mono ?_
    rintro e wz ⟨rfl, rfl⟩
    rw [← HPW.out]
    try dsimp only
    refine hK.out _ _ hS (fun hS => ?_)
    clear hK K
    try simp only [List.getElem_toArray, List.getElem_cons_succ, List.getElem_cons_zero, Act.put, List.setIfInBounds_toArray, List.set_cons_zero, List.set_cons_succ]
    refine wpAnyH_take (i := 5) (v := ?_) rfl (by kernel_rfl) (by kernel_rfl) (by kernel_rfl) (fun _ _ _ h => h) (Or.inl ⟨by rfl, ?_⟩) hS ?_
    rotate_left
    · (intro W hSw; obtain ⟨q0, q1, q2, q3, q4, q5, q6, q7⟩ := hSw; go_simp; try with_reducible rfl)
    try simp only [List.getElem_toArray, List.getElem_cons_succ, List.getElem_cons_zero, Act.put, List.setIfInBounds_toArray, List.set_cons_zero, List.set_cons_succ]
    cases he : enoughV q (ev - pw) with
    | true =>
      rw [he] at hnx
      have HE := Lib.hid he
      have HNX := Lib.hid hnx
      clear hnx he
      refine wpAnyH_ready (rs := [6]) (by kernel_rfl) (by simp) ?_
      refine AllReadyH.cons rfl (fun K hK => ?_) AllReadyH.nil
      go_simp
      refine (renough_any HQ.out HT.out HLL.out (ev - pw) hel _ (HPA.out.later HBa.out)).mono ?_
      rintro e wc ⟨he, hb⟩
      rw [HE.out] at he
      try dsimp only at he
      subst he
      have HBc := Lib.hid (HBa.out.trans (hb.mono HBa.out.size))
      clear hb
      try dsimp only
      refine hK.out _ _ (ROWS.out _ HBc.out) (fun hS => ?_)
      clear hK K
      try simp only [List.getElem_toArray, List.getElem_cons_succ, List.getElem_cons_zero, Act.put, List.setIfInBounds_toArray, List.set_cons_zero, List.set_cons_succ]
      refine wpAnyH_take (i := 7) (v := ?_) rfl (by kernel_rfl) (by kernel_rfl) (by kernel_rfl) (fun _ _ _ h => h) (Or.inl ⟨by rfl, ?_⟩) hS ?_
      rotate_left
      · (intro W hSw; obtain ⟨q0, q1, q2, q3, q4, q5, q6, q7⟩ := hSw; go_simp; try with_reducible rfl)
      try simp only [List.getElem_toArray, List.getElem_cons_succ, List.getElem_cons_zero, Act.put, List.setIfInBounds_toArray, List.set_cons_zero, List.set_cons_succ]
      refine wpAnyH_done (by kernel_rfl) ?_ _
      clear hS
      go_wp2_with fail
      exact ⟨⟨k + 1, by omega, rfl, by rw [HNX.out]; rfl, HBc.out⟩, by simp [intOf]; omega⟩
    | false =>
      rw [he] at hnx
      have HE := Lib.hid he
      have HNX := Lib.hid hnx
      clear hnx he
      refine wpAnyH_ready (rs := [6]) (by kernel_rfl) (by simp) ?_
      refine AllReadyH.cons rfl (fun K hK => ?_) AllReadyH.nil
      go_simp
      refine (renough_any HQ.out HT.out HLL.out (ev - pw) hel _ (HPA.out.later HBa.out)).mono ?_
      rintro e wc ⟨he, hb⟩
      rw [HE.out] at he
      try dsimp only at he
      subst he
      have HBc := Lib.hid (HBa.out.trans (hb.mono HBa.out.size))
      clear hb
      try dsimp only
      refine hK.out _ _ (ROWS.out _ HBc.out) (fun hS => ?_)
      clear hK K
      try simp only [List.getElem_toArray, List.getElem_cons_succ, List.getElem_cons_zero, Act.put, List.setIfInBounds_toArray, List.set_cons_zero, List.set_cons_succ]
      refine wpAnyH_take (i := 7) (v := ?_) rfl (by kernel_rfl) (by kernel_rfl) (by kernel_rfl) (fun _ _ _ h => h) (Or.inl ⟨by rfl, ?_⟩) hS ?_
      rotate_left
      · (intro W hSw; obtain ⟨q0, q1, q2, q3, q4, q5, q6, q7⟩ := hSw; go_simp; try with_reducible rfl)
      try simp only [List.getElem_toArray, List.getElem_cons_succ, List.getElem_cons_zero, Act.put, List.setIfInBounds_toArray, List.set_cons_zero, List.set_cons_succ]
      refine wpAnyH_done (by kernel_rfl) ?_ _
      clear hS
      go_wp2_with fail
      refine (power8_any k (by omega) _).mono ?_
      rintro e wz ⟨rfl, rfl⟩
      rw [← HPW.out]
      dsimp only
      go_wp2_with fail
      exact ⟨⟨k + 1, by omega, rfl, by rw [HNX.out]; rfl, HBc.out⟩, by simp [intOf]; omega⟩
end Go.Proofs.YtabbmihakoeegaaGreat

/- PlanLooks, walked. -/
namespace Go.Proofs.YtabbmihakoeegaaGreat
set_option linter.unusedVariables false
set_option linter.unusedSimpArgs false
open Go.RowKit Go.Shelf
attribute [local go_sem] Oper.semAt_some

set_option maxRecDepth 100000 in
set_option maxHeartbeats 8000000 in
theorem looksl_any (q : PlanD) (bs rs ps : Value) (w : World) (hpa : PlanAt w q bs rs ps) :
    Calls Tryz.prog 4 #[.agg (planRow q bs rs ps)] w fun e w' => e = .returned (.bool true) ∧ Below w.heap.size w w' := by
  obtain ⟨aob, capb, hbv, _⟩ := id hpa.p.b
  obtain ⟨aor, capr, hrv, _⟩ := id hpa.p.r
  obtain ⟨aop, capp, hpv, _⟩ := id hpa.n
  subst hbv hrv hpv
  obtain ⟨W0, hW0⟩ : ∃ W0, W0 = w.alloc (.cells (planRow q (.slice aob q.pr.bs.length capb) (.slice aor q.pr.rs.length capr) (.slice aop q.prices.length capp)) 30 (0, 0)) := ⟨_, rfl⟩
  have hb0 : Below w.heap.size w W0 := by rw [hW0]; exact (Below.refl _ _).alloc (Nat.le_refl _) _
  have hr1 : W0.heap[w.heap.size]? = some (.cells (planRow q (.slice aob q.pr.bs.length capb) (.slice aor q.pr.rs.length capr) (.slice aop q.prices.length capp)) 30 (0, 0)) := by rw [hW0]; exact heap_alloc_at _ _ _ rfl
  have hsw : W0.heap.size = w.heap.size + 1 := by rw [hW0]; simp
  have HB0 := Lib.hid hb0
  have HR1 := Lib.hid hr1
  have HPA := Lib.hid (hpa.later hb0)
  have rows : ∀ W', Below W0.heap.size W0 W' → (W'.cell? ⟨w.heap.size, 0, none⟩ = some (.slice aob q.pr.bs.length capb) ∧ W'.cell? ⟨w.heap.size, 1, none⟩ = some (.int .i64 q.pr.zl) ∧ W'.cell? ⟨w.heap.size, 2, none⟩ = some (.int .i64 q.pr.zh) ∧
        W'.cell? ⟨w.heap.size, 3, none⟩ = some (.int .i64 q.pr.rl) ∧ W'.cell? ⟨w.heap.size, 4, none⟩ = some (.int .i64 q.pr.rh) ∧ W'.cell? ⟨w.heap.size, 5, none⟩ = some (.slice aor q.pr.rs.length capr) ∧ W'.cell? ⟨w.heap.size, 6, none⟩ = some (.int .i64 q.wide) ∧ W'.cell? ⟨w.heap.size, 7, none⟩ = some (.slice aop q.prices.length capp)) := fun W' hb => by
    have q1 := (hb.block w.heap.size (by omega)).trans hr1
    unfold planRow at q1
    refine ⟨?_, ?_, ?_, ?_, ?_, ?_, ?_, ?_⟩ <;> (rw [cell_of_row _ _ _ _ _ _ q1]; rfl)
  have ROWS := Lib.hid rows
  clear rows hb0 hr1 hpa
  unfold planRow at hW0 ⊢
  obtain ⟨c0, c1, c2, c3, c4, c5, c6, c7⟩ := ROWS.out W0 (Below.refl _ _)
  have HB1 : Hid (Below W0.heap.size W0 W0) := Lib.hid (Below.refl _ _)
  go_enter Tryz.func4, Tryz.ntmps4
  go_wp2_with fail
  rw [← hW0]
  clear hW0
  refine (heavy8_any 400 W0 HPA.out).mono ?_
  rintro e w1 ⟨rfl, hb⟩
  have HB2 := Lib.hid (HB1.out.trans (hb.mono HB1.out.size))
  clear hb
  try dsimp only
  clear c0 c1 c2 c3 c4 c5 c6 c7
  obtain ⟨c0, c1, c2, c3, c4, c5, c6, c7⟩ := ROWS.out w1 HB2.out
  cases hh : heavyQ q 400 with
  | true =>
    go_wp2_with fail
    refine (awake_any _).mono ?_
    rintro e vz ⟨rfl, hb⟩
    have HBZ := Lib.hid (HB2.out.trans (hb.mono HB2.out.size))
    clear hb
    try dsimp only
    go_wp2
    go_ret
    exact ⟨rfl, HB0.out.trans (HBZ.out.mono HB0.out.size)⟩
  | false =>
  have HL : Hid (validP q = true → Light q) := Lib.hid (light_of (by decide) hh)
  have h60 := heavy_len hh
  clear hh
  obtain ⟨⟨a, e1⟩, h1⟩ : ∃ v, fewestV q = v := ⟨_, rfl⟩
  obtain ⟨⟨⟨c, d⟩, e2⟩, h2⟩ : ∃ v, cheapestV q = v := ⟨_, rfl⟩
  obtain ⟨⟨k, e3⟩, h3⟩ : ∃ v, neededV q = v := ⟨_, rfl⟩
  have F1 := Lib.hid h1
  have F2 := Lib.hid h2
  have F3 := Lib.hid h3
  clear h1 h2 h3
  go_wp2_with fail
  refine (fewestV_any (HPA.out.later HB2.out)).mono ?_
  rintro e w2 ⟨he, hb⟩
  rw [F1.out] at he
  try dsimp only at he
  subst he
  have HB3 := Lib.hid (HB2.out.trans (hb.mono HB2.out.size))
  clear hb
  try dsimp only
  clear c0 c1 c2 c3 c4 c5 c6 c7
  obtain ⟨c0, c1, c2, c3, c4, c5, c6, c7⟩ := ROWS.out w2 HB3.out
  go_wp2_with fail
  refine (rfewest_any HL.out _ (HPA.out.later HB3.out)).mono ?_
  rintro e w3 ⟨he, hb⟩
  rw [F1.out] at he
  try dsimp only at he
  subst he
  have HB4 := Lib.hid (HB3.out.trans (hb.mono HB3.out.size))
  clear hb
  try dsimp only
  clear c0 c1 c2 c3 c4 c5 c6 c7
  obtain ⟨c0, c1, c2, c3, c4, c5, c6, c7⟩ := ROWS.out w3 HB4.out
  go_wp2_with fail
  refine (cheapestV_any (HPA.out.later HB4.out)).mono ?_
  rintro e w4 ⟨he, hb⟩
  rw [F2.out] at he
  try dsimp only at he
  subst he
  have HB5 := Lib.hid (HB4.out.trans (hb.mono HB4.out.size))
  clear hb
  try dsimp only
  clear c0 c1 c2 c3 c4 c5 c6 c7
  obtain ⟨c0, c1, c2, c3, c4, c5, c6, c7⟩ := ROWS.out w4 HB5.out
  go_wp2_with fail
  refine (rcheapest_any HL.out _ (HPA.out.later HB5.out)).mono ?_
  rintro e w5 ⟨he, hb⟩
  rw [F2.out] at he
  try dsimp only at he
  subst he
  have HB6 := Lib.hid (HB5.out.trans (hb.mono HB5.out.size))
  clear hb
  try dsimp only
  clear c0 c1 c2 c3 c4 c5 c6 c7
  obtain ⟨c0, c1, c2, c3, c4, c5, c6, c7⟩ := ROWS.out w5 HB6.out
  go_wp2_with fail
  refine (neededV_any (HPA.out.later HB6.out)).mono ?_
  rintro e w6 ⟨he, hb⟩
  rw [F3.out] at he
  try dsimp only at he
  subst he
  have HB7 := Lib.hid (HB6.out.trans (hb.mono HB6.out.size))
  clear hb
  try dsimp only
  clear c0 c1 c2 c3 c4 c5 c6 c7
  obtain ⟨c0, c1, c2, c3, c4, c5, c6, c7⟩ := ROWS.out w6 HB7.out
  go_wp2_with fail
  refine (rneeded_any HL.out _ (HPA.out.later HB7.out)).mono ?_
  rintro e w7 ⟨he, hb⟩
  rw [F3.out] at he
  try dsimp only at he
  subst he
  have HB8 := Lib.hid (HB7.out.trans (hb.mono HB7.out.size))
  clear hb
  try dsimp only
  clear c0 c1 c2 c3 c4 c5 c6 c7
  obtain ⟨c0, c1, c2, c3, c4, c5, c6, c7⟩ := ROWS.out w7 HB8.out
  go_wp2_with fail
  refine (awake_any _).mono ?_
  rintro e vz ⟨rfl, hb⟩
  have HBZ := Lib.hid (HB8.out.trans (hb.mono HB8.out.size))
  clear hb
  try dsimp only
  go_wp2
  go_ret
  exact ⟨rfl, HB0.out.trans (HBZ.out.mono HB0.out.size)⟩
end Go.Proofs.YtabbmihakoeegaaGreat

/- PlanLooks: whatever the plan: the law returns true. No conditions. -/
namespace Go.Proofs.YtabbmihakoeegaaGreat
set_option linter.unusedVariables false
set_option linter.unusedSimpArgs false
open Go.ChangeShapes Go.WideShapes Go.ChangeAt Go.RowKit

set_option maxRecDepth 100000 in
theorem planLooks_lifted (os : Os) (started : os.Started) (H : Type) (enc : TypeId × Value → H) :
    ReturnsInHanded {} Tryz.checked os 4 .any (Rows.planLooksSpec.pre6 enc Tryz.prog Tryz.f4 Rows.planLooksRow.domain false) (Rows.planLooksSpec.post enc Tryz.prog Tryz.f4 false true false false) := by
  refine returnsInHanded_of_change (C := Tryz.checked) own_knob started (by kernel_rfl) Tryz.func4
    (ChangeSpec.witness6 (enc := enc) (C := Tryz.checked) false ⟨#[], #[.agg #[.slice none 0 0, .int .i64 0, .int .i64 0, .int .i64 0, .int .i64 0, .slice none 0 0, .int .i64 0, .slice none 0 0]], []⟩ 8 (by kernel_rfl) (by kernel_rfl) (by kernel_rfl) (by kernel_rfl)) ?_
  intro W base args ds gs before hval0 hW hcnd _
  have hval : ∀ (j : Nat) t v, Tryz.f4.params[j]? = some t → args[j]? = some v → Value.okWide Tryz.prog W .any base t v := hval0
  have hW' := hW
  obtain ⟨p, q, hA0, hV, rfl, hfz, hnd⟩ := hW
  have hA : DataW.TrodAll enc Tryz.prog W 0 (fun _ => true) true Tryz.f4.params.toList args.toList ds p := hA0
  rw [Tryz.params4] at hA hval
  obtain ⟨rfl, rfl⟩ := trodVars_none hV
  clear hA0 hval0
  simp only [List.append_nil] at hW'
  have hst := hA
  obtain ⟨v0, d0, rfl, rfl, h0⟩ := trodAll_one hA
  obtain ⟨qd, bs, rs, pv, rfl, hpa⟩ := open_plan (hval 0 _ _ rfl rfl) h0
  refine (looksl_any qd bs rs pv W hpa).mono fun e W' ⟨he, hb⟩ => ?_
  subst he
  exact ⟨_, rfl, lawEnd hW' rfl hst rfl (by decide +kernel) rfl rfl hb⟩
theorem planLooks_over : Rows.planLooksRow.holds Tryz.pinned (OpenSpec.ofChange Rows.planLooksSpec) :=
  OpenClaim.holds_of_wide 4 Tryz.f4 rfl rfl rfl rfl rfl rfl rfl ⟨rfl, rfl, rfl, rfl, rfl⟩ rfl rfl rfl rfl rfl (by kernel_rfl) Tryz.func4 (by kernel_rfl)
    (of_decide_eq_true (by kernel_rfl)) (by unfold Func.isWrapper; first | (rw [if_pos (by decide +kernel)]; kernel_rfl) | (rw [if_neg (by decide +kernel)]; exact ⟨rfl, rfl⟩))
    (fun os started H enc _ => planLooks_lifted os started H enc)
/-- The statement. -/
theorem plan_looks : Rows.PlanLooksSaid := planLooks_over

end Go.Proofs.YtabbmihakoeegaaGreat
