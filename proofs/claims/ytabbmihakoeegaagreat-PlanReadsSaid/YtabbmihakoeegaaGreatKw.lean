/- Texts Qm, Qr, Qs in one file; each begins with a word on what it proves. -/
import Derived.Test.YtabbmihakoeegaaGreatKv
import Derived.Test.YtabbmihakoeegaaGreatKn

/- The reference: Blocks, Best. -/
namespace Go.Proofs.YtabbmihakoeegaaGreat
set_option linter.unusedVariables false
set_option linter.unusedSimpArgs false
open Go.RowKit Go.Shelf
attribute [local go_sem] Oper.semAt_some

set_option maxRecDepth 100000 in
set_option maxHeartbeats 2000000 in
theorem every60_any {q : PlanD} (hq : q.prices.length ≤ 60) {bs rs ps : Value} (w : World) (hpa : PlanAt w q bs rs ps) :
    Calls Tryz.prog 26 #[.agg (planRow q bs rs ps)] w fun e w' => e = .returned (.int .i64 (everyV q : Nat)) ∧ Below w.heap.size w w' := by
  obtain ⟨aob, capb, hbv, _⟩ := id hpa.p.b
  obtain ⟨aor, capr, hrv, _⟩ := id hpa.p.r
  obtain ⟨aop, capp, hpv, _⟩ := id hpa.n
  subst hbv hrv hpv
  obtain ⟨W0, hW0⟩ : ∃ W0, W0 = w.alloc (.cells (planRow q (.slice aob q.pr.bs.length capb) (.slice aor q.pr.rs.length capr) (.slice aop q.prices.length capp)) 30 (0, 0)) := ⟨_, rfl⟩
  have hb0 : Below w.heap.size w W0 := by rw [hW0]; exact (Below.refl _ _).alloc (Nat.le_refl _) _
  have hr1 : W0.heap[w.heap.size]? = some (.cells (planRow q (.slice aob q.pr.bs.length capb) (.slice aor q.pr.rs.length capr) (.slice aop q.prices.length capp)) 30 (0, 0)) := by rw [hW0]; exact heap_alloc_at _ _ _ rfl
  have hsw : W0.heap.size = w.heap.size + 1 := by rw [hW0]; simp
  have HB0 := Lib.hid hb0
  have HR1 := Lib.hid hr1
  have HPA := Lib.hid (hpa.later hb0)
  have rows : ∀ W', Below W0.heap.size W0 W' → (W'.cell? ⟨w.heap.size, 0, none⟩ = some (.slice aob q.pr.bs.length capb) ∧ W'.cell? ⟨w.heap.size, 1, none⟩ = some (.int .i64 q.pr.zl) ∧ W'.cell? ⟨w.heap.size, 2, none⟩ = some (.int .i64 q.pr.zh) ∧
        W'.cell? ⟨w.heap.size, 3, none⟩ = some (.int .i64 q.pr.rl) ∧ W'.cell? ⟨w.heap.size, 4, none⟩ = some (.int .i64 q.pr.rh) ∧ W'.cell? ⟨w.heap.size, 5, none⟩ = some (.slice aor q.pr.rs.length capr) ∧ W'.cell? ⟨w.heap.size, 6, none⟩ = some (.int .i64 q.wide) ∧ W'.cell? ⟨w.heap.size, 7, none⟩ = some (.slice aop q.prices.length capp)) := fun W' hb => by
    have q1 := (hb.block w.heap.size (by omega)).trans hr1
    unfold planRow at q1
    refine ⟨?_, ?_, ?_, ?_, ?_, ?_, ?_, ?_⟩ <;> (rw [cell_of_row _ _ _ _ _ _ q1]; rfl)
  have ROWS := Lib.hid rows
  clear rows hb0 hr1 hpa
  unfold planRow at hW0 ⊢
  obtain ⟨c0, c1, c2, c3, c4, c5, c6, c7⟩ := ROWS.out W0 (Below.refl _ _)
  go_enter Tryz.func26, Tryz.ntmps26
  go_wp2_with fail
  rw [← hW0]
  refine (power8_any q.prices.length (by omega) W0).mono ?_
  rintro e w' ⟨rfl, rfl⟩
  have hp2 : 2 ^ q.prices.length ≤ 2 ^ 60 := Nat.pow_le_pow_right (by decide) hq
  have hpos := Nat.two_pow_pos q.prices.length
  have HE : Hid (everyV q = 2 ^ q.prices.length - 1) := Lib.hid rfl
  obtain ⟨n, hn⟩ : ∃ n, n = 2 ^ q.prices.length := ⟨_, rfl⟩
  rw [← hn] at hp2 hpos HE ⊢
  have hw : IntKind.i64.wrap ((n : Int) - 1) = ((n - 1 : Nat) : Int) := by rw [IntWalk.i64_in _ (by omega)]; omega
  clear hn hW0 hp2
  dsimp only
  go_wp2
  go_ret
  exact ⟨by rw [HE.out]; rfl, HB0.out⟩
set_option maxRecDepth 100000 in
set_option maxHeartbeats 4000000 in
theorem rblocks_any {q : PlanD} (hl : validP q = true → Light q) (h60 : q.prices.length ≤ 60) {bs rs ps : Value} (n : Int) (w : World) (hpa : PlanAt w q bs rs ps) :
    Calls Tryz.prog 11 #[.agg (planRow q bs rs ps), .int .i64 n] w fun e w' => e = .returned (.tuple #[.int .i64 (blocksV q n).1.1, .int .i64 (blocksV q n).1.2, .int .i64 (blocksV q n).2]) ∧ Below w.heap.size w w' := by
  have HL := Lib.hid hl
  clear hl
  obtain ⟨aob, capb, hbv, _⟩ := id hpa.p.b
  obtain ⟨aor, capr, hrv, _⟩ := id hpa.p.r
  obtain ⟨aop, capp, hpv, _⟩ := id hpa.n
  subst hbv hrv hpv
  obtain ⟨W0, hW0⟩ : ∃ W0, W0 = w.alloc (.cells (planRow q (.slice aob q.pr.bs.length capb) (.slice aor q.pr.rs.length capr) (.slice aop q.prices.length capp)) 30 (0, 0)) := ⟨_, rfl⟩
  have hb0 : Below w.heap.size w W0 := by rw [hW0]; exact (Below.refl _ _).alloc (Nat.le_refl _) _
  have hr1 : W0.heap[w.heap.size]? = some (.cells (planRow q (.slice aob q.pr.bs.length capb) (.slice aor q.pr.rs.length capr) (.slice aop q.prices.length capp)) 30 (0, 0)) := by rw [hW0]; exact heap_alloc_at _ _ _ rfl
  have hsw : W0.heap.size = w.heap.size + 1 := by rw [hW0]; simp
  have HB0 := Lib.hid hb0
  have HR1 := Lib.hid hr1
  have HPA := Lib.hid (hpa.later hb0)
  have rows : ∀ W', Below W0.heap.size W0 W' → (W'.cell? ⟨w.heap.size, 0, none⟩ = some (.slice aob q.pr.bs.length capb) ∧ W'.cell? ⟨w.heap.size, 1, none⟩ = some (.int .i64 q.pr.zl) ∧ W'.cell? ⟨w.heap.size, 2, none⟩ = some (.int .i64 q.pr.zh) ∧
        W'.cell? ⟨w.heap.size, 3, none⟩ = some (.int .i64 q.pr.rl) ∧ W'.cell? ⟨w.heap.size, 4, none⟩ = some (.int .i64 q.pr.rh) ∧ W'.cell? ⟨w.heap.size, 5, none⟩ = some (.slice aor q.pr.rs.length capr) ∧ W'.cell? ⟨w.heap.size, 6, none⟩ = some (.int .i64 q.wide) ∧ W'.cell? ⟨w.heap.size, 7, none⟩ = some (.slice aop q.prices.length capp)) := fun W' hb => by
    have q1 := (hb.block w.heap.size (by omega)).trans hr1
    unfold planRow at q1
    refine ⟨?_, ?_, ?_, ?_, ?_, ?_, ?_, ?_⟩ <;> (rw [cell_of_row _ _ _ _ _ _ q1]; rfl)
  have ROWS := Lib.hid rows
  clear rows hb0 hr1 hpa
  unfold planRow at hW0 ⊢
  obtain ⟨c0, c1, c2, c3, c4, c5, c6, c7⟩ := ROWS.out W0 (Below.refl _ _)
  have HB1 : Hid (Below W0.heap.size W0 W0) := Lib.hid (Below.refl _ _)
  go_enter Tryz.func11, Tryz.ntmps11
  go_wp2_with fail
  rw [← hW0]
  clear hW0
  clear c0 c1 c2 c3 c4 c5 c6 c7
  refine wp_region_held_drew (S := fun W' => W'.cell? ⟨w.heap.size, 0, none⟩ = some (.slice aob q.pr.bs.length capb) ∧ W'.cell? ⟨w.heap.size, 1, none⟩ = some (.int .i64 q.pr.zl) ∧ W'.cell? ⟨w.heap.size, 2, none⟩ = some (.int .i64 q.pr.zh) ∧ W'.cell? ⟨w.heap.size, 3, none⟩ = some (.int .i64 q.pr.rl) ∧ W'.cell? ⟨w.heap.size, 4, none⟩ = some (.int .i64 q.pr.rh) ∧ W'.cell? ⟨w.heap.size, 5, none⟩ = some (.slice aor q.pr.rs.length capr) ∧ W'.cell? ⟨w.heap.size, 6, none⟩ = some (.int .i64 q.wide) ∧ W'.cell? ⟨w.heap.size, 7, none⟩ = some (.slice aop q.prices.length capp)) (by kernel_rfl) (ROWS.out _ HB1.out.drew) fun hS => ?_
  have HBD := Lib.hid HB1.out.drew
  refine wpAnyH_take (i := 0) (v := ?_) rfl (by kernel_rfl) (by kernel_rfl) (by kernel_rfl) (fun _ _ _ h => h) (Or.inl ⟨by rfl, ?_⟩) hS ?_
  rotate_left
  · (intro W hSw; obtain ⟨q0, q1, q2, q3, q4, q5, q6, q7⟩ := hSw; go_simp; try with_reducible rfl)
  try simp only [List.getElem_toArray, List.getElem_cons_succ, List.getElem_cons_zero, Act.put, List.setIfInBounds_toArray, List.set_cons_zero, List.set_cons_succ]
  refine wpAnyH_take (i := 1) (v := ?_) rfl (by kernel_rfl) (by kernel_rfl) (by kernel_rfl) (fun _ _ _ h => h) (Or.inl ⟨by rfl, ?_⟩) hS ?_
  rotate_left
  · (intro W hSw; obtain ⟨q0, q1, q2, q3, q4, q5, q6, q7⟩ := hSw; go_simp; try with_reducible rfl)
  try simp only [List.getElem_toArray, List.getElem_cons_succ, List.getElem_cons_zero, Act.put, List.setIfInBounds_toArray, List.set_cons_zero, List.set_cons_succ]
  refine wpAnyH_take (i := 2) (v := ?_) rfl (by kernel_rfl) (by kernel_rfl) (by kernel_rfl) (fun _ _ _ h => h) (Or.inl ⟨by rfl, ?_⟩) hS ?_
  rotate_left
  · (intro W hSw; obtain ⟨q0, q1, q2, q3, q4, q5, q6, q7⟩ := hSw; go_simp; try with_reducible rfl)
  try simp only [List.getElem_toArray, List.getElem_cons_succ, List.getElem_cons_zero, Act.put, List.setIfInBounds_toArray, List.set_cons_zero, List.set_cons_succ]
  refine wpAnyH_ready (rs := [3]) (by kernel_rfl) (by simp) ?_
  refine AllReadyH.cons rfl (fun K hK => ?_) AllReadyH.nil
  go_simp
  refine (every60_any h60 _ (HPA.out.later HBD.out)).mono ?_
  rintro e w2 ⟨rfl, hb⟩
  have HB2 := Lib.hid (HBD.out.trans (hb.mono HBD.out.size))
  clear hb
  try dsimp only
  refine hK.out _ _ (ROWS.out _ HB2.out) (fun hS => ?_)
  clear hK K
  try simp only [List.getElem_toArray, List.getElem_cons_succ, List.getElem_cons_zero, Act.put, List.setIfInBounds_toArray, List.set_cons_zero, List.set_cons_succ]
  refine wpAnyH_ready (rs := [4]) (by kernel_rfl) (by simp) ?_
  refine AllReadyH.cons rfl (fun K hK => ?_) AllReadyH.nil
  go_simp
  refine (rin8_any _ _ _ _).mono ?_
  rintro e wz ⟨rfl, rfl⟩
  dsimp only
  refine hK.out _ _ hS (fun hS => ?_)
  clear hK K
  try simp only [List.getElem_toArray, List.getElem_cons_succ, List.getElem_cons_zero, Act.put, List.setIfInBounds_toArray, List.set_cons_zero, List.set_cons_succ]
  refine wpAnyH_ready (rs := [5]) (by kernel_rfl) (by simp) ?_
  refine AllReadyH.cons rfl (fun K hK => ?_) AllReadyH.nil
  go_simp
  refine (rcheck_any HL.out _ _ (HPA.out.later HB2.out)).mono ?_
  rintro e w3 ⟨rfl, hb⟩
  have HB3 := Lib.hid (HB2.out.trans (hb.mono HB2.out.size))
  clear hb
  try dsimp only
  refine hK.out _ _ (ROWS.out _ HB3.out) (fun hS => ?_)
  clear hK K
  try simp only [List.getElem_toArray, List.getElem_cons_succ, List.getElem_cons_zero, Act.put, List.setIfInBounds_toArray, List.set_cons_zero, List.set_cons_succ]
  refine wpAnyH_take (i := 6) (v := ?_) rfl (by kernel_rfl) (by kernel_rfl) (by kernel_rfl) (fun _ _ _ h => h) (Or.inl ⟨by rfl, ?_⟩) hS ?_
  rotate_left
  · (intro W hSw; obtain ⟨q0, q1, q2, q3, q4, q5, q6, q7⟩ := hSw; go_simp; try with_reducible rfl)
  try simp only [List.getElem_toArray, List.getElem_cons_succ, List.getElem_cons_zero, Act.put, List.setIfInBounds_toArray, List.set_cons_zero, List.set_cons_succ]
  refine wpAnyH_done (by kernel_rfl) ?_ _
  clear hS
  obtain ⟨er, her⟩ : ∃ x, x = errP q (inB n 0 (everyV q : Int)) := ⟨_, rfl⟩
  rw [← her]
  have her2 : errP q (isSetV q n) = er := her.symm
  by_cases hz : er = 0
  case neg =>
    have HV := Lib.hid (blocks_err her2 hz)
    have hz1 : (er != 0) = true := by simpa using hz
    have hz2 : (er == 0) = false := by rw [beq_eq_false_iff_ne]; exact hz
    clear her her2
    go_wp2_with fail
    refine bodyPost_ret (v := .tuple #[.int .i64 0, .int .i64 0, .int .i64 er]) (by simp [results, Tryz.results11, go_sem]) rfl ⟨?_, HB0.out.trans (HB3.out.mono HB0.out.size)⟩
    rw [HV.out]
  case pos =>
  subst hz
  obtain ⟨hv, ho, ht⟩ := errP_zero her2
  have HVAL := Lib.hid (blocks_ok her2)
  have hq := OkQ.of hv
  have hn0 : 0 ≤ n ∧ n ≤ (everyV q : Nat) := by unfold isSetV inB at ho; simpa using ho
  have hev := @everyV_lt q
  have h256 := hq.p256
  have hn5 := (OkP.of _ hq.pr).n5
  obtain ⟨s, hs⟩ : ∃ s : Nat, s = n.toNat := ⟨_, rfl⟩
  have hns : n = (s : Int) := by omega
  have hsl : s < 2 ^ q.prices.length := by omega
  rw [← hs] at HVAL
  subst hns
  have HIN : Hid (∀ i, 0 ≤ widB q.pr s i ∧ widB q.pr s i ≤ 80) := Lib.hid fun i => widB_40 hq.pr s i (truA_of_every hq ht s)
  have HLL := Lib.hid (HL.out hv)
  have HT := Lib.hid ht
  have HQ := Lib.hid hq
  clear hv ho ht her her2 hq hn0 hs hev
  obtain ⟨c0, c1, c2, c3, c4, c5, c6, c7⟩ := ROWS.out _ HB3.out
  go_wp2_with fail
  refine (wide8_any HQ.out HT.out HLL.out s hsl _ (HPA.out.later HB3.out)).mono ?_
  rintro e u1 ⟨v, rfl, hn, hb⟩
  have HB4 := Lib.hid (HB3.out.trans (hb.mono HB3.out.size))
  obtain ⟨av, cv, hv', _⟩ := id hn
  rw [show (widsN q s q.pr.bs.length).length = q.pr.bs.length by unfold widsN; rw [List.length_map, List.length_range]] at hv'
  subst hv'
  have HN := Lib.hid hn.low
  have hzu := HB4.out.size
  clear hb hn c0 c1 c2 c3 c4 c5 c6 c7
  dsimp only
  go_wp2_with fail
  go_loopw [9, 10] (fun nv iv wr => ∃ i : Nat, i ≤ q.pr.bs.length ∧ iv = .int .i64 i ∧ nv = .int .i64 (setN (fun b => decide (widB q.pr s b ≤ q.wide)) i : Nat) ∧ Below u1.heap.size u1 wr) (fun _ iv _ => q.pr.bs.length - (intOf iv).toNat)
  case atStart => exact ⟨0, Nat.zero_le _, rfl, rfl, Below.refl _ _⟩
  case round =>
    obtain ⟨i, hi, rfl, rfl, hb⟩ := hrel
    have HBi := Lib.hid hb
    have HB := Lib.hid (HB4.out.trans (hb.mono HB4.out.size))
    have hzr := hb.size
    clear hb
    obtain ⟨c0, c1, c2, c3, c4, c5, c6, c7⟩ := ROWS.out wr HB.out
    by_cases hlt : i < q.pr.bs.length
    · have hlti : (i : Int) < (q.pr.bs.length : Int) := by omega
      have hltd : decide ((i : Int) < (q.pr.bs.length : Int)) = true := decide_eq_true hlti
      have hwi : IntKind.i64.wrap ((i : Int) + 1) = ((i + 1 : Nat) : Int) := by rw [IntWalk.i64_in _ (by omega)]; omega
      obtain ⟨ao', cap', he, _, _, hel⟩ := HN.out
      obtain ⟨rfl, -, rfl⟩ := Value.slice.inj he
      clear he
      obtain ⟨lb, lo, rfl, _, hll, e1⟩ := hel i (by unfold widsN; rw [List.length_map, List.length_range]; exact hlt)
      rw [show (widsN q s q.pr.bs.length)[i]'(by unfold widsN; rw [List.length_map, List.length_range]; exact hlt) = widB q.pr s i by unfold widsN; rw [List.getElem_map, List.getElem_range]] at e1
      have e2 := (HBi.out.cell (p := ⟨lb, lo + i, none⟩) hll).trans e1
      have hst32 := setN_lt (fun b => decide (widB q.pr s b ≤ q.wide)) i
      have h32 : 2 ^ i ≤ 2 ^ 5 := Nat.pow_le_pow_right (show 0 < 2 by decide) (by omega)
      have hnx := setN_add (fun b => decide (widB q.pr s b ≤ q.wide)) i
      obtain ⟨st, hst⟩ : ∃ x, x = setN (fun b => decide (widB q.pr s b ≤ q.wide)) i := ⟨_, rfl⟩
      obtain ⟨wb, hwb⟩ : ∃ x, x = widB q.pr s i := ⟨_, rfl⟩
      obtain ⟨pw, hpw⟩ : ∃ x, x = 2 ^ i := ⟨_, rfl⟩
      rw [← hst, ← hpw] at hst32
      rw [← hpw] at h32
      rw [← hst, ← hwb, ← hpw] at hnx
      rw [← hwb] at e2
      rw [← hst]
      have HPW := Lib.hid hpw
      have hws : IntKind.i64.wrap ((st : Int) + (pw : Int)) = ((st + pw : Nat) : Int) := by rw [IntWalk.i64_in _ (by omega)]; omega
      by_cases hle : wb ≤ q.wide
      · rw [decide_eq_true hle] at hnx
        have HNX := Lib.hid hnx
        clear hel hst hwb hnx e1 hpw
        go_wp2_with fail
        go_quiet (fail)
        go_wp2_with fail
        refine (power8_any i (by omega) _).mono ?_
        rintro e w' ⟨rfl, rfl⟩
        rw [← HPW.out]
        dsimp only
        clear e2 c0 c1 c2 c3 c4 c5 c6 c7
        go_wp2_with fail
        exact ⟨⟨i + 1, by omega, rfl, by rw [HNX.out]; rfl, HBi.out.trans (below_drewS (Below.refl _ _) _)⟩, by simp [intOf]; omega⟩
      · rw [decide_eq_false hle] at hnx
        have HNX := Lib.hid hnx
        clear hel hst hwb hnx e1 hpw
        go_wp2_with fail
        go_quiet (fail)
        clear e2 c0 c1 c2 c3 c4 c5 c6 c7
        go_wp2_with fail
        exact ⟨⟨i + 1, by omega, rfl, by rw [HNX.out]; rfl, HBi.out.trans (below_drewS (Below.refl _ _) _)⟩, by simp [intOf]; omega⟩
    · obtain rfl : i = q.pr.bs.length := by omega
      go_wp2_with fail
      refine (rwidest_any HQ.out HT.out HLL.out s hsl _ (HPA.out.later HB.out)).mono ?_
      rintro e w9 ⟨rfl, hb⟩
      have HB9 := Lib.hid (HB.out.trans (hb.mono HB.out.size))
      clear hb
      try dsimp only
      clear c0 c1 c2 c3 c4 c5 c6 c7
      go_wp2_with fail
      refine bodyPost_ret (v := .tuple #[.int .i64 (setN (fun b => decide (widB q.pr s b ≤ q.wide)) q.pr.bs.length : Nat), .int .i64 (widestV q.pr s), .int .i64 0]) (by simp [results, Tryz.results11, go_sem]) rfl ⟨?_, HB0.out.trans (HB9.out.mono HB0.out.size)⟩
      rw [HVAL.out]
set_option maxRecDepth 100000 in
set_option maxHeartbeats 4000000 in
theorem rbest_any {q : PlanD} (hl : validP q = true → Light q) {bs rs ps : Value} (n : Int) (w : World) (hpa : PlanAt w q bs rs ps) :
    Calls Tryz.prog 13 #[.agg (planRow q bs rs ps), .int .i64 n] w fun e w' => e = .returned (.tuple #[.int .i64 (bestPlV q n).1.1, .int .i64 (bestPlV q n).1.2, .int .i64 (bestPlV q n).2]) ∧ Below w.heap.size w w' := by
  have HL := Lib.hid hl
  clear hl
  obtain ⟨aob, capb, hbv, _⟩ := id hpa.p.b
  obtain ⟨aor, capr, hrv, _⟩ := id hpa.p.r
  obtain ⟨aop, capp, hpv, _⟩ := id hpa.n
  subst hbv hrv hpv
  obtain ⟨W0, hW0⟩ : ∃ W0, W0 = w.alloc (.cells (planRow q (.slice aob q.pr.bs.length capb) (.slice aor q.pr.rs.length capr) (.slice aop q.prices.length capp)) 30 (0, 0)) := ⟨_, rfl⟩
  have hb0 : Below w.heap.size w W0 := by rw [hW0]; exact (Below.refl _ _).alloc (Nat.le_refl _) _
  have hr1 : W0.heap[w.heap.size]? = some (.cells (planRow q (.slice aob q.pr.bs.length capb) (.slice aor q.pr.rs.length capr) (.slice aop q.prices.length capp)) 30 (0, 0)) := by rw [hW0]; exact heap_alloc_at _ _ _ rfl
  have hsw : W0.heap.size = w.heap.size + 1 := by rw [hW0]; simp
  have HB0 := Lib.hid hb0
  have HR1 := Lib.hid hr1
  have HPA := Lib.hid (hpa.later hb0)
  have rows : ∀ W', Below W0.heap.size W0 W' → (W'.cell? ⟨w.heap.size, 0, none⟩ = some (.slice aob q.pr.bs.length capb) ∧ W'.cell? ⟨w.heap.size, 1, none⟩ = some (.int .i64 q.pr.zl) ∧ W'.cell? ⟨w.heap.size, 2, none⟩ = some (.int .i64 q.pr.zh) ∧
        W'.cell? ⟨w.heap.size, 3, none⟩ = some (.int .i64 q.pr.rl) ∧ W'.cell? ⟨w.heap.size, 4, none⟩ = some (.int .i64 q.pr.rh) ∧ W'.cell? ⟨w.heap.size, 5, none⟩ = some (.slice aor q.pr.rs.length capr) ∧ W'.cell? ⟨w.heap.size, 6, none⟩ = some (.int .i64 q.wide) ∧ W'.cell? ⟨w.heap.size, 7, none⟩ = some (.slice aop q.prices.length capp)) := fun W' hb => by
    have q1 := (hb.block w.heap.size (by omega)).trans hr1
    unfold planRow at q1
    refine ⟨?_, ?_, ?_, ?_, ?_, ?_, ?_, ?_⟩ <;> (rw [cell_of_row _ _ _ _ _ _ q1]; rfl)
  have ROWS := Lib.hid rows
  clear rows hb0 hr1 hpa
  unfold planRow at hW0 ⊢
  obtain ⟨c0, c1, c2, c3, c4, c5, c6, c7⟩ := ROWS.out W0 (Below.refl _ _)
  have HB1 : Hid (Below W0.heap.size W0 W0) := Lib.hid (Below.refl _ _)
  go_enter Tryz.func13, Tryz.ntmps13
  go_wp2_with fail
  rw [← hW0]
  clear hW0
  clear c0 c1 c2 c3 c4 c5 c6 c7
  refine wp_region_held_drew (S := fun W' => W'.cell? ⟨w.heap.size, 0, none⟩ = some (.slice aob q.pr.bs.length capb) ∧ W'.cell? ⟨w.heap.size, 1, none⟩ = some (.int .i64 q.pr.zl) ∧ W'.cell? ⟨w.heap.size, 2, none⟩ = some (.int .i64 q.pr.zh) ∧ W'.cell? ⟨w.heap.size, 3, none⟩ = some (.int .i64 q.pr.rl) ∧ W'.cell? ⟨w.heap.size, 4, none⟩ = some (.int .i64 q.pr.rh) ∧ W'.cell? ⟨w.heap.size, 5, none⟩ = some (.slice aor q.pr.rs.length capr) ∧ W'.cell? ⟨w.heap.size, 6, none⟩ = some (.int .i64 q.wide) ∧ W'.cell? ⟨w.heap.size, 7, none⟩ = some (.slice aop q.prices.length capp)) (by kernel_rfl) (ROWS.out _ HB1.out.drew) fun hS => ?_
  have HBD := Lib.hid HB1.out.drew
  refine wpAnyH_take (i := 0) (v := ?_) rfl (by kernel_rfl) (by kernel_rfl) (by kernel_rfl) (fun _ _ _ h => h) (Or.inl ⟨by rfl, ?_⟩) hS ?_
  rotate_left
  · (intro W hSw; obtain ⟨q0, q1, q2, q3, q4, q5, q6, q7⟩ := hSw; go_simp; try with_reducible rfl)
  try simp only [List.getElem_toArray, List.getElem_cons_succ, List.getElem_cons_zero, Act.put, List.setIfInBounds_toArray, List.set_cons_zero, List.set_cons_succ]
  refine wpAnyH_take (i := 1) (v := ?_) rfl (by kernel_rfl) (by kernel_rfl) (by kernel_rfl) (fun _ _ _ h => h) (Or.inl ⟨by rfl, ?_⟩) hS ?_
  rotate_left
  · (intro W hSw; obtain ⟨q0, q1, q2, q3, q4, q5, q6, q7⟩ := hSw; go_simp; try with_reducible rfl)
  try simp only [List.getElem_toArray, List.getElem_cons_succ, List.getElem_cons_zero, Act.put, List.setIfInBounds_toArray, List.set_cons_zero, List.set_cons_succ]
  refine wpAnyH_ready (rs := [2]) (by kernel_rfl) (by simp) ?_
  refine AllReadyH.cons rfl (fun K hK => ?_) AllReadyH.nil
  go_simp
  refine (rin8_any _ _ _ _).mono ?_
  rintro e wz ⟨rfl, rfl⟩
  dsimp only
  refine hK.out _ _ hS (fun hS => ?_)
  clear hK K
  try simp only [List.getElem_toArray, List.getElem_cons_succ, List.getElem_cons_zero, Act.put, List.setIfInBounds_toArray, List.set_cons_zero, List.set_cons_succ]
  refine wpAnyH_ready (rs := [3]) (by kernel_rfl) (by simp) ?_
  refine AllReadyH.cons rfl (fun K hK => ?_) AllReadyH.nil
  go_simp
  refine (rcheck_any HL.out _ _ (HPA.out.later HBD.out)).mono ?_
  rintro e w3 ⟨rfl, hb⟩
  have HB3 := Lib.hid (HBD.out.trans (hb.mono HBD.out.size))
  clear hb
  try dsimp only
  refine hK.out _ _ (ROWS.out _ HB3.out) (fun hS => ?_)
  clear hK K
  try simp only [List.getElem_toArray, List.getElem_cons_succ, List.getElem_cons_zero, Act.put, List.setIfInBounds_toArray, List.set_cons_zero, List.set_cons_succ]
  refine wpAnyH_take (i := 4) (v := ?_) rfl (by kernel_rfl) (by kernel_rfl) (by kernel_rfl) (fun _ _ _ h => h) (Or.inl ⟨by rfl, ?_⟩) hS ?_
  rotate_left
  · (intro W hSw; obtain ⟨q0, q1, q2, q3, q4, q5, q6, q7⟩ := hSw; go_simp; try with_reducible rfl)
  try simp only [List.getElem_toArray, List.getElem_cons_succ, List.getElem_cons_zero, Act.put, List.setIfInBounds_toArray, List.set_cons_zero, List.set_cons_succ]
  refine wpAnyH_done (by kernel_rfl) ?_ _
  clear hS
  obtain ⟨er, her⟩ : ∃ x, x = errP q (inB n 0 8) := ⟨_, rfl⟩
  rw [← her]
  by_cases hz : er = 0
  case neg =>
    have HV := Lib.hid (best_err her.symm hz)
    have hz1 : (er != 0) = true := by simpa using hz
    have hz2 : (er == 0) = false := by rw [beq_eq_false_iff_ne]; exact hz
    clear her
    go_wp2_with fail
    refine bodyPost_ret (v := .tuple #[.int .i64 0, .int .i64 0, .int .i64 er]) (by simp [results, Tryz.results13, go_sem]) rfl ⟨?_, HB0.out.trans (HB3.out.mono HB0.out.size)⟩
    rw [HV.out]
  case pos =>
  subst hz
  obtain ⟨hv, ho, ht⟩ := errP_zero her.symm
  have hn0 : 0 ≤ n ∧ n ≤ 8 := by unfold inB at ho; simpa using ho
  have HVAL := Lib.hid ((bestPl_ok her.symm).trans (by rw [← bestR_end q hn0.1]))
  have hq := OkQ.of hv
  have hev := @everyV_lt q
  have h256 := hq.p256
  have hinv : ∀ k, k ≤ everyV q → (bestR q n k).1 < 2 ^ q.prices.length := fun k hk => by
    have := (bestR_inv q hn0.1 k).2
    omega
  have HINV := Lib.hid hinv
  have HNX : Hid (∀ k, bestR q n (k + 1) = if (ones (k + 1) : Int) ≤ n ∧ (widestV q.pr (k + 1) < (bestR q n k).2 ∨ (widestV q.pr (k + 1) = (bestR q n k).2 ∧ ones (k + 1) < ones (bestR q n k).1)) then (k + 1, widestV q.pr (k + 1)) else bestR q n k) := Lib.hid fun _ => rfl
  have HLL := Lib.hid (HL.out hv)
  have HT := Lib.hid ht
  have HQ := Lib.hid hq
  obtain ⟨ev, hevs⟩ : ∃ s, s = everyV q := ⟨_, rfl⟩
  rw [← hevs] at hev HINV HVAL
  have HEVS := Lib.hid hevs
  have HB0R : Hid (bestR q n 0 = (0, widestV q.pr 0)) := Lib.hid rfl
  clear hv ho ht her hq hn0 hevs hinv
  obtain ⟨c0, c1, c2, c3, c4, c5, c6, c7⟩ := ROWS.out _ HB3.out
  go_wp2_with fail
  refine (rwidest_any HQ.out HT.out HLL.out 0 (Nat.two_pow_pos _) _ (HPA.out.later HB3.out)).mono ?_
  rintro e w4 ⟨rfl, hb⟩
  have HB4 := Lib.hid (HB3.out.trans (hb.mono HB3.out.size))
  clear hb
  try dsimp only
  clear c0 c1 c2 c3 c4 c5 c6 c7
  go_wp2_with fail
  go_loopw [8, 9, 10] (fun bv lv iv wr => ∃ k : Nat, k ≤ ev ∧ iv = .int .i64 ((k + 1 : Nat) : Int) ∧ bv = .int .i64 ((bestR q n k).1 : Nat) ∧ lv = .int .i64 (bestR q n k).2 ∧ Below W0.heap.size W0 wr) (fun _ _ iv _ => ev + 1 - (intOf iv).toNat)
  case atStart => exact ⟨0, Nat.zero_le _, rfl, rfl, rfl, HB4.out⟩
  case round =>
    obtain ⟨k, hk, rfl, rfl, rfl, hb⟩ := hrel
    have HB := Lib.hid hb
    have hzr := hb.size
    clear hb
    obtain ⟨c0, c1, c2, c3, c4, c5, c6, c7⟩ := ROWS.out wr HB.out
    have hbl := HINV.out k hk
    have hnx := HNX.out k
    obtain ⟨bb, hbb⟩ : ∃ x, x = bestR q n k := ⟨_, rfl⟩
    rw [← hbb] at hnx hbl
    rw [← hbb]
    obtain ⟨b, l⟩ := bb
    dsimp only at hnx hbl
    dsimp only
    obtain ⟨k1, hk1⟩ : ∃ x, x = k + 1 := ⟨_, rfl⟩
    rw [← hk1] at hnx
    rw [← hk1]
    have HK1 := Lib.hid hk1
    have HBB := Lib.hid hbb
    have hwi : IntKind.i64.wrap ((k1 : Int) + 1) = ((k1 + 1 : Nat) : Int) := by rw [IntWalk.i64_in _ (by omega)]; omega
    go_wp2_with fail
    refine (every8_any HQ.out.m8 _ (HPA.out.later HB.out)).mono ?_
    rintro e w5 ⟨rfl, hb⟩
    have HB5 := Lib.hid (HB.out.trans (hb.mono HB.out.size))
    clear hb
    try dsimp only
    rw [← HEVS.out]
    clear c0 c1 c2 c3 c4 c5 c6 c7
    obtain ⟨c0, c1, c2, c3, c4, c5, c6, c7⟩ := ROWS.out w5 HB5.out
    by_cases hlt : k1 ≤ ev
    case neg =>
      have hlti : ¬ (k1 : Int) ≤ (ev : Int) := by omega
      have hltd : decide (k1 ≤ ev) = false := decide_eq_false hlt
      have hke : k = ev := by omega
      have HV2 := HVAL.out
      rw [← hke, ← HBB.out] at HV2
      have HV3 := Lib.hid HV2
      clear HV2 hke hnx hbb hk1
      clear c0 c1 c2 c3 c4 c5 c6 c7
      go_wp2_with fail
      refine bodyPost_ret (v := .tuple #[.int .i64 (b : Nat), .int .i64 l, .int .i64 0]) (by simp [results, Tryz.results13, go_sem]) rfl ⟨?_, HB0.out.trans (HB5.out.mono HB0.out.size)⟩
      rw [HV3.out]
    case pos =>
    have hlti : (k1 : Int) ≤ (ev : Int) := by omega
    have hltd : decide (k1 ≤ ev) = true := decide_eq_true hlt
    have hkl : k1 < 2 ^ q.prices.length := by omega
    clear hbb hk1
    go_wp2_with fail
    by_cases hm : (ones k1 : Int) ≤ n
    case neg =>
      rw [if_neg (fun h => hm h.1)] at hnx
      have hm2 : n < (ones k1 : Int) := by omega
      have HNX2 := Lib.hid hnx
      clear hnx hm
      refine (size8_any k1 (by omega) _).mono ?_
      rintro e wz ⟨rfl, rfl⟩
      dsimp only
      clear c0 c1 c2 c3 c4 c5 c6 c7
      go_wp2_with fail
      exact ⟨⟨k + 1, by have := HK1.out; omega, by rw [← HK1.out]; rfl, by rw [← HK1.out, HNX2.out], by rw [← HK1.out, HNX2.out], HB5.out⟩, by have := HK1.out; simp [intOf]; omega⟩
    case pos =>
    have hm2 : ¬ n < (ones k1 : Int) := by omega
    refine (size8_any k1 (by omega) _).mono ?_
    rintro e wz ⟨rfl, rfl⟩
    dsimp only
    go_wp2_with fail
    obtain ⟨wk, hwk⟩ : ∃ x, x = widestV q.pr k1 := ⟨_, rfl⟩
    rw [← hwk] at hnx
    have HWK := Lib.hid hwk
    clear hwk
    refine (rwidest_any HQ.out HT.out HLL.out k1 hkl _ (HPA.out.later HB5.out)).mono ?_
    rintro e w6 ⟨he, hb⟩
    rw [← HWK.out] at he
    try dsimp only at he
    subst he
    have HB6 := Lib.hid (HB5.out.trans (hb.mono HB5.out.size))
    clear hb
    try dsimp only
    clear c0 c1 c2 c3 c4 c5 c6 c7
    by_cases h1 : wk < l
    · rw [if_pos ⟨hm, .inl h1⟩] at hnx
      have HNX2 := Lib.hid hnx
      clear hnx hm hm2
      go_wp2_with fail
      exact ⟨⟨k + 1, by have := HK1.out; omega, by rw [← HK1.out]; rfl, by rw [← HK1.out, HNX2.out], by rw [← HK1.out, HNX2.out], HB6.out⟩, by have := HK1.out; simp [intOf]; omega⟩
    · by_cases h2 : wk = l
      · by_cases h3 : ones k1 < ones b
        · rw [if_pos ⟨hm, .inr ⟨h2, h3⟩⟩] at hnx
          have h3i : (ones k1 : Int) < (ones b : Int) := by omega
          have HNX2 := Lib.hid hnx
          subst h2
          clear hnx hm hm2 h3
          go_wp2_with fail
          refine (size8_any k1 (by omega) _).mono ?_
          rintro e wz ⟨rfl, rfl⟩
          try dsimp only
          go_wp2_with fail
          refine (size8_any b (by omega) _).mono ?_
          rintro e wz ⟨rfl, rfl⟩
          try dsimp only
          go_wp2_with fail
          exact ⟨⟨k + 1, by have := HK1.out; omega, by rw [← HK1.out]; rfl, by rw [← HK1.out, HNX2.out], by rw [← HK1.out, HNX2.out], HB6.out⟩, by have := HK1.out; simp [intOf]; omega⟩
        · rw [if_neg (fun h => h.2.elim h1 (fun h => h3 h.2))] at hnx
          have h3i : ¬ (ones k1 : Int) < (ones b : Int) := by omega
          have HNX2 := Lib.hid hnx
          subst h2
          clear hnx hm hm2 h3
          go_wp2_with fail
          refine (size8_any k1 (by omega) _).mono ?_
          rintro e wz ⟨rfl, rfl⟩
          try dsimp only
          go_wp2_with fail
          refine (size8_any b (by omega) _).mono ?_
          rintro e wz ⟨rfl, rfl⟩
          try dsimp only
          go_wp2_with fail
          exact ⟨⟨k + 1, by have := HK1.out; omega, by rw [← HK1.out]; rfl, by rw [← HK1.out, HNX2.out], by rw [← HK1.out, HNX2.out], HB6.out⟩, by have := HK1.out; simp [intOf]; omega⟩
      · rw [if_neg (fun h => h.2.elim h1 (fun h => h2 h.1))] at hnx
        have h2e : (wk == l) = false := by rw [beq_eq_false_iff_ne]; exact h2
        have HNX2 := Lib.hid hnx
        clear hnx hm hm2
        go_wp2_with fail
        exact ⟨⟨k + 1, by have := HK1.out; omega, by rw [← HK1.out]; rfl, by rw [← HK1.out, HNX2.out], by rw [← HK1.out, HNX2.out], HB6.out⟩, by have := HK1.out; simp [intOf]; omega⟩
end Go.Proofs.YtabbmihakoeegaaGreat

/- PlanReads, walked. -/
namespace Go.Proofs.YtabbmihakoeegaaGreat
set_option linter.unusedVariables false
set_option linter.unusedSimpArgs false
open Go.RowKit Go.Shelf
attribute [local go_sem] Oper.semAt_some

set_option maxRecDepth 100000 in
set_option maxHeartbeats 8000000 in
theorem readsl_any (q : PlanD) (bs rs ps : Value) (x y : Int) (w : World) (hpa : PlanAt w q bs rs ps) :
    Calls Tryz.prog 3 #[.agg (planRow q bs rs ps), .int .i64 x, .int .i64 y] w fun e w' => e = .returned (.bool true) ∧ Below w.heap.size w w' := by
  obtain ⟨aob, capb, hbv, _⟩ := id hpa.p.b
  obtain ⟨aor, capr, hrv, _⟩ := id hpa.p.r
  obtain ⟨aop, capp, hpv, _⟩ := id hpa.n
  subst hbv hrv hpv
  obtain ⟨W0, hW0⟩ : ∃ W0, W0 = w.alloc (.cells (planRow q (.slice aob q.pr.bs.length capb) (.slice aor q.pr.rs.length capr) (.slice aop q.prices.length capp)) 30 (0, 0)) := ⟨_, rfl⟩
  have hb0 : Below w.heap.size w W0 := by rw [hW0]; exact (Below.refl _ _).alloc (Nat.le_refl _) _
  have hr1 : W0.heap[w.heap.size]? = some (.cells (planRow q (.slice aob q.pr.bs.length capb) (.slice aor q.pr.rs.length capr) (.slice aop q.prices.length capp)) 30 (0, 0)) := by rw [hW0]; exact heap_alloc_at _ _ _ rfl
  have hsw : W0.heap.size = w.heap.size + 1 := by rw [hW0]; simp
  have HB0 := Lib.hid hb0
  have HR1 := Lib.hid hr1
  have HPA := Lib.hid (hpa.later hb0)
  have rows : ∀ W', Below W0.heap.size W0 W' → (W'.cell? ⟨w.heap.size, 0, none⟩ = some (.slice aob q.pr.bs.length capb) ∧ W'.cell? ⟨w.heap.size, 1, none⟩ = some (.int .i64 q.pr.zl) ∧ W'.cell? ⟨w.heap.size, 2, none⟩ = some (.int .i64 q.pr.zh) ∧
        W'.cell? ⟨w.heap.size, 3, none⟩ = some (.int .i64 q.pr.rl) ∧ W'.cell? ⟨w.heap.size, 4, none⟩ = some (.int .i64 q.pr.rh) ∧ W'.cell? ⟨w.heap.size, 5, none⟩ = some (.slice aor q.pr.rs.length capr) ∧ W'.cell? ⟨w.heap.size, 6, none⟩ = some (.int .i64 q.wide) ∧ W'.cell? ⟨w.heap.size, 7, none⟩ = some (.slice aop q.prices.length capp)) := fun W' hb => by
    have q1 := (hb.block w.heap.size (by omega)).trans hr1
    unfold planRow at q1
    refine ⟨?_, ?_, ?_, ?_, ?_, ?_, ?_, ?_⟩ <;> (rw [cell_of_row _ _ _ _ _ _ q1]; rfl)
  have ROWS := Lib.hid rows
  clear rows hb0 hr1 hpa
  unfold planRow at hW0 ⊢
  obtain ⟨c0, c1, c2, c3, c4, c5, c6, c7⟩ := ROWS.out W0 (Below.refl _ _)
  have HB1 : Hid (Below W0.heap.size W0 W0) := Lib.hid (Below.refl _ _)
  go_enter Tryz.func3, Tryz.ntmps3
  go_wp2_with fail
  rw [← hW0]
  clear hW0
  refine (heavy8_any 400 W0 HPA.out).mono ?_
  rintro e w1 ⟨rfl, hb⟩
  have HB2 := Lib.hid (HB1.out.trans (hb.mono HB1.out.size))
  clear hb
  try dsimp only
  clear c0 c1 c2 c3 c4 c5 c6 c7
  obtain ⟨c0, c1, c2, c3, c4, c5, c6, c7⟩ := ROWS.out w1 HB2.out
  cases hh : heavyQ q 400 with
  | true =>
    go_wp2_with fail
    refine (awake_any _).mono ?_
    rintro e vz ⟨rfl, hb⟩
    have HBZ := Lib.hid (HB2.out.trans (hb.mono HB2.out.size))
    clear hb
    try dsimp only
    go_wp2
    go_ret
    exact ⟨rfl, HB0.out.trans (HBZ.out.mono HB0.out.size)⟩
  | false =>
  have HL : Hid (validP q = true → Light q) := Lib.hid (light_of (by decide) hh)
  have h60 := heavy_len hh
  clear hh
  obtain ⟨⟨⟨a, b⟩, e1⟩, hbv⟩ : ∃ v, blocksV q x = v := ⟨_, rfl⟩
  obtain ⟨⟨⟨c, d⟩, e2⟩, hbe⟩ : ∃ v, bestPlV q y = v := ⟨_, rfl⟩
  have F1 := Lib.hid hbv
  have F2 := Lib.hid hbe
  clear hbv hbe
  go_wp2_with fail
  refine (blocksV_any x (HPA.out.later HB2.out)).mono ?_
  rintro e w2 ⟨he, hb⟩
  rw [F1.out] at he
  try dsimp only at he
  subst he
  have HB3 := Lib.hid (HB2.out.trans (hb.mono HB2.out.size))
  clear hb
  try dsimp only
  clear c0 c1 c2 c3 c4 c5 c6 c7
  obtain ⟨c0, c1, c2, c3, c4, c5, c6, c7⟩ := ROWS.out w2 HB3.out
  go_wp2_with fail
  refine (rblocks_any HL.out h60 x _ (HPA.out.later HB3.out)).mono ?_
  rintro e w3 ⟨he, hb⟩
  rw [F1.out] at he
  try dsimp only at he
  subst he
  have HB4 := Lib.hid (HB3.out.trans (hb.mono HB3.out.size))
  clear hb
  try dsimp only
  clear c0 c1 c2 c3 c4 c5 c6 c7
  obtain ⟨c0, c1, c2, c3, c4, c5, c6, c7⟩ := ROWS.out w3 HB4.out
  go_wp2_with fail
  refine (bestPlV_any y (HPA.out.later HB4.out)).mono ?_
  rintro e w4 ⟨he, hb⟩
  rw [F2.out] at he
  try dsimp only at he
  subst he
  have HB5 := Lib.hid (HB4.out.trans (hb.mono HB4.out.size))
  clear hb
  try dsimp only
  clear c0 c1 c2 c3 c4 c5 c6 c7
  obtain ⟨c0, c1, c2, c3, c4, c5, c6, c7⟩ := ROWS.out w4 HB5.out
  go_wp2_with fail
  refine (rbest_any HL.out y _ (HPA.out.later HB5.out)).mono ?_
  rintro e w5 ⟨he, hb⟩
  rw [F2.out] at he
  try dsimp only at he
  subst he
  have HB6 := Lib.hid (HB5.out.trans (hb.mono HB5.out.size))
  clear hb
  try dsimp only
  clear c0 c1 c2 c3 c4 c5 c6 c7
  obtain ⟨c0, c1, c2, c3, c4, c5, c6, c7⟩ := ROWS.out w5 HB6.out
  go_wp2_with fail
  refine (awake_any _).mono ?_
  rintro e vz ⟨rfl, hb⟩
  have HBZ := Lib.hid (HB6.out.trans (hb.mono HB6.out.size))
  clear hb
  try dsimp only
  go_wp2
  go_ret
  exact ⟨rfl, HB0.out.trans (HBZ.out.mono HB0.out.size)⟩
end Go.Proofs.YtabbmihakoeegaaGreat

/- PlanReads: whatever the plan and the numbers: the law returns true. No conditions. -/
namespace Go.Proofs.YtabbmihakoeegaaGreat
set_option linter.unusedVariables false
set_option linter.unusedSimpArgs false
open Go.ChangeShapes Go.WideShapes Go.ChangeAt Go.RowKit

set_option maxRecDepth 100000 in
theorem planReads_lifted (os : Os) (started : os.Started) (H : Type) (enc : TypeId × Value → H) :
    ReturnsInHanded {} Tryz.checked os 3 .any (Rows.planReadsSpec.pre6 enc Tryz.prog Tryz.f3 Rows.planReadsRow.domain false) (Rows.planReadsSpec.post enc Tryz.prog Tryz.f3 false true false false) := by
  refine returnsInHanded_of_change (C := Tryz.checked) own_knob started (by kernel_rfl) Tryz.func3
    (ChangeSpec.witness6 (enc := enc) (C := Tryz.checked) false ⟨#[], #[.agg #[.slice none 0 0, .int .i64 0, .int .i64 0, .int .i64 0, .int .i64 0, .slice none 0 0, .int .i64 0, .slice none 0 0], .int .i64 0, .int .i64 0], []⟩ 8 (by kernel_rfl) (by kernel_rfl) (by kernel_rfl) (by kernel_rfl)) ?_
  intro W base args ds gs before hval0 hW hcnd _
  have hval : ∀ (j : Nat) t v, Tryz.f3.params[j]? = some t → args[j]? = some v → Value.okWide Tryz.prog W .any base t v := hval0
  have hW' := hW
  obtain ⟨p, q, hA0, hV, rfl, hfz, hnd⟩ := hW
  have hA : DataW.TrodAll enc Tryz.prog W 0 (fun _ => true) true Tryz.f3.params.toList args.toList ds p := hA0
  rw [Tryz.params3] at hA hval
  obtain ⟨rfl, rfl⟩ := trodVars_none hV
  clear hA0 hval0
  simp only [List.append_nil] at hW'
  have hst := hA
  obtain ⟨v0, v1, v2, d0, d1, d2, p0, p1, p2, rfl, rfl, rfl, h0, h1, h2⟩ := trodAll_three hA
  obtain ⟨qd, bs, rs, pv, rfl, hpa⟩ := open_plan (hval 0 _ _ rfl rfl) h0
  obtain ⟨x, rfl, _, _, hx⟩ := Go.ChangeShapes.open_int under3 (hval 1 _ _ rfl rfl) h1
  obtain ⟨y, rfl, _, _, hy⟩ := Go.ChangeShapes.open_int under3 (hval 2 _ _ rfl rfl) h2
  refine (readsl_any qd bs rs pv x y W hpa).mono fun e W' ⟨he, hb⟩ => ?_
  subst he
  exact ⟨_, rfl, lawEnd hW' rfl hst rfl (by decide +kernel) rfl rfl hb⟩
theorem planReads_over : Rows.planReadsRow.holds Tryz.pinned (OpenSpec.ofChange Rows.planReadsSpec) :=
  OpenClaim.holds_of_wide 3 Tryz.f3 rfl rfl rfl rfl rfl rfl rfl ⟨rfl, rfl, rfl, rfl, rfl⟩ rfl rfl rfl rfl rfl (by kernel_rfl) Tryz.func3 (by kernel_rfl)
    (of_decide_eq_true (by kernel_rfl)) (by unfold Func.isWrapper; first | (rw [if_pos (by decide +kernel)]; kernel_rfl) | (rw [if_neg (by decide +kernel)]; exact ⟨rfl, rfl⟩))
    (fun os started H enc _ => planReads_lifted os started H enc)
/-- The statement. -/
theorem plan_reads : Rows.PlanReadsSaid := planReads_over

end Go.Proofs.YtabbmihakoeegaaGreat
