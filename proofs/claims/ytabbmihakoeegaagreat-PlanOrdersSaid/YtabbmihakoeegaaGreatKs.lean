/- Texts Qa in one file; each begins with a word on what it proves. -/
import Derived.Test.YtabbmihakoeegaaGreatKn

/- The reference: Price. -/
namespace Go.Proofs.YtabbmihakoeegaaGreat
set_option linter.unusedVariables false
set_option linter.unusedSimpArgs false
open Go.RowKit Go.Shelf
attribute [local go_sem] Oper.semAt_some

def costK (q : PlanD) (s k : Nat) : Int := sumL ((List.range k).filterMap fun i => if s.testBit i then q.prices[i]? else none)
theorem costK_end (q : PlanD) (s : Nat) : costK q s q.prices.length = costV q s := rfl
theorem costK_no {q : PlanD} {s k : Nat} (h : s.testBit k = false) : costK q s (k + 1) = costK q s k := by
  unfold costK
  rw [List.range_succ, List.filterMap_append]
  simp [h]
theorem costK_yes {q : PlanD} {s k : Nat} (h : s.testBit k = true) (hk : k < q.prices.length) : costK q s (k + 1) = costK q s k + q.prices[k] := by
  unfold costK
  rw [List.range_succ, List.filterMap_append, ← sumL_snoc]
  simp [h, List.getElem?_eq_getElem hk]
theorem costK_in {q : PlanD} (hq : OkQ q) (s : Nat) : ∀ k, k ≤ q.prices.length → 0 ≤ costK q s k ∧ costK q s k ≤ 20 * (k : Int)
  | 0, _ => ⟨Int.le_refl _, Int.le_refl _⟩
  | k + 1, h => by
    have ih := costK_in hq s k (by omega)
    cases hb : s.testBit k with
    | false => rw [costK_no hb]; omega
    | true =>
      rw [costK_yes hb (by omega)]
      have := hq.ps _ (List.getElem_mem (show k < q.prices.length by omega))
      omega
set_option maxRecDepth 100000 in
set_option maxHeartbeats 4000000 in
theorem price8_any {q : PlanD} (hq : OkQ q) {bs rs ps : Value} (s : Nat) (hs : s < 256) (w : World) (hpa : PlanAt w q bs rs ps) :
    Calls Tryz.prog 28 #[.agg (planRow q bs rs ps), .int .i64 s] w fun e w' => e = .returned (.int .i64 (costV q s)) ∧ Below w.heap.size w w' := by
  obtain ⟨aob, capb, hbv, _⟩ := id hpa.p.b
  obtain ⟨aor, capr, hrv, _⟩ := id hpa.p.r
  obtain ⟨aop, capp, hpv, _⟩ := id hpa.n
  subst hbv hrv hpv
  obtain ⟨W0, hW0⟩ : ∃ W0, W0 = w.alloc (.cells (planRow q (.slice aob q.pr.bs.length capb) (.slice aor q.pr.rs.length capr) (.slice aop q.prices.length capp)) 30 (0, 0)) := ⟨_, rfl⟩
  have hb0 : Below w.heap.size w W0 := by rw [hW0]; exact (Below.refl _ _).alloc (Nat.le_refl _) _
  have hr1 : W0.heap[w.heap.size]? = some (.cells (planRow q (.slice aob q.pr.bs.length capb) (.slice aor q.pr.rs.length capr) (.slice aop q.prices.length capp)) 30 (0, 0)) := by rw [hW0]; exact heap_alloc_at _ _ _ rfl
  have hsw : W0.heap.size = w.heap.size + 1 := by rw [hW0]; simp
  have HB0 := Lib.hid hb0
  have HR1 := Lib.hid hr1
  have HPA := Lib.hid (hpa.later hb0)
  have rows : ∀ W', Below W0.heap.size W0 W' → (W'.cell? ⟨w.heap.size, 0, none⟩ = some (.slice aob q.pr.bs.length capb) ∧ W'.cell? ⟨w.heap.size, 1, none⟩ = some (.int .i64 q.pr.zl) ∧ W'.cell? ⟨w.heap.size, 2, none⟩ = some (.int .i64 q.pr.zh) ∧
        W'.cell? ⟨w.heap.size, 3, none⟩ = some (.int .i64 q.pr.rl) ∧ W'.cell? ⟨w.heap.size, 4, none⟩ = some (.int .i64 q.pr.rh) ∧ W'.cell? ⟨w.heap.size, 5, none⟩ = some (.slice aor q.pr.rs.length capr) ∧ W'.cell? ⟨w.heap.size, 6, none⟩ = some (.int .i64 q.wide) ∧ W'.cell? ⟨w.heap.size, 7, none⟩ = some (.slice aop q.prices.length capp)) := fun W' hb => by
    have q1 := (hb.block w.heap.size (by omega)).trans hr1
    unfold planRow at q1
    refine ⟨?_, ?_, ?_, ?_, ?_, ?_, ?_, ?_⟩ <;> (rw [cell_of_row _ _ _ _ _ _ q1]; rfl)
  have ROWS := Lib.hid rows
  clear rows hb0 hr1 hpa
  unfold planRow at hW0 ⊢
  obtain ⟨c0, c1, c2, c3, c4, c5, c6, c7⟩ := ROWS.out W0 (Below.refl _ _)
  have HB1 : Hid (Below W0.heap.size W0 W0) := Lib.hid (Below.refl _ _)
  have hm8 := hq.m8
  have HQ := Lib.hid hq
  clear hq
  go_enter Tryz.func28, Tryz.ntmps28
  go_wp2_with fail
  rw [← hW0]
  clear hW0 c0 c1 c2 c3 c4 c5 c6 c7
  go_loopw [5, 6] (fun sv iv wr => ∃ i : Nat, i ≤ q.prices.length ∧ iv = .int .i64 i ∧ sv = .int .i64 (costK q s i) ∧ Below W0.heap.size W0 wr) (fun _ iv _ => q.prices.length - (intOf iv).toNat)
  case atStart => exact ⟨0, Nat.zero_le _, rfl, rfl, HB1.out⟩
  case round =>
    obtain ⟨i, hi, rfl, rfl, hb⟩ := hrel
    have HB := Lib.hid hb
    have hzr := hb.size
    clear hb
    obtain ⟨c0, c1, c2, c3, c4, c5, c6, c7⟩ := ROWS.out wr HB.out
    by_cases hlt : i < q.prices.length
    · have hlti : (i : Int) < (q.prices.length : Int) := by omega
      have hwi : IntKind.i64.wrap ((i : Int) + 1) = ((i + 1 : Nat) : Int) := by rw [IntWalk.i64_in _ (by omega)]; omega
      go_wp2_with fail
      refine (has8_any s i hs (by omega) wr).mono ?_
      rintro e w' ⟨rfl, rfl⟩
      dsimp only
      cases hbit : s.testBit i with
      | false =>
        have HN := Lib.hid (costK_no (q := q) hbit)
        clear hbit
        go_wp2_with fail
        exact ⟨⟨i + 1, by omega, rfl, by rw [HN.out], HB.out⟩, by simp [intOf]; omega⟩
      | true =>
        have hN := costK_yes (q := q) hbit hlt
        have hin := costK_in HQ.out s i hi
        have hp := HQ.out.ps _ (List.getElem_mem hlt)
        obtain ⟨ck, hck⟩ : ∃ x, x = costK q s i := ⟨_, rfl⟩
        obtain ⟨ao', cap', he, _, _, hel⟩ := (HPA.out.later HB.out).n
        cases he
        obtain ⟨pb, po, rfl, _, hpl, e1⟩ := hel i hlt
        obtain ⟨pr, hpr⟩ : ∃ x, x = q.prices[i] := ⟨_, rfl⟩
        rw [← hck] at hN hin
        rw [← hpr] at hN hp e1
        rw [← hck]
        have hwp : IntKind.i64.wrap (ck + pr) = ck + pr := IntWalk.i64_in _ (by omega)
        have HN := Lib.hid hN
        clear hbit hN hin hp hck hpr hel
        go_wp2_with fail
        exact ⟨⟨i + 1, by omega, rfl, by rw [HN.out], HB.out⟩, by simp [intOf]; omega⟩
    · obtain rfl : i = q.prices.length := by omega
      go_wp2_with fail
      go_ret
      exact ⟨by first | (rw [costK_end]; rfl) | rw [costK_end], HB0.out.trans (HB.out.mono HB0.out.size)⟩
end Go.Proofs.YtabbmihakoeegaaGreat
