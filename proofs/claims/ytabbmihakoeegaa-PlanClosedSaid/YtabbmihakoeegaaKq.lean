/- Texts Yl, Ys, Yt in one file; each begins with a word on what it proves. -/
import Derived.Test.YtabbmihakoeegaaKn
import Derived.Test.YtabbmihakoeegaaKi

/- PlanClosed (plain): a least set of readings that leaves as few groups as all has as many readings as blocks less groups. -/
namespace Go.Proofs.Ytabbmihakoeegaa
set_option linter.unusedVariables false
set_option linter.unusedSimpArgs false
open Go.RowKit Stab

def cS (p : PairD) (s : Nat) : Nat := cntM (onlyP p s)
theorem groupsS_is {p : PairD} (hv : validB p = true) (s : Nat) : groupsS p s = (cS p s : Int) := by
  unfold groupsS
  rw [groupsV_yes (onlyP_valid p s hv)]
  rfl
theorem conn_rs {p q : PairD} (h : ∀ r, r ∈ p.rs → r ∈ q.rs) {x y : Int} (hc : Conn p x y) : Conn q x y := by
  induction hc with
  | refl => exact .refl _
  | step _ ha ih =>
    obtain ⟨r, hr, h2⟩ := ha
    exact .step ih ⟨r, h r hr, h2⟩
theorem only_sub {p : PairD} {s t : Nat} (h : Sub p s t) : ∀ r, r ∈ (onlyP p s).rs → r ∈ (onlyP p t).rs := fun r hr => by
  obtain ⟨i, hi, hj, hs, e⟩ := (mem_keptL _ _ _ (Nat.le_refl _) _).1 hr
  exact (mem_keptL _ _ _ (Nat.le_refl _) _).2 ⟨i, hi, hj, h i hi hs, e⟩
theorem cS_mono {p : PairD} (hv : validB p = true) {s t : Nat} (h : Sub p s t) : cS p t ≤ cS p s := by
  unfold cS cntM
  rw [← List.countP_eq_length_filter, ← List.countP_eq_length_filter]
  refine List.countP_mono_left fun i hi => ?_
  have hi' : i < p.bs.length := by rw [List.mem_range] at hi; exact hi
  rw [ownL_iff (OkP.of _ (onlyP_valid p t hv)) i hi', ownL_iff (OkP.of _ (onlyP_valid p s hv)) i hi']
  exact fun h1 k hk hc => h1 k hk (conn_rs (only_sub h) hc)
theorem cut_bit : ∀ s : Fin 256, ∀ i j : Fin 8, s.val.testBit i.val = true → (s.val - 2 ^ i.val).testBit j.val = (s.val.testBit j.val && decide (j.val ≠ i.val)) := by decide +kernel
theorem ones_cut1 : ∀ t : Fin 256, ∀ i : Fin 8, t.val.testBit i.val = true → ones (t.val - 2 ^ i.val) + 1 = ones t.val ∧ t.val - 2 ^ i.val < t.val := by decide +kernel
theorem keptL_lt (l : List RdD) (s i : Nat) (hs : s.testBit i = false) : ∀ n, i < n → n ≤ l.length → (keptL l s n).length < n
  | 0, h, _ => absurd h (Nat.not_lt_zero _)
  | n + 1, h, hl => by
    by_cases e : i = n
    · subst e
      rw [keptL_no l s i hs]
      have := keptL_le l s i
      omega
    · have ih := keptL_lt l s i hs n (by omega) (by omega)
      cases hn : s.testBit n with
      | true => rw [keptL_yes l s n (by omega) hn, List.length_append]; simp; omega
      | false => rw [keptL_no l s n hn]; omega
theorem valid_rd {p : PairD} (hv : validB p = true) {r : RdD} (hr : r ∈ p.rs) : okRd p.bs.length r = true := by
  unfold validB at hv
  rw [Bool.and_eq_true] at hv
  exact List.all_eq_true.1 hv.2 r hr
theorem cS_step {p : PairD} (hv : validB p = true) {s i : Nat} (h256 : s < 256) (hi : i < p.rs.length) (hs : s.testBit i = true) :
    (Conn (onlyP p (s - 2 ^ i)) p.rs[i].a p.rs[i].b → cS p s = cS p (s - 2 ^ i)) ∧ (¬ Conn (onlyP p (s - 2 ^ i)) p.rs[i].a p.rs[i].b → cS p (s - 2 ^ i) = cS p s + 1) := by
  have hm8 := (OkP.of p hv).m8
  have hcb := fun (j : Nat) (hj : j < p.rs.length) => cut_bit ⟨s, h256⟩ ⟨i, by omega⟩ ⟨j, by omega⟩ hs
  dsimp only at hcb
  have hb : (s - 2 ^ i).testBit i = false := by rw [hcb i hi]; simp
  have hvq := onlyP_valid p (s - 2 ^ i) hv
  have hlt := keptL_lt p.rs (s - 2 ^ i) i hb p.rs.length hi (Nat.le_refl _)
  have hvw : validB (withR (onlyP p (s - 2 ^ i)) p.rs[i]) = true := withR_valid hvq (show (keptL p.rs (s - 2 ^ i) p.rs.length).length < 8 by omega) (valid_rd hv (List.getElem_mem hi))
  have hj := cnt_join hvq hvw
  have hmem : ∀ r, r ∈ (onlyP p s).rs ↔ r ∈ (withR (onlyP p (s - 2 ^ i)) p.rs[i]).rs := fun r => by
    show r ∈ keptL p.rs s p.rs.length ↔ r ∈ keptL p.rs (s - 2 ^ i) p.rs.length ++ [p.rs[i]]
    rw [List.mem_append, List.mem_singleton, mem_keptL _ _ _ (Nat.le_refl _), mem_keptL _ _ _ (Nat.le_refl _)]
    constructor
    · rintro ⟨j, h1, h2, h3, e⟩
      by_cases hji : j = i
      · subst hji; exact .inr e.symm
      · exact .inl ⟨j, h1, h2, by rw [hcb j h1, h3]; simp [hji], e⟩
    · rintro (⟨j, h1, h2, h3, e⟩ | e)
      · rw [hcb j h1, Bool.and_eq_true] at h3
        exact ⟨j, h1, h2, h3.1, e⟩
      · exact ⟨i, hi, hi, hs, e.symm⟩
  have hsame : cntM (withR (onlyP p (s - 2 ^ i)) p.rs[i]) = cntM (onlyP p s) :=
    cnt_same (OkP.of _ (onlyP_valid p s hv)) (OkP.of _ hvw) rfl (fun x y => ⟨conn_rs (fun r hr => (hmem r).2 hr), conn_rs (fun r hr => (hmem r).1 hr)⟩)
  rw [hsame] at hj
  exact hj
theorem kept_zero (p : PairD) : (onlyP p 0).rs = [] := by
  rw [List.eq_nil_iff_forall_not_mem]
  intro r hr
  obtain ⟨i, _, _, hs, _⟩ := (mem_keptL _ _ _ (Nat.le_refl _) _).1 hr
  rw [Nat.zero_testBit] at hs
  cases hs
theorem forest {p : PairD} (hv : validB p = true) {M : Nat} (hM : M < 2 ^ p.rs.length) (hmin : ∀ i, i < p.rs.length → M.testBit i = true → cS p (M - 2 ^ i) ≠ cS p M) : ∀ k A, A ≤ k → Sub p A M → A < 2 ^ p.rs.length → cS p A + ones A = p.bs.length := by
  have hm8 := (OkP.of p hv).m8
  have h256 : 2 ^ p.rs.length ≤ 256 := pow_le hm8
  have hbare : cS p 0 + ones 0 = p.bs.length := by
    rw [show ones 0 = 0 by decide]
    exact cnt_bare (onlyP_valid p 0 hv) (kept_zero p)
  intro k
  induction k with
  | zero =>
    intro A h0 _ _
    obtain rfl : A = 0 := by omega
    exact hbare
  | succ k ih =>
    intro A hk hs hA
    by_cases h0 : A = 0
    · subst h0; exact hbare
    · obtain ⟨i, hi⟩ := Nat.exists_testBit_of_ne_zero h0
      have hin : i < p.rs.length := bit_lt hi hA
      have h1 := ones_cut1 ⟨A, by omega⟩ ⟨i, by omega⟩ hi
      dsimp only at h1
      have hMi := hs i hin hi
      have hcA := fun (j : Nat) (hj : j < p.rs.length) => cut_bit ⟨A, by omega⟩ ⟨i, by omega⟩ ⟨j, by omega⟩ hi
      have hcM := fun (j : Nat) (hj : j < p.rs.length) => cut_bit ⟨M, by omega⟩ ⟨i, by omega⟩ ⟨j, by omega⟩ hMi
      dsimp only at hcA hcM
      have hsub : Sub p (A - 2 ^ i) (M - 2 ^ i) := fun j hj hb => by
        rw [hcA j hj, Bool.and_eq_true] at hb
        rw [hcM j hj, hs j hj hb.1, hb.2]; rfl
      have hsub2 : Sub p (A - 2 ^ i) M := fun j hj hb => by
        rw [hcA j hj, Bool.and_eq_true] at hb
        exact hs j hj hb.1
      have e1 := cS_step hv (by omega : M < 256) hin hMi
      have e2 := cS_step hv (by omega : A < 256) hin hi
      have hnc : ¬ Conn (onlyP p (M - 2 ^ i)) p.rs[i].a p.rs[i].b := fun hc => hmin i hin hMi (e1.1 hc).symm
      have e3 := e2.2 (fun hc => hnc (conn_rs (only_sub hsub) hc))
      have e4 := ih (A - 2 ^ i) (by omega) hsub2 (by omega)
      omega
theorem only_all {q : PlanD} (hq : OkQ q) : onlyP q.pr (everyV q) = q.pr := by
  unfold onlyP
  rw [keptL_all q.pr.rs (everyV q) q.pr.rs.length (Nat.le_refl _) (fun j hj => by rw [everyV_is hq]; exact allR_bit q.pr j hj), List.take_length]
def closeS (q : PlanD) : Nat := firstV (fun s => decide (groupsS q.pr s = groupsS q.pr (everyV q))) (setsV q false)
structure ClosedOk (q : PlanD) (s : Nat) (g : Int) : Prop where
  lt : s < 2 ^ q.prices.length
  size : (ones s : Int) = q.pr.bs.length - g
  own : groupsS q.pr s = g
  best : ∀ t, t < 2 ^ q.prices.length → g < groupsS q.pr t ∨ (groupsS q.pr t = g ∧ (ones s < ones t ∨ (ones s = ones t ∧ s ≤ t)))
theorem closeS_ok {q : PlanD} (hq : OkQ q) : ClosedOk q (closeS q) (cntM q.pr : Int) := by
  obtain ⟨h1, h2⟩ := firstV_spec (q := q) false (is := fun s => decide (groupsS q.pr s = groupsS q.pr (everyV q))) everyV_lt (decide_eq_true rfl)
  have hlt : closeS q < 2 ^ q.prices.length := firstV_lt _ false
  have hall : groupsS q.pr (everyV q) = (cntM q.pr : Int) := by
    rw [groupsS_is hq.pr]
    unfold cS
    rw [only_all hq]
  rw [show firstV (fun s => decide (groupsS q.pr s = groupsS q.pr (everyV q))) (setsV q false) = closeS q from rfl] at h1 h2
  simp only [hall, decide_eq_true_eq] at h1 h2
  have hm8 := hq.m8
  have h256 := hq.p256
  have hlen := hq.len
  have hmin : ∀ i, i < q.pr.rs.length → (closeS q).testBit i = true → cS q.pr (closeS q - 2 ^ i) ≠ cS q.pr (closeS q) := fun i hi hb he => by
    have h3 := ones_cut1 ⟨closeS q, by omega⟩ ⟨i, by omega⟩ hb
    dsimp only at h3
    have h4 := h2 (closeS q - 2 ^ i) (by omega) (by rw [groupsS_is hq.pr, he, ← groupsS_is hq.pr]; exact h1)
    rcases h4 with h4 | h4
    · omega
    · rw [lessW_iff] at h4
      have e : muchV q false (closeS q) = muchV q false (closeS q - 2 ^ i) := rfl
      omega
  have hsz := forest hq.pr (by rw [← hlen]; exact hlt) hmin _ (closeS q) (Nat.le_refl _) (fun _ _ h => h) (by rw [← hlen]; exact hlt)
  have hge : (cS q.pr (closeS q) : Int) = (cntM q.pr : Int) := by rw [← groupsS_is hq.pr]; exact h1
  refine ⟨hlt, by omega, h1, fun t ht => ?_⟩
  have hm := cS_mono hq.pr (every_sub hq t)
  have e1 : (cS q.pr (everyV q) : Int) = (cntM q.pr : Int) := by rw [← groupsS_is hq.pr]; exact hall
  by_cases he : groupsS q.pr t = (cntM q.pr : Int)
  · refine .inr ⟨he, ?_⟩
    rcases h2 t ht he with h4 | h4
    · rw [h4]; exact .inr ⟨rfl, Nat.le_refl _⟩
    · rw [lessW_iff] at h4
      have e : muchV q false (closeS q) = muchV q false t := rfl
      omega
  · left
    rw [groupsS_is hq.pr] at he ⊢
    omega
end Go.Proofs.Ytabbmihakoeegaa

/- PlanClosed, walked. -/
namespace Go.Proofs.Ytabbmihakoeegaa
set_option linter.unusedVariables false
set_option linter.unusedSimpArgs false
open Go.RowKit Go.Shelf
attribute [local go_sem] Oper.semAt_some

theorem closedV_is {q : PlanD} (hv : validP q = true) : closedV q = ((closeS q : Int), 0) := by
  unfold closedV
  rw [if_neg (by rw [hv]; decide)]
  rfl
theorem groupsV_only {q : PlanD} (hv : validB q.pr = true) (s : Nat) : groupsV (onlyP q.pr s) = (groupsS q.pr s, 0) := by
  rw [groupsS_is hv, groupsV_yes (onlyP_valid q.pr s hv)]
  rfl
set_option maxRecDepth 100000 in
set_option maxHeartbeats 8000000 in
theorem closedl_any (q : PlanD) (bs rs ps : Value) (x : Int) (hx : 0 ≤ x ∧ x < 256) (w : World) (hpa : PlanAt w q bs rs ps) :
    Calls Try.prog 6 #[.agg (planRow q bs rs ps), .int .u8 x] w fun e w' => e = .returned (.bool true) ∧ Below w.heap.size w w' := by
  obtain ⟨aob, capb, hbv, _⟩ := id hpa.p.b
  obtain ⟨aor, capr, hrv, _⟩ := id hpa.p.r
  obtain ⟨aop, capp, hpv, _⟩ := id hpa.n
  subst hbv hrv hpv
  obtain ⟨W0, hW0⟩ : ∃ W0, W0 = w.alloc (.cells (planRow q (.slice aob q.pr.bs.length capb) (.slice aor q.pr.rs.length capr) (.slice aop q.prices.length capp)) 30 (0, 0)) := ⟨_, rfl⟩
  have hb0 : Below w.heap.size w W0 := by rw [hW0]; exact (Below.refl _ _).alloc (Nat.le_refl _) _
  have hr1 : W0.heap[w.heap.size]? = some (.cells (planRow q (.slice aob q.pr.bs.length capb) (.slice aor q.pr.rs.length capr) (.slice aop q.prices.length capp)) 30 (0, 0)) := by rw [hW0]; exact heap_alloc_at _ _ _ rfl
  have hsw : W0.heap.size = w.heap.size + 1 := by rw [hW0]; simp
  have HB0 := Lib.hid hb0
  have HR1 := Lib.hid hr1
  have HPA := Lib.hid (hpa.later hb0)
  have rows : ∀ W', Below W0.heap.size W0 W' → (W'.cell? ⟨w.heap.size, 0, none⟩ = some (.slice aob q.pr.bs.length capb) ∧ W'.cell? ⟨w.heap.size, 1, none⟩ = some (.int .i64 q.pr.zl) ∧ W'.cell? ⟨w.heap.size, 2, none⟩ = some (.int .i64 q.pr.zh) ∧
        W'.cell? ⟨w.heap.size, 3, none⟩ = some (.int .i64 q.pr.rl) ∧ W'.cell? ⟨w.heap.size, 4, none⟩ = some (.int .i64 q.pr.rh) ∧ W'.cell? ⟨w.heap.size, 5, none⟩ = some (.slice aor q.pr.rs.length capr) ∧ W'.cell? ⟨w.heap.size, 6, none⟩ = some (.int .i64 q.wide) ∧ W'.cell? ⟨w.heap.size, 7, none⟩ = some (.slice aop q.prices.length capp)) := fun W' hb => by
    have q1 := (hb.block w.heap.size (by omega)).trans hr1
    unfold planRow at q1
    refine ⟨?_, ?_, ?_, ?_, ?_, ?_, ?_, ?_⟩ <;> (rw [cell_of_row _ _ _ _ _ _ q1]; rfl)
  have ROWS := Lib.hid rows
  clear rows hb0 hr1 hpa
  unfold planRow at hW0 ⊢
  obtain ⟨c0, c1, c2, c3, c4, c5, c6, c7⟩ := ROWS.out W0 (Below.refl _ _)
  have HB1 : Hid (Below W0.heap.size W0 W0) := Lib.hid (Below.refl _ _)
  go_enter Try.func6, Try.ntmps6
  go_wp2_with fail
  rw [← hW0]
  clear hW0
  refine (heavy8_any 1099511627776 W0 HPA.out).mono ?_
  rintro e w1 ⟨rfl, hb⟩
  have HB2 := Lib.hid (HB1.out.trans (hb.mono HB1.out.size))
  clear hb
  try dsimp only
  clear c0 c1 c2 c3 c4 c5 c6 c7
  obtain ⟨c0, c1, c2, c3, c4, c5, c6, c7⟩ := ROWS.out w1 HB2.out
  cases hh : heavyQ q 1099511627776 with
  | true =>
    go_wp2_with fail
    refine (awake_any _).mono ?_
    rintro e vz ⟨rfl, hb⟩
    have HBZ := Lib.hid (HB2.out.trans (hb.mono HB2.out.size))
    clear hb
    try dsimp only
    go_wp2
    go_ret
    exact ⟨rfl, HB0.out.trans (HBZ.out.mono HB0.out.size)⟩
  | false =>
  clear hh
  go_wp2_with fail
  refine (plan8_any _ (HPA.out.later HB2.out)).mono ?_
  rintro e w2 ⟨rfl, hb⟩
  have HB3 := Lib.hid (HB2.out.trans (hb.mono HB2.out.size))
  clear hb
  try dsimp only
  clear c0 c1 c2 c3 c4 c5 c6 c7
  obtain ⟨c0, c1, c2, c3, c4, c5, c6, c7⟩ := ROWS.out w2 HB3.out
  cases hv : validP q with
  | false =>
    go_wp2_with fail
    refine (awake_any _).mono ?_
    rintro e vz ⟨rfl, hb⟩
    have HBZ := Lib.hid (HB3.out.trans (hb.mono HB3.out.size))
    clear hb
    try dsimp only
    go_wp2
    go_ret
    exact ⟨rfl, HB0.out.trans (HBZ.out.mono HB0.out.size)⟩
  | true =>
  have hq := OkQ.of hv
  have hm8 := hq.m8
  have h256 := hq.p256
  have hev := @everyV_lt q
  have hn5 := (OkP.of _ hq.pr).n5
  have HQ := Lib.hid hq
  have hok := closeS_ok hq
  have E1 := closedV_is hv
  have E2 := groupsV_yes hq.pr
  have HGR : Hid (∀ s, groupsV (onlyP q.pr s) = (groupsS q.pr s, 0)) := Lib.hid (groupsV_only hq.pr)
  obtain ⟨s, hs⟩ : ∃ s, s = closeS q := ⟨_, rfl⟩
  obtain ⟨g, hg⟩ : ∃ g, g = cntM q.pr := ⟨_, rfl⟩
  obtain ⟨ev, hevs⟩ : ∃ s, s = everyV q := ⟨_, rfl⟩
  rw [← hs, ← hg] at hok
  rw [← hs] at E1
  rw [← hg] at E2
  rw [← hevs] at hev
  have hslt := hok.lt
  have E3 := HGR.out s
  rw [hok.own] at E3
  have hsz := hok.size
  have HOK := Lib.hid hok
  have F1 := Lib.hid E1
  have F2 := Lib.hid E2
  have F3 := Lib.hid E3
  have HEVS := Lib.hid hevs
  have g1 : ¬ (s : Int) < 0 := by omega
  have g2 : ¬ (ev : Int) < (s : Int) := by rw [hevs]; unfold everyV; omega
  have g2e : s ≤ ev := by omega
  have g1d : decide ((s : Int) < 0) = false := decide_eq_false g1
  have g2d : decide ((ev : Int) < (s : Int)) = false := decide_eq_false g2
  have g2n : decide (ev < s) = false := decide_eq_false (by omega)
  have hwb : IntKind.i64.wrap ((q.pr.bs.length : Int) - (g : Int)) = (ones s : Int) := by rw [IntWalk.i64_in _ (by omega)]; exact hsz.symm
  obtain ⟨xn, hxn⟩ : ∃ n : Nat, x = n := ⟨x.toNat, by omega⟩
  subst hxn
  have hxl : xn < 256 := by omega
  have hand := i64_and_nat xn ev hxl (by omega)
  have hwx : IntKind.i64.wrap (xn : Int) = (xn : Int) := IntWalk.i64_in _ (by omega)
  have hown : xn &&& ev < 2 ^ q.prices.length := Nat.lt_of_le_of_lt Nat.and_le_right hev
  obtain ⟨own, hown'⟩ : ∃ o, o = xn &&& ev := ⟨_, rfl⟩
  rw [← hown'] at hand hown
  have hbest := hok.best own hown
  have E4 := HGR.out own
  obtain ⟨go, hgo⟩ : ∃ g, g = groupsS q.pr own := ⟨_, rfl⟩
  rw [← hgo] at hbest E4
  have F4 := Lib.hid E4
  have HBEST := Lib.hid hbest
  clear E1 E2 E3 E4 hok hs hg hevs hown' hgo hv hq hbest hsz
  go_wp2_with fail
  refine (closedV_any (HPA.out.later HB3.out)).mono ?_
  rintro e w3 ⟨he, hb⟩
  rw [F1.out] at he
  try dsimp only at he
  subst he
  have HB4 := Lib.hid (HB3.out.trans (hb.mono HB3.out.size))
  clear hb
  try dsimp only
  clear c0 c1 c2 c3 c4 c5 c6 c7
  obtain ⟨c0, c1, c2, c3, c4, c5, c6, c7⟩ := ROWS.out w3 HB4.out
  go_wp2_with fail
  refine (every8_any HQ.out.m8 _ (HPA.out.later HB4.out)).mono ?_
  rintro e w4 ⟨rfl, hb⟩
  have HB5 := Lib.hid (HB4.out.trans (hb.mono HB4.out.size))
  clear hb
  try dsimp only
  rw [← HEVS.out]
  clear c0 c1 c2 c3 c4 c5 c6 c7
  obtain ⟨c0, c1, c2, c3, c4, c5, c6, c7⟩ := ROWS.out w4 HB5.out
  go_wp2_with fail
  refine (groupsV_any (HPA.out.later HB5.out).p).mono ?_
  rintro e w5 ⟨he, hb⟩
  rw [F2.out] at he
  try dsimp only at he
  subst he
  have HB6 := Lib.hid (HB5.out.trans (hb.mono HB5.out.size))
  clear hb
  try dsimp only
  clear c0 c1 c2 c3 c4 c5 c6 c7
  obtain ⟨c0, c1, c2, c3, c4, c5, c6, c7⟩ := ROWS.out w5 HB6.out
  go_wp2_with fail
  clear c0 c1 c2 c3 c4 c5 c6 c7
  refine wp_region_held_drew (S := fun W' => W'.cell? ⟨w.heap.size, 0, none⟩ = some (.slice aob q.pr.bs.length capb) ∧ W'.cell? ⟨w.heap.size, 1, none⟩ = some (.int .i64 q.pr.zl) ∧ W'.cell? ⟨w.heap.size, 2, none⟩ = some (.int .i64 q.pr.zh) ∧ W'.cell? ⟨w.heap.size, 3, none⟩ = some (.int .i64 q.pr.rl) ∧ W'.cell? ⟨w.heap.size, 4, none⟩ = some (.int .i64 q.pr.rh) ∧ W'.cell? ⟨w.heap.size, 5, none⟩ = some (.slice aor q.pr.rs.length capr) ∧ W'.cell? ⟨w.heap.size, 6, none⟩ = some (.int .i64 q.wide) ∧ W'.cell? ⟨w.heap.size, 7, none⟩ = some (.slice aop q.prices.length capp)) (by kernel_rfl) (ROWS.out _ HB6.out.drew) fun hS => ?_
  have HBD := Lib.hid HB6.out.drew
  refine wpAnyH_take (i := 0) (v := ?_) rfl (by kernel_rfl) (by kernel_rfl) (by kernel_rfl) (fun _ _ _ h => h) (Or.inl ⟨by rfl, ?_⟩) hS ?_
  rotate_left
  · (intro W hSw; obtain ⟨q0, q1, q2, q3, q4, q5, q6, q7⟩ := hSw; go_simp; try with_reducible rfl)
  try simp only [List.getElem_toArray, List.getElem_cons_succ, List.getElem_cons_zero, Act.put, List.setIfInBounds_toArray, List.set_cons_zero, List.set_cons_succ]
  refine wpAnyH_take (i := 1) (v := ?_) rfl (by kernel_rfl) (by kernel_rfl) (by kernel_rfl) (fun _ _ _ h => h) (Or.inl ⟨by rfl, ?_⟩) hS ?_
  rotate_left
  · (intro W hSw; obtain ⟨q0, q1, q2, q3, q4, q5, q6, q7⟩ := hSw; go_simp; try with_reducible rfl)
  try simp only [List.getElem_toArray, List.getElem_cons_succ, List.getElem_cons_zero, Act.put, List.setIfInBounds_toArray, List.set_cons_zero, List.set_cons_succ]
  refine wpAnyH_take (i := 2) (v := ?_) rfl (by kernel_rfl) (by kernel_rfl) (by kernel_rfl) (fun _ _ _ h => h) (Or.inl ⟨by rfl, ?_⟩) hS ?_
  rotate_left
  · (intro W hSw; obtain ⟨q0, q1, q2, q3, q4, q5, q6, q7⟩ := hSw; go_simp; try with_reducible rfl)
  try simp only [List.getElem_toArray, List.getElem_cons_succ, List.getElem_cons_zero, Act.put, List.setIfInBounds_toArray, List.set_cons_zero, List.set_cons_succ]
  refine wpAnyH_take (i := 3) (v := ?_) rfl (by kernel_rfl) (by kernel_rfl) (by kernel_rfl) (fun _ _ _ h => h) (Or.inl ⟨by rfl, ?_⟩) hS ?_
  rotate_left
  · (intro W hSw; obtain ⟨q0, q1, q2, q3, q4, q5, q6, q7⟩ := hSw; go_simp; try with_reducible rfl)
  try simp only [List.getElem_toArray, List.getElem_cons_succ, List.getElem_cons_zero, Act.put, List.setIfInBounds_toArray, List.set_cons_zero, List.set_cons_succ]
  refine wpAnyH_take (i := 4) (v := ?_) rfl (by kernel_rfl) (by kernel_rfl) (by kernel_rfl) (fun _ _ _ h => h) (Or.inl ⟨by rfl, ?_⟩) hS ?_
  rotate_left
  · (intro W hSw; obtain ⟨q0, q1, q2, q3, q4, q5, q6, q7⟩ := hSw; go_simp; try with_reducible rfl)
  try simp only [List.getElem_toArray, List.getElem_cons_succ, List.getElem_cons_zero, Act.put, List.setIfInBounds_toArray, List.set_cons_zero, List.set_cons_succ]
  refine wpAnyH_take (i := 5) (v := ?_) rfl (by kernel_rfl) (by kernel_rfl) (by kernel_rfl) (fun _ _ _ h => h) (Or.inl ⟨by rfl, ?_⟩) hS ?_
  rotate_left
  · (intro W hSw; obtain ⟨q0, q1, q2, q3, q4, q5, q6, q7⟩ := hSw; go_simp; try with_reducible rfl)
  try simp only [List.getElem_toArray, List.getElem_cons_succ, List.getElem_cons_zero, Act.put, List.setIfInBounds_toArray, List.set_cons_zero, List.set_cons_succ]
  refine wpAnyH_take (i := 6) (v := ?_) rfl (by kernel_rfl) (by kernel_rfl) (by kernel_rfl) (fun _ _ _ h => h) (Or.inl ⟨by rfl, ?_⟩) hS ?_
  rotate_left
  · (intro W hSw; obtain ⟨q0, q1, q2, q3, q4, q5, q6, q7⟩ := hSw; go_simp; try with_reducible rfl)
  try simp only [List.getElem_toArray, List.getElem_cons_succ, List.getElem_cons_zero, Act.put, List.setIfInBounds_toArray, List.set_cons_zero, List.set_cons_succ]
  refine wpAnyH_take (i := 7) (v := ?_) rfl (by kernel_rfl) (by kernel_rfl) (by kernel_rfl) (fun _ _ _ h => h) (Or.inl ⟨by rfl, ?_⟩) hS ?_
  rotate_left
  · (intro W hSw; obtain ⟨q0, q1, q2, q3, q4, q5, q6, q7⟩ := hSw; go_simp; try with_reducible rfl)
  try simp only [List.getElem_toArray, List.getElem_cons_succ, List.getElem_cons_zero, Act.put, List.setIfInBounds_toArray, List.set_cons_zero, List.set_cons_succ]
  refine wpAnyH_take (i := 8) (v := ?_) rfl (by kernel_rfl) (by kernel_rfl) (by kernel_rfl) (fun _ _ _ h => h) (Or.inl ⟨by rfl, ?_⟩) hS ?_
  rotate_left
  · (intro W hSw; obtain ⟨q0, q1, q2, q3, q4, q5, q6, q7⟩ := hSw; go_simp; try with_reducible rfl)
  try simp only [List.getElem_toArray, List.getElem_cons_succ, List.getElem_cons_zero, Act.put, List.setIfInBounds_toArray, List.set_cons_zero, List.set_cons_succ]
  refine wpAnyH_take (i := 9) (v := ?_) rfl (by kernel_rfl) (by kernel_rfl) (by kernel_rfl) (fun _ _ _ h => h) (Or.inl ⟨by rfl, ?_⟩) hS ?_
  rotate_left
  · (intro W hSw; obtain ⟨q0, q1, q2, q3, q4, q5, q6, q7⟩ := hSw; go_simp; try with_reducible rfl)
  try simp only [List.getElem_toArray, List.getElem_cons_succ, List.getElem_cons_zero, Act.put, List.setIfInBounds_toArray, List.set_cons_zero, List.set_cons_succ]
  refine wpAnyH_take (i := 10) (v := ?_) rfl (by kernel_rfl) (by kernel_rfl) (by kernel_rfl) (fun _ _ _ h => h) (Or.inl ⟨by rfl, ?_⟩) hS ?_
  rotate_left
  · (intro W hSw; obtain ⟨q0, q1, q2, q3, q4, q5, q6, q7⟩ := hSw; go_simp; try with_reducible rfl)
  try simp only [List.getElem_toArray, List.getElem_cons_succ, List.getElem_cons_zero, Act.put, List.setIfInBounds_toArray, List.set_cons_zero, List.set_cons_succ]
  refine wpAnyH_take (i := 11) (v := ?_) rfl (by kernel_rfl) (by kernel_rfl) (by kernel_rfl) (fun _ _ _ h => h) (Or.inl ⟨by rfl, ?_⟩) hS ?_
  rotate_left
  · (intro W hSw; obtain ⟨q0, q1, q2, q3, q4, q5, q6, q7⟩ := hSw; go_simp; try with_reducible rfl)
  try simp only [List.getElem_toArray, List.getElem_cons_succ, List.getElem_cons_zero, Act.put, List.setIfInBounds_toArray, List.set_cons_zero, List.set_cons_succ]
  refine wpAnyH_take (i := 12) (v := ?_) rfl (by kernel_rfl) (by kernel_rfl) (by kernel_rfl) (fun _ _ _ h => h) (Or.inl ⟨by rfl, ?_⟩) hS ?_
  rotate_left
  · (intro W hSw; obtain ⟨q0, q1, q2, q3, q4, q5, q6, q7⟩ := hSw; go_simp; try with_reducible rfl)
  try simp only [List.getElem_toArray, List.getElem_cons_succ, List.getElem_cons_zero, Act.put, List.setIfInBounds_toArray, List.set_cons_zero, List.set_cons_succ]
  refine wpAnyH_take (i := 13) (v := ?_) rfl (by kernel_rfl) (by kernel_rfl) (by kernel_rfl) (fun _ _ _ h => h) (Or.inl ⟨by rfl, ?_⟩) hS ?_
  rotate_left
  · (intro W hSw; obtain ⟨q0, q1, q2, q3, q4, q5, q6, q7⟩ := hSw; go_simp; try with_reducible rfl)
  try simp only [List.getElem_toArray, List.getElem_cons_succ, List.getElem_cons_zero, Act.put, List.setIfInBounds_toArray, List.set_cons_zero, List.set_cons_succ]
  refine wpAnyH_take (i := 14) (v := ?_) rfl (by kernel_rfl) (by kernel_rfl) (by kernel_rfl) (fun _ _ _ h => h) (Or.inl ⟨by rfl, ?_⟩) hS ?_
  rotate_left
  · (intro W hSw; obtain ⟨q0, q1, q2, q3, q4, q5, q6, q7⟩ := hSw; go_simp; try with_reducible rfl)
  try simp only [List.getElem_toArray, List.getElem_cons_succ, List.getElem_cons_zero, Act.put, List.setIfInBounds_toArray, List.set_cons_zero, List.set_cons_succ]
  refine wpAnyH_take (i := 15) (v := ?_) rfl (by kernel_rfl) (by kernel_rfl) (by kernel_rfl) (fun _ _ _ h => h) (Or.inl ⟨by rfl, ?_⟩) hS ?_
  rotate_left
  · (intro W hSw; obtain ⟨q0, q1, q2, q3, q4, q5, q6, q7⟩ := hSw; go_simp; try with_reducible rfl)
  try simp only [List.getElem_toArray, List.getElem_cons_succ, List.getElem_cons_zero, Act.put, List.setIfInBounds_toArray, List.set_cons_zero, List.set_cons_succ]
  refine wpAnyH_take (i := 16) (v := ?_) rfl (by kernel_rfl) (by kernel_rfl) (by kernel_rfl) (fun _ _ _ h => h) (Or.inl ⟨by rfl, ?_⟩) hS ?_
  rotate_left
  · (intro W hSw; obtain ⟨q0, q1, q2, q3, q4, q5, q6, q7⟩ := hSw; go_simp; try with_reducible rfl)
  try simp only [List.getElem_toArray, List.getElem_cons_succ, List.getElem_cons_zero, Act.put, List.setIfInBounds_toArray, List.set_cons_zero, List.set_cons_succ]
  refine wpAnyH_take (i := 17) (v := ?_) rfl (by kernel_rfl) (by kernel_rfl) (by kernel_rfl) (fun _ _ _ h => h) (Or.inl ⟨by rfl, ?_⟩) hS ?_
  rotate_left
  · (intro W hSw; obtain ⟨q0, q1, q2, q3, q4, q5, q6, q7⟩ := hSw; go_simp; try with_reducible rfl)
  try simp only [List.getElem_toArray, List.getElem_cons_succ, List.getElem_cons_zero, Act.put, List.setIfInBounds_toArray, List.set_cons_zero, List.set_cons_succ]
  refine wpAnyH_take (i := 19) (v := ?_) rfl (by kernel_rfl) (by kernel_rfl) (by kernel_rfl) (fun _ _ _ h => h) (Or.inl ⟨by rfl, ?_⟩) hS ?_
  rotate_left
  · (intro W hSw; obtain ⟨q0, q1, q2, q3, q4, q5, q6, q7⟩ := hSw; go_simp; try with_reducible rfl)
  try simp only [List.getElem_toArray, List.getElem_cons_succ, List.getElem_cons_zero, Act.put, List.setIfInBounds_toArray, List.set_cons_zero, List.set_cons_succ]
  refine wpAnyH_take (i := 20) (v := ?_) rfl (by kernel_rfl) (by kernel_rfl) (by kernel_rfl) (fun _ _ _ h => h) (Or.inl ⟨by rfl, ?_⟩) hS ?_
  rotate_left
  · (intro W hSw; obtain ⟨q0, q1, q2, q3, q4, q5, q6, q7⟩ := hSw; go_simp; try with_reducible rfl)
  try simp only [List.getElem_toArray, List.getElem_cons_succ, List.getElem_cons_zero, Act.put, List.setIfInBounds_toArray, List.set_cons_zero, List.set_cons_succ]
  refine wpAnyH_take (i := 21) (v := ?_) rfl (by kernel_rfl) (by kernel_rfl) (by kernel_rfl) (fun _ _ _ h => h) (Or.inl ⟨by rfl, ?_⟩) hS ?_
  rotate_left
  · (intro W hSw; obtain ⟨q0, q1, q2, q3, q4, q5, q6, q7⟩ := hSw; go_simp; try with_reducible rfl)
  try simp only [List.getElem_toArray, List.getElem_cons_succ, List.getElem_cons_zero, Act.put, List.setIfInBounds_toArray, List.set_cons_zero, List.set_cons_succ]
  refine wpAnyH_take (i := 22) (v := ?_) rfl (by kernel_rfl) (by kernel_rfl) (by kernel_rfl) (fun _ _ _ h => h) (Or.inl ⟨by rfl, ?_⟩) hS ?_
  rotate_left
  · (intro W hSw; obtain ⟨q0, q1, q2, q3, q4, q5, q6, q7⟩ := hSw; go_simp; try with_reducible rfl)
  try simp only [List.getElem_toArray, List.getElem_cons_succ, List.getElem_cons_zero, Act.put, List.setIfInBounds_toArray, List.set_cons_zero, List.set_cons_succ]
  refine wpAnyH_take (i := 23) (v := ?_) rfl (by kernel_rfl) (by kernel_rfl) (by kernel_rfl) (fun _ _ _ h => h) (Or.inl ⟨by rfl, ?_⟩) hS ?_
  rotate_left
  · (intro W hSw; obtain ⟨q0, q1, q2, q3, q4, q5, q6, q7⟩ := hSw; go_simp; try with_reducible rfl)
  try simp only [List.getElem_toArray, List.getElem_cons_succ, List.getElem_cons_zero, Act.put, List.setIfInBounds_toArray, List.set_cons_zero, List.set_cons_succ]
  refine wpAnyH_take (i := 24) (v := ?_) rfl (by kernel_rfl) (by kernel_rfl) (by kernel_rfl) (fun _ _ _ h => h) (Or.inl ⟨by rfl, ?_⟩) hS ?_
  rotate_left
  · (intro W hSw; obtain ⟨q0, q1, q2, q3, q4, q5, q6, q7⟩ := hSw; go_simp; try with_reducible rfl)
  try simp only [List.getElem_toArray, List.getElem_cons_succ, List.getElem_cons_zero, Act.put, List.setIfInBounds_toArray, List.set_cons_zero, List.set_cons_succ]
  refine wpAnyH_ready (rs := [18]) (by kernel_rfl) (by simp) ?_
  refine AllReadyH.cons rfl (fun K hK => ?_) AllReadyH.nil
  go_simp
  refine (size8_any s (by omega) _).mono ?_
  rintro e wz ⟨rfl, rfl⟩
  try dsimp only
  refine hK.out _ _ hS (fun hS => ?_)
  clear hK K
  try simp only [List.getElem_toArray, List.getElem_cons_succ, List.getElem_cons_zero, Act.put, List.setIfInBounds_toArray, List.set_cons_zero, List.set_cons_succ]
  refine wpAnyH_take (i := 25) (v := ?_) rfl (by kernel_rfl) (by kernel_rfl) (by kernel_rfl) (fun _ _ _ h => h) (Or.inl ⟨by rfl, ?_⟩) hS ?_
  rotate_left
  · (intro W hSw; obtain ⟨q0, q1, q2, q3, q4, q5, q6, q7⟩ := hSw; go_simp; try with_reducible rfl)
  try simp only [List.getElem_toArray, List.getElem_cons_succ, List.getElem_cons_zero, Act.put, List.setIfInBounds_toArray, List.set_cons_zero, List.set_cons_succ]
  refine wpAnyH_take (i := 26) (v := ?_) rfl (by kernel_rfl) (by kernel_rfl) (by kernel_rfl) (fun _ _ _ h => h) (Or.inl ⟨by rfl, ?_⟩) hS ?_
  rotate_left
  · (intro W hSw; obtain ⟨q0, q1, q2, q3, q4, q5, q6, q7⟩ := hSw; go_simp; try with_reducible rfl)
  try simp only [List.getElem_toArray, List.getElem_cons_succ, List.getElem_cons_zero, Act.put, List.setIfInBounds_toArray, List.set_cons_zero, List.set_cons_succ]
  refine wpAnyH_done (by kernel_rfl) ?_ _
  clear hS
  obtain ⟨c0, c1, c2, c3, c4, c5, c6, c7⟩ := ROWS.out _ HBD.out
  go_wp2_with fail
  refine (only8_any HQ.out s (by omega) _ (HPA.out.later HBD.out)).mono ?_
  rintro e w6 ⟨rs', rfl, hrs, hb⟩
  have hba := HBD.out.trans (hb.mono HBD.out.size)
  have hpr : PairAt w6 (onlyP q.pr s) (.slice aob q.pr.bs.length capb) rs' := PairAt.of (HPA.out.later hba).p.b hrs
  have HPR := Lib.hid hpr
  have HBO := Lib.hid hba
  clear hb hba hrs hpr
  try dsimp only
  clear c0 c1 c2 c3 c4 c5 c6 c7
  obtain ⟨c0, c1, c2, c3, c4, c5, c6, c7⟩ := ROWS.out w6 HBO.out
  go_wp2_with fail
  refine (groupsV_any HPR.out).mono ?_
  rintro e w7 ⟨he, hb⟩
  rw [F3.out] at he
  try dsimp only at he
  subst he
  have HB8 := Lib.hid (HBO.out.trans (hb.mono HBO.out.size))
  clear hb HBO HPR
  try dsimp only
  clear c0 c1 c2 c3 c4 c5 c6 c7
  obtain ⟨c0, c1, c2, c3, c4, c5, c6, c7⟩ := ROWS.out w7 HB8.out
  go_wp2_with fail
  have hb2 := HBEST.out
  by_cases h1 : (g : Int) < go
  · clear hb2
    have h1d : decide ((g : Int) < go) = true := decide_eq_true h1
    refine (only8_any HQ.out own (by omega) _ (HPA.out.later HB8.out)).mono ?_
    rintro e w8 ⟨rs', rfl, hrs, hb⟩
    have hba := HB8.out.trans (hb.mono HB8.out.size)
    have hpr : PairAt w8 (onlyP q.pr own) (.slice aob q.pr.bs.length capb) rs' := PairAt.of (HPA.out.later hba).p.b hrs
    have HPR := Lib.hid hpr
    have HBO := Lib.hid hba
    clear hb hba hrs hpr
    try dsimp only
    clear c0 c1 c2 c3 c4 c5 c6 c7
    obtain ⟨c0, c1, c2, c3, c4, c5, c6, c7⟩ := ROWS.out w8 HBO.out
    go_wp2_with fail
    refine (groupsV_any HPR.out).mono ?_
    rintro e w9 ⟨he, hb⟩
    rw [F4.out] at he
    try dsimp only at he
    subst he
    have HBA := Lib.hid (HBO.out.trans (hb.mono HBO.out.size))
    clear hb HBO HPR
    try dsimp only
    clear c0 c1 c2 c3 c4 c5 c6 c7
    obtain ⟨c0, c1, c2, c3, c4, c5, c6, c7⟩ := ROWS.out w9 HBA.out
    go_wp2_with fail
    refine (awake_any _).mono ?_
    rintro e vz ⟨rfl, hb⟩
    have HBZ := Lib.hid (HBA.out.trans (hb.mono HBA.out.size))
    clear hb
    try dsimp only
    go_wp2
    go_ret
    exact ⟨rfl, HB0.out.trans (HBZ.out.mono HB0.out.size)⟩
  have h3 : go = (g : Int) := by omega
  subst h3
  by_cases h4 : ones s < ones own
  · have h4i : (ones s : Int) < (ones own : Int) := by omega
    clear hb2 h4 h1
    refine (only8_any HQ.out own (by omega) _ (HPA.out.later HB8.out)).mono ?_
    rintro e w8 ⟨rs', rfl, hrs, hb⟩
    have hba := HB8.out.trans (hb.mono HB8.out.size)
    have hpr : PairAt w8 (onlyP q.pr own) (.slice aob q.pr.bs.length capb) rs' := PairAt.of (HPA.out.later hba).p.b hrs
    have HPR := Lib.hid hpr
    have HBO := Lib.hid hba
    clear hb hba hrs hpr
    try dsimp only
    clear c0 c1 c2 c3 c4 c5 c6 c7
    obtain ⟨c0, c1, c2, c3, c4, c5, c6, c7⟩ := ROWS.out w8 HBO.out
    go_wp2_with fail
    refine (groupsV_any HPR.out).mono ?_
    rintro e w9 ⟨he, hb⟩
    rw [F4.out] at he
    try dsimp only at he
    subst he
    have HBA := Lib.hid (HBO.out.trans (hb.mono HBO.out.size))
    clear hb HBO HPR
    try dsimp only
    clear c0 c1 c2 c3 c4 c5 c6 c7
    obtain ⟨c0, c1, c2, c3, c4, c5, c6, c7⟩ := ROWS.out w9 HBA.out
    go_wp2_with fail
    refine (size8_any own (by omega) _).mono ?_
    rintro e wz ⟨rfl, rfl⟩
    try dsimp only
    go_wp2_with fail
    refine (size8_any s (by omega) _).mono ?_
    rintro e wz ⟨rfl, rfl⟩
    try dsimp only
    go_wp2_with fail
    refine (awake_any _).mono ?_
    rintro e vz ⟨rfl, hb⟩
    have HBZ := Lib.hid (HBA.out.trans (hb.mono HBA.out.size))
    clear hb
    try dsimp only
    go_wp2
    go_ret
    exact ⟨rfl, HB0.out.trans (HBZ.out.mono HB0.out.size)⟩
  · have h4i : ¬ (ones s : Int) < (ones own : Int) := by omega
    have h5 : ones own = ones s := by omega
    have h6 : ¬ (own : Int) < (s : Int) := by omega
    have HO2 := Lib.hid h5
    clear hb2 h4 h5 h1
    refine (only8_any HQ.out own (by omega) _ (HPA.out.later HB8.out)).mono ?_
    rintro e w8 ⟨rs', rfl, hrs, hb⟩
    have hba := HB8.out.trans (hb.mono HB8.out.size)
    have hpr : PairAt w8 (onlyP q.pr own) (.slice aob q.pr.bs.length capb) rs' := PairAt.of (HPA.out.later hba).p.b hrs
    have HPR := Lib.hid hpr
    have HBO := Lib.hid hba
    clear hb hba hrs hpr
    try dsimp only
    clear c0 c1 c2 c3 c4 c5 c6 c7
    obtain ⟨c0, c1, c2, c3, c4, c5, c6, c7⟩ := ROWS.out w8 HBO.out
    go_wp2_with fail
    refine (groupsV_any HPR.out).mono ?_
    rintro e w9 ⟨he, hb⟩
    rw [F4.out] at he
    try dsimp only at he
    subst he
    have HBA := Lib.hid (HBO.out.trans (hb.mono HBO.out.size))
    clear hb HBO HPR
    try dsimp only
    clear c0 c1 c2 c3 c4 c5 c6 c7
    obtain ⟨c0, c1, c2, c3, c4, c5, c6, c7⟩ := ROWS.out w9 HBA.out
    go_wp2_with fail
    refine (size8_any own (by omega) _).mono ?_
    rintro e wz ⟨rfl, rfl⟩
    try dsimp only
    go_wp2_with fail
    rw [HO2.out]
    refine (size8_any s (by omega) _).mono ?_
    rintro e wz ⟨rfl, rfl⟩
    try dsimp only
    go_wp2_with fail
    refine (size8_any own (by omega) _).mono ?_
    rintro e wz ⟨rfl, rfl⟩
    try dsimp only
    go_wp2_with fail
    rw [HO2.out]
    refine (size8_any s (by omega) _).mono ?_
    rintro e wz ⟨rfl, rfl⟩
    try dsimp only
    go_wp2_with fail
    refine (awake_any _).mono ?_
    rintro e vz ⟨rfl, hb⟩
    have HBZ := Lib.hid (HBA.out.trans (hb.mono HBA.out.size))
    clear hb
    try dsimp only
    go_wp2
    go_ret
    exact ⟨rfl, HB0.out.trans (HBZ.out.mono HB0.out.size)⟩
end Go.Proofs.Ytabbmihakoeegaa

/- PlanClosed: whatever the plan and the number: the law returns true. No conditions. -/
namespace Go.Proofs.Ytabbmihakoeegaa
set_option linter.unusedVariables false
set_option linter.unusedSimpArgs false
open Go.ChangeShapes Go.WideShapes Go.ChangeAt Go.RowKit

set_option maxRecDepth 100000 in
theorem planClosed_lifted (os : Os) (started : os.Started) (H : Type) (enc : TypeId × Value → H) :
    ReturnsInHanded {} Try.checked os 6 .any (Rows.planClosedSpec.pre6 enc Try.prog Try.f6 Rows.planClosedRow.domain false) (Rows.planClosedSpec.post enc Try.prog Try.f6 false true false false) := by
  refine returnsInHanded_of_change (C := Try.checked) own_knob started (by kernel_rfl) Try.func6
    (ChangeSpec.witness6 (enc := enc) (C := Try.checked) false ⟨#[], #[.agg #[.slice none 0 0, .int .i64 0, .int .i64 0, .int .i64 0, .int .i64 0, .slice none 0 0, .int .i64 0, .slice none 0 0], .int .u8 0], []⟩ 8 (by kernel_rfl) (by kernel_rfl) (by kernel_rfl) (by kernel_rfl)) ?_
  intro W base args ds gs before hval0 hW hcnd _
  have hval : ∀ (j : Nat) t v, Try.f6.params[j]? = some t → args[j]? = some v → Value.okWide Try.prog W .any base t v := hval0
  have hW' := hW
  obtain ⟨p, q, hA0, hV, rfl, hfz, hnd⟩ := hW
  have hA : DataW.TrodAll enc Try.prog W 0 (fun _ => true) true Try.f6.params.toList args.toList ds p := hA0
  rw [Try.params6] at hA hval
  obtain ⟨rfl, rfl⟩ := trodVars_none hV
  clear hA0 hval0
  simp only [List.append_nil] at hW'
  have hst := hA
  obtain ⟨v0, v1, d0, d1, p0, p1, rfl, rfl, rfl, h0, h1⟩ := trodAll_two hA
  obtain ⟨qd, bs, rs, pv, rfl, hpa⟩ := open_plan (hval 0 _ _ rfl rfl) h0
  obtain ⟨x, rfl, _, _, hx⟩ := Go.ChangeShapes.open_int under_u8 (hval 1 _ _ rfl rfl) h1
  refine (closedl_any qd bs rs pv x (u8_range hx) W hpa).mono fun e W' ⟨he, hb⟩ => ?_
  subst he
  exact ⟨_, rfl, lawEnd hW' rfl hst rfl (by decide +kernel) rfl rfl hb⟩
theorem planClosed_over : Rows.planClosedRow.holds Try.pinned (OpenSpec.ofChange Rows.planClosedSpec) :=
  OpenClaim.holds_of_wide 6 Try.f6 rfl rfl rfl rfl rfl rfl rfl ⟨rfl, rfl, rfl, rfl, rfl⟩ rfl rfl rfl rfl rfl (by kernel_rfl) Try.func6 (by kernel_rfl)
    (of_decide_eq_true (by kernel_rfl)) (by unfold Func.isWrapper; first | (rw [if_pos (by decide +kernel)]; kernel_rfl) | (rw [if_neg (by decide +kernel)]; exact ⟨rfl, rfl⟩))
    (fun os started H enc _ => planClosed_lifted os started H enc)
/-- The statement. -/
theorem plan_closed : Rows.PlanClosedSaid := planClosed_over

end Go.Proofs.Ytabbmihakoeegaa
