/- Texts Qd, Qe, Qf, Qg in one file; each begins with a word on what it proves. -/
import Derived.Test.YtabbmihakoeegaaGreatKs
import Derived.Test.YtabbmihakoeegaaGreatKn

/- PlanOrder (plain). -/
namespace Go.Proofs.YtabbmihakoeegaaGreat
set_option linter.unusedVariables false
set_option linter.unusedSimpArgs false
open Go.RowKit Stab

/-! ### the next reading -/
theorem nextP_inv (q : PlanD) (s : Nat) : ∀ k, ((nextP q s k).1 = -1 ∧ ∀ i, i < k → s.testBit i = true) ∨
    (∃ m : Nat, m < k ∧ nextP q s k = ((m : Int), totalV q.pr (s + 2 ^ m)) ∧ s.testBit m = false ∧ ∀ i, i < k → s.testBit i = false → totalV q.pr (s + 2 ^ m) < totalV q.pr (s + 2 ^ i) ∨ (totalV q.pr (s + 2 ^ m) = totalV q.pr (s + 2 ^ i) ∧ m ≤ i))
  | 0 => .inl ⟨rfl, fun i hi => absurd hi (Nat.not_lt_zero _)⟩
  | k + 1 => by
    have ih := nextP_inv q s k
    have e : nextP q s (k + 1) = nextStep q s (nextP q s k) k := by unfold nextP; rw [List.range_succ, List.foldl_append]; rfl
    rw [e]
    unfold nextStep
    cases hb : s.testBit k with
    | true =>
      rw [if_pos rfl]
      rcases ih with ⟨h1, h2⟩ | ⟨m, h1, h2, h3, h4⟩
      · refine .inl ⟨h1, fun i hi => ?_⟩
        by_cases hik : i = k
        · rw [hik]; exact hb
        · exact h2 i (by omega)
      · refine .inr ⟨m, by omega, h2, h3, fun i hi hf => ?_⟩
        by_cases hik : i = k
        · rw [hik, hb] at hf; cases hf
        · exact h4 i (by omega) hf
    | false =>
      rw [if_neg (by decide)]
      rcases ih with ⟨h1, h2⟩ | ⟨m, h1, h2, h3, h4⟩
      · rw [if_pos (.inl (by omega))]
        refine .inr ⟨k, by omega, rfl, hb, fun i hi hf => ?_⟩
        by_cases hik : i = k
        · rw [hik]; exact .inr ⟨rfl, Nat.le_refl _⟩
        · rw [h2 i (by omega)] at hf; cases hf
      · rw [h2]
        dsimp only
        by_cases hlt : totalV q.pr (s + 2 ^ k) < totalV q.pr (s + 2 ^ m)
        · rw [if_pos (.inr hlt)]
          refine .inr ⟨k, by omega, rfl, hb, fun i hi hf => ?_⟩
          by_cases hik : i = k
          · rw [hik]; exact .inr ⟨rfl, Nat.le_refl _⟩
          · have := h4 i (by omega) hf
            omega
        · rw [if_neg (by omega)]
          refine .inr ⟨m, by omega, rfl, h3, fun i hi hf => ?_⟩
          by_cases hik : i = k
          · subst hik; omega
          · exact h4 i (by omega) hf
/-- The set behind the first readings of an order. -/
def setO (q : PlanD) : Nat → Nat
  | 0 => 0
  | k + 1 => setO q k + 2 ^ (nextV q (setO q k)).toNat
theorem orderL_at (q : PlanD) : ∀ f j, (orderL q f (setO q j)).length ≤ f ∧
    (∀ k, k < (orderL q f (setO q j)).length → (orderL q f (setO q j))[k]? = some (nextV q (setO q (j + k))) ∧ enoughV q (setO q (j + k)) = false) ∧
    (enoughV q (setO q (j + (orderL q f (setO q j)).length)) = true ∨ (orderL q f (setO q j)).length = f)
  | 0, j => ⟨Nat.le_refl _, fun k hk => absurd hk (Nat.not_lt_zero _), .inr rfl⟩
  | f + 1, j => by
    have e : orderL q (f + 1) (setO q j) = if enoughV q (setO q j) then [] else nextV q (setO q j) :: orderL q f (setO q (j + 1)) := rfl
    rw [e]
    cases he : enoughV q (setO q j) with
    | true => exact ⟨Nat.zero_le _, fun k hk => absurd hk (Nat.not_lt_zero _), .inl he⟩
    | false =>
      rw [if_neg (by decide)]
      obtain ⟨h1, h2, h3⟩ := orderL_at q f (j + 1)
      refine ⟨by simp; omega, fun k hk => ?_, ?_⟩
      · match k with
        | 0 => exact ⟨rfl, he⟩
        | k + 1 =>
          have := h2 k (by simpa using hk)
          rw [show j + (k + 1) = j + 1 + k by omega]
          exact this
      · rw [List.length_cons]
        rcases h3 with h3 | h3
        · left
          rw [show j + ((orderL q f (setO q (j + 1))).length + 1) = j + 1 + (orderL q f (setO q (j + 1))).length by omega]
          exact h3
        · right; omega
theorem or_ones : ∀ s : Fin 256, ∀ n : Fin 8, s.val.testBit n.val = false → ones (s.val ||| 2 ^ n.val) = ones s.val + 1 := by decide +kernel
/-- What is told as an order. -/
structure OrdOk (q : PlanD) (L : List Int) (k : Nat) (s : Nat) : Prop where
  lt : s < 2 ^ q.prices.length
  size : ones s = k
  left : (leftL q s).length + k = q.prices.length
  no : k < L.length → enoughV q s = false
  yes : k = L.length → enoughV q s = true
  next : k < L.length → ∃ n : Nat, L[k]? = some (n : Int) ∧ n < q.prices.length ∧ s.testBit n = false ∧ setO q (k + 1) = s ||| 2 ^ n ∧
    ∀ i, i < q.prices.length → s.testBit i = false → totalV q.pr (s ||| 2 ^ n) < totalV q.pr (s ||| 2 ^ i) ∨ (totalV q.pr (s ||| 2 ^ n) = totalV q.pr (s ||| 2 ^ i) ∧ n ≤ i)
theorem order_inv {q : PlanD} (hq : OkQ q) (hen : enoughV q (everyV q) = true) : ∀ k, k ≤ (orderL q q.prices.length 0).length → OrdOk q (orderL q q.prices.length 0) k (setO q k) := by
  have hm8 := hq.m8
  have h256 := hq.p256
  obtain ⟨h1, h2, h3⟩ := orderL_at q q.prices.length 0
  have e0 : setO q 0 = 0 := rfl
  rw [e0] at h1 h2 h3
  simp only [Nat.zero_add] at h2 h3
  have key : ∀ k, k ≤ (orderL q q.prices.length 0).length → setO q k < 2 ^ q.prices.length ∧ ones (setO q k) = k ∧ (leftL q (setO q k)).length + k = q.prices.length ∧
      (k < (orderL q q.prices.length 0).length → ∃ n : Nat, nextV q (setO q k) = n ∧ n < q.prices.length ∧ (setO q k).testBit n = false ∧ setO q (k + 1) = setO q k ||| 2 ^ n) := by
    intro k
    have step : ∀ k, k < (orderL q q.prices.length 0).length → setO q k < 2 ^ q.prices.length → ∃ n : Nat, nextV q (setO q k) = n ∧ n < q.prices.length ∧ (setO q k).testBit n = false ∧ setO q (k + 1) = setO q k ||| 2 ^ n := fun k hk hl => by
      have hne : leftL q (setO q k) ≠ [] := fun h => by
        have h4 := left_zero _ hl h
        have h5 := (h2 k hk).2
        rw [h4, hen] at h5
        cases h5
      obtain ⟨n, hn, hn2, hn3⟩ := next_is q (setO q k) hne
      have h6 := or_add ⟨setO q k, by omega⟩ ⟨n, by omega⟩ hn3
      exact ⟨n, hn, hn2, hn3, by show setO q k + 2 ^ (nextV q (setO q k)).toNat = _; rw [hn, Int.toNat_natCast]; exact h6.symm⟩
    induction k with
    | zero =>
      intro hk
      have hl : setO q 0 < 2 ^ q.prices.length := Nat.two_pow_pos _
      refine ⟨hl, by rw [e0]; decide, ?_, fun h => step 0 h hl⟩
      rw [e0]
      have : leftL q 0 = List.range q.prices.length := by unfold leftL; exact List.filter_eq_self.2 (fun i _ => by simp)
      rw [this, List.length_range]; rfl
    | succ k ih =>
      intro hk
      obtain ⟨a1, a2, a3, a4⟩ := ih (by omega)
      obtain ⟨n, b1, b2, b3, b4⟩ := a4 (by omega)
      have hl : setO q (k + 1) < 2 ^ q.prices.length := by rw [b4]; exact or_lt a1 b2
      refine ⟨hl, ?_, ?_, fun h => step (k + 1) h hl⟩
      · rw [b4]
        have := or_ones ⟨setO q k, by omega⟩ ⟨n, by omega⟩ b3
        dsimp only at this
        omega
      · have := left_less (q := q) (s := setO q k) (n := n) (left_mem.2 ⟨b2, b3⟩)
        rw [b4]
        omega
  intro k hk
  obtain ⟨a1, a2, a3, a4⟩ := key k hk
  refine ⟨a1, a2, a3, fun h => (h2 k h).2, fun h => ?_, fun h => ?_⟩
  · rcases h3 with h3 | h3
    · rw [h]; exact h3
    · have h0 : leftL q (setO q k) = [] := List.eq_nil_of_length_eq_zero (by omega)
      rw [left_zero _ a1 h0]
      exact hen
  · obtain ⟨n, b1, b2, b3, b4⟩ := a4 h
    refine ⟨n, by rw [(h2 k h).1, b1], b2, b3, b4, fun i hi hf => ?_⟩
    have c1 := or_add ⟨setO q k, by omega⟩ ⟨n, by omega⟩ b3
    have c2 := or_add ⟨setO q k, by omega⟩ ⟨i, by omega⟩ hf
    dsimp only at c1 c2
    rw [c1, c2]
    rcases nextP_inv q (setO q k) q.prices.length with ⟨d1, d2⟩ | ⟨m, d1, d2, d3, d4⟩
    · rw [d2 n b2] at b3; cases b3
    · have e1 : nextV q (setO q k) = (m : Int) := by unfold nextV; rw [d2]
      have e2 : m = n := by omega
      subst e2
      exact d4 i hi hf

/-! ### how wide all are together -/
def tK (p : PairD) (s : Nat) : Nat → Int
  | 0 => 0
  | k + 1 => tK p s k + widB p s k
theorem tK_out {p : PairD} {s : Nat} : ∀ k, p.bs.length ≤ k → tK p s k = tK p s p.bs.length
  | 0, h => by rw [Nat.le_zero.1 h]
  | k + 1, h => by
    by_cases e : p.bs.length = k + 1
    · rw [e]
    · have h1 := tK_out (p := p) (s := s) k (by omega)
      have h2 : widB p s k = 0 := by unfold widB; rw [if_neg (by omega)]
      show tK p s k + widB p s k = _
      rw [h1, h2, Int.add_zero]
theorem tK_end {p : PairD} (hp : OkP p) (s : Nat) : tK p s p.bs.length = totalV p s := by
  rw [← tK_out 5 hp.n5]
  rfl
theorem tK_in {q : PlanD} (hq : OkQ q) (ht : truA q.pr ≠ []) (s : Nat) : ∀ k, 0 ≤ tK q.pr s k ∧ tK q.pr s k ≤ 80 * (k : Int)
  | 0 => ⟨Int.le_refl _, Int.le_refl _⟩
  | k + 1 => by
    have ih := tK_in hq ht s k
    have h := widB_40 hq.pr s k (truA_of_every hq ht s)
    show 0 ≤ tK q.pr s k + widB q.pr s k ∧ tK q.pr s k + widB q.pr s k ≤ _
    omega
end Go.Proofs.YtabbmihakoeegaaGreat

/- PlanOrder's closure: how wide all blocks are together by some readings. -/
namespace Go.Proofs.YtabbmihakoeegaaGreat
set_option linter.unusedVariables false
set_option linter.unusedSimpArgs false
open Go.RowKit Go.Shelf
attribute [local go_sem] Oper.semAt_some

set_option maxRecDepth 100000 in
set_option maxHeartbeats 4000000 in
theorem sum8_any {q : PlanD} (hq : OkQ q) (ht : truA q.pr ≠ []) {bs rs ps : Value} (pb t : Nat) (htl : t < 2 ^ q.prices.length) (w : World) (hpb : w.heap[pb]? = some (.cells (planRow q bs rs ps) 30 (0, 0))) (hpa : PlanAt w q bs rs ps) :
    Calls Tryz.prog 30 #[.int .i64 t, .pointer (some ⟨pb, 0, none⟩)] w fun e w' => e = .returned (.int .i64 (totalV q.pr t)) ∧ Below w.heap.size w w' := by
  obtain ⟨aob, capb, hbv, _⟩ := id hpa.p.b
  obtain ⟨aor, capr, hrv, _⟩ := id hpa.p.r
  obtain ⟨aop, capp, hpv, _⟩ := id hpa.n
  subst hbv hrv hpv
  unfold planRow at hpb
  have hpl := lt_of_block hpb
  have c0 : w.cell? ⟨pb, 0, none⟩ = some (.slice aob q.pr.bs.length capb) := by rw [cell_of_row _ _ _ _ _ _ hpb]; rfl
  have c1 : w.cell? ⟨pb, 1, none⟩ = some (.int .i64 q.pr.zl) := by rw [cell_of_row _ _ _ _ _ _ hpb]; rfl
  have c2 : w.cell? ⟨pb, 2, none⟩ = some (.int .i64 q.pr.zh) := by rw [cell_of_row _ _ _ _ _ _ hpb]; rfl
  have c3 : w.cell? ⟨pb, 3, none⟩ = some (.int .i64 q.pr.rl) := by rw [cell_of_row _ _ _ _ _ _ hpb]; rfl
  have c4 : w.cell? ⟨pb, 4, none⟩ = some (.int .i64 q.pr.rh) := by rw [cell_of_row _ _ _ _ _ _ hpb]; rfl
  have c5 : w.cell? ⟨pb, 5, none⟩ = some (.slice aor q.pr.rs.length capr) := by rw [cell_of_row _ _ _ _ _ _ hpb]; rfl
  have c6 : w.cell? ⟨pb, 6, none⟩ = some (.int .i64 q.wide) := by rw [cell_of_row _ _ _ _ _ _ hpb]; rfl
  have c7 : w.cell? ⟨pb, 7, none⟩ = some (.slice aop q.prices.length capp) := by rw [cell_of_row _ _ _ _ _ _ hpb]; rfl
  have HPA := Lib.hid hpa
  have HQ := Lib.hid hq
  have HT := Lib.hid ht
  have h256 := hq.p256
  have hp := OkP.of _ hq.pr
  have hn5 := hp.n5
  have HE := Lib.hid (tK_end hp t)
  have HTI := Lib.hid (tK_in hq ht t)
  have hvo := onlyP_valid q.pr t hq.pr
  have hno := truA_of_every hq ht t
  have hK : ∀ i, i < q.pr.bs.length → ∃ lo hi : Int, knownV (onlyP q.pr t) (i : Int) = ((lo, hi), 0) ∧ tK q.pr t (i + 1) = tK q.pr t i + (hi - lo) ∧ -40 ≤ lo ∧ lo ≤ hi ∧ hi ≤ 40 := fun i hi => by
    have h1 := knownV_yes hvo hno i hi
    have h2 := hullD_40 (OkP.of _ hvo) hno i 5
    refine ⟨(hullD (onlyP q.pr t) i 5).1, (hullD (onlyP q.pr t) i 5).2, h1, ?_, h2.1, h2.2.1, h2.2.2⟩
    show tK q.pr t i + widB q.pr t i = _
    unfold widB
    rw [if_pos hi]
  have HK := Lib.hid hK
  clear hpb hpa hq ht hp hvo hno hK
  unfold planRow at HPA
  go_enter Tryz.func30, Tryz.ntmps30
  go_wp2_with fail
  refine (only8_any HQ.out t (by omega) _ HPA.out).mono ?_
  rintro e u1 ⟨rs', rfl, hrs, hb1⟩
  have hpr : PairAt u1 (onlyP q.pr t) (.slice aob q.pr.bs.length capb) rs' := PairAt.of (HPA.out.later hb1).p.b hrs
  obtain ⟨p1, hp1⟩ : ∃ p, p = onlyP q.pr t := ⟨_, rfl⟩
  rw [← hp1] at hpr HK hrs
  rw [← hp1]
  obtain ⟨ao', cap', hrv', _⟩ := id hrs
  subst hrv'
  have HB1 := Lib.hid hb1
  have HPR := Lib.hid hpr
  clear hp1 hb1 hrs hpr c0 c1 c2 c3 c4 c5 c6 c7
  unfold pairRow at HPR ⊢
  dsimp only
  go_wp2_with fail
  obtain ⟨U, hU⟩ : ∃ U, U = u1.alloc (.cells #[.slice aob q.pr.bs.length capb, .int .i64 p1.zl, .int .i64 p1.zh, .int .i64 p1.rl, .int .i64 p1.rh, .slice ao' p1.rs.length cap'] 27) := ⟨_, rfl⟩
  rw [← hU]
  have hr : U.heap[u1.heap.size]? = some (.cells #[.slice aob q.pr.bs.length capb, .int .i64 p1.zl, .int .i64 p1.zh, .int .i64 p1.rl, .int .i64 p1.rh, .slice ao' p1.rs.length cap'] 27 (0, 0)) := by rw [hU]; exact heap_alloc_at _ _ _ rfl
  have hbu : Below u1.heap.size u1 U := by rw [hU]; exact (Below.refl _ _).alloc (Nat.le_refl _) _
  have hzu : U.heap.size = u1.heap.size + 1 := by rw [hU]; simp
  have HPU := Lib.hid (HPR.out.later hbu)
  have HBU := Lib.hid (HB1.out.trans (hbu.mono HB1.out.size))
  have HR := Lib.hid hr
  clear hU hr hbu HPR HB1
  go_loopw [3, 14] (fun sv iv wr => ∃ i : Nat, i ≤ q.pr.bs.length ∧ iv = .int .i64 i ∧ sv = .int .i64 (tK q.pr t i) ∧ Below U.heap.size U wr) (fun _ iv _ => q.pr.bs.length - (intOf iv).toNat)
  case atStart => exact ⟨0, Nat.zero_le _, rfl, rfl, Below.refl _ _⟩
  case round =>
    obtain ⟨i, hi, rfl, rfl, hb⟩ := hrel
    have HB := Lib.hid hb
    have hzr := hb.size
    clear hb
    by_cases hlt : i < q.pr.bs.length
    · have hlti : (i : Int) < (q.pr.bs.length : Int) := by omega
      have hwi : IntKind.i64.wrap ((i : Int) + 1) = ((i + 1 : Nat) : Int) := by rw [IntWalk.i64_in _ (by omega)]; omega
      obtain ⟨lo, hh, K1, K2, k3, k4, k5⟩ := HK.out i hlt
      have hin := HTI.out i
      obtain ⟨tk, htk⟩ : ∃ x, x = tK q.pr t i := ⟨_, rfl⟩
      rw [← htk] at K2 hin
      rw [← htk]
      have hw1 : IntKind.i64.wrap (hh - lo) = hh - lo := IntWalk.i64_in _ (by omega)
      have hw2 : IntKind.i64.wrap (tk + (hh - lo)) = tk + (hh - lo) := IntWalk.i64_in _ (by omega)
      have HK1 := Lib.hid K1
      have HK2 := Lib.hid K2
      have hrr := (HB.out.block u1.heap.size (by omega)).trans HR.out
      have d0 : wr.cell? ⟨u1.heap.size, 0, none⟩ = some (.slice aob q.pr.bs.length capb) := by rw [cell_of_row _ _ _ _ _ _ hrr]; rfl
      have d1 : wr.cell? ⟨u1.heap.size, 1, none⟩ = some (.int .i64 p1.zl) := by rw [cell_of_row _ _ _ _ _ _ hrr]; rfl
      have d2 : wr.cell? ⟨u1.heap.size, 2, none⟩ = some (.int .i64 p1.zh) := by rw [cell_of_row _ _ _ _ _ _ hrr]; rfl
      have d3 : wr.cell? ⟨u1.heap.size, 3, none⟩ = some (.int .i64 p1.rl) := by rw [cell_of_row _ _ _ _ _ _ hrr]; rfl
      have d4 : wr.cell? ⟨u1.heap.size, 4, none⟩ = some (.int .i64 p1.rh) := by rw [cell_of_row _ _ _ _ _ _ hrr]; rfl
      have d5 : wr.cell? ⟨u1.heap.size, 5, none⟩ = some (.slice ao' p1.rs.length cap') := by rw [cell_of_row _ _ _ _ _ _ hrr]; rfl
      clear K1 K2 htk hrr hin
      go_wp2_with fail
      refine (knownV_any (HPU.out.later HB.out) i).mono ?_
      rintro e u2 ⟨he, hb⟩
      rw [HK1.out] at he
      dsimp only at he
      subst he
      have HU2 := Lib.hid ((HB.out.trans (hb.mono HB.out.size)).alloc (by have := HB.out.size; have := hb.size; omega) (.cells #[.int .i64 lo, .int .i64 hh] 24))
      clear hb d0 d1 d2 d3 d4 d5
      dsimp only
      unfold spanV
      go_wp2_with fail
      exact ⟨⟨i + 1, by omega, rfl, by rw [HK2.out], HU2.out⟩, by simp [intOf]; omega⟩
    · obtain rfl : i = q.pr.bs.length := by omega
      go_wp2_with fail
      go_ret
      exact ⟨by first | (rw [HE.out]; rfl) | rw [HE.out], HBU.out.trans (HB.out.mono HBU.out.size)⟩
end Go.Proofs.YtabbmihakoeegaaGreat

/- PlanOrder, walked. -/
namespace Go.Proofs.YtabbmihakoeegaaGreat
set_option linter.unusedVariables false
set_option linter.unusedSimpArgs false
open Go.RowKit Go.Shelf
attribute [local go_sem] Oper.semAt_some

theorem order_cases {q : PlanD} (hv : validP q = true) :
    (truA q.pr = [] ∧ fewestV q = (0, 10) ∧ orderV q = ([], 10)) ∨
    (truA q.pr ≠ [] ∧ enoughV q (everyV q) = false ∧ fewestV q = (0, 4) ∧ orderV q = ([], 4)) ∨
    (truA q.pr ≠ [] ∧ enoughV q (everyV q) = true ∧ fewestV q = ((fewS q : Int), 0) ∧ orderV q = (orderL q q.prices.length 0, 0)) := by
  by_cases ht : truA q.pr = []
  · exact .inl ⟨ht, fewest_err (errE_no hv ht) (by decide), order_err (errE_no hv ht) (by decide)⟩
  · cases he : enoughV q (everyV q) with
    | false => exact .inr (.inl ⟨ht, rfl, fewest_err (errE_none hv ht he) (by decide), order_err (errE_none hv ht he) (by decide)⟩)
    | true => exact .inr (.inr ⟨ht, rfl, fewest_ok (errE_ok hv ht he), order_ok (errE_ok hv ht he)⟩)
theorem or_i64o : ∀ n : Fin 8, ∀ s : Fin 256, bits BinOp.or IntKind.i64 (s.val : Int) (wrap64 (2 ^ n.val)) = ((s.val ||| 2 ^ n.val : Nat) : Int) := by decide +kernel
theorem bit8_z : ∀ i : Fin 8, ∀ s : Fin 256, (bits BinOp.and IntKind.i64 ((s.val : Int) / 2 ^ i.val) 1 == 0) = !s.val.testBit i.val := by decide +kernel
theorem total_pos {q : PlanD} (hq : OkQ q) (ht : truA q.pr ≠ []) (s : Nat) : 0 ≤ totalV q.pr s := by
  rw [← tK_end (OkP.of _ hq.pr) s]
  exact (tK_in hq ht s _).1
set_option maxRecDepth 100000 in
set_option maxHeartbeats 8000000 in
theorem orderl_any (q : PlanD) (bs rs ps : Value) (x : Int) (hx : 0 ≤ x ∧ x < 256) (w : World) (hpa : PlanAt w q bs rs ps) :
    Calls Tryz.prog 7 #[.agg (planRow q bs rs ps), .int .u8 x] w fun e w' => e = .returned (.bool true) ∧ Below w.heap.size w w' := by
  have hmf : ∀ (fn : Fn) (first cap : Array Value) (w : World), (Instr.makeFunc fn first cap).run Tryz.prog w = .ok (.func fn first cap) w := fun _ _ _ _ => rfl
  obtain ⟨aob, capb, hbv, _⟩ := id hpa.p.b
  obtain ⟨aor, capr, hrv, _⟩ := id hpa.p.r
  obtain ⟨aop, capp, hpv, _⟩ := id hpa.n
  subst hbv hrv hpv
  obtain ⟨W0, hW0⟩ : ∃ W0, W0 = w.alloc (.cells (planRow q (.slice aob q.pr.bs.length capb) (.slice aor q.pr.rs.length capr) (.slice aop q.prices.length capp)) 30 (0, 0)) := ⟨_, rfl⟩
  have hb0 : Below w.heap.size w W0 := by rw [hW0]; exact (Below.refl _ _).alloc (Nat.le_refl _) _
  have hr1 : W0.heap[w.heap.size]? = some (.cells (planRow q (.slice aob q.pr.bs.length capb) (.slice aor q.pr.rs.length capr) (.slice aop q.prices.length capp)) 30 (0, 0)) := by rw [hW0]; exact heap_alloc_at _ _ _ rfl
  have hsw : W0.heap.size = w.heap.size + 1 := by rw [hW0]; simp
  have HB0 := Lib.hid hb0
  have HR1 := Lib.hid hr1
  have HPA := Lib.hid (hpa.later hb0)
  have rows : ∀ W', Below W0.heap.size W0 W' → (W'.cell? ⟨w.heap.size, 0, none⟩ = some (.slice aob q.pr.bs.length capb) ∧ W'.cell? ⟨w.heap.size, 1, none⟩ = some (.int .i64 q.pr.zl) ∧ W'.cell? ⟨w.heap.size, 2, none⟩ = some (.int .i64 q.pr.zh) ∧
        W'.cell? ⟨w.heap.size, 3, none⟩ = some (.int .i64 q.pr.rl) ∧ W'.cell? ⟨w.heap.size, 4, none⟩ = some (.int .i64 q.pr.rh) ∧ W'.cell? ⟨w.heap.size, 5, none⟩ = some (.slice aor q.pr.rs.length capr) ∧ W'.cell? ⟨w.heap.size, 6, none⟩ = some (.int .i64 q.wide) ∧ W'.cell? ⟨w.heap.size, 7, none⟩ = some (.slice aop q.prices.length capp)) := fun W' hb => by
    have q1 := (hb.block w.heap.size (by omega)).trans hr1
    unfold planRow at q1
    refine ⟨?_, ?_, ?_, ?_, ?_, ?_, ?_, ?_⟩ <;> (rw [cell_of_row _ _ _ _ _ _ q1]; rfl)
  have ROWS := Lib.hid rows
  clear rows hb0 hr1 hpa
  unfold planRow at hW0 ⊢
  obtain ⟨c0, c1, c2, c3, c4, c5, c6, c7⟩ := ROWS.out W0 (Below.refl _ _)
  have HB1 : Hid (Below W0.heap.size W0 W0) := Lib.hid (Below.refl _ _)
  go_enter Tryz.func7, Tryz.ntmps7
  go_wp2_with fail
  rw [← hW0]
  clear hW0
  refine (fine8_any W0 HPA.out).mono ?_
  rintro e w1 ⟨rfl, hb⟩
  have HB2 := Lib.hid (HB1.out.trans (hb.mono HB1.out.size))
  clear hb
  try dsimp only
  clear c0 c1 c2 c3 c4 c5 c6 c7
  obtain ⟨c0, c1, c2, c3, c4, c5, c6, c7⟩ := ROWS.out w1 HB2.out
  cases hf : fineQ q with
  | false =>
    go_wp2_with fail
    refine (awake_any _).mono ?_
    rintro e vz ⟨rfl, hb⟩
    have HBZ := Lib.hid (HB2.out.trans (hb.mono HB2.out.size))
    clear hb
    try dsimp only
    go_wp2
    go_ret
    exact ⟨rfl, HB0.out.trans (HBZ.out.mono HB0.out.size)⟩
  | true =>
  have hv : validP q = true := by unfold fineQ at hf; rw [Bool.and_eq_true] at hf; exact hf.2
  have hq := OkQ.of hv
  have hm8 := hq.m8
  have h256 := hq.p256
  have hev := @everyV_lt q
  have HQ := Lib.hid hq
  have HV := Lib.hid hv
  clear hf hq
  rcases order_cases hv with ⟨ht, E1, E2⟩ | ⟨ht, hen, E1, E2⟩ | ⟨ht, hen, E1, E2⟩
  · have F1 := Lib.hid E1
    have F2 := Lib.hid E2
    clear ht E1 E2 hv
    go_wp2_with fail
    refine (orderV_any (HPA.out.later HB2.out)).mono ?_
    rintro e w2 ⟨v, he, hn, hb⟩
    rw [F2.out] at he hn
    dsimp only at he hn
    obtain ⟨av, cv, hv', _⟩ := id hn
    subst hv'
    subst he
    have HN := Lib.hid hn
    have HB3 := Lib.hid (HB2.out.trans (hb.mono HB2.out.size))
    clear hb hn
    try dsimp only [List.length_nil]
    clear c0 c1 c2 c3 c4 c5 c6 c7
    obtain ⟨c0, c1, c2, c3, c4, c5, c6, c7⟩ := ROWS.out w2 HB3.out
    go_wp2_with fail
    refine (fewestV_any (HPA.out.later HB3.out)).mono ?_
    rintro e w3 ⟨he, hb⟩
    rw [F1.out] at he
    try dsimp only at he
    subst he
    have HB4 := Lib.hid (HB3.out.trans (hb.mono HB3.out.size))
    clear hb
    try dsimp only
    clear c0 c1 c2 c3 c4 c5 c6 c7
    obtain ⟨c0, c1, c2, c3, c4, c5, c6, c7⟩ := ROWS.out w3 HB4.out
    go_wp2_with fail
    refine (awake_any _).mono ?_
    rintro e vz ⟨rfl, hb⟩
    have HBZ := Lib.hid (HB4.out.trans (hb.mono HB4.out.size))
    clear hb
    try dsimp only
    go_wp2
    go_ret
    exact ⟨rfl, HB0.out.trans (HBZ.out.mono HB0.out.size)⟩
  · have F1 := Lib.hid E1
    have F2 := Lib.hid E2
    clear ht hen E1 E2 hv
    go_wp2_with fail
    refine (orderV_any (HPA.out.later HB2.out)).mono ?_
    rintro e w2 ⟨v, he, hn, hb⟩
    rw [F2.out] at he hn
    dsimp only at he hn
    obtain ⟨av, cv, hv', _⟩ := id hn
    subst hv'
    subst he
    have HN := Lib.hid hn
    have HB3 := Lib.hid (HB2.out.trans (hb.mono HB2.out.size))
    clear hb hn
    try dsimp only [List.length_nil]
    clear c0 c1 c2 c3 c4 c5 c6 c7
    obtain ⟨c0, c1, c2, c3, c4, c5, c6, c7⟩ := ROWS.out w2 HB3.out
    go_wp2_with fail
    refine (fewestV_any (HPA.out.later HB3.out)).mono ?_
    rintro e w3 ⟨he, hb⟩
    rw [F1.out] at he
    try dsimp only at he
    subst he
    have HB4 := Lib.hid (HB3.out.trans (hb.mono HB3.out.size))
    clear hb
    try dsimp only
    clear c0 c1 c2 c3 c4 c5 c6 c7
    obtain ⟨c0, c1, c2, c3, c4, c5, c6, c7⟩ := ROWS.out w3 HB4.out
    go_wp2_with fail
    refine (awake_any _).mono ?_
    rintro e vz ⟨rfl, hb⟩
    have HBZ := Lib.hid (HB4.out.trans (hb.mono HB4.out.size))
    clear hb
    try dsimp only
    go_wp2
    go_ret
    exact ⟨rfl, HB0.out.trans (HBZ.out.mono HB0.out.size)⟩
  have hinv := order_inv (OkQ.of hv) hen
  have hfok := few_ok (OkQ.of hv) ht hen
  obtain ⟨L, hL⟩ : ∃ L, L = orderL q q.prices.length 0 := ⟨_, rfl⟩
  rw [← hL] at hinv E2
  obtain ⟨f, hf⟩ : ∃ s, s = fewS q := ⟨_, rfl⟩
  rw [← hf] at E1
  have hflt : f < 256 := by have := hfok.lt; omega
  have hfl : ones f ≤ L.length := by
    have h1 := hinv L.length (Nat.le_refl _)
    have h2 := h1.size
    have h3 := hfok.best _ h1.lt (h1.yes rfl)
    rw [hf]
    omega
  have hL8 : L.length ≤ 8 := by
    have h1 := hinv L.length (Nat.le_refl _)
    have h2 := h1.left
    omega
  have HEC := Lib.hid (fun (t : Nat) (h : t < 2 ^ q.prices.length) => enoughC_is hv ht h)
  have HT := Lib.hid ht
  have F1 := Lib.hid E1
  have F2 := Lib.hid E2
  have HI := Lib.hid hinv
  have hfli : (ones f : Int) ≤ (L.length : Int) := by omega
  obtain ⟨xn, hxn⟩ : ∃ n : Nat, x = n := ⟨x.toNat, by omega⟩
  subst hxn
  have hxl : xn < 256 := by omega
  have hwx : IntKind.i64.wrap (xn : Int) = (xn : Int) := IntWalk.i64_in _ (by omega)
  clear ht hen E1 E2 hv hfok hL hf hinv
  go_wp2_with fail
  refine (orderV_any (HPA.out.later HB2.out)).mono ?_
  rintro e w2 ⟨v, he, hn, hb⟩
  rw [F2.out] at he hn
  dsimp only at he hn
  obtain ⟨av, cv, hv', _⟩ := id hn
  subst hv'
  subst he
  have HN := Lib.hid hn
  have HB3 := Lib.hid (HB2.out.trans (hb.mono HB2.out.size))
  clear hb hn
  try dsimp only [List.length_nil]
  clear c0 c1 c2 c3 c4 c5 c6 c7
  obtain ⟨c0, c1, c2, c3, c4, c5, c6, c7⟩ := ROWS.out w2 HB3.out
  go_wp2_with fail
  refine (fewestV_any (HPA.out.later HB3.out)).mono ?_
  rintro e w3 ⟨he, hb⟩
  rw [F1.out] at he
  dsimp only at he
  subst he
  have HN4 := Lib.hid ((HN.out.later hb.size (fun k h1 _ => hb.block k h1)).low)
  have HB4 := Lib.hid (HB3.out.trans (hb.mono HB3.out.size))
  clear hb HN
  try dsimp only
  clear c0 c1 c2 c3 c4 c5 c6 c7
  obtain ⟨c0, c1, c2, c3, c4, c5, c6, c7⟩ := ROWS.out w3 HB4.out
  go_wp2_with fail
  clear c0 c1 c2 c3 c4 c5 c6 c7
  have hsw3 : w.heap.size < w3.heap.size := by have := HB4.out.size; omega
  replace ROWS := Lib.hid (fun W (h : Below w3.heap.size w3 W) => ROWS.out W (HB4.out.trans (h.mono HB4.out.size)))
  replace HPA := Lib.hid (HPA.out.later HB4.out)
  replace HR1 := Lib.hid ((HB4.out.block w.heap.size (by omega)).trans HR1.out)
  replace HB0 := Lib.hid (HB0.out.trans (HB4.out.mono HB0.out.size))
  clear HB2 HB3 HB4 HB1
  go_loopw [10, 56] (fun sv iv wr => ∃ k : Nat, k ≤ L.length ∧ iv = .int .i64 k ∧ sv = .int .i64 (setO q k : Nat) ∧ Below w3.heap.size w3 wr) (fun _ iv _ => L.length - (intOf iv).toNat)
  case atStart => exact ⟨0, Nat.zero_le _, rfl, rfl, Below.refl _ _⟩
  case round =>
    obtain ⟨k, hk, rfl, rfl, hb⟩ := hrel
    have HB := Lib.hid hb
    have hzr := hb.size
    clear hb
    have hik := HI.out k hk
    by_cases hlt : k < L.length
    · have hlti : (k : Int) < (L.length : Int) := by omega
      have hwi : IntKind.i64.wrap ((k : Int) + 1) = ((k + 1 : Nat) : Int) := by rw [IntWalk.i64_in _ (by omega)]; omega
      have hsl := hik.lt
      obtain ⟨n, hn1, hn2, hn3, hn4, hn5⟩ := hik.next hlt
      have hno := (HEC.out _ hsl).trans (hik.no hlt)
      clear hik
      obtain ⟨s, hs⟩ : ∃ s, s = setO q k := ⟨_, rfl⟩
      rw [← hs] at hsl hn3 hn4 hn5 hno
      rw [← hs]
      clear hs
      have HNO := Lib.hid hno
      have HN4s := Lib.hid hn4
      obtain ⟨ao', cap', he, _, _, hel⟩ := HN4.out
      cases he
      obtain ⟨lb, lo, rfl, _, hll, e1⟩ := hel k hlt
      have e0 : L[k] = (n : Int) := by rw [List.getElem?_eq_getElem hlt] at hn1; exact Option.some.inj hn1
      rw [e0] at e1
      have e2 := (HB.out.cell (p := ⟨lb, lo + k, none⟩) hll).trans e1
      have hpos : 0 < q.prices.length := by omega
      have hz0 : ((q.prices.length : Int) == 0) = false := by rw [beq_eq_false_iff_ne]; omega
      obtain ⟨o, ho⟩ : ∃ k : Nat, (xn : Int) % (q.prices.length : Int) = k := ⟨((xn : Int) % (q.prices.length : Int)).toNat, by have := Int.emod_nonneg (xn : Int) (b := (q.prices.length : Int)) (by omega); omega⟩
      have hol : o < q.prices.length := by have := Int.emod_lt_of_pos (xn : Int) (b := (q.prices.length : Int)) (by omega); omega
      have j1 : ¬ (n : Int) < 0 := by omega
      have j1d : decide ((n : Int) < 0) = false := decide_eq_false j1
      have j2 : ¬ (q.prices.length : Int) ≤ (n : Int) := by omega
      have j2d : decide ((q.prices.length : Int) ≤ (n : Int)) = false := decide_eq_false j2
      have j2n : decide (q.prices.length ≤ n) = false := decide_eq_false (by omega)
      have j2m : n < q.prices.length := hn2
      have b1 := bit8_i64 ⟨n, by omega⟩ ⟨s, by omega⟩
      have b2 := bit8_z ⟨o, by omega⟩ ⟨s, by omega⟩
      have b3 := or_i64o ⟨n, by omega⟩ ⟨s, by omega⟩
      have b4 := or_i64o ⟨o, by omega⟩ ⟨s, by omega⟩
      dsimp only at b1 b2 b3 b4
      rw [hn3] at b1
      have ht1 := or_lt hsl hn2
      have ht2 := or_lt hsl hol
      have hpos2 := (total_pos HQ.out HT.out (s ||| 2 ^ n))
      have hcmp := hn5 o hol
      obtain ⟨t1, ht1e⟩ : ∃ t, t = s ||| 2 ^ n := ⟨_, rfl⟩
      obtain ⟨t2, ht2e⟩ : ∃ t, t = s ||| 2 ^ o := ⟨_, rfl⟩
      rw [← ht1e] at b3 ht1 hpos2 hcmp
      rw [← ht2e] at b4 ht2 hcmp
      obtain ⟨own, hown⟩ : ∃ a, a = totalV q.pr t1 := ⟨_, rfl⟩
      obtain ⟨m, hm⟩ : ∃ a, a = totalV q.pr t2 := ⟨_, rfl⟩
      rw [← hown] at hcmp hpos2
      rw [← hm] at hcmp
      have HOWN := Lib.hid hown
      have HM := Lib.hid hm
      have HT1 := Lib.hid ht1e
      have j3 : ¬ own < 0 := by omega
      have j3d : decide (own < 0) = false := decide_eq_false j3
      clear hn1 hn3 hn4 hn5 hno hel e0 e1 hown hm ht1e ht2e hpos2
      obtain ⟨c0, c1, c2, c3, c4, c5, c6, c7⟩ := ROWS.out wr HB.out
      cases hbo : s.testBit o with
      | true =>
        rw [hbo] at b2
        clear hcmp hbo
        go_wp2_with fail
        refine (enough8_any _ _ (HPA.out.later HB.out)).mono ?_
        rintro e u1 ⟨he, hb⟩
        rw [HNO.out] at he
        try dsimp only at he
        subst he
        have HBa := Lib.hid (HB.out.trans (hb.mono HB.out.size))
        clear hb
        try dsimp only
        clear c0 c1 c2 c3 c4 c5 c6 c7
        obtain ⟨c0, c1, c2, c3, c4, c5, c6, c7⟩ := ROWS.out u1 HBa.out
        go_wp2_with fail
        refine (sum8_any HQ.out HT.out w.heap.size t1 ht1 _ ((HBa.out.block _ (by omega)).trans HR1.out) (HPA.out.later HBa.out)).mono ?_
        rintro e u2 ⟨he, hb⟩
        rw [← HOWN.out] at he
        try dsimp only at he
        subst he
        have HBb := Lib.hid (HBa.out.trans (hb.mono HBa.out.size))
        clear hb
        try dsimp only
        clear c0 c1 c2 c3 c4 c5 c6 c7
        obtain ⟨c0, c1, c2, c3, c4, c5, c6, c7⟩ := ROWS.out u2 HBb.out
        go_wp2_with fail
        exact ⟨⟨k + 1, by omega, rfl, by rw [HN4s.out, HT1.out], HBb.out⟩, by simp [intOf]; omega⟩
      | false =>
        rw [hbo] at b2
        have hcm := hcmp hbo
        clear hcmp hbo
        by_cases hlt2 : own < m
        · have l1 : decide (m < own) = false := decide_eq_false (by omega)
          have l2 : (m == own) = false := by rw [beq_eq_false_iff_ne]; omega
          have l3 : ¬ m < own := by omega
          have l4 : ¬ m = own := by omega
          clear hcm
          go_wp2_with fail
          refine (enough8_any _ _ (HPA.out.later HB.out)).mono ?_
          rintro e u1 ⟨he, hb⟩
          rw [HNO.out] at he
          try dsimp only at he
          subst he
          have HBa := Lib.hid (HB.out.trans (hb.mono HB.out.size))
          clear hb
          try dsimp only
          clear c0 c1 c2 c3 c4 c5 c6 c7
          obtain ⟨c0, c1, c2, c3, c4, c5, c6, c7⟩ := ROWS.out u1 HBa.out
          go_wp2_with fail
          refine (sum8_any HQ.out HT.out w.heap.size t1 ht1 _ ((HBa.out.block _ (by omega)).trans HR1.out) (HPA.out.later HBa.out)).mono ?_
          rintro e u2 ⟨he, hb⟩
          rw [← HOWN.out] at he
          try dsimp only at he
          subst he
          have HBb := Lib.hid (HBa.out.trans (hb.mono HBa.out.size))
          clear hb
          try dsimp only
          clear c0 c1 c2 c3 c4 c5 c6 c7
          obtain ⟨c0, c1, c2, c3, c4, c5, c6, c7⟩ := ROWS.out u2 HBb.out
          go_wp2_with fail
          refine (sum8_any HQ.out HT.out w.heap.size t2 ht2 _ ((HBb.out.block _ (by omega)).trans HR1.out) (HPA.out.later HBb.out)).mono ?_
          rintro e u3 ⟨he, hb⟩
          rw [← HM.out] at he
          try dsimp only at he
          subst he
          have HBc := Lib.hid (HBb.out.trans (hb.mono HBb.out.size))
          clear hb
          try dsimp only
          clear c0 c1 c2 c3 c4 c5 c6 c7
          obtain ⟨c0, c1, c2, c3, c4, c5, c6, c7⟩ := ROWS.out u3 HBc.out
          go_wp2_with fail
          exact ⟨⟨k + 1, by omega, rfl, by rw [HN4s.out, HT1.out], HBc.out⟩, by simp [intOf]; omega⟩
        · have hmo : m = own := by omega
          subst hmo
          have l1 : decide (m < m) = false := decide_eq_false (by omega)
          have l5 : ¬ (o : Int) < (n : Int) := by omega
          have l6 : decide ((o : Int) < (n : Int)) = false := decide_eq_false l5
          have l7 : decide (o < n) = false := decide_eq_false (by omega)
          have l8 : n ≤ o := by omega
          clear hcm
          go_wp2_with fail
          refine (enough8_any _ _ (HPA.out.later HB.out)).mono ?_
          rintro e u1 ⟨he, hb⟩
          rw [HNO.out] at he
          try dsimp only at he
          subst he
          have HBa := Lib.hid (HB.out.trans (hb.mono HB.out.size))
          clear hb
          try dsimp only
          clear c0 c1 c2 c3 c4 c5 c6 c7
          obtain ⟨c0, c1, c2, c3, c4, c5, c6, c7⟩ := ROWS.out u1 HBa.out
          go_wp2_with fail
          refine (sum8_any HQ.out HT.out w.heap.size t1 ht1 _ ((HBa.out.block _ (by omega)).trans HR1.out) (HPA.out.later HBa.out)).mono ?_
          rintro e u2 ⟨he, hb⟩
          rw [← HOWN.out] at he
          try dsimp only at he
          subst he
          have HBb := Lib.hid (HBa.out.trans (hb.mono HBa.out.size))
          clear hb
          try dsimp only
          clear c0 c1 c2 c3 c4 c5 c6 c7
          obtain ⟨c0, c1, c2, c3, c4, c5, c6, c7⟩ := ROWS.out u2 HBb.out
          go_wp2_with fail
          refine (sum8_any HQ.out HT.out w.heap.size t2 ht2 _ ((HBb.out.block _ (by omega)).trans HR1.out) (HPA.out.later HBb.out)).mono ?_
          rintro e u3 ⟨he, hb⟩
          rw [← HM.out] at he
          try dsimp only at he
          subst he
          have HBc := Lib.hid (HBb.out.trans (hb.mono HBb.out.size))
          clear hb
          try dsimp only
          clear c0 c1 c2 c3 c4 c5 c6 c7
          obtain ⟨c0, c1, c2, c3, c4, c5, c6, c7⟩ := ROWS.out u3 HBc.out
          go_wp2_with fail
          exact ⟨⟨k + 1, by omega, rfl, by rw [HN4s.out, HT1.out], HBc.out⟩, by simp [intOf]; omega⟩
    · obtain rfl : k = L.length := by omega
      have HYES := Lib.hid ((HEC.out _ hik.lt).trans (hik.yes rfl))
      have f0 : (0 : Int) ≤ (f : Int) := by omega
      clear hik
      obtain ⟨c0, c1, c2, c3, c4, c5, c6, c7⟩ := ROWS.out wr HB.out
      go_wp2_with fail
      refine (enough8_any _ _ (HPA.out.later HB.out)).mono ?_
      rintro e u1 ⟨he, hb⟩
      rw [HYES.out] at he
      try dsimp only at he
      subst he
      have HBa := Lib.hid (HB.out.trans (hb.mono HB.out.size))
      clear hb
      try dsimp only
      clear c0 c1 c2 c3 c4 c5 c6 c7
      obtain ⟨c0, c1, c2, c3, c4, c5, c6, c7⟩ := ROWS.out u1 HBa.out
      go_wp2_with fail
      refine (size8_any f (by omega) _).mono ?_
      rintro e wz ⟨rfl, rfl⟩
      try dsimp only
      go_wp2_with fail
      refine (awake_any _).mono ?_
      rintro e vz ⟨rfl, hb⟩
      have HBZ := Lib.hid (HBa.out.trans (hb.mono HBa.out.size))
      clear hb
      try dsimp only
      go_wp2
      go_ret
      exact ⟨rfl, HB0.out.trans (HBZ.out.mono HB0.out.size)⟩
end Go.Proofs.YtabbmihakoeegaaGreat

/- PlanOrder: whatever the plan and the number: the law returns true. No conditions. -/
namespace Go.Proofs.YtabbmihakoeegaaGreat
set_option linter.unusedVariables false
set_option linter.unusedSimpArgs false
open Go.ChangeShapes Go.WideShapes Go.ChangeAt Go.RowKit

set_option maxRecDepth 100000 in
theorem planOrder_lifted (os : Os) (started : os.Started) (H : Type) (enc : TypeId × Value → H) :
    ReturnsInHanded {} Tryz.checked os 7 .any (Rows.planOrderSpec.pre6 enc Tryz.prog Tryz.f7 Rows.planOrderRow.domain false) (Rows.planOrderSpec.post enc Tryz.prog Tryz.f7 false true false false) := by
  refine returnsInHanded_of_change (C := Tryz.checked) own_knob started (by kernel_rfl) Tryz.func7
    (ChangeSpec.witness6 (enc := enc) (C := Tryz.checked) false ⟨#[], #[.agg #[.slice none 0 0, .int .i64 0, .int .i64 0, .int .i64 0, .int .i64 0, .slice none 0 0, .int .i64 0, .slice none 0 0], .int .u8 0], []⟩ 8 (by kernel_rfl) (by kernel_rfl) (by kernel_rfl) (by kernel_rfl)) ?_
  intro W base args ds gs before hval0 hW hcnd _
  have hval : ∀ (j : Nat) t v, Tryz.f7.params[j]? = some t → args[j]? = some v → Value.okWide Tryz.prog W .any base t v := hval0
  have hW' := hW
  obtain ⟨p, q, hA0, hV, rfl, hfz, hnd⟩ := hW
  have hA : DataW.TrodAll enc Tryz.prog W 0 (fun _ => true) true Tryz.f7.params.toList args.toList ds p := hA0
  rw [Tryz.params7] at hA hval
  obtain ⟨rfl, rfl⟩ := trodVars_none hV
  clear hA0 hval0
  simp only [List.append_nil] at hW'
  have hst := hA
  obtain ⟨v0, v1, d0, d1, p0, p1, rfl, rfl, rfl, h0, h1⟩ := trodAll_two hA
  obtain ⟨qd, bs, rs, pv, rfl, hpa⟩ := open_plan (hval 0 _ _ rfl rfl) h0
  obtain ⟨x, rfl, _, _, hx⟩ := Go.ChangeShapes.open_int under_u8 (hval 1 _ _ rfl rfl) h1
  refine (orderl_any qd bs rs pv x (u8_range hx) W hpa).mono fun e W' ⟨he, hb⟩ => ?_
  subst he
  exact ⟨_, rfl, lawEnd hW' rfl hst rfl (by decide +kernel) rfl rfl hb⟩
theorem planOrder_over : Rows.planOrderRow.holds Tryz.pinned (OpenSpec.ofChange Rows.planOrderSpec) :=
  OpenClaim.holds_of_wide 7 Tryz.f7 rfl rfl rfl rfl rfl rfl rfl ⟨rfl, rfl, rfl, rfl, rfl⟩ rfl rfl rfl rfl rfl (by kernel_rfl) Tryz.func7 (by kernel_rfl)
    (of_decide_eq_true (by kernel_rfl)) (by unfold Func.isWrapper; first | (rw [if_pos (by decide +kernel)]; kernel_rfl) | (rw [if_neg (by decide +kernel)]; exact ⟨rfl, rfl⟩))
    (fun os started H enc _ => planOrder_lifted os started H enc)
/-- The statement. -/
theorem plan_order : Rows.PlanOrderSaid := planOrder_over

end Go.Proofs.YtabbmihakoeegaaGreat
