/- Texts Qd in one file; each begins with a word on what it proves. -/
import Derived.Test.YtabbmihakoeegaaGreatKs

/- PlanOrder (plain). -/
namespace Go.Proofs.YtabbmihakoeegaaGreat
set_option linter.unusedVariables false
set_option linter.unusedSimpArgs false
open Go.RowKit Stab

/-! ### the next reading -/
theorem nextP_inv (q : PlanD) (s : Nat) : ∀ k, ((nextP q s k).1 = -1 ∧ ∀ i, i < k → s.testBit i = true) ∨
    (∃ m : Nat, m < k ∧ nextP q s k = ((m : Int), totalV q.pr (s + 2 ^ m)) ∧ s.testBit m = false ∧ ∀ i, i < k → s.testBit i = false → totalV q.pr (s + 2 ^ m) < totalV q.pr (s + 2 ^ i) ∨ (totalV q.pr (s + 2 ^ m) = totalV q.pr (s + 2 ^ i) ∧ m ≤ i))
  | 0 => .inl ⟨rfl, fun i hi => absurd hi (Nat.not_lt_zero _)⟩
  | k + 1 => by
    have ih := nextP_inv q s k
    have e : nextP q s (k + 1) = nextStep q s (nextP q s k) k := by unfold nextP; rw [List.range_succ, List.foldl_append]; rfl
    rw [e]
    unfold nextStep
    cases hb : s.testBit k with
    | true =>
      rw [if_pos rfl]
      rcases ih with ⟨h1, h2⟩ | ⟨m, h1, h2, h3, h4⟩
      · refine .inl ⟨h1, fun i hi => ?_⟩
        by_cases hik : i = k
        · rw [hik]; exact hb
        · exact h2 i (by omega)
      · refine .inr ⟨m, by omega, h2, h3, fun i hi hf => ?_⟩
        by_cases hik : i = k
        · rw [hik, hb] at hf; cases hf
        · exact h4 i (by omega) hf
    | false =>
      rw [if_neg (by decide)]
      rcases ih with ⟨h1, h2⟩ | ⟨m, h1, h2, h3, h4⟩
      · rw [if_pos (.inl (by omega))]
        refine .inr ⟨k, by omega, rfl, hb, fun i hi hf => ?_⟩
        by_cases hik : i = k
        · rw [hik]; exact .inr ⟨rfl, Nat.le_refl _⟩
        · rw [h2 i (by omega)] at hf; cases hf
      · rw [h2]
        dsimp only
        by_cases hlt : totalV q.pr (s + 2 ^ k) < totalV q.pr (s + 2 ^ m)
        · rw [if_pos (.inr hlt)]
          refine .inr ⟨k, by omega, rfl, hb, fun i hi hf => ?_⟩
          by_cases hik : i = k
          · rw [hik]; exact .inr ⟨rfl, Nat.le_refl _⟩
          · have := h4 i (by omega) hf
            omega
        · rw [if_neg (by omega)]
          refine .inr ⟨m, by omega, rfl, h3, fun i hi hf => ?_⟩
          by_cases hik : i = k
          · subst hik; omega
          · exact h4 i (by omega) hf
/-- The set behind the first readings of an order. -/
def setO (q : PlanD) : Nat → Nat
  | 0 => 0
  | k + 1 => setO q k + 2 ^ (nextV q (setO q k)).toNat
theorem orderL_at (q : PlanD) : ∀ f j, (orderL q f (setO q j)).length ≤ f ∧
    (∀ k, k < (orderL q f (setO q j)).length → (orderL q f (setO q j))[k]? = some (nextV q (setO q (j + k))) ∧ enoughV q (setO q (j + k)) = false) ∧
    (enoughV q (setO q (j + (orderL q f (setO q j)).length)) = true ∨ (orderL q f (setO q j)).length = f)
  | 0, j => ⟨Nat.le_refl _, fun k hk => absurd hk (Nat.not_lt_zero _), .inr rfl⟩
  | f + 1, j => by
    have e : orderL q (f + 1) (setO q j) = if enoughV q (setO q j) then [] else nextV q (setO q j) :: orderL q f (setO q (j + 1)) := rfl
    rw [e]
    cases he : enoughV q (setO q j) with
    | true => exact ⟨Nat.zero_le _, fun k hk => absurd hk (Nat.not_lt_zero _), .inl he⟩
    | false =>
      rw [if_neg (by decide)]
      obtain ⟨h1, h2, h3⟩ := orderL_at q f (j + 1)
      refine ⟨by simp; omega, fun k hk => ?_, ?_⟩
      · match k with
        | 0 => exact ⟨rfl, he⟩
        | k + 1 =>
          have := h2 k (by simpa using hk)
          rw [show j + (k + 1) = j + 1 + k by omega]
          exact this
      · rw [List.length_cons]
        rcases h3 with h3 | h3
        · left
          rw [show j + ((orderL q f (setO q (j + 1))).length + 1) = j + 1 + (orderL q f (setO q (j + 1))).length by omega]
          exact h3
        · right; omega
theorem or_ones : ∀ s : Fin 256, ∀ n : Fin 8, s.val.testBit n.val = false → ones (s.val ||| 2 ^ n.val) = ones s.val + 1 := by decide +kernel
/-- What is told as an order. -/
structure OrdOk (q : PlanD) (L : List Int) (k : Nat) (s : Nat) : Prop where
  lt : s < 2 ^ q.prices.length
  size : ones s = k
  left : (leftL q s).length + k = q.prices.length
  no : k < L.length → enoughV q s = false
  yes : k = L.length → enoughV q s = true
  next : k < L.length → ∃ n : Nat, L[k]? = some (n : Int) ∧ n < q.prices.length ∧ s.testBit n = false ∧ setO q (k + 1) = s ||| 2 ^ n ∧
    ∀ i, i < q.prices.length → s.testBit i = false → totalV q.pr (s ||| 2 ^ n) < totalV q.pr (s ||| 2 ^ i) ∨ (totalV q.pr (s ||| 2 ^ n) = totalV q.pr (s ||| 2 ^ i) ∧ n ≤ i)
theorem order_inv {q : PlanD} (hq : OkQ q) (hen : enoughV q (everyV q) = true) : ∀ k, k ≤ (orderL q q.prices.length 0).length → OrdOk q (orderL q q.prices.length 0) k (setO q k) := by
  have hm8 := hq.m8
  have h256 := hq.p256
  obtain ⟨h1, h2, h3⟩ := orderL_at q q.prices.length 0
  have e0 : setO q 0 = 0 := rfl
  rw [e0] at h1 h2 h3
  simp only [Nat.zero_add] at h2 h3
  have key : ∀ k, k ≤ (orderL q q.prices.length 0).length → setO q k < 2 ^ q.prices.length ∧ ones (setO q k) = k ∧ (leftL q (setO q k)).length + k = q.prices.length ∧
      (k < (orderL q q.prices.length 0).length → ∃ n : Nat, nextV q (setO q k) = n ∧ n < q.prices.length ∧ (setO q k).testBit n = false ∧ setO q (k + 1) = setO q k ||| 2 ^ n) := by
    intro k
    have step : ∀ k, k < (orderL q q.prices.length 0).length → setO q k < 2 ^ q.prices.length → ∃ n : Nat, nextV q (setO q k) = n ∧ n < q.prices.length ∧ (setO q k).testBit n = false ∧ setO q (k + 1) = setO q k ||| 2 ^ n := fun k hk hl => by
      have hne : leftL q (setO q k) ≠ [] := fun h => by
        have h4 := left_zero _ hl h
        have h5 := (h2 k hk).2
        rw [h4, hen] at h5
        cases h5
      obtain ⟨n, hn, hn2, hn3⟩ := next_is q (setO q k) hne
      have h6 := or_add ⟨setO q k, by omega⟩ ⟨n, by omega⟩ hn3
      exact ⟨n, hn, hn2, hn3, by show setO q k + 2 ^ (nextV q (setO q k)).toNat = _; rw [hn, Int.toNat_natCast]; exact h6.symm⟩
    induction k with
    | zero =>
      intro hk
      have hl : setO q 0 < 2 ^ q.prices.length := Nat.two_pow_pos _
      refine ⟨hl, by rw [e0]; decide, ?_, fun h => step 0 h hl⟩
      rw [e0]
      have : leftL q 0 = List.range q.prices.length := by unfold leftL; exact List.filter_eq_self.2 (fun i _ => by simp)
      rw [this, List.length_range]; rfl
    | succ k ih =>
      intro hk
      obtain ⟨a1, a2, a3, a4⟩ := ih (by omega)
      obtain ⟨n, b1, b2, b3, b4⟩ := a4 (by omega)
      have hl : setO q (k + 1) < 2 ^ q.prices.length := by rw [b4]; exact or_lt a1 b2
      refine ⟨hl, ?_, ?_, fun h => step (k + 1) h hl⟩
      · rw [b4]
        have := or_ones ⟨setO q k, by omega⟩ ⟨n, by omega⟩ b3
        dsimp only at this
        omega
      · have := left_less (q := q) (s := setO q k) (n := n) (left_mem.2 ⟨b2, b3⟩)
        rw [b4]
        omega
  intro k hk
  obtain ⟨a1, a2, a3, a4⟩ := key k hk
  refine ⟨a1, a2, a3, fun h => (h2 k h).2, fun h => ?_, fun h => ?_⟩
  · rcases h3 with h3 | h3
    · rw [h]; exact h3
    · have h0 : leftL q (setO q k) = [] := List.eq_nil_of_length_eq_zero (by omega)
      rw [left_zero _ a1 h0]
      exact hen
  · obtain ⟨n, b1, b2, b3, b4⟩ := a4 h
    refine ⟨n, by rw [(h2 k h).1, b1], b2, b3, b4, fun i hi hf => ?_⟩
    have c1 := or_add ⟨setO q k, by omega⟩ ⟨n, by omega⟩ b3
    have c2 := or_add ⟨setO q k, by omega⟩ ⟨i, by omega⟩ hf
    dsimp only at c1 c2
    rw [c1, c2]
    rcases nextP_inv q (setO q k) q.prices.length with ⟨d1, d2⟩ | ⟨m, d1, d2, d3, d4⟩
    · rw [d2 n b2] at b3; cases b3
    · have e1 : nextV q (setO q k) = (m : Int) := by unfold nextV; rw [d2]
      have e2 : m = n := by omega
      subst e2
      exact d4 i hi hf

/-! ### how wide all are together -/
def tK (p : PairD) (s : Nat) : Nat → Int
  | 0 => 0
  | k + 1 => tK p s k + widB p s k
theorem tK_out {p : PairD} {s : Nat} : ∀ k, p.bs.length ≤ k → tK p s k = tK p s p.bs.length
  | 0, h => by rw [Nat.le_zero.1 h]
  | k + 1, h => by
    by_cases e : p.bs.length = k + 1
    · rw [e]
    · have h1 := tK_out (p := p) (s := s) k (by omega)
      have h2 : widB p s k = 0 := by unfold widB; rw [if_neg (by omega)]
      show tK p s k + widB p s k = _
      rw [h1, h2, Int.add_zero]
theorem tK_end {p : PairD} (hp : OkP p) (s : Nat) : tK p s p.bs.length = totalV p s := by
  rw [← tK_out 5 hp.n5]
  rfl
theorem tK_in {q : PlanD} (hq : OkQ q) (ht : truA q.pr ≠ []) (s : Nat) : ∀ k, 0 ≤ tK q.pr s k ∧ tK q.pr s k ≤ 80 * (k : Int)
  | 0 => ⟨Int.le_refl _, Int.le_refl _⟩
  | k + 1 => by
    have ih := tK_in hq ht s k
    have h := widB_40 hq.pr s k (truA_of_every hq ht s)
    show 0 ≤ tK q.pr s k + widB q.pr s k ∧ tK q.pr s k + widB q.pr s k ≤ _
    omega
end Go.Proofs.YtabbmihakoeegaaGreat
