/- Bounds on what follows from a table (plain). -/
import Derived.Test.YtlgeggekmdoceaaD
namespace Go.Proofs.Ytlgeggekmdoceaa
set_option linter.unusedVariables false
set_option linter.unusedSimpArgs false

def getL (c : List Int) (i j : Nat) : Int := c.getD (i * 6 + j) 0
def stepL (k : Nat) (c : List Int) : List Int := c.set (k / 6 % 6 * 6 + k % 6) (min (getL c (k / 6 % 6) (k % 6)) (getL c (k / 6 % 6) (k / 36) + getL c (k / 36) (k % 6)))
def fwL : Nat → List Int
  | 0 => List.replicate 36 (-3145728)
  | k + 1 => stepL k (fwL k)
def chkL : Nat → Nat → List Int → Bool
  | 0, _, c => c.all fun x => decide (-1000000000000 ≤ x)
  | n + 1, k, c => (c.all fun x => decide (-1000000000000 ≤ x)) && chkL n (k + 1) (stepL k c)
theorem chk_all : chkL 216 0 (fwL 0) = true := by decide +kernel
theorem fwL_length (k : Nat) : (fwL k).length = 36 := by
  induction k with
  | zero => simp [fwL]
  | succ k ih => simp [fwL, stepL, ih]
theorem chk_spec : ∀ n k, chkL n k (fwL k) = true → ∀ j, j ≤ n → (fwL (k + j)).all (fun x => decide (-1000000000000 ≤ x)) = true := by
  intro n
  induction n with
  | zero =>
    intro k h j hj
    obtain rfl : j = 0 := by omega
    rw [Nat.add_zero]
    exact h
  | succ n ih =>
    intro k h j hj
    simp only [chkL, Bool.and_eq_true] at h
    cases j with
    | zero => exact h.1
    | succ j =>
      have := ih (k + 1) h.2 j (by omega)
      rwa [show k + (j + 1) = k + 1 + j by omega]
theorem getL_low (k i j : Nat) (hk : k ≤ 216) (hi : i < 6) (hj : j < 6) : -1000000000000 ≤ getL (fwL k) i j := by
  have h := chk_spec 216 0 chk_all k hk
  rw [Nat.zero_add] at h
  have hl := fwL_length k
  have hx : i * 6 + j < (fwL k).length := by omega
  have hm := (List.all_eq_true.1 h) _ (List.getElem_mem hx)
  unfold getL
  rw [List.getD_eq_getElem?_getD, List.getElem?_eq_getElem hx]
  simpa using hm
theorem fw_low (t : Tab) (h0 : ∀ i j, i < 6 → j < 6 → -3145728 ≤ t i j) : ∀ k, k ≤ 216 → ∀ i j, i < 6 → j < 6 → getL (fwL k) i j ≤ fwN t k i j := by
  intro k
  induction k with
  | zero =>
    intro _ i j hi hj
    have : i * 6 + j < 36 := by omega
    have h1 : getL (fwL 0) i j = -3145728 := by
      unfold getL fwL
      rw [List.getD_eq_getElem?_getD, List.getElem?_replicate, if_pos this]
      rfl
    rw [h1]
    exact h0 i j hi hj
  | succ k ih =>
    intro hk i j hi hj
    have ih' := ih (by omega)
    have b1 : k / 6 % 6 < 6 := Nat.mod_lt _ (by decide)
    have b2 : k % 6 < 6 := Nat.mod_lt _ (by decide)
    have b3 : k / 36 < 6 := by omega
    have l := fwL_length k
    show getL (stepL k (fwL k)) i j ≤ stepN k (fwN t k) i j
    unfold stepN upd
    have e1 := ih' _ _ b1 b2
    have e2 := ih' _ _ b1 b3
    have e3 := ih' _ _ b3 b2
    have hset : getL (stepL k (fwL k)) i j = if i = k / 6 % 6 ∧ j = k % 6 then min (getL (fwL k) (k / 6 % 6) (k % 6)) (getL (fwL k) (k / 6 % 6) (k / 36) + getL (fwL k) (k / 36) (k % 6)) else getL (fwL k) i j := by
      unfold stepL
      generalize (min (getL (fwL k) (k / 6 % 6) (k % 6)) (getL (fwL k) (k / 6 % 6) (k / 36) + getL (fwL k) (k / 36) (k % 6))) = v
      generalize k / 6 % 6 = p at *
      generalize k % 6 = q at *
      unfold getL
      rw [List.getD_eq_getElem?_getD, List.getElem?_set, List.getD_eq_getElem?_getD]
      by_cases e : i = p ∧ j = q
      · obtain ⟨rfl, rfl⟩ := e
        rw [if_pos rfl, if_pos (by omega), if_pos ⟨rfl, rfl⟩]
        rfl
      · rw [if_neg (by omega), if_neg e]
    rw [hset]
    split
    · omega
    · exact ih' i j hi hj
theorem fw_high (t : Tab) (k i j : Nat) : fwN t k i j ≤ t i j := by
  induction k with
  | zero => exact Int.le_refl _
  | succ k ih =>
    show stepN k (fwN t k) i j ≤ t i j
    unfold stepN upd
    split
    · rename_i h
      obtain ⟨rfl, rfl⟩ := h
      omega
    · exact ih
theorem least_range (t : Tab) (a b : Nat) (m L : Int) (h : ∀ i j, i < 6 → j < 6 → L ≤ t i j ∧ t i j ≤ 1048576) (hm : L ≤ m) : ∀ i j, i < 6 → j < 6 → L ≤ leastT t a b m i j ∧ leastT t a b m i j ≤ 1048576 := by
  intro i j hi hj
  have := h i j hi hj
  unfold leastT upd
  split
  · rename_i e
    obtain ⟨rfl, rfl⟩ := e
    omega
  · exact this
theorem putB_range (c : Int × Int) (x : Bnd) (t : Tab) (hx : okB x) (hz : -1000 ≤ c.1 ∧ c.1 ≤ 1000) (hr : -1000 ≤ c.2 ∧ c.2 ≤ 1000) (h : ∀ i j, i < 6 → j < 6 → -3145728 ≤ t i j ∧ t i j ≤ 1048576) :
    ∀ i j, i < 6 → j < 6 → -3145728 ≤ putB c t x i j ∧ putB c t x i j ≤ 1048576 := by
  obtain ⟨h1, h2, h3, h4, h5, h6, h7, h8, h9⟩ := hx
  have hb := mul_bounds c.2 x.m hr.1 hr.2 h8 h9
  unfold putB putT
  split
  · exact least_range _ _ _ _ _ (least_range _ _ _ _ _ h (by omega)) (by omega)
  · have : -200000 ≤ showsC c.1 c.2 x.m ∧ showsC c.1 c.2 x.m ≤ 200000 := by unfold showsC; omega
    exact least_range _ _ _ _ _ (least_range _ _ _ _ _ h (by omega)) (by omega)
theorem rawT_range (c : Int × Int) (hz : -1000 ≤ c.1 ∧ c.1 ≤ 1000) (hr : -1000 ≤ c.2 ∧ c.2 ≤ 1000) (l : List Bnd) (hok : ∀ x ∈ l, okB x) : ∀ i j, i < 6 → j < 6 → -3145728 ≤ rawT l c i j ∧ rawT l c i j ≤ 1048576 := by
  unfold rawT
  suffices h : ∀ (l : List Bnd) (t : Tab), (∀ x ∈ l, okB x) → (∀ i j, i < 6 → j < 6 → -3145728 ≤ t i j ∧ t i j ≤ 1048576) → ∀ i j, i < 6 → j < 6 → -3145728 ≤ l.foldl (putB c) t i j ∧ l.foldl (putB c) t i j ≤ 1048576 by
    refine h l T0 hok (fun i j _ _ => ?_)
    unfold T0
    split <;> omega
  intro l
  induction l with
  | nil => intro t _ ht; exact ht
  | cons x l ih => intro t hok ht; exact ih _ (fun y hy => hok y (List.mem_cons_of_mem _ hy)) (putB_range c x t (hok x List.mem_cons_self) hz hr ht)
/-- Whatever follows from a table is in range. -/
theorem fw_range (l : List Bnd) (hok : ∀ x ∈ l, okB x) (zl zh rl rh : Int) (hz1 : -1000 ≤ zl) (hz2 : zh ≤ 1000) (hr1 : -1000 ≤ rl) (hr2 : rh ≤ 1000) :
    ∀ c ∈ comps zl zh rl rh, ∀ k, k ≤ 216 → ∀ i j, i < 6 → j < 6 → -1000000000000 ≤ fwN (rawT l c) k i j ∧ fwN (rawT l c) k i j ≤ 1000000000000 := by
  rintro ⟨z, r⟩ hc k hk i j hi hj
  obtain ⟨h1, h2, h3, h4⟩ := comps_mem hc
  have hr := rawT_range (z, r) (by simp only; omega) (by simp only; omega) l hok
  have a1 := getL_low k i j hk hi hj
  have a2 := fw_low _ (fun i j hi hj => (hr i j hi hj).1) k hk i j hi hj
  have a3 := fw_high (rawT l (z, r)) k i j
  have a4 := hr i j hi hj
  omega

end Go.Proofs.Ytlgeggekmdoceaa
