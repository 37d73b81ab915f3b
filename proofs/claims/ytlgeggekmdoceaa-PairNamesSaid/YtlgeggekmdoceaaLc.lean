/- What the functions tell, by the list of all truths (plain). -/
import Derived.Test.YtlgeggekmdoceaaLb
import Derived.Test.YtlgeggekmdoceaaZk
import Derived.Test.YtlgeggekmdoceaaZl
import Derived.Test.YtlgeggekmdoceaaZo
namespace Go.Proofs.Ytlgeggekmdoceaa
set_option linter.unusedVariables false
set_option linter.unusedSimpArgs false

/-- The truths of a pair by all readings. -/
def truA (p : PairD) : List (List Int × (Int × Int)) := truthsL p (allR p)
def hullD (p : PairD) (a b : Nat) : Int × Int := hullOf ((truA p).map fun t => (t.1.getD a 0 - t.1.getD b 0, t.1.getD a 0 - t.1.getD b 0))
def hullS (p : PairD) (m : Int) : Int × Int := hullOf ((truA p).map fun t => (showsC t.2.1 t.2.2 m, showsC t.2.1 t.2.2 m))
theorem truA_ne (p : PairD) (hp : OkP p) : pairOuts p (allR p) ≠ [] ↔ truA p ≠ [] := by
  rw [pairOuts_ne p hp, ← truthsL_ne p hp]; rfl
theorem truA_nil (p : PairD) (hp : OkP p) : pairOuts p (allR p) = [] ↔ truA p = [] := by
  have := truA_ne p hp
  constructor
  · intro h
    cases ht : truA p with
    | nil => rfl
    | cons a l => exact absurd h (this.2 (by rw [ht]; simp))
  · intro h
    cases ht : pairOuts p (allR p) with
    | nil => rfl
    | cons a l => exact absurd h (this.1 (by rw [ht]; simp))
theorem told_dif (p : PairD) (hp : OkP p) (a b : Nat) (ha : a < p.bs.length ∨ a = 5) (hb : b < p.bs.length ∨ b = 5) (S : Int × Int) (h : IsHull (fun v => v ∈ (pairOuts p (allR p)).map (difOf a b)) S) : S = hullD p a b := by
  have h1 := hull_dif p hp (allR p) a b ha hb S h
  refine IsHull.eq (h1.congr fun v => ?_)
  refine (truthVal_iff p hp (allR p) (fun _ x => x a - x b) (fun c x y hxy => ?_) v).trans Iff.rfl
  rw [hxy a ha, hxy b hb]
theorem told_sho (p : PairD) (hp : OkP p) (m : Int) (S : Int × Int) (h : IsHull (fun v => v ∈ (pairOuts p (allR p)).map (shoOf m)) S) : S = hullS p m := by
  have h1 := hull_any_of (g := fun c _ => showsC c.1 c.2 m) hp (fun c x => rfl) h
  refine IsHull.eq (h1.congr fun v => ?_)
  exact (truthVal_iff p hp (allR p) (fun c _ => showsC c.1 c.2 m) (fun c x y hxy => rfl) v).trans Iff.rfl
theorem difS_eq (p : PairD) (hp : OkP p) (hne : pairOuts p (allR p) ≠ []) (a b : Nat) (ha : a < p.bs.length) (hb : b < p.bs.length) : difS p a b = hullD p a b :=
  told_dif p hp a b (.inl ha) (.inl hb) _ (hullOf_is _ (by simpa using hne))
/-- Is a block longest, in a truth? -/
def longT (n : Nat) (x : List Int) (i : Nat) : Bool := (List.range n).all fun k => decide (x.getD k 0 ≤ x.getD i 0)
theorem longT_iff (n : Nat) (x : List Int) (i : Nat) : longT n x i = true ↔ ∀ k, k < n → x.getD k 0 ≤ x.getD i 0 := by simp [longT]
theorem canB_eq (p : PairD) (hp : OkP p) (i : Nat) (hi : i < p.bs.length) : canB p i = (truA p).any fun t => longT p.bs.length t.1 i := by
  rw [Bool.eq_iff_iff, List.any_eq_true]
  unfold canB
  rw [decide_eq_true_eq, long_can p hp _ i hi]
  constructor
  · rintro ⟨c, hc, x, hx, h⟩
    refine ⟨_, truth_mem p hp _ c x hc hx, (longT_iff _ _ _).2 fun k hk => ?_⟩
    rw [listOf_at _ _ _ hk, listOf_at _ _ _ hi]
    exact h k hk
  · rintro ⟨⟨y, c⟩, hy, h⟩
    obtain ⟨hc, _, hx⟩ := (mem_truthsL p hp _ y c).1 hy
    exact ⟨c, hc, _, hx, (longT_iff _ _ _).1 h⟩
theorem sureB_eq (p : PairD) (hp : OkP p) (hne : pairOuts p (allR p) ≠ []) (i : Nat) (hi : i < p.bs.length) : sureB p i = (truA p).all fun t => longT p.bs.length t.1 i := by
  rw [Bool.eq_iff_iff, List.all_eq_true]
  unfold sureB sureK
  rw [List.all_eq_true]
  have hkey : ∀ k, k < p.bs.length → (0 ≤ (difS p i k).1 ↔ ∀ t ∈ truA p, t.1.getD k 0 ≤ t.1.getD i 0) := by
    intro k hk
    rw [difS_eq p hp hne i k hi hk]
    obtain ⟨⟨a, ha, e1⟩, _, hall⟩ := hullOf_is ((truA p).map fun t => (t.1.getD i 0 - t.1.getD k 0, t.1.getD i 0 - t.1.getD k 0)) (by simpa using (truA_ne p hp).1 hne)
    constructor
    · intro h t ht
      have := (hall _ (List.mem_map.2 ⟨t, ht, rfl⟩)).1
      unfold hullD at h
      dsimp only at this
      omega
    · intro h
      obtain ⟨t, ht, rfl⟩ := List.mem_map.1 ha
      have := h t ht
      unfold hullD
      dsimp only at e1
      omega
  constructor
  · intro h t ht
    exact (longT_iff _ _ _).2 fun k hk => (hkey k hk).1 (by simpa using h k (List.mem_range.2 hk)) t ht
  · intro h k hk
    rw [List.mem_range] at hk
    rw [decide_eq_true_eq, hkey k hk]
    exact fun t ht => (longT_iff _ _ _).1 (h t ht) k hk
theorem setN_congr (f g : Nat → Bool) : ∀ n, (∀ i, i < n → f i = g i) → setN f n = setN g n
  | 0, _ => rfl
  | n + 1, h => by
    unfold setN
    rw [setN_congr f g n (fun i hi => h i (by omega)), h n (by omega)]
/-- What Longest returns, by the truths. -/
def longV (p : PairD) : (Int × Int) × Int :=
  if validB p = false then ((0, 0), 1) else if truA p = [] then ((0, 0), 10) else
    (((setN (fun i => (truA p).all fun t => longT p.bs.length t.1 i) p.bs.length : Nat), (setN (fun i => (truA p).any fun t => longT p.bs.length t.1 i) p.bs.length : Nat)), 0)
theorem longF_eq (p : PairD) : longF p = longV p := by
  unfold longF longV
  cases hv : validB p with
  | false => rfl
  | true =>
    have hp := OkP.of p hv
    simp only [Bool.true_eq_false, if_false]
    by_cases hne : pairOuts p (allR p) = []
    · rw [if_pos hne, if_pos ((truA_nil p hp).1 hne)]
    · rw [if_neg hne, if_neg (fun h => hne ((truA_nil p hp).2 h))]
      rw [setN_congr _ _ _ (fun i hi => sureB_eq p hp hne i hi), setN_congr _ _ _ (fun i hi => canB_eq p hp i hi)]
/-- What Least returns, by the truths. -/
def widT (p : PairD) (x y : Nat) : Int := (hullD p x y).2 - (hullD p x y).1
def stepT (p : PairD) (acc : Int × Int × Int) (k i : Nat) : Int × Int × Int :=
  if acc.2.2 < widT p k i ∨ (widT p k i = acc.2.2 ∧ (k : Int) < acc.1) then ((k : Int), (i : Int), widT p k i) else acc
def rowT (p : PairD) (i : Nat) (acc : Int × Int × Int) : Nat → Int × Int × Int
  | 0 => acc
  | k + 1 => stepT p (rowT p i acc k) k i
def allT (p : PairD) : Nat → Int × Int × Int
  | 0 => (0, 0, -1)
  | i + 1 => rowT p i (allT p i) i
def leastV (p : PairD) : (Int × Int × Int) × Int :=
  if validB p = false then ((0, 0, 0), 1) else if truA p = [] then ((0, 0, 0), 10) else if p.bs.length ≤ 1 then ((0, 0, 0), 4) else (allT p p.bs.length, 0)
theorem leastF_eq (p : PairD) : leastF p = leastV p := by
  unfold leastF leastV
  cases hv : validB p with
  | false => rfl
  | true =>
    have hp := OkP.of p hv
    simp only [Bool.true_eq_false, if_false]
    by_cases hne : pairOuts p (allR p) = []
    · rw [if_pos hne, if_pos ((truA_nil p hp).1 hne)]
    · rw [if_neg hne, if_neg (fun h => hne ((truA_nil p hp).2 h))]
      have hw : ∀ x y, x < p.bs.length → y < p.bs.length → widS p x y = widT p x y := fun x y hx hy => by
        unfold widS widT; rw [difS_eq p hp hne x y hx hy]
      have hrow : ∀ i, i < p.bs.length → ∀ acc k, k ≤ i → leastRow p i acc k = rowT p i acc k := by
        intro i hi acc k
        induction k with
        | zero => intro _; rfl
        | succ k ih =>
          intro hk
          unfold leastRow rowT leastStep stepT
          rw [ih (by omega), hw k i (by omega) hi]
      have hall : ∀ n, n ≤ p.bs.length → leastAll p n = allT p n := by
        intro n
        induction n with
        | zero => intro _; rfl
        | succ n ih =>
          intro hn
          unfold leastAll allT
          rw [ih (by omega), hrow n (by omega) _ n (Nat.le_refl _)]
      rw [hall _ (Nat.le_refl _)]
/-- The first set of the smallest that are so, all being tried. -/
def bestL (f : Nat → Bool) (every : Nat) : Nat → Nat
  | 0 => every
  | j + 1 => if ones j < ones (bestL f every j) && f j then j else bestL f every j
theorem ones_every : ∀ m : Fin 9, ones (2 ^ m.val - 1) = m.val ∧ ∀ t : Fin 256, t.val < 2 ^ m.val - 1 → ones t.val < m.val := by decide +kernel
theorem best_inv (f : Nat → Bool) (m : Nat) (hm : m ≤ 8) : ∀ j, j ≤ 2 ^ m → (bestL f (2 ^ m - 1) j = 2 ^ m - 1 ∧ ∀ t, t < j → t < 2 ^ m - 1 → f t = false) ∨
    (bestL f (2 ^ m - 1) j < j ∧ bestL f (2 ^ m - 1) j < 2 ^ m - 1 ∧ f (bestL f (2 ^ m - 1) j) = true ∧ ∀ t, t < j → f t = true → ones (bestL f (2 ^ m - 1) j) < ones t ∨ (ones (bestL f (2 ^ m - 1) j) = ones t ∧ bestL f (2 ^ m - 1) j ≤ t)) := by
  have h256 : 2 ^ m ≤ 2 ^ 8 := Nat.pow_le_pow_right (by decide) hm
  obtain ⟨ho, hlt⟩ := ones_every ⟨m, by omega⟩
  dsimp only at ho hlt
  intro j
  induction j with
  | zero => intro _; exact .inl ⟨rfl, fun t ht => by omega⟩
  | succ j ih =>
    intro hj
    have ih := ih (by omega)
    unfold bestL
    generalize bestL f (2 ^ m - 1) j = b at *
    by_cases hc : (decide (ones j < ones b) && f j) = true
    · rw [if_pos hc]
      simp only [Bool.and_eq_true, decide_eq_true_eq] at hc
      have hjm : j < 2 ^ m - 1 := by
        rcases Nat.lt_or_ge j (2 ^ m - 1) with h | h
        · exact h
        · have : j = 2 ^ m - 1 := by omega
          rw [this, ho] at hc
          have := ones_le m b hm (by rcases ih with h | h <;> omega)
          omega
      refine .inr ⟨by omega, hjm, hc.2, fun t ht hft => ?_⟩
      by_cases htj : t = j
      · subst htj; exact .inr ⟨rfl, Nat.le_refl _⟩
      · rcases ih with ⟨h1, h2⟩ | ⟨_, _, _, h2⟩
        · by_cases hte : t < 2 ^ m - 1
          · rw [h2 t (by omega) hte] at hft; cases hft
          · omega
        · have := h2 t (by omega) hft
          omega
    · rw [if_neg hc]
      simp only [Bool.and_eq_true, decide_eq_true_eq, not_and, Bool.not_eq_true] at hc
      rcases ih with ⟨h1, h2⟩ | ⟨h1, h2, h3, h4⟩
      · refine .inl ⟨h1, fun t ht htm => ?_⟩
        by_cases htj : t = j
        · subst htj
          have := hlt ⟨t, by omega⟩ htm
          refine hc ?_
          rw [h1, ho]; exact this
        · exact h2 t (by omega) htm
      · refine .inr ⟨by omega, h2, h3, fun t ht hft => ?_⟩
        by_cases htj : t = j
        · subst htj
          rcases Nat.lt_or_ge (ones t) (ones b) with h | h
          · rw [hc h] at hft; cases hft
          · rcases Nat.eq_or_lt_of_le h with h | h
            · exact .inr ⟨h, by omega⟩
            · exact .inl h
        · exact h4 t (by omega) hft
theorem first_best (f : Nat → Bool) (m s : Nat) (b : Bool) (hm : m ≤ 8) (hall : f (2 ^ m - 1) = true) (h : FirstRes m f s b) : s = bestL f (2 ^ m - 1) (2 ^ m) := by
  have hp := Nat.one_le_two_pow (n := m)
  have h256 : 2 ^ m ≤ 2 ^ 8 := Nat.pow_le_pow_right (by decide) hm
  rcases h with ⟨_, h1, h2, h3⟩ | ⟨_, _, h3⟩
  · rcases best_inv f m hm (2 ^ m) (Nat.le_refl _) with ⟨e1, e2⟩ | ⟨e1, e2, e3, e4⟩
    · rw [e1]
      rcases Nat.lt_or_ge s (2 ^ m - 1) with hs | hs
      · rw [e2 s h1 hs] at h2; cases h2
      · omega
    · have a1 := h3 _ e1 e3
      have a2 := e4 s h1 h2
      omega
  · rw [h3 _ (by omega)] at hall; cases hall
theorem FirstRes.congr {m : Nat} {f g : Nat → Bool} {s : Nat} {b : Bool} (h : FirstRes m f s b) (e : ∀ t, t < 2 ^ m → f t = g t) : FirstRes m g s b := by
  rcases h with ⟨h1, h2, h3, h4⟩ | ⟨h1, h2, h3⟩
  · exact .inl ⟨h1, h2, (e s h2).symm.trans h3, fun t ht hg => h4 t ht ((e t ht).trans hg)⟩
  · exact .inr ⟨h1, h2, fun t ht => (e t ht).symm.trans (h3 t ht)⟩
def someT (p : PairD) (s : Nat) : Bool := !(truthsL p s).isEmpty
theorem someT_eq (p : PairD) (hp : OkP p) (s : Nat) : decide (pairOuts p s ≠ []) = someT p s := by
  rw [Bool.eq_iff_iff, decide_eq_true_eq, pairOuts_ne p hp, ← truthsL_ne p hp]
  unfold someT
  cases truthsL p s <;> simp
theorem someT_not (p : PairD) (hp : OkP p) (s : Nat) : decide (pairOuts p s = []) = !someT p s := by
  rw [← someT_eq p hp]; simp
/-- Without readings there is a truth. -/
theorem someT_zero (p : PairD) (hp : OkP p) : someT p 0 = true := by
  rw [← someT_eq p hp, decide_eq_true_eq, pairOuts_ne p hp]
  refine ⟨(p.zl, p.rl), ?_, fun i => if h : i < p.bs.length then p.bs[i].1 else 0, ?_⟩
  · have := hp.zz; have := hp.rr
    unfold comps
    refine List.mem_map.2 ⟨0, List.mem_range.2 (Nat.mul_pos ?_ ?_), by simp⟩ <;> (unfold wideN; omega)
  · have n5 := hp.n5
    refine ⟨by rw [dif_neg (by omega)], fun i hi => ?_, fun i hi hs => by simp at hs⟩
    rw [dif_pos hi]
    have := hp.bs _ (List.getElem_mem hi)
    omega
def wrongV (p : PairD) : (Int × Int) × Int :=
  if validB p = false then ((0, 0), 1) else (((ones (bestL (fun s => someT p (allR p - s)) (allR p) (2 ^ p.rs.length)) : Nat), (bestL (fun s => someT p (allR p - s)) (allR p) (2 ^ p.rs.length) : Nat)), 0)
theorem wrong_eq (p : PairD) (many set er : Int) (h : WrongRes p many set er) : ((many, set), er) = wrongV p := by
  unfold wrongV
  rcases h with ⟨hv, rfl, rfl, rfl⟩ | ⟨hv, rfl, s, b, hf, rfl, rfl⟩
  · rw [if_pos hv]
  · have hp := OkP.of p hv
    rw [if_neg (by simp [hv])]
    have h1 := first_best _ _ s b hp.m8 (by
      show someT p (allR p - (2 ^ p.rs.length - 1)) = true
      rw [show allR p - (2 ^ p.rs.length - 1) = 0 by unfold allR; omega]
      exact someT_zero p hp) (hf.congr fun t ht => someT_eq p hp (allR p - t))
    rw [h1]; rfl
def clashV (p : PairD) : Int × Int :=
  if validB p = false then (0, 1) else if someT p (allR p) then (0, 4) else ((bestL (fun s => !someT p s) (allR p) (2 ^ p.rs.length) : Nat), 0)
theorem clash_eq (p : PairD) (set er : Int) (h : ClashRes p set er) : (set, er) = clashV p := by
  unfold clashV
  rcases h with ⟨hv, rfl, rfl⟩ | ⟨hv, hne, rfl, rfl⟩ | ⟨hv, he, rfl, s, b, hf, rfl⟩
  · rw [if_pos hv]
  · have hp := OkP.of p hv
    rw [if_neg (by simp [hv]), if_pos (by rw [← someT_eq p hp]; simpa using hne)]
  · have hp := OkP.of p hv
    have hno : someT p (allR p) = false := by rw [← someT_eq p hp]; simpa using he
    rw [if_neg (by simp [hv]), if_neg (by simp [hno])]
    have h1 := first_best _ _ s b hp.m8 (by show (!someT p (2 ^ p.rs.length - 1)) = true; rw [show 2 ^ p.rs.length - 1 = allR p from rfl, hno]; rfl) (hf.congr fun t ht => someT_not p hp t)
    rw [h1]; rfl
/-- What Known, Differ and Shows return, by the truths. -/
def toldV (p : PairD) (ok : Bool) (h : Int × Int) : (Int × Int) × Int :=
  if validB p = false then ((0, 0), 1) else if ok = false then ((0, 0), 2) else if truA p = [] then ((0, 0), 10) else (h, 0)
theorem told_eq (p : PairD) (ok : Bool) (g : (Int × Int) × Tab → Int × Int) (h : Int × Int) (hg : validB p = true → ok = true → ∀ S, IsHull (fun v => v ∈ (pairOuts p (allR p)).map g) S → S = h) (s : Int × Int) (er : Int) (ht : ToldRes p ok g s er) : (s, er) = toldV p ok h := by
  unfold toldV
  rcases ht with ⟨hv, rfl, rfl⟩ | ⟨hv, ho, rfl, rfl⟩ | ⟨hv, ho, hn, rfl, rfl⟩ | ⟨hv, ho, hn, rfl, hh⟩
  · rw [if_pos hv]
  · rw [if_neg (by simp [hv]), if_pos ho]
  · rw [if_neg (by simp [hv]), if_neg (by simp [ho]), if_pos ((truA_nil p (OkP.of p hv)).1 hn)]
  · rw [if_neg (by simp [hv]), if_neg (by simp [ho]), if_neg (fun h => hn ((truA_nil p (OkP.of p hv)).2 h)), hg hv ho s hh]

end Go.Proofs.Ytlgeggekmdoceaa
