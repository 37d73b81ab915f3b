/- Texts Lc, Ld, Aa, Le in one file; each begins with a word on what it proves. -/
import Derived.Laws.OwnMore
import Derived.Test.YtabbmihakoeegaaKb
import Derived.Test.YtabbmihakoeegaaKe
import Derived.Test.YtabbmihakoeegaaKc
import Derived.Test.YtabbmihakoeegaaKd

/- What the functions tell, by the list of all truths (plain). -/
namespace Go.Proofs.Ytabbmihakoeegaa
set_option linter.unusedVariables false
set_option linter.unusedSimpArgs false

/-- The truths of a pair by all readings. -/
def truA (p : PairD) : List (List Int × (Int × Int)) := truthsL p (allR p)
def hullD (p : PairD) (a b : Nat) : Int × Int := hullOf ((truA p).map fun t => (t.1.getD a 0 - t.1.getD b 0, t.1.getD a 0 - t.1.getD b 0))
def hullS (p : PairD) (m : Int) : Int × Int := hullOf ((truA p).map fun t => (showsC t.2.1 t.2.2 m, showsC t.2.1 t.2.2 m))
theorem truA_ne (p : PairD) (hp : OkP p) : pairOuts p (allR p) ≠ [] ↔ truA p ≠ [] := by
  rw [pairOuts_ne p hp, ← truthsL_ne p hp]; rfl
theorem truA_nil (p : PairD) (hp : OkP p) : pairOuts p (allR p) = [] ↔ truA p = [] := by
  have := truA_ne p hp
  constructor
  · intro h
    cases ht : truA p with
    | nil => rfl
    | cons a l => exact absurd h (this.2 (by rw [ht]; simp))
  · intro h
    cases ht : pairOuts p (allR p) with
    | nil => rfl
    | cons a l => exact absurd h (this.1 (by rw [ht]; simp))
theorem told_dif (p : PairD) (hp : OkP p) (a b : Nat) (ha : a < p.bs.length ∨ a = 5) (hb : b < p.bs.length ∨ b = 5) (S : Int × Int) (h : IsHull (fun v => v ∈ (pairOuts p (allR p)).map (difOf a b)) S) : S = hullD p a b := by
  have h1 := hull_dif p hp (allR p) a b ha hb S h
  refine IsHull.eq (h1.congr fun v => ?_)
  refine (truthVal_iff p hp (allR p) (fun _ x => x a - x b) (fun c x y hxy => ?_) v).trans Iff.rfl
  rw [hxy a ha, hxy b hb]
theorem told_sho (p : PairD) (hp : OkP p) (m : Int) (S : Int × Int) (h : IsHull (fun v => v ∈ (pairOuts p (allR p)).map (shoOf m)) S) : S = hullS p m := by
  have h1 := hull_any_of (g := fun c _ => showsC c.1 c.2 m) hp (fun c x => rfl) h
  refine IsHull.eq (h1.congr fun v => ?_)
  exact (truthVal_iff p hp (allR p) (fun c _ => showsC c.1 c.2 m) (fun c x y hxy => rfl) v).trans Iff.rfl
theorem difS_eq (p : PairD) (hp : OkP p) (hne : pairOuts p (allR p) ≠ []) (a b : Nat) (ha : a < p.bs.length) (hb : b < p.bs.length) : difS p a b = hullD p a b :=
  told_dif p hp a b (.inl ha) (.inl hb) _ (hullOf_is _ (by simpa using hne))
/-- Is a block longest, in a truth? -/
def longT (n : Nat) (x : List Int) (i : Nat) : Bool := (List.range n).all fun k => decide (x.getD k 0 ≤ x.getD i 0)
theorem longT_iff (n : Nat) (x : List Int) (i : Nat) : longT n x i = true ↔ ∀ k, k < n → x.getD k 0 ≤ x.getD i 0 := by simp [longT]
theorem canB_eq (p : PairD) (hp : OkP p) (i : Nat) (hi : i < p.bs.length) : canB p i = (truA p).any fun t => longT p.bs.length t.1 i := by
  rw [Bool.eq_iff_iff, List.any_eq_true]
  unfold canB
  rw [decide_eq_true_eq, long_can p hp _ i hi]
  constructor
  · rintro ⟨c, hc, x, hx, h⟩
    refine ⟨_, truth_mem p hp _ c x hc hx, (longT_iff _ _ _).2 fun k hk => ?_⟩
    rw [listOf_at _ _ _ hk, listOf_at _ _ _ hi]
    exact h k hk
  · rintro ⟨⟨y, c⟩, hy, h⟩
    obtain ⟨hc, _, hx⟩ := (mem_truthsL p hp _ y c).1 hy
    exact ⟨c, hc, _, hx, (longT_iff _ _ _).1 h⟩
theorem sureB_eq (p : PairD) (hp : OkP p) (hne : pairOuts p (allR p) ≠ []) (i : Nat) (hi : i < p.bs.length) : sureB p i = (truA p).all fun t => longT p.bs.length t.1 i := by
  rw [Bool.eq_iff_iff, List.all_eq_true]
  unfold sureB sureK
  rw [List.all_eq_true]
  have hkey : ∀ k, k < p.bs.length → (0 ≤ (difS p i k).1 ↔ ∀ t ∈ truA p, t.1.getD k 0 ≤ t.1.getD i 0) := by
    intro k hk
    rw [difS_eq p hp hne i k hi hk]
    obtain ⟨⟨a, ha, e1⟩, _, hall⟩ := hullOf_is ((truA p).map fun t => (t.1.getD i 0 - t.1.getD k 0, t.1.getD i 0 - t.1.getD k 0)) (by simpa using (truA_ne p hp).1 hne)
    constructor
    · intro h t ht
      have := (hall _ (List.mem_map.2 ⟨t, ht, rfl⟩)).1
      unfold hullD at h
      dsimp only at this
      omega
    · intro h
      obtain ⟨t, ht, rfl⟩ := List.mem_map.1 ha
      have := h t ht
      unfold hullD
      dsimp only at e1
      omega
  constructor
  · intro h t ht
    exact (longT_iff _ _ _).2 fun k hk => (hkey k hk).1 (by simpa using h k (List.mem_range.2 hk)) t ht
  · intro h k hk
    rw [List.mem_range] at hk
    rw [decide_eq_true_eq, hkey k hk]
    exact fun t ht => (longT_iff _ _ _).1 (h t ht) k hk
theorem setN_congr (f g : Nat → Bool) : ∀ n, (∀ i, i < n → f i = g i) → setN f n = setN g n
  | 0, _ => rfl
  | n + 1, h => by
    unfold setN
    rw [setN_congr f g n (fun i hi => h i (by omega)), h n (by omega)]
/-- What Longest returns, by the truths. -/
def longV (p : PairD) : (Int × Int) × Int :=
  if validB p = false then ((0, 0), 1) else if truA p = [] then ((0, 0), 10) else
    (((setN (fun i => (truA p).all fun t => longT p.bs.length t.1 i) p.bs.length : Nat), (setN (fun i => (truA p).any fun t => longT p.bs.length t.1 i) p.bs.length : Nat)), 0)
theorem longF_eq (p : PairD) : longF p = longV p := by
  unfold longF longV
  cases hv : validB p with
  | false => rfl
  | true =>
    have hp := OkP.of p hv
    simp only [Bool.true_eq_false, if_false]
    by_cases hne : pairOuts p (allR p) = []
    · rw [if_pos hne, if_pos ((truA_nil p hp).1 hne)]
    · rw [if_neg hne, if_neg (fun h => hne ((truA_nil p hp).2 h))]
      rw [setN_congr _ _ _ (fun i hi => sureB_eq p hp hne i hi), setN_congr _ _ _ (fun i hi => canB_eq p hp i hi)]
/-- What Least returns, by the truths. -/
def widT (p : PairD) (x y : Nat) : Int := (hullD p x y).2 - (hullD p x y).1
def stepT (p : PairD) (acc : Int × Int × Int) (k i : Nat) : Int × Int × Int :=
  if acc.2.2 < widT p k i ∨ (widT p k i = acc.2.2 ∧ (k : Int) < acc.1) then ((k : Int), (i : Int), widT p k i) else acc
def rowT (p : PairD) (i : Nat) (acc : Int × Int × Int) : Nat → Int × Int × Int
  | 0 => acc
  | k + 1 => stepT p (rowT p i acc k) k i
def allT (p : PairD) : Nat → Int × Int × Int
  | 0 => (0, 0, -1)
  | i + 1 => rowT p i (allT p i) i
def leastV (p : PairD) : (Int × Int × Int) × Int :=
  if validB p = false then ((0, 0, 0), 1) else if truA p = [] then ((0, 0, 0), 10) else if p.bs.length ≤ 1 then ((0, 0, 0), 4) else (allT p p.bs.length, 0)
theorem leastF_eq (p : PairD) : leastF p = leastV p := by
  unfold leastF leastV
  cases hv : validB p with
  | false => rfl
  | true =>
    have hp := OkP.of p hv
    simp only [Bool.true_eq_false, if_false]
    by_cases hne : pairOuts p (allR p) = []
    · rw [if_pos hne, if_pos ((truA_nil p hp).1 hne)]
    · rw [if_neg hne, if_neg (fun h => hne ((truA_nil p hp).2 h))]
      have hw : ∀ x y, x < p.bs.length → y < p.bs.length → widS p x y = widT p x y := fun x y hx hy => by
        unfold widS widT; rw [difS_eq p hp hne x y hx hy]
      have hrow : ∀ i, i < p.bs.length → ∀ acc k, k ≤ i → leastRow p i acc k = rowT p i acc k := by
        intro i hi acc k
        induction k with
        | zero => intro _; rfl
        | succ k ih =>
          intro hk
          unfold leastRow rowT leastStep stepT
          rw [ih (by omega), hw k i (by omega) hi]
      have hall : ∀ n, n ≤ p.bs.length → leastAll p n = allT p n := by
        intro n
        induction n with
        | zero => intro _; rfl
        | succ n ih =>
          intro hn
          unfold leastAll allT
          rw [ih (by omega), hrow n (by omega) _ n (Nat.le_refl _)]
      rw [hall _ (Nat.le_refl _)]
/-- The first set of the smallest that are so, all being tried. -/
def bestL (f : Nat → Bool) (every : Nat) : Nat → Nat
  | 0 => every
  | j + 1 => if ones j < ones (bestL f every j) && f j then j else bestL f every j
theorem ones_every : ∀ m : Fin 9, ones (2 ^ m.val - 1) = m.val ∧ ∀ t : Fin 256, t.val < 2 ^ m.val - 1 → ones t.val < m.val := by decide +kernel
theorem best_inv (f : Nat → Bool) (m : Nat) (hm : m ≤ 8) : ∀ j, j ≤ 2 ^ m → (bestL f (2 ^ m - 1) j = 2 ^ m - 1 ∧ ∀ t, t < j → t < 2 ^ m - 1 → f t = false) ∨
    (bestL f (2 ^ m - 1) j < j ∧ bestL f (2 ^ m - 1) j < 2 ^ m - 1 ∧ f (bestL f (2 ^ m - 1) j) = true ∧ ∀ t, t < j → f t = true → ones (bestL f (2 ^ m - 1) j) < ones t ∨ (ones (bestL f (2 ^ m - 1) j) = ones t ∧ bestL f (2 ^ m - 1) j ≤ t)) := by
  have h256 : 2 ^ m ≤ 2 ^ 8 := Nat.pow_le_pow_right (by decide) hm
  obtain ⟨ho, hlt⟩ := ones_every ⟨m, by omega⟩
  dsimp only at ho hlt
  intro j
  induction j with
  | zero => intro _; exact .inl ⟨rfl, fun t ht => by omega⟩
  | succ j ih =>
    intro hj
    have ih := ih (by omega)
    unfold bestL
    generalize bestL f (2 ^ m - 1) j = b at *
    by_cases hc : (decide (ones j < ones b) && f j) = true
    · rw [if_pos hc]
      simp only [Bool.and_eq_true, decide_eq_true_eq] at hc
      have hjm : j < 2 ^ m - 1 := by
        rcases Nat.lt_or_ge j (2 ^ m - 1) with h | h
        · exact h
        · have : j = 2 ^ m - 1 := by omega
          rw [this, ho] at hc
          have := ones_le m b hm (by rcases ih with h | h <;> omega)
          omega
      refine .inr ⟨by omega, hjm, hc.2, fun t ht hft => ?_⟩
      by_cases htj : t = j
      · subst htj; exact .inr ⟨rfl, Nat.le_refl _⟩
      · rcases ih with ⟨h1, h2⟩ | ⟨_, _, _, h2⟩
        · by_cases hte : t < 2 ^ m - 1
          · rw [h2 t (by omega) hte] at hft; cases hft
          · omega
        · have := h2 t (by omega) hft
          omega
    · rw [if_neg hc]
      simp only [Bool.and_eq_true, decide_eq_true_eq, not_and, Bool.not_eq_true] at hc
      rcases ih with ⟨h1, h2⟩ | ⟨h1, h2, h3, h4⟩
      · refine .inl ⟨h1, fun t ht htm => ?_⟩
        by_cases htj : t = j
        · subst htj
          have := hlt ⟨t, by omega⟩ htm
          refine hc ?_
          rw [h1, ho]; exact this
        · exact h2 t (by omega) htm
      · refine .inr ⟨by omega, h2, h3, fun t ht hft => ?_⟩
        by_cases htj : t = j
        · subst htj
          rcases Nat.lt_or_ge (ones t) (ones b) with h | h
          · rw [hc h] at hft; cases hft
          · rcases Nat.eq_or_lt_of_le h with h | h
            · exact .inr ⟨h, by omega⟩
            · exact .inl h
        · exact h4 t (by omega) hft
theorem first_best (f : Nat → Bool) (m s : Nat) (b : Bool) (hm : m ≤ 8) (hall : f (2 ^ m - 1) = true) (h : FirstRes m f s b) : s = bestL f (2 ^ m - 1) (2 ^ m) := by
  have hp := Nat.one_le_two_pow (n := m)
  have h256 : 2 ^ m ≤ 2 ^ 8 := Nat.pow_le_pow_right (by decide) hm
  rcases h with ⟨_, h1, h2, h3⟩ | ⟨_, _, h3⟩
  · rcases best_inv f m hm (2 ^ m) (Nat.le_refl _) with ⟨e1, e2⟩ | ⟨e1, e2, e3, e4⟩
    · rw [e1]
      rcases Nat.lt_or_ge s (2 ^ m - 1) with hs | hs
      · rw [e2 s h1 hs] at h2; cases h2
      · omega
    · have a1 := h3 _ e1 e3
      have a2 := e4 s h1 h2
      omega
  · rw [h3 _ (by omega)] at hall; cases hall
theorem FirstRes.congr {m : Nat} {f g : Nat → Bool} {s : Nat} {b : Bool} (h : FirstRes m f s b) (e : ∀ t, t < 2 ^ m → f t = g t) : FirstRes m g s b := by
  rcases h with ⟨h1, h2, h3, h4⟩ | ⟨h1, h2, h3⟩
  · exact .inl ⟨h1, h2, (e s h2).symm.trans h3, fun t ht hg => h4 t ht ((e t ht).trans hg)⟩
  · exact .inr ⟨h1, h2, fun t ht => (e t ht).symm.trans (h3 t ht)⟩
def someT (p : PairD) (s : Nat) : Bool := !(truthsL p s).isEmpty
theorem someT_eq (p : PairD) (hp : OkP p) (s : Nat) : decide (pairOuts p s ≠ []) = someT p s := by
  rw [Bool.eq_iff_iff, decide_eq_true_eq, pairOuts_ne p hp, ← truthsL_ne p hp]
  unfold someT
  cases truthsL p s <;> simp
theorem someT_not (p : PairD) (hp : OkP p) (s : Nat) : decide (pairOuts p s = []) = !someT p s := by
  rw [← someT_eq p hp]; simp
/-- Without readings there is a truth. -/
theorem someT_zero (p : PairD) (hp : OkP p) : someT p 0 = true := by
  rw [← someT_eq p hp, decide_eq_true_eq, pairOuts_ne p hp]
  refine ⟨(p.zl, p.rl), ?_, fun i => if h : i < p.bs.length then p.bs[i].1 else 0, ?_⟩
  · have := hp.zz; have := hp.rr
    unfold comps
    refine List.mem_map.2 ⟨0, List.mem_range.2 (Nat.mul_pos ?_ ?_), by simp⟩ <;> (unfold wideN; omega)
  · have n5 := hp.n5
    refine ⟨by rw [dif_neg (by omega)], fun i hi => ?_, fun i hi hs => by simp at hs⟩
    rw [dif_pos hi]
    have := hp.bs _ (List.getElem_mem hi)
    omega
def wrongV (p : PairD) : (Int × Int) × Int :=
  if validB p = false then ((0, 0), 1) else (((ones (bestL (fun s => someT p (allR p - s)) (allR p) (2 ^ p.rs.length)) : Nat), (bestL (fun s => someT p (allR p - s)) (allR p) (2 ^ p.rs.length) : Nat)), 0)
theorem wrong_eq (p : PairD) (many set er : Int) (h : WrongRes p many set er) : ((many, set), er) = wrongV p := by
  unfold wrongV
  rcases h with ⟨hv, rfl, rfl, rfl⟩ | ⟨hv, rfl, s, b, hf, rfl, rfl⟩
  · rw [if_pos hv]
  · have hp := OkP.of p hv
    rw [if_neg (by simp [hv])]
    have h1 := first_best _ _ s b hp.m8 (by
      show someT p (allR p - (2 ^ p.rs.length - 1)) = true
      rw [show allR p - (2 ^ p.rs.length - 1) = 0 by unfold allR; omega]
      exact someT_zero p hp) (hf.congr fun t ht => someT_eq p hp (allR p - t))
    rw [h1]; rfl
def clashV (p : PairD) : Int × Int :=
  if validB p = false then (0, 1) else if someT p (allR p) then (0, 4) else ((bestL (fun s => !someT p s) (allR p) (2 ^ p.rs.length) : Nat), 0)
theorem clash_eq (p : PairD) (set er : Int) (h : ClashRes p set er) : (set, er) = clashV p := by
  unfold clashV
  rcases h with ⟨hv, rfl, rfl⟩ | ⟨hv, hne, rfl, rfl⟩ | ⟨hv, he, rfl, s, b, hf, rfl⟩
  · rw [if_pos hv]
  · have hp := OkP.of p hv
    rw [if_neg (by simp [hv]), if_pos (by rw [← someT_eq p hp]; simpa using hne)]
  · have hp := OkP.of p hv
    have hno : someT p (allR p) = false := by rw [← someT_eq p hp]; simpa using he
    rw [if_neg (by simp [hv]), if_neg (by simp [hno])]
    have h1 := first_best _ _ s b hp.m8 (by show (!someT p (2 ^ p.rs.length - 1)) = true; rw [show 2 ^ p.rs.length - 1 = allR p from rfl, hno]; rfl) (hf.congr fun t ht => someT_not p hp t)
    rw [h1]; rfl
/-- What Known, Differ and Shows return, by the truths. -/
def toldV (p : PairD) (ok : Bool) (h : Int × Int) : (Int × Int) × Int :=
  if validB p = false then ((0, 0), 1) else if ok = false then ((0, 0), 2) else if truA p = [] then ((0, 0), 10) else (h, 0)
theorem told_eq (p : PairD) (ok : Bool) (g : (Int × Int) × Tab → Int × Int) (h : Int × Int) (hg : validB p = true → ok = true → ∀ S, IsHull (fun v => v ∈ (pairOuts p (allR p)).map g) S → S = h) (s : Int × Int) (er : Int) (ht : ToldRes p ok g s er) : (s, er) = toldV p ok h := by
  unfold toldV
  rcases ht with ⟨hv, rfl, rfl⟩ | ⟨hv, ho, rfl, rfl⟩ | ⟨hv, ho, hn, rfl, rfl⟩ | ⟨hv, ho, hn, rfl, hh⟩
  · rw [if_pos hv]
  · rw [if_neg (by simp [hv]), if_pos ho]
  · rw [if_neg (by simp [hv]), if_neg (by simp [ho]), if_pos ((truA_nil p (OkP.of p hv)).1 hn)]
  · rw [if_neg (by simp [hv]), if_neg (by simp [ho]), if_neg (fun h => hn ((truA_nil p (OkP.of p hv)).2 h)), hg hv ho s hh]

end Go.Proofs.Ytabbmihakoeegaa

/- How many groups there are: by labels that are passed on (plain). -/
namespace Go.Proofs.Ytabbmihakoeegaa
set_option linter.unusedVariables false
set_option linter.unusedSimpArgs false

def labA (l : List Int) (i : Int) : Int := l.getD i.toNat 0
def relaxR (l : List Int) (r : RdD) : List Int := (l.set r.a.toNat (min (labA l r.a) (labA l r.b))).set r.b.toNat (min (labA l r.a) (labA l r.b))
def sweep (p : PairD) (l : List Int) : List Int := p.rs.foldl relaxR l
def labelsK (p : PairD) : Nat → List Int
  | 0 => (List.range p.bs.length).map fun i : Nat => (i : Int)
  | k + 1 => sweep p (labelsK p k)
def ownL (p : PairD) (i : Nat) : Bool := labA (labelsK p p.bs.length) i == (i : Int)
def groupsV (p : PairD) : Int × Int := if validB p = false then (0, 1) else ((((List.range p.bs.length).filter (ownL p)).length : Nat), 0)

theorem labA_set (l : List Int) (j : Nat) (v : Int) (i : Int) (hj : j < l.length) (hi : 0 ≤ i) : labA (l.set j v) i = if i = (j : Int) then v else labA l i := by
  unfold labA
  rw [List.getD_eq_getElem?_getD, List.getElem?_set]
  by_cases h : j = i.toNat
  · rw [if_pos h, if_pos hj, if_pos (by omega)]; rfl
  · rw [if_neg h, if_neg (by omega), List.getD_eq_getElem?_getD]
theorem relax_length (l : List Int) (r : RdD) : (relaxR l r).length = l.length := by simp [relaxR]
theorem relax_at (l : List Int) (r : RdD) (i : Int) (ha : 0 ≤ r.a ∧ r.a < l.length) (hb : 0 ≤ r.b ∧ r.b < l.length) (hi : 0 ≤ i) : labA (relaxR l r) i = if i = r.a ∨ i = r.b then min (labA l r.a) (labA l r.b) else labA l i := by
  unfold relaxR
  rw [labA_set _ _ _ _ (by rw [List.length_set]; omega) hi, labA_set _ _ _ _ (by omega) hi]
  by_cases h1 : i = r.b
  · rw [if_pos (by omega), if_pos (.inr h1)]
  · rw [if_neg (by omega)]
    by_cases h2 : i = r.a
    · rw [if_pos (by omega), if_pos (.inl h2)]
    · rw [if_neg (by omega), if_neg (by omega)]
/-- What holds of labels at all times. -/
structure LabOk (p : PairD) (l : List Int) : Prop where
  len : l.length = p.bs.length
  lo : ∀ i : Int, 0 ≤ i → i < p.bs.length → 0 ≤ labA l i ∧ labA l i ≤ i
  conn : ∀ i : Int, 0 ≤ i → i < p.bs.length → Conn p (labA l i) i
theorem LabOk.relax {p : PairD} {l : List Int} (h : LabOk p l) {r : RdD} (hr : r ∈ p.rs) (hp : OkP p) : LabOk p (relaxR l r) := by
  have hb := hp.rs r hr
  have hl := h.len
  have key := fun i hi => relax_at l r i ⟨hb.1, by rw [hl]; exact hb.2.1⟩ ⟨hb.2.2.1, by rw [hl]; exact hb.2.2.2.1⟩ hi
  have hadj : Adj p r.a r.b := ⟨r, hr, .inl ⟨rfl, rfl⟩⟩
  have la := h.lo r.a hb.1 hb.2.1
  have lb := h.lo r.b hb.2.2.1 hb.2.2.2.1
  have ca := h.conn r.a hb.1 hb.2.1
  have cb := h.conn r.b hb.2.2.1 hb.2.2.2.1
  have hmin : min (labA l r.a) (labA l r.b) = labA l r.a ∨ min (labA l r.a) (labA l r.b) = labA l r.b := by omega
  refine ⟨by rw [relax_length, hl], fun i h0 h1 => ?_, fun i h0 h1 => ?_⟩
  · rw [key i h0]
    split
    · rename_i e
      rcases e with rfl | rfl <;> omega
    · exact h.lo i h0 h1
  · rw [key i h0]
    split
    · rename_i e
      have cab : Conn p (min (labA l r.a) (labA l r.b)) r.a := by
        rcases hmin with e1 | e1 <;> rw [e1]
        · exact ca
        · exact .step cb hadj.symm
      rcases e with rfl | rfl
      · exact cab
      · exact .step cab hadj
    · exact h.conn i h0 h1
theorem fold_ok {p : PairD} (hp : OkP p) : ∀ (rs : List RdD) (l : List Int), (∀ r ∈ rs, r ∈ p.rs) → LabOk p l → LabOk p (rs.foldl relaxR l) ∧ (∀ i : Int, 0 ≤ i → i < p.bs.length → labA (rs.foldl relaxR l) i ≤ labA l i) ∧
    ∀ r ∈ rs, labA (rs.foldl relaxR l) r.a ≤ labA l r.b ∧ labA (rs.foldl relaxR l) r.b ≤ labA l r.a
  | [], l, _, h => ⟨h, fun _ _ _ => Int.le_refl _, fun r hr => by cases hr⟩
  | r :: rs, l, hr, h => by
    have hrm := hr r List.mem_cons_self
    have hb := hp.rs r hrm
    have hl := h.len
    have key := fun i hi => relax_at l r i ⟨hb.1, by rw [hl]; exact hb.2.1⟩ ⟨hb.2.2.1, by rw [hl]; exact hb.2.2.2.1⟩ hi
    obtain ⟨h1, h2, h3⟩ := fold_ok hp rs (relaxR l r) (fun r' hr' => hr r' (List.mem_cons_of_mem _ hr')) (h.relax hrm hp)
    have hle : ∀ i : Int, 0 ≤ i → i < p.bs.length → labA (relaxR l r) i ≤ labA l i := fun i h0 h1 => by
      rw [key i h0]
      split
      · rename_i e
        rcases e with rfl | rfl <;> omega
      · omega
    rw [List.foldl_cons]
    refine ⟨h1, fun i h0 hi => Int.le_trans (h2 i h0 hi) (hle i h0 hi), fun r' hr' => ?_⟩
    rcases List.mem_cons.1 hr' with rfl | hr'
    · have a1 := h2 r'.a hb.1 hb.2.1
      have a2 := h2 r'.b hb.2.2.1 hb.2.2.2.1
      have a3 := key r'.a hb.1
      have a4 := key r'.b hb.2.2.1
      rw [if_pos (.inl rfl)] at a3
      rw [if_pos (.inr rfl)] at a4
      omega
    · have hb' := hp.rs r' (hr r' (List.mem_cons_of_mem _ hr'))
      have a1 := h3 r' hr'
      have a2 := hle r'.a hb'.1 hb'.2.1
      have a3 := hle r'.b hb'.2.2.1 hb'.2.2.2.1
      omega
theorem labels_ok {p : PairD} (hp : OkP p) : ∀ k, LabOk p (labelsK p k)
  | 0 => by
    have key : ∀ i : Int, 0 ≤ i → i < p.bs.length → labA (labelsK p 0) i = i := fun i h0 h1 => by
      have : i.toNat < p.bs.length := by omega
      simp [labA, labelsK, List.getD_eq_getElem?_getD, this]
      omega
    exact ⟨by simp [labelsK], fun i h0 h1 => by rw [key i h0 h1]; omega, fun i h0 h1 => by rw [key i h0 h1]; exact .refl _⟩
  | k + 1 => (fold_ok hp p.rs _ (fun _ h => h) (labels_ok hp k)).1
theorem conn_range {p : PairD} (hp : OkP p) {x y : Int} (h : Conn p x y) (hx : 0 ≤ x ∧ x < p.bs.length) : 0 ≤ y ∧ y < p.bs.length := by
  refine h.closed (S := fun y => 0 ≤ y ∧ y < p.bs.length) hx fun u v _ ha => ?_
  obtain ⟨r, hr, ⟨_, rfl⟩ | ⟨_, rfl⟩⟩ := ha
  · have := hp.rs r hr; omega
  · have := hp.rs r hr; omega
/-- The least block's label has come to all that hang together with it, or to one more at least each time. -/
theorem spread {p : PairD} (hp : OkP p) (m : Nat) (hm : m < p.bs.length) (hmin : IsMin p m) : ∀ k, (∀ y, Conn p m y → labA (labelsK p k) y = m) ∨
    ∃ L : List Int, L.Nodup ∧ (∀ y ∈ L, Conn p m y ∧ labA (labelsK p k) y = m) ∧ L.length = k + 1 := by
  have hge : ∀ k y, Conn p m y → (m : Int) ≤ labA (labelsK p k) y := by
    intro k y hy
    have hr := conn_range hp hy ⟨by omega, by omega⟩
    have h1 := (labels_ok hp k).lo y hr.1 hr.2
    have h2 := (labels_ok hp k).conn y hr.1 hr.2
    rcases Int.lt_or_le (labA (labelsK p k) y) m with h | h
    · exfalso
      have hc : Conn p (labA (labelsK p k) y) m := h2.trans hy.symm
      obtain ⟨j, hj⟩ := Int.eq_ofNat_of_zero_le h1.1
      rw [hj] at hc h
      exact hmin j (by omega) hc
    · exact h
  intro k
  induction k with
  | zero =>
    refine .inr ⟨[(m : Int)], by simp, fun y hy => ?_, rfl⟩
    rw [List.mem_singleton.1 hy]
    refine ⟨.refl _, ?_⟩
    have h1 := (labels_ok hp 0).lo m (by omega) (by omega)
    have h2 := hge 0 m (.refl _)
    omega
  | succ k ih =>
    have hf := fold_ok hp p.rs _ (fun _ h => h) (labels_ok hp k)
    have hkeep : ∀ y, Conn p m y → labA (labelsK p k) y = m → labA (labelsK p (k + 1)) y = m := by
      intro y hy h
      have hr := conn_range hp hy ⟨by omega, by omega⟩
      have h1 := hf.2.1 y hr.1 hr.2
      have h2 := hge (k + 1) y hy
      have h3 : labA (labelsK p (k + 1)) y ≤ labA (labelsK p k) y := h1
      omega
    rcases ih with ih | ⟨L, h1, h2, h3⟩
    · exact .inl fun y hy => hkeep y hy (ih y hy)
    · by_cases hall : ∀ y, Conn p m y → labA (labelsK p (k + 1)) y = m
      · exact .inl hall
      · refine .inr ?_
        have hno : ¬ ∀ y, Conn p m y → labA (labelsK p k) y = m := fun h => hall fun y hy => hkeep y hy (h y hy)
        have hm0 : labA (labelsK p k) m = m := by
          have h1 := (labels_ok hp k).lo m (by omega) (by omega)
          have h2 := hge k m (.refl _)
          omega
        have hedge : ∃ u v, Conn p m u ∧ labA (labelsK p k) u = m ∧ Adj p u v ∧ labA (labelsK p k) v ≠ m := by
          refine Classical.byContradiction fun hcon => hno fun y hy => ?_
          have := hy.closed (S := fun y => Conn p m y ∧ labA (labelsK p k) y = m) ⟨.refl _, hm0⟩ fun u v hu ha => ⟨.step hu.1 ha, Classical.byContradiction fun hv => hcon ⟨u, v, hu.1, hu.2, ha, hv⟩⟩
          exact this.2
        obtain ⟨u, v, hu, hlu, hadj, hv⟩ := hedge
        have hcv : Conn p m v := .step hu hadj
        have hlv : labA (labelsK p (k + 1)) v = m := by
          have h2 := hge (k + 1) v hcv
          have h1 : labA (labelsK p (k + 1)) v ≤ labA (labelsK p k) u := by
            obtain ⟨r, hr, ⟨rfl, rfl⟩ | ⟨rfl, rfl⟩⟩ := hadj
            · exact (hf.2.2 r hr).2
            · exact (hf.2.2 r hr).1
          omega
        refine ⟨v :: L, List.nodup_cons.2 ⟨fun hvL => hv (h2 v hvL).2, h1⟩, fun y hy => ?_, by simp [h3]⟩
        rcases List.mem_cons.1 hy with rfl | hy
        · exact ⟨hcv, hlv⟩
        · exact ⟨(h2 y hy).1, hkeep y (h2 y hy).1 (h2 y hy).2⟩
theorem label_min {p : PairD} (hp : OkP p) (m : Nat) (hm : m < p.bs.length) (hmin : IsMin p m) (y : Int) (hy : Conn p m y) : labA (labelsK p p.bs.length) y = m := by
  rcases spread hp m hm hmin p.bs.length with h | ⟨L, h1, h2, h3⟩
  · exact h y hy
  · have := nodup_len p.bs.length L h1 (fun y hy => conn_range hp (h2 y hy).1 ⟨by omega, by omega⟩)
    omega
theorem has_min {p : PairD} : ∀ i : Nat, ∃ m : Nat, m ≤ i ∧ IsMin p m ∧ Conn p m i := by
  intro i
  induction i using Nat.strongRecOn with
  | ind i ih =>
    by_cases h : IsMin p i
    · exact ⟨i, Nat.le_refl _, h, .refl _⟩
    · unfold IsMin at h
      have : ∃ k : Nat, k < i ∧ Conn p k i := Classical.byContradiction fun hc => h fun k hk hck => hc ⟨k, hk, hck⟩
      obtain ⟨k, hk, hc⟩ := this
      obtain ⟨m, h1, h2, h3⟩ := ih k hk
      exact ⟨m, by omega, h2, h3.trans hc⟩
theorem ownL_iff {p : PairD} (hp : OkP p) (i : Nat) (hi : i < p.bs.length) : ownL p i = true ↔ IsMin p i := by
  obtain ⟨m, h1, h2, h3⟩ := has_min (p := p) i
  have hl := label_min hp m (by omega) h2 i h3
  unfold ownL
  rw [hl, beq_iff_eq]
  constructor
  · intro h
    have : m = i := by omega
    subst this
    exact h2
  · intro h
    rcases Nat.lt_or_ge m i with hlt | hge
    · exact absurd h3 (h m hlt)
    · have : m = i := by omega
      rw [this]
theorem groups_eq (p : PairD) (n er : Int) (h : GroupsRes p n er) : (n, er) = groupsV p := by
  unfold groupsV
  rcases h with ⟨hv, rfl, rfl⟩ | ⟨hv, rfl, f, hf, rfl⟩
  · rw [if_pos hv]
  · have hp := OkP.of p hv
    rw [if_neg (by simp [hv])]
    have : (List.range p.bs.length).filter f = (List.range p.bs.length).filter (ownL p) := by
      apply List.filter_congr
      intro i hi
      rw [List.mem_range] at hi
      rw [Bool.eq_iff_iff, hf i hi, ownL_iff hp i hi]
    rw [this]

end Go.Proofs.Ytabbmihakoeegaa

/- The statements' small functions: span, read, sample. -/
namespace Go.Proofs.Ytabbmihakoeegaa
set_option linter.unusedVariables false
set_option linter.unusedSimpArgs false
open Go.RowKit Go.Shelf
attribute [local go_sem] Oper.semAt_some

def readV (r : RdD) : Value := .agg #[.int .i64 r.a, .int .i64 r.b, .int .i64 r.m, .int .i64 r.lo, .int .i64 r.hi]
def sampleD (l : List RdD) : PairD := { bs := [(0, 0), (-5, 5), (-5, 5)], zl := 0, zh := 1, rl := 2, rh := 2, rs := [⟨1, 0, 0, 3, 4⟩, ⟨2, 0, 10, 3, 3⟩, ⟨1, 2, 20, 5, 7⟩] ++ l }
theorem flat_len {α : Type} (f : α → List Value) (m : Nat) (hf : ∀ a, (f a).length = m) : ∀ (l : List α) (i q : Nat) (hi : i < l.length), q < m → (l.flatMap f)[i * m + q]? = (f l[i])[q]?
  | a :: l, 0, q, _, hq => by
    simp only [List.flatMap_cons, Nat.zero_mul, Nat.zero_add, List.getElem_cons_zero]
    rw [List.getElem?_append_left (by rw [hf]; exact hq)]
  | a :: l, i + 1, q, hi, hq => by
    simp only [List.flatMap_cons, List.getElem_cons_succ]
    rw [List.getElem?_append_right (by rw [hf, Nat.add_mul]; omega), hf, show (i + 1) * m + q - m = i * m + q by rw [Nat.add_mul]; omega]
    exact flat_len f m hf l i q (by simpa using hi) hq
def spC (s : Int × Int) : List Value := [.int .i64 s.1, .int .i64 s.2]
theorem own_cases {w : World} {base : Nat} {e : TypeId} {size : Nat} {v : Value} {n : Nat} {xs : List Value} (h : w.ownsRow base e size v n xs) :
    (v = .slice none 0 0 ∧ n = 0) ∨ ∃ g cap, v = .slice (some ⟨g, 0, none⟩) n cap ∧ base ≤ g ∧ g < w.heap.size ∧ n ≤ cap ∧ cap ≤ maxLen ∧ ∀ j, j < n * size → w.cell? ⟨g, j, none⟩ = xs[j]? := by
  rcases h.2 with h1 | ⟨g, cap, cur, h1, h2, h3, h4, h5, _, _⟩
  · exact .inl h1
  · subst h1
    exact .inr ⟨g, cap, rfl, h2, lt_of_block h3, h4, h5, fun j hj => h.cellAt j hj⟩
theorem own_pos {w : World} {base : Nat} {e : TypeId} {size : Nat} {v : Value} {n : Nat} {xs : List Value} (h : w.ownsRow base e size v (n + 1) xs) : ∃ g cap, v = .slice (some ⟨g, 0, none⟩) (n + 1) cap := by
  rcases own_cases h with ⟨_, h2⟩ | ⟨g, cap, h1, _⟩
  · omega
  · exact ⟨g, cap, h1⟩
theorem readsAt_of_owns {w : World} {base : Nat} {e : TypeId} {v : Value} {l : List RdD} (h : w.ownsRow base e 5 v l.length (l.flatMap rdC)) : ReadsAt w v l (fun k => base ≤ k) := by
  rcases own_cases h with ⟨h1, h2⟩ | ⟨g, cap, h1, h2, h3, h4, h5, h6⟩
  · have : l = [] := by simpa using h2
    subst this
    exact ⟨none, 0, h1, by simp, by simp, fun i hi => absurd hi (by simp)⟩
  · refine ⟨_, cap, h1, h4, h5, fun i hi => ⟨g, 0, rfl, h2, h3, ?_⟩⟩
    have hc : ∀ q, q < 5 → w.cell? ⟨g, 0 + i * 5 + q, none⟩ = (rdC l[i])[q]? := fun q hq => by
      rw [Nat.zero_add, h6 _ (by omega)]
      exact flat_len rdC 5 (fun _ => rfl) l i q hi hq
    exact ⟨hc 0 (by omega), hc 1 (by omega), hc 2 (by omega), hc 3 (by omega), hc 4 (by omega)⟩
theorem spansAt_of_owns {w : World} {base : Nat} {e : TypeId} {v : Value} {l : List (Int × Int)} (h : w.ownsRow base e 2 v l.length (l.flatMap spC)) : SpansAt w v l (fun k => base ≤ k) := by
  rcases own_cases h with ⟨h1, h2⟩ | ⟨g, cap, h1, h2, h3, h4, h5, h6⟩
  · have : l = [] := by simpa using h2
    subst this
    exact ⟨none, 0, h1, by simp, by simp, fun i hi => absurd hi (by simp)⟩
  · refine ⟨_, cap, h1, h4, h5, fun i hi => ⟨g, 0, rfl, h2, h3, ?_⟩⟩
    have hc : ∀ q, q < 2 → w.cell? ⟨g, 0 + i * 2 + q, none⟩ = (spC l[i])[q]? := fun q hq => by
      rw [Nat.zero_add, h6 _ (by omega)]
      exact flat_len spC 2 (fun _ => rfl) l i q hi hq
    exact ⟨hc 0 (by omega), hc 1 (by omega)⟩
theorem underReads : Try.prog.underlying 25 = some (.slice 48) := by kernel_rfl
end Go.Proofs.Ytabbmihakoeegaa

/- What the functions of package pair return, by the list of all truths. -/
namespace Go.Proofs.Ytabbmihakoeegaa
set_option linter.unusedVariables false
set_option linter.unusedSimpArgs false
open Go.RowKit Go.Shelf

/-- A pair's slices in memory. -/
structure PairAt (w : World) (p : PairD) (bs rs : Value) : Prop where
  b : SpansAt w bs p.bs (fun k => k < w.heap.size)
  r : ReadsAt w rs p.rs (fun k => k < w.heap.size)
theorem SpansAt.low {W : World} {v : Value} {l : List (Int × Int)} {Rd : Nat → Prop} (h : SpansAt W v l Rd) : SpansAt W v l (fun k => k < W.heap.size) := by
  obtain ⟨ao, cap, h1, h2, h3, h4⟩ := h
  exact ⟨ao, cap, h1, h2, h3, fun i hi => by obtain ⟨b, off, e1, e2, e3⟩ := h4 i hi; exact ⟨b, off, e1, e3.1, e3⟩⟩
theorem ReadsAt.low {W : World} {v : Value} {l : List RdD} {Rd : Nat → Prop} (h : ReadsAt W v l Rd) : ReadsAt W v l (fun k => k < W.heap.size) := by
  obtain ⟨ao, cap, h1, h2, h3, h4⟩ := h
  exact ⟨ao, cap, h1, h2, h3, fun i hi => by obtain ⟨b, off, e1, e2, e3⟩ := h4 i hi; exact ⟨b, off, e1, e3.1, e3⟩⟩
theorem PairAt.later {w W : World} {p : PairD} {bs rs : Value} (h : PairAt w p bs rs) (hb : Below w.heap.size w W) : PairAt W p bs rs :=
  ⟨(h.b.later hb.size (fun k hk _ => hb.block k hk)).low, (h.r.later hb.size (fun k hk _ => hb.block k hk)).low⟩
theorem PairAt.of {w : World} {p : PairD} {bs rs : Value} {Rd Rd' : Nat → Prop} (h : SpansAt w bs p.bs Rd) (h' : ReadsAt w rs p.rs Rd') : PairAt w p bs rs := ⟨h.low, h'.low⟩

def okBl (p : PairD) (x : Int) : Bool := inB x 0 ((p.bs.length : Int) - 1)
def knownV (p : PairD) (x : Int) : (Int × Int) × Int := toldV p (okBl p x) (hullD p x.toNat 5)
def differV (p : PairD) (x y : Int) : (Int × Int) × Int := toldV p (okBl p x && okBl p y) (hullD p x.toNat y.toNat)
def showsV (p : PairD) (m : Int) : (Int × Int) × Int := toldV p (inB m 0 60) (hullS p m)
theorem okBl_lt {p : PairD} {x : Int} (h : okBl p x = true) : x.toNat < p.bs.length := by
  unfold okBl inB at h
  rw [decide_eq_true_eq] at h
  omega

section
variable {w : World} {p : PairD} {bs rs : Value} (h : PairAt w p bs rs)
include h
theorem knownV_any (x : Int) : Calls Try.prog 14 #[.agg (pairRow p bs rs), .int .i64 x] w fun e w' => e = .returned (.tuple #[spanV (knownV p x).1, .int .i64 (knownV p x).2]) ∧ Below w.heap.size w w' :=
  (known_any p bs rs x _ w (fun _ h => h) h.b h.r).mono fun e w' ⟨s, er, he, ht, hb⟩ => by
    have := told_eq p _ _ (hullD p x.toNat 5) (fun hv ho S hS => told_dif p (OkP.of p hv) x.toNat 5 (.inl (okBl_lt ho)) (.inr rfl) S hS) s er ht
    refine ⟨?_, hb⟩
    rw [he, show knownV p x = (s, er) from this.symm]
theorem groupsV_any : Calls Try.prog 22 #[.agg (pairRow p bs rs)] w fun e w' => e = .returned (.tuple #[.int .i64 (groupsV p).1, .int .i64 (groupsV p).2]) ∧ Below w.heap.size w w' :=
  (groupsp_any p bs rs _ w (fun _ h => h) h.b h.r).mono fun e w' ⟨⟨n, er, he, ht⟩, hb⟩ => ⟨by rw [he, ← groups_eq p n er ht], hb⟩
end

/-! ### the document's examples -/
def p0 : PairD := sampleD []
def p1 : PairD := sampleD [⟨2, 1, 0, 5, 5⟩]
theorem val_known : knownV p0 1 = ((2, 4), 0) := by decide +kernel
theorem val_differ : differV p0 0 1 = ((-4, -2), 0) := by decide +kernel
theorem val_shows : showsV p0 25 = ((5, 6), 0) := by decide +kernel
theorem val_long : longV p0 = ((2, 2), 0) := by decide +kernel
theorem val_least : leastV p0 = ((0, 1, 2), 0) := by decide +kernel
theorem val_groups : groupsV p0 = (1, 0) := by decide +kernel
theorem val_wrong : wrongV p1 = ((1, 8), 0) := by decide +kernel
theorem val_clash : clashV p1 = (9, 0) := by decide +kernel

end Go.Proofs.Ytabbmihakoeegaa
