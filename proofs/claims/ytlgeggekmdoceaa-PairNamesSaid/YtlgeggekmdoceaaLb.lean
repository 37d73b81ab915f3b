/- All truths, as the document lists them (plain). -/
import Derived.Test.YtlgeggekmdoceaaLa
namespace Go.Proofs.Ytlgeggekmdoceaa
set_option linter.unusedVariables false
set_option linter.unusedSimpArgs false

/-! ### all truths, by the document -/
def atL (x : List Int) (i : Int) : Int := x.getD i.toNat 0
def rightR (c : Int × Int) (x : List Int) (r : RdD) : Bool :=
  decide ((x.length : Int) ≤ r.a) || decide ((x.length : Int) ≤ r.b) || (decide (r.lo ≤ atL x r.a - atL x r.b + showsC c.1 c.2 r.m) && decide (atL x r.a - atL x r.b + showsC c.1 c.2 r.m ≤ r.hi))
def rightN (p : PairD) (s : Nat) (c : Int × Int) (x : List Int) (i : Nat) : Bool := !(s.testBit i) || (match p.rs[i]? with | none => true | some r => rightR c x r)
/-- Are the first readings of a set right, of those of whose blocks deviations are given? -/
def rightK (p : PairD) (s : Nat) (c : Int × Int) (x : List Int) (k : Nat) : Bool := (List.range k).all (rightN p s c x)
def rightL (p : PairD) (s : Nat) (c : Int × Int) (x : List Int) : Bool := rightK p s c x p.rs.length
def spanL (s : Int × Int) : List Int := (List.range (s.2 - s.1 + 1).toNat).map fun k : Nat => s.1 + (k : Int)
theorem mem_spanL (s : Int × Int) (k : Int) : k ∈ spanL s ↔ s.1 ≤ k ∧ k ≤ s.2 := by
  unfold spanL
  rw [List.mem_map]
  constructor
  · rintro ⟨j, hj, rfl⟩
    rw [List.mem_range] at hj
    omega
  · rintro ⟨h1, h2⟩
    exact ⟨(k - s.1).toNat, by rw [List.mem_range]; omega, by omega⟩
/-- All truths of a comparator that go on from some deviations, n blocks being left. -/
def fromL (p : PairD) (s : Nat) (c : Int × Int) : Nat → List Int → List (List Int)
  | 0, x => if rightL p s c x then [x] else []
  | n + 1, x => if rightL p s c x then (spanL (p.bs.getD x.length (0, 0))).flatMap fun k => fromL p s c n (x ++ [k]) else []
def truthsL (p : PairD) (s : Nat) : List (List Int × (Int × Int)) := (comps p.zl p.zh p.rl p.rh).flatMap fun c => (fromL p s c p.bs.length []).map fun x => (x, c)
theorem rightL_iff (p : PairD) (s : Nat) (c : Int × Int) (x : List Int) : rightL p s c x = true ↔ ∀ i (h : i < p.rs.length), s.testBit i = true → p.rs[i].a < x.length → p.rs[i].b < x.length →
    p.rs[i].lo ≤ atL x p.rs[i].a - atL x p.rs[i].b + showsC c.1 c.2 p.rs[i].m ∧ atL x p.rs[i].a - atL x p.rs[i].b + showsC c.1 c.2 p.rs[i].m ≤ p.rs[i].hi := by
  unfold rightL rightK
  rw [List.all_eq_true]
  constructor
  · intro h i hi hs ha hb
    have := h i (List.mem_range.2 hi)
    unfold rightN rightR at this
    rw [List.getElem?_eq_getElem hi, hs] at this
    simp only [Bool.not_true, Bool.false_or, Bool.or_eq_true, Bool.and_eq_true, decide_eq_true_eq] at this
    omega
  · intro h i hi
    rw [List.mem_range] at hi
    unfold rightN rightR
    rw [List.getElem?_eq_getElem hi]
    cases hs : s.testBit i with
    | false => rfl
    | true =>
      simp only [Bool.not_true, Bool.false_or, Bool.or_eq_true, Bool.and_eq_true, decide_eq_true_eq]
      by_cases ha : p.rs[i].a < x.length
      · by_cases hb : p.rs[i].b < x.length
        · exact .inr (h i hi hs ha hb)
        · exact .inl (.inr (by omega))
      · exact .inl (.inl (by omega))
theorem rightL_take (p : PairD) (hp : OkP p) (s : Nat) (c : Int × Int) (y : List Int) (m : Nat) (h : rightL p s c y = true) : rightL p s c (y.take m) = true := by
  rw [rightL_iff] at h ⊢
  intro i hi hs ha hb
  have hr := hp.rs _ (List.getElem_mem hi)
  have hl : (y.take m).length ≤ y.length := by simp; omega
  have := h i hi hs (by omega) (by omega)
  have e : ∀ k : Int, 0 ≤ k → k < (y.take m).length → atL (y.take m) k = atL y k := by
    intro k h0 hk
    unfold atL
    rw [List.getD_eq_getElem?_getD, List.getD_eq_getElem?_getD, List.getElem?_take]
    have : k.toNat < m := by simp at hk; omega
    rw [if_pos this]
  rw [e _ hr.1 ha, e _ hr.2.2.1 hb]
  exact this
theorem mem_fromL (p : PairD) (hp : OkP p) (s : Nat) (c : Int × Int) (y : List Int) : ∀ (n : Nat) (x : List Int), x.length + n = p.bs.length →
    (y ∈ fromL p s c n x ↔ y.length = p.bs.length ∧ y.take x.length = x ∧ (∀ i, x.length ≤ i → (h : i < p.bs.length) → p.bs[i].1 ≤ y.getD i 0 ∧ y.getD i 0 ≤ p.bs[i].2) ∧ rightL p s c y = true) := by
  intro n
  induction n with
  | zero =>
    intro x hx
    unfold fromL
    constructor
    · intro h
      split at h
      · rename_i hr
        rw [List.mem_singleton] at h
        subst h
        exact ⟨by omega, by simp, fun i h1 h2 => by omega, hr⟩
      · cases h
    · rintro ⟨h1, h2, h3, h4⟩
      have : y = x := by rw [← h2, List.take_of_length_le (by omega)]
      subst this
      rw [if_pos h4]
      exact List.mem_singleton.2 rfl
  | succ n ih =>
    intro x hx
    have hlt : x.length < p.bs.length := by omega
    have hb : p.bs.getD x.length (0, 0) = p.bs[x.length] := by rw [List.getD_eq_getElem?_getD, List.getElem?_eq_getElem hlt]; rfl
    unfold fromL
    rw [hb]
    constructor
    · intro h
      split at h
      · rename_i hr
        obtain ⟨k, hk, hy⟩ := List.mem_flatMap.1 h
        rw [mem_spanL] at hk
        obtain ⟨h1, h2, h3, h4⟩ := (ih (x ++ [k]) (by simp; omega)).1 hy
        simp only [List.length_append, List.length_singleton] at h2 h3
        have hyk : y[x.length]? = some k := by
          have := congrArg (fun l => l[x.length]?) h2
          simpa [List.getElem?_take] using this
        refine ⟨h1, ?_, fun i hi1 hi2 => ?_, h4⟩
        · have := congrArg (List.take x.length) h2
          rw [List.take_take, Nat.min_eq_left (by omega)] at this
          rw [this]; simp
        · by_cases hi : i = x.length
          · subst hi
            rw [List.getD_eq_getElem?_getD, hyk]
            exact hk
          · exact h3 i (by omega) hi2
      · cases h
    · rintro ⟨h1, h2, h3, h4⟩
      have hr : rightL p s c x = true := by rw [← h2]; exact rightL_take p hp s c y _ h4
      rw [if_pos hr, List.mem_flatMap]
      refine ⟨y.getD x.length 0, (mem_spanL _ _).2 (h3 x.length (Nat.le_refl _) hlt), ?_⟩
      refine (ih _ (by simp; omega)).2 ⟨h1, ?_, fun i hi1 hi2 => h3 i (by simp at hi1; omega) hi2, h4⟩
      rw [List.length_append, List.length_singleton, List.take_succ_eq_append_getElem (by omega), h2]
      rw [List.getD_eq_getElem?_getD, List.getElem?_eq_getElem (by omega)]
      rfl
theorem mem_truthsL (p : PairD) (hp : OkP p) (s : Nat) (y : List Int) (c : Int × Int) : (y, c) ∈ truthsL p s ↔ c ∈ comps p.zl p.zh p.rl p.rh ∧ y.length = p.bs.length ∧ TruthP p s c (fun i => y.getD i 0) := by
  have n5 := hp.n5
  have key : y ∈ fromL p s c p.bs.length [] ↔ y.length = p.bs.length ∧ TruthP p s c (fun i => y.getD i 0) := by
    rw [mem_fromL p hp s c y p.bs.length [] (by simp)]
    constructor
    · rintro ⟨h1, _, h3, h4⟩
      refine ⟨h1, ⟨?_, fun i hi => h3 i (by simp) hi, fun i hi hs => ?_⟩⟩
      · rw [List.getD_eq_getElem?_getD, List.getElem?_eq_none (by omega)]; rfl
      · have hr := hp.rs _ (List.getElem_mem hi)
        exact (rightL_iff p s c y).1 h4 i hi hs (by omega) (by omega)
    · rintro ⟨h1, h⟩
      exact ⟨h1, by simp, fun i _ hi => h.bs i hi, (rightL_iff p s c y).2 fun i hi hs _ _ => h.rs i hi hs⟩
  unfold truthsL
  rw [List.mem_flatMap]
  constructor
  · rintro ⟨c', hc, hy⟩
    obtain ⟨x, hx, he⟩ := List.mem_map.1 hy
    cases he
    exact ⟨hc, key.1 hx⟩
  · rintro ⟨hc, h⟩
    exact ⟨c, hc, List.mem_map.2 ⟨y, key.2 h, rfl⟩⟩
theorem truthP_congr {p : PairD} (hp : OkP p) {s : Nat} {c : Int × Int} {x y : Nat → Int} (h : TruthP p s c x) (h5 : y 5 = 0) (he : ∀ i, i < p.bs.length → y i = x i) : TruthP p s c y := by
  refine ⟨h5, fun i hi => by rw [he i hi]; exact h.bs i hi, fun i hi hs => ?_⟩
  have hr := hp.rs _ (List.getElem_mem hi)
  rw [he _ (by omega), he _ (by omega)]
  exact h.rs i hi hs
/-- The numbers of a truth, as a list. -/
def listOf (n : Nat) (x : Nat → Int) : List Int := (List.range n).map x
theorem listOf_at (n : Nat) (x : Nat → Int) (i : Nat) (h : i < n) : (listOf n x).getD i 0 = x i := by
  simp [listOf, List.getD_eq_getElem?_getD, h]
theorem truth_mem (p : PairD) (hp : OkP p) (s : Nat) (c : Int × Int) (x : Nat → Int) (hc : c ∈ comps p.zl p.zh p.rl p.rh) (h : TruthP p s c x) : (listOf p.bs.length x, c) ∈ truthsL p s := by
  have n5 := hp.n5
  refine (mem_truthsL p hp s _ c).2 ⟨hc, by simp [listOf], truthP_congr hp h ?_ fun i hi => listOf_at _ _ _ hi⟩
  rw [List.getD_eq_getElem?_getD, List.getElem?_eq_none (by simp [listOf]; omega)]; rfl
theorem truthsL_ne (p : PairD) (hp : OkP p) (s : Nat) : truthsL p s ≠ [] ↔ CanP p s := by
  constructor
  · intro h
    obtain ⟨⟨y, c⟩, l, he⟩ := List.exists_cons_of_ne_nil h
    obtain ⟨hc, _, hx⟩ := (mem_truthsL p hp s y c).1 (by rw [he]; exact List.mem_cons_self ..)
    exact ⟨c, hc, _, hx⟩
  · rintro ⟨c, hc, x, hx⟩ h
    have := truth_mem p hp s c x hc hx
    rw [h] at this
    cases this
/-- What truths have is what those of the list have. -/
theorem truthVal_iff (p : PairD) (hp : OkP p) (s : Nat) (g : Int × Int → (Nat → Int) → Int) (hg : ∀ c x y, (∀ i, i < p.bs.length ∨ i = 5 → x i = y i) → g c x = g c y) (v : Int × Int) :
    TruthVal p s g v ↔ v ∈ (truthsL p s).map fun t => (g t.2 (fun i => t.1.getD i 0), g t.2 (fun i => t.1.getD i 0)) := by
  have n5 := hp.n5
  rw [List.mem_map]
  constructor
  · rintro ⟨c, hc, x, hx, rfl⟩
    refine ⟨_, truth_mem p hp s c x hc hx, ?_⟩
    have : g c (fun i => (listOf p.bs.length x).getD i 0) = g c x := by
      refine hg c _ _ fun i hi => ?_
      rcases hi with hi | rfl
      · exact listOf_at _ _ _ hi
      · rw [List.getD_eq_getElem?_getD, List.getElem?_eq_none (by simp [listOf]; omega)]; exact hx.mark.symm
    dsimp only
    rw [this]
  · rintro ⟨⟨y, c⟩, hy, rfl⟩
    obtain ⟨hc, _, hx⟩ := (mem_truthsL p hp s y c).1 hy
    exact ⟨c, hc, _, hx, rfl⟩

end Go.Proofs.Ytlgeggekmdoceaa
