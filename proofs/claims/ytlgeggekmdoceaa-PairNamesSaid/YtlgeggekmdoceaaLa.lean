/- What follows from bounds: the closure is right, and tight (plain). -/
import Derived.Test.YtlgeggekmdoceaaN
namespace Go.Proofs.Ytlgeggekmdoceaa
set_option linter.unusedVariables false
set_option linter.unusedSimpArgs false

/-! ### what follows from bounds -/
theorem stepN_le (k : Nat) (c : Tab) (i j : Nat) : stepN k c i j ≤ c i j := by
  unfold stepN upd
  split
  · rename_i h; rw [h.1, h.2]; omega
  · omega
theorem fwN_mono (t : Tab) (k : Nat) : ∀ m i j, fwN t (k + m) i j ≤ fwN t k i j := by
  intro m
  induction m with
  | zero => intro i j; exact Int.le_refl _
  | succ m ih => intro i j; exact Int.le_trans (stepN_le _ _ i j) (ih i j)
/-- Numbers that a table allows. -/
def Sat (t : Tab) (x : Nat → Int) : Prop := ∀ i j, i < 6 → j < 6 → x i - x j ≤ t i j
theorem fw_sound (t : Tab) (x : Nat → Int) (h : Sat t x) : ∀ k, k ≤ 216 → Sat (fwN t k) x := by
  intro k
  induction k with
  | zero => intro _; exact h
  | succ k ih =>
    intro hk i j hi hj
    have ih := ih (by omega)
    show x i - x j ≤ stepN k (fwN t k) i j
    unfold stepN upd
    split
    · rename_i e
      have h1 := ih (k / 6 % 6) (k % 6) (by omega) (by omega)
      have h2 := ih (k / 6 % 6) (k / 36) (by omega) (by omega)
      have h3 := ih (k / 36) (k % 6) (by omega) (by omega)
      rw [e.1, e.2]; omega
    · exact ih i j hi hj
/-- One round of the closure, all at once. -/
theorem fw_stage (t : Tab) (K : Nat) (hK : K < 6) (hd : 0 ≤ fwN t (36 * K) K K) : ∀ m, m ≤ 36 → ∀ i j, i < 6 → j < 6 →
    fwN t (36 * K + m) i j = if i * 6 + j < m then min (fwN t (36 * K) i j) (fwN t (36 * K) i K + fwN t (36 * K) K j) else fwN t (36 * K) i j := by
  intro m
  induction m with
  | zero => intro _ i j _ _; simp
  | succ m ih =>
    intro hm i j hi hj
    have ih := ih (by omega)
    show stepN (36 * K + m) (fwN t (36 * K + m)) i j = _
    unfold stepN upd
    have e1 : (36 * K + m) / 6 % 6 = m / 6 := by omega
    have e2 : (36 * K + m) % 6 = m % 6 := by omega
    have e3 : (36 * K + m) / 36 = K := by omega
    rw [e1, e2, e3]
    by_cases h : i = m / 6 ∧ j = m % 6
    · rw [if_pos h, if_pos (by omega), ih _ _ (by omega) (by omega), ih (m / 6) K (by omega) hK, ih K (m % 6) hK (by omega), if_neg (by omega), h.1, h.2]
      congr 1
      generalize fwN t (36 * K) = D at *
      congr 1
      · split <;> omega
      · split <;> omega
    · rw [if_neg h, ih i j hi hj]
      by_cases h2 : i * 6 + j < m
      · rw [if_pos h2, if_pos (by omega)]
      · rw [if_neg h2, if_neg (by omega)]
theorem fw_round (t : Tab) (K : Nat) (hK : K < 6) (hd : 0 ≤ fwN t (36 * K) K K) (i j : Nat) (hi : i < 6) (hj : j < 6) :
    fwN t (36 * (K + 1)) i j = min (fwN t (36 * K) i j) (fwN t (36 * K) i K + fwN t (36 * K) K j) := by
  have := fw_stage t K hK hd 36 (Nat.le_refl _) i j hi hj
  rw [if_pos (by omega)] at this
  rw [show 36 * (K + 1) = 36 * K + 36 by omega, this]
theorem fw_tri (t : Tab) (hd : ∀ i, i < 6 → 0 ≤ fwN t 216 i i) : ∀ K, K ≤ 6 → ∀ i j k, i < 6 → j < 6 → k < K → fwN t (36 * K) i j ≤ fwN t (36 * K) i k + fwN t (36 * K) k j := by
  intro K
  induction K with
  | zero => intro _ i j k _ _ h; omega
  | succ K ih =>
    intro hK i j k hi hj hk
    have ih := ih (by omega)
    have hdK : ∀ i, i < 6 → 0 ≤ fwN t (36 * K) i i := fun i hi => by
      have h1 := fwN_mono t (36 * K) (216 - 36 * K) i i
      rw [show 36 * K + (216 - 36 * K) = 216 by omega] at h1
      have := hd i hi
      omega
    have hr := fun i j hi hj => fw_round t K (by omega) (hdK K (by omega)) i j hi hj
    rw [hr i j hi hj, hr i k hi (by omega), hr k j (by omega) hj]
    generalize fwN t (36 * K) = D at *
    by_cases hkK : k = K
    · subst hkK
      have := hdK k (by omega)
      omega
    · have a1 := ih i j k hi hj (by omega)
      have a2 := ih i K k hi (by omega) (by omega)
      have a3 := ih K j k (by omega) hj (by omega)
      have a4 := ih K K k (by omega) (by omega) (by omega)
      have := hdK K (by omega)
      omega
theorem fw_tight (t : Tab) (h0 : ∀ i, i < 6 → t i i ≤ 0) (hd : diagOk (fwN t 216) = true) (a b : Nat) (_ha : a < 6) (hb : b < 6) : ∃ x : Nat → Int, Sat t x ∧ x 5 = 0 ∧ x a - x b = fwN t 216 a b := by
  rw [diagOk_iff] at hd
  have htri := fun i j k hi hj hk => fw_tri t hd 6 (by omega) i j k hi hj hk
  have hle := fun i j => fwN_mono t 0 216 i j
  rw [Nat.zero_add] at hle
  have hbb : fwN t 216 b b = 0 := by
    have h1 := hle b b
    have h2 := hd b hb
    have h3 := h0 b hb
    have : fwN t 0 = t := rfl
    rw [this] at h1
    omega
  refine ⟨fun v => fwN t 216 v b - fwN t 216 5 b, fun i j hi hj => ?_, by simp, ?_⟩
  · have h1 := htri i b j hi hb (by omega)
    have h2 : fwN t 216 i j ≤ t i j := hle i j
    dsimp only
    simp only [show 36 * 6 = 216 from rfl] at h1
    omega
  · dsimp only
    rw [hbb]
    omega
theorem sat_least (t : Tab) (x : Nat → Int) (i j : Nat) (m : Int) (hi : i < 6) (hj : j < 6) : Sat (leastT t i j m) x ↔ Sat t x ∧ x i - x j ≤ m := by
  unfold Sat leastT upd
  constructor
  · intro h
    have hij := h i j hi hj
    rw [if_pos ⟨rfl, rfl⟩] at hij
    refine ⟨fun a b ha hb => ?_, by omega⟩
    have hab := h a b ha hb
    by_cases e : a = i ∧ b = j
    · obtain ⟨rfl, rfl⟩ := e; omega
    · rwa [if_neg e] at hab
  · rintro ⟨h, hm⟩ a b ha hb
    by_cases e : a = i ∧ b = j
    · rw [if_pos e]
      obtain ⟨rfl, rfl⟩ := e
      have := h a b ha hb
      omega
    · rw [if_neg e]; exact h a b ha hb
theorem sat_put (t : Tab) (x : Nat → Int) (i j : Nat) (lo hi : Int) (h1 : i < 6) (h2 : j < 6) : Sat (putT t i j lo hi) x ↔ Sat t x ∧ lo ≤ x i - x j ∧ x i - x j ≤ hi := by
  unfold putT
  rw [sat_least _ _ _ _ _ h2 h1, sat_least _ _ _ _ _ h1 h2]
  constructor
  · rintro ⟨⟨a, b⟩, c⟩; exact ⟨a, by omega, b⟩
  · rintro ⟨a, b, c⟩; exact ⟨⟨a, c⟩, by omega⟩
/-- Numbers that a bound allows, by a comparator. -/
def HoldB (c : Int × Int) (x : Nat → Int) (b : Bnd) : Prop :=
  if b.kn then b.lo ≤ x b.a - x b.b ∧ x b.a - x b.b ≤ b.hi else b.lo ≤ x b.a - x b.b + showsC c.1 c.2 b.m ∧ x b.a - x b.b + showsC c.1 c.2 b.m ≤ b.hi
theorem sat_raw (c : Int × Int) (x : Nat → Int) : ∀ (l : List Bnd) (t : Tab), (∀ b ∈ l, b.a < 6 ∧ b.b < 6) → (Sat (l.foldl (putB c) t) x ↔ Sat t x ∧ ∀ b ∈ l, HoldB c x b)
  | [], t, _ => by simp
  | b :: l, t, h => by
    obtain ⟨h1, h2⟩ := h b (List.mem_cons_self ..)
    rw [List.foldl_cons, sat_raw c x l _ (fun y hy => h y (List.mem_cons_of_mem _ hy))]
    have : Sat (putB c t b) x ↔ Sat t x ∧ HoldB c x b := by
      unfold putB HoldB
      split
      · rw [sat_put _ _ _ _ _ _ h1 h2]
      · rw [sat_put _ _ _ _ _ _ h1 h2]
        constructor
        · rintro ⟨a, b, c⟩; exact ⟨a, by omega, by omega⟩
        · rintro ⟨a, b, c⟩; exact ⟨a, by omega, by omega⟩
    rw [this]
    simp only [List.mem_cons, forall_eq_or_imp, and_assoc]
theorem sat_T0 (x : Nat → Int) : Sat T0 x ↔ ∀ i j, i < 6 → j < 6 → x i - x j ≤ 1048576 := by
  unfold Sat T0
  constructor
  · intro h i j hi hj
    have := h i j hi hj
    split at this <;> omega
  · intro h i j hi hj
    split
    · rename_i e; subst e; omega
    · exact h i j hi hj
theorem raw_diag (c : Int × Int) (i : Nat) : ∀ (l : List Bnd) (t : Tab), t i i ≤ 0 → l.foldl (putB c) t i i ≤ 0
  | [], t, h => h
  | b :: l, t, h => by
    rw [List.foldl_cons]
    refine raw_diag c i l _ ?_
    have hl : ∀ (t : Tab) a b m, leastT t a b m i i ≤ t i i := fun t a b m => by
      unfold leastT upd
      split
      · rename_i e; rw [← e.1, ← e.2]; omega
      · omega
    unfold putB putT
    split
    · exact Int.le_trans (hl _ _ _ _) (Int.le_trans (hl _ _ _ _) h)
    · exact Int.le_trans (hl _ _ _ _) (Int.le_trans (hl _ _ _ _) h)
theorem tab_can (l : List Bnd) (c : Int × Int) (h : diagOk (tabOf l c) = false) (x : Nat → Int) : ¬ Sat (rawT l c) x := by
  intro hs
  have h1 := fw_sound _ _ hs 216 (Nat.le_refl _)
  have : diagOk (tabOf l c) = true := (diagOk_iff _).2 fun i hi => by
    have := h1 i i hi hi
    show 0 ≤ fwN (rawT l c) 216 i i
    omega
  rw [this] at h
  cases h

/-! ### truths -/
/-- A truth of a pair, by the readings of a set, for a comparator: the deviations (that of the mark, 5, is 0). -/
structure TruthP (p : PairD) (s : Nat) (c : Int × Int) (x : Nat → Int) : Prop where
  mark : x 5 = 0
  bs : ∀ i (h : i < p.bs.length), p.bs[i].1 ≤ x i ∧ x i ≤ p.bs[i].2
  rs : ∀ i (h : i < p.rs.length), s.testBit i = true → p.rs[i].lo ≤ x p.rs[i].a.toNat - x p.rs[i].b.toNat + showsC c.1 c.2 p.rs[i].m ∧ x p.rs[i].a.toNat - x p.rs[i].b.toNat + showsC c.1 c.2 p.rs[i].m ≤ p.rs[i].hi
theorem bounds_hold (p : PairD) (s : Nat) (c : Int × Int) (x : Nat → Int) (hx : x 5 = 0) : (∀ b ∈ boundsL p s, HoldB c x b) ↔ TruthP p s c x := by
  constructor
  · intro h
    refine ⟨hx, fun i hi => ?_, fun i hi hs => ?_⟩
    · have := h (blockB i p.bs[i]) (List.mem_append_left _ (by
        unfold blocksL
        rw [List.take_length, List.mem_mapIdx]
        exact ⟨i, hi, rfl⟩))
      simp only [HoldB, blockB, if_true, hx] at this
      omega
    · have := h (readB p.rs[i]) (List.mem_append_right _ (by
        unfold readsL
        rw [List.mem_filterMap]
        exact ⟨i, by simpa using hi, by rw [if_pos hs, List.getElem?_eq_getElem hi]; rfl⟩))
      simpa [HoldB, readB] using this
  · rintro ⟨_, h1, h2⟩ b hb
    unfold boundsL at hb
    rcases List.mem_append.1 hb with hb | hb
    · unfold blocksL at hb
      rw [List.take_length, List.mem_mapIdx] at hb
      obtain ⟨i, hi, rfl⟩ := hb
      have := h1 i hi
      simp only [HoldB, blockB, if_true, hx]
      omega
    · unfold readsL at hb
      rw [List.mem_filterMap] at hb
      obtain ⟨i, hi, hb⟩ := hb
      split at hb
      · rename_i hs
        have hi' : i < p.rs.length := by simpa using hi
        rw [List.getElem?_eq_getElem hi'] at hb
        simp only [Option.map_some, Option.some.injEq] at hb
        subst hb
        have := h2 i hi' hs
        simpa [HoldB, readB] using this
      · cases hb
theorem bounds_lt (p : PairD) (hp : OkP p) (s : Nat) : ∀ b ∈ boundsL p s, b.a < 6 ∧ b.b < 6 := by
  have := okB_bounds p hp s
  exact fun b hb => ⟨(this b hb).1, (this b hb).2.1⟩
/-- The truth, with 0 where there is no block. -/
def cut (n : Nat) (x : Nat → Int) : Nat → Int := fun i => if i < n then x i else 0
theorem cut_truth {p : PairD} {s : Nat} {c : Int × Int} {x : Nat → Int} (hp : OkP p) (h : TruthP p s c x) : TruthP p s c (cut p.bs.length x) := by
  have n5 := hp.n5
  refine ⟨by unfold cut; rw [if_neg (by omega)], fun i hi => ?_, fun i hi hs => ?_⟩
  · unfold cut; rw [if_pos hi]; exact h.bs i hi
  · have hr := hp.rs _ (List.getElem_mem hi)
    unfold cut
    rw [if_pos (by omega), if_pos (by omega)]
    exact h.rs i hi hs
theorem cut_sat {p : PairD} {s : Nat} {c : Int × Int} {x : Nat → Int} (hp : OkP p) (h : TruthP p s c x) (l : List Bnd) (hl : ∀ b ∈ l, b.a < 6 ∧ b.b < 6) (hb : ∀ b ∈ l, HoldB c (cut p.bs.length x) b) : Sat (rawT l c) (cut p.bs.length x) := by
  have n5 := hp.n5
  refine (sat_raw c _ _ _ hl).2 ⟨(sat_T0 _).2 fun i j hi hj => ?_, hb⟩
  have hx : ∀ i, -20 ≤ cut p.bs.length x i ∧ cut p.bs.length x i ≤ 20 := fun i => by
    unfold cut
    split
    · rename_i hi
      have := h.bs i hi
      have := hp.bs _ (List.getElem_mem hi)
      omega
    · omega
  have := hx i
  have := hx j
  omega
theorem sat_truth (p : PairD) (hp : OkP p) (s : Nat) (c : Int × Int) (x : Nat → Int) (hx : x 5 = 0) (h : Sat (rawT (boundsL p s) c) x) : TruthP p s c x :=
  (bounds_hold p s c x hx).1 ((sat_raw c x _ _ (bounds_lt p hp s)).1 h).2
theorem truth_sat (p : PairD) (hp : OkP p) (s : Nat) (c : Int × Int) (x : Nat → Int) (h : TruthP p s c x) : Sat (rawT (boundsL p s) c) (cut p.bs.length x) :=
  cut_sat hp h _ (bounds_lt p hp s) ((bounds_hold p s c _ (cut_truth hp h).mark).2 (cut_truth hp h))
theorem diag_iff (p : PairD) (hp : OkP p) (s : Nat) (c : Int × Int) : diagOk (tabOf (boundsL p s) c) = true ↔ ∃ x, TruthP p s c x := by
  constructor
  · intro h
    obtain ⟨x, hs, hx, _⟩ := fw_tight _ (fun i hi => raw_diag c i _ _ (by simp [T0])) h 0 0 (by omega) (by omega)
    exact ⟨x, sat_truth p hp s c x hx hs⟩
  · rintro ⟨x, h⟩
    cases hd : diagOk (tabOf (boundsL p s) c) with
    | true => rfl
    | false => exact absurd (truth_sat p hp s c x h) (tab_can _ _ hd _)
theorem outs_in {l : List Bnd} {cs : List (Int × Int)} {e : (Int × Int) × Tab} (h : e ∈ outs l cs) : e.1 ∈ cs ∧ diagOk (tabOf l e.1) = true ∧ e.2 = tabOf l e.1 := by
  unfold outs at h
  obtain ⟨c, hc, he⟩ := List.mem_filterMap.1 h
  split at he
  · rename_i hd
    cases he
    exact ⟨hc, hd, rfl⟩
  · cases he
theorem mem_outs {l : List Bnd} {cs : List (Int × Int)} {c : Int × Int} (hc : c ∈ cs) (hd : diagOk (tabOf l c) = true) : (c, tabOf l c) ∈ outs l cs := by
  unfold outs
  exact List.mem_filterMap.2 ⟨c, hc, by rw [if_pos hd]⟩
/-- Is there a truth, by the readings of a set? -/
def CanP (p : PairD) (s : Nat) : Prop := ∃ c ∈ comps p.zl p.zh p.rl p.rh, ∃ x, TruthP p s c x
theorem pairOuts_ne (p : PairD) (hp : OkP p) (s : Nat) : pairOuts p s ≠ [] ↔ CanP p s := by
  constructor
  · intro h
    obtain ⟨e, l, he⟩ := List.exists_cons_of_ne_nil h
    have hm : e ∈ pairOuts p s := by rw [he]; exact List.mem_cons_self ..
    obtain ⟨h1, h2, _⟩ := outs_in hm
    exact ⟨e.1, h1, (diag_iff p hp s e.1).1 h2⟩
  · rintro ⟨c, hc, x, hx⟩ h
    have := mem_outs hc ((diag_iff p hp s c).2 ⟨x, hx⟩)
    unfold pairOuts at h
    rw [h] at this
    cases this
/-- What numbers of truths have, taken as spans of one number. -/
def TruthVal (p : PairD) (s : Nat) (g : Int × Int → (Nat → Int) → Int) (v : Int × Int) : Prop := ∃ c ∈ comps p.zl p.zh p.rl p.rh, ∃ x, TruthP p s c x ∧ v = (g c x, g c x)
theorem hull_dif (p : PairD) (hp : OkP p) (s : Nat) (a b : Nat) (ha : a < p.bs.length ∨ a = 5) (hb : b < p.bs.length ∨ b = 5) (S : Int × Int) (h : IsHull (fun v => v ∈ (pairOuts p s).map (difOf a b)) S) : IsHull (TruthVal p s fun _ x => x a - x b) S := by
  have n5 := hp.n5
  have h0 : ∀ c i, i < 6 → rawT (boundsL p s) c i i ≤ 0 := fun c i _ => raw_diag c i (boundsL p s) T0 (by simp [T0])
  obtain ⟨⟨v1, hv1, e1⟩, ⟨v2, hv2, e2⟩, hall⟩ := h
  obtain ⟨y1, hy1, rfl⟩ := List.mem_map.1 hv1
  obtain ⟨y2, hy2, rfl⟩ := List.mem_map.1 hv2
  obtain ⟨m1, d1, t1⟩ := outs_in hy1
  obtain ⟨m2, d2, t2⟩ := outs_in hy2
  refine ⟨?_, ?_, ?_⟩
  · obtain ⟨x, hs, hx, hv⟩ := fw_tight _ (h0 y1.1) d1 b a (by omega) (by omega)
    refine ⟨_, ⟨y1.1, m1, x, sat_truth p hp s _ x hx hs, rfl⟩, ?_⟩
    rw [← e1]
    simp only [difOf, t1, tabOf]
    omega
  · obtain ⟨x, hs, hx, hv⟩ := fw_tight _ (h0 y2.1) d2 a b (by omega) (by omega)
    refine ⟨_, ⟨y2.1, m2, x, sat_truth p hp s _ x hx hs, rfl⟩, ?_⟩
    rw [← e2]
    simp only [difOf, t2, tabOf]
    omega
  · rintro _ ⟨c, hc, x, hx, rfl⟩
    have hd := (diag_iff p hp s c).2 ⟨x, hx⟩
    have hm := hall _ (List.mem_map_of_mem (f := difOf a b) (mem_outs hc hd))
    have hs := fw_sound _ _ (truth_sat p hp s c x hx) 216 (Nat.le_refl _)
    have k1 := hs a b (by omega) (by omega)
    have k2 := hs b a (by omega) (by omega)
    have c5 : ∀ i, i < p.bs.length ∨ i = 5 → cut p.bs.length x i = x i := fun i hi => by
      unfold cut
      split
      · rfl
      · rcases hi with hi | rfl
        · omega
        · exact hx.mark.symm
    rw [c5 a ha, c5 b hb] at k1 k2
    simp only [difOf, tabOf] at hm
    dsimp only
    omega
theorem hull_any_of {p : PairD} {s : Nat} {g : Int × Int → (Nat → Int) → Int} {f : (Int × Int) × Tab → Int × Int} (hp : OkP p) (hf : ∀ c x, f (c, tabOf (boundsL p s) c) = (g c x, g c x)) {S : Int × Int} (h : IsHull (fun v => v ∈ (pairOuts p s).map f) S) : IsHull (TruthVal p s g) S := by
  have key : ∀ v, v ∈ (pairOuts p s).map f ↔ TruthVal p s g v := by
    intro v
    constructor
    · intro hv
      obtain ⟨⟨c, t⟩, hy, rfl⟩ := List.mem_map.1 hv
      obtain ⟨m1, d1, t1⟩ := outs_in hy
      simp only at m1 d1 t1
      obtain ⟨x, hx⟩ := (diag_iff p hp s c).1 d1
      subst t1
      exact ⟨c, m1, x, hx, hf c x⟩
    · rintro ⟨c, hc, x, hx, rfl⟩
      rw [← hf c x]
      exact List.mem_map_of_mem (f := f) (mem_outs hc ((diag_iff p hp s c).2 ⟨x, hx⟩))
  obtain ⟨⟨a, ha, e1⟩, ⟨b, hb, e2⟩, h3⟩ := h
  exact ⟨⟨a, (key a).1 ha, e1⟩, ⟨b, (key b).1 hb, e2⟩, fun c hc => h3 c ((key c).2 hc)⟩

/-! ### who can be longest -/
def longB (i k : Nat) : Bnd := ⟨true, i, k, 0, 1048576, 0⟩
def longL (i n : Nat) : List Bnd := (List.range n).map (longB i)
theorem longL_next (i n : Nat) : longL i (n + 1) = longL i n ++ [longB i n] := by simp [longL, List.range_succ]
theorem longL_hold (c : Int × Int) (x : Nat → Int) (i n : Nat) : (∀ b ∈ longL i n, HoldB c x b) ↔ ∀ k, k < n → x k ≤ x i ∧ x i - x k ≤ 1048576 := by
  unfold longL
  simp only [List.mem_map, List.mem_range, forall_exists_index, and_imp, forall_apply_eq_imp_iff₂, HoldB, longB, if_true]
  constructor
  · intro h k hk
    have := h k hk
    omega
  · intro h k hk
    have := h k hk
    omega
theorem long_can (p : PairD) (hp : OkP p) (s i : Nat) (hi : i < p.bs.length) : outs (boundsL p s ++ longL i p.bs.length) (comps p.zl p.zh p.rl p.rh) ≠ [] ↔ ∃ c ∈ comps p.zl p.zh p.rl p.rh, ∃ x, TruthP p s c x ∧ ∀ k, k < p.bs.length → x k ≤ x i := by
  have n5 := hp.n5
  have hlt : ∀ b ∈ boundsL p s ++ longL i p.bs.length, b.a < 6 ∧ b.b < 6 := by
    intro b hb
    rcases List.mem_append.1 hb with hb | hb
    · exact bounds_lt p hp s b hb
    · obtain ⟨k, hk, rfl⟩ := List.mem_map.1 hb
      have : k < p.bs.length := by simpa using hk
      exact ⟨by show i < 6; omega, by show k < 6; omega⟩
  constructor
  · intro h
    obtain ⟨e, l, he⟩ := List.exists_cons_of_ne_nil h
    have hm : e ∈ outs (boundsL p s ++ longL i p.bs.length) (comps p.zl p.zh p.rl p.rh) := by rw [he]; exact List.mem_cons_self ..
    obtain ⟨h1, h2, _⟩ := outs_in hm
    obtain ⟨x, hs, hx, _⟩ := fw_tight _ (fun i hi => raw_diag e.1 i _ _ (by simp [T0])) h2 0 0 (by omega) (by omega)
    have hh := ((sat_raw e.1 x _ _ hlt).1 hs).2
    refine ⟨e.1, h1, x, (bounds_hold p s e.1 x hx).1 (fun b hb => hh b (List.mem_append_left _ hb)), fun k hk => ?_⟩
    exact ((longL_hold e.1 x i _).1 (fun b hb => hh b (List.mem_append_right _ hb)) k hk).1
  · rintro ⟨c, hc, x, hx, hk⟩ h
    have hxt := cut_truth hp hx
    have hsat : Sat (rawT (boundsL p s ++ longL i p.bs.length) c) (cut p.bs.length x) := by
      refine cut_sat hp hx _ hlt fun b hb => ?_
      rcases List.mem_append.1 hb with hb | hb
      · exact (bounds_hold p s c _ hxt.mark).2 hxt b hb
      · refine (longL_hold c _ i _).2 (fun k hkl => ?_) b hb
        have h1 := hxt.bs k hkl
        have h2 := hxt.bs i hi
        have h3 := hp.bs _ (List.getElem_mem hi)
        have h4 := hp.bs _ (List.getElem_mem hkl)
        have h5 := hk k hkl
        have e1 : cut p.bs.length x k = x k := by unfold cut; rw [if_pos hkl]
        have e2 : cut p.bs.length x i = x i := by unfold cut; rw [if_pos hi]
        rw [e1] at h1 ⊢
        rw [e2] at h2 ⊢
        omega
    have hd : diagOk (tabOf (boundsL p s ++ longL i p.bs.length) c) = true := by
      cases hd : diagOk (tabOf (boundsL p s ++ longL i p.bs.length) c) with
      | true => rfl
      | false => exact absurd hsat (tab_can _ _ hd _)
    have := mem_outs hc hd
    rw [h] at this
    cases this
/-- With more bounds there is no more. -/
theorem outs_more (l m : List Bnd) (hl : ∀ b ∈ l ++ m, b.a < 6 ∧ b.b < 6) (cs : List (Int × Int)) (h : outs (l ++ m) cs ≠ []) : outs l cs ≠ [] := by
  obtain ⟨e, r, he⟩ := List.exists_cons_of_ne_nil h
  have hm : e ∈ outs (l ++ m) cs := by rw [he]; exact List.mem_cons_self ..
  obtain ⟨h1, h2, _⟩ := outs_in hm
  obtain ⟨x, hs, hx, _⟩ := fw_tight _ (fun i hi => raw_diag e.1 i _ _ (by simp [T0])) h2 0 0 (by omega) (by omega)
  have hh := (sat_raw e.1 x _ _ hl).1 hs
  have hsat : Sat (rawT l e.1) x := (sat_raw e.1 x _ _ (fun b hb => hl b (List.mem_append_left _ hb))).2 ⟨hh.1, fun b hb => hh.2 b (List.mem_append_left _ hb)⟩
  intro h0
  cases hd : diagOk (tabOf l e.1) with
  | true =>
    have := mem_outs h1 hd
    rw [h0] at this
    cases this
  | false => exact tab_can _ _ hd _ hsat

end Go.Proofs.Ytlgeggekmdoceaa
