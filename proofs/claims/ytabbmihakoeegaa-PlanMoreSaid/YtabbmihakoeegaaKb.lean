/- Texts La, Lb, Q, R, T, S in one file; each begins with a word on what it proves. -/
import Derived.Recover
import Derived.OrdersHeld
import Derived.Test.YtabbmihakoeegaaKa

/- What follows from bounds: the closure is right, and tight (plain). -/
namespace Go.Proofs.Ytabbmihakoeegaa
set_option linter.unusedVariables false
set_option linter.unusedSimpArgs false

/-! ### what follows from bounds -/
theorem stepN_le (k : Nat) (c : Tab) (i j : Nat) : stepN k c i j ≤ c i j := by
  unfold stepN upd
  split
  · rename_i h; rw [h.1, h.2]; omega
  · omega
theorem fwN_mono (t : Tab) (k : Nat) : ∀ m i j, fwN t (k + m) i j ≤ fwN t k i j := by
  intro m
  induction m with
  | zero => intro i j; exact Int.le_refl _
  | succ m ih => intro i j; exact Int.le_trans (stepN_le _ _ i j) (ih i j)
/-- Numbers that a table allows. -/
def Sat (t : Tab) (x : Nat → Int) : Prop := ∀ i j, i < 6 → j < 6 → x i - x j ≤ t i j
theorem fw_sound (t : Tab) (x : Nat → Int) (h : Sat t x) : ∀ k, k ≤ 216 → Sat (fwN t k) x := by
  intro k
  induction k with
  | zero => intro _; exact h
  | succ k ih =>
    intro hk i j hi hj
    have ih := ih (by omega)
    show x i - x j ≤ stepN k (fwN t k) i j
    unfold stepN upd
    split
    · rename_i e
      have h1 := ih (k / 6 % 6) (k % 6) (by omega) (by omega)
      have h2 := ih (k / 6 % 6) (k / 36) (by omega) (by omega)
      have h3 := ih (k / 36) (k % 6) (by omega) (by omega)
      rw [e.1, e.2]; omega
    · exact ih i j hi hj
/-- One round of the closure, all at once. -/
theorem fw_stage (t : Tab) (K : Nat) (hK : K < 6) (hd : 0 ≤ fwN t (36 * K) K K) : ∀ m, m ≤ 36 → ∀ i j, i < 6 → j < 6 →
    fwN t (36 * K + m) i j = if i * 6 + j < m then min (fwN t (36 * K) i j) (fwN t (36 * K) i K + fwN t (36 * K) K j) else fwN t (36 * K) i j := by
  intro m
  induction m with
  | zero => intro _ i j _ _; simp
  | succ m ih =>
    intro hm i j hi hj
    have ih := ih (by omega)
    show stepN (36 * K + m) (fwN t (36 * K + m)) i j = _
    unfold stepN upd
    have e1 : (36 * K + m) / 6 % 6 = m / 6 := by omega
    have e2 : (36 * K + m) % 6 = m % 6 := by omega
    have e3 : (36 * K + m) / 36 = K := by omega
    rw [e1, e2, e3]
    by_cases h : i = m / 6 ∧ j = m % 6
    · rw [if_pos h, if_pos (by omega), ih _ _ (by omega) (by omega), ih (m / 6) K (by omega) hK, ih K (m % 6) hK (by omega), if_neg (by omega), h.1, h.2]
      congr 1
      generalize fwN t (36 * K) = D at *
      congr 1
      · split <;> omega
      · split <;> omega
    · rw [if_neg h, ih i j hi hj]
      by_cases h2 : i * 6 + j < m
      · rw [if_pos h2, if_pos (by omega)]
      · rw [if_neg h2, if_neg (by omega)]
theorem fw_round (t : Tab) (K : Nat) (hK : K < 6) (hd : 0 ≤ fwN t (36 * K) K K) (i j : Nat) (hi : i < 6) (hj : j < 6) :
    fwN t (36 * (K + 1)) i j = min (fwN t (36 * K) i j) (fwN t (36 * K) i K + fwN t (36 * K) K j) := by
  have := fw_stage t K hK hd 36 (Nat.le_refl _) i j hi hj
  rw [if_pos (by omega)] at this
  rw [show 36 * (K + 1) = 36 * K + 36 by omega, this]
theorem fw_tri (t : Tab) (hd : ∀ i, i < 6 → 0 ≤ fwN t 216 i i) : ∀ K, K ≤ 6 → ∀ i j k, i < 6 → j < 6 → k < K → fwN t (36 * K) i j ≤ fwN t (36 * K) i k + fwN t (36 * K) k j := by
  intro K
  induction K with
  | zero => intro _ i j k _ _ h; omega
  | succ K ih =>
    intro hK i j k hi hj hk
    have ih := ih (by omega)
    have hdK : ∀ i, i < 6 → 0 ≤ fwN t (36 * K) i i := fun i hi => by
      have h1 := fwN_mono t (36 * K) (216 - 36 * K) i i
      rw [show 36 * K + (216 - 36 * K) = 216 by omega] at h1
      have := hd i hi
      omega
    have hr := fun i j hi hj => fw_round t K (by omega) (hdK K (by omega)) i j hi hj
    rw [hr i j hi hj, hr i k hi (by omega), hr k j (by omega) hj]
    generalize fwN t (36 * K) = D at *
    by_cases hkK : k = K
    · subst hkK
      have := hdK k (by omega)
      omega
    · have a1 := ih i j k hi hj (by omega)
      have a2 := ih i K k hi (by omega) (by omega)
      have a3 := ih K j k (by omega) hj (by omega)
      have a4 := ih K K k (by omega) (by omega) (by omega)
      have := hdK K (by omega)
      omega
theorem fw_tight (t : Tab) (h0 : ∀ i, i < 6 → t i i ≤ 0) (hd : diagOk (fwN t 216) = true) (a b : Nat) (_ha : a < 6) (hb : b < 6) : ∃ x : Nat → Int, Sat t x ∧ x 5 = 0 ∧ x a - x b = fwN t 216 a b := by
  rw [diagOk_iff] at hd
  have htri := fun i j k hi hj hk => fw_tri t hd 6 (by omega) i j k hi hj hk
  have hle := fun i j => fwN_mono t 0 216 i j
  rw [Nat.zero_add] at hle
  have hbb : fwN t 216 b b = 0 := by
    have h1 := hle b b
    have h2 := hd b hb
    have h3 := h0 b hb
    have : fwN t 0 = t := rfl
    rw [this] at h1
    omega
  refine ⟨fun v => fwN t 216 v b - fwN t 216 5 b, fun i j hi hj => ?_, by simp, ?_⟩
  · have h1 := htri i b j hi hb (by omega)
    have h2 : fwN t 216 i j ≤ t i j := hle i j
    dsimp only
    simp only [show 36 * 6 = 216 from rfl] at h1
    omega
  · dsimp only
    rw [hbb]
    omega
theorem sat_least (t : Tab) (x : Nat → Int) (i j : Nat) (m : Int) (hi : i < 6) (hj : j < 6) : Sat (leastT t i j m) x ↔ Sat t x ∧ x i - x j ≤ m := by
  unfold Sat leastT upd
  constructor
  · intro h
    have hij := h i j hi hj
    rw [if_pos ⟨rfl, rfl⟩] at hij
    refine ⟨fun a b ha hb => ?_, by omega⟩
    have hab := h a b ha hb
    by_cases e : a = i ∧ b = j
    · obtain ⟨rfl, rfl⟩ := e; omega
    · rwa [if_neg e] at hab
  · rintro ⟨h, hm⟩ a b ha hb
    by_cases e : a = i ∧ b = j
    · rw [if_pos e]
      obtain ⟨rfl, rfl⟩ := e
      have := h a b ha hb
      omega
    · rw [if_neg e]; exact h a b ha hb
theorem sat_put (t : Tab) (x : Nat → Int) (i j : Nat) (lo hi : Int) (h1 : i < 6) (h2 : j < 6) : Sat (putT t i j lo hi) x ↔ Sat t x ∧ lo ≤ x i - x j ∧ x i - x j ≤ hi := by
  unfold putT
  rw [sat_least _ _ _ _ _ h2 h1, sat_least _ _ _ _ _ h1 h2]
  constructor
  · rintro ⟨⟨a, b⟩, c⟩; exact ⟨a, by omega, b⟩
  · rintro ⟨a, b, c⟩; exact ⟨⟨a, c⟩, by omega⟩
/-- Numbers that a bound allows, by a comparator. -/
def HoldB (c : Int × Int) (x : Nat → Int) (b : Bnd) : Prop :=
  if b.kn then b.lo ≤ x b.a - x b.b ∧ x b.a - x b.b ≤ b.hi else b.lo ≤ x b.a - x b.b + showsC c.1 c.2 b.m ∧ x b.a - x b.b + showsC c.1 c.2 b.m ≤ b.hi
theorem sat_raw (c : Int × Int) (x : Nat → Int) : ∀ (l : List Bnd) (t : Tab), (∀ b ∈ l, b.a < 6 ∧ b.b < 6) → (Sat (l.foldl (putB c) t) x ↔ Sat t x ∧ ∀ b ∈ l, HoldB c x b)
  | [], t, _ => by simp
  | b :: l, t, h => by
    obtain ⟨h1, h2⟩ := h b (List.mem_cons_self ..)
    rw [List.foldl_cons, sat_raw c x l _ (fun y hy => h y (List.mem_cons_of_mem _ hy))]
    have : Sat (putB c t b) x ↔ Sat t x ∧ HoldB c x b := by
      unfold putB HoldB
      split
      · rw [sat_put _ _ _ _ _ _ h1 h2]
      · rw [sat_put _ _ _ _ _ _ h1 h2]
        constructor
        · rintro ⟨a, b, c⟩; exact ⟨a, by omega, by omega⟩
        · rintro ⟨a, b, c⟩; exact ⟨a, by omega, by omega⟩
    rw [this]
    simp only [List.mem_cons, forall_eq_or_imp, and_assoc]
theorem sat_T0 (x : Nat → Int) : Sat T0 x ↔ ∀ i j, i < 6 → j < 6 → x i - x j ≤ 1048576 := by
  unfold Sat T0
  constructor
  · intro h i j hi hj
    have := h i j hi hj
    split at this <;> omega
  · intro h i j hi hj
    split
    · rename_i e; subst e; omega
    · exact h i j hi hj
theorem raw_diag (c : Int × Int) (i : Nat) : ∀ (l : List Bnd) (t : Tab), t i i ≤ 0 → l.foldl (putB c) t i i ≤ 0
  | [], t, h => h
  | b :: l, t, h => by
    rw [List.foldl_cons]
    refine raw_diag c i l _ ?_
    have hl : ∀ (t : Tab) a b m, leastT t a b m i i ≤ t i i := fun t a b m => by
      unfold leastT upd
      split
      · rename_i e; rw [← e.1, ← e.2]; omega
      · omega
    unfold putB putT
    split
    · exact Int.le_trans (hl _ _ _ _) (Int.le_trans (hl _ _ _ _) h)
    · exact Int.le_trans (hl _ _ _ _) (Int.le_trans (hl _ _ _ _) h)
theorem tab_can (l : List Bnd) (c : Int × Int) (h : diagOk (tabOf l c) = false) (x : Nat → Int) : ¬ Sat (rawT l c) x := by
  intro hs
  have h1 := fw_sound _ _ hs 216 (Nat.le_refl _)
  have : diagOk (tabOf l c) = true := (diagOk_iff _).2 fun i hi => by
    have := h1 i i hi hi
    show 0 ≤ fwN (rawT l c) 216 i i
    omega
  rw [this] at h
  cases h

/-! ### truths -/
/-- A truth of a pair, by the readings of a set, for a comparator: the deviations (that of the mark, 5, is 0). -/
structure TruthP (p : PairD) (s : Nat) (c : Int × Int) (x : Nat → Int) : Prop where
  mark : x 5 = 0
  bs : ∀ i (h : i < p.bs.length), p.bs[i].1 ≤ x i ∧ x i ≤ p.bs[i].2
  rs : ∀ i (h : i < p.rs.length), s.testBit i = true → p.rs[i].lo ≤ x p.rs[i].a.toNat - x p.rs[i].b.toNat + showsC c.1 c.2 p.rs[i].m ∧ x p.rs[i].a.toNat - x p.rs[i].b.toNat + showsC c.1 c.2 p.rs[i].m ≤ p.rs[i].hi
theorem bounds_hold (p : PairD) (s : Nat) (c : Int × Int) (x : Nat → Int) (hx : x 5 = 0) : (∀ b ∈ boundsL p s, HoldB c x b) ↔ TruthP p s c x := by
  constructor
  · intro h
    refine ⟨hx, fun i hi => ?_, fun i hi hs => ?_⟩
    · have := h (blockB i p.bs[i]) (List.mem_append_left _ (by
        unfold blocksL
        rw [List.take_length, List.mem_mapIdx]
        exact ⟨i, hi, rfl⟩))
      simp only [HoldB, blockB, if_true, hx] at this
      omega
    · have := h (readB p.rs[i]) (List.mem_append_right _ (by
        unfold readsL
        rw [List.mem_filterMap]
        exact ⟨i, by simpa using hi, by rw [if_pos hs, List.getElem?_eq_getElem hi]; rfl⟩))
      simpa [HoldB, readB] using this
  · rintro ⟨_, h1, h2⟩ b hb
    unfold boundsL at hb
    rcases List.mem_append.1 hb with hb | hb
    · unfold blocksL at hb
      rw [List.take_length, List.mem_mapIdx] at hb
      obtain ⟨i, hi, rfl⟩ := hb
      have := h1 i hi
      simp only [HoldB, blockB, if_true, hx]
      omega
    · unfold readsL at hb
      rw [List.mem_filterMap] at hb
      obtain ⟨i, hi, hb⟩ := hb
      split at hb
      · rename_i hs
        have hi' : i < p.rs.length := by simpa using hi
        rw [List.getElem?_eq_getElem hi'] at hb
        simp only [Option.map_some, Option.some.injEq] at hb
        subst hb
        have := h2 i hi' hs
        simpa [HoldB, readB] using this
      · cases hb
theorem bounds_lt (p : PairD) (hp : OkP p) (s : Nat) : ∀ b ∈ boundsL p s, b.a < 6 ∧ b.b < 6 := by
  have := okB_bounds p hp s
  exact fun b hb => ⟨(this b hb).1, (this b hb).2.1⟩
/-- The truth, with 0 where there is no block. -/
def cut (n : Nat) (x : Nat → Int) : Nat → Int := fun i => if i < n then x i else 0
theorem cut_truth {p : PairD} {s : Nat} {c : Int × Int} {x : Nat → Int} (hp : OkP p) (h : TruthP p s c x) : TruthP p s c (cut p.bs.length x) := by
  have n5 := hp.n5
  refine ⟨by unfold cut; rw [if_neg (by omega)], fun i hi => ?_, fun i hi hs => ?_⟩
  · unfold cut; rw [if_pos hi]; exact h.bs i hi
  · have hr := hp.rs _ (List.getElem_mem hi)
    unfold cut
    rw [if_pos (by omega), if_pos (by omega)]
    exact h.rs i hi hs
theorem cut_sat {p : PairD} {s : Nat} {c : Int × Int} {x : Nat → Int} (hp : OkP p) (h : TruthP p s c x) (l : List Bnd) (hl : ∀ b ∈ l, b.a < 6 ∧ b.b < 6) (hb : ∀ b ∈ l, HoldB c (cut p.bs.length x) b) : Sat (rawT l c) (cut p.bs.length x) := by
  have n5 := hp.n5
  refine (sat_raw c _ _ _ hl).2 ⟨(sat_T0 _).2 fun i j hi hj => ?_, hb⟩
  have hx : ∀ i, -20 ≤ cut p.bs.length x i ∧ cut p.bs.length x i ≤ 20 := fun i => by
    unfold cut
    split
    · rename_i hi
      have := h.bs i hi
      have := hp.bs _ (List.getElem_mem hi)
      omega
    · omega
  have := hx i
  have := hx j
  omega
theorem sat_truth (p : PairD) (hp : OkP p) (s : Nat) (c : Int × Int) (x : Nat → Int) (hx : x 5 = 0) (h : Sat (rawT (boundsL p s) c) x) : TruthP p s c x :=
  (bounds_hold p s c x hx).1 ((sat_raw c x _ _ (bounds_lt p hp s)).1 h).2
theorem truth_sat (p : PairD) (hp : OkP p) (s : Nat) (c : Int × Int) (x : Nat → Int) (h : TruthP p s c x) : Sat (rawT (boundsL p s) c) (cut p.bs.length x) :=
  cut_sat hp h _ (bounds_lt p hp s) ((bounds_hold p s c _ (cut_truth hp h).mark).2 (cut_truth hp h))
theorem diag_iff (p : PairD) (hp : OkP p) (s : Nat) (c : Int × Int) : diagOk (tabOf (boundsL p s) c) = true ↔ ∃ x, TruthP p s c x := by
  constructor
  · intro h
    obtain ⟨x, hs, hx, _⟩ := fw_tight _ (fun i hi => raw_diag c i _ _ (by simp [T0])) h 0 0 (by omega) (by omega)
    exact ⟨x, sat_truth p hp s c x hx hs⟩
  · rintro ⟨x, h⟩
    cases hd : diagOk (tabOf (boundsL p s) c) with
    | true => rfl
    | false => exact absurd (truth_sat p hp s c x h) (tab_can _ _ hd _)
theorem outs_in {l : List Bnd} {cs : List (Int × Int)} {e : (Int × Int) × Tab} (h : e ∈ outs l cs) : e.1 ∈ cs ∧ diagOk (tabOf l e.1) = true ∧ e.2 = tabOf l e.1 := by
  unfold outs at h
  obtain ⟨c, hc, he⟩ := List.mem_filterMap.1 h
  split at he
  · rename_i hd
    cases he
    exact ⟨hc, hd, rfl⟩
  · cases he
theorem mem_outs {l : List Bnd} {cs : List (Int × Int)} {c : Int × Int} (hc : c ∈ cs) (hd : diagOk (tabOf l c) = true) : (c, tabOf l c) ∈ outs l cs := by
  unfold outs
  exact List.mem_filterMap.2 ⟨c, hc, by rw [if_pos hd]⟩
/-- Is there a truth, by the readings of a set? -/
def CanP (p : PairD) (s : Nat) : Prop := ∃ c ∈ comps p.zl p.zh p.rl p.rh, ∃ x, TruthP p s c x
theorem pairOuts_ne (p : PairD) (hp : OkP p) (s : Nat) : pairOuts p s ≠ [] ↔ CanP p s := by
  constructor
  · intro h
    obtain ⟨e, l, he⟩ := List.exists_cons_of_ne_nil h
    have hm : e ∈ pairOuts p s := by rw [he]; exact List.mem_cons_self ..
    obtain ⟨h1, h2, _⟩ := outs_in hm
    exact ⟨e.1, h1, (diag_iff p hp s e.1).1 h2⟩
  · rintro ⟨c, hc, x, hx⟩ h
    have := mem_outs hc ((diag_iff p hp s c).2 ⟨x, hx⟩)
    unfold pairOuts at h
    rw [h] at this
    cases this
/-- What numbers of truths have, taken as spans of one number. -/
def TruthVal (p : PairD) (s : Nat) (g : Int × Int → (Nat → Int) → Int) (v : Int × Int) : Prop := ∃ c ∈ comps p.zl p.zh p.rl p.rh, ∃ x, TruthP p s c x ∧ v = (g c x, g c x)
theorem hull_dif (p : PairD) (hp : OkP p) (s : Nat) (a b : Nat) (ha : a < p.bs.length ∨ a = 5) (hb : b < p.bs.length ∨ b = 5) (S : Int × Int) (h : IsHull (fun v => v ∈ (pairOuts p s).map (difOf a b)) S) : IsHull (TruthVal p s fun _ x => x a - x b) S := by
  have n5 := hp.n5
  have h0 : ∀ c i, i < 6 → rawT (boundsL p s) c i i ≤ 0 := fun c i _ => raw_diag c i (boundsL p s) T0 (by simp [T0])
  obtain ⟨⟨v1, hv1, e1⟩, ⟨v2, hv2, e2⟩, hall⟩ := h
  obtain ⟨y1, hy1, rfl⟩ := List.mem_map.1 hv1
  obtain ⟨y2, hy2, rfl⟩ := List.mem_map.1 hv2
  obtain ⟨m1, d1, t1⟩ := outs_in hy1
  obtain ⟨m2, d2, t2⟩ := outs_in hy2
  refine ⟨?_, ?_, ?_⟩
  · obtain ⟨x, hs, hx, hv⟩ := fw_tight _ (h0 y1.1) d1 b a (by omega) (by omega)
    refine ⟨_, ⟨y1.1, m1, x, sat_truth p hp s _ x hx hs, rfl⟩, ?_⟩
    rw [← e1]
    simp only [difOf, t1, tabOf]
    omega
  · obtain ⟨x, hs, hx, hv⟩ := fw_tight _ (h0 y2.1) d2 a b (by omega) (by omega)
    refine ⟨_, ⟨y2.1, m2, x, sat_truth p hp s _ x hx hs, rfl⟩, ?_⟩
    rw [← e2]
    simp only [difOf, t2, tabOf]
    omega
  · rintro _ ⟨c, hc, x, hx, rfl⟩
    have hd := (diag_iff p hp s c).2 ⟨x, hx⟩
    have hm := hall _ (List.mem_map_of_mem (f := difOf a b) (mem_outs hc hd))
    have hs := fw_sound _ _ (truth_sat p hp s c x hx) 216 (Nat.le_refl _)
    have k1 := hs a b (by omega) (by omega)
    have k2 := hs b a (by omega) (by omega)
    have c5 : ∀ i, i < p.bs.length ∨ i = 5 → cut p.bs.length x i = x i := fun i hi => by
      unfold cut
      split
      · rfl
      · rcases hi with hi | rfl
        · omega
        · exact hx.mark.symm
    rw [c5 a ha, c5 b hb] at k1 k2
    simp only [difOf, tabOf] at hm
    dsimp only
    omega
theorem hull_any_of {p : PairD} {s : Nat} {g : Int × Int → (Nat → Int) → Int} {f : (Int × Int) × Tab → Int × Int} (hp : OkP p) (hf : ∀ c x, f (c, tabOf (boundsL p s) c) = (g c x, g c x)) {S : Int × Int} (h : IsHull (fun v => v ∈ (pairOuts p s).map f) S) : IsHull (TruthVal p s g) S := by
  have key : ∀ v, v ∈ (pairOuts p s).map f ↔ TruthVal p s g v := by
    intro v
    constructor
    · intro hv
      obtain ⟨⟨c, t⟩, hy, rfl⟩ := List.mem_map.1 hv
      obtain ⟨m1, d1, t1⟩ := outs_in hy
      simp only at m1 d1 t1
      obtain ⟨x, hx⟩ := (diag_iff p hp s c).1 d1
      subst t1
      exact ⟨c, m1, x, hx, hf c x⟩
    · rintro ⟨c, hc, x, hx, rfl⟩
      rw [← hf c x]
      exact List.mem_map_of_mem (f := f) (mem_outs hc ((diag_iff p hp s c).2 ⟨x, hx⟩))
  obtain ⟨⟨a, ha, e1⟩, ⟨b, hb, e2⟩, h3⟩ := h
  exact ⟨⟨a, (key a).1 ha, e1⟩, ⟨b, (key b).1 hb, e2⟩, fun c hc => h3 c ((key c).2 hc)⟩

/-! ### who can be longest -/
def longB (i k : Nat) : Bnd := ⟨true, i, k, 0, 1048576, 0⟩
def longL (i n : Nat) : List Bnd := (List.range n).map (longB i)
theorem longL_next (i n : Nat) : longL i (n + 1) = longL i n ++ [longB i n] := by simp [longL, List.range_succ]
theorem longL_hold (c : Int × Int) (x : Nat → Int) (i n : Nat) : (∀ b ∈ longL i n, HoldB c x b) ↔ ∀ k, k < n → x k ≤ x i ∧ x i - x k ≤ 1048576 := by
  unfold longL
  simp only [List.mem_map, List.mem_range, forall_exists_index, and_imp, forall_apply_eq_imp_iff₂, HoldB, longB, if_true]
  constructor
  · intro h k hk
    have := h k hk
    omega
  · intro h k hk
    have := h k hk
    omega
theorem long_can (p : PairD) (hp : OkP p) (s i : Nat) (hi : i < p.bs.length) : outs (boundsL p s ++ longL i p.bs.length) (comps p.zl p.zh p.rl p.rh) ≠ [] ↔ ∃ c ∈ comps p.zl p.zh p.rl p.rh, ∃ x, TruthP p s c x ∧ ∀ k, k < p.bs.length → x k ≤ x i := by
  have n5 := hp.n5
  have hlt : ∀ b ∈ boundsL p s ++ longL i p.bs.length, b.a < 6 ∧ b.b < 6 := by
    intro b hb
    rcases List.mem_append.1 hb with hb | hb
    · exact bounds_lt p hp s b hb
    · obtain ⟨k, hk, rfl⟩ := List.mem_map.1 hb
      have : k < p.bs.length := by simpa using hk
      exact ⟨by show i < 6; omega, by show k < 6; omega⟩
  constructor
  · intro h
    obtain ⟨e, l, he⟩ := List.exists_cons_of_ne_nil h
    have hm : e ∈ outs (boundsL p s ++ longL i p.bs.length) (comps p.zl p.zh p.rl p.rh) := by rw [he]; exact List.mem_cons_self ..
    obtain ⟨h1, h2, _⟩ := outs_in hm
    obtain ⟨x, hs, hx, _⟩ := fw_tight _ (fun i hi => raw_diag e.1 i _ _ (by simp [T0])) h2 0 0 (by omega) (by omega)
    have hh := ((sat_raw e.1 x _ _ hlt).1 hs).2
    refine ⟨e.1, h1, x, (bounds_hold p s e.1 x hx).1 (fun b hb => hh b (List.mem_append_left _ hb)), fun k hk => ?_⟩
    exact ((longL_hold e.1 x i _).1 (fun b hb => hh b (List.mem_append_right _ hb)) k hk).1
  · rintro ⟨c, hc, x, hx, hk⟩ h
    have hxt := cut_truth hp hx
    have hsat : Sat (rawT (boundsL p s ++ longL i p.bs.length) c) (cut p.bs.length x) := by
      refine cut_sat hp hx _ hlt fun b hb => ?_
      rcases List.mem_append.1 hb with hb | hb
      · exact (bounds_hold p s c _ hxt.mark).2 hxt b hb
      · refine (longL_hold c _ i _).2 (fun k hkl => ?_) b hb
        have h1 := hxt.bs k hkl
        have h2 := hxt.bs i hi
        have h3 := hp.bs _ (List.getElem_mem hi)
        have h4 := hp.bs _ (List.getElem_mem hkl)
        have h5 := hk k hkl
        have e1 : cut p.bs.length x k = x k := by unfold cut; rw [if_pos hkl]
        have e2 : cut p.bs.length x i = x i := by unfold cut; rw [if_pos hi]
        rw [e1] at h1 ⊢
        rw [e2] at h2 ⊢
        omega
    have hd : diagOk (tabOf (boundsL p s ++ longL i p.bs.length) c) = true := by
      cases hd : diagOk (tabOf (boundsL p s ++ longL i p.bs.length) c) with
      | true => rfl
      | false => exact absurd hsat (tab_can _ _ hd _)
    have := mem_outs hc hd
    rw [h] at this
    cases this
/-- With more bounds there is no more. -/
theorem outs_more (l m : List Bnd) (hl : ∀ b ∈ l ++ m, b.a < 6 ∧ b.b < 6) (cs : List (Int × Int)) (h : outs (l ++ m) cs ≠ []) : outs l cs ≠ [] := by
  obtain ⟨e, r, he⟩ := List.exists_cons_of_ne_nil h
  have hm : e ∈ outs (l ++ m) cs := by rw [he]; exact List.mem_cons_self ..
  obtain ⟨h1, h2, _⟩ := outs_in hm
  obtain ⟨x, hs, hx, _⟩ := fw_tight _ (fun i hi => raw_diag e.1 i _ _ (by simp [T0])) h2 0 0 (by omega) (by omega)
  have hh := (sat_raw e.1 x _ _ hl).1 hs
  have hsat : Sat (rawT l e.1) x := (sat_raw e.1 x _ _ (fun b hb => hl b (List.mem_append_left _ hb))).2 ⟨hh.1, fun b hb => hh.2 b (List.mem_append_left _ hb)⟩
  intro h0
  cases hd : diagOk (tabOf l e.1) with
  | true =>
    have := mem_outs h1 hd
    rw [h0] at this
    cases this
  | false => exact tab_can _ _ hd _ hsat

end Go.Proofs.Ytabbmihakoeegaa

/- All truths, as the document lists them (plain). -/
namespace Go.Proofs.Ytabbmihakoeegaa
set_option linter.unusedVariables false
set_option linter.unusedSimpArgs false

/-! ### all truths, by the document -/
def atL (x : List Int) (i : Int) : Int := x.getD i.toNat 0
def rightR (c : Int × Int) (x : List Int) (r : RdD) : Bool :=
  decide ((x.length : Int) ≤ r.a) || decide ((x.length : Int) ≤ r.b) || (decide (r.lo ≤ atL x r.a - atL x r.b + showsC c.1 c.2 r.m) && decide (atL x r.a - atL x r.b + showsC c.1 c.2 r.m ≤ r.hi))
def rightN (p : PairD) (s : Nat) (c : Int × Int) (x : List Int) (i : Nat) : Bool := !(s.testBit i) || (match p.rs[i]? with | none => true | some r => rightR c x r)
/-- Are the first readings of a set right, of those of whose blocks deviations are given? -/
def rightK (p : PairD) (s : Nat) (c : Int × Int) (x : List Int) (k : Nat) : Bool := (List.range k).all (rightN p s c x)
def rightL (p : PairD) (s : Nat) (c : Int × Int) (x : List Int) : Bool := rightK p s c x p.rs.length
def spanL (s : Int × Int) : List Int := (List.range (s.2 - s.1 + 1).toNat).map fun k : Nat => s.1 + (k : Int)
theorem mem_spanL (s : Int × Int) (k : Int) : k ∈ spanL s ↔ s.1 ≤ k ∧ k ≤ s.2 := by
  unfold spanL
  rw [List.mem_map]
  constructor
  · rintro ⟨j, hj, rfl⟩
    rw [List.mem_range] at hj
    omega
  · rintro ⟨h1, h2⟩
    exact ⟨(k - s.1).toNat, by rw [List.mem_range]; omega, by omega⟩
/-- All truths of a comparator that go on from some deviations, n blocks being left. -/
def fromL (p : PairD) (s : Nat) (c : Int × Int) : Nat → List Int → List (List Int)
  | 0, x => if rightL p s c x then [x] else []
  | n + 1, x => if rightL p s c x then (spanL (p.bs.getD x.length (0, 0))).flatMap fun k => fromL p s c n (x ++ [k]) else []
def truthsL (p : PairD) (s : Nat) : List (List Int × (Int × Int)) := (comps p.zl p.zh p.rl p.rh).flatMap fun c => (fromL p s c p.bs.length []).map fun x => (x, c)
theorem rightL_iff (p : PairD) (s : Nat) (c : Int × Int) (x : List Int) : rightL p s c x = true ↔ ∀ i (h : i < p.rs.length), s.testBit i = true → p.rs[i].a < x.length → p.rs[i].b < x.length →
    p.rs[i].lo ≤ atL x p.rs[i].a - atL x p.rs[i].b + showsC c.1 c.2 p.rs[i].m ∧ atL x p.rs[i].a - atL x p.rs[i].b + showsC c.1 c.2 p.rs[i].m ≤ p.rs[i].hi := by
  unfold rightL rightK
  rw [List.all_eq_true]
  constructor
  · intro h i hi hs ha hb
    have := h i (List.mem_range.2 hi)
    unfold rightN rightR at this
    rw [List.getElem?_eq_getElem hi, hs] at this
    simp only [Bool.not_true, Bool.false_or, Bool.or_eq_true, Bool.and_eq_true, decide_eq_true_eq] at this
    omega
  · intro h i hi
    rw [List.mem_range] at hi
    unfold rightN rightR
    rw [List.getElem?_eq_getElem hi]
    cases hs : s.testBit i with
    | false => rfl
    | true =>
      simp only [Bool.not_true, Bool.false_or, Bool.or_eq_true, Bool.and_eq_true, decide_eq_true_eq]
      by_cases ha : p.rs[i].a < x.length
      · by_cases hb : p.rs[i].b < x.length
        · exact .inr (h i hi hs ha hb)
        · exact .inl (.inr (by omega))
      · exact .inl (.inl (by omega))
theorem rightL_take (p : PairD) (hp : OkP p) (s : Nat) (c : Int × Int) (y : List Int) (m : Nat) (h : rightL p s c y = true) : rightL p s c (y.take m) = true := by
  rw [rightL_iff] at h ⊢
  intro i hi hs ha hb
  have hr := hp.rs _ (List.getElem_mem hi)
  have hl : (y.take m).length ≤ y.length := by simp; omega
  have := h i hi hs (by omega) (by omega)
  have e : ∀ k : Int, 0 ≤ k → k < (y.take m).length → atL (y.take m) k = atL y k := by
    intro k h0 hk
    unfold atL
    rw [List.getD_eq_getElem?_getD, List.getD_eq_getElem?_getD, List.getElem?_take]
    have : k.toNat < m := by simp at hk; omega
    rw [if_pos this]
  rw [e _ hr.1 ha, e _ hr.2.2.1 hb]
  exact this
theorem mem_fromL (p : PairD) (hp : OkP p) (s : Nat) (c : Int × Int) (y : List Int) : ∀ (n : Nat) (x : List Int), x.length + n = p.bs.length →
    (y ∈ fromL p s c n x ↔ y.length = p.bs.length ∧ y.take x.length = x ∧ (∀ i, x.length ≤ i → (h : i < p.bs.length) → p.bs[i].1 ≤ y.getD i 0 ∧ y.getD i 0 ≤ p.bs[i].2) ∧ rightL p s c y = true) := by
  intro n
  induction n with
  | zero =>
    intro x hx
    unfold fromL
    constructor
    · intro h
      split at h
      · rename_i hr
        rw [List.mem_singleton] at h
        subst h
        exact ⟨by omega, by simp, fun i h1 h2 => by omega, hr⟩
      · cases h
    · rintro ⟨h1, h2, h3, h4⟩
      have : y = x := by rw [← h2, List.take_of_length_le (by omega)]
      subst this
      rw [if_pos h4]
      exact List.mem_singleton.2 rfl
  | succ n ih =>
    intro x hx
    have hlt : x.length < p.bs.length := by omega
    have hb : p.bs.getD x.length (0, 0) = p.bs[x.length] := by rw [List.getD_eq_getElem?_getD, List.getElem?_eq_getElem hlt]; rfl
    unfold fromL
    rw [hb]
    constructor
    · intro h
      split at h
      · rename_i hr
        obtain ⟨k, hk, hy⟩ := List.mem_flatMap.1 h
        rw [mem_spanL] at hk
        obtain ⟨h1, h2, h3, h4⟩ := (ih (x ++ [k]) (by simp; omega)).1 hy
        simp only [List.length_append, List.length_singleton] at h2 h3
        have hyk : y[x.length]? = some k := by
          have := congrArg (fun l => l[x.length]?) h2
          simpa [List.getElem?_take] using this
        refine ⟨h1, ?_, fun i hi1 hi2 => ?_, h4⟩
        · have := congrArg (List.take x.length) h2
          rw [List.take_take, Nat.min_eq_left (by omega)] at this
          rw [this]; simp
        · by_cases hi : i = x.length
          · subst hi
            rw [List.getD_eq_getElem?_getD, hyk]
            exact hk
          · exact h3 i (by omega) hi2
      · cases h
    · rintro ⟨h1, h2, h3, h4⟩
      have hr : rightL p s c x = true := by rw [← h2]; exact rightL_take p hp s c y _ h4
      rw [if_pos hr, List.mem_flatMap]
      refine ⟨y.getD x.length 0, (mem_spanL _ _).2 (h3 x.length (Nat.le_refl _) hlt), ?_⟩
      refine (ih _ (by simp; omega)).2 ⟨h1, ?_, fun i hi1 hi2 => h3 i (by simp at hi1; omega) hi2, h4⟩
      rw [List.length_append, List.length_singleton, List.take_succ_eq_append_getElem (by omega), h2]
      rw [List.getD_eq_getElem?_getD, List.getElem?_eq_getElem (by omega)]
      rfl
theorem mem_truthsL (p : PairD) (hp : OkP p) (s : Nat) (y : List Int) (c : Int × Int) : (y, c) ∈ truthsL p s ↔ c ∈ comps p.zl p.zh p.rl p.rh ∧ y.length = p.bs.length ∧ TruthP p s c (fun i => y.getD i 0) := by
  have n5 := hp.n5
  have key : y ∈ fromL p s c p.bs.length [] ↔ y.length = p.bs.length ∧ TruthP p s c (fun i => y.getD i 0) := by
    rw [mem_fromL p hp s c y p.bs.length [] (by simp)]
    constructor
    · rintro ⟨h1, _, h3, h4⟩
      refine ⟨h1, ⟨?_, fun i hi => h3 i (by simp) hi, fun i hi hs => ?_⟩⟩
      · rw [List.getD_eq_getElem?_getD, List.getElem?_eq_none (by omega)]; rfl
      · have hr := hp.rs _ (List.getElem_mem hi)
        exact (rightL_iff p s c y).1 h4 i hi hs (by omega) (by omega)
    · rintro ⟨h1, h⟩
      exact ⟨h1, by simp, fun i _ hi => h.bs i hi, (rightL_iff p s c y).2 fun i hi hs _ _ => h.rs i hi hs⟩
  unfold truthsL
  rw [List.mem_flatMap]
  constructor
  · rintro ⟨c', hc, hy⟩
    obtain ⟨x, hx, he⟩ := List.mem_map.1 hy
    cases he
    exact ⟨hc, key.1 hx⟩
  · rintro ⟨hc, h⟩
    exact ⟨c, hc, List.mem_map.2 ⟨y, key.2 h, rfl⟩⟩
theorem truthP_congr {p : PairD} (hp : OkP p) {s : Nat} {c : Int × Int} {x y : Nat → Int} (h : TruthP p s c x) (h5 : y 5 = 0) (he : ∀ i, i < p.bs.length → y i = x i) : TruthP p s c y := by
  refine ⟨h5, fun i hi => by rw [he i hi]; exact h.bs i hi, fun i hi hs => ?_⟩
  have hr := hp.rs _ (List.getElem_mem hi)
  rw [he _ (by omega), he _ (by omega)]
  exact h.rs i hi hs
/-- The numbers of a truth, as a list. -/
def listOf (n : Nat) (x : Nat → Int) : List Int := (List.range n).map x
theorem listOf_at (n : Nat) (x : Nat → Int) (i : Nat) (h : i < n) : (listOf n x).getD i 0 = x i := by
  simp [listOf, List.getD_eq_getElem?_getD, h]
theorem truth_mem (p : PairD) (hp : OkP p) (s : Nat) (c : Int × Int) (x : Nat → Int) (hc : c ∈ comps p.zl p.zh p.rl p.rh) (h : TruthP p s c x) : (listOf p.bs.length x, c) ∈ truthsL p s := by
  have n5 := hp.n5
  refine (mem_truthsL p hp s _ c).2 ⟨hc, by simp [listOf], truthP_congr hp h ?_ fun i hi => listOf_at _ _ _ hi⟩
  rw [List.getD_eq_getElem?_getD, List.getElem?_eq_none (by simp [listOf]; omega)]; rfl
theorem truthsL_ne (p : PairD) (hp : OkP p) (s : Nat) : truthsL p s ≠ [] ↔ CanP p s := by
  constructor
  · intro h
    obtain ⟨⟨y, c⟩, l, he⟩ := List.exists_cons_of_ne_nil h
    obtain ⟨hc, _, hx⟩ := (mem_truthsL p hp s y c).1 (by rw [he]; exact List.mem_cons_self ..)
    exact ⟨c, hc, _, hx⟩
  · rintro ⟨c, hc, x, hx⟩ h
    have := truth_mem p hp s c x hc hx
    rw [h] at this
    cases this
/-- What truths have is what those of the list have. -/
theorem truthVal_iff (p : PairD) (hp : OkP p) (s : Nat) (g : Int × Int → (Nat → Int) → Int) (hg : ∀ c x y, (∀ i, i < p.bs.length ∨ i = 5 → x i = y i) → g c x = g c y) (v : Int × Int) :
    TruthVal p s g v ↔ v ∈ (truthsL p s).map fun t => (g t.2 (fun i => t.1.getD i 0), g t.2 (fun i => t.1.getD i 0)) := by
  have n5 := hp.n5
  rw [List.mem_map]
  constructor
  · rintro ⟨c, hc, x, hx, rfl⟩
    refine ⟨_, truth_mem p hp s c x hc hx, ?_⟩
    have : g c (fun i => (listOf p.bs.length x).getD i 0) = g c x := by
      refine hg c _ _ fun i hi => ?_
      rcases hi with hi | rfl
      · exact listOf_at _ _ _ hi
      · rw [List.getD_eq_getElem?_getD, List.getElem?_eq_none (by simp [listOf]; omega)]; exact hx.mark.symm
    dsimp only
    rw [this]
  · rintro ⟨⟨y, c⟩, hy, rfl⟩
    obtain ⟨hc, _, hx⟩ := (mem_truthsL p hp s y c).1 hy
    exact ⟨c, hc, _, hx, rfl⟩

end Go.Proofs.Ytabbmihakoeegaa

/- A pair is looked at: what is valid. -/
namespace Go.Proofs.Ytabbmihakoeegaa
set_option linter.unusedVariables false
set_option linter.unusedSimpArgs false
open Go.RowKit Go.Shelf
attribute [local go_sem] Oper.semAt_some

def okSp (s : Int × Int) : Bool := okSpan s.1 s.2 20
def okRd (n : Nat) (r : RdD) : Bool := inB r.a 0 ((n : Int) - 1) && inB r.b 0 ((n : Int) - 1) && decide (r.a ≠ r.b) && inB r.m 0 60 && okSpan r.lo r.hi 80
def okZR (p : PairD) : Bool := okSpan p.zl p.zh 10 && okSpan p.rl p.rh 5 && decide (p.zh - p.zl ≤ 4) && decide (p.rh - p.rl ≤ 4)
def okHead (p : PairD) : Bool := inB p.bs.length 1 5 && decide ((p.rs.length : Int) ≤ 8)
/-- Is a pair valid? -/
def validB (p : PairD) : Bool := okHead p && p.bs.all okSp && okZR p && p.rs.all (okRd p.bs.length)
theorem OkP.of (p : PairD) (h : validB p = true) : OkP p := by
  simp only [validB, okHead, okZR, Bool.and_eq_true, List.all_eq_true, okSp, okRd, okSpan, inB, decide_eq_true_eq] at h
  obtain ⟨⟨⟨⟨⟨a1, a2⟩, a3⟩, a4⟩, ⟨⟨⟨b1, b2⟩, b3⟩, b4⟩⟩, c⟩ := h
  refine ⟨by omega, by omega, by omega, fun s hs => ?_, by omega, by omega, fun r hr => ?_⟩
  · have := a4 s hs; omega
  · have := c r hr; omega
def pairRow (p : PairD) (bs rs : Value) : Array Value := #[bs, .int .i64 p.zl, .int .i64 p.zh, .int .i64 p.rl, .int .i64 p.rh, rs]
theorem take_all {α : Type} (l : List α) (f : α → Bool) (k : Nat) (hk : k < l.length) (h : (l.take k).all f = true) : (l.take (k + 1)).all f = f l[k] := by
  rw [List.take_succ_eq_append_getElem hk, List.all_append, h]; simp
theorem all_false {α : Type} (l : List α) (f : α → Bool) (k : Nat) (hk : k < l.length) (h : f l[k] = false) : l.all f = false := by
  rw [List.all_eq_false]; exact ⟨l[k], List.getElem_mem hk, by simp [h]⟩

set_option maxRecDepth 100000 in
set_option maxHeartbeats 2000000 in
theorem open_any (p : PairD) (bs rs : Value) (Rd : Nat → Prop) (w : World) (hbs : SpansAt w bs p.bs Rd) (hrs : ReadsAt w rs p.rs Rd) (f : Nat) (caps : Array Value) (v : Bool)
    (eg : ∀ args w, (callFunc f args).run Try.prog w = .ok (.enter f args) w)
    (hf : validB p = true → ∀ W bp, Below w.heap.size w W → W.heap[bp]? = some (benchObj bs rs p.zl p.zh p.rl p.rh (.map none)) → Calls Try.prog f (#[.pointer (some ⟨bp, 0, none⟩)] ++ caps) W fun e W' => e = .returned (.bool v) ∧ W = W') :
    Calls Try.prog 45 #[.agg (pairRow p bs rs), .func (.func f) #[] caps] w fun e w' => Below w.heap.size w w' ∧
      ((validB p = false ∧ e = .panicked [{ v := stopV 1, recovered := false }]) ∨ (validB p = true ∧ v = false ∧ e = .panicked [{ v := stopV 2, recovered := false }]) ∨
       (validB p = true ∧ v = true ∧ ∃ bp, w.heap.size ≤ bp ∧ e = .returned (.pointer (some ⟨bp, 0, none⟩)) ∧ w'.heap[bp]? = some (benchObj bs rs p.zl p.zh p.rl p.rh (.map none)))) := by
  obtain ⟨ao, cap, rfl, hc1, hc2, hel⟩ := hbs
  obtain ⟨ao2, cap2, rfl, hc3, hc4, hel2⟩ := hrs
  have HE1 := Lib.hid hel
  have HE2 := Lib.hid hel2
  have HF := Lib.hid hf
  clear hel hel2 hf
  unfold pairRow
  go_enter Try.func45, Try.ntmps45
  go_wp2_with fail
  refine (within_any _ _ _ _).mono ?_
  rintro e w' ⟨rfl, rfl⟩
  have hb0 : Below w.heap.size w (w.alloc (.cells #[.slice ao p.bs.length cap, .int .i64 p.zl, .int .i64 p.zh, .int .i64 p.rl, .int .i64 p.rh, .slice ao2 p.rs.length cap2] 27 (0, 0))) := (Below.refl _ _).alloc (Nat.le_refl _) _
  have hr0 : (w.alloc (.cells #[.slice ao p.bs.length cap, .int .i64 p.zl, .int .i64 p.zh, .int .i64 p.rl, .int .i64 p.rh, .slice ao2 p.rs.length cap2] 27 (0, 0))).heap[w.heap.size]? = some (.cells #[.slice ao p.bs.length cap, .int .i64 p.zl, .int .i64 p.zh, .int .i64 p.rl, .int .i64 p.rh, .slice ao2 p.rs.length cap2] 27 (0, 0)) := heap_alloc_at _ _ _ rfl
  generalize w.alloc (.cells #[.slice ao p.bs.length cap, .int .i64 p.zl, .int .i64 p.zh, .int .i64 p.rl, .int .i64 p.rh, .slice ao2 p.rs.length cap2] 27 (0, 0)) = W0 at *
  have c0 : W0.cell? ⟨w.heap.size, 0, none⟩ = some (.slice ao p.bs.length cap) := by rw [cell_of_row W0 _ _ _ _ _ hr0]; rfl
  have c1 : W0.cell? ⟨w.heap.size, 1, none⟩ = some (.int .i64 p.zl) := by rw [cell_of_row W0 _ _ _ _ _ hr0]; rfl
  have c2 : W0.cell? ⟨w.heap.size, 2, none⟩ = some (.int .i64 p.zh) := by rw [cell_of_row W0 _ _ _ _ _ hr0]; rfl
  have c3 : W0.cell? ⟨w.heap.size, 3, none⟩ = some (.int .i64 p.rl) := by rw [cell_of_row W0 _ _ _ _ _ hr0]; rfl
  have c4 : W0.cell? ⟨w.heap.size, 4, none⟩ = some (.int .i64 p.rh) := by rw [cell_of_row W0 _ _ _ _ _ hr0]; rfl
  have c5 : W0.cell? ⟨w.heap.size, 5, none⟩ = some (.slice ao2 p.rs.length cap2) := by rw [cell_of_row W0 _ _ _ _ _ hr0]; rfl
  have HB0 := Lib.hid hb0
  have HR0 := Lib.hid hr0
  clear hb0 hr0
  cases h1 : inB (↑p.bs.length) 1 5 with
  | false =>
    go_wp2_with fail
    refine (must_no 1 _).mono ?_
    rintro e w' ⟨rfl, rfl⟩
    exact ⟨rfl, HB0.out, .inl ⟨by simp [validB, okHead, h1], rfl⟩⟩
  | true =>
  by_cases h2 : (p.rs.length : Int) ≤ 8
  case neg =>
    have hd : decide ((p.rs.length : Int) ≤ 8) = false := by simpa using h2
    go_wp2_with fail
    refine (must_no 1 _).mono ?_
    rintro e w' ⟨rfl, rfl⟩
    exact ⟨rfl, HB0.out, .inl ⟨by simp [validB, okHead, hd], rfl⟩⟩
  have hd2 : decide ((p.rs.length : Int) ≤ 8) = true := by simpa using h2
  go_wp2_with fail
  refine (must_ok 1 _).mono ?_
  rintro e w' ⟨rfl, rfl⟩
  have hn5 : p.bs.length ≤ 5 := by simp [inB] at h1; omega
  have hm8 : p.rs.length ≤ 8 := by omega
  clear hd2
  go_wp2_with fail
  clear c0 c1 c2 c3 c4 c5
  go_loopw [24] (fun i wr => ∃ k : Nat, k ≤ p.bs.length ∧ i = .int .i64 k ∧ (p.bs.take k).all okSp = true ∧ wr.heap[w.heap.size]? = some (.cells #[.slice ao p.bs.length cap, .int .i64 p.zl, .int .i64 p.zh, .int .i64 p.rl, .int .i64 p.rh, .slice ao2 p.rs.length cap2] 27 (0, 0)) ∧ Below w.heap.size w wr) (fun i _ => p.bs.length - (intOf i).toNat)
  case atStart => exact ⟨0, by omega, rfl, by simp, HR0.out, HB0.out⟩
  case round =>
    obtain ⟨k, hk, rfl, hall, hrow, hb⟩ := hrel
    have HRW := Lib.hid hrow
    have HB := Lib.hid hb
    have HALL := Lib.hid hall
    clear hrow hb hall
    by_cases hlk : k < p.bs.length
    · obtain ⟨b, off, rfl, hr, hbl, e1, e2⟩ := HE1.out k hlk
      have f1 := (HB.out.cell (p := ⟨b, off + k * 2, none⟩) hbl).trans e1
      have f2 := (HB.out.cell (p := ⟨b, off + k * 2 + 1, none⟩) hbl).trans e2
      clear e1 e2
      have HTA := Lib.hid (take_all p.bs okSp k hlk HALL.out)
      have HAF := Lib.hid (all_false p.bs okSp k hlk)
      generalize p.bs[k] = sp at *
      obtain ⟨slo, shi⟩ := sp
      go_wp2_with fail
      refine (isSpan_any slo shi 20 (by omega) _).mono ?_
      rintro e w2 ⟨rfl, hb2⟩
      have hbel : Below w.heap.size w w2 := (HB.out.alloc (by have := HB.out.size; omega) _).trans (hb2.mono (by have := HB.out.size; simp; omega))
      have hrw2 := (hb2.block w.heap.size (by have := lt_of_block HRW.out; simp; omega)).trans ((hget_old _ _ _ (by have := lt_of_block HRW.out; omega)).trans HRW.out)
      have HBEL := Lib.hid hbel
      have HRW2 := Lib.hid hrw2
      clear hb2 hbel hrw2
      cases h3 : okSpan slo shi 20 with
      | false =>
        go_wp2_with fail
        refine (must_no 1 _).mono ?_
        rintro e w' ⟨rfl, rfl⟩
        exact ⟨rfl, HBEL.out, .inl ⟨by simp [validB, HAF.out (show okSp (slo, shi) = false from h3)], rfl⟩⟩
      | true =>
        go_wp2_with fail
        refine (must_ok 1 _).mono ?_
        rintro e w' ⟨rfl, rfl⟩
        go_wp2_with fail
        go_roundw
        case rel => exact ⟨k + 1, by omega, by go_num, HTA.out.trans h3, HRW2.out, HBEL.out⟩
        case measure => simp [intOf]; omega
    · obtain rfl : k = p.bs.length := by omega
      have hall := HALL.out
      rw [List.take_length] at hall
      have c0 : wr.cell? ⟨w.heap.size, 0, none⟩ = some (.slice ao p.bs.length cap) := by rw [cell_of_row wr _ _ _ _ _ HRW.out]; rfl
      have c1 : wr.cell? ⟨w.heap.size, 1, none⟩ = some (.int .i64 p.zl) := by rw [cell_of_row wr _ _ _ _ _ HRW.out]; rfl
      have c2 : wr.cell? ⟨w.heap.size, 2, none⟩ = some (.int .i64 p.zh) := by rw [cell_of_row wr _ _ _ _ _ HRW.out]; rfl
      have c3 : wr.cell? ⟨w.heap.size, 3, none⟩ = some (.int .i64 p.rl) := by rw [cell_of_row wr _ _ _ _ _ HRW.out]; rfl
      have c4 : wr.cell? ⟨w.heap.size, 4, none⟩ = some (.int .i64 p.rh) := by rw [cell_of_row wr _ _ _ _ _ HRW.out]; rfl
      have c5 : wr.cell? ⟨w.heap.size, 5, none⟩ = some (.slice ao2 p.rs.length cap2) := by rw [cell_of_row wr _ _ _ _ _ HRW.out]; rfl
      go_wp2_with fail
      refine (isSpan_any p.zl p.zh 10 (by omega) _).mono ?_
      rintro e w2 ⟨rfl, hb2⟩
      have hrw2 := (hb2.block w.heap.size (lt_of_block HRW.out)).trans HRW.out
      have HB2 := Lib.hid (HB.out.trans (hb2.mono (by have := HB.out.size; omega)))
      clear hb2 c0 c1 c2 c3 c4 c5
      have c0 : w2.cell? ⟨w.heap.size, 0, none⟩ = some (.slice ao p.bs.length cap) := by rw [cell_of_row w2 _ _ _ _ _ hrw2]; rfl
      have c1 : w2.cell? ⟨w.heap.size, 1, none⟩ = some (.int .i64 p.zl) := by rw [cell_of_row w2 _ _ _ _ _ hrw2]; rfl
      have c2 : w2.cell? ⟨w.heap.size, 2, none⟩ = some (.int .i64 p.zh) := by rw [cell_of_row w2 _ _ _ _ _ hrw2]; rfl
      have c3 : w2.cell? ⟨w.heap.size, 3, none⟩ = some (.int .i64 p.rl) := by rw [cell_of_row w2 _ _ _ _ _ hrw2]; rfl
      have c4 : w2.cell? ⟨w.heap.size, 4, none⟩ = some (.int .i64 p.rh) := by rw [cell_of_row w2 _ _ _ _ _ hrw2]; rfl
      have c5 : w2.cell? ⟨w.heap.size, 5, none⟩ = some (.slice ao2 p.rs.length cap2) := by rw [cell_of_row w2 _ _ _ _ _ hrw2]; rfl
      have HRW2 := Lib.hid hrw2
      clear hrw2
      cases h3 : okSpan p.zl p.zh 10 with
      | false =>
        go_wp2_with fail
        refine (must_no 1 _).mono ?_
        rintro e w' ⟨rfl, rfl⟩
        exact ⟨rfl, HB2.out, .inl ⟨by simp [validB, okZR, h3], rfl⟩⟩
      | true =>
      go_wp2_with fail
      refine (isSpan_any p.rl p.rh 5 (by omega) _).mono ?_
      rintro e w3 ⟨rfl, hb3⟩
      have hrw3 := (hb3.block w.heap.size (lt_of_block HRW2.out)).trans HRW2.out
      have HB3 := Lib.hid (HB2.out.trans (hb3.mono (by have := HB2.out.size; omega)))
      clear hb3 c0 c1 c2 c3 c4 c5
      have c0 : w3.cell? ⟨w.heap.size, 0, none⟩ = some (.slice ao p.bs.length cap) := by rw [cell_of_row w3 _ _ _ _ _ hrw3]; rfl
      have c1 : w3.cell? ⟨w.heap.size, 1, none⟩ = some (.int .i64 p.zl) := by rw [cell_of_row w3 _ _ _ _ _ hrw3]; rfl
      have c2 : w3.cell? ⟨w.heap.size, 2, none⟩ = some (.int .i64 p.zh) := by rw [cell_of_row w3 _ _ _ _ _ hrw3]; rfl
      have c3 : w3.cell? ⟨w.heap.size, 3, none⟩ = some (.int .i64 p.rl) := by rw [cell_of_row w3 _ _ _ _ _ hrw3]; rfl
      have c4 : w3.cell? ⟨w.heap.size, 4, none⟩ = some (.int .i64 p.rh) := by rw [cell_of_row w3 _ _ _ _ _ hrw3]; rfl
      have c5 : w3.cell? ⟨w.heap.size, 5, none⟩ = some (.slice ao2 p.rs.length cap2) := by rw [cell_of_row w3 _ _ _ _ _ hrw3]; rfl
      have HRW3 := Lib.hid hrw3
      clear hrw3
      cases h4 : okSpan p.rl p.rh 5 with
      | false =>
        go_wp2_with fail
        refine (must_no 1 _).mono ?_
        rintro e w' ⟨rfl, rfl⟩
        exact ⟨rfl, HB3.out, .inl ⟨by simp [validB, okZR, h3, h4], rfl⟩⟩
      | true =>
      have hz := h3
      have hr := h4
      simp only [okSpan, decide_eq_true_eq] at hz hr
      obtain ⟨hz1, hz2, hz3⟩ := hz
      obtain ⟨hr1, hr2, hr3⟩ := hr
      have hwz : IntKind.i64.wrap (p.zh - p.zl) = p.zh - p.zl := IntWalk.i64_in _ (by omega)
      have hwr : IntKind.i64.wrap (p.rh - p.rl) = p.rh - p.rl := IntWalk.i64_in _ (by omega)
      by_cases h5 : p.zh - p.zl ≤ 4
      case neg =>
        have hd : decide (p.zh - p.zl ≤ 4) = false := by simpa using h5
        go_wp2_with fail
        refine (must_no 1 _).mono ?_
        rintro e w' ⟨rfl, rfl⟩
        exact ⟨rfl, HB3.out, .inl ⟨by simp [validB, okZR, hd], rfl⟩⟩
      have hd5 : decide (p.zh - p.zl ≤ 4) = true := by simpa using h5
      by_cases h6 : p.rh - p.rl ≤ 4
      case neg =>
        have hd : decide (p.rh - p.rl ≤ 4) = false := by simpa using h6
        go_wp2_with fail
        refine (must_no 1 _).mono ?_
        rintro e w' ⟨rfl, rfl⟩
        exact ⟨rfl, HB3.out, .inl ⟨by simp [validB, okZR, hd], rfl⟩⟩
      have hd6 : decide (p.rh - p.rl ≤ 4) = true := by simpa using h6
      go_wp2_with fail
      refine (must_ok 1 _).mono ?_
      rintro e w' ⟨rfl, rfl⟩
      have c6 : ∀ o, (w3.alloc o).cell? ⟨w.heap.size, 5, none⟩ = some (.slice ao2 p.rs.length cap2) := fun o => by rw [cell_of_row _ _ _ _ _ _ ((hget_old _ _ _ (by have := lt_of_block HRW3.out; omega)).trans HRW3.out)]; rfl
      have hzr : okZR p = true := by simp [okZR, h3, h4, hd5, hd6]
      have hhd : okHead p = true := by simp [okHead, h1]; omega
      clear h1 h3 h4 hd5 hd6
      go_wp2_with fail
      obtain ⟨W4, hW4⟩ : ∃ W4, W4 = w3.alloc (benchObj (.slice ao p.bs.length cap) (.slice ao2 p.rs.length cap2) p.zl p.zh p.rl p.rh (.map none)) := ⟨_, rfl⟩
      have hbp : W4.heap[w3.heap.size]? = some (benchObj (.slice ao p.bs.length cap) (.slice ao2 p.rs.length cap2) p.zl p.zh p.rl p.rh (.map none)) := by rw [hW4]; exact heap_alloc_at _ _ _ rfl
      have hb4 : Below w.heap.size w W4 := by rw [hW4]; exact HB3.out.alloc (HB3.out.size) _
      unfold benchObj at hW4
      rw [← hW4]
      have hlb : w.heap.size ≤ w3.heap.size := HB3.out.size
      have HBP := Lib.hid hbp
      have HB4 := Lib.hid hb4
      clear hbp hb4 hW4 c6 c0 c1 c2 c3 c4 c5
      go_loopw [67] (fun i wr => ∃ k : Nat, k ≤ p.rs.length ∧ i = .int .i64 k ∧ (p.rs.take k).all (okRd p.bs.length) = true ∧ wr.heap[w3.heap.size]? = some (benchObj (.slice ao p.bs.length cap) (.slice ao2 p.rs.length cap2) p.zl p.zh p.rl p.rh (.map none)) ∧ Below w.heap.size w wr) (fun i _ => p.rs.length - (intOf i).toNat)
      case atStart => exact ⟨0, by omega, rfl, by simp, HBP.out, HB4.out⟩
      case round =>
        obtain ⟨k, hk, rfl, hra, hrow, hb⟩ := hrel
        have HRW := Lib.hid hrow
        have HB := Lib.hid hb
        have HRA := Lib.hid hra
        clear hrow hb hra
        by_cases hlk : k < p.rs.length
        · obtain ⟨b, off, rfl, hr, hbl, e1, e2, e3, e4, e5⟩ := HE2.out k hlk
          have f1 := (HB.out.cell (p := ⟨b, off + k * 5, none⟩) hbl).trans e1
          have f2 := (HB.out.cell (p := ⟨b, off + k * 5 + 1, none⟩) hbl).trans e2
          have f3 := (HB.out.cell (p := ⟨b, off + k * 5 + 2, none⟩) hbl).trans e3
          have f4 := (HB.out.cell (p := ⟨b, off + k * 5 + 3, none⟩) hbl).trans e4
          have f5 := (HB.out.cell (p := ⟨b, off + k * 5 + 4, none⟩) hbl).trans e5
          clear e1 e2 e3 e4 e5
          have HTA := Lib.hid (take_all p.rs (okRd p.bs.length) k hlk HRA.out)
          have HAF := Lib.hid (all_false p.rs (okRd p.bs.length) k hlk)
          generalize p.rs[k] = rd at *
          obtain ⟨ra, rb, rm, rlo, rhi⟩ := rd
          have HNO : Hid (okRd p.bs.length ⟨ra, rb, rm, rlo, rhi⟩ = false → validB p = false) := fun h => (by simp only [validB, HAF.out h, Bool.and_false])
          clear HAF
          go_wp2_with fail
          have hx1 := HB.out.size
          obtain ⟨W5, hW5⟩ : ∃ W5, W5 = wr.alloc (.cells #[.int .i64 ra, .int .i64 rb, .int .i64 rm, .int .i64 rlo, .int .i64 rhi] 48 (0, 0)) := ⟨_, rfl⟩
          have hb5 : Below w.heap.size w W5 := by rw [hW5]; exact HB.out.alloc hx1 _
          have hrw5 : W5.heap[w3.heap.size]? = some (benchObj (.slice ao p.bs.length cap) (.slice (some ⟨b, off, none⟩) p.rs.length cap2) p.zl p.zh p.rl p.rh (.map none)) := by rw [hW5]; exact (hget_old _ _ _ (by have := lt_of_block HRW.out; omega)).trans HRW.out
          have hrd : W5.heap[wr.heap.size]? = some (.cells #[.int .i64 ra, .int .i64 rb, .int .i64 rm, .int .i64 rlo, .int .i64 rhi] 48 (0, 0)) := by rw [hW5]; exact heap_alloc_at _ _ _ rfl
          rw [← hW5]
          have g0 : W5.cell? ⟨wr.heap.size, 0, none⟩ = some (.int .i64 ra) := by rw [cell_of_row W5 _ _ _ _ _ hrd]; rfl
          have g1 : W5.cell? ⟨wr.heap.size, 1, none⟩ = some (.int .i64 rb) := by rw [cell_of_row W5 _ _ _ _ _ hrd]; rfl
          have g2 : W5.cell? ⟨wr.heap.size, 2, none⟩ = some (.int .i64 rm) := by rw [cell_of_row W5 _ _ _ _ _ hrd]; rfl
          have g3 : W5.cell? ⟨wr.heap.size, 3, none⟩ = some (.int .i64 rlo) := by rw [cell_of_row W5 _ _ _ _ _ hrd]; rfl
          have g4 : W5.cell? ⟨wr.heap.size, 4, none⟩ = some (.int .i64 rhi) := by rw [cell_of_row W5 _ _ _ _ _ hrd]; rfl
          have HRW5 := Lib.hid hrw5
          have HB5 := Lib.hid hb5
          clear hb5 hrw5 hrd hW5 f1 f2 f3 f4 f5
          refine (isBlock_any w3.heap.size p.bs.length cap ao _ _ _ _ _ _ ra (by omega) W5 HRW5.out).mono ?_
          rintro e w' ⟨rfl, rfl⟩
          cases k1 : inB ra 0 ((p.bs.length : Int) - 1) with
          | false =>
            go_wp2_with fail
            refine (must_no 1 _).mono ?_
            rintro e w' ⟨rfl, rfl⟩
            exact ⟨rfl, HB5.out, .inl ⟨HNO.out (by simp [okRd, k1]), rfl⟩⟩
          | true =>
          go_wp2_with fail
          refine (isBlock_any w3.heap.size p.bs.length cap ao _ _ _ _ _ _ rb (by omega) W5 HRW5.out).mono ?_
          rintro e w' ⟨rfl, rfl⟩
          cases k2 : inB rb 0 ((p.bs.length : Int) - 1) with
          | false =>
            go_wp2_with fail
            refine (must_no 1 _).mono ?_
            rintro e w' ⟨rfl, rfl⟩
            exact ⟨rfl, HB5.out, .inl ⟨HNO.out (by simp [okRd, k2]), rfl⟩⟩
          | true =>
          by_cases k3 : ra = rb
          case pos =>
            have hd : (ra != rb) = false := by simpa using k3
            go_wp2_with fail
            refine (must_no 1 _).mono ?_
            rintro e w' ⟨rfl, rfl⟩
            exact ⟨rfl, HB5.out, .inl ⟨HNO.out (by simp [okRd, k3]), rfl⟩⟩
          have hd3 : (ra != rb) = true := by simpa using k3
          go_wp2_with fail
          refine (isMinute_any rm W5).mono ?_
          rintro e w' ⟨rfl, rfl⟩
          cases k4 : inB rm 0 60 with
          | false =>
            go_wp2_with fail
            refine (must_no 1 _).mono ?_
            rintro e w' ⟨rfl, rfl⟩
            exact ⟨rfl, HB5.out, .inl ⟨HNO.out (by simp [okRd, k4]), rfl⟩⟩
          | true =>
          go_wp2_with fail
          refine (isSpan_any rlo rhi 80 (by omega) W5).mono ?_
          rintro e w6 ⟨rfl, hb6⟩
          have HB6 := Lib.hid (HB5.out.trans (hb6.mono (by have := HB5.out.size; omega)))
          have HRW6 := Lib.hid ((hb6.block _ (lt_of_block HRW5.out)).trans HRW5.out)
          clear hb6 g0 g1 g2 g3 g4
          cases k5 : okSpan rlo rhi 80 with
          | false =>
            go_wp2_with fail
            refine (must_no 1 _).mono ?_
            rintro e w' ⟨rfl, rfl⟩
            exact ⟨rfl, HB6.out, .inl ⟨HNO.out (by simp [okRd, k5]), rfl⟩⟩
          | true =>
          have hok : okRd p.bs.length ⟨ra, rb, rm, rlo, rhi⟩ = true := by simp [okRd, k1, k2, k3, k4, k5]
          go_wp2_with fail
          refine (must_ok 1 _).mono ?_
          rintro e w' ⟨rfl, rfl⟩
          go_wp2_with fail
          go_roundw
          case rel => exact ⟨k + 1, by omega, by go_num, HTA.out.trans hok, HRW6.out, HB6.out⟩
          case measure => simp [intOf]; omega
        · obtain rfl : k = p.rs.length := by omega
          have hrall := HRA.out
          rw [List.take_length] at hrall
          have hv : validB p = true := by simp only [validB, hhd, hall, hzr, hrall, Bool.and_self]
          have HV := Lib.hid hv
          have HFA := Lib.hid (HF.out hv wr w3.heap.size HB.out HRW.out)
          clear hv hrall HRA hzr hhd hall HALL
          go_wp2_with fail
          refine HFA.out.mono ?_
          rintro e w' ⟨rfl, rfl⟩
          cases v with
          | false =>
            go_wp2_with fail
            refine (must_no 2 _).mono ?_
            rintro e w' ⟨rfl, rfl⟩
            exact ⟨rfl, HB.out, .inr (.inl ⟨HV.out, rfl, rfl⟩)⟩
          | true =>
            go_wp2_with fail
            refine (must_ok 2 _).mono ?_
            rintro e w' ⟨rfl, rfl⟩
            go_wp2
            refine bodyPost_ret (v := .pointer (some ⟨w3.heap.size, 0, none⟩)) (by simp [results, Try.results45, go_sem]) rfl ⟨HB.out, .inr ⟨HV.out, w3.heap.size, hlb, rfl, HRW.out⟩⟩

end Go.Proofs.Ytabbmihakoeegaa

/- A stop is caught. -/
namespace Go.Proofs.Ytabbmihakoeegaa
set_option linter.unusedVariables false
set_option linter.unusedSimpArgs false
open Go.RowKit Go.Shelf
attribute [local go_sem] Oper.semAt_some

theorem stopped_nil (ep : Nat) (w : World) :
    Calls Try.prog 44 #[.nilIface, .pointer (some ⟨ep, 0, none⟩)] w fun e w' => e = .returned (.tuple #[]) ∧ w = w' := by
  go_enter Try.func44, Try.ntmps44
  go_wp2
  exact bodyPost_ret (v := .tuple #[]) (by simp [results, Try.results44, go_sem]) rfl ⟨rfl, rfl⟩
set_option maxRecDepth 100000 in
theorem stopped_stop (n : Int) (ep : Nat) (x : Int) (w : World) (hep : w.heap[ep]? = some (.cells #[.int .i64 x] 33 (0, 0))) :
    Calls Try.prog 44 #[stopV n, .pointer (some ⟨ep, 0, none⟩)] w fun e w' => e = .returned (.tuple #[]) ∧ Keeps (fun k => k = ep) w w' ∧ w'.heap[ep]? = some (.cells #[.int .i64 n] 33 (0, 0)) := by
  unfold stopV
  have hlt := lt_of_block hep
  have c0 : ∀ o, (w.alloc o).cell? ⟨ep, 0, none⟩ = some (.int .i64 x) := fun o => by rw [cell_of_row _ _ _ _ _ _ ((hget_old _ _ _ (by omega)).trans hep)]; rfl
  have c1 : ∀ o k, (w.alloc o).frozen? ⟨ep, k, none⟩ = false := fun o k => frozen_of_row _ _ _ _ _ ((hget_old _ _ _ (by omega)).trans hep)
  have c2 : (w.setCell ⟨ep, 0, none⟩ (.int .i64 n)).heap[ep]? = some (.cells #[.int .i64 n] 33 (0, 0)) := by
    simp [World.setCell, Array.getElem?_modify, hep]
  have hta : (Instr.typeAssert (.iface 126 (.agg #[.int .i64 n])) 20 126 true).run Try.prog w = .ok (.tuple #[.agg #[.int .i64 n], .bool true]) w := by kernel_rfl
  have C2 := Lib.hid c2
  clear c2
  go_enter Try.func44, Try.ntmps44
  go_wp2
  go_end0
  refine ⟨rfl, (Keeps.setCell (Mut := fun k => k = ep) _ _ _ rfl).trans (Keeps.alloc _ _ _), (hget_old _ _ _ (by simp; omega)).trans C2.out⟩

theorem catch_idle_known (ep : Nat) (w : World) :
    CallsD Try.prog 43 #[.pointer (some ⟨ep, 0, none⟩)] .returning w fun e u' w' => e = .returned (.tuple #[]) ∧ u' = .returning ∧ w' = w := by
  refine callsD_of_wpS Try.func43 rfl fun c₀ cs hu => ?_
  apply wpS_region
  have hm : c₀ = { c₀ with mode := .returning } := by cases c₀; simp_all
  simp [wpOpsS, go_sem, recoverD, hu, Try.ntmps43, Oper.upon]
  refine (stopped_nil ep w).mono ?_
  rintro e w' ⟨rfl, rfl⟩
  simp only [bodyPostS]
  exact ⟨trivial, .returning, by rw [← hm], .tuple #[], by simp [results, Try.results43, go_sem], by first | exact ⟨rfl, rfl, rfl⟩ | exact ⟨trivial, rfl, rfl⟩ | simp⟩
theorem catch_stop_known (n : Int) (ep : Nat) (x : Int) (w : World) (hep : w.heap[ep]? = some (.cells #[.int .i64 x] 33 (0, 0))) :
    CallsD Try.prog 43 #[.pointer (some ⟨ep, 0, none⟩)] (.panicking [{ v := stopV n, recovered := false }]) w fun e u' w' => e = .returned (.tuple #[]) ∧ u' = .panicking [{ v := stopV n, recovered := true }] ∧ Keeps (fun k => k = ep) w w' ∧ w'.heap[ep]? = some (.cells #[.int .i64 n] 33 (0, 0)) := by
  refine callsD_of_wpS Try.func43 rfl fun c₀ cs hu => ?_
  apply wpS_region
  simp [wpOpsS, go_sem, recoverD, hu, Try.ntmps43, Oper.upon]
  refine (stopped_stop n ep x w hep).mono ?_
  rintro e w' ⟨rfl, h1, h2⟩
  simp only [bodyPostS]
  exact ⟨trivial, _, rfl, .tuple #[], by simp [results, Try.results43, go_sem], by first | exact ⟨rfl, rfl, h1, h2⟩ | exact ⟨trivial, rfl, h1, h2⟩ | (simp; exact ⟨h1, h2⟩)⟩
theorem catch_idle_groups (ep : Nat) (w : World) :
    CallsD Try.prog 60 #[.pointer (some ⟨ep, 0, none⟩)] .returning w fun e u' w' => e = .returned (.tuple #[]) ∧ u' = .returning ∧ w' = w := by
  refine callsD_of_wpS Try.func60 rfl fun c₀ cs hu => ?_
  apply wpS_region
  have hm : c₀ = { c₀ with mode := .returning } := by cases c₀; simp_all
  simp [wpOpsS, go_sem, recoverD, hu, Try.ntmps60, Oper.upon]
  refine (stopped_nil ep w).mono ?_
  rintro e w' ⟨rfl, rfl⟩
  simp only [bodyPostS]
  exact ⟨trivial, .returning, by rw [← hm], .tuple #[], by simp [results, Try.results60, go_sem], by first | exact ⟨rfl, rfl, rfl⟩ | exact ⟨trivial, rfl, rfl⟩ | simp⟩
theorem catch_stop_groups (n : Int) (ep : Nat) (x : Int) (w : World) (hep : w.heap[ep]? = some (.cells #[.int .i64 x] 33 (0, 0))) :
    CallsD Try.prog 60 #[.pointer (some ⟨ep, 0, none⟩)] (.panicking [{ v := stopV n, recovered := false }]) w fun e u' w' => e = .returned (.tuple #[]) ∧ u' = .panicking [{ v := stopV n, recovered := true }] ∧ Keeps (fun k => k = ep) w w' ∧ w'.heap[ep]? = some (.cells #[.int .i64 n] 33 (0, 0)) := by
  refine callsD_of_wpS Try.func60 rfl fun c₀ cs hu => ?_
  apply wpS_region
  simp [wpOpsS, go_sem, recoverD, hu, Try.ntmps60, Oper.upon]
  refine (stopped_stop n ep x w hep).mono ?_
  rintro e w' ⟨rfl, h1, h2⟩
  simp only [bodyPostS]
  exact ⟨trivial, _, rfl, .tuple #[], by simp [results, Try.results60, go_sem], by first | exact ⟨rfl, rfl, h1, h2⟩ | exact ⟨trivial, rfl, h1, h2⟩ | (simp; exact ⟨h1, h2⟩)⟩
end Go.Proofs.Ytabbmihakoeegaa

/- A region that draws its order and may panic, in a function that defers: what is read is taken first; the rest comes in one order. -/
namespace Go.Proofs.Ytabbmihakoeegaa
set_option linter.unusedVariables false
set_option linter.unusedSimpArgs false
open Go.RowKit Go.Shelf

section
variable {P : Program} {ops : Array Oper} {md : Region.Mode} {S : World → Prop}
theorem Leaves.congr {fn : Func} {t1 t2 : Array Value} {R : Ending → World → Prop} (hr : ∀ w v, (results fn t1).run P w = .ok v w → (results fn t2).run P w = .ok v w) :
    ∀ (ds : List Deferred) (u : FrameMode) (w : World), Leaves P fn t1 R ds u w → Leaves P fn t2 R ds u w
  | [], .returning, w, h => by obtain ⟨v, h1, h2⟩ := h; exact ⟨v, hr _ _ h1, h2⟩
  | [], .panicking _, w, h => h
  | [], .run, w, h => h
  | d :: ds, u, w, h => by
    obtain ⟨h1, fv, cap, f, args, h2, h3, h4⟩ := h
    refine ⟨h1, fv, cap, f, args, h2, h3, h4.mono ?_⟩
    intro e u' w' he
    cases e with
    | returned v => exact Leaves.congr hr ds _ _ he
    | panicked c => exact Leaves.congr hr ds _ _ he
    | outgrown => exact he
theorem wpAnyH_call {Q : Exit → Act → World → Prop} {k fuel : Nat} {o : Oper} {f : FuncId} {args : Array Value} {listed : Array Bool} {a : Act} {w : World} (hr : Region.ready md ops listed = [k]) (ho : ops[k]? = some o) (hg : Region.wanted o (yielded ops a.tmps) = true)
    (hrun : (execOp a.eval o).run P w = .ok (.enter f args) w)
    (h : Calls P f args w fun
      | .returned v, w' => S w' ∧ wpAnyH P md ops Q S fuel (listed.setIfInBounds k true) (a.put o.dst v) w'
      | .panicked c, w' => Q (.panic c) a w'
      | .outgrown, _ => LetsOut Q) : wpAnyH P md ops Q S (fuel + 1) listed a w := by
  refine wpAnyH_all hr (by simp) fun i hi => ?_
  obtain rfl : i = k := by simpa using hi
  unfold wpOp
  rw [ho]
  simp only [hg, if_true]
  left
  unfold Oper.wp
  rw [hrun]
  simp only [Oper.upon]
  refine h.mono fun e w'' he => ?_
  cases e <;> exact he
theorem wpAnyH_skip {Q : Exit → Act → World → Prop} {k fuel : Nat} {o : Oper} {listed : Array Bool} {a : Act} {w w' : World} (hr : Region.ready md ops listed = [k]) (ho : ops[k]? = some o) (hg : Region.wanted o (yielded ops a.tmps) = true)
    (hrun : (execOp a.eval o).run P w = .ok .skip w') (hS : S w')
    (h : wpAnyH P md ops Q S fuel (listed.setIfInBounds k true) (a.put o.dst undef) w') : wpAnyH P md ops Q S (fuel + 1) listed a w := by
  refine wpAnyH_all hr (by simp) fun i hi => ?_
  obtain rfl : i = k := by simpa using hi
  unfold wpOp
  rw [ho]
  simp only [hg, if_true]
  left
  unfold Oper.wp
  rw [hrun]
  exact ⟨hS, h⟩
theorem yields_value {o : Oper} {v : Value} {a : Act} (hg : Region.wanted o (yielded ops a.tmps) = true) (h : ∀ w, S w → (execOp a.eval o).run P w = .ok (.value v) w) : YieldsIf P ops S o v a := .inl ⟨hg, h⟩
end
end Go.Proofs.Ytabbmihakoeegaa

/- Known, Differ and Shows. -/
namespace Go.Proofs.Ytabbmihakoeegaa
set_option linter.unusedVariables false
set_option linter.unusedSimpArgs false
open Go.RowKit Go.Shelf
attribute [local go_sem] Oper.semAt_some

/-- What a function that looks at all truths returns. -/
def ToldRes (p : PairD) (ok : Bool) (g : (Int × Int) × Tab → Int × Int) (s : Int × Int) (er : Int) : Prop :=
  (validB p = false ∧ s = (0, 0) ∧ er = 1) ∨ (validB p = true ∧ ok = false ∧ s = (0, 0) ∧ er = 2) ∨ (validB p = true ∧ ok = true ∧ pairOuts p (allR p) = [] ∧ s = (0, 0) ∧ er = 10) ∨
  (validB p = true ∧ ok = true ∧ pairOuts p (allR p) ≠ [] ∧ er = 0 ∧ IsHull (fun v => v ∈ (pairOuts p (allR p)).map g) s)

section
variable (p : PairD) (bs rs : Value) (Rd : Nat → Prop) (w : World) (hbs : SpansAt w bs p.bs Rd) (hrs : ReadsAt w rs p.rs Rd) (f : Nat) (caps : Array Value) (v : Bool)
    (eg : ∀ args w, (callFunc f args).run Try.prog w = .ok (.enter f args) w)
    (hf : validB p = true → ∀ W bp, Below w.heap.size w W → W.heap[bp]? = some (benchObj bs rs p.zl p.zh p.rl p.rh (.map none)) → Calls Try.prog f (#[.pointer (some ⟨bp, 0, none⟩)] ++ caps) W fun e W' => e = .returned (.bool v) ∧ W = W')
include hbs hrs eg hf
theorem open_bad (hv : validB p = false) : Calls Try.prog 45 #[.agg (pairRow p bs rs), .func (.func f) #[] caps] w fun e w' => e = .panicked [{ v := stopV 1, recovered := false }] ∧ Below w.heap.size w w' :=
  (open_any p bs rs Rd w hbs hrs f caps v eg hf).mono fun e w' h => by
    obtain ⟨hb, (⟨_, rfl⟩ | ⟨h1, _⟩ | ⟨h1, _⟩)⟩ := h
    · exact ⟨rfl, hb⟩
    · rw [hv] at h1; cases h1
    · rw [hv] at h1; cases h1
theorem open_no (hv : validB p = true) (hn : v = false) : Calls Try.prog 45 #[.agg (pairRow p bs rs), .func (.func f) #[] caps] w fun e w' => e = .panicked [{ v := stopV 2, recovered := false }] ∧ Below w.heap.size w w' :=
  (open_any p bs rs Rd w hbs hrs f caps v eg hf).mono fun e w' h => by
    obtain ⟨hb, (⟨h1, _⟩ | ⟨_, _, rfl⟩ | ⟨_, h1, _⟩)⟩ := h
    · rw [hv] at h1; cases h1
    · exact ⟨rfl, hb⟩
    · rw [hn] at h1; cases h1
theorem open_yes (hv : validB p = true) (hn : v = true) : Calls Try.prog 45 #[.agg (pairRow p bs rs), .func (.func f) #[] caps] w fun e w' => ∃ bp, e = .returned (.pointer (some ⟨bp, 0, none⟩)) ∧ w.heap.size ≤ bp ∧ w'.heap[bp]? = some (benchObj bs rs p.zl p.zh p.rl p.rh (.map none)) ∧ Below w.heap.size w w' :=
  (open_any p bs rs Rd w hbs hrs f caps v eg hf).mono fun e w' h => by
    obtain ⟨hb, (⟨h1, _⟩ | ⟨_, h1, _⟩ | ⟨_, _, bp, h2, h3, h4⟩)⟩ := h
    · rw [hv] at h1; cases h1
    · rw [hn] at h1; cases h1
    · exact ⟨bp, h3, h2, h4, hb⟩
end
section
variable (p : PairD) (hp : OkP p) (bp : Nat) (bs rs : Value) (w : World) (hbp : w.heap[bp]? = some (benchObj bs rs p.zl p.zh p.rl p.rh (.map none))) (Rd : Nat → Prop) (hRd : ∀ k, Rd k → k ≠ bp) (hbs : SpansAt w bs p.bs Rd) (hrs : ReadsAt w rs p.rs Rd)
include hp hbp hRd hbs hrs
theorem told_no (hn : pairOuts p (allR p) = []) : Calls Try.prog 48 #[.pointer (some ⟨bp, 0, none⟩)] w fun e w' => e = .panicked [{ v := stopV 10, recovered := false }] ∧ Keeps (fun k => k = bp) w w' :=
  (told_any p hp bp bs rs w hbp Rd hRd hbs hrs).mono fun e w' h => by
    obtain ⟨hb, (⟨_, rfl⟩ | ⟨h1, _⟩)⟩ := h
    · exact ⟨rfl, hb⟩
    · exact absurd hn h1
theorem told_yes (hn : pairOuts p (allR p) ≠ []) : Calls Try.prog 48 #[.pointer (some ⟨bp, 0, none⟩)] w fun e w' => e = .returned (.pointer (some ⟨bp, 0, none⟩)) ∧ (∃ mb, Told p bp mb bs rs w') ∧ Keeps (fun k => k = bp) w w' :=
  (told_any p hp bp bs rs w hbp Rd hRd hbs hrs).mono fun e w' h => by
    obtain ⟨hb, (⟨h1, _⟩ | ⟨h1, rfl, mb, h2, h3, h4⟩)⟩ := h
    · exact absurd h1 hn
    · exact ⟨rfl, ⟨mb, h3, h4⟩, hb⟩
end

theorem known2_any (p : PairD) (x : Int) (px bp n cap : Nat) (ao : Option Addr) (rs mv : Value) (hn : n ≤ 1000) (w : World) (hpx : w.heap[px]? = some (.cells #[.int .i64 x] 3 (0, 0))) (hbp : w.heap[bp]? = some (benchObj (.slice ao n cap) rs p.zl p.zh p.rl p.rh mv)) :
    Calls Try.prog 46 (#[.pointer (some ⟨bp, 0, none⟩)] ++ #[.pointer (some ⟨px, 0, none⟩)]) w fun e w' => e = .returned (.bool (inB x 0 ((n : Int) - 1))) ∧ w = w' := by
  have d0 : w.cell? ⟨px, 0, none⟩ = some (.int .i64 x) := by rw [cell_of_row w _ _ _ _ _ hpx]; rfl
  go_enter Try.func46, Try.ntmps46
  go_wp2_with (first | (go_at_call 47; refine (isBlock_any bp n cap ao rs mv _ _ _ _ x hn w hbp).mono ?_; rintro e w' ⟨rfl, rfl⟩))
  go_ret
  exact ⟨rfl, rfl⟩


theorem underPair : Try.prog.underlying 27 = some (.struct (Try.prog.fieldsOf 27)) := by kernel_rfl
theorem known_results (t1 t2 : Array Value) (h4 : t1.getD 4 undef = t2.getD 4 undef) (h5 : t1.getD 5 undef = t2.getD 5 undef) : results Try.f14 t1 = results Try.f14 t2 := by
  have : Try.f14.results = #[.cell 4 24, .cell 5 33] := rfl
  unfold results
  rw [this]
  have h4' : t1[4]?.getD undef = t2[4]?.getD undef := by simpa [Array.getD_eq_getD_getElem?] using h4
  have h5' : t1[5]?.getD undef = t2[5]?.getD undef := by simpa [Array.getD_eq_getD_getElem?] using h5
  simp [h4', h5']
theorem known_put {R : Ending → World → Prop} {c : List PanicEntry} {d : Nat} {v : Value} {a : Act} {w : World} (h4 : d ≠ 4) (h5 : d ≠ 5)
    (h : bodyPostD Try.prog Try.f14 R (.panic c) (a.put (some d) v) w) : bodyPostD Try.prog Try.f14 R (.panic c) a w := by
  refine Leaves.congr (fun w v hh => ?_) _ _ _ h
  rw [known_results _ a.tmps] at hh
  · exact hh
  · simp [Act.put, Array.getD_eq_getD_getElem?, Array.getElem?_setIfInBounds, h4]
  · simp [Act.put, Array.getD_eq_getD_getElem?, Array.getElem?_setIfInBounds, h5]
theorem known_run (tmps : Array Value) (S E : Nat) (lo hi n : Int) (W : World) (h4 : tmps.getD 4 undef = .pointer (some ⟨S, 0, none⟩)) (h5 : tmps.getD 5 undef = .pointer (some ⟨E, 0, none⟩))
    (hs : W.heap[S]? = some (.cells #[.int .i64 lo, .int .i64 hi] 24 (0, 0))) (he : W.heap[E]? = some (.cells #[.int .i64 n] 33 (0, 0))) :
    (results Try.f14 tmps).run Try.prog W = .ok (.tuple #[spanV (lo, hi), .int .i64 n]) W := by
  have e0 : W.cell? ⟨S, 0, none⟩ = some (.int .i64 lo) := by rw [cell_of_row W _ _ _ _ _ hs]; rfl
  have e1 : W.cell? ⟨S, 1, none⟩ = some (.int .i64 hi) := by rw [cell_of_row W _ _ _ _ _ hs]; rfl
  have e2 : W.cell? ⟨E, 0, none⟩ = some (.int .i64 n) := by rw [cell_of_row W _ _ _ _ _ he]; rfl
  rw [known_results tmps #[undef, undef, undef, undef, .pointer (some ⟨S, 0, none⟩), .pointer (some ⟨E, 0, none⟩)] h4 h5]
  simp [results, Try.results14, go_sem, spanV, e0, e1, e2]
theorem known_leaf (n : Int) (R : Ending → World → Prop) (S E : Nat) (tmps : Array Value) (w5 : World) (h4 : tmps.getD 4 undef = .pointer (some ⟨S, 0, none⟩)) (h5 : tmps.getD 5 undef = .pointer (some ⟨E, 0, none⟩)) (hSE : S ≠ E)
    (hs : w5.heap[S]? = some (.cells #[.int .i64 0, .int .i64 0] 24 (0, 0))) (he : w5.heap[E]? = some (.cells #[.int .i64 0] 33 (0, 0)))
    (hR : ∀ W', Keeps (fun k => k = E) w5 W' → R (.returned (.tuple #[spanV (0, 0), .int .i64 n])) W') :
    Leaves Try.prog Try.f14 tmps R [{ target := .fn (.func 43) #[.pointer (some ⟨E, 0, none⟩)], args := #[] }] (.panicking [{ v := stopV n, recovered := false }]) w5 := by
  refine leaves_cons (f := 43) (args := #[.pointer (some ⟨E, 0, none⟩)]) (by simp) (by simp [go_sem, invoke]) ?_
  refine (catch_stop_known n E 0 w5 he).mono ?_
  rintro e u' w' ⟨rfl, rfl, hk, he'⟩
  exact ⟨_, known_run tmps S E 0 0 n w' h4 h5 ((hk.block _ (lt_of_block hs) (by omega)).trans hs) he', hR _ hk⟩
theorem known_leaf_ret (R : Ending → World → Prop) (S E : Nat) (lo hi : Int) (tmps : Array Value) (w5 : World) (h4 : tmps.getD 4 undef = .pointer (some ⟨S, 0, none⟩)) (h5 : tmps.getD 5 undef = .pointer (some ⟨E, 0, none⟩))
    (hs : w5.heap[S]? = some (.cells #[.int .i64 lo, .int .i64 hi] 24 (0, 0))) (he : w5.heap[E]? = some (.cells #[.int .i64 0] 33 (0, 0)))
    (hR : R (.returned (.tuple #[spanV (lo, hi), .int .i64 0])) w5) :
    Leaves Try.prog Try.f14 tmps R [{ target := .fn (.func 43) #[.pointer (some ⟨E, 0, none⟩)], args := #[] }] .returning w5 := by
  refine leaves_cons (f := 43) (args := #[.pointer (some ⟨E, 0, none⟩)]) (by simp) (by simp [go_sem, invoke]) ?_
  refine (catch_idle_known E w5).mono ?_
  rintro e u' w' ⟨rfl, rfl, rfl⟩
  exact ⟨_, known_run tmps S E lo hi 0 w' h4 h5 hs he, hR⟩

set_option maxRecDepth 100000 in
set_option maxHeartbeats 2000000 in
theorem known_any (p : PairD) (bs rs : Value) (x : Int) (Rd : Nat → Prop) (w : World) (hRd : ∀ k, Rd k → k < w.heap.size) (hbs : SpansAt w bs p.bs Rd) (hrs : ReadsAt w rs p.rs Rd) :
    Calls Try.prog 14 #[.agg (pairRow p bs rs), .int .i64 x] w fun e w' => ∃ s er, e = .returned (.tuple #[spanV s, .int .i64 er]) ∧ ToldRes p (inB x 0 ((p.bs.length : Int) - 1)) (difOf x.toNat 5) s er ∧ Below w.heap.size w w' := by
  have hmf : ∀ fn first cap w, (Instr.makeFunc fn first cap).run Try.prog w = .ok (.func fn first cap) w := fun _ _ _ _ => rfl
  obtain ⟨W0, hW0⟩ : ∃ W0, W0 = (((w.alloc (.cells (pairRow p bs rs) 27 (0, 0))).alloc (.cells #[.int .i64 x] 3 (0, 0))).alloc (.cells #[.int .i64 0, .int .i64 0] 24 (0, 0))).alloc (.cells #[.int .i64 0] 33 (0, 0)) := ⟨_, rfl⟩
  have w0 : W0.heap[w.heap.size]? = some (.cells (pairRow p bs rs) 27 (0, 0)) := by rw [hW0]; exact (by repeat (first | (refine heap_alloc_at _ _ _ ?_; (simp <;> omega); done) | (refine (hget_old _ _ _ ?_).trans ?_; · (simp <;> omega))))
  have w1 : W0.heap[w.heap.size + 1]? = some (.cells #[.int .i64 x] 3 (0, 0)) := by rw [hW0]; exact (by repeat (first | (refine heap_alloc_at _ _ _ ?_; (simp <;> omega); done) | (refine (hget_old _ _ _ ?_).trans ?_; · (simp <;> omega))))
  have w2 : W0.heap[w.heap.size + 1 + 1]? = some (.cells #[.int .i64 0, .int .i64 0] 24 (0, 0)) := by rw [hW0]; exact (by repeat (first | (refine heap_alloc_at _ _ _ ?_; (simp <;> omega); done) | (refine (hget_old _ _ _ ?_).trans ?_; · (simp <;> omega))))
  have w3 : W0.heap[w.heap.size + 1 + 1 + 1]? = some (.cells #[.int .i64 0] 33 (0, 0)) := by rw [hW0]; exact (by repeat (first | (refine heap_alloc_at _ _ _ ?_; (simp <;> omega); done) | (refine (hget_old _ _ _ ?_).trans ?_; · (simp <;> omega))))
  have hbW : Below w.heap.size w W0 := by rw [hW0]; exact ((((Below.refl _ _).alloc (Nat.le_refl _) _).alloc (by simp) _).alloc (by simp <;> omega) _).alloc (by simp <;> omega) _
  have hsW : W0.heap.size = w.heap.size + 4 := by rw [hW0]; simp
  have hbsW : SpansAt W0 bs p.bs Rd := hbs.later (by omega) (fun k hk _ => hbW.block k hk)
  have hrsW : ReadsAt W0 rs p.rs Rd := hrs.later (by omega) (fun k hk _ => hbW.block k hk)
  have hf : validB p = true → ∀ W bp, Below W0.heap.size W0 W → W.heap[bp]? = some (benchObj bs rs p.zl p.zh p.rl p.rh (.map none)) → Calls Try.prog 46 (#[.pointer (some ⟨bp, 0, none⟩)] ++ #[.pointer (some ⟨w.heap.size + 1, 0, none⟩)]) W fun e W' => e = .returned (.bool (inB x 0 ((p.bs.length : Int) - 1))) ∧ W = W' := fun hv W bp hb hbp => by
    obtain ⟨ao, cap, hbse, hc1, hc2, _⟩ := hbs
    rw [hbse] at hbp
    have := (OkP.of p hv).n5
    exact known2_any p x (w.heap.size + 1) bp p.bs.length cap ao rs _ (by omega) W ((hb.block _ (by omega)).trans w1) hbp
  have hfd : validB p = true → ∀ W bp, Below W0.drew.heap.size W0.drew W → W.heap[bp]? = some (benchObj bs rs p.zl p.zh p.rl p.rh (.map none)) → Calls Try.prog 46 (#[.pointer (some ⟨bp, 0, none⟩)] ++ #[.pointer (some ⟨w.heap.size + 1, 0, none⟩)]) W fun e W' => e = .returned (.bool (inB x 0 ((p.bs.length : Int) - 1))) ∧ W = W' :=
    fun hv W bp hb hbp => hf hv W bp ((Below.refl _ _).drew.trans hb) hbp
  have HF := Lib.hid hfd
  clear hfd
  have HBS := Lib.hid hbsW
  have HRS := Lib.hid hrsW
  have HB := Lib.hid hbW
  clear hf hbsW hrsW hbW hbs hrs
  have c0 : W0.cell? ⟨w.heap.size, 0, none⟩ = some bs := by rw [cell_of_row W0 _ _ _ _ _ w0]; rfl
  have c1 : W0.cell? ⟨w.heap.size, 1, none⟩ = some (.int .i64 p.zl) := by rw [cell_of_row W0 _ _ _ _ _ w0]; rfl
  have c2 : W0.cell? ⟨w.heap.size, 2, none⟩ = some (.int .i64 p.zh) := by rw [cell_of_row W0 _ _ _ _ _ w0]; rfl
  have c3 : W0.cell? ⟨w.heap.size, 3, none⟩ = some (.int .i64 p.rl) := by rw [cell_of_row W0 _ _ _ _ _ w0]; rfl
  have c4 : W0.cell? ⟨w.heap.size, 4, none⟩ = some (.int .i64 p.rh) := by rw [cell_of_row W0 _ _ _ _ _ w0]; rfl
  have c5 : W0.cell? ⟨w.heap.size, 5, none⟩ = some rs := by rw [cell_of_row W0 _ _ _ _ _ w0]; rfl
  have c6 : W0.cell? ⟨w.heap.size + 1, 0, none⟩ = some (.int .i64 x) := by rw [cell_of_row W0 _ _ _ _ _ w1]; rfl
  have eg := enters_of Try.func46 (by kernel_rfl) rfl
  have h2 := Lib.hid w2
  have h3 := Lib.hid w3
  clear w2 w3
  cases hv : validB p with
  | false =>
    unfold pairRow at hW0 ⊢
    go_enter_defers Try.func14, Try.ntmps14
    go_wp2_with fail
    rename_i hK
    rw [← hW0]
    clear hW0
    refine wp_region_held_drew (S := fun w' => w'.heap[w.heap.size]? = some (.cells (pairRow p bs rs) 27 (0, 0)) ∧ w'.heap[w.heap.size + 1]? = some (.cells #[.int .i64 x] 3 (0, 0))) (by kernel_rfl) ⟨w0, w1⟩ fun hS0 => ?_
    refine wpAnyH_take (i := 0) (v := .agg (pairRow p bs rs)) rfl (by kernel_rfl) (by kernel_rfl) (by kernel_rfl) (fun c a w h => known_put (by decide) (by decide) h) (yields_value rfl fun W hS => run_load_row 27 _ rfl w.heap.size rfl 27 (pairRow p bs rs) (0, 0) _ hS.1 underPair rfl rfl) hS0 ?_
    refine wpAnyH_take (i := 1) (v := .func (.func 46) #[] #[.pointer (some ⟨w.heap.size + 1, 0, none⟩)]) rfl (by kernel_rfl) (by kernel_rfl) (by kernel_rfl) (fun c a w h => known_put (by decide) (by decide) h) (yields_value rfl fun W hS => by simp [execOp, hmf, go_sem, Act.eval, Act.put]) hS0 ?_
    refine wpAnyH_take (i := 4) (v := .int .i64 x) rfl (by kernel_rfl) (by kernel_rfl) (by kernel_rfl) (fun c a w h => known_put (by decide) (by decide) h) (yields_value rfl fun W hS => by simp [execOp, go_sem, Act.eval, Act.put, cell_of_row W _ _ _ _ _ hS.2]) hS0 ?_
    refine wpAnyH_call (k := 2) (by kernel_rfl) rfl rfl (f := 45) (args := #[.agg (pairRow p bs rs), .func (.func 46) #[] #[.pointer (some ⟨w.heap.size + 1, 0, none⟩)]]) (by simp [execOp, go_sem, Act.eval, Act.put]) ?_
    refine (open_bad p bs rs Rd W0.drew (by exact HBS.out) (by exact HRS.out) 46 #[.pointer (some ⟨w.heap.size + 1, 0, none⟩)] _ eg (by exact HF.out) hv).mono ?_
    rintro e w5 ⟨rfl, hb5⟩
    refine known_leaf 1 _ (w.heap.size + 1 + 1) (w.heap.size + 1 + 1 + 1) _ w5 rfl rfl (by omega) ((hb5.block _ (by simp; omega)).trans h2.out) ((hb5.block _ (by simp; omega)).trans h3.out) (fun W' hk => ⟨_, _, rfl, .inl ⟨hv, rfl, rfl⟩, ?_⟩)
    exact HB.out.trans ((((Below.refl _ _).drew.trans hb5).mono (by show w.heap.size ≤ W0.heap.size; omega)).trans (hk.below (by have := hb5.size; simp at this; omega) (fun k h => by omega)))
  | true =>
    cases hin : inB x 0 ((p.bs.length : Int) - 1) with
    | false =>
      unfold pairRow at hW0 ⊢
      go_enter_defers Try.func14, Try.ntmps14
      go_wp2_with fail
      rename_i hK
      rw [← hW0]
      clear hW0
      refine wp_region_held_drew (S := fun w' => w'.heap[w.heap.size]? = some (.cells (pairRow p bs rs) 27 (0, 0)) ∧ w'.heap[w.heap.size + 1]? = some (.cells #[.int .i64 x] 3 (0, 0))) (by kernel_rfl) ⟨w0, w1⟩ fun hS0 => ?_
      refine wpAnyH_take (i := 0) (v := .agg (pairRow p bs rs)) rfl (by kernel_rfl) (by kernel_rfl) (by kernel_rfl) (fun c a w h => known_put (by decide) (by decide) h) (yields_value rfl fun W hS => run_load_row 27 _ rfl w.heap.size rfl 27 (pairRow p bs rs) (0, 0) _ hS.1 underPair rfl rfl) hS0 ?_
      refine wpAnyH_take (i := 1) (v := .func (.func 46) #[] #[.pointer (some ⟨w.heap.size + 1, 0, none⟩)]) rfl (by kernel_rfl) (by kernel_rfl) (by kernel_rfl) (fun c a w h => known_put (by decide) (by decide) h) (yields_value rfl fun W hS => by simp [execOp, hmf, go_sem, Act.eval, Act.put]) hS0 ?_
      refine wpAnyH_take (i := 4) (v := .int .i64 x) rfl (by kernel_rfl) (by kernel_rfl) (by kernel_rfl) (fun c a w h => known_put (by decide) (by decide) h) (yields_value rfl fun W hS => by simp [execOp, go_sem, Act.eval, Act.put, cell_of_row W _ _ _ _ _ hS.2]) hS0 ?_
      refine wpAnyH_call (k := 2) (by kernel_rfl) rfl rfl (f := 45) (args := #[.agg (pairRow p bs rs), .func (.func 46) #[] #[.pointer (some ⟨w.heap.size + 1, 0, none⟩)]]) (by simp [execOp, go_sem, Act.eval, Act.put]) ?_
      refine (open_no p bs rs Rd W0.drew (by exact HBS.out) (by exact HRS.out) 46 #[.pointer (some ⟨w.heap.size + 1, 0, none⟩)] _ eg (by exact HF.out) hv hin).mono ?_
      rintro e w5 ⟨rfl, hb5⟩
      refine known_leaf 2 _ (w.heap.size + 1 + 1) (w.heap.size + 1 + 1 + 1) _ w5 rfl rfl (by omega) ((hb5.block _ (by simp; omega)).trans h2.out) ((hb5.block _ (by simp; omega)).trans h3.out) (fun W' hk => ⟨_, _, rfl, .inr (.inl ⟨hv, rfl, rfl, rfl⟩), ?_⟩)
      exact HB.out.trans ((((Below.refl _ _).drew.trans hb5).mono (by show w.heap.size ≤ W0.heap.size; omega)).trans (hk.below (by have := hb5.size; simp at this; omega) (fun k h => by omega)))
    | true =>
      have hp := OkP.of p hv
      have hxn : ((x.toNat : Nat) : Int) = x := by simp [inB] at hin; omega
      have hx6 : x.toNat < 6 := by have := hp.n5; simp [inB] at hin; omega
      by_cases hne : pairOuts p (allR p) = []
      · skip
        unfold pairRow at hW0 ⊢
        go_enter_defers Try.func14, Try.ntmps14
        go_wp2_with fail
        rename_i hK
        rw [← hW0]
        clear hW0
        refine wp_region_held_drew (S := fun w' => w'.heap[w.heap.size]? = some (.cells (pairRow p bs rs) 27 (0, 0)) ∧ w'.heap[w.heap.size + 1]? = some (.cells #[.int .i64 x] 3 (0, 0))) (by kernel_rfl) ⟨w0, w1⟩ fun hS0 => ?_
        refine wpAnyH_take (i := 0) (v := .agg (pairRow p bs rs)) rfl (by kernel_rfl) (by kernel_rfl) (by kernel_rfl) (fun c a w h => known_put (by decide) (by decide) h) (yields_value rfl fun W hS => run_load_row 27 _ rfl w.heap.size rfl 27 (pairRow p bs rs) (0, 0) _ hS.1 underPair rfl rfl) hS0 ?_
        refine wpAnyH_take (i := 1) (v := .func (.func 46) #[] #[.pointer (some ⟨w.heap.size + 1, 0, none⟩)]) rfl (by kernel_rfl) (by kernel_rfl) (by kernel_rfl) (fun c a w h => known_put (by decide) (by decide) h) (yields_value rfl fun W hS => by simp [execOp, hmf, go_sem, Act.eval, Act.put]) hS0 ?_
        refine wpAnyH_take (i := 4) (v := .int .i64 x) rfl (by kernel_rfl) (by kernel_rfl) (by kernel_rfl) (fun c a w h => known_put (by decide) (by decide) h) (yields_value rfl fun W hS => by simp [execOp, go_sem, Act.eval, Act.put, cell_of_row W _ _ _ _ _ hS.2]) hS0 ?_
        refine wpAnyH_call (k := 2) (by kernel_rfl) rfl rfl (f := 45) (args := #[.agg (pairRow p bs rs), .func (.func 46) #[] #[.pointer (some ⟨w.heap.size + 1, 0, none⟩)]]) (by simp [execOp, go_sem, Act.eval, Act.put]) ?_
        refine (open_yes p bs rs Rd W0.drew (by exact HBS.out) (by exact HRS.out) 46 #[.pointer (some ⟨w.heap.size + 1, 0, none⟩)] _ eg (by exact HF.out) hv hin).mono ?_
        rintro e w5 ⟨bp, rfl, hle, hbp, hb5⟩
        have hle5 : W0.heap.size ≤ w5.heap.size := hb5.size
        have hleb : W0.heap.size ≤ bp := hle
        have hltb := lt_of_block hbp
        have HB5 := Lib.hid (HB.out.trans (((Below.refl _ _).drew.trans hb5).mono (by show w.heap.size ≤ W0.heap.size; omega)))
        have hbs5 : SpansAt w5 bs p.bs Rd := HBS.out.later hle5 (fun k hk _ => hb5.block k hk)
        have hrs5 : ReadsAt w5 rs p.rs Rd := HRS.out.later hle5 (fun k hk _ => hb5.block k hk)
        refine ⟨⟨(hb5.block _ (by simp; omega)).trans hS0.1, (hb5.block _ (by simp; omega)).trans hS0.2⟩, ?_⟩
        refine wpAnyH_call (k := 3) (by kernel_rfl) rfl rfl (f := 48) (args := #[.pointer (some ⟨bp, 0, none⟩)]) (by simp [execOp, go_sem, Act.eval, Act.put]) ?_
        refine (told_no p hp bp bs rs w5 hbp Rd (fun k hk => by have := hRd k hk; omega) hbs5 hrs5 hne).mono ?_
        rintro e w6 ⟨rfl, hb6⟩
        refine known_leaf 10 _ (w.heap.size + 1 + 1) (w.heap.size + 1 + 1 + 1) _ w6 rfl rfl (by omega) ((hb6.block _ (by omega) (by omega)).trans ((hb5.block _ (by simp; omega)).trans h2.out)) ((hb6.block _ (by omega) (by omega)).trans ((hb5.block _ (by simp; omega)).trans h3.out)) (fun W' hk => ⟨_, _, rfl, .inr (.inr (.inl ⟨hv, rfl, hne, rfl, rfl⟩)), ?_⟩)
        exact HB5.out.trans ((hb6.below (by omega) (fun k h => by omega)).trans (hk.below (by have := hb6.size; omega) (fun k h => by omega)))
      · skip
        unfold pairRow at hW0 ⊢
        go_enter_defers Try.func14, Try.ntmps14
        go_wp2_with fail
        rename_i hK
        rw [← hW0]
        clear hW0
        refine wp_region_held_drew (S := fun w' => w'.heap[w.heap.size]? = some (.cells (pairRow p bs rs) 27 (0, 0)) ∧ w'.heap[w.heap.size + 1]? = some (.cells #[.int .i64 x] 3 (0, 0))) (by kernel_rfl) ⟨w0, w1⟩ fun hS0 => ?_
        refine wpAnyH_take (i := 0) (v := .agg (pairRow p bs rs)) rfl (by kernel_rfl) (by kernel_rfl) (by kernel_rfl) (fun c a w h => known_put (by decide) (by decide) h) (yields_value rfl fun W hS => run_load_row 27 _ rfl w.heap.size rfl 27 (pairRow p bs rs) (0, 0) _ hS.1 underPair rfl rfl) hS0 ?_
        refine wpAnyH_take (i := 1) (v := .func (.func 46) #[] #[.pointer (some ⟨w.heap.size + 1, 0, none⟩)]) rfl (by kernel_rfl) (by kernel_rfl) (by kernel_rfl) (fun c a w h => known_put (by decide) (by decide) h) (yields_value rfl fun W hS => by simp [execOp, hmf, go_sem, Act.eval, Act.put]) hS0 ?_
        refine wpAnyH_take (i := 4) (v := .int .i64 x) rfl (by kernel_rfl) (by kernel_rfl) (by kernel_rfl) (fun c a w h => known_put (by decide) (by decide) h) (yields_value rfl fun W hS => by simp [execOp, go_sem, Act.eval, Act.put, cell_of_row W _ _ _ _ _ hS.2]) hS0 ?_
        refine wpAnyH_call (k := 2) (by kernel_rfl) rfl rfl (f := 45) (args := #[.agg (pairRow p bs rs), .func (.func 46) #[] #[.pointer (some ⟨w.heap.size + 1, 0, none⟩)]]) (by simp [execOp, go_sem, Act.eval, Act.put]) ?_
        refine (open_yes p bs rs Rd W0.drew (by exact HBS.out) (by exact HRS.out) 46 #[.pointer (some ⟨w.heap.size + 1, 0, none⟩)] _ eg (by exact HF.out) hv hin).mono ?_
        rintro e w5 ⟨bp, rfl, hle, hbp, hb5⟩
        have hle5 : W0.heap.size ≤ w5.heap.size := hb5.size
        have hleb : W0.heap.size ≤ bp := hle
        have hltb := lt_of_block hbp
        have HB5 := Lib.hid (HB.out.trans (((Below.refl _ _).drew.trans hb5).mono (by show w.heap.size ≤ W0.heap.size; omega)))
        have hbs5 : SpansAt w5 bs p.bs Rd := HBS.out.later hle5 (fun k hk _ => hb5.block k hk)
        have hrs5 : ReadsAt w5 rs p.rs Rd := HRS.out.later hle5 (fun k hk _ => hb5.block k hk)
        refine ⟨⟨(hb5.block _ (by simp; omega)).trans hS0.1, (hb5.block _ (by simp; omega)).trans hS0.2⟩, ?_⟩
        refine wpAnyH_call (k := 3) (by kernel_rfl) rfl rfl (f := 48) (args := #[.pointer (some ⟨bp, 0, none⟩)]) (by simp [execOp, go_sem, Act.eval, Act.put]) ?_
        refine (told_yes p hp bp bs rs w5 hbp Rd (fun k hk => by have := hRd k hk; omega) hbs5 hrs5 hne).mono ?_
        rintro e w6 ⟨rfl, ⟨mb, ht⟩, hb6⟩
        have hs6 := hb6.size
        have f0 := (hb6.block w.heap.size (by omega) (by omega)).trans ((hb5.block _ (by simp; omega)).trans hS0.1)
        have f1 := (hb6.block (w.heap.size + 1) (by omega) (by omega)).trans ((hb5.block _ (by simp; omega)).trans hS0.2)
        have f2 := (hb6.block (w.heap.size + 1 + 1) (by omega) (by omega)).trans ((hb5.block _ (by simp; omega)).trans h2.out)
        have f3 := (hb6.block (w.heap.size + 1 + 1 + 1) (by omega) (by omega)).trans ((hb5.block _ (by simp; omega)).trans h3.out)
        refine ⟨⟨f0, f1⟩, ?_⟩
        refine wpAnyH_call (k := 5) (by kernel_rfl) rfl rfl (f := 49) (args := #[.pointer (some ⟨bp, 0, none⟩), .int .i64 x, .int .i64 ((5 : Nat) : Int)]) (by simp [execOp, go_sem, Act.eval, Act.put]) ?_
        have hd := differ_any p hp hne bp mb bs rs x.toNat 5 (by omega) (by omega) w6 ht
        rw [hxn] at hd
        refine hd.mono ?_
        rintro e w7 ⟨⟨⟨lo, hi⟩, hh, rfl⟩, hb7⟩
        have hs7 := hb7.size
        have g0 := (hb7.block _ (by omega)).trans f0
        have g1 := (hb7.block _ (by omega)).trans f1
        have g2 := (hb7.block _ (by omega)).trans f2
        have g3 := (hb7.block _ (by omega)).trans f3
        refine ⟨⟨g0, g1⟩, ?_⟩
        refine wpAnyH_skip (k := 6) (by kernel_rfl) rfl rfl (run_store_row 24 _ _ rfl (w.heap.size + 1 + 1) #[.int .i64 lo, .int .i64 hi] rfl rfl 24 _ g2 rfl rfl (by simp [Value.oneCell'])) ⟨(setRow_other _ _ _ _ (by omega)).trans g0, (setRow_other _ _ _ _ (by omega)).trans g1⟩ ?_
        obtain ⟨W8, hW8⟩ : ∃ W8, W8 = w7.setRow (w.heap.size + 1 + 1) #[.int .i64 lo, .int .i64 hi] := ⟨_, rfl⟩
        have k0 : W8.heap[w.heap.size]? = some (.cells (pairRow p bs rs) 27 (0, 0)) := by rw [hW8]; exact (setRow_other _ _ _ _ (by omega)).trans g0
        have k1 : W8.heap[w.heap.size + 1]? = some (.cells #[.int .i64 x] 3 (0, 0)) := by rw [hW8]; exact (setRow_other _ _ _ _ (by omega)).trans g1
        have k3 : W8.heap[w.heap.size + 1 + 1 + 1]? = some (.cells #[.int .i64 0] 33 (0, 0)) := by rw [hW8]; exact (setRow_other _ _ _ _ (by omega)).trans g3
        have k2 : W8.heap[w.heap.size + 1 + 1]? = some (.cells #[.int .i64 lo, .int .i64 hi] 24 (0, 0)) := by rw [hW8]; exact setRow_heap _ _ _ _ _ _ g2
        have hb8 : Below w.heap.size w W8 := by rw [hW8]; exact below_setRow (HB5.out.trans ((hb6.below (by omega) (fun k h => by omega)).trans (hb7.mono (by omega)))) (by omega) _
        rw [← hW8]
        refine wpAnyH_skip (k := 7) (w' := W8.setCell ⟨w.heap.size + 1 + 1 + 1, 0, none⟩ (.int .i64 0)) (by kernel_rfl) rfl rfl ?_ ⟨(Below.heap_setCell _ _ _ _ (by simp; omega)).trans k0, (Below.heap_setCell _ _ _ _ (by simp)).trans k1⟩ ?_
        · have d0 : W8.cell? ⟨w.heap.size + 1 + 1 + 1, 0, none⟩ = some (.int .i64 0) := by rw [cell_of_row W8 _ _ _ _ _ k3]; rfl
          have d1 : W8.frozen? ⟨w.heap.size + 1 + 1 + 1, 0, none⟩ = false := frozen_of_row W8 _ _ _ _ k3
          simp [execOp, go_sem, Act.eval, Act.put, d0, d1]
        obtain ⟨W9, hW9⟩ : ∃ W9, W9 = W8.setCell ⟨w.heap.size + 1 + 1 + 1, 0, none⟩ (.int .i64 0) := ⟨_, rfl⟩
        have l2 : W9.heap[w.heap.size + 1 + 1]? = some (.cells #[.int .i64 lo, .int .i64 hi] 24 (0, 0)) := by rw [hW9]; exact (Below.heap_setCell _ _ _ _ (by simp)).trans k2
        have l3 : W9.heap[w.heap.size + 1 + 1 + 1]? = some (.cells #[.int .i64 0] 33 (0, 0)) := by rw [hW9]; simp [World.setCell, Array.getElem?_modify, k3]
        have hb9 : Below w.heap.size w W9 := by rw [hW9]; exact hb8.setCell (by simp; omega) _
        rw [← hW9]
        refine wpAnyH_done (by kernel_rfl) ?_ _
        refine hK _ _ ?_
        go_wp2
        exact known_leaf_ret _ (w.heap.size + 1 + 1) (w.heap.size + 1 + 1 + 1) lo hi _ W9 rfl rfl l2 l3 ⟨_, _, rfl, .inr (.inr (.inr ⟨hv, rfl, hne, rfl, hh⟩)), hb9⟩

end Go.Proofs.Ytabbmihakoeegaa
