/- Texts Pd, Pe, Ph in one file; each begins with a word on what it proves. -/
import Derived.Test.YtlgeggekmdoceaaKk
import Derived.Test.YtlgeggekmdoceaaKr

/- What PairEnds says (plain). -/
namespace Go.Proofs.Ytlgeggekmdoceaa
set_option linter.unusedVariables false
set_option linter.unusedSimpArgs false

/-- The pair in which a deviation is known. -/
def atB (p : PairD) (a : Nat) (k : Int) : PairD := { p with bs := p.bs.set a (k, k) }
section
variable {p : PairD} (hv : validB p = true) {a : Nat} (ha : a < p.bs.length) {k : Int} (hk : p.bs[a].1 ≤ k ∧ k ≤ p.bs[a].2)
include hv ha hk
theorem atB_valid : validB (atB p a k) = true := by
  have hp := OkP.of p hv
  have hb := hp.bs _ (List.getElem_mem ha)
  unfold validB at hv ⊢
  rw [Bool.and_eq_true, Bool.and_eq_true, Bool.and_eq_true] at hv ⊢
  obtain ⟨⟨⟨h1, h2⟩, h3⟩, h4⟩ := hv
  refine ⟨⟨⟨?_, ?_⟩, h3⟩, ?_⟩
  · unfold okHead atB at *
    dsimp only
    rw [List.length_set]
    exact h1
  · rw [List.all_eq_true] at h2 ⊢
    intro s hs
    rcases List.mem_or_eq_of_mem_set hs with h | h
    · exact h2 s h
    · rw [h]
      unfold okSp okSpan
      rw [decide_eq_true_eq]
      dsimp only
      omega
  · unfold atB
    dsimp only
    rw [List.length_set]
    exact h4
theorem mem_truA_atB (t : List Int × (Int × Int)) : t ∈ truA (atB p a k) ↔ t ∈ truA p ∧ t.1.getD a 0 = k := by
  rw [mem_truA (OkP.of _ (atB_valid hv ha hk)), mem_truA (OkP.of p hv)]
  have hlen : (atB p a k).bs.length = p.bs.length := List.length_set
  have e : ∀ (i : Nat) (hi : i < (atB p a k).bs.length) (hi' : i < p.bs.length), (atB p a k).bs[i] = if a = i then (k, k) else p.bs[i] := fun i hi hi' => List.getElem_set hi
  have hT : TruthP (atB p a k) (allR (atB p a k)) t.2 (fun i => t.1.getD i 0) ↔ TruthP p (allR p) t.2 (fun i => t.1.getD i 0) ∧ t.1.getD a 0 = k := by
    constructor
    · intro h
      have h2 : t.1.getD a 0 = k := by
        have := h.bs a (by omega)
        rw [e a (by omega) ha, if_pos rfl] at this
        dsimp only at this
        omega
      refine ⟨⟨h.mark, fun i hi => ?_, h.rs⟩, h2⟩
      by_cases he : a = i
      · subst he
        show p.bs[a].1 ≤ t.1.getD a 0 ∧ t.1.getD a 0 ≤ p.bs[a].2
        rw [h2]; exact hk
      · have := h.bs i (by omega)
        rw [e i (by omega) hi, if_neg he] at this
        exact this
    · rintro ⟨h, h2⟩
      refine ⟨h.mark, fun i hi => ?_, h.rs⟩
      rw [e i hi (by omega)]
      by_cases he : a = i
      · subst he
        rw [if_pos rfl]
        show k ≤ t.1.getD a 0 ∧ t.1.getD a 0 ≤ k
        rw [h2]
        exact ⟨Int.le_refl _, Int.le_refl _⟩
      · rw [if_neg he]
        exact h.bs i (by omega)
  rw [hT]
  show t.2 ∈ comps p.zl p.zh p.rl p.rh ∧ t.1.length = (p.bs.set a (k, k)).length ∧ _ ↔ _
  rw [List.length_set]
  constructor
  · rintro ⟨h1, h2, h3, h4⟩
    exact ⟨⟨h1, h2, h3⟩, h4⟩
  · rintro ⟨⟨h1, h2, h3⟩, h4⟩
    exact ⟨h1, h2, h3, h4⟩
end
/-- What the loop holds when the deviations less than k have been looked at. -/
structure EnI (p : PairD) (a b : Nat) (k lo hi : Int) : Prop where
  all : ∀ t ∈ truA p, t.1.getD a 0 < k → lo ≤ dif a b t ∧ dif a b t ≤ hi
  l : lo = 80 ∨ ∃ t ∈ truA p, dif a b t = lo
  h : hi = -80 ∨ ∃ t ∈ truA p, dif a b t = hi
theorem EnI.start {p : PairD} (hv : validB p = true) {a : Nat} (ha : a < p.bs.length) (b : Nat) : EnI p a b p.bs[a].1 80 (-80) :=
  ⟨fun t ht hk => by have := truA_at (OkP.of p hv) ht a ha; omega, .inl rfl, .inl rfl⟩
theorem dif_mark {p : PairD} (hp : OkP p) {t : List Int × (Int × Int)} (ht : t ∈ truA p) {b : Nat} : dif b 5 t = t.1.getD b 0 := by
  unfold dif
  rw [truA_out hp ht 5 hp.n5]
  omega
section
variable {p : PairD} (hv : validB p = true) {a b : Nat} (ha : a < p.bs.length) {k lo hi : Int} (hk : p.bs[a].1 ≤ k ∧ k ≤ p.bs[a].2)
include hv ha hk
theorem EnI.skip (h : EnI p a b k lo hi) (hn : truA (atB p a k) = []) : EnI p a b (k + 1) lo hi := ⟨fun t ht hd => by
  by_cases he : t.1.getD a 0 = k
  · have := (mem_truA_atB hv ha hk t).2 ⟨ht, he⟩
    rw [hn] at this
    exact absurd this (by simp)
  · exact h.all t ht (by omega), h.l, h.h⟩
theorem EnI.take (h : EnI p a b k lo hi) (hn : truA (atB p a k) ≠ []) : EnI p a b (k + 1) (min lo (k - (hullD (atB p a k) b 5).2)) (max hi (k - (hullD (atB p a k) b 5).1)) := by
  have hs := hullD_spec hn b 5
  have hpb := OkP.of _ (atB_valid hv ha hk)
  obtain ⟨⟨t1, m1, e1⟩, ⟨t2, m2, e2⟩, hall⟩ := hs
  generalize hullD (atB p a k) b 5 = S at *
  rw [dif_mark hpb m1] at e1
  rw [dif_mark hpb m2] at e2
  have n1 := (mem_truA_atB hv ha hk t1).1 m1
  have n2 := (mem_truA_atB hv ha hk t2).1 m2
  refine ⟨fun t ht hd => ?_, ?_, ?_⟩
  · by_cases he : t.1.getD a 0 = k
    · have hm := (mem_truA_atB hv ha hk t).2 ⟨ht, he⟩
      have := hall t hm
      rw [dif_mark hpb hm] at this
      unfold dif
      omega
    · have := h.all t ht (by omega)
      omega
  · rcases Int.le_total lo (k - S.2) with q | q
    · rw [Int.min_eq_left q]; exact h.l
    · rw [Int.min_eq_right q]
      exact .inr ⟨t2, n2.1, by unfold dif; omega⟩
  · rcases Int.le_total (k - S.1) hi with q | q
    · rw [Int.max_eq_left q]; exact h.h
    · rw [Int.max_eq_right q]
      exact .inr ⟨t1, n1.1, by unfold dif; omega⟩
theorem ends_yes (hn : truA (atB p a k) ≠ []) : (hullD p a 5).1 ≤ k ∧ k ≤ (hullD p a 5).2 := by
  obtain ⟨u, l, e⟩ := List.exists_cons_of_ne_nil hn
  obtain ⟨hu, hu2⟩ := (mem_truA_atB hv ha hk u).1 (by rw [e]; exact List.mem_cons_self)
  have hne : truA p ≠ [] := by intro h0; rw [h0] at hu; exact absurd hu (by simp)
  have := (hullD_spec hne a 5).all u hu
  rw [dif_mark (OkP.of p hv) hu] at this
  omega
theorem ends_no (hne : truA p ≠ []) (hn : truA (atB p a k) = []) : k ≠ (hullD p a 5).1 ∧ k ≠ (hullD p a 5).2 := by
  obtain ⟨⟨t1, m1, e1⟩, ⟨t2, m2, e2⟩, _⟩ := hullD_spec hne a 5
  rw [dif_mark (OkP.of p hv) m1] at e1
  rw [dif_mark (OkP.of p hv) m2] at e2
  constructor
  · intro h
    have := (mem_truA_atB hv ha hk t1).2 ⟨m1, by omega⟩
    rw [hn] at this; exact absurd this (by simp)
  · intro h
    have := (mem_truA_atB hv ha hk t2).2 ⟨m2, by omega⟩
    rw [hn] at this; exact absurd this (by simp)
end
theorem EnI.ends {p : PairD} (hv : validB p = true) (hne : truA p ≠ []) {a b : Nat} (ha : a < p.bs.length) {k lo hi : Int} (h : EnI p a b k lo hi) (hk : p.bs[a].2 < k) : hullD p a b = (lo, hi) := by
  have hp := OkP.of p hv
  have hall : ∀ t ∈ truA p, lo ≤ dif a b t ∧ dif a b t ≤ hi := fun t ht => h.all t ht (by have := truA_at hp ht a ha; omega)
  obtain ⟨u, l, e⟩ := List.exists_cons_of_ne_nil hne
  have hu : u ∈ truA p := by rw [e]; exact List.mem_cons_self
  have h1 := hall u hu
  have h2 := truA_20 hp hu a
  have h3 := truA_20 hp hu b
  have h4 : dif a b u = u.1.getD a 0 - u.1.getD b 0 := rfl
  refine (hullD_spec hne a b).eq ⟨?_, ?_, hall⟩
  · rcases h.l with q | q
    · omega
    · exact q
  · rcases h.h with q | q
    · omega
    · exact q

end Go.Proofs.Ytlgeggekmdoceaa

/- What PairGroups says (plain): a reading more joins two groups, or none. -/
namespace Go.Proofs.Ytlgeggekmdoceaa
set_option linter.unusedVariables false
set_option linter.unusedSimpArgs false

/-- The pair with a reading more. -/
def withR (p : PairD) (r : RdD) : PairD := { p with rs := p.rs ++ [r] }
theorem withR_valid {p : PairD} (hv : validB p = true) {r : RdD} (h8 : p.rs.length < 8) (hr : okRd p.bs.length r = true) : validB (withR p r) = true := by
  unfold validB at hv ⊢
  rw [Bool.and_eq_true, Bool.and_eq_true, Bool.and_eq_true] at hv ⊢
  obtain ⟨⟨⟨h1, h2⟩, h3⟩, h4⟩ := hv
  refine ⟨⟨⟨?_, h2⟩, h3⟩, ?_⟩
  · unfold okHead withR at *
    rw [Bool.and_eq_true] at h1 ⊢
    refine ⟨h1.1, ?_⟩
    rw [decide_eq_true_eq]
    simp only [List.length_append, List.length_cons, List.length_nil]
    omega
  · show (p.rs ++ [r]).all (okRd p.bs.length) = true
    rw [List.all_append, h4, Bool.true_and]
    simpa using hr
def cutR (p : PairD) (k : Nat) : PairD := { p with rs := p.rs.take k }
theorem cutR_valid {p : PairD} (hv : validB p = true) (k : Nat) : validB (cutR p k) = true := by
  unfold validB at hv ⊢
  rw [Bool.and_eq_true, Bool.and_eq_true, Bool.and_eq_true] at hv ⊢
  obtain ⟨⟨⟨h1, h2⟩, h3⟩, h4⟩ := hv
  refine ⟨⟨⟨?_, h2⟩, h3⟩, ?_⟩
  · unfold okHead cutR at *
    rw [Bool.and_eq_true] at h1 ⊢
    refine ⟨h1.1, ?_⟩
    have := h1.2
    rw [decide_eq_true_eq] at this ⊢
    rw [List.length_take]
    omega
  · show (p.rs.take k).all (okRd p.bs.length) = true
    rw [List.all_eq_true] at h4 ⊢
    exact fun r hr => h4 r (List.mem_of_mem_take hr)
theorem cutR_next (p : PairD) (k : Nat) (hk : k < p.rs.length) : cutR p (k + 1) = withR (cutR p k) p.rs[k] := by
  unfold cutR withR
  rw [List.take_succ_eq_append_getElem hk]
theorem cutR_all (p : PairD) : cutR p p.rs.length = p := by unfold cutR; rw [List.take_length]
theorem adj_with {p : PairD} {r : RdD} {x y : Int} : Adj (withR p r) x y ↔ Adj p x y ∨ (r.a = x ∧ r.b = y) ∨ (r.b = x ∧ r.a = y) := by
  unfold Adj withR
  constructor
  · rintro ⟨q, hq, h⟩
    rcases List.mem_append.1 hq with hq | hq
    · exact .inl ⟨q, hq, h⟩
    · rw [List.mem_singleton] at hq
      subst hq
      exact .inr h
  · rintro (⟨q, hq, h⟩ | h)
    · exact ⟨q, List.mem_append_left _ hq, h⟩
    · exact ⟨r, List.mem_append_right _ (by simp), h⟩
theorem conn_mono {p : PairD} {r : RdD} {x y : Int} (h : Conn p x y) : Conn (withR p r) x y := by
  induction h with
  | refl => exact .refl _
  | step _ ha ih => exact .step ih (adj_with.2 (.inl ha))
theorem conn_with {p : PairD} {r : RdD} {x y : Int} : Conn (withR p r) x y ↔ Conn p x y ∨ (Conn p x r.a ∧ Conn p r.b y) ∨ (Conn p x r.b ∧ Conn p r.a y) := by
  constructor
  · intro h
    induction h with
    | refl => exact .inl (.refl _)
    | step _ ha ih =>
      rcases adj_with.1 ha with ha | ⟨rfl, rfl⟩ | ⟨rfl, rfl⟩
      · rcases ih with h | ⟨h, k⟩ | ⟨h, k⟩
        · exact .inl (.step h ha)
        · exact .inr (.inl ⟨h, .step k ha⟩)
        · exact .inr (.inr ⟨h, .step k ha⟩)
      · rcases ih with h | ⟨h, k⟩ | ⟨h, k⟩
        · exact .inr (.inl ⟨h, .refl _⟩)
        · exact .inr (.inl ⟨h, .refl _⟩)
        · exact .inl h
      · rcases ih with h | ⟨h, k⟩ | ⟨h, k⟩
        · exact .inr (.inr ⟨h, .refl _⟩)
        · exact .inl h
        · exact .inr (.inr ⟨h, .refl _⟩)
  · have e : Conn (withR p r) r.a r.b := .step (.refl _) (adj_with.2 (.inr (.inl ⟨rfl, rfl⟩)))
    rintro (h | ⟨h, k⟩ | ⟨h, k⟩)
    · exact conn_mono h
    · exact ((conn_mono h).trans e).trans (conn_mono k)
    · exact ((conn_mono h).trans e.symm).trans (conn_mono k)
/-- How many groups there are. -/
def cntM (p : PairD) : Nat := ((List.range p.bs.length).filter (ownL p)).length
theorem groupsV_yes {p : PairD} (hv : validB p = true) : groupsV p = ((cntM p : Int), 0) := by
  unfold groupsV
  rw [if_neg (by simp [hv])]
  rfl
theorem min_one {p : PairD} {i j : Nat} (hi : IsMin p i) (hj : IsMin p j) (h : Conn p i j) : i = j := by
  rcases Nat.lt_trichotomy i j with k | k | k
  · exact absurd h (hj i k)
  · exact k
  · exact absurd h.symm (hi j k)
theorem count_next (f : Nat → Bool) (n : Nat) : ((List.range (n + 1)).filter f).length = ((List.range n).filter f).length + (if f n then 1 else 0) := by
  rw [List.range_succ, List.filter_append, List.length_append]
  cases h : f n <;> simp [h]
theorem count_remove (f g : Nat → Bool) (m : Nat) (hm : g m = true) : ∀ n, (∀ i, i < n → f i = (g i && decide (i ≠ m))) → ((List.range n).filter g).length = ((List.range n).filter f).length + (if m < n then 1 else 0)
  | 0, _ => by simp
  | n + 1, h => by
    rw [count_next, count_next, count_remove f g m hm n (fun i hi => h i (by omega)), h n (by omega)]
    by_cases e : n = m
    · subst e
      simp [hm]
    · cases hg : g n
      · have e2 : (m < n) = (m < n + 1) := by rw [eq_iff_iff]; omega
        simp [e2]
      · have e2 : (m < n) = (m < n + 1) := by rw [eq_iff_iff]; omega
        simp [e, e2]; omega
theorem cnt_same {p q : PairD} (hp : OkP p) (hq : OkP q) (hb : q.bs.length = p.bs.length) (h : ∀ x y, Conn q x y ↔ Conn p x y) : cntM q = cntM p := by
  unfold cntM
  rw [hb]
  congr 1
  apply List.filter_congr
  intro i hi
  rw [List.mem_range] at hi
  rw [Bool.eq_iff_iff, ownL_iff hp i hi, ownL_iff hq i (by omega)]
  unfold IsMin
  simp only [h]
theorem cnt_join {p : PairD} {r : RdD} (hv : validB p = true) (hw : validB (withR p r) = true) : (Conn p r.a r.b → cntM (withR p r) = cntM p) ∧ (¬ Conn p r.a r.b → cntM p = cntM (withR p r) + 1) := by
  have hp := OkP.of p hv
  have hq := OkP.of _ hw
  constructor
  · intro hc
    refine cnt_same hp hq rfl fun x y => ?_
    rw [conn_with]
    constructor
    · rintro (h | ⟨h, k⟩ | ⟨h, k⟩)
      · exact h
      · exact (h.trans hc).trans k
      · exact (h.trans hc.symm).trans k
    · exact .inl
  · intro hc
    have hr := hq.rs r (List.mem_append_right _ (by simp))
    have hn : (withR p r).bs.length = p.bs.length := rfl
    rw [hn] at hr
    obtain ⟨ma, a1, a2, a3⟩ := has_min (p := p) r.a.toNat
    obtain ⟨mb, b1, b2, b3⟩ := has_min (p := p) r.b.toNat
    rw [Int.toNat_of_nonneg hr.1] at a3
    rw [Int.toNat_of_nonneg hr.2.2.1] at b3
    have hab : ma ≠ mb := by
      intro e
      rw [e] at a3
      exact hc (a3.symm.trans b3)
    have key : ∀ i, IsMin (withR p r) i ↔ IsMin p i ∧ i ≠ max ma mb := by
      intro i
      constructor
      · intro h
        refine ⟨fun k hk hck => h k hk (conn_mono hck), fun e => ?_⟩
        rcases Nat.lt_or_gt_of_ne hab with k | k
        · refine h ma (by omega) (conn_with.2 (.inr (.inl ⟨a3, ?_⟩)))
          rw [show i = mb by omega]
          exact b3.symm
        · refine h mb (by omega) (conn_with.2 (.inr (.inr ⟨b3, ?_⟩)))
          rw [show i = ma by omega]
          exact a3.symm
      · rintro ⟨h, hne⟩ k hk hck
        rcases conn_with.1 hck with c | ⟨c, d⟩ | ⟨c, d⟩
        · exact h k hk c
        · have e := min_one b2 h (b3.trans d)
          have : ¬ k < ma := fun hlt => a2 k hlt (c.trans a3.symm)
          omega
        · have e := min_one a2 h (a3.trans d)
          have : ¬ k < mb := fun hlt => b2 k hlt (c.trans b3.symm)
          omega
    have hmx : IsMin p (max ma mb) := by
      rcases Nat.le_total ma mb with k | k
      · rw [Nat.max_eq_right k]; exact b2
      · rw [Nat.max_eq_left k]; exact a2
    have hml : max ma mb < p.bs.length := by omega
    have := count_remove (ownL (withR p r)) (ownL p) (max ma mb) ((ownL_iff hp _ hml).2 hmx) p.bs.length (fun i hi => by
      rw [Bool.eq_iff_iff, ownL_iff hq i hi, key, Bool.and_eq_true, ownL_iff hp i hi, decide_eq_true_eq])
    rw [if_pos hml] at this
    exact this
theorem cnt_bare {p : PairD} (hv : validB p = true) (h0 : p.rs = []) : cntM p = p.bs.length := by
  have hp := OkP.of p hv
  have hc : ∀ x y, Conn p x y → x = y := fun x y h => by
    induction h with
    | refl => rfl
    | step _ ha _ =>
      obtain ⟨r, hr, _⟩ := ha
      rw [h0] at hr
      cases hr
  unfold cntM
  rw [List.filter_eq_self.2 (fun i hi => by
    rw [List.mem_range] at hi
    rw [ownL_iff hp i hi]
    intro k hk hck
    have := hc _ _ hck
    omega), List.length_range]
theorem cnt_cut {p : PairD} (hv : validB p = true) : ∀ k, k ≤ p.rs.length → p.bs.length - k ≤ cntM (cutR p k) ∧ cntM (cutR p k) ≤ p.bs.length ∧ (0 < k → cntM (cutR p k) < p.bs.length)
  | 0, _ => by
    have := cnt_bare (p := cutR p 0) (cutR_valid hv 0) rfl
    have e : (cutR p 0).bs.length = p.bs.length := rfl
    omega
  | k + 1, hk => by
    have ih := cnt_cut hv k (by omega)
    have hw := cutR_valid hv (k + 1)
    rw [cutR_next p k (by omega)] at hw ⊢
    have hj := cnt_join (cutR_valid hv k) hw
    have e : (cutR p k).bs.length = p.bs.length := rfl
    by_cases hc : Conn (cutR p k) p.rs[k].a p.rs[k].b
    · have := hj.1 hc
      refine ⟨by omega, by omega, fun _ => ?_⟩
      rcases Nat.eq_zero_or_pos k with h0 | h0
      · exfalso
        subst h0
        have hne : p.rs[0].a ≠ p.rs[0].b := by
          have h4 := hv
          unfold validB at h4
          rw [Bool.and_eq_true, List.all_eq_true] at h4
          have := h4.2 _ (List.getElem_mem (l := p.rs) (n := 0) (by omega))
          unfold okRd at this
          simp only [Bool.and_eq_true, decide_eq_true_eq] at this
          exact this.1.1.2
        have hcc : ∀ x y, Conn (cutR p 0) x y → x = y := fun x y h => by
          induction h with
          | refl => rfl
          | step _ ha _ =>
            obtain ⟨r, hr, _⟩ := ha
            cases hr
        exact hne (hcc _ _ hc)
      · have := ih.2.2 h0
        omega
    · have := hj.2 hc
      exact ⟨by omega, by omega, fun _ => by omega⟩
theorem cnt_all {p : PairD} (hv : validB p = true) : p.bs.length - p.rs.length ≤ cntM p ∧ cntM p ≤ p.bs.length ∧ (0 < p.rs.length → cntM p < p.bs.length) ∧ 1 ≤ cntM p := by
  have h := cnt_cut hv p.rs.length (Nat.le_refl _)
  rw [cutR_all] at h
  refine ⟨h.1, h.2.1, h.2.2, ?_⟩
  have hp := OkP.of p hv
  have h0 : ownL p 0 = true := (ownL_iff hp 0 (by have := hp.n1; omega)).2 fun k hk => absurd hk (by omega)
  have : 0 ∈ (List.range p.bs.length).filter (ownL p) := List.mem_filter.2 ⟨List.mem_range.2 (by have := hp.n1; omega), h0⟩
  exact List.length_pos_of_mem this
/-! ### who hangs together with a block, by going over all readings again and again -/
def addL (L : List Int) (x : Int) : List Int := if x ∈ L then L else L ++ [x]
def joinS (L : List Int) (r : RdD) : List Int := if r.a ∈ L ∨ r.b ∈ L then addL (addL L r.a) r.b else L
def joinK (p : PairD) (a : Int) : Nat → List Int
  | 0 => [a]
  | k + 1 => p.rs.foldl joinS (joinK p a k)
theorem addL_mem (L : List Int) (x y : Int) : y ∈ addL L x ↔ y ∈ L ∨ y = x := by
  unfold addL
  split
  · constructor
    · exact .inl
    · rintro (h | rfl) <;> assumption
  · simp
theorem addL_nodup {L : List Int} (h : L.Nodup) (x : Int) : (addL L x).Nodup := by
  unfold addL
  split
  · exact h
  · rename_i hx
    rw [List.nodup_append]
    exact ⟨h, by simp, fun a ha b hb => by
      rw [List.mem_singleton] at hb
      intro e; rw [e, hb] at ha; exact hx ha⟩
theorem addL_len (L : List Int) (x : Int) : L.length ≤ (addL L x).length ∧ ((addL L x).length = L.length → x ∈ L ∧ addL L x = L) := by
  unfold addL
  split
  · exact ⟨Nat.le_refl _, fun _ => ⟨by assumption, rfl⟩⟩
  · simp
/-- What holds of the list of those that have been found. -/
structure JoinOk (p : PairD) (a : Int) (L : List Int) : Prop where
  nd : L.Nodup
  conn : ∀ y ∈ L, Conn p a y
  own : a ∈ L
theorem JoinOk.step {p : PairD} {a : Int} {L : List Int} (h : JoinOk p a L) {r : RdD} (hr : r ∈ p.rs) : JoinOk p a (joinS L r) ∧ (∀ y ∈ L, y ∈ joinS L r) ∧ L.length ≤ (joinS L r).length ∧ ((joinS L r).length = L.length → joinS L r = L ∧ (r.a ∈ L ∨ r.b ∈ L → r.a ∈ L ∧ r.b ∈ L)) := by
  unfold joinS
  split
  · rename_i hab
    have l1 := addL_len L r.a
    have l2 := addL_len (addL L r.a) r.b
    have hadj : Adj p r.a r.b := ⟨r, hr, .inl ⟨rfl, rfl⟩⟩
    have hca : Conn p a r.a ∧ Conn p a r.b := by
      rcases hab with k | k
      · exact ⟨h.conn _ k, .step (h.conn _ k) hadj⟩
      · exact ⟨.step (h.conn _ k) hadj.symm, h.conn _ k⟩
    refine ⟨⟨addL_nodup (addL_nodup h.nd _) _, fun y hy => ?_, ?_⟩, fun y hy => ?_, by omega, fun e => ?_⟩
    · rcases (addL_mem _ _ _).1 hy with hy | rfl
      · rcases (addL_mem _ _ _).1 hy with hy | rfl
        · exact h.conn y hy
        · exact hca.1
      · exact hca.2
    · exact (addL_mem _ _ _).2 (.inl ((addL_mem _ _ _).2 (.inl h.own)))
    · exact (addL_mem _ _ _).2 (.inl ((addL_mem _ _ _).2 (.inl hy)))
    · obtain ⟨m1, e1⟩ := l1.2 (by omega)
      obtain ⟨m2, e2⟩ := l2.2 (by omega)
      rw [e1] at m2
      exact ⟨by rw [e2, e1], fun _ => ⟨m1, m2⟩⟩
  · rename_i hab
    exact ⟨h, fun y hy => hy, Nat.le_refl _, fun _ => ⟨rfl, fun k => absurd k hab⟩⟩
theorem JoinOk.fold {p : PairD} {a : Int} : ∀ (rs : List RdD) {L : List Int}, (∀ r ∈ rs, r ∈ p.rs) → JoinOk p a L → JoinOk p a (rs.foldl joinS L) ∧ L.length ≤ (rs.foldl joinS L).length ∧
    ((rs.foldl joinS L).length = L.length → rs.foldl joinS L = L ∧ ∀ r ∈ rs, r.a ∈ L ∨ r.b ∈ L → r.a ∈ L ∧ r.b ∈ L)
  | [], L, _, h => ⟨h, Nat.le_refl _, fun _ => ⟨rfl, fun r hr => by cases hr⟩⟩
  | r :: rs, L, hs, h => by
    have h1 := h.step (hs r List.mem_cons_self)
    have h2 := JoinOk.fold rs (fun q hq => hs q (List.mem_cons_of_mem _ hq)) h1.1
    rw [List.foldl_cons]
    refine ⟨h2.1, by omega, fun e => ?_⟩
    obtain ⟨e1, c1⟩ := h1.2.2.2 (by omega)
    obtain ⟨e2, c2⟩ := h2.2.2 (by omega)
    rw [e1] at e2 c2
    rw [e1]
    refine ⟨e2, fun q hq => ?_⟩
    rcases List.mem_cons.1 hq with rfl | hq
    · exact c1
    · exact c2 q hq
theorem joinK_ok {p : PairD} (a : Int) : ∀ k, JoinOk p a (joinK p a k)
  | 0 => ⟨by simp [joinK], fun y hy => by simp [joinK] at hy; rw [hy]; exact .refl _, by simp [joinK]⟩
  | k + 1 => (JoinOk.fold p.rs (fun _ h => h) (joinK_ok a k)).1
theorem joinK_grows {p : PairD} (a : Int) : ∀ k, (∀ r ∈ p.rs, r.a ∈ joinK p a k ∨ r.b ∈ joinK p a k → r.a ∈ joinK p a k ∧ r.b ∈ joinK p a k) ∨ k + 1 ≤ (joinK p a k).length
  | 0 => .inr (by simp [joinK])
  | k + 1 => by
    have h := JoinOk.fold p.rs (fun _ h => h) (joinK_ok (p := p) a k)
    by_cases e : (p.rs.foldl joinS (joinK p a k)).length = (joinK p a k).length
    · obtain ⟨e1, e2⟩ := h.2.2 e
      left
      show ∀ r ∈ p.rs, r.a ∈ p.rs.foldl joinS (joinK p a k) ∨ r.b ∈ p.rs.foldl joinS (joinK p a k) → _
      rw [show joinK p a (k + 1) = p.rs.foldl joinS (joinK p a k) from rfl, e1]
      exact e2
    · right
      show k + 1 + 1 ≤ (p.rs.foldl joinS (joinK p a k)).length
      rcases joinK_grows a k with h3 | h3
      · exfalso
        apply e
        have hfix : ∀ (rs : List RdD), (∀ r ∈ rs, r ∈ p.rs) → rs.foldl joinS (joinK p a k) = joinK p a k := by
          intro rs
          induction rs with
          | nil => intro _; rfl
          | cons r rs ih =>
            intro hs
            rw [List.foldl_cons]
            have : joinS (joinK p a k) r = joinK p a k := by
              unfold joinS
              split
              · rename_i hab
                obtain ⟨m1, m2⟩ := h3 r (hs r List.mem_cons_self) hab
                unfold addL
                rw [if_pos m1, if_pos m2]
              · rfl
            rw [this]
            exact ih fun q hq => hs q (List.mem_cons_of_mem _ hq)
        rw [hfix p.rs fun _ h => h]
      · have := h.2.1
        omega
theorem joined_iff {p : PairD} (hp : OkP p) (a b : Nat) (ha : a < p.bs.length) : (b : Int) ∈ joinK p a p.bs.length ↔ Conn p a b := by
  have hk := joinK_ok (p := p) (a : Int) p.bs.length
  constructor
  · exact hk.conn _
  · intro hc
    rcases joinK_grows (p := p) (a : Int) p.bs.length with h | h
    · refine hc.closed (S := fun y => y ∈ joinK p a p.bs.length) hk.own fun u v hu hadj => ?_
      obtain ⟨r, hr, ⟨rfl, rfl⟩ | ⟨rfl, rfl⟩⟩ := hadj
      · exact (h r hr (.inl hu)).2
      · exact (h r hr (.inr hu)).1
    · have := nodup_len p.bs.length _ hk.nd (fun y hy => conn_range hp (hk.conn y hy) ⟨by omega, by omega⟩)
      omega

end Go.Proofs.Ytlgeggekmdoceaa

/- What PairMore says (plain): with other readings, in another order, with other numbers, with another sign. -/
namespace Go.Proofs.Ytlgeggekmdoceaa
set_option linter.unusedVariables false
set_option linter.unusedSimpArgs false

/-- The truths of one pair, turned, are truths of another one. -/
def MapT (p q : PairD) (φ : List Int → List Int) : Prop := ∀ t ∈ truA p, (φ t.1, t.2) ∈ truA q
theorem MapT.ne {p q : PairD} {φ : List Int → List Int} (h : MapT p q φ) (hn : truA p ≠ []) : truA q ≠ [] := by
  obtain ⟨t, ht⟩ := List.exists_mem_of_ne_nil _ hn
  exact List.ne_nil_of_mem (h t ht)
theorem span_shift {p q : PairD} {φ ψ : List Int → List Int} {f g : List Int × (Int × Int) → Int} {T : Int × Int} (k : Int) (h : SpanOf (truA p) f T) (h1 : MapT p q φ) (h2 : MapT q p ψ)
    (e1 : ∀ t ∈ truA p, g (φ t.1, t.2) = f t + k) (e2 : ∀ t ∈ truA q, f (ψ t.1, t.2) = g t - k) : SpanOf (truA q) g (T.1 + k, T.2 + k) := by
  obtain ⟨⟨a, ha, ea⟩, ⟨b, hb, eb⟩, hall⟩ := h
  refine ⟨⟨_, h1 a ha, by rw [e1 a ha, ea]⟩, ⟨_, h1 b hb, by rw [e1 b hb, eb]⟩, fun t ht => ?_⟩
  have := hall _ (h2 t ht)
  rw [e2 t ht] at this
  dsimp only
  omega
theorem span_neg {p q : PairD} {φ ψ : List Int → List Int} {f g : List Int × (Int × Int) → Int} {T : Int × Int} (h : SpanOf (truA p) f T) (h1 : MapT p q φ) (h2 : MapT q p ψ)
    (e1 : ∀ t ∈ truA p, g (φ t.1, t.2) = - f t) (e2 : ∀ t ∈ truA q, f (ψ t.1, t.2) = - g t) : SpanOf (truA q) g (-T.2, -T.1) := by
  obtain ⟨⟨a, ha, ea⟩, ⟨b, hb, eb⟩, hall⟩ := h
  refine ⟨⟨_, h1 b hb, by rw [e1 b hb, eb]⟩, ⟨_, h1 a ha, by rw [e1 a ha, ea]⟩, fun t ht => ?_⟩
  have := hall _ (h2 t ht)
  rw [e2 t ht] at this
  dsimp only
  omega
theorem span_same {p q : PairD} {φ ψ : List Int → List Int} {f g : List Int × (Int × Int) → Int} {T : Int × Int} (h : SpanOf (truA p) f T) (h1 : MapT p q φ) (h2 : MapT q p ψ)
    (e1 : ∀ t ∈ truA p, g (φ t.1, t.2) = f t) (e2 : ∀ t ∈ truA q, f (ψ t.1, t.2) = g t) : SpanOf (truA q) g T := by
  have := span_shift (f := f) (g := g) 0 h h1 h2 (fun t ht => by rw [e1 t ht]; omega) (fun t ht => by rw [e2 t ht]; omega)
  simpa using this
theorem span_in {p q : PairD} {φ : List Int → List Int} {f g : List Int × (Int × Int) → Int} {S T : Int × Int} (h : SpanOf (truA p) f T) (k : SpanOf (truA q) g S) (h2 : MapT q p φ) (e2 : ∀ t ∈ truA q, f (φ t.1, t.2) = g t) : T.1 ≤ S.1 ∧ S.2 ≤ T.2 := by
  obtain ⟨⟨a, ha, ea⟩, ⟨b, hb, eb⟩, _⟩ := k
  have h3 := h.all _ (h2 a ha)
  have h4 := h.all _ (h2 b hb)
  rw [e2 a ha] at h3
  rw [e2 b hb] at h4
  omega
theorem getD_out {l : List Int} {n i : Nat} (h : l.length = n) (hi : n ≤ i) : l.getD i 0 = 0 := by
  rw [List.getD_eq_getElem?_getD, List.getElem?_eq_none (by omega)]; rfl

/-! ### blocks numbered otherwise, readings in another order -/
def revR (n : Nat) (r : RdD) : RdD := { r with a := (n : Int) - 1 - r.a, b := (n : Int) - 1 - r.b }
def revP (p : PairD) : PairD := { p with bs := p.bs.reverse, rs := (p.rs.map (revR p.bs.length)).reverse }
theorem revR_revR (n : Nat) (r : RdD) : revR n (revR n r) = r := by
  obtain ⟨a, b, m, lo, hi⟩ := r
  show RdD.mk ((n : Int) - 1 - ((n : Int) - 1 - a)) ((n : Int) - 1 - ((n : Int) - 1 - b)) m lo hi = ⟨a, b, m, lo, hi⟩
  rw [show (n : Int) - 1 - ((n : Int) - 1 - a) = a by omega, show (n : Int) - 1 - ((n : Int) - 1 - b) = b by omega]
theorem revP_revP (p : PairD) : revP (revP p) = p := by
  obtain ⟨bs, zl, zh, rl, rh, rs⟩ := p
  unfold revP
  simp only [List.length_reverse, List.reverse_reverse, List.map_reverse, List.map_map]
  congr 1
  rw [show (revR bs.length ∘ revR bs.length) = id from funext fun r => revR_revR _ r, List.map_id]
theorem revP_bs (p : PairD) : (revP p).bs.length = p.bs.length := by unfold revP; simp
theorem revP_rs (p : PairD) : (revP p).rs.length = p.rs.length := by unfold revP; simp
theorem revP_valid {p : PairD} (hv : validB p = true) : validB (revP p) = true := by
  unfold validB at hv ⊢
  rw [Bool.and_eq_true, Bool.and_eq_true, Bool.and_eq_true] at hv ⊢
  obtain ⟨⟨⟨h1, h2⟩, h3⟩, h4⟩ := hv
  refine ⟨⟨⟨?_, ?_⟩, h3⟩, ?_⟩
  · unfold okHead at h1 ⊢
    rw [revP_bs, revP_rs]
    exact h1
  · show p.bs.reverse.all okSp = true
    rw [List.all_reverse]; exact h2
  · rw [revP_bs]
    show (p.rs.map (revR p.bs.length)).reverse.all (okRd p.bs.length) = true
    rw [List.all_reverse, List.all_map]
    rw [List.all_eq_true] at h4 ⊢
    intro r hr
    have := h4 r hr
    simp only [Function.comp, okRd, revR, inB, okSpan, Bool.and_eq_true, decide_eq_true_eq] at this ⊢
    exact ⟨⟨⟨⟨decide_eq_true (by omega), decide_eq_true (by omega)⟩, decide_eq_true (by omega)⟩, decide_eq_true (by omega)⟩, decide_eq_true (by omega)⟩
theorem truth_rev {p : PairD} (hp : OkP p) {s s' : Nat} {c : Int × Int} {x y : Nat → Int} (h : TruthP p s c x) (h5 : y 5 = 0) (hy : ∀ i, i < p.bs.length → y i = x (p.bs.length - 1 - i))
    (hs : ∀ i, i < p.rs.length → s'.testBit i = true → s.testBit (p.rs.length - 1 - i) = true) : TruthP (revP p) s' c y := by
  refine ⟨h5, fun i hi => ?_, fun i hi hb => ?_⟩
  · have hi' : i < p.bs.length := by rw [revP_bs] at hi; exact hi
    have e : (revP p).bs[i] = p.bs[p.bs.length - 1 - i]'(by omega) := by simp [revP]
    rw [e, hy i hi']
    exact h.bs _ _
  · have hi' : i < p.rs.length := by rw [revP_rs] at hi; exact hi
    have e : (revP p).rs[i] = revR p.bs.length (p.rs[p.rs.length - 1 - i]'(by omega)) := by simp [revP]
    rw [e]
    have h1 := h.rs (p.rs.length - 1 - i) (by omega) (hs i hi' hb)
    have h2 := hp.rs _ (List.getElem_mem (by omega : p.rs.length - 1 - i < p.rs.length))
    generalize p.rs[p.rs.length - 1 - i]'(by omega) = r at *
    show r.lo ≤ y ((p.bs.length : Int) - 1 - r.a).toNat - y ((p.bs.length : Int) - 1 - r.b).toNat + showsC c.1 c.2 r.m ∧ y ((p.bs.length : Int) - 1 - r.a).toNat - y ((p.bs.length : Int) - 1 - r.b).toNat + showsC c.1 c.2 r.m ≤ r.hi
    rw [hy _ (by omega), hy _ (by omega), show p.bs.length - 1 - ((p.bs.length : Int) - 1 - r.a).toNat = r.a.toNat by omega, show p.bs.length - 1 - ((p.bs.length : Int) - 1 - r.b).toNat = r.b.toNat by omega]
    exact h1
theorem getD_reverse {l : List Int} {n i : Nat} (h : l.length = n) (hi : i < n) : l.reverse.getD i 0 = l.getD (n - 1 - i) 0 := by
  rw [List.getD_eq_getElem?_getD, List.getD_eq_getElem?_getD, List.getElem?_reverse (by omega), h]
theorem rev_map {p : PairD} (hv : validB p = true) : MapT p (revP p) List.reverse := by
  have hp := OkP.of p hv
  have n5 := hp.n5
  intro t ht
  obtain ⟨h1, h2, h3⟩ := (mem_truA hp t).1 ht
  refine (mem_truA (OkP.of _ (revP_valid hv)) _).2 ⟨h1, by rw [revP_bs]; simpa using h2, truth_rev hp h3 ?_ (fun i hi => getD_reverse h2 hi) (fun i hi _ => allR_bit p _ (by omega))⟩
  exact getD_out (by simpa using h2) (by omega)
theorem rev_back {p : PairD} (hv : validB p = true) : MapT (revP p) p List.reverse := by
  have := rev_map (revP_valid hv)
  rwa [revP_revP] at this
/-- The pair is told of truths that are as those of another one. -/
structure SameT (p q : PairD) (φ : List Int → List Int) (ψ : List Int → List Int) : Prop where
  v : validB p = true
  w : validB q = true
  n : q.bs.length = p.bs.length
  to : MapT p q φ
  back : MapT q p ψ
theorem SameT.nil {p q : PairD} {φ ψ : List Int → List Int} (h : SameT p q φ ψ) (e : truA p = []) : truA q = [] := Classical.byContradiction fun hn => h.back.ne hn e
theorem SameT.ne {p q : PairD} {φ ψ : List Int → List Int} (h : SameT p q φ ψ) (e : truA p ≠ []) : truA q ≠ [] := h.to.ne e
theorem rev_same {p : PairD} (hv : validB p = true) : SameT p (revP p) List.reverse List.reverse := ⟨hv, revP_valid hv, revP_bs p, rev_map hv, rev_back hv⟩
theorem SameT.shows {p q : PairD} {φ ψ : List Int → List Int} (h : SameT p q φ ψ) (m : Int) (hm : 0 ≤ m ∧ m ≤ 60) : showsV q m = showsV p m := by
  by_cases e : truA p = []
  · rw [showsV_no h.v e m hm, showsV_no h.w (h.nil e) m hm]
  · rw [showsV_yes h.v e m hm, showsV_yes h.w (h.ne e) m hm]
    rw [(hullS_spec (h.ne e) m).eq (span_same (hullS_spec e m) h.to h.back (fun _ _ => rfl) (fun _ _ => rfl))]
theorem rev_dif {p : PairD} (hv : validB p = true) {t : List Int × (Int × Int)} (ht : t ∈ truA p) (a b : Nat) (ha : a < p.bs.length) (hb : b < p.bs.length) : dif (p.bs.length - 1 - a) (p.bs.length - 1 - b) (t.1.reverse, t.2) = dif a b t := by
  have h2 := ((mem_truA (OkP.of p hv) t).1 ht).2.1
  unfold dif
  dsimp only
  rw [getD_reverse h2 (by omega), getD_reverse h2 (by omega), show p.bs.length - 1 - (p.bs.length - 1 - a) = a by omega, show p.bs.length - 1 - (p.bs.length - 1 - b) = b by omega]
theorem rev_dif5 {p : PairD} (hv : validB p = true) {t : List Int × (Int × Int)} (ht : t ∈ truA p) (a : Nat) (ha : a < p.bs.length) : dif (p.bs.length - 1 - a) 5 (t.1.reverse, t.2) = dif a 5 t := by
  have h2 := ((mem_truA (OkP.of p hv) t).1 ht).2.1
  have n5 := (OkP.of p hv).n5
  unfold dif
  dsimp only
  rw [getD_reverse h2 (by omega), getD_out (l := t.1.reverse) (by simpa using h2) n5, getD_out h2 n5, show p.bs.length - 1 - (p.bs.length - 1 - a) = a by omega]
theorem rev_known {p : PairD} (hv : validB p = true) (a : Nat) (ha : a < p.bs.length) : knownV (revP p) ((p.bs.length - 1 - a : Nat) : Int) = knownV p a := by
  have h := rev_same hv
  have hl : p.bs.length - 1 - a < (revP p).bs.length := by rw [revP_bs]; omega
  by_cases e : truA p = []
  · rw [knownV_no hv e a ha, knownV_no h.w (h.nil e) _ hl]
  · rw [knownV_yes hv e a ha, knownV_yes h.w (h.ne e) _ hl]
    rw [(hullD_spec (h.ne e) _ 5).eq (span_same (hullD_spec e a 5) h.to h.back (fun t ht => rev_dif5 hv ht a ha) (fun t ht => by
      have := rev_dif5 h.w ht (p.bs.length - 1 - a) hl
      rw [revP_bs, show p.bs.length - 1 - (p.bs.length - 1 - a) = a by omega] at this
      exact this))]
theorem rev_differ {p : PairD} (hv : validB p = true) (a b : Nat) (ha : a < p.bs.length) (hb : b < p.bs.length) : differV (revP p) ((p.bs.length - 1 - a : Nat) : Int) ((p.bs.length - 1 - b : Nat) : Int) = differV p a b := by
  have h := rev_same hv
  have hl : p.bs.length - 1 - a < (revP p).bs.length := by rw [revP_bs]; omega
  have hk : p.bs.length - 1 - b < (revP p).bs.length := by rw [revP_bs]; omega
  by_cases e : truA p = []
  · rw [differV_no hv e a b ha hb, differV_no h.w (h.nil e) _ _ hl hk]
  · rw [differV_yes hv e a b ha hb, differV_yes h.w (h.ne e) _ _ hl hk]
    rw [(hullD_spec (h.ne e) _ _).eq (span_same (hullD_spec e a b) h.to h.back (fun t ht => rev_dif hv ht a b ha hb) (fun t ht => by
      have := rev_dif h.w ht (p.bs.length - 1 - a) (p.bs.length - 1 - b) hl hk
      rw [revP_bs, show p.bs.length - 1 - (p.bs.length - 1 - a) = a by omega, show p.bs.length - 1 - (p.bs.length - 1 - b) = b by omega] at this
      exact this))]
/-- A set of readings, in the other order. -/
def revS (m s : Nat) : Nat := setN (fun i => s.testBit (m - 1 - i)) m
theorem revS_ones : ∀ m : Fin 9, ∀ s : Fin 256, s.val ≤ 2 ^ m.val - 1 → ones (revS m.val s.val) = ones s.val ∧ revS m.val s.val ≤ 2 ^ m.val - 1 := by decide +kernel
theorem revS_bit (m s i : Nat) (hi : i < m) : (revS m s).testBit i = s.testBit (m - 1 - i) := by
  unfold revS
  rw [setN_bit, decide_eq_true hi, Bool.true_and]
theorem sub_bit {p : PairD} {s i : Nat} (hs : s ≤ allR p) : (allR p - s).testBit i = (decide (i < p.rs.length) && !s.testBit i) := by
  have hpw := Nat.one_le_two_pow (n := p.rs.length)
  unfold allR at hs ⊢
  rw [show 2 ^ p.rs.length - 1 - s = 2 ^ p.rs.length - (s + 1) by omega, Nat.testBit_two_pow_sub_succ (by omega)]
theorem can_rev {p : PairD} (hp : OkP p) {s s' : Nat} (h : CanP p s) (hs : ∀ i, i < p.rs.length → s'.testBit i = true → s.testBit (p.rs.length - 1 - i) = true) : CanP (revP p) s' := by
  obtain ⟨c, hc, x, hx⟩ := h
  have n5 := hp.n5
  exact ⟨c, hc, fun i => if i < p.bs.length then x (p.bs.length - 1 - i) else 0, truth_rev hp hx (by rw [if_neg (by omega)]) (fun i hi => by rw [if_pos hi]) hs⟩
theorem rev_le {p : PairD} (hv : validB p = true) : ones (outS (revP p)) ≤ ones (outS p) := by
  have hp := OkP.of p hv
  have h1 := outS_ok hv
  have h2 := outS_ok (revP_valid hv)
  have hle := h1.le
  have h256 := allR_256 hv
  have h8 := hp.m8
  have ho := revS_ones ⟨p.rs.length, by omega⟩ ⟨outS p, by omega⟩ hle
  dsimp only at ho
  have hal : allR (revP p) = allR p := by unfold allR; rw [revP_rs]
  have := h2.least (revS p.rs.length (outS p)) (by rw [hal]; exact ho.2) ((someT_can (OkP.of _ (revP_valid hv)) _).2 (can_rev hp ((someT_can hp _).1 h1.can) (fun i hi hb => by
    rw [hal, sub_bit ho.2, revS_bit _ _ _ hi] at hb
    rw [sub_bit hle, decide_eq_true (by omega : p.rs.length - 1 - i < p.rs.length), Bool.true_and]
    rw [decide_eq_true hi, Bool.true_and] at hb
    exact hb)))
  omega
theorem rev_wrong {p : PairD} (hv : validB p = true) : ones (outS (revP p)) = ones (outS p) := by
  have h1 := rev_le hv
  have h2 := rev_le (revP_valid hv)
  rw [revP_revP] at h2
  omega

/-! ### all deviations greater by a number -/
def shiftP (p : PairD) (k : Int) : PairD := { p with bs := p.bs.map fun s => (s.1 + k, s.2 + k) }
theorem shiftP_back (p : PairD) (k : Int) : shiftP (shiftP p k) (-k) = p := by
  obtain ⟨bs, zl, zh, rl, rh, rs⟩ := p
  unfold shiftP
  simp only [List.map_map]
  congr 1
  rw [show ((fun s : Int × Int => (s.1 + -k, s.2 + -k)) ∘ fun s : Int × Int => (s.1 + k, s.2 + k)) = id from funext fun s => by
    show (s.1 + k + -k, s.2 + k + -k) = s
    apply Prod.ext <;> (dsimp only; omega), List.map_id]
theorem shiftP_bs (p : PairD) (k : Int) : (shiftP p k).bs.length = p.bs.length := by unfold shiftP; simp
theorem shiftP_valid {p : PairD} (hv : validB p = true) {k : Int} (hk : 0 ≤ k) (hf : ∀ s ∈ p.bs, s.2 + k ≤ 20) : validB (shiftP p k) = true := by
  unfold validB at hv ⊢
  rw [Bool.and_eq_true, Bool.and_eq_true, Bool.and_eq_true] at hv ⊢
  obtain ⟨⟨⟨h1, h2⟩, h3⟩, h4⟩ := hv
  refine ⟨⟨⟨?_, ?_⟩, h3⟩, ?_⟩
  · unfold okHead at h1 ⊢
    rw [shiftP_bs]
    exact h1
  · show (p.bs.map fun s => (s.1 + k, s.2 + k)).all okSp = true
    rw [List.all_map]
    rw [List.all_eq_true] at h2 ⊢
    intro s hs
    have h5 := h2 s hs
    have h6 := hf s hs
    simp only [Function.comp, okSp, okSpan, Bool.and_eq_true, decide_eq_true_eq] at h5 ⊢
    omega
  · rw [shiftP_bs]
    exact h4
theorem truth_shift {p : PairD} (hp : OkP p) {s : Nat} {c : Int × Int} {x y : Nat → Int} {k : Int} (h : TruthP p s c x) (h5 : y 5 = 0) (hy : ∀ i, i < p.bs.length → y i = x i + k) : TruthP (shiftP p k) s c y := by
  refine ⟨h5, fun i hi => ?_, fun i hi hb => ?_⟩
  · have hi' : i < p.bs.length := by rw [shiftP_bs] at hi; exact hi
    have e : (shiftP p k).bs[i] = (p.bs[i].1 + k, p.bs[i].2 + k) := by simp [shiftP]
    rw [e, hy i hi']
    have := h.bs i hi'
    dsimp only
    omega
  · have hi' : i < p.rs.length := hi
    have h1 := h.rs i hi' hb
    have h2 := hp.rs _ (List.getElem_mem hi')
    show p.rs[i].lo ≤ y p.rs[i].a.toNat - y p.rs[i].b.toNat + showsC c.1 c.2 p.rs[i].m ∧ y p.rs[i].a.toNat - y p.rs[i].b.toNat + showsC c.1 c.2 p.rs[i].m ≤ p.rs[i].hi
    rw [hy _ (by omega), hy _ (by omega)]
    omega
theorem getD_map {l : List Int} {n i : Nat} (f : Int → Int) (h : l.length = n) (hi : i < n) : (l.map f).getD i 0 = f (l.getD i 0) := by
  rw [List.getD_eq_getElem?_getD, List.getD_eq_getElem?_getD, List.getElem?_map, List.getElem?_eq_getElem (by omega)]
  rfl
theorem shift_map {p : PairD} {k : Int} (hv : validB p = true) (hw : validB (shiftP p k) = true) : MapT p (shiftP p k) (List.map (· + k)) := by
  have hp := OkP.of p hv
  have n5 := hp.n5
  intro t ht
  obtain ⟨h1, h2, h3⟩ := (mem_truA hp t).1 ht
  refine (mem_truA (OkP.of _ hw) _).2 ⟨h1, by rw [shiftP_bs]; simpa using h2, truth_shift hp h3 ?_ (fun i hi => getD_map _ h2 hi)⟩
  exact getD_out (by simpa using h2) (by omega)
theorem shift_same {p : PairD} {k : Int} (hv : validB p = true) (hw : validB (shiftP p k) = true) : SameT p (shiftP p k) (List.map (· + k)) (List.map (· + -k)) := by
  refine ⟨hv, hw, shiftP_bs p k, shift_map hv hw, ?_⟩
  have := shift_map (p := shiftP p k) (k := -k) hw (by rw [shiftP_back]; exact hv)
  rwa [shiftP_back] at this
theorem shift_known {p : PairD} {k : Int} (hv : validB p = true) (hw : validB (shiftP p k) = true) (a : Nat) (ha : a < p.bs.length) : knownV (shiftP p k) a = if truA p = [] then ((0, 0), 10) else (((hullD p a 5).1 + k, (hullD p a 5).2 + k), 0) := by
  have h := shift_same hv hw
  have hl : a < (shiftP p k).bs.length := by rw [shiftP_bs]; omega
  by_cases e : truA p = []
  · rw [if_pos e, knownV_no h.w (h.nil e) _ hl]
  · rw [if_neg e, knownV_yes h.w (h.ne e) _ hl]
    rw [(hullD_spec (h.ne e) _ 5).eq (span_shift k (hullD_spec e a 5) h.to h.back (fun t ht => by
      have h2 := ((mem_truA (OkP.of p hv) t).1 ht).2.1
      have n5 := (OkP.of p hv).n5
      unfold dif
      dsimp only
      rw [getD_map _ h2 ha, getD_out (l := t.1.map (· + k)) (by simpa using h2) n5, getD_out h2 n5]
      omega) (fun t ht => by
      have h2 := ((mem_truA (OkP.of _ hw) t).1 ht).2.1
      have n5 := (OkP.of _ hw).n5
      unfold dif
      dsimp only
      rw [getD_map _ h2 hl, getD_out (l := t.1.map (· + -k)) (by simpa using h2) n5, getD_out h2 n5]
      omega))]
theorem shift_differ {p : PairD} {k : Int} (hv : validB p = true) (hw : validB (shiftP p k) = true) (a b : Nat) (ha : a < p.bs.length) (hb : b < p.bs.length) : differV (shiftP p k) a b = differV p a b := by
  have h := shift_same hv hw
  have hl : a < (shiftP p k).bs.length := by rw [shiftP_bs]; omega
  have hm : b < (shiftP p k).bs.length := by rw [shiftP_bs]; omega
  by_cases e : truA p = []
  · rw [differV_no hv e a b ha hb, differV_no h.w (h.nil e) _ _ hl hm]
  · rw [differV_yes hv e a b ha hb, differV_yes h.w (h.ne e) _ _ hl hm]
    rw [(hullD_spec (h.ne e) _ _).eq (span_same (hullD_spec e a b) h.to h.back (fun t ht => by
      have h2 := ((mem_truA (OkP.of p hv) t).1 ht).2.1
      unfold dif
      dsimp only
      rw [getD_map _ h2 ha, getD_map _ h2 hb]
      omega) (fun t ht => by
      have h2 := ((mem_truA (OkP.of _ hw) t).1 ht).2.1
      unfold dif
      dsimp only
      rw [getD_map _ h2 hl, getD_map _ h2 hm]
      omega))]

/-! ### another sign -/
def swapR (r : RdD) : RdD := { r with a := r.b, b := r.a }
def negP (p : PairD) : PairD := { p with bs := p.bs.map (fun s => (-s.2, -s.1)), rs := p.rs.map swapR }
theorem negP_negP (p : PairD) : negP (negP p) = p := by
  obtain ⟨bs, zl, zh, rl, rh, rs⟩ := p
  unfold negP
  simp only [List.map_map]
  congr 1
  · rw [show ((fun s : Int × Int => (-s.2, -s.1)) ∘ fun s : Int × Int => (-s.2, -s.1)) = id from funext fun s => by
      show (- -s.1, - -s.2) = s
      apply Prod.ext <;> (dsimp only; omega), List.map_id]
  · rw [show (swapR ∘ swapR) = id from funext fun s => rfl, List.map_id]
theorem negP_bs (p : PairD) : (negP p).bs.length = p.bs.length := by unfold negP; simp
theorem negP_rs (p : PairD) : (negP p).rs.length = p.rs.length := by unfold negP; simp
theorem negP_valid {p : PairD} (hv : validB p = true) : validB (negP p) = true := by
  unfold validB at hv ⊢
  rw [Bool.and_eq_true, Bool.and_eq_true, Bool.and_eq_true] at hv ⊢
  obtain ⟨⟨⟨h1, h2⟩, h3⟩, h4⟩ := hv
  refine ⟨⟨⟨?_, ?_⟩, h3⟩, ?_⟩
  · unfold okHead at h1 ⊢
    rw [negP_bs, negP_rs]
    exact h1
  · show (p.bs.map fun s => (-s.2, -s.1)).all okSp = true
    rw [List.all_map]
    rw [List.all_eq_true] at h2 ⊢
    intro s hs
    have h5 := h2 s hs
    simp only [Function.comp, okSp, okSpan, Bool.and_eq_true, decide_eq_true_eq] at h5 ⊢
    omega
  · rw [negP_bs]
    show (p.rs.map swapR).all (okRd p.bs.length) = true
    rw [List.all_map]
    rw [List.all_eq_true] at h4 ⊢
    intro r hr
    have := h4 r hr
    simp only [Function.comp, okRd, swapR, inB, okSpan, Bool.and_eq_true, decide_eq_true_eq] at this ⊢
    exact ⟨⟨⟨⟨decide_eq_true (by omega), decide_eq_true (by omega)⟩, decide_eq_true (by omega)⟩, decide_eq_true (by omega)⟩, decide_eq_true (by omega)⟩
theorem truth_neg {p : PairD} (hp : OkP p) {s : Nat} {c : Int × Int} {x y : Nat → Int} (h : TruthP p s c x) (h5 : y 5 = 0) (hy : ∀ i, i < p.bs.length → y i = - x i) : TruthP (negP p) s c y := by
  refine ⟨h5, fun i hi => ?_, fun i hi hb => ?_⟩
  · have hi' : i < p.bs.length := by rw [negP_bs] at hi; exact hi
    have e : (negP p).bs[i] = (-p.bs[i].2, -p.bs[i].1) := by simp [negP]
    rw [e, hy i hi']
    have := h.bs i hi'
    dsimp only
    omega
  · have hi' : i < p.rs.length := by rw [negP_rs] at hi; exact hi
    have e : (negP p).rs[i] = swapR p.rs[i] := by simp [negP]
    rw [e]
    have h1 := h.rs i hi' hb
    have h2 := hp.rs _ (List.getElem_mem hi')
    show p.rs[i].lo ≤ y p.rs[i].b.toNat - y p.rs[i].a.toNat + showsC c.1 c.2 p.rs[i].m ∧ y p.rs[i].b.toNat - y p.rs[i].a.toNat + showsC c.1 c.2 p.rs[i].m ≤ p.rs[i].hi
    rw [hy _ (by omega), hy _ (by omega)]
    omega
theorem neg_map {p : PairD} (hv : validB p = true) : MapT p (negP p) (List.map (- ·)) := by
  have hp := OkP.of p hv
  have n5 := hp.n5
  intro t ht
  obtain ⟨h1, h2, h3⟩ := (mem_truA hp t).1 ht
  refine (mem_truA (OkP.of _ (negP_valid hv)) _).2 ⟨h1, by rw [negP_bs]; simpa using h2, ?_⟩
  have hal : allR (negP p) = allR p := by unfold allR; rw [negP_rs]
  rw [hal]
  exact truth_neg hp h3 (getD_out (by simpa using h2) (by omega)) (fun i hi => getD_map _ h2 hi)
theorem neg_same {p : PairD} (hv : validB p = true) : SameT p (negP p) (List.map (- ·)) (List.map (- ·)) := by
  refine ⟨hv, negP_valid hv, negP_bs p, neg_map hv, ?_⟩
  have := neg_map (negP_valid hv)
  rwa [negP_negP] at this
theorem neg_known {p : PairD} (hv : validB p = true) (a : Nat) (ha : a < p.bs.length) : knownV (negP p) a = if truA p = [] then ((0, 0), 10) else ((-(hullD p a 5).2, -(hullD p a 5).1), 0) := by
  have h := neg_same hv
  have hl : a < (negP p).bs.length := by rw [negP_bs]; omega
  by_cases e : truA p = []
  · rw [if_pos e, knownV_no h.w (h.nil e) _ hl]
  · rw [if_neg e, knownV_yes h.w (h.ne e) _ hl]
    rw [(hullD_spec (h.ne e) _ 5).eq (span_neg (hullD_spec e a 5) h.to h.back (fun t ht => by
      have h2 := ((mem_truA (OkP.of p hv) t).1 ht).2.1
      have n5 := (OkP.of p hv).n5
      unfold dif
      dsimp only
      rw [getD_map _ h2 ha, getD_out (l := t.1.map (- ·)) (by simpa using h2) n5, getD_out h2 n5]
      omega) (fun t ht => by
      have h2 := ((mem_truA (OkP.of _ h.w) t).1 ht).2.1
      have n5 := (OkP.of _ h.w).n5
      unfold dif
      dsimp only
      rw [getD_map _ h2 hl, getD_out (l := t.1.map (- ·)) (by simpa using h2) n5, getD_out h2 n5]
      omega))]
theorem neg_differ {p : PairD} (hv : validB p = true) (a b : Nat) (ha : a < p.bs.length) (hb : b < p.bs.length) : differV (negP p) b a = differV p a b := by
  have h := neg_same hv
  have hl : a < (negP p).bs.length := by rw [negP_bs]; omega
  have hm : b < (negP p).bs.length := by rw [negP_bs]; omega
  by_cases e : truA p = []
  · rw [differV_no hv e a b ha hb, differV_no h.w (h.nil e) _ _ hm hl]
  · rw [differV_yes hv e a b ha hb, differV_yes h.w (h.ne e) _ _ hm hl]
    rw [(hullD_spec (h.ne e) _ _).eq (span_same (hullD_spec e a b) h.to h.back (fun t ht => by
      have h2 := ((mem_truA (OkP.of p hv) t).1 ht).2.1
      unfold dif
      dsimp only
      rw [getD_map _ h2 ha, getD_map _ h2 hb]
      omega) (fun t ht => by
      have h2 := ((mem_truA (OkP.of _ h.w) t).1 ht).2.1
      unfold dif
      dsimp only
      rw [getD_map _ h2 hl, getD_map _ h2 hm]
      omega))]

/-! ### a reading more, or one that is narrower -/
/-- A truth of q, by a set, is one of p by another one. -/
structure LessT (p q : PairD) : Prop where
  v : validB p = true
  w : validB q = true
  n : q.bs.length = p.bs.length
  sub : MapT q p id
theorem LessT.told {p q : PairD} (h : LessT p q) (a b : Nat) (m : Int) (ha : a < p.bs.length) (hb : b < p.bs.length) (hm : 0 ≤ m ∧ m ≤ 60) :
    (knownV q a).2 = (differV q a b).2 ∧ (knownV q a).2 = (showsV q m).2 ∧ (((knownV q a).2 = 0 ∧ (knownV p a).2 = 0 ∧ ((knownV p a).1.1 ≤ (knownV q a).1.1 ∧ (knownV q a).1.2 ≤ (knownV p a).1.2) ∧ ((differV p a b).1.1 ≤ (differV q a b).1.1 ∧ (differV q a b).1.2 ≤ (differV p a b).1.2) ∧ ((showsV p m).1.1 ≤ (showsV q m).1.1 ∧ (showsV q m).1.2 ≤ (showsV p m).1.2)) ∨ (knownV q a).2 = 10) := by
  have ha' : a < q.bs.length := by rw [h.n]; exact ha
  have hb' : b < q.bs.length := by rw [h.n]; exact hb
  by_cases e : truA q = []
  · rw [knownV_no h.w e a ha', differV_no h.w e a b ha' hb', showsV_no h.w e m hm]
    exact ⟨rfl, rfl, .inr rfl⟩
  · have e' : truA p ≠ [] := h.sub.ne e
    rw [knownV_yes h.w e a ha', differV_yes h.w e a b ha' hb', showsV_yes h.w e m hm, knownV_yes h.v e' a ha, differV_yes h.v e' a b ha hb, showsV_yes h.v e' m hm]
    exact ⟨rfl, rfl, .inl ⟨rfl, rfl, span_in (hullD_spec e' a 5) (hullD_spec e a 5) h.sub (fun _ _ => rfl), span_in (hullD_spec e' a b) (hullD_spec e a b) h.sub (fun _ _ => rfl), span_in (hullS_spec e' m) (hullS_spec e m) h.sub (fun _ _ => rfl)⟩⟩
theorem withR_at {p : PairD} {r : RdD} (i : Nat) (hi : i < p.rs.length) : (withR p r).rs[i]'(by unfold withR; simp; omega) = p.rs[i] := by
  unfold withR
  simp [List.getElem_append_left hi]
theorem truth_less {p : PairD} {r : RdD} {s s' : Nat} {c : Int × Int} {x : Nat → Int} (h : TruthP (withR p r) s c x) (hs : ∀ i, i < p.rs.length → s'.testBit i = true → s.testBit i = true) : TruthP p s' c x := by
  refine ⟨h.mark, h.bs, fun i hi hb => ?_⟩
  have := h.rs i (by unfold withR; simp; omega) (hs i hi hb)
  rw [withR_at i hi] at this
  exact this
theorem withR_less {p : PairD} {r : RdD} (hv : validB p = true) (hw : validB (withR p r) = true) : LessT p (withR p r) := by
  refine ⟨hv, hw, rfl, fun t ht => ?_⟩
  obtain ⟨h1, h2, h3⟩ := (mem_truA (OkP.of _ hw) t).1 ht
  exact (mem_truA (OkP.of _ hv) _).2 ⟨h1, h2, truth_less h3 (fun i hi _ => allR_bit _ i (by unfold withR; simp; omega))⟩
theorem low_ones : ∀ m : Fin 8, ∀ o : Fin 256, ones (o.val % 2 ^ m.val) ≤ ones o.val ∧ (o.val < 2 ^ m.val → ones (o.val + 2 ^ m.val) = ones o.val + 1) := by decide +kernel
theorem withR_wrong {p : PairD} {r : RdD} (hv : validB p = true) (hw : validB (withR p r) = true) : ones (outS p) ≤ ones (outS (withR p r)) ∧ ones (outS (withR p r)) ≤ ones (outS p) + 1 := by
  have hp := OkP.of _ hv
  have hq := OkP.of _ hw
  have h1 := outS_ok hv
  have h2 := outS_ok hw
  have l1 := h1.le
  have l2 := h2.le
  have hlen : (withR p r).rs.length = p.rs.length + 1 := by unfold withR; simp
  have h8 := hq.m8
  have b2 := allR_256 hw
  have b1 := allR_256 hv
  have hpw := Nat.one_le_two_pow (n := p.rs.length)
  have hal : allR (withR p r) = allR p + 2 ^ p.rs.length := by unfold allR; rw [hlen, Nat.pow_succ]; omega
  have a1 := low_ones ⟨p.rs.length, by omega⟩ ⟨outS (withR p r), by omega⟩
  have a2 := low_ones ⟨p.rs.length, by omega⟩ ⟨outS p, by omega⟩
  dsimp only at a1 a2
  have hlt : outS p < 2 ^ p.rs.length := by unfold allR at l1; omega
  have hmod : outS (withR p r) % 2 ^ p.rs.length ≤ allR p := by have := Nat.mod_lt (outS (withR p r)) hpw; unfold allR; omega
  have c1 := h1.least (outS (withR p r) % 2 ^ p.rs.length) hmod ((someT_can hp _).2 (by
    obtain ⟨c, hc, x, hx⟩ := (someT_can hq _).1 h2.can
    refine ⟨c, hc, x, truth_less hx fun i hi hb => ?_⟩
    rw [sub_bit hmod, decide_eq_true hi, Bool.true_and, Nat.testBit_mod_two_pow, decide_eq_true hi, Bool.true_and] at hb
    rw [sub_bit l2, hb, decide_eq_true (by omega)]
    rfl))
  have c2 := h2.least (outS p + 2 ^ p.rs.length) (by omega) ((someT_can hq _).2 (by
    obtain ⟨c, hc, x, hx⟩ := (someT_can hp _).1 h1.can
    refine ⟨c, hc, x, hx.mark, hx.bs, fun i hi hb => ?_⟩
    rw [hal, show allR p + 2 ^ p.rs.length - (outS p + 2 ^ p.rs.length) = allR p - outS p by omega, sub_bit l1, Bool.and_eq_true, decide_eq_true_eq] at hb
    rw [withR_at i hb.1]
    exact hx.rs i hb.1 (by rw [sub_bit l1, decide_eq_true hb.1, hb.2]; rfl)))
  have := a2.2 hlt
  omega
/-- The pair of which one reading is narrower. -/
def narP (p : PairD) (i : Nat) : PairD := { p with rs := p.rs.modify i fun r => { r with lo := min r.hi (r.lo + 1) } }
theorem narP_rs (p : PairD) (i : Nat) : (narP p i).rs.length = p.rs.length := by unfold narP; simp
theorem narP_at (p : PairD) (hp : OkP p) (i j : Nat) (hj : j < p.rs.length) : ∃ lo, (narP p i).rs[j]'(by rw [narP_rs]; exact hj) = { p.rs[j] with lo := lo } ∧ p.rs[j].lo ≤ lo := by
  have := hp.rs _ (List.getElem_mem hj)
  unfold narP
  simp only [List.getElem_modify]
  split
  · exact ⟨_, rfl, by omega⟩
  · exact ⟨_, rfl, Int.le_refl _⟩
theorem truth_nar {p : PairD} (hp : OkP p) {i s : Nat} {c : Int × Int} {x : Nat → Int} (h : TruthP (narP p i) s c x) : TruthP p s c x := by
  refine ⟨h.mark, h.bs, fun j hj hb => ?_⟩
  obtain ⟨lo, e, hle⟩ := narP_at p hp i j hj
  have := h.rs j (by rw [narP_rs]; exact hj) hb
  rw [e] at this
  dsimp only at this
  omega
theorem narP_less {p : PairD} {i : Nat} (hv : validB p = true) (hw : validB (narP p i) = true) : LessT p (narP p i) := by
  refine ⟨hv, hw, rfl, fun t ht => ?_⟩
  obtain ⟨h1, h2, h3⟩ := (mem_truA (OkP.of _ hw) t).1 ht
  have hal : allR (narP p i) = allR p := by unfold allR; rw [narP_rs]
  rw [hal] at h3
  exact (mem_truA (OkP.of _ hv) _).2 ⟨h1, h2, truth_nar (OkP.of _ hv) h3⟩
theorem narP_wrong {p : PairD} {i : Nat} (hv : validB p = true) (hw : validB (narP p i) = true) : ones (outS p) ≤ ones (outS (narP p i)) := by
  have h1 := outS_ok hv
  have h2 := outS_ok hw
  have hal : allR (narP p i) = allR p := by unfold allR; rw [narP_rs]
  have := h1.least (outS (narP p i)) (by have := h2.le; rw [hal] at this; exact this) ((someT_can (OkP.of _ hv) _).2 (by
    obtain ⟨c, hc, x, hx⟩ := (someT_can (OkP.of _ hw) _).1 h2.can
    rw [hal] at hx
    exact ⟨c, hc, x, truth_nar (OkP.of _ hv) hx⟩))
  omega

end Go.Proofs.Ytlgeggekmdoceaa
