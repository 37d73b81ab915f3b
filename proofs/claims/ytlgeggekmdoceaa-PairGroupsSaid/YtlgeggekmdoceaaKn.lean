/- Texts Pe, Tm, Tq in one file; each begins with a word on what it proves. -/
import Derived.Test.YtlgeggekmdoceaaKk
import Derived.Test.YtlgeggekmdoceaaKm

/- What PairGroups says (plain): a reading more joins two groups, or none. -/
namespace Go.Proofs.Ytlgeggekmdoceaa
set_option linter.unusedVariables false
set_option linter.unusedSimpArgs false

/-- The pair with a reading more. -/
def withR (p : PairD) (r : RdD) : PairD := { p with rs := p.rs ++ [r] }
theorem withR_valid {p : PairD} (hv : validB p = true) {r : RdD} (h8 : p.rs.length < 8) (hr : okRd p.bs.length r = true) : validB (withR p r) = true := by
  unfold validB at hv ⊢
  rw [Bool.and_eq_true, Bool.and_eq_true, Bool.and_eq_true] at hv ⊢
  obtain ⟨⟨⟨h1, h2⟩, h3⟩, h4⟩ := hv
  refine ⟨⟨⟨?_, h2⟩, h3⟩, ?_⟩
  · unfold okHead withR at *
    rw [Bool.and_eq_true] at h1 ⊢
    refine ⟨h1.1, ?_⟩
    rw [decide_eq_true_eq]
    simp only [List.length_append, List.length_cons, List.length_nil]
    omega
  · show (p.rs ++ [r]).all (okRd p.bs.length) = true
    rw [List.all_append, h4, Bool.true_and]
    simpa using hr
def cutR (p : PairD) (k : Nat) : PairD := { p with rs := p.rs.take k }
theorem cutR_valid {p : PairD} (hv : validB p = true) (k : Nat) : validB (cutR p k) = true := by
  unfold validB at hv ⊢
  rw [Bool.and_eq_true, Bool.and_eq_true, Bool.and_eq_true] at hv ⊢
  obtain ⟨⟨⟨h1, h2⟩, h3⟩, h4⟩ := hv
  refine ⟨⟨⟨?_, h2⟩, h3⟩, ?_⟩
  · unfold okHead cutR at *
    rw [Bool.and_eq_true] at h1 ⊢
    refine ⟨h1.1, ?_⟩
    have := h1.2
    rw [decide_eq_true_eq] at this ⊢
    rw [List.length_take]
    omega
  · show (p.rs.take k).all (okRd p.bs.length) = true
    rw [List.all_eq_true] at h4 ⊢
    exact fun r hr => h4 r (List.mem_of_mem_take hr)
theorem cutR_next (p : PairD) (k : Nat) (hk : k < p.rs.length) : cutR p (k + 1) = withR (cutR p k) p.rs[k] := by
  unfold cutR withR
  rw [List.take_succ_eq_append_getElem hk]
theorem cutR_all (p : PairD) : cutR p p.rs.length = p := by unfold cutR; rw [List.take_length]
theorem adj_with {p : PairD} {r : RdD} {x y : Int} : Adj (withR p r) x y ↔ Adj p x y ∨ (r.a = x ∧ r.b = y) ∨ (r.b = x ∧ r.a = y) := by
  unfold Adj withR
  constructor
  · rintro ⟨q, hq, h⟩
    rcases List.mem_append.1 hq with hq | hq
    · exact .inl ⟨q, hq, h⟩
    · rw [List.mem_singleton] at hq
      subst hq
      exact .inr h
  · rintro (⟨q, hq, h⟩ | h)
    · exact ⟨q, List.mem_append_left _ hq, h⟩
    · exact ⟨r, List.mem_append_right _ (by simp), h⟩
theorem conn_mono {p : PairD} {r : RdD} {x y : Int} (h : Conn p x y) : Conn (withR p r) x y := by
  induction h with
  | refl => exact .refl _
  | step _ ha ih => exact .step ih (adj_with.2 (.inl ha))
theorem conn_with {p : PairD} {r : RdD} {x y : Int} : Conn (withR p r) x y ↔ Conn p x y ∨ (Conn p x r.a ∧ Conn p r.b y) ∨ (Conn p x r.b ∧ Conn p r.a y) := by
  constructor
  · intro h
    induction h with
    | refl => exact .inl (.refl _)
    | step _ ha ih =>
      rcases adj_with.1 ha with ha | ⟨rfl, rfl⟩ | ⟨rfl, rfl⟩
      · rcases ih with h | ⟨h, k⟩ | ⟨h, k⟩
        · exact .inl (.step h ha)
        · exact .inr (.inl ⟨h, .step k ha⟩)
        · exact .inr (.inr ⟨h, .step k ha⟩)
      · rcases ih with h | ⟨h, k⟩ | ⟨h, k⟩
        · exact .inr (.inl ⟨h, .refl _⟩)
        · exact .inr (.inl ⟨h, .refl _⟩)
        · exact .inl h
      · rcases ih with h | ⟨h, k⟩ | ⟨h, k⟩
        · exact .inr (.inr ⟨h, .refl _⟩)
        · exact .inl h
        · exact .inr (.inr ⟨h, .refl _⟩)
  · have e : Conn (withR p r) r.a r.b := .step (.refl _) (adj_with.2 (.inr (.inl ⟨rfl, rfl⟩)))
    rintro (h | ⟨h, k⟩ | ⟨h, k⟩)
    · exact conn_mono h
    · exact ((conn_mono h).trans e).trans (conn_mono k)
    · exact ((conn_mono h).trans e.symm).trans (conn_mono k)
/-- How many groups there are. -/
def cntM (p : PairD) : Nat := ((List.range p.bs.length).filter (ownL p)).length
theorem groupsV_yes {p : PairD} (hv : validB p = true) : groupsV p = ((cntM p : Int), 0) := by
  unfold groupsV
  rw [if_neg (by simp [hv])]
  rfl
theorem min_one {p : PairD} {i j : Nat} (hi : IsMin p i) (hj : IsMin p j) (h : Conn p i j) : i = j := by
  rcases Nat.lt_trichotomy i j with k | k | k
  · exact absurd h (hj i k)
  · exact k
  · exact absurd h.symm (hi j k)
theorem count_next (f : Nat → Bool) (n : Nat) : ((List.range (n + 1)).filter f).length = ((List.range n).filter f).length + (if f n then 1 else 0) := by
  rw [List.range_succ, List.filter_append, List.length_append]
  cases h : f n <;> simp [h]
theorem count_remove (f g : Nat → Bool) (m : Nat) (hm : g m = true) : ∀ n, (∀ i, i < n → f i = (g i && decide (i ≠ m))) → ((List.range n).filter g).length = ((List.range n).filter f).length + (if m < n then 1 else 0)
  | 0, _ => by simp
  | n + 1, h => by
    rw [count_next, count_next, count_remove f g m hm n (fun i hi => h i (by omega)), h n (by omega)]
    by_cases e : n = m
    · subst e
      simp [hm]
    · cases hg : g n
      · have e2 : (m < n) = (m < n + 1) := by rw [eq_iff_iff]; omega
        simp [e2]
      · have e2 : (m < n) = (m < n + 1) := by rw [eq_iff_iff]; omega
        simp [e, e2]; omega
theorem cnt_same {p q : PairD} (hp : OkP p) (hq : OkP q) (hb : q.bs.length = p.bs.length) (h : ∀ x y, Conn q x y ↔ Conn p x y) : cntM q = cntM p := by
  unfold cntM
  rw [hb]
  congr 1
  apply List.filter_congr
  intro i hi
  rw [List.mem_range] at hi
  rw [Bool.eq_iff_iff, ownL_iff hp i hi, ownL_iff hq i (by omega)]
  unfold IsMin
  simp only [h]
theorem cnt_join {p : PairD} {r : RdD} (hv : validB p = true) (hw : validB (withR p r) = true) : (Conn p r.a r.b → cntM (withR p r) = cntM p) ∧ (¬ Conn p r.a r.b → cntM p = cntM (withR p r) + 1) := by
  have hp := OkP.of p hv
  have hq := OkP.of _ hw
  constructor
  · intro hc
    refine cnt_same hp hq rfl fun x y => ?_
    rw [conn_with]
    constructor
    · rintro (h | ⟨h, k⟩ | ⟨h, k⟩)
      · exact h
      · exact (h.trans hc).trans k
      · exact (h.trans hc.symm).trans k
    · exact .inl
  · intro hc
    have hr := hq.rs r (List.mem_append_right _ (by simp))
    have hn : (withR p r).bs.length = p.bs.length := rfl
    rw [hn] at hr
    obtain ⟨ma, a1, a2, a3⟩ := has_min (p := p) r.a.toNat
    obtain ⟨mb, b1, b2, b3⟩ := has_min (p := p) r.b.toNat
    rw [Int.toNat_of_nonneg hr.1] at a3
    rw [Int.toNat_of_nonneg hr.2.2.1] at b3
    have hab : ma ≠ mb := by
      intro e
      rw [e] at a3
      exact hc (a3.symm.trans b3)
    have key : ∀ i, IsMin (withR p r) i ↔ IsMin p i ∧ i ≠ max ma mb := by
      intro i
      constructor
      · intro h
        refine ⟨fun k hk hck => h k hk (conn_mono hck), fun e => ?_⟩
        rcases Nat.lt_or_gt_of_ne hab with k | k
        · refine h ma (by omega) (conn_with.2 (.inr (.inl ⟨a3, ?_⟩)))
          rw [show i = mb by omega]
          exact b3.symm
        · refine h mb (by omega) (conn_with.2 (.inr (.inr ⟨b3, ?_⟩)))
          rw [show i = ma by omega]
          exact a3.symm
      · rintro ⟨h, hne⟩ k hk hck
        rcases conn_with.1 hck with c | ⟨c, d⟩ | ⟨c, d⟩
        · exact h k hk c
        · have e := min_one b2 h (b3.trans d)
          have : ¬ k < ma := fun hlt => a2 k hlt (c.trans a3.symm)
          omega
        · have e := min_one a2 h (a3.trans d)
          have : ¬ k < mb := fun hlt => b2 k hlt (c.trans b3.symm)
          omega
    have hmx : IsMin p (max ma mb) := by
      rcases Nat.le_total ma mb with k | k
      · rw [Nat.max_eq_right k]; exact b2
      · rw [Nat.max_eq_left k]; exact a2
    have hml : max ma mb < p.bs.length := by omega
    have := count_remove (ownL (withR p r)) (ownL p) (max ma mb) ((ownL_iff hp _ hml).2 hmx) p.bs.length (fun i hi => by
      rw [Bool.eq_iff_iff, ownL_iff hq i hi, key, Bool.and_eq_true, ownL_iff hp i hi, decide_eq_true_eq])
    rw [if_pos hml] at this
    exact this
theorem cnt_bare {p : PairD} (hv : validB p = true) (h0 : p.rs = []) : cntM p = p.bs.length := by
  have hp := OkP.of p hv
  have hc : ∀ x y, Conn p x y → x = y := fun x y h => by
    induction h with
    | refl => rfl
    | step _ ha _ =>
      obtain ⟨r, hr, _⟩ := ha
      rw [h0] at hr
      cases hr
  unfold cntM
  rw [List.filter_eq_self.2 (fun i hi => by
    rw [List.mem_range] at hi
    rw [ownL_iff hp i hi]
    intro k hk hck
    have := hc _ _ hck
    omega), List.length_range]
theorem cnt_cut {p : PairD} (hv : validB p = true) : ∀ k, k ≤ p.rs.length → p.bs.length - k ≤ cntM (cutR p k) ∧ cntM (cutR p k) ≤ p.bs.length ∧ (0 < k → cntM (cutR p k) < p.bs.length)
  | 0, _ => by
    have := cnt_bare (p := cutR p 0) (cutR_valid hv 0) rfl
    have e : (cutR p 0).bs.length = p.bs.length := rfl
    omega
  | k + 1, hk => by
    have ih := cnt_cut hv k (by omega)
    have hw := cutR_valid hv (k + 1)
    rw [cutR_next p k (by omega)] at hw ⊢
    have hj := cnt_join (cutR_valid hv k) hw
    have e : (cutR p k).bs.length = p.bs.length := rfl
    by_cases hc : Conn (cutR p k) p.rs[k].a p.rs[k].b
    · have := hj.1 hc
      refine ⟨by omega, by omega, fun _ => ?_⟩
      rcases Nat.eq_zero_or_pos k with h0 | h0
      · exfalso
        subst h0
        have hne : p.rs[0].a ≠ p.rs[0].b := by
          have h4 := hv
          unfold validB at h4
          rw [Bool.and_eq_true, List.all_eq_true] at h4
          have := h4.2 _ (List.getElem_mem (l := p.rs) (n := 0) (by omega))
          unfold okRd at this
          simp only [Bool.and_eq_true, decide_eq_true_eq] at this
          exact this.1.1.2
        have hcc : ∀ x y, Conn (cutR p 0) x y → x = y := fun x y h => by
          induction h with
          | refl => rfl
          | step _ ha _ =>
            obtain ⟨r, hr, _⟩ := ha
            cases hr
        exact hne (hcc _ _ hc)
      · have := ih.2.2 h0
        omega
    · have := hj.2 hc
      exact ⟨by omega, by omega, fun _ => by omega⟩
theorem cnt_all {p : PairD} (hv : validB p = true) : p.bs.length - p.rs.length ≤ cntM p ∧ cntM p ≤ p.bs.length ∧ (0 < p.rs.length → cntM p < p.bs.length) ∧ 1 ≤ cntM p := by
  have h := cnt_cut hv p.rs.length (Nat.le_refl _)
  rw [cutR_all] at h
  refine ⟨h.1, h.2.1, h.2.2, ?_⟩
  have hp := OkP.of p hv
  have h0 : ownL p 0 = true := (ownL_iff hp 0 (by have := hp.n1; omega)).2 fun k hk => absurd hk (by omega)
  have : 0 ∈ (List.range p.bs.length).filter (ownL p) := List.mem_filter.2 ⟨List.mem_range.2 (by have := hp.n1; omega), h0⟩
  exact List.length_pos_of_mem this
/-! ### who hangs together with a block, by going over all readings again and again -/
def addL (L : List Int) (x : Int) : List Int := if x ∈ L then L else L ++ [x]
def joinS (L : List Int) (r : RdD) : List Int := if r.a ∈ L ∨ r.b ∈ L then addL (addL L r.a) r.b else L
def joinK (p : PairD) (a : Int) : Nat → List Int
  | 0 => [a]
  | k + 1 => p.rs.foldl joinS (joinK p a k)
theorem addL_mem (L : List Int) (x y : Int) : y ∈ addL L x ↔ y ∈ L ∨ y = x := by
  unfold addL
  split
  · constructor
    · exact .inl
    · rintro (h | rfl) <;> assumption
  · simp
theorem addL_nodup {L : List Int} (h : L.Nodup) (x : Int) : (addL L x).Nodup := by
  unfold addL
  split
  · exact h
  · rename_i hx
    rw [List.nodup_append]
    exact ⟨h, by simp, fun a ha b hb => by
      rw [List.mem_singleton] at hb
      intro e; rw [e, hb] at ha; exact hx ha⟩
theorem addL_len (L : List Int) (x : Int) : L.length ≤ (addL L x).length ∧ ((addL L x).length = L.length → x ∈ L ∧ addL L x = L) := by
  unfold addL
  split
  · exact ⟨Nat.le_refl _, fun _ => ⟨by assumption, rfl⟩⟩
  · simp
/-- What holds of the list of those that have been found. -/
structure JoinOk (p : PairD) (a : Int) (L : List Int) : Prop where
  nd : L.Nodup
  conn : ∀ y ∈ L, Conn p a y
  own : a ∈ L
theorem JoinOk.step {p : PairD} {a : Int} {L : List Int} (h : JoinOk p a L) {r : RdD} (hr : r ∈ p.rs) : JoinOk p a (joinS L r) ∧ (∀ y ∈ L, y ∈ joinS L r) ∧ L.length ≤ (joinS L r).length ∧ ((joinS L r).length = L.length → joinS L r = L ∧ (r.a ∈ L ∨ r.b ∈ L → r.a ∈ L ∧ r.b ∈ L)) := by
  unfold joinS
  split
  · rename_i hab
    have l1 := addL_len L r.a
    have l2 := addL_len (addL L r.a) r.b
    have hadj : Adj p r.a r.b := ⟨r, hr, .inl ⟨rfl, rfl⟩⟩
    have hca : Conn p a r.a ∧ Conn p a r.b := by
      rcases hab with k | k
      · exact ⟨h.conn _ k, .step (h.conn _ k) hadj⟩
      · exact ⟨.step (h.conn _ k) hadj.symm, h.conn _ k⟩
    refine ⟨⟨addL_nodup (addL_nodup h.nd _) _, fun y hy => ?_, ?_⟩, fun y hy => ?_, by omega, fun e => ?_⟩
    · rcases (addL_mem _ _ _).1 hy with hy | rfl
      · rcases (addL_mem _ _ _).1 hy with hy | rfl
        · exact h.conn y hy
        · exact hca.1
      · exact hca.2
    · exact (addL_mem _ _ _).2 (.inl ((addL_mem _ _ _).2 (.inl h.own)))
    · exact (addL_mem _ _ _).2 (.inl ((addL_mem _ _ _).2 (.inl hy)))
    · obtain ⟨m1, e1⟩ := l1.2 (by omega)
      obtain ⟨m2, e2⟩ := l2.2 (by omega)
      rw [e1] at m2
      exact ⟨by rw [e2, e1], fun _ => ⟨m1, m2⟩⟩
  · rename_i hab
    exact ⟨h, fun y hy => hy, Nat.le_refl _, fun _ => ⟨rfl, fun k => absurd k hab⟩⟩
theorem JoinOk.fold {p : PairD} {a : Int} : ∀ (rs : List RdD) {L : List Int}, (∀ r ∈ rs, r ∈ p.rs) → JoinOk p a L → JoinOk p a (rs.foldl joinS L) ∧ L.length ≤ (rs.foldl joinS L).length ∧
    ((rs.foldl joinS L).length = L.length → rs.foldl joinS L = L ∧ ∀ r ∈ rs, r.a ∈ L ∨ r.b ∈ L → r.a ∈ L ∧ r.b ∈ L)
  | [], L, _, h => ⟨h, Nat.le_refl _, fun _ => ⟨rfl, fun r hr => by cases hr⟩⟩
  | r :: rs, L, hs, h => by
    have h1 := h.step (hs r List.mem_cons_self)
    have h2 := JoinOk.fold rs (fun q hq => hs q (List.mem_cons_of_mem _ hq)) h1.1
    rw [List.foldl_cons]
    refine ⟨h2.1, by omega, fun e => ?_⟩
    obtain ⟨e1, c1⟩ := h1.2.2.2 (by omega)
    obtain ⟨e2, c2⟩ := h2.2.2 (by omega)
    rw [e1] at e2 c2
    rw [e1]
    refine ⟨e2, fun q hq => ?_⟩
    rcases List.mem_cons.1 hq with rfl | hq
    · exact c1
    · exact c2 q hq
theorem joinK_ok {p : PairD} (a : Int) : ∀ k, JoinOk p a (joinK p a k)
  | 0 => ⟨by simp [joinK], fun y hy => by simp [joinK] at hy; rw [hy]; exact .refl _, by simp [joinK]⟩
  | k + 1 => (JoinOk.fold p.rs (fun _ h => h) (joinK_ok a k)).1
theorem joinK_grows {p : PairD} (a : Int) : ∀ k, (∀ r ∈ p.rs, r.a ∈ joinK p a k ∨ r.b ∈ joinK p a k → r.a ∈ joinK p a k ∧ r.b ∈ joinK p a k) ∨ k + 1 ≤ (joinK p a k).length
  | 0 => .inr (by simp [joinK])
  | k + 1 => by
    have h := JoinOk.fold p.rs (fun _ h => h) (joinK_ok (p := p) a k)
    by_cases e : (p.rs.foldl joinS (joinK p a k)).length = (joinK p a k).length
    · obtain ⟨e1, e2⟩ := h.2.2 e
      left
      show ∀ r ∈ p.rs, r.a ∈ p.rs.foldl joinS (joinK p a k) ∨ r.b ∈ p.rs.foldl joinS (joinK p a k) → _
      rw [show joinK p a (k + 1) = p.rs.foldl joinS (joinK p a k) from rfl, e1]
      exact e2
    · right
      show k + 1 + 1 ≤ (p.rs.foldl joinS (joinK p a k)).length
      rcases joinK_grows a k with h3 | h3
      · exfalso
        apply e
        have hfix : ∀ (rs : List RdD), (∀ r ∈ rs, r ∈ p.rs) → rs.foldl joinS (joinK p a k) = joinK p a k := by
          intro rs
          induction rs with
          | nil => intro _; rfl
          | cons r rs ih =>
            intro hs
            rw [List.foldl_cons]
            have : joinS (joinK p a k) r = joinK p a k := by
              unfold joinS
              split
              · rename_i hab
                obtain ⟨m1, m2⟩ := h3 r (hs r List.mem_cons_self) hab
                unfold addL
                rw [if_pos m1, if_pos m2]
              · rfl
            rw [this]
            exact ih fun q hq => hs q (List.mem_cons_of_mem _ hq)
        rw [hfix p.rs fun _ h => h]
      · have := h.2.1
        omega
theorem joined_iff {p : PairD} (hp : OkP p) (a b : Nat) (ha : a < p.bs.length) : (b : Int) ∈ joinK p a p.bs.length ↔ Conn p a b := by
  have hk := joinK_ok (p := p) (a : Int) p.bs.length
  constructor
  · exact hk.conn _
  · intro hc
    rcases joinK_grows (p := p) (a : Int) p.bs.length with h | h
    · refine hc.closed (S := fun y => y ∈ joinK p a p.bs.length) hk.own fun u v hu hadj => ?_
      obtain ⟨r, hr, ⟨rfl, rfl⟩ | ⟨rfl, rfl⟩⟩ := hadj
      · exact (h r hr (.inl hu)).2
      · exact (h r hr (.inr hu)).1
    · have := nodup_len p.bs.length _ hk.nd (fun y hy => conn_range hp (hk.conn y hy) ⟨by omega, by omega⟩)
      omega

end Go.Proofs.Ytlgeggekmdoceaa

/- PairGroups: the walk. -/
namespace Go.Proofs.Ytlgeggekmdoceaa
set_option linter.unusedVariables false
set_option linter.unusedSimpArgs false
open Go.RowKit Go.Shelf
attribute [local go_sem] Oper.semAt_some


theorem run_keyThatStays (w : World) (x : Int) : (Instr.keyThatStays (.int .i64 x) (.int .i64 x)).run Try.prog w = .ok (.int .i64 x) w := by
  unfold Instr.keyThatStays
  rw [if_pos (by simp [Instr.sameBits])]
  rfl
theorem find_in' (L : List Int) (x : Int) (w : World) (h : x ∈ L) : ∃ j, (∃ hj : j < L.length, L[j] = x) ∧ (Instr.findKey 3 (.int .i64 x) (L.mapIdx entI).toArray.toList).run Try.prog w = .ok (some (j, .bool true)) w := by
  have key : ∀ (l : List MapEntry) (i : Nat), (∀ e ∈ l, ∃ y, e.key = .int .i64 y ∧ e.val = .bool true) → (∃ e ∈ l, e.key = .int .i64 x) → ∃ j, (∃ hj : j < l.length, l[j].key = .int .i64 x) ∧ Instr.findNow (.int .i64) (.int .i64 x) l i = some (some (i + j, .bool true)) := by
    intro l
    induction l with
    | nil => intro i _ ⟨e, he, _⟩; cases he
    | cons e l ih =>
      intro i hl hx
      obtain ⟨y, hy, hv⟩ := hl e List.mem_cons_self
      unfold Instr.findNow
      rw [hy]
      by_cases hxy : x = y
      · subst hxy
        exact ⟨0, ⟨by simp, by simpa using hy⟩, by simp [Instr.sameNow, hv]⟩
      · have hs : Instr.sameNow (.int .i64) (.int .i64 x) (.int .i64 y) = some false := by simp [Instr.sameNow, hxy]
        rw [hs]
        obtain ⟨j, ⟨hj, hk⟩, e2⟩ := ih (i + 1) (fun e he => hl e (List.mem_cons_of_mem _ he)) (by
          obtain ⟨e', he', hk⟩ := hx
          rcases List.mem_cons.1 he' with rfl | he'
          · rw [hy] at hk; cases hk; exact absurd rfl hxy
          · exact ⟨e', he', hk⟩)
        refine ⟨j + 1, ⟨by simpa using hj, by simpa using hk⟩, ?_⟩
        show Instr.findNow (.int .i64) (.int .i64 x) l (i + 1) = _
        rw [e2, show i + 1 + j = i + (j + 1) by omega]
  obtain ⟨j, ⟨hj, hk⟩, e⟩ := key (L.mapIdx entI).toArray.toList 0 (ents_ok L) ((ents_mem L x).2 h)
  refine ⟨j, ⟨by simpa using hj, ?_⟩, ?_⟩
  · simp [entI] at hk
    exact hk
  · unfold Instr.findKey
    rw [Nat.zero_add] at e
    simp only [Sem.run_bind, run_underlying under_int, Result.andThen_ok, e]
    rfl
theorem update_old (mb : Nat) (L : List Int) (x : Int) (w : World) (hm : w.heap[mb]? = some (setM L)) (h : x ∈ L) : (Instr.mapUpdate 59 (.map (some mb)) (.int .i64 x) (.bool true)).run Try.prog w = .ok () (w.putObj mb (setM L)) := by
  have hg : (getObj mb).run Try.prog w = .ok (setM L) w := by simp [getObj, Sem.run, hm, setM]
  obtain ⟨j, ⟨hj, hx⟩, hf⟩ := find_in' L x w h
  have he : ((L.mapIdx entI).toArray[j]?).map (·.key) = some (.int .i64 x) := by simp [List.getElem?_mapIdx, hj, entI, hx]
  have hmod : (L.mapIdx entI).toArray.modify j (fun e => { e with key := .int .i64 x, val := .bool true }) = (L.mapIdx entI).toArray := by
    apply Array.ext_getElem?
    intro i
    rw [Array.getElem?_modify]
    by_cases hij : j = i
    · subst hij
      simp [List.getElem?_mapIdx, hj, entI, hx]
    · rw [if_neg hij]
  unfold Instr.mapUpdate
  simp only [Sem.run_bind, run_underlying under_mib, Result.andThen_ok, hg, setM, check_int, hf, he, Option.getD_some, run_keyThatStays, hmod]
  simp [setObj, Sem.run, hm, setM, World.putObj]
theorem update_any (mb : Nat) (L : List Int) (x : Int) (w : World) (hm : w.heap[mb]? = some (setM L)) : (Instr.mapUpdate 59 (.map (some mb)) (.int .i64 x) (.bool true)).run Try.prog w = .ok () (w.putObj mb (setM (addL L x))) := by
  unfold addL
  split
  · exact update_old mb L x w hm (by assumption)
  · exact update_set mb L x w hm (by assumption)

theorem withL_two (p : PairD) (r : RdD) : withL p [r, r] = withR (withR p r) r := by
  unfold withL withR
  simp
theorem okRd_wide {n a b : Nat} (ha : a < n) (hb : b < n) (hab : a ≠ b) : okRd n ⟨a, b, 0, -80, 80⟩ = true := by
  unfold okRd inB okSpan
  simp only [Bool.and_eq_true, decide_eq_true_eq]
  omega
theorem rdI_len (p : PairD) (h : OkP p) (a : Nat) : True := trivial
set_option maxRecDepth 100000 in
set_option maxHeartbeats 8000000 in
theorem groupsl_any (p : PairD) (bs rs : Value) (x y : Int) (hx : 0 ≤ x ∧ x < 256) (hy : 0 ≤ y ∧ y < 256) (w : World) (hpa : PairAt w p bs rs) :
    Calls Try.prog 10 #[.agg (pairRow p bs rs), .int .u8 x, .int .u8 y] w fun e w' => e = .returned (.bool true) ∧ Below w.heap.size w w' := by
  obtain ⟨ao, cap, hbse, _⟩ := id hpa.b
  subst hbse
  obtain ⟨ao2, cap2, hrse, _⟩ := id hpa.r
  subst hrse
  obtain ⟨W0, hW0⟩ : ∃ W0, W0 = w.alloc (.cells (pairRow p (.slice ao p.bs.length cap) (.slice ao2 p.rs.length cap2)) 27 (0, 0)) := ⟨_, rfl⟩
  have hb0 : Below w.heap.size w W0 := by rw [hW0]; exact (Below.refl _ _).alloc (Nat.le_refl _) _
  have hr1 : W0.heap[w.heap.size]? = some (pairObj p (.slice ao p.bs.length cap) (.slice ao2 p.rs.length cap2)) := by rw [hW0]; exact heap_alloc_at _ _ _ rfl
  have hsw : W0.heap.size = w.heap.size + 1 := by rw [hW0]; simp
  have HB0 := Lib.hid hb0
  have HR1 := Lib.hid hr1
  have HPA := Lib.hid (hpa.later hb0)
  have rows : ∀ W', Below W0.heap.size W0 W' → (W'.cell? ⟨w.heap.size, 0, none⟩ = some (.slice ao p.bs.length cap) ∧ W'.cell? ⟨w.heap.size, 1, none⟩ = some (.int .i64 p.zl) ∧ W'.cell? ⟨w.heap.size, 2, none⟩ = some (.int .i64 p.zh) ∧
        W'.cell? ⟨w.heap.size, 3, none⟩ = some (.int .i64 p.rl) ∧ W'.cell? ⟨w.heap.size, 4, none⟩ = some (.int .i64 p.rh) ∧ W'.cell? ⟨w.heap.size, 5, none⟩ = some (.slice ao2 p.rs.length cap2)) := fun W' hb => by
    have q1 := (hb.block w.heap.size (by omega)).trans hr1
    unfold pairObj pairRow at q1
    refine ⟨?_, ?_, ?_, ?_, ?_, ?_⟩ <;> (rw [cell_of_row _ _ _ _ _ _ q1]; rfl)
  have ROWS := Lib.hid rows
  have HLG := Lib.hid (long_any p p.bs.length cap p.rs.length cap2 ao ao2 W0)
  have HRP : Hid (∀ W, PairAt W p (.slice ao p.bs.length cap) (.slice ao2 p.rs.length cap2) → Calls Try.prog 39 #[.agg (pairRow p (.slice ao p.bs.length cap) (.slice ao2 p.rs.length cap2))] W fun e w' => e = .returned (.bool (validB p)) ∧ Below W.heap.size W w') := fun W h => rpair_any h
  have HB := Lib.hid (BoxL.nil W0)
  rw [show decide (40 < max p.bs.length p.rs.length) = farP p from rfl] at HLG
  clear rows hb0 hr1 hpa
  cases hfar : farP p with
  | true =>
    rw [hfar] at HLG
    clear hfar
    unfold pairRow at hW0 HLG HRP ⊢
    go_enter Try.func10, Try.ntmps10
    obtain ⟨c0, c1, c2, c3, c4, c5⟩ := ROWS.out _ HB.out.2
    go_wp2_with fail
    rw [← hW0]
    clear hW0 c0 c1 c2 c3 c4 c5
    refine HLG.out.mono ?_
    rintro e w1 ⟨rfl, hb⟩
    replace HB := Lib.hid (HB.out.later hb)
    clear hb
    go_wp2_with fail
    refine (alive_any _).mono ?_
    rintro e wz ⟨rfl, hb⟩
    replace HB := Lib.hid (HB.out.later hb)
    clear hb
    go_wp2
    go_ret
    exact ⟨rfl, HB0.out.trans (HB.out.2.mono (by omega))⟩
  | false =>
  rw [hfar] at HLG
  clear hfar
  cases hv : validB p with
  | false =>
    rw [hv] at HRP
    clear hv
    unfold pairRow at hW0 HLG HRP ⊢
    go_enter Try.func10, Try.ntmps10
    obtain ⟨c0, c1, c2, c3, c4, c5⟩ := ROWS.out _ HB.out.2
    go_wp2_with fail
    rw [← hW0]
    clear hW0 c0 c1 c2 c3 c4 c5
    refine HLG.out.mono ?_
    rintro e w1 ⟨rfl, hb⟩
    replace HB := Lib.hid (HB.out.later hb)
    clear hb
    obtain ⟨c0, c1, c2, c3, c4, c5⟩ := ROWS.out _ HB.out.2
    go_wp2_with fail
    clear c0 c1 c2 c3 c4 c5
    refine (HRP.out _ (HPA.out.later HB.out.2)).mono ?_
    rintro e w2 ⟨rfl, hb⟩
    replace HB := Lib.hid (HB.out.later hb)
    clear hb
    go_wp2_with fail
    refine (alive_any _).mono ?_
    rintro e wz ⟨rfl, hb⟩
    replace HB := Lib.hid (HB.out.later hb)
    clear hb
    go_wp2
    go_ret
    exact ⟨rfl, HB0.out.trans (HB.out.2.mono (by omega))⟩
  | true =>
  rw [hv] at HRP
  have hp := OkP.of p hv
  have hm8 := hp.m8
  by_cases h6 : p.rs.length ≤ 6
  case neg =>
    have hd6 : decide (6 < (p.rs.length : Int)) = true := by simp; omega
    clear hv hp h6
    unfold pairRow at hW0 HLG HRP ⊢
    go_enter Try.func10, Try.ntmps10
    obtain ⟨c0, c1, c2, c3, c4, c5⟩ := ROWS.out _ HB.out.2
    go_wp2_with fail
    rw [← hW0]
    clear hW0 c0 c1 c2 c3 c4 c5
    refine HLG.out.mono ?_
    rintro e w1 ⟨rfl, hb⟩
    replace HB := Lib.hid (HB.out.later hb)
    clear hb
    obtain ⟨c0, c1, c2, c3, c4, c5⟩ := ROWS.out _ HB.out.2
    go_wp2_with fail
    clear c0 c1 c2 c3 c4 c5
    refine (HRP.out _ (HPA.out.later HB.out.2)).mono ?_
    rintro e w2 ⟨rfl, hb⟩
    replace HB := Lib.hid (HB.out.later hb)
    clear hb
    obtain ⟨c0, c1, c2, c3, c4, c5⟩ := ROWS.out _ HB.out.2
    go_wp2_with fail
    refine (alive_any _).mono ?_
    rintro e wz ⟨rfl, hb⟩
    replace HB := Lib.hid (HB.out.later hb)
    clear hb
    go_wp2
    go_ret
    exact ⟨rfl, HB0.out.trans (HB.out.2.mono (by omega))⟩
  have hd6 : decide (6 < (p.rs.length : Int)) = false := by simp; omega
  have hn1 := hp.n1
  have hn5 := hp.n5
  have hz0 : ((p.bs.length : Int) == 0) = false := by rw [beq_eq_false_iff_ne]; omega
  obtain ⟨an, han⟩ : ∃ n : Nat, x % (p.bs.length : Int) = n := ⟨(x % (p.bs.length : Int)).toNat, by have := Int.emod_nonneg x (b := (p.bs.length : Int)) (by omega); omega⟩
  obtain ⟨bn, hbn⟩ : ∃ n : Nat, y % (p.bs.length : Int) = n := ⟨(y % (p.bs.length : Int)).toNat, by have := Int.emod_nonneg y (b := (p.bs.length : Int)) (by omega); omega⟩
  have hal : an < p.bs.length := by have := Int.emod_lt_of_pos x (b := (p.bs.length : Int)) (by omega); omega
  have hbl : bn < p.bs.length := by have := Int.emod_lt_of_pos y (b := (p.bs.length : Int)) (by omega); omega
  have hca := cnt_all hv
  have hG : Gives p (.slice ao p.bs.length cap) (.slice ao2 p.rs.length cap2) 25 [] (.tuple #[.int .i64 (cntM p : Nat), .int .i64 0]) := fun W h => by have := groupsV_any h; rw [groupsV_yes hv] at this; exact this
  have hG0 : ∀ W, PairAt W p (.slice ao p.bs.length cap) (.slice ao2 p.rs.length cap2) → Calls Try.prog 25 #[.agg #[.slice ao p.bs.length cap, .int .i64 p.zl, .int .i64 p.zh, .int .i64 p.rl, .int .i64 p.rh, .slice none 0 0]] W fun e w' => e = .returned (.tuple #[.int .i64 p.bs.length, .int .i64 0]) ∧ Below W.heap.size W w' := fun W h => by
    have h0 : PairAt W (cutR p 0) (.slice ao p.bs.length cap) (.slice none 0 0) := ⟨h.b, none, 0, rfl, by simp [cutR], by simp, fun i hi => absurd hi (by simp [cutR])⟩
    have := groupsV_any h0
    rw [groupsV_yes (cutR_valid hv 0), cnt_bare (cutR_valid hv 0) rfl] at this
    exact this
  have hfar : an ≠ bn → ∃ (mz oz : Int) (jb : Bool), mz = cntM p ∧ (∀ W v, PairAt W (withL p [⟨an, bn, 0, -80, 80⟩]) (.slice ao p.bs.length cap) v → Calls Try.prog 25 #[.agg #[.slice ao p.bs.length cap, .int .i64 p.zl, .int .i64 p.zh, .int .i64 p.rl, .int .i64 p.rh, v]] W fun e w' => e = .returned (.tuple #[.int .i64 oz, .int .i64 0]) ∧ Below W.heap.size W w') ∧
      (∀ W v, PairAt W (withL p [⟨an, bn, 0, -80, 80⟩, ⟨an, bn, 0, -80, 80⟩]) (.slice ao p.bs.length cap) v → Calls Try.prog 25 #[.agg #[.slice ao p.bs.length cap, .int .i64 p.zl, .int .i64 p.zh, .int .i64 p.rl, .int .i64 p.rh, v]] W fun e w' => e = .returned (.tuple #[.int .i64 oz, .int .i64 0]) ∧ Below W.heap.size W w') ∧
      decide ((bn : Int) ∈ joinK p an p.bs.length) = jb ∧ (jb = true → oz = mz) ∧ (jb = false → oz = mz - 1) := by
    intro hab
    have hw1 : validB (withR p ⟨an, bn, 0, -80, 80⟩) = true := withR_valid hv (by omega) (okRd_wide hal hbl hab)
    have hw2 : validB (withR (withR p ⟨an, bn, 0, -80, 80⟩) ⟨an, bn, 0, -80, 80⟩) = true := withR_valid hw1 (by simp [withR]; omega) (okRd_wide hal hbl hab)
    have j1 := cnt_join hv hw1
    have j2 := (cnt_join hw1 hw2).1 (.step (.refl _) (adj_with.2 (.inr (.inl ⟨rfl, rfl⟩))))
    refine ⟨_, (cntM (withR p ⟨an, bn, 0, -80, 80⟩) : Int), _, rfl, fun W v h => ?_, fun W v h => ?_, rfl, fun h => ?_, fun h => ?_⟩
    · have := groupsV_any h
      rw [show withL p [⟨an, bn, 0, -80, 80⟩] = withR p ⟨an, bn, 0, -80, 80⟩ from rfl, groupsV_yes hw1] at this
      exact this
    · have := groupsV_any h
      rw [withL_two, groupsV_yes hw2, j2] at this
      exact this
    · rw [decide_eq_true_eq, joined_iff hp an bn hal] at h
      rw [j1.1 h]
    · rw [decide_eq_false_iff_not, joined_iff hp an bn hal] at h
      have := j1.2 h
      omega
  have HFAR := Lib.hid hfar
  have HG := Lib.hid hG
  have HG0 := Lib.hid hG0
  have HRS := Lib.hid hp.rs
  obtain ⟨mz, hmz⟩ : ∃ mz : Int, mz = cntM p := ⟨_, rfl⟩
  rw [← hmz] at HG
  have f1 : (p.bs.length : Int) - (p.rs.length : Int) ≤ mz := by rw [hmz]; omega
  have f2 : decide ((p.bs.length : Int) < mz) = false := by rw [decide_eq_false_iff_not, hmz]; omega
  have f3 : 0 < p.rs.length → (mz == (p.bs.length : Int)) = false := fun h => by rw [beq_eq_false_iff_ne, hmz]; omega
  have hm0 : 1 ≤ mz ∧ mz ≤ 5 := by rw [hmz]; omega
  obtain ⟨hm01, hm05⟩ := hm0
  have HMZ := Lib.hid hmz
  clear hG hG0 hfar hv hp hca hmz
  unfold Gives at HG
  unfold pairRow at HG
  unfold pairRow at hW0 HLG HRP ⊢
  go_enter Try.func10, Try.ntmps10
  obtain ⟨c0, c1, c2, c3, c4, c5⟩ := ROWS.out _ HB.out.2
  go_wp2_with fail
  rw [← hW0]
  clear hW0 c0 c1 c2 c3 c4 c5
  refine HLG.out.mono ?_
  rintro e w1 ⟨rfl, hb⟩
  replace HB := Lib.hid (HB.out.later hb)
  clear hb
  obtain ⟨c0, c1, c2, c3, c4, c5⟩ := ROWS.out _ HB.out.2
  go_wp2_with fail
  clear c0 c1 c2 c3 c4 c5
  refine (HRP.out _ (HPA.out.later HB.out.2)).mono ?_
  rintro e w2 ⟨rfl, hb⟩
  replace HB := Lib.hid (HB.out.later hb)
  clear hb
  obtain ⟨c0, c1, c2, c3, c4, c5⟩ := ROWS.out _ HB.out.2
  go_wp2_with fail
  clear c0 c1 c2 c3 c4 c5
  refine (HG.out _ (HPA.out.later HB.out.2)).mono ?_
  rintro e w3 ⟨rfl, hb⟩
  replace HB := Lib.hid (HB.out.later hb)
  clear hb
  obtain ⟨c0, c1, c2, c3, c4, c5⟩ := ROWS.out _ HB.out.2
  go_wp2_with fail
  clear c0 c1 c2 c3 c4 c5
  obtain ⟨A1, hA⟩ : ∃ A, A = w3.alloc (.cells #[.slice ao p.bs.length cap, .int .i64 p.zl, .int .i64 p.zh, .int .i64 p.rl, .int .i64 p.rh, .slice none 0 0] 27) := ⟨_, rfl⟩
  have hA1 : Below w3.heap.size w3 A1 := by rw [hA]; exact (Below.refl _ _).alloc (Nat.le_refl _) _
  rw [← hA]
  replace HB := Lib.hid (HB.out.later hA1)
  clear hA hA1
  refine (HG0.out _ (HPA.out.later HB.out.2)).mono ?_
  rintro e w4 ⟨rfl, hb⟩
  replace HB := Lib.hid (HB.out.later hb)
  clear hb
  rcases Nat.eq_zero_or_pos p.rs.length with hr0 | hr0
  · have g1 : decide (0 < p.rs.length) = false := decide_eq_false (by omega)
    have HR0 := Lib.hid hr0
    clear hr0 f3
    by_cases h1 : 1 < (p.bs.length : Int) - (p.rs.length : Int)
    · skip
      obtain ⟨c0, c1, c2, c3, c4, c5⟩ := ROWS.out _ HB.out.2
      go_wp2_with fail
      clear c0 c1 c2 c3 c4 c5
      go_quiet (fail)
      obtain ⟨wq, hwv⟩ : ∃ wv, wv = w4.drewN nq := ⟨_, rfl⟩
      have hbq : Below w4.heap.size w4 wq := by rw [hwv]; exact ⟨rfl, rfl, rfl, Nat.le_refl _, fun _ _ => rfl⟩
      rw [← hwv]
      replace HB := Lib.hid (HB.out.later hbq)
      clear hwv hbq
      rw [han, hbn]
      have hmm := @run_makeMap Try.prog
      by_cases hab : an = bn
      · subst hab
        go_wp2_with fail
        refine (alive_any _).mono ?_
        rintro e wz ⟨rfl, hb⟩
        replace HB := Lib.hid (HB.out.later hb)
        clear hb
        go_wp2
        go_ret
        exact ⟨rfl, HB0.out.trans (HB.out.2.mono (by omega))⟩
      have hdab : ((an : Int) == (bn : Int)) = false := by rw [beq_eq_false_iff_ne]; omega
      obtain ⟨mz', oz, jb, hmz', hg1, hg2, hjb, hj1, hj2⟩ := HFAR.out hab
      obtain rfl : mz = mz' := HMZ.out.trans hmz'.symm
      have HG1 := Lib.hid hg1
      have HG2 := Lib.hid hg2
      have HJB := Lib.hid hjb
      have HJ1 := Lib.hid hj1
      have HJ2 := Lib.hid hj2
      clear hg1 hg2 hjb hj1 hj2 hmz'
      obtain ⟨W1, hW1⟩ : ∃ W1, W1 = (wq.alloc (.map #[] 0)).putObj wq.heap.size (setM [(an : Int)]) := ⟨_, rfl⟩
      have hup : (Instr.mapUpdate 59 (.map (some wq.heap.size)) (.int .i64 an) (.bool true)).run Try.prog (wq.alloc (.map #[] 0)) = .ok () W1 := by rw [hW1]; exact update_set _ [] an _ (heap_alloc_at _ _ _ rfl) (by simp)
      have hm1 : W1.heap[wq.heap.size]? = some (setM [(an : Int)]) := by rw [hW1]; exact World.putObj_heap_same (by simp)
      have hqs := HB.out.2.size
      have hb1 : Below W0.heap.size W0 W1 := by rw [hW1]; exact (HB.out.2.alloc hqs _).trans ((Keeps.putObj (Mut := fun k => k = wq.heap.size) _ _ _ rfl).below (by simp; omega) (fun k h e => by omega))
      have HM1 := Lib.hid hm1
      have HB1 := Lib.hid hb1
      obtain ⟨c0, c1, c2, c3, c4, c5⟩ := ROWS.out _ hb1
      clear hW1 hm1 hb1
      go_wp2_with fail
      clear c0 c1 c2 c3 c4 c5 hup
      go_loopw [107] (fun i wr => ∃ k : Nat, k ≤ p.bs.length ∧ i = .int .i64 k ∧ wr.heap[wq.heap.size]? = some (setM (joinK p an k)) ∧ Below W0.heap.size W0 wr) (fun i _ => p.bs.length - (intOf i).toNat)
      case atStart => exact ⟨0, by omega, rfl, HM1.out, HB1.out⟩
      case round =>
        obtain ⟨k, hk, rfl, hmk, hb⟩ := hrel
        have HMK := Lib.hid hmk
        have HBK := Lib.hid hb
        have hgek := hb.size
        clear hmk hb
        obtain ⟨c0, c1, c2, c3, c4, c5⟩ := ROWS.out _ HBK.out
        by_cases hlk : k < p.bs.length
        case neg =>
          have hkn : k = p.bs.length := by omega
          subst hkn
          go_wp2_with fail
          clear c0 c1 c2 c3 c4 c5
          refine (lread_any ⟨an, bn, 0, -80, 80⟩ _).mono ?_
          rintro e w5 ⟨rfl, hb⟩
          have hb5 := HBK.out.trans (hb.mono hgek)
          have hm5 := (hb.block _ (lt_of_block HMK.out)).trans HMK.out
          have hg5 := hb5.size
          obtain ⟨A5, hA5⟩ : ∃ A, A = (w5.alloc (.cells #[.int .i64 an, .int .i64 bn, .int .i64 0, .int .i64 (-80), .int .i64 80] 44)).alloc (.cells #[.int .i64 an, .int .i64 bn, .int .i64 0, .int .i64 (-80), .int .i64 80] 44) := ⟨_, rfl⟩
          have k1 : A5.heap[w5.heap.size]? = some (.cells #[.int .i64 an, .int .i64 bn, .int .i64 0, .int .i64 (-80), .int .i64 80] 44 (0, 0)) := by rw [hA5]; exact (Below.heap_alloc _ _ _ (by simp)).trans (heap_alloc_at _ _ _ rfl)
          have k2 : A5.heap[w5.heap.size + 1]? = some (.cells #[.int .i64 an, .int .i64 bn, .int .i64 0, .int .i64 (-80), .int .i64 80] 44 (0, 0)) := by rw [hA5]; exact heap_alloc_at _ _ _ (by simp)
          have k3 : Below W0.heap.size W0 A5 := by rw [hA5]; exact (hb5.alloc hg5 _).alloc (by simp; omega) _
          have k4 : A5.heap[wq.heap.size]? = some (setM (joinK p an p.bs.length)) := by rw [hA5]; exact (Below.heap_alloc _ _ _ (by have := lt_of_block hm5; simp; omega)).trans ((Below.heap_alloc _ _ _ (lt_of_block hm5)).trans hm5)
          have hc5 := hb5.alloc hg5 (.cells #[.int .i64 an, .int .i64 bn, .int .i64 0, .int .i64 (-80), .int .i64 80] 44 (0, 0))
          obtain ⟨c0, c1, c2, c3, c4, c5⟩ := ROWS.out _ hc5
          have K1 := Lib.hid k1
          have K2 := Lib.hid k2
          have K3 := Lib.hid k3
          have K4 := Lib.hid k4
          have HA5 := Lib.hid hA5
          clear hb hb5 hm5 k1 k2 k3 k4 hA5 hc5
          unfold readV
          go_wp2_with fail
          clear c0 c1 c2 c3 c4 c5
          rw [← HA5.out]
          refine (with_any p _ _ [⟨an, bn, 0, -80, 80⟩] (by simp) (by simp) (by omega) (w5.heap.size + 1) 1 A5 (HPA.out.later K3.out) K2.out).mono ?_
          rintro e w6 ⟨⟨ao3, cap3, rfl, hpw⟩, hb6⟩
          unfold pairRow
          have HPW := Lib.hid hpw
          have HB6 := Lib.hid hb6
          clear hpw hb6
          go_wp2_with fail
          refine (HG1.out _ _ HPW.out).mono ?_
          rintro e w7 ⟨rfl, hb7⟩
          have hb57 := HB6.out.trans (hb7.mono HB6.out.size)
          have k1 := (hb57.block _ (lt_of_block K1.out)).trans K1.out
          have k4 := (hb57.block _ (lt_of_block K4.out)).trans K4.out
          have k3 := K3.out.trans (hb57.mono K3.out.size)
          have hg7 := k3.size
          obtain ⟨c0, c1, c2, c3, c4, c5⟩ := ROWS.out _ k3
          have r0 := cell_of_row _ _ 0 _ _ _ k1
          have r1 := cell_of_row _ _ 1 _ _ _ k1
          have r2 := cell_of_row _ _ 2 _ _ _ k1
          have r3 := cell_of_row _ _ 3 _ _ _ k1
          have r4 := cell_of_row _ _ 4 _ _ _ k1
          have M3 := Lib.hid k3
          have M4 := Lib.hid k4
          clear hb57 hb7 k1 k3 k4 HB6 HPW
          go_wp2_with fail
          clear c0 c1 c2 c3 c4 c5 r0 r1 r2 r3 r4
          refine (with_any p _ _ [⟨an, bn, 0, -80, 80⟩, ⟨an, bn, 0, -80, 80⟩] (by simp) (by simp) (by omega) w7.heap.size 2 _ (HPA.out.later (M3.out.alloc hg7 _)) (heap_alloc_at _ _ _ rfl)).mono ?_
          rintro e w8 ⟨⟨ao4, cap4, rfl, hpw⟩, hb8⟩
          unfold pairRow
          have HPW := Lib.hid hpw
          have HB8 := Lib.hid (((Below.refl _ _).alloc (Nat.le_refl _) _).trans (hb8.mono (by simp)))
          clear hpw hb8
          go_wp2_with fail
          refine (HG2.out _ _ HPW.out).mono ?_
          rintro e w9 ⟨rfl, hb9⟩
          have hb79 := HB8.out.trans (hb9.mono HB8.out.size)
          have k4 := (hb79.block _ (lt_of_block M4.out)).trans M4.out
          have k3 := M3.out.trans (hb79.mono hg7)
          have hlk := lookup_set _ _ (bn : Int) w9 k4
          rw [HJB.out] at hlk
          replace HB := Lib.hid (show BoxL [] W0 w9 from ⟨by simp, k3⟩)
          clear hb79 k3 k4 hb9 HB8 HPW
          have n1 : (mz - 1 == mz) = false := by rw [beq_eq_false_iff_ne]; omega
          have n2 : (mz == mz - 1) = false := by rw [beq_eq_false_iff_ne]; omega
          cases jb with
          | true =>
            obtain rfl : mz = oz := (HJ1.out rfl).symm
            go_wp2_with fail
            refine (alive_any _).mono ?_
            rintro e wz ⟨rfl, hb⟩
            replace HB := Lib.hid (HB.out.later hb)
            clear hb
            go_wp2
            go_ret
            exact ⟨rfl, HB0.out.trans (HB.out.2.mono (by omega))⟩
          | false =>
            obtain rfl : oz = mz - 1 := HJ2.out rfl
            go_wp2_with fail
            refine (alive_any _).mono ?_
            rintro e wz ⟨rfl, hb⟩
            replace HB := Lib.hid (HB.out.later hb)
            clear hb
            go_wp2
            go_ret
            exact ⟨rfl, HB0.out.trans (HB.out.2.mono (by omega))⟩
        have hwk : IntKind.i64.wrap ((k : Int) + 1) = ((k + 1 : Nat) : Int) := by rw [IntWalk.i64_in _ (by omega)]; omega
        go_wp2_with fail
        clear c0 c1 c2 c3 c4 c5
        obtain ⟨wo, rfl⟩ : ∃ wo, wo = wr := ⟨_, rfl⟩
        go_loopw [112] (fun i wr => ∃ j : Nat, j ≤ p.rs.length ∧ i = .int .i64 j ∧ wr.heap[wq.heap.size]? = some (setM ((p.rs.take j).foldl joinS (joinK p an k))) ∧ Below W0.heap.size W0 wr) (fun i _ => p.rs.length - (intOf i).toNat)
        case atStart => exact ⟨0, by omega, rfl, HMK.out, HBK.out⟩
        case round =>
          clear HMK HBK hgek
          obtain ⟨j, hj, rfl, hmj, hb⟩ := hrel
          have HMJ := Lib.hid hmj
          have HBJ := Lib.hid hb
          have hgej := hb.size
          have HPR := Lib.hid (HPA.out.later hb)
          clear hmj hb
          by_cases hlj : j < p.rs.length
          case neg =>
            have hjn : j = p.rs.length := by omega
            subst hjn
            have hnx : (p.rs.take p.rs.length).foldl joinS (joinK p an k) = joinK p an (k + 1) := by rw [List.take_length]; rfl
            have HNX := Lib.hid hnx
            clear hnx
            go_wp2
            exact ⟨⟨k + 1, by omega, by go_num, by rw [← HNX.out]; exact HMJ.out, HBJ.out⟩, by simp [intOf]; omega⟩
          have hwj : IntKind.i64.wrap ((j : Int) + 1) = ((j + 1 : Nat) : Int) := by rw [IntWalk.i64_in _ (by omega)]; omega
          have hnx : (p.rs.take (j + 1)).foldl joinS (joinK p an k) = joinS ((p.rs.take j).foldl joinS (joinK p an k)) p.rs[j] := by rw [List.take_succ_eq_append_getElem hlj, List.foldl_append]; rfl
          obtain ⟨ao', cap', e', _, _, hel⟩ := HPR.out.r
          cases e'
          obtain ⟨b, off, rfl, hbr, _, f1, f2, f3, f4, f5⟩ := hel j hlj
          generalize hrg : p.rs[j] = rd at *
          obtain ⟨ra, rb, rm, rlo, rhi⟩ := rd
          have HNX := Lib.hid hnx
          clear hel hrg hnx
          generalize (p.rs.take j).foldl joinS (joinK p an k) = L at *
          dsimp only at f1 f2 f3 f4 f5
          have hla : ∀ o, (Instr.lookup 59 (.map (some wq.heap.size)) (.int .i64 ra) false).run Try.prog (wr.alloc o) = .ok (.bool (decide (ra ∈ L))) (wr.alloc o) := fun o => lookup_set _ L ra _ ((Below.heap_alloc wr _ _ (lt_of_block HMJ.out)).trans HMJ.out)
          have hlb : ∀ o, (Instr.lookup 59 (.map (some wq.heap.size)) (.int .i64 rb) false).run Try.prog (wr.alloc o) = .ok (.bool (decide (rb ∈ L))) (wr.alloc o) := fun o => lookup_set _ L rb _ ((Below.heap_alloc wr _ _ (lt_of_block HMJ.out)).trans HMJ.out)
          by_cases hra : ra ∈ L
          · have hda : decide (ra ∈ L) = true := by simpa using hra
            have HJS : Hid (joinS L ⟨ra, rb, rm, rlo, rhi⟩ = addL (addL L ra) rb) := by show _ = _; unfold joinS; rw [if_pos (.inl hra)]
            rw [hda] at hla
            clear hlb hda hra
            go_wp2_with fail
            obtain ⟨A, hA⟩ : ∃ A, A = wr.alloc (.cells #[.int .i64 ra, .int .i64 rb, .int .i64 rm, .int .i64 rlo, .int .i64 rhi] 44) := ⟨_, rfl⟩
            have a0 : A.drew.heap[wr.heap.size]? = some (.cells #[.int .i64 ra, .int .i64 rb, .int .i64 rm, .int .i64 rlo, .int .i64 rhi] 44 (0, 0)) := by rw [hA]; exact heap_alloc_at wr _ _ rfl
            have a1 : A.drew.heap[wq.heap.size]? = some (setM L) := by rw [hA]; exact (Below.heap_alloc wr _ _ (lt_of_block HMJ.out)).trans HMJ.out
            have a2 : Below W0.heap.size W0 A.drew := by rw [hA]; exact (HBJ.out.alloc hgej _).drew
            rw [← hA]
            have hne : wr.heap.size ≠ wq.heap.size := by have := lt_of_block HMJ.out; omega
            have u1 := update_any wq.heap.size L ra A.drew a1
            obtain ⟨W1, hW1⟩ : ∃ W1, W1 = A.drew.putObj wq.heap.size (setM (addL L ra)) := ⟨_, rfl⟩
            have b0 : W1.heap[wr.heap.size]? = some (.cells #[.int .i64 ra, .int .i64 rb, .int .i64 rm, .int .i64 rlo, .int .i64 rhi] 44 (0, 0)) := by rw [hW1, World.putObj_heap_other hne]; exact a0
            have b1 : W1.heap[wq.heap.size]? = some (setM (addL L ra)) := by rw [hW1]; exact World.putObj_heap_same (lt_of_block a1)
            have b2 : Below W0.heap.size W0 W1 := by rw [hW1]; exact a2.trans ((Keeps.putObj (Mut := fun k => k = wq.heap.size) _ _ _ rfl).below a2.size (fun k h e => by omega))
            rw [← hW1] at u1
            have u2 := update_any wq.heap.size (addL L ra) rb W1 b1
            obtain ⟨W2, hW2⟩ : ∃ W2, W2 = W1.putObj wq.heap.size (setM (addL (addL L ra) rb)) := ⟨_, rfl⟩
            have d1 : W2.heap[wq.heap.size]? = some (setM (addL (addL L ra) rb)) := by rw [hW2]; exact World.putObj_heap_same (lt_of_block b1)
            have d2 : Below W0.heap.size W0 W2 := by rw [hW2]; exact b2.trans ((Keeps.putObj (Mut := fun k => k = wq.heap.size) _ _ _ rfl).below b2.size (fun k h e => by omega))
            rw [← hW2] at u2
            have x0 := cell_of_row _ _ 0 _ _ _ a0
            have x1 := cell_of_row _ _ 1 _ _ _ a0
            have y0 := cell_of_row _ _ 0 _ _ _ b0
            have y1 := cell_of_row _ _ 1 _ _ _ b0
            have D1 := Lib.hid d1
            have D2 := Lib.hid d2
            clear hA hla hW1 hW2 a0 a1 a2 b0 b1 b2 d1 d2
            first | (go_region) | fail
            all_goals
              go_wp2
              exact ⟨⟨j + 1, by omega, by go_num, by rw [HNX.out, HJS.out]; exact D1.out, D2.out⟩, by simp [intOf]; omega⟩
          by_cases hrb : rb ∈ L
          · have hda : decide (ra ∈ L) = false := by simpa using hra
            have hdb : decide (rb ∈ L) = true := by simpa using hrb
            have HJS : Hid (joinS L ⟨ra, rb, rm, rlo, rhi⟩ = addL (addL L ra) rb) := by show _ = _; unfold joinS; rw [if_pos (.inr hrb)]
            rw [hda] at hla
            rw [hdb] at hlb
            clear hda hdb hra hrb
            go_wp2_with fail
            obtain ⟨A, hA⟩ : ∃ A, A = wr.alloc (.cells #[.int .i64 ra, .int .i64 rb, .int .i64 rm, .int .i64 rlo, .int .i64 rhi] 44) := ⟨_, rfl⟩
            have a0 : A.drew.heap[wr.heap.size]? = some (.cells #[.int .i64 ra, .int .i64 rb, .int .i64 rm, .int .i64 rlo, .int .i64 rhi] 44 (0, 0)) := by rw [hA]; exact heap_alloc_at wr _ _ rfl
            have a1 : A.drew.heap[wq.heap.size]? = some (setM L) := by rw [hA]; exact (Below.heap_alloc wr _ _ (lt_of_block HMJ.out)).trans HMJ.out
            have a2 : Below W0.heap.size W0 A.drew := by rw [hA]; exact (HBJ.out.alloc hgej _).drew
            rw [← hA]
            have hne : wr.heap.size ≠ wq.heap.size := by have := lt_of_block HMJ.out; omega
            have u1 := update_any wq.heap.size L ra A.drew a1
            obtain ⟨W1, hW1⟩ : ∃ W1, W1 = A.drew.putObj wq.heap.size (setM (addL L ra)) := ⟨_, rfl⟩
            have b0 : W1.heap[wr.heap.size]? = some (.cells #[.int .i64 ra, .int .i64 rb, .int .i64 rm, .int .i64 rlo, .int .i64 rhi] 44 (0, 0)) := by rw [hW1, World.putObj_heap_other hne]; exact a0
            have b1 : W1.heap[wq.heap.size]? = some (setM (addL L ra)) := by rw [hW1]; exact World.putObj_heap_same (lt_of_block a1)
            have b2 : Below W0.heap.size W0 W1 := by rw [hW1]; exact a2.trans ((Keeps.putObj (Mut := fun k => k = wq.heap.size) _ _ _ rfl).below a2.size (fun k h e => by omega))
            rw [← hW1] at u1
            have u2 := update_any wq.heap.size (addL L ra) rb W1 b1
            obtain ⟨W2, hW2⟩ : ∃ W2, W2 = W1.putObj wq.heap.size (setM (addL (addL L ra) rb)) := ⟨_, rfl⟩
            have d1 : W2.heap[wq.heap.size]? = some (setM (addL (addL L ra) rb)) := by rw [hW2]; exact World.putObj_heap_same (lt_of_block b1)
            have d2 : Below W0.heap.size W0 W2 := by rw [hW2]; exact b2.trans ((Keeps.putObj (Mut := fun k => k = wq.heap.size) _ _ _ rfl).below b2.size (fun k h e => by omega))
            rw [← hW2] at u2
            have x0 := cell_of_row _ _ 0 _ _ _ a0
            have x1 := cell_of_row _ _ 1 _ _ _ a0
            have y0 := cell_of_row _ _ 0 _ _ _ b0
            have y1 := cell_of_row _ _ 1 _ _ _ b0
            have D1 := Lib.hid d1
            have D2 := Lib.hid d2
            clear hA hla hW1 hW2 a0 a1 a2 b0 b1 b2 d1 d2
            first | (go_region) | fail
            all_goals
              go_wp2
              exact ⟨⟨j + 1, by omega, by go_num, by rw [HNX.out, HJS.out]; exact D1.out, D2.out⟩, by simp [intOf]; omega⟩
          have hda : decide (ra ∈ L) = false := by simpa using hra
          have hdb : decide (rb ∈ L) = false := by simpa using hrb
          have HJS : Hid (joinS L ⟨ra, rb, rm, rlo, rhi⟩ = L) := by show _ = _; unfold joinS; rw [if_neg (by rintro (h | h); exact hra h; exact hrb h)]
          rw [hda] at hla
          rw [hdb] at hlb
          clear hda hdb hra hrb
          go_wp2
          exact ⟨⟨j + 1, by omega, by go_num, by rw [HNX.out, HJS.out]; exact (Below.heap_alloc wr _ _ (lt_of_block HMJ.out)).trans HMJ.out, HBJ.out.alloc hgej _⟩, by simp [intOf]; omega⟩
    · skip
      obtain ⟨c0, c1, c2, c3, c4, c5⟩ := ROWS.out _ HB.out.2
      go_wp2_with fail
      clear c0 c1 c2 c3 c4 c5
      go_quiet (fail)
      obtain ⟨wq, hwv⟩ : ∃ wv, wv = w4.drewN nq := ⟨_, rfl⟩
      have hbq : Below w4.heap.size w4 wq := by rw [hwv]; exact ⟨rfl, rfl, rfl, Nat.le_refl _, fun _ _ => rfl⟩
      rw [← hwv]
      replace HB := Lib.hid (HB.out.later hbq)
      clear hwv hbq
      rw [han, hbn]
      have hmm := @run_makeMap Try.prog
      by_cases hab : an = bn
      · subst hab
        go_wp2_with fail
        refine (alive_any _).mono ?_
        rintro e wz ⟨rfl, hb⟩
        replace HB := Lib.hid (HB.out.later hb)
        clear hb
        go_wp2
        go_ret
        exact ⟨rfl, HB0.out.trans (HB.out.2.mono (by omega))⟩
      have hdab : ((an : Int) == (bn : Int)) = false := by rw [beq_eq_false_iff_ne]; omega
      obtain ⟨mz', oz, jb, hmz', hg1, hg2, hjb, hj1, hj2⟩ := HFAR.out hab
      obtain rfl : mz = mz' := HMZ.out.trans hmz'.symm
      have HG1 := Lib.hid hg1
      have HG2 := Lib.hid hg2
      have HJB := Lib.hid hjb
      have HJ1 := Lib.hid hj1
      have HJ2 := Lib.hid hj2
      clear hg1 hg2 hjb hj1 hj2 hmz'
      obtain ⟨W1, hW1⟩ : ∃ W1, W1 = (wq.alloc (.map #[] 0)).putObj wq.heap.size (setM [(an : Int)]) := ⟨_, rfl⟩
      have hup : (Instr.mapUpdate 59 (.map (some wq.heap.size)) (.int .i64 an) (.bool true)).run Try.prog (wq.alloc (.map #[] 0)) = .ok () W1 := by rw [hW1]; exact update_set _ [] an _ (heap_alloc_at _ _ _ rfl) (by simp)
      have hm1 : W1.heap[wq.heap.size]? = some (setM [(an : Int)]) := by rw [hW1]; exact World.putObj_heap_same (by simp)
      have hqs := HB.out.2.size
      have hb1 : Below W0.heap.size W0 W1 := by rw [hW1]; exact (HB.out.2.alloc hqs _).trans ((Keeps.putObj (Mut := fun k => k = wq.heap.size) _ _ _ rfl).below (by simp; omega) (fun k h e => by omega))
      have HM1 := Lib.hid hm1
      have HB1 := Lib.hid hb1
      obtain ⟨c0, c1, c2, c3, c4, c5⟩ := ROWS.out _ hb1
      clear hW1 hm1 hb1
      go_wp2_with fail
      clear c0 c1 c2 c3 c4 c5 hup
      go_loopw [107] (fun i wr => ∃ k : Nat, k ≤ p.bs.length ∧ i = .int .i64 k ∧ wr.heap[wq.heap.size]? = some (setM (joinK p an k)) ∧ Below W0.heap.size W0 wr) (fun i _ => p.bs.length - (intOf i).toNat)
      case atStart => exact ⟨0, by omega, rfl, HM1.out, HB1.out⟩
      case round =>
        obtain ⟨k, hk, rfl, hmk, hb⟩ := hrel
        have HMK := Lib.hid hmk
        have HBK := Lib.hid hb
        have hgek := hb.size
        clear hmk hb
        obtain ⟨c0, c1, c2, c3, c4, c5⟩ := ROWS.out _ HBK.out
        by_cases hlk : k < p.bs.length
        case neg =>
          have hkn : k = p.bs.length := by omega
          subst hkn
          go_wp2_with fail
          clear c0 c1 c2 c3 c4 c5
          refine (lread_any ⟨an, bn, 0, -80, 80⟩ _).mono ?_
          rintro e w5 ⟨rfl, hb⟩
          have hb5 := HBK.out.trans (hb.mono hgek)
          have hm5 := (hb.block _ (lt_of_block HMK.out)).trans HMK.out
          have hg5 := hb5.size
          obtain ⟨A5, hA5⟩ : ∃ A, A = (w5.alloc (.cells #[.int .i64 an, .int .i64 bn, .int .i64 0, .int .i64 (-80), .int .i64 80] 44)).alloc (.cells #[.int .i64 an, .int .i64 bn, .int .i64 0, .int .i64 (-80), .int .i64 80] 44) := ⟨_, rfl⟩
          have k1 : A5.heap[w5.heap.size]? = some (.cells #[.int .i64 an, .int .i64 bn, .int .i64 0, .int .i64 (-80), .int .i64 80] 44 (0, 0)) := by rw [hA5]; exact (Below.heap_alloc _ _ _ (by simp)).trans (heap_alloc_at _ _ _ rfl)
          have k2 : A5.heap[w5.heap.size + 1]? = some (.cells #[.int .i64 an, .int .i64 bn, .int .i64 0, .int .i64 (-80), .int .i64 80] 44 (0, 0)) := by rw [hA5]; exact heap_alloc_at _ _ _ (by simp)
          have k3 : Below W0.heap.size W0 A5 := by rw [hA5]; exact (hb5.alloc hg5 _).alloc (by simp; omega) _
          have k4 : A5.heap[wq.heap.size]? = some (setM (joinK p an p.bs.length)) := by rw [hA5]; exact (Below.heap_alloc _ _ _ (by have := lt_of_block hm5; simp; omega)).trans ((Below.heap_alloc _ _ _ (lt_of_block hm5)).trans hm5)
          have hc5 := hb5.alloc hg5 (.cells #[.int .i64 an, .int .i64 bn, .int .i64 0, .int .i64 (-80), .int .i64 80] 44 (0, 0))
          obtain ⟨c0, c1, c2, c3, c4, c5⟩ := ROWS.out _ hc5
          have K1 := Lib.hid k1
          have K2 := Lib.hid k2
          have K3 := Lib.hid k3
          have K4 := Lib.hid k4
          have HA5 := Lib.hid hA5
          clear hb hb5 hm5 k1 k2 k3 k4 hA5 hc5
          unfold readV
          go_wp2_with fail
          clear c0 c1 c2 c3 c4 c5
          rw [← HA5.out]
          refine (with_any p _ _ [⟨an, bn, 0, -80, 80⟩] (by simp) (by simp) (by omega) (w5.heap.size + 1) 1 A5 (HPA.out.later K3.out) K2.out).mono ?_
          rintro e w6 ⟨⟨ao3, cap3, rfl, hpw⟩, hb6⟩
          unfold pairRow
          have HPW := Lib.hid hpw
          have HB6 := Lib.hid hb6
          clear hpw hb6
          go_wp2_with fail
          refine (HG1.out _ _ HPW.out).mono ?_
          rintro e w7 ⟨rfl, hb7⟩
          have hb57 := HB6.out.trans (hb7.mono HB6.out.size)
          have k1 := (hb57.block _ (lt_of_block K1.out)).trans K1.out
          have k4 := (hb57.block _ (lt_of_block K4.out)).trans K4.out
          have k3 := K3.out.trans (hb57.mono K3.out.size)
          have hg7 := k3.size
          obtain ⟨c0, c1, c2, c3, c4, c5⟩ := ROWS.out _ k3
          have r0 := cell_of_row _ _ 0 _ _ _ k1
          have r1 := cell_of_row _ _ 1 _ _ _ k1
          have r2 := cell_of_row _ _ 2 _ _ _ k1
          have r3 := cell_of_row _ _ 3 _ _ _ k1
          have r4 := cell_of_row _ _ 4 _ _ _ k1
          have M3 := Lib.hid k3
          have M4 := Lib.hid k4
          clear hb57 hb7 k1 k3 k4 HB6 HPW
          go_wp2_with fail
          clear c0 c1 c2 c3 c4 c5 r0 r1 r2 r3 r4
          refine (with_any p _ _ [⟨an, bn, 0, -80, 80⟩, ⟨an, bn, 0, -80, 80⟩] (by simp) (by simp) (by omega) w7.heap.size 2 _ (HPA.out.later (M3.out.alloc hg7 _)) (heap_alloc_at _ _ _ rfl)).mono ?_
          rintro e w8 ⟨⟨ao4, cap4, rfl, hpw⟩, hb8⟩
          unfold pairRow
          have HPW := Lib.hid hpw
          have HB8 := Lib.hid (((Below.refl _ _).alloc (Nat.le_refl _) _).trans (hb8.mono (by simp)))
          clear hpw hb8
          go_wp2_with fail
          refine (HG2.out _ _ HPW.out).mono ?_
          rintro e w9 ⟨rfl, hb9⟩
          have hb79 := HB8.out.trans (hb9.mono HB8.out.size)
          have k4 := (hb79.block _ (lt_of_block M4.out)).trans M4.out
          have k3 := M3.out.trans (hb79.mono hg7)
          have hlk := lookup_set _ _ (bn : Int) w9 k4
          rw [HJB.out] at hlk
          replace HB := Lib.hid (show BoxL [] W0 w9 from ⟨by simp, k3⟩)
          clear hb79 k3 k4 hb9 HB8 HPW
          have n1 : (mz - 1 == mz) = false := by rw [beq_eq_false_iff_ne]; omega
          have n2 : (mz == mz - 1) = false := by rw [beq_eq_false_iff_ne]; omega
          cases jb with
          | true =>
            obtain rfl : mz = oz := (HJ1.out rfl).symm
            go_wp2_with fail
            refine (alive_any _).mono ?_
            rintro e wz ⟨rfl, hb⟩
            replace HB := Lib.hid (HB.out.later hb)
            clear hb
            go_wp2
            go_ret
            exact ⟨rfl, HB0.out.trans (HB.out.2.mono (by omega))⟩
          | false =>
            obtain rfl : oz = mz - 1 := HJ2.out rfl
            go_wp2_with fail
            refine (alive_any _).mono ?_
            rintro e wz ⟨rfl, hb⟩
            replace HB := Lib.hid (HB.out.later hb)
            clear hb
            go_wp2
            go_ret
            exact ⟨rfl, HB0.out.trans (HB.out.2.mono (by omega))⟩
        have hwk : IntKind.i64.wrap ((k : Int) + 1) = ((k + 1 : Nat) : Int) := by rw [IntWalk.i64_in _ (by omega)]; omega
        go_wp2_with fail
        clear c0 c1 c2 c3 c4 c5
        obtain ⟨wo, rfl⟩ : ∃ wo, wo = wr := ⟨_, rfl⟩
        go_loopw [112] (fun i wr => ∃ j : Nat, j ≤ p.rs.length ∧ i = .int .i64 j ∧ wr.heap[wq.heap.size]? = some (setM ((p.rs.take j).foldl joinS (joinK p an k))) ∧ Below W0.heap.size W0 wr) (fun i _ => p.rs.length - (intOf i).toNat)
        case atStart => exact ⟨0, by omega, rfl, HMK.out, HBK.out⟩
        case round =>
          clear HMK HBK hgek
          obtain ⟨j, hj, rfl, hmj, hb⟩ := hrel
          have HMJ := Lib.hid hmj
          have HBJ := Lib.hid hb
          have hgej := hb.size
          have HPR := Lib.hid (HPA.out.later hb)
          clear hmj hb
          by_cases hlj : j < p.rs.length
          case neg =>
            have hjn : j = p.rs.length := by omega
            subst hjn
            have hnx : (p.rs.take p.rs.length).foldl joinS (joinK p an k) = joinK p an (k + 1) := by rw [List.take_length]; rfl
            have HNX := Lib.hid hnx
            clear hnx
            go_wp2
            exact ⟨⟨k + 1, by omega, by go_num, by rw [← HNX.out]; exact HMJ.out, HBJ.out⟩, by simp [intOf]; omega⟩
          have hwj : IntKind.i64.wrap ((j : Int) + 1) = ((j + 1 : Nat) : Int) := by rw [IntWalk.i64_in _ (by omega)]; omega
          have hnx : (p.rs.take (j + 1)).foldl joinS (joinK p an k) = joinS ((p.rs.take j).foldl joinS (joinK p an k)) p.rs[j] := by rw [List.take_succ_eq_append_getElem hlj, List.foldl_append]; rfl
          obtain ⟨ao', cap', e', _, _, hel⟩ := HPR.out.r
          cases e'
          obtain ⟨b, off, rfl, hbr, _, f1, f2, f3, f4, f5⟩ := hel j hlj
          generalize hrg : p.rs[j] = rd at *
          obtain ⟨ra, rb, rm, rlo, rhi⟩ := rd
          have HNX := Lib.hid hnx
          clear hel hrg hnx
          generalize (p.rs.take j).foldl joinS (joinK p an k) = L at *
          dsimp only at f1 f2 f3 f4 f5
          have hla : ∀ o, (Instr.lookup 59 (.map (some wq.heap.size)) (.int .i64 ra) false).run Try.prog (wr.alloc o) = .ok (.bool (decide (ra ∈ L))) (wr.alloc o) := fun o => lookup_set _ L ra _ ((Below.heap_alloc wr _ _ (lt_of_block HMJ.out)).trans HMJ.out)
          have hlb : ∀ o, (Instr.lookup 59 (.map (some wq.heap.size)) (.int .i64 rb) false).run Try.prog (wr.alloc o) = .ok (.bool (decide (rb ∈ L))) (wr.alloc o) := fun o => lookup_set _ L rb _ ((Below.heap_alloc wr _ _ (lt_of_block HMJ.out)).trans HMJ.out)
          by_cases hra : ra ∈ L
          · have hda : decide (ra ∈ L) = true := by simpa using hra
            have HJS : Hid (joinS L ⟨ra, rb, rm, rlo, rhi⟩ = addL (addL L ra) rb) := by show _ = _; unfold joinS; rw [if_pos (.inl hra)]
            rw [hda] at hla
            clear hlb hda hra
            go_wp2_with fail
            obtain ⟨A, hA⟩ : ∃ A, A = wr.alloc (.cells #[.int .i64 ra, .int .i64 rb, .int .i64 rm, .int .i64 rlo, .int .i64 rhi] 44) := ⟨_, rfl⟩
            have a0 : A.drew.heap[wr.heap.size]? = some (.cells #[.int .i64 ra, .int .i64 rb, .int .i64 rm, .int .i64 rlo, .int .i64 rhi] 44 (0, 0)) := by rw [hA]; exact heap_alloc_at wr _ _ rfl
            have a1 : A.drew.heap[wq.heap.size]? = some (setM L) := by rw [hA]; exact (Below.heap_alloc wr _ _ (lt_of_block HMJ.out)).trans HMJ.out
            have a2 : Below W0.heap.size W0 A.drew := by rw [hA]; exact (HBJ.out.alloc hgej _).drew
            rw [← hA]
            have hne : wr.heap.size ≠ wq.heap.size := by have := lt_of_block HMJ.out; omega
            have u1 := update_any wq.heap.size L ra A.drew a1
            obtain ⟨W1, hW1⟩ : ∃ W1, W1 = A.drew.putObj wq.heap.size (setM (addL L ra)) := ⟨_, rfl⟩
            have b0 : W1.heap[wr.heap.size]? = some (.cells #[.int .i64 ra, .int .i64 rb, .int .i64 rm, .int .i64 rlo, .int .i64 rhi] 44 (0, 0)) := by rw [hW1, World.putObj_heap_other hne]; exact a0
            have b1 : W1.heap[wq.heap.size]? = some (setM (addL L ra)) := by rw [hW1]; exact World.putObj_heap_same (lt_of_block a1)
            have b2 : Below W0.heap.size W0 W1 := by rw [hW1]; exact a2.trans ((Keeps.putObj (Mut := fun k => k = wq.heap.size) _ _ _ rfl).below a2.size (fun k h e => by omega))
            rw [← hW1] at u1
            have u2 := update_any wq.heap.size (addL L ra) rb W1 b1
            obtain ⟨W2, hW2⟩ : ∃ W2, W2 = W1.putObj wq.heap.size (setM (addL (addL L ra) rb)) := ⟨_, rfl⟩
            have d1 : W2.heap[wq.heap.size]? = some (setM (addL (addL L ra) rb)) := by rw [hW2]; exact World.putObj_heap_same (lt_of_block b1)
            have d2 : Below W0.heap.size W0 W2 := by rw [hW2]; exact b2.trans ((Keeps.putObj (Mut := fun k => k = wq.heap.size) _ _ _ rfl).below b2.size (fun k h e => by omega))
            rw [← hW2] at u2
            have x0 := cell_of_row _ _ 0 _ _ _ a0
            have x1 := cell_of_row _ _ 1 _ _ _ a0
            have y0 := cell_of_row _ _ 0 _ _ _ b0
            have y1 := cell_of_row _ _ 1 _ _ _ b0
            have D1 := Lib.hid d1
            have D2 := Lib.hid d2
            clear hA hla hW1 hW2 a0 a1 a2 b0 b1 b2 d1 d2
            first | (go_region) | fail
            all_goals
              go_wp2
              exact ⟨⟨j + 1, by omega, by go_num, by rw [HNX.out, HJS.out]; exact D1.out, D2.out⟩, by simp [intOf]; omega⟩
          by_cases hrb : rb ∈ L
          · have hda : decide (ra ∈ L) = false := by simpa using hra
            have hdb : decide (rb ∈ L) = true := by simpa using hrb
            have HJS : Hid (joinS L ⟨ra, rb, rm, rlo, rhi⟩ = addL (addL L ra) rb) := by show _ = _; unfold joinS; rw [if_pos (.inr hrb)]
            rw [hda] at hla
            rw [hdb] at hlb
            clear hda hdb hra hrb
            go_wp2_with fail
            obtain ⟨A, hA⟩ : ∃ A, A = wr.alloc (.cells #[.int .i64 ra, .int .i64 rb, .int .i64 rm, .int .i64 rlo, .int .i64 rhi] 44) := ⟨_, rfl⟩
            have a0 : A.drew.heap[wr.heap.size]? = some (.cells #[.int .i64 ra, .int .i64 rb, .int .i64 rm, .int .i64 rlo, .int .i64 rhi] 44 (0, 0)) := by rw [hA]; exact heap_alloc_at wr _ _ rfl
            have a1 : A.drew.heap[wq.heap.size]? = some (setM L) := by rw [hA]; exact (Below.heap_alloc wr _ _ (lt_of_block HMJ.out)).trans HMJ.out
            have a2 : Below W0.heap.size W0 A.drew := by rw [hA]; exact (HBJ.out.alloc hgej _).drew
            rw [← hA]
            have hne : wr.heap.size ≠ wq.heap.size := by have := lt_of_block HMJ.out; omega
            have u1 := update_any wq.heap.size L ra A.drew a1
            obtain ⟨W1, hW1⟩ : ∃ W1, W1 = A.drew.putObj wq.heap.size (setM (addL L ra)) := ⟨_, rfl⟩
            have b0 : W1.heap[wr.heap.size]? = some (.cells #[.int .i64 ra, .int .i64 rb, .int .i64 rm, .int .i64 rlo, .int .i64 rhi] 44 (0, 0)) := by rw [hW1, World.putObj_heap_other hne]; exact a0
            have b1 : W1.heap[wq.heap.size]? = some (setM (addL L ra)) := by rw [hW1]; exact World.putObj_heap_same (lt_of_block a1)
            have b2 : Below W0.heap.size W0 W1 := by rw [hW1]; exact a2.trans ((Keeps.putObj (Mut := fun k => k = wq.heap.size) _ _ _ rfl).below a2.size (fun k h e => by omega))
            rw [← hW1] at u1
            have u2 := update_any wq.heap.size (addL L ra) rb W1 b1
            obtain ⟨W2, hW2⟩ : ∃ W2, W2 = W1.putObj wq.heap.size (setM (addL (addL L ra) rb)) := ⟨_, rfl⟩
            have d1 : W2.heap[wq.heap.size]? = some (setM (addL (addL L ra) rb)) := by rw [hW2]; exact World.putObj_heap_same (lt_of_block b1)
            have d2 : Below W0.heap.size W0 W2 := by rw [hW2]; exact b2.trans ((Keeps.putObj (Mut := fun k => k = wq.heap.size) _ _ _ rfl).below b2.size (fun k h e => by omega))
            rw [← hW2] at u2
            have x0 := cell_of_row _ _ 0 _ _ _ a0
            have x1 := cell_of_row _ _ 1 _ _ _ a0
            have y0 := cell_of_row _ _ 0 _ _ _ b0
            have y1 := cell_of_row _ _ 1 _ _ _ b0
            have D1 := Lib.hid d1
            have D2 := Lib.hid d2
            clear hA hla hW1 hW2 a0 a1 a2 b0 b1 b2 d1 d2
            first | (go_region) | fail
            all_goals
              go_wp2
              exact ⟨⟨j + 1, by omega, by go_num, by rw [HNX.out, HJS.out]; exact D1.out, D2.out⟩, by simp [intOf]; omega⟩
          have hda : decide (ra ∈ L) = false := by simpa using hra
          have hdb : decide (rb ∈ L) = false := by simpa using hrb
          have HJS : Hid (joinS L ⟨ra, rb, rm, rlo, rhi⟩ = L) := by show _ = _; unfold joinS; rw [if_neg (by rintro (h | h); exact hra h; exact hrb h)]
          rw [hda] at hla
          rw [hdb] at hlb
          clear hda hdb hra hrb
          go_wp2
          exact ⟨⟨j + 1, by omega, by go_num, by rw [HNX.out, HJS.out]; exact (Below.heap_alloc wr _ _ (lt_of_block HMJ.out)).trans HMJ.out, HBJ.out.alloc hgej _⟩, by simp [intOf]; omega⟩
  · have g1 : decide (0 < p.rs.length) = true := decide_eq_true hr0
    have f3 := f3 hr0
    have HR0 := Lib.hid hr0
    clear hr0
    by_cases h1 : 1 < (p.bs.length : Int) - (p.rs.length : Int)
    · skip
      obtain ⟨c0, c1, c2, c3, c4, c5⟩ := ROWS.out _ HB.out.2
      go_wp2_with fail
      clear c0 c1 c2 c3 c4 c5
      go_quiet (fail)
      obtain ⟨wq, hwv⟩ : ∃ wv, wv = w4.drewN nq := ⟨_, rfl⟩
      have hbq : Below w4.heap.size w4 wq := by rw [hwv]; exact ⟨rfl, rfl, rfl, Nat.le_refl _, fun _ _ => rfl⟩
      rw [← hwv]
      replace HB := Lib.hid (HB.out.later hbq)
      clear hwv hbq
      rw [han, hbn]
      have hmm := @run_makeMap Try.prog
      by_cases hab : an = bn
      · subst hab
        go_wp2_with fail
        refine (alive_any _).mono ?_
        rintro e wz ⟨rfl, hb⟩
        replace HB := Lib.hid (HB.out.later hb)
        clear hb
        go_wp2
        go_ret
        exact ⟨rfl, HB0.out.trans (HB.out.2.mono (by omega))⟩
      have hdab : ((an : Int) == (bn : Int)) = false := by rw [beq_eq_false_iff_ne]; omega
      obtain ⟨mz', oz, jb, hmz', hg1, hg2, hjb, hj1, hj2⟩ := HFAR.out hab
      obtain rfl : mz = mz' := HMZ.out.trans hmz'.symm
      have HG1 := Lib.hid hg1
      have HG2 := Lib.hid hg2
      have HJB := Lib.hid hjb
      have HJ1 := Lib.hid hj1
      have HJ2 := Lib.hid hj2
      clear hg1 hg2 hjb hj1 hj2 hmz'
      obtain ⟨W1, hW1⟩ : ∃ W1, W1 = (wq.alloc (.map #[] 0)).putObj wq.heap.size (setM [(an : Int)]) := ⟨_, rfl⟩
      have hup : (Instr.mapUpdate 59 (.map (some wq.heap.size)) (.int .i64 an) (.bool true)).run Try.prog (wq.alloc (.map #[] 0)) = .ok () W1 := by rw [hW1]; exact update_set _ [] an _ (heap_alloc_at _ _ _ rfl) (by simp)
      have hm1 : W1.heap[wq.heap.size]? = some (setM [(an : Int)]) := by rw [hW1]; exact World.putObj_heap_same (by simp)
      have hqs := HB.out.2.size
      have hb1 : Below W0.heap.size W0 W1 := by rw [hW1]; exact (HB.out.2.alloc hqs _).trans ((Keeps.putObj (Mut := fun k => k = wq.heap.size) _ _ _ rfl).below (by simp; omega) (fun k h e => by omega))
      have HM1 := Lib.hid hm1
      have HB1 := Lib.hid hb1
      obtain ⟨c0, c1, c2, c3, c4, c5⟩ := ROWS.out _ hb1
      clear hW1 hm1 hb1
      go_wp2_with fail
      clear c0 c1 c2 c3 c4 c5 hup
      go_loopw [107] (fun i wr => ∃ k : Nat, k ≤ p.bs.length ∧ i = .int .i64 k ∧ wr.heap[wq.heap.size]? = some (setM (joinK p an k)) ∧ Below W0.heap.size W0 wr) (fun i _ => p.bs.length - (intOf i).toNat)
      case atStart => exact ⟨0, by omega, rfl, HM1.out, HB1.out⟩
      case round =>
        obtain ⟨k, hk, rfl, hmk, hb⟩ := hrel
        have HMK := Lib.hid hmk
        have HBK := Lib.hid hb
        have hgek := hb.size
        clear hmk hb
        obtain ⟨c0, c1, c2, c3, c4, c5⟩ := ROWS.out _ HBK.out
        by_cases hlk : k < p.bs.length
        case neg =>
          have hkn : k = p.bs.length := by omega
          subst hkn
          go_wp2_with fail
          clear c0 c1 c2 c3 c4 c5
          refine (lread_any ⟨an, bn, 0, -80, 80⟩ _).mono ?_
          rintro e w5 ⟨rfl, hb⟩
          have hb5 := HBK.out.trans (hb.mono hgek)
          have hm5 := (hb.block _ (lt_of_block HMK.out)).trans HMK.out
          have hg5 := hb5.size
          obtain ⟨A5, hA5⟩ : ∃ A, A = (w5.alloc (.cells #[.int .i64 an, .int .i64 bn, .int .i64 0, .int .i64 (-80), .int .i64 80] 44)).alloc (.cells #[.int .i64 an, .int .i64 bn, .int .i64 0, .int .i64 (-80), .int .i64 80] 44) := ⟨_, rfl⟩
          have k1 : A5.heap[w5.heap.size]? = some (.cells #[.int .i64 an, .int .i64 bn, .int .i64 0, .int .i64 (-80), .int .i64 80] 44 (0, 0)) := by rw [hA5]; exact (Below.heap_alloc _ _ _ (by simp)).trans (heap_alloc_at _ _ _ rfl)
          have k2 : A5.heap[w5.heap.size + 1]? = some (.cells #[.int .i64 an, .int .i64 bn, .int .i64 0, .int .i64 (-80), .int .i64 80] 44 (0, 0)) := by rw [hA5]; exact heap_alloc_at _ _ _ (by simp)
          have k3 : Below W0.heap.size W0 A5 := by rw [hA5]; exact (hb5.alloc hg5 _).alloc (by simp; omega) _
          have k4 : A5.heap[wq.heap.size]? = some (setM (joinK p an p.bs.length)) := by rw [hA5]; exact (Below.heap_alloc _ _ _ (by have := lt_of_block hm5; simp; omega)).trans ((Below.heap_alloc _ _ _ (lt_of_block hm5)).trans hm5)
          have hc5 := hb5.alloc hg5 (.cells #[.int .i64 an, .int .i64 bn, .int .i64 0, .int .i64 (-80), .int .i64 80] 44 (0, 0))
          obtain ⟨c0, c1, c2, c3, c4, c5⟩ := ROWS.out _ hc5
          have K1 := Lib.hid k1
          have K2 := Lib.hid k2
          have K3 := Lib.hid k3
          have K4 := Lib.hid k4
          have HA5 := Lib.hid hA5
          clear hb hb5 hm5 k1 k2 k3 k4 hA5 hc5
          unfold readV
          go_wp2_with fail
          clear c0 c1 c2 c3 c4 c5
          rw [← HA5.out]
          refine (with_any p _ _ [⟨an, bn, 0, -80, 80⟩] (by simp) (by simp) (by omega) (w5.heap.size + 1) 1 A5 (HPA.out.later K3.out) K2.out).mono ?_
          rintro e w6 ⟨⟨ao3, cap3, rfl, hpw⟩, hb6⟩
          unfold pairRow
          have HPW := Lib.hid hpw
          have HB6 := Lib.hid hb6
          clear hpw hb6
          go_wp2_with fail
          refine (HG1.out _ _ HPW.out).mono ?_
          rintro e w7 ⟨rfl, hb7⟩
          have hb57 := HB6.out.trans (hb7.mono HB6.out.size)
          have k1 := (hb57.block _ (lt_of_block K1.out)).trans K1.out
          have k4 := (hb57.block _ (lt_of_block K4.out)).trans K4.out
          have k3 := K3.out.trans (hb57.mono K3.out.size)
          have hg7 := k3.size
          obtain ⟨c0, c1, c2, c3, c4, c5⟩ := ROWS.out _ k3
          have r0 := cell_of_row _ _ 0 _ _ _ k1
          have r1 := cell_of_row _ _ 1 _ _ _ k1
          have r2 := cell_of_row _ _ 2 _ _ _ k1
          have r3 := cell_of_row _ _ 3 _ _ _ k1
          have r4 := cell_of_row _ _ 4 _ _ _ k1
          have M3 := Lib.hid k3
          have M4 := Lib.hid k4
          clear hb57 hb7 k1 k3 k4 HB6 HPW
          go_wp2_with fail
          clear c0 c1 c2 c3 c4 c5 r0 r1 r2 r3 r4
          refine (with_any p _ _ [⟨an, bn, 0, -80, 80⟩, ⟨an, bn, 0, -80, 80⟩] (by simp) (by simp) (by omega) w7.heap.size 2 _ (HPA.out.later (M3.out.alloc hg7 _)) (heap_alloc_at _ _ _ rfl)).mono ?_
          rintro e w8 ⟨⟨ao4, cap4, rfl, hpw⟩, hb8⟩
          unfold pairRow
          have HPW := Lib.hid hpw
          have HB8 := Lib.hid (((Below.refl _ _).alloc (Nat.le_refl _) _).trans (hb8.mono (by simp)))
          clear hpw hb8
          go_wp2_with fail
          refine (HG2.out _ _ HPW.out).mono ?_
          rintro e w9 ⟨rfl, hb9⟩
          have hb79 := HB8.out.trans (hb9.mono HB8.out.size)
          have k4 := (hb79.block _ (lt_of_block M4.out)).trans M4.out
          have k3 := M3.out.trans (hb79.mono hg7)
          have hlk := lookup_set _ _ (bn : Int) w9 k4
          rw [HJB.out] at hlk
          replace HB := Lib.hid (show BoxL [] W0 w9 from ⟨by simp, k3⟩)
          clear hb79 k3 k4 hb9 HB8 HPW
          have n1 : (mz - 1 == mz) = false := by rw [beq_eq_false_iff_ne]; omega
          have n2 : (mz == mz - 1) = false := by rw [beq_eq_false_iff_ne]; omega
          cases jb with
          | true =>
            obtain rfl : mz = oz := (HJ1.out rfl).symm
            go_wp2_with fail
            refine (alive_any _).mono ?_
            rintro e wz ⟨rfl, hb⟩
            replace HB := Lib.hid (HB.out.later hb)
            clear hb
            go_wp2
            go_ret
            exact ⟨rfl, HB0.out.trans (HB.out.2.mono (by omega))⟩
          | false =>
            obtain rfl : oz = mz - 1 := HJ2.out rfl
            go_wp2_with fail
            refine (alive_any _).mono ?_
            rintro e wz ⟨rfl, hb⟩
            replace HB := Lib.hid (HB.out.later hb)
            clear hb
            go_wp2
            go_ret
            exact ⟨rfl, HB0.out.trans (HB.out.2.mono (by omega))⟩
        have hwk : IntKind.i64.wrap ((k : Int) + 1) = ((k + 1 : Nat) : Int) := by rw [IntWalk.i64_in _ (by omega)]; omega
        go_wp2_with fail
        clear c0 c1 c2 c3 c4 c5
        obtain ⟨wo, rfl⟩ : ∃ wo, wo = wr := ⟨_, rfl⟩
        go_loopw [112] (fun i wr => ∃ j : Nat, j ≤ p.rs.length ∧ i = .int .i64 j ∧ wr.heap[wq.heap.size]? = some (setM ((p.rs.take j).foldl joinS (joinK p an k))) ∧ Below W0.heap.size W0 wr) (fun i _ => p.rs.length - (intOf i).toNat)
        case atStart => exact ⟨0, by omega, rfl, HMK.out, HBK.out⟩
        case round =>
          clear HMK HBK hgek
          obtain ⟨j, hj, rfl, hmj, hb⟩ := hrel
          have HMJ := Lib.hid hmj
          have HBJ := Lib.hid hb
          have hgej := hb.size
          have HPR := Lib.hid (HPA.out.later hb)
          clear hmj hb
          by_cases hlj : j < p.rs.length
          case neg =>
            have hjn : j = p.rs.length := by omega
            subst hjn
            have hnx : (p.rs.take p.rs.length).foldl joinS (joinK p an k) = joinK p an (k + 1) := by rw [List.take_length]; rfl
            have HNX := Lib.hid hnx
            clear hnx
            go_wp2
            exact ⟨⟨k + 1, by omega, by go_num, by rw [← HNX.out]; exact HMJ.out, HBJ.out⟩, by simp [intOf]; omega⟩
          have hwj : IntKind.i64.wrap ((j : Int) + 1) = ((j + 1 : Nat) : Int) := by rw [IntWalk.i64_in _ (by omega)]; omega
          have hnx : (p.rs.take (j + 1)).foldl joinS (joinK p an k) = joinS ((p.rs.take j).foldl joinS (joinK p an k)) p.rs[j] := by rw [List.take_succ_eq_append_getElem hlj, List.foldl_append]; rfl
          obtain ⟨ao', cap', e', _, _, hel⟩ := HPR.out.r
          cases e'
          obtain ⟨b, off, rfl, hbr, _, f1, f2, f3, f4, f5⟩ := hel j hlj
          generalize hrg : p.rs[j] = rd at *
          obtain ⟨ra, rb, rm, rlo, rhi⟩ := rd
          have HNX := Lib.hid hnx
          clear hel hrg hnx
          generalize (p.rs.take j).foldl joinS (joinK p an k) = L at *
          dsimp only at f1 f2 f3 f4 f5
          have hla : ∀ o, (Instr.lookup 59 (.map (some wq.heap.size)) (.int .i64 ra) false).run Try.prog (wr.alloc o) = .ok (.bool (decide (ra ∈ L))) (wr.alloc o) := fun o => lookup_set _ L ra _ ((Below.heap_alloc wr _ _ (lt_of_block HMJ.out)).trans HMJ.out)
          have hlb : ∀ o, (Instr.lookup 59 (.map (some wq.heap.size)) (.int .i64 rb) false).run Try.prog (wr.alloc o) = .ok (.bool (decide (rb ∈ L))) (wr.alloc o) := fun o => lookup_set _ L rb _ ((Below.heap_alloc wr _ _ (lt_of_block HMJ.out)).trans HMJ.out)
          by_cases hra : ra ∈ L
          · have hda : decide (ra ∈ L) = true := by simpa using hra
            have HJS : Hid (joinS L ⟨ra, rb, rm, rlo, rhi⟩ = addL (addL L ra) rb) := by show _ = _; unfold joinS; rw [if_pos (.inl hra)]
            rw [hda] at hla
            clear hlb hda hra
            go_wp2_with fail
            obtain ⟨A, hA⟩ : ∃ A, A = wr.alloc (.cells #[.int .i64 ra, .int .i64 rb, .int .i64 rm, .int .i64 rlo, .int .i64 rhi] 44) := ⟨_, rfl⟩
            have a0 : A.drew.heap[wr.heap.size]? = some (.cells #[.int .i64 ra, .int .i64 rb, .int .i64 rm, .int .i64 rlo, .int .i64 rhi] 44 (0, 0)) := by rw [hA]; exact heap_alloc_at wr _ _ rfl
            have a1 : A.drew.heap[wq.heap.size]? = some (setM L) := by rw [hA]; exact (Below.heap_alloc wr _ _ (lt_of_block HMJ.out)).trans HMJ.out
            have a2 : Below W0.heap.size W0 A.drew := by rw [hA]; exact (HBJ.out.alloc hgej _).drew
            rw [← hA]
            have hne : wr.heap.size ≠ wq.heap.size := by have := lt_of_block HMJ.out; omega
            have u1 := update_any wq.heap.size L ra A.drew a1
            obtain ⟨W1, hW1⟩ : ∃ W1, W1 = A.drew.putObj wq.heap.size (setM (addL L ra)) := ⟨_, rfl⟩
            have b0 : W1.heap[wr.heap.size]? = some (.cells #[.int .i64 ra, .int .i64 rb, .int .i64 rm, .int .i64 rlo, .int .i64 rhi] 44 (0, 0)) := by rw [hW1, World.putObj_heap_other hne]; exact a0
            have b1 : W1.heap[wq.heap.size]? = some (setM (addL L ra)) := by rw [hW1]; exact World.putObj_heap_same (lt_of_block a1)
            have b2 : Below W0.heap.size W0 W1 := by rw [hW1]; exact a2.trans ((Keeps.putObj (Mut := fun k => k = wq.heap.size) _ _ _ rfl).below a2.size (fun k h e => by omega))
            rw [← hW1] at u1
            have u2 := update_any wq.heap.size (addL L ra) rb W1 b1
            obtain ⟨W2, hW2⟩ : ∃ W2, W2 = W1.putObj wq.heap.size (setM (addL (addL L ra) rb)) := ⟨_, rfl⟩
            have d1 : W2.heap[wq.heap.size]? = some (setM (addL (addL L ra) rb)) := by rw [hW2]; exact World.putObj_heap_same (lt_of_block b1)
            have d2 : Below W0.heap.size W0 W2 := by rw [hW2]; exact b2.trans ((Keeps.putObj (Mut := fun k => k = wq.heap.size) _ _ _ rfl).below b2.size (fun k h e => by omega))
            rw [← hW2] at u2
            have x0 := cell_of_row _ _ 0 _ _ _ a0
            have x1 := cell_of_row _ _ 1 _ _ _ a0
            have y0 := cell_of_row _ _ 0 _ _ _ b0
            have y1 := cell_of_row _ _ 1 _ _ _ b0
            have D1 := Lib.hid d1
            have D2 := Lib.hid d2
            clear hA hla hW1 hW2 a0 a1 a2 b0 b1 b2 d1 d2
            first | (go_region) | fail
            all_goals
              go_wp2
              exact ⟨⟨j + 1, by omega, by go_num, by rw [HNX.out, HJS.out]; exact D1.out, D2.out⟩, by simp [intOf]; omega⟩
          by_cases hrb : rb ∈ L
          · have hda : decide (ra ∈ L) = false := by simpa using hra
            have hdb : decide (rb ∈ L) = true := by simpa using hrb
            have HJS : Hid (joinS L ⟨ra, rb, rm, rlo, rhi⟩ = addL (addL L ra) rb) := by show _ = _; unfold joinS; rw [if_pos (.inr hrb)]
            rw [hda] at hla
            rw [hdb] at hlb
            clear hda hdb hra hrb
            go_wp2_with fail
            obtain ⟨A, hA⟩ : ∃ A, A = wr.alloc (.cells #[.int .i64 ra, .int .i64 rb, .int .i64 rm, .int .i64 rlo, .int .i64 rhi] 44) := ⟨_, rfl⟩
            have a0 : A.drew.heap[wr.heap.size]? = some (.cells #[.int .i64 ra, .int .i64 rb, .int .i64 rm, .int .i64 rlo, .int .i64 rhi] 44 (0, 0)) := by rw [hA]; exact heap_alloc_at wr _ _ rfl
            have a1 : A.drew.heap[wq.heap.size]? = some (setM L) := by rw [hA]; exact (Below.heap_alloc wr _ _ (lt_of_block HMJ.out)).trans HMJ.out
            have a2 : Below W0.heap.size W0 A.drew := by rw [hA]; exact (HBJ.out.alloc hgej _).drew
            rw [← hA]
            have hne : wr.heap.size ≠ wq.heap.size := by have := lt_of_block HMJ.out; omega
            have u1 := update_any wq.heap.size L ra A.drew a1
            obtain ⟨W1, hW1⟩ : ∃ W1, W1 = A.drew.putObj wq.heap.size (setM (addL L ra)) := ⟨_, rfl⟩
            have b0 : W1.heap[wr.heap.size]? = some (.cells #[.int .i64 ra, .int .i64 rb, .int .i64 rm, .int .i64 rlo, .int .i64 rhi] 44 (0, 0)) := by rw [hW1, World.putObj_heap_other hne]; exact a0
            have b1 : W1.heap[wq.heap.size]? = some (setM (addL L ra)) := by rw [hW1]; exact World.putObj_heap_same (lt_of_block a1)
            have b2 : Below W0.heap.size W0 W1 := by rw [hW1]; exact a2.trans ((Keeps.putObj (Mut := fun k => k = wq.heap.size) _ _ _ rfl).below a2.size (fun k h e => by omega))
            rw [← hW1] at u1
            have u2 := update_any wq.heap.size (addL L ra) rb W1 b1
            obtain ⟨W2, hW2⟩ : ∃ W2, W2 = W1.putObj wq.heap.size (setM (addL (addL L ra) rb)) := ⟨_, rfl⟩
            have d1 : W2.heap[wq.heap.size]? = some (setM (addL (addL L ra) rb)) := by rw [hW2]; exact World.putObj_heap_same (lt_of_block b1)
            have d2 : Below W0.heap.size W0 W2 := by rw [hW2]; exact b2.trans ((Keeps.putObj (Mut := fun k => k = wq.heap.size) _ _ _ rfl).below b2.size (fun k h e => by omega))
            rw [← hW2] at u2
            have x0 := cell_of_row _ _ 0 _ _ _ a0
            have x1 := cell_of_row _ _ 1 _ _ _ a0
            have y0 := cell_of_row _ _ 0 _ _ _ b0
            have y1 := cell_of_row _ _ 1 _ _ _ b0
            have D1 := Lib.hid d1
            have D2 := Lib.hid d2
            clear hA hla hW1 hW2 a0 a1 a2 b0 b1 b2 d1 d2
            first | (go_region) | fail
            all_goals
              go_wp2
              exact ⟨⟨j + 1, by omega, by go_num, by rw [HNX.out, HJS.out]; exact D1.out, D2.out⟩, by simp [intOf]; omega⟩
          have hda : decide (ra ∈ L) = false := by simpa using hra
          have hdb : decide (rb ∈ L) = false := by simpa using hrb
          have HJS : Hid (joinS L ⟨ra, rb, rm, rlo, rhi⟩ = L) := by show _ = _; unfold joinS; rw [if_neg (by rintro (h | h); exact hra h; exact hrb h)]
          rw [hda] at hla
          rw [hdb] at hlb
          clear hda hdb hra hrb
          go_wp2
          exact ⟨⟨j + 1, by omega, by go_num, by rw [HNX.out, HJS.out]; exact (Below.heap_alloc wr _ _ (lt_of_block HMJ.out)).trans HMJ.out, HBJ.out.alloc hgej _⟩, by simp [intOf]; omega⟩
    · skip
      obtain ⟨c0, c1, c2, c3, c4, c5⟩ := ROWS.out _ HB.out.2
      go_wp2_with fail
      clear c0 c1 c2 c3 c4 c5
      go_quiet (fail)
      obtain ⟨wq, hwv⟩ : ∃ wv, wv = w4.drewN nq := ⟨_, rfl⟩
      have hbq : Below w4.heap.size w4 wq := by rw [hwv]; exact ⟨rfl, rfl, rfl, Nat.le_refl _, fun _ _ => rfl⟩
      rw [← hwv]
      replace HB := Lib.hid (HB.out.later hbq)
      clear hwv hbq
      rw [han, hbn]
      have hmm := @run_makeMap Try.prog
      by_cases hab : an = bn
      · subst hab
        go_wp2_with fail
        refine (alive_any _).mono ?_
        rintro e wz ⟨rfl, hb⟩
        replace HB := Lib.hid (HB.out.later hb)
        clear hb
        go_wp2
        go_ret
        exact ⟨rfl, HB0.out.trans (HB.out.2.mono (by omega))⟩
      have hdab : ((an : Int) == (bn : Int)) = false := by rw [beq_eq_false_iff_ne]; omega
      obtain ⟨mz', oz, jb, hmz', hg1, hg2, hjb, hj1, hj2⟩ := HFAR.out hab
      obtain rfl : mz = mz' := HMZ.out.trans hmz'.symm
      have HG1 := Lib.hid hg1
      have HG2 := Lib.hid hg2
      have HJB := Lib.hid hjb
      have HJ1 := Lib.hid hj1
      have HJ2 := Lib.hid hj2
      clear hg1 hg2 hjb hj1 hj2 hmz'
      obtain ⟨W1, hW1⟩ : ∃ W1, W1 = (wq.alloc (.map #[] 0)).putObj wq.heap.size (setM [(an : Int)]) := ⟨_, rfl⟩
      have hup : (Instr.mapUpdate 59 (.map (some wq.heap.size)) (.int .i64 an) (.bool true)).run Try.prog (wq.alloc (.map #[] 0)) = .ok () W1 := by rw [hW1]; exact update_set _ [] an _ (heap_alloc_at _ _ _ rfl) (by simp)
      have hm1 : W1.heap[wq.heap.size]? = some (setM [(an : Int)]) := by rw [hW1]; exact World.putObj_heap_same (by simp)
      have hqs := HB.out.2.size
      have hb1 : Below W0.heap.size W0 W1 := by rw [hW1]; exact (HB.out.2.alloc hqs _).trans ((Keeps.putObj (Mut := fun k => k = wq.heap.size) _ _ _ rfl).below (by simp; omega) (fun k h e => by omega))
      have HM1 := Lib.hid hm1
      have HB1 := Lib.hid hb1
      obtain ⟨c0, c1, c2, c3, c4, c5⟩ := ROWS.out _ hb1
      clear hW1 hm1 hb1
      go_wp2_with fail
      clear c0 c1 c2 c3 c4 c5 hup
      go_loopw [107] (fun i wr => ∃ k : Nat, k ≤ p.bs.length ∧ i = .int .i64 k ∧ wr.heap[wq.heap.size]? = some (setM (joinK p an k)) ∧ Below W0.heap.size W0 wr) (fun i _ => p.bs.length - (intOf i).toNat)
      case atStart => exact ⟨0, by omega, rfl, HM1.out, HB1.out⟩
      case round =>
        obtain ⟨k, hk, rfl, hmk, hb⟩ := hrel
        have HMK := Lib.hid hmk
        have HBK := Lib.hid hb
        have hgek := hb.size
        clear hmk hb
        obtain ⟨c0, c1, c2, c3, c4, c5⟩ := ROWS.out _ HBK.out
        by_cases hlk : k < p.bs.length
        case neg =>
          have hkn : k = p.bs.length := by omega
          subst hkn
          go_wp2_with fail
          clear c0 c1 c2 c3 c4 c5
          refine (lread_any ⟨an, bn, 0, -80, 80⟩ _).mono ?_
          rintro e w5 ⟨rfl, hb⟩
          have hb5 := HBK.out.trans (hb.mono hgek)
          have hm5 := (hb.block _ (lt_of_block HMK.out)).trans HMK.out
          have hg5 := hb5.size
          obtain ⟨A5, hA5⟩ : ∃ A, A = (w5.alloc (.cells #[.int .i64 an, .int .i64 bn, .int .i64 0, .int .i64 (-80), .int .i64 80] 44)).alloc (.cells #[.int .i64 an, .int .i64 bn, .int .i64 0, .int .i64 (-80), .int .i64 80] 44) := ⟨_, rfl⟩
          have k1 : A5.heap[w5.heap.size]? = some (.cells #[.int .i64 an, .int .i64 bn, .int .i64 0, .int .i64 (-80), .int .i64 80] 44 (0, 0)) := by rw [hA5]; exact (Below.heap_alloc _ _ _ (by simp)).trans (heap_alloc_at _ _ _ rfl)
          have k2 : A5.heap[w5.heap.size + 1]? = some (.cells #[.int .i64 an, .int .i64 bn, .int .i64 0, .int .i64 (-80), .int .i64 80] 44 (0, 0)) := by rw [hA5]; exact heap_alloc_at _ _ _ (by simp)
          have k3 : Below W0.heap.size W0 A5 := by rw [hA5]; exact (hb5.alloc hg5 _).alloc (by simp; omega) _
          have k4 : A5.heap[wq.heap.size]? = some (setM (joinK p an p.bs.length)) := by rw [hA5]; exact (Below.heap_alloc _ _ _ (by have := lt_of_block hm5; simp; omega)).trans ((Below.heap_alloc _ _ _ (lt_of_block hm5)).trans hm5)
          have hc5 := hb5.alloc hg5 (.cells #[.int .i64 an, .int .i64 bn, .int .i64 0, .int .i64 (-80), .int .i64 80] 44 (0, 0))
          obtain ⟨c0, c1, c2, c3, c4, c5⟩ := ROWS.out _ hc5
          have K1 := Lib.hid k1
          have K2 := Lib.hid k2
          have K3 := Lib.hid k3
          have K4 := Lib.hid k4
          have HA5 := Lib.hid hA5
          clear hb hb5 hm5 k1 k2 k3 k4 hA5 hc5
          unfold readV
          go_wp2_with fail
          clear c0 c1 c2 c3 c4 c5
          rw [← HA5.out]
          refine (with_any p _ _ [⟨an, bn, 0, -80, 80⟩] (by simp) (by simp) (by omega) (w5.heap.size + 1) 1 A5 (HPA.out.later K3.out) K2.out).mono ?_
          rintro e w6 ⟨⟨ao3, cap3, rfl, hpw⟩, hb6⟩
          unfold pairRow
          have HPW := Lib.hid hpw
          have HB6 := Lib.hid hb6
          clear hpw hb6
          go_wp2_with fail
          refine (HG1.out _ _ HPW.out).mono ?_
          rintro e w7 ⟨rfl, hb7⟩
          have hb57 := HB6.out.trans (hb7.mono HB6.out.size)
          have k1 := (hb57.block _ (lt_of_block K1.out)).trans K1.out
          have k4 := (hb57.block _ (lt_of_block K4.out)).trans K4.out
          have k3 := K3.out.trans (hb57.mono K3.out.size)
          have hg7 := k3.size
          obtain ⟨c0, c1, c2, c3, c4, c5⟩ := ROWS.out _ k3
          have r0 := cell_of_row _ _ 0 _ _ _ k1
          have r1 := cell_of_row _ _ 1 _ _ _ k1
          have r2 := cell_of_row _ _ 2 _ _ _ k1
          have r3 := cell_of_row _ _ 3 _ _ _ k1
          have r4 := cell_of_row _ _ 4 _ _ _ k1
          have M3 := Lib.hid k3
          have M4 := Lib.hid k4
          clear hb57 hb7 k1 k3 k4 HB6 HPW
          go_wp2_with fail
          clear c0 c1 c2 c3 c4 c5 r0 r1 r2 r3 r4
          refine (with_any p _ _ [⟨an, bn, 0, -80, 80⟩, ⟨an, bn, 0, -80, 80⟩] (by simp) (by simp) (by omega) w7.heap.size 2 _ (HPA.out.later (M3.out.alloc hg7 _)) (heap_alloc_at _ _ _ rfl)).mono ?_
          rintro e w8 ⟨⟨ao4, cap4, rfl, hpw⟩, hb8⟩
          unfold pairRow
          have HPW := Lib.hid hpw
          have HB8 := Lib.hid (((Below.refl _ _).alloc (Nat.le_refl _) _).trans (hb8.mono (by simp)))
          clear hpw hb8
          go_wp2_with fail
          refine (HG2.out _ _ HPW.out).mono ?_
          rintro e w9 ⟨rfl, hb9⟩
          have hb79 := HB8.out.trans (hb9.mono HB8.out.size)
          have k4 := (hb79.block _ (lt_of_block M4.out)).trans M4.out
          have k3 := M3.out.trans (hb79.mono hg7)
          have hlk := lookup_set _ _ (bn : Int) w9 k4
          rw [HJB.out] at hlk
          replace HB := Lib.hid (show BoxL [] W0 w9 from ⟨by simp, k3⟩)
          clear hb79 k3 k4 hb9 HB8 HPW
          have n1 : (mz - 1 == mz) = false := by rw [beq_eq_false_iff_ne]; omega
          have n2 : (mz == mz - 1) = false := by rw [beq_eq_false_iff_ne]; omega
          cases jb with
          | true =>
            obtain rfl : mz = oz := (HJ1.out rfl).symm
            go_wp2_with fail
            refine (alive_any _).mono ?_
            rintro e wz ⟨rfl, hb⟩
            replace HB := Lib.hid (HB.out.later hb)
            clear hb
            go_wp2
            go_ret
            exact ⟨rfl, HB0.out.trans (HB.out.2.mono (by omega))⟩
          | false =>
            obtain rfl : oz = mz - 1 := HJ2.out rfl
            go_wp2_with fail
            refine (alive_any _).mono ?_
            rintro e wz ⟨rfl, hb⟩
            replace HB := Lib.hid (HB.out.later hb)
            clear hb
            go_wp2
            go_ret
            exact ⟨rfl, HB0.out.trans (HB.out.2.mono (by omega))⟩
        have hwk : IntKind.i64.wrap ((k : Int) + 1) = ((k + 1 : Nat) : Int) := by rw [IntWalk.i64_in _ (by omega)]; omega
        go_wp2_with fail
        clear c0 c1 c2 c3 c4 c5
        obtain ⟨wo, rfl⟩ : ∃ wo, wo = wr := ⟨_, rfl⟩
        go_loopw [112] (fun i wr => ∃ j : Nat, j ≤ p.rs.length ∧ i = .int .i64 j ∧ wr.heap[wq.heap.size]? = some (setM ((p.rs.take j).foldl joinS (joinK p an k))) ∧ Below W0.heap.size W0 wr) (fun i _ => p.rs.length - (intOf i).toNat)
        case atStart => exact ⟨0, by omega, rfl, HMK.out, HBK.out⟩
        case round =>
          clear HMK HBK hgek
          obtain ⟨j, hj, rfl, hmj, hb⟩ := hrel
          have HMJ := Lib.hid hmj
          have HBJ := Lib.hid hb
          have hgej := hb.size
          have HPR := Lib.hid (HPA.out.later hb)
          clear hmj hb
          by_cases hlj : j < p.rs.length
          case neg =>
            have hjn : j = p.rs.length := by omega
            subst hjn
            have hnx : (p.rs.take p.rs.length).foldl joinS (joinK p an k) = joinK p an (k + 1) := by rw [List.take_length]; rfl
            have HNX := Lib.hid hnx
            clear hnx
            go_wp2
            exact ⟨⟨k + 1, by omega, by go_num, by rw [← HNX.out]; exact HMJ.out, HBJ.out⟩, by simp [intOf]; omega⟩
          have hwj : IntKind.i64.wrap ((j : Int) + 1) = ((j + 1 : Nat) : Int) := by rw [IntWalk.i64_in _ (by omega)]; omega
          have hnx : (p.rs.take (j + 1)).foldl joinS (joinK p an k) = joinS ((p.rs.take j).foldl joinS (joinK p an k)) p.rs[j] := by rw [List.take_succ_eq_append_getElem hlj, List.foldl_append]; rfl
          obtain ⟨ao', cap', e', _, _, hel⟩ := HPR.out.r
          cases e'
          obtain ⟨b, off, rfl, hbr, _, f1, f2, f3, f4, f5⟩ := hel j hlj
          generalize hrg : p.rs[j] = rd at *
          obtain ⟨ra, rb, rm, rlo, rhi⟩ := rd
          have HNX := Lib.hid hnx
          clear hel hrg hnx
          generalize (p.rs.take j).foldl joinS (joinK p an k) = L at *
          dsimp only at f1 f2 f3 f4 f5
          have hla : ∀ o, (Instr.lookup 59 (.map (some wq.heap.size)) (.int .i64 ra) false).run Try.prog (wr.alloc o) = .ok (.bool (decide (ra ∈ L))) (wr.alloc o) := fun o => lookup_set _ L ra _ ((Below.heap_alloc wr _ _ (lt_of_block HMJ.out)).trans HMJ.out)
          have hlb : ∀ o, (Instr.lookup 59 (.map (some wq.heap.size)) (.int .i64 rb) false).run Try.prog (wr.alloc o) = .ok (.bool (decide (rb ∈ L))) (wr.alloc o) := fun o => lookup_set _ L rb _ ((Below.heap_alloc wr _ _ (lt_of_block HMJ.out)).trans HMJ.out)
          by_cases hra : ra ∈ L
          · have hda : decide (ra ∈ L) = true := by simpa using hra
            have HJS : Hid (joinS L ⟨ra, rb, rm, rlo, rhi⟩ = addL (addL L ra) rb) := by show _ = _; unfold joinS; rw [if_pos (.inl hra)]
            rw [hda] at hla
            clear hlb hda hra
            go_wp2_with fail
            obtain ⟨A, hA⟩ : ∃ A, A = wr.alloc (.cells #[.int .i64 ra, .int .i64 rb, .int .i64 rm, .int .i64 rlo, .int .i64 rhi] 44) := ⟨_, rfl⟩
            have a0 : A.drew.heap[wr.heap.size]? = some (.cells #[.int .i64 ra, .int .i64 rb, .int .i64 rm, .int .i64 rlo, .int .i64 rhi] 44 (0, 0)) := by rw [hA]; exact heap_alloc_at wr _ _ rfl
            have a1 : A.drew.heap[wq.heap.size]? = some (setM L) := by rw [hA]; exact (Below.heap_alloc wr _ _ (lt_of_block HMJ.out)).trans HMJ.out
            have a2 : Below W0.heap.size W0 A.drew := by rw [hA]; exact (HBJ.out.alloc hgej _).drew
            rw [← hA]
            have hne : wr.heap.size ≠ wq.heap.size := by have := lt_of_block HMJ.out; omega
            have u1 := update_any wq.heap.size L ra A.drew a1
            obtain ⟨W1, hW1⟩ : ∃ W1, W1 = A.drew.putObj wq.heap.size (setM (addL L ra)) := ⟨_, rfl⟩
            have b0 : W1.heap[wr.heap.size]? = some (.cells #[.int .i64 ra, .int .i64 rb, .int .i64 rm, .int .i64 rlo, .int .i64 rhi] 44 (0, 0)) := by rw [hW1, World.putObj_heap_other hne]; exact a0
            have b1 : W1.heap[wq.heap.size]? = some (setM (addL L ra)) := by rw [hW1]; exact World.putObj_heap_same (lt_of_block a1)
            have b2 : Below W0.heap.size W0 W1 := by rw [hW1]; exact a2.trans ((Keeps.putObj (Mut := fun k => k = wq.heap.size) _ _ _ rfl).below a2.size (fun k h e => by omega))
            rw [← hW1] at u1
            have u2 := update_any wq.heap.size (addL L ra) rb W1 b1
            obtain ⟨W2, hW2⟩ : ∃ W2, W2 = W1.putObj wq.heap.size (setM (addL (addL L ra) rb)) := ⟨_, rfl⟩
            have d1 : W2.heap[wq.heap.size]? = some (setM (addL (addL L ra) rb)) := by rw [hW2]; exact World.putObj_heap_same (lt_of_block b1)
            have d2 : Below W0.heap.size W0 W2 := by rw [hW2]; exact b2.trans ((Keeps.putObj (Mut := fun k => k = wq.heap.size) _ _ _ rfl).below b2.size (fun k h e => by omega))
            rw [← hW2] at u2
            have x0 := cell_of_row _ _ 0 _ _ _ a0
            have x1 := cell_of_row _ _ 1 _ _ _ a0
            have y0 := cell_of_row _ _ 0 _ _ _ b0
            have y1 := cell_of_row _ _ 1 _ _ _ b0
            have D1 := Lib.hid d1
            have D2 := Lib.hid d2
            clear hA hla hW1 hW2 a0 a1 a2 b0 b1 b2 d1 d2
            first | (go_region) | fail
            all_goals
              go_wp2
              exact ⟨⟨j + 1, by omega, by go_num, by rw [HNX.out, HJS.out]; exact D1.out, D2.out⟩, by simp [intOf]; omega⟩
          by_cases hrb : rb ∈ L
          · have hda : decide (ra ∈ L) = false := by simpa using hra
            have hdb : decide (rb ∈ L) = true := by simpa using hrb
            have HJS : Hid (joinS L ⟨ra, rb, rm, rlo, rhi⟩ = addL (addL L ra) rb) := by show _ = _; unfold joinS; rw [if_pos (.inr hrb)]
            rw [hda] at hla
            rw [hdb] at hlb
            clear hda hdb hra hrb
            go_wp2_with fail
            obtain ⟨A, hA⟩ : ∃ A, A = wr.alloc (.cells #[.int .i64 ra, .int .i64 rb, .int .i64 rm, .int .i64 rlo, .int .i64 rhi] 44) := ⟨_, rfl⟩
            have a0 : A.drew.heap[wr.heap.size]? = some (.cells #[.int .i64 ra, .int .i64 rb, .int .i64 rm, .int .i64 rlo, .int .i64 rhi] 44 (0, 0)) := by rw [hA]; exact heap_alloc_at wr _ _ rfl
            have a1 : A.drew.heap[wq.heap.size]? = some (setM L) := by rw [hA]; exact (Below.heap_alloc wr _ _ (lt_of_block HMJ.out)).trans HMJ.out
            have a2 : Below W0.heap.size W0 A.drew := by rw [hA]; exact (HBJ.out.alloc hgej _).drew
            rw [← hA]
            have hne : wr.heap.size ≠ wq.heap.size := by have := lt_of_block HMJ.out; omega
            have u1 := update_any wq.heap.size L ra A.drew a1
            obtain ⟨W1, hW1⟩ : ∃ W1, W1 = A.drew.putObj wq.heap.size (setM (addL L ra)) := ⟨_, rfl⟩
            have b0 : W1.heap[wr.heap.size]? = some (.cells #[.int .i64 ra, .int .i64 rb, .int .i64 rm, .int .i64 rlo, .int .i64 rhi] 44 (0, 0)) := by rw [hW1, World.putObj_heap_other hne]; exact a0
            have b1 : W1.heap[wq.heap.size]? = some (setM (addL L ra)) := by rw [hW1]; exact World.putObj_heap_same (lt_of_block a1)
            have b2 : Below W0.heap.size W0 W1 := by rw [hW1]; exact a2.trans ((Keeps.putObj (Mut := fun k => k = wq.heap.size) _ _ _ rfl).below a2.size (fun k h e => by omega))
            rw [← hW1] at u1
            have u2 := update_any wq.heap.size (addL L ra) rb W1 b1
            obtain ⟨W2, hW2⟩ : ∃ W2, W2 = W1.putObj wq.heap.size (setM (addL (addL L ra) rb)) := ⟨_, rfl⟩
            have d1 : W2.heap[wq.heap.size]? = some (setM (addL (addL L ra) rb)) := by rw [hW2]; exact World.putObj_heap_same (lt_of_block b1)
            have d2 : Below W0.heap.size W0 W2 := by rw [hW2]; exact b2.trans ((Keeps.putObj (Mut := fun k => k = wq.heap.size) _ _ _ rfl).below b2.size (fun k h e => by omega))
            rw [← hW2] at u2
            have x0 := cell_of_row _ _ 0 _ _ _ a0
            have x1 := cell_of_row _ _ 1 _ _ _ a0
            have y0 := cell_of_row _ _ 0 _ _ _ b0
            have y1 := cell_of_row _ _ 1 _ _ _ b0
            have D1 := Lib.hid d1
            have D2 := Lib.hid d2
            clear hA hla hW1 hW2 a0 a1 a2 b0 b1 b2 d1 d2
            first | (go_region) | fail
            all_goals
              go_wp2
              exact ⟨⟨j + 1, by omega, by go_num, by rw [HNX.out, HJS.out]; exact D1.out, D2.out⟩, by simp [intOf]; omega⟩
          have hda : decide (ra ∈ L) = false := by simpa using hra
          have hdb : decide (rb ∈ L) = false := by simpa using hrb
          have HJS : Hid (joinS L ⟨ra, rb, rm, rlo, rhi⟩ = L) := by show _ = _; unfold joinS; rw [if_neg (by rintro (h | h); exact hra h; exact hrb h)]
          rw [hda] at hla
          rw [hdb] at hlb
          clear hda hdb hra hrb
          go_wp2
          exact ⟨⟨j + 1, by omega, by go_num, by rw [HNX.out, HJS.out]; exact (Below.heap_alloc wr _ _ (lt_of_block HMJ.out)).trans HMJ.out, HBJ.out.alloc hgej _⟩, by simp [intOf]; omega⟩

end Go.Proofs.Ytlgeggekmdoceaa

/- PairGroups: whatever the pair and the two numbers: the law returns true. No conditions. -/
namespace Go.Proofs.Ytlgeggekmdoceaa
set_option linter.unusedVariables false
set_option linter.unusedSimpArgs false
open Go.ChangeShapes Go.WideShapes Go.ChangeAt Go.RowKit

set_option maxRecDepth 100000 in
theorem pairGroups_lifted (os : Os) (started : os.Started) (H : Type) (enc : TypeId × Value → H) :
    ReturnsInHanded {} Try.checked os 10 .any (Rows.pairGroupsSpec.pre6 enc Try.prog Try.f10 Rows.pairGroupsRow.domain false) (Rows.pairGroupsSpec.post enc Try.prog Try.f10 false true false false) := by
  refine returnsInHanded_of_change (C := Try.checked) own_knob started (by kernel_rfl) Try.func10
    (ChangeSpec.witness6 (enc := enc) (C := Try.checked) false ⟨#[], #[.agg #[.slice none 0 0, .int .i64 0, .int .i64 0, .int .i64 0, .int .i64 0, .slice none 0 0], .int .u8 0, .int .u8 0], []⟩ 8 (by kernel_rfl) (by kernel_rfl) (by kernel_rfl) (by kernel_rfl)) ?_
  intro W base args ds gs before hval0 hW hcnd _
  have hval : ∀ (j : Nat) t v, Try.f10.params[j]? = some t → args[j]? = some v → Value.okWide Try.prog W .any base t v := hval0
  have hW' := hW
  obtain ⟨p, q, hA0, hV, rfl, hfz, hnd⟩ := hW
  have hA : DataW.TrodAll enc Try.prog W 0 (fun _ => true) true Try.f10.params.toList args.toList ds p := hA0
  rw [Try.params10] at hA hval
  obtain ⟨rfl, rfl⟩ := trodVars_none hV
  clear hA0 hval0
  simp only [List.append_nil] at hW'
  have hst := hA
  obtain ⟨v0, v1, v2, d0, d1, d2, p0, p1, p2, rfl, rfl, rfl, h0, h1, h2⟩ := trodAll_three hA
  obtain ⟨pd, bs, rs, rfl, hpa⟩ := open_pair (hval 0 _ _ rfl rfl) h0
  obtain ⟨x, rfl, _, _, hx⟩ := Go.ChangeShapes.open_int under_u8 (hval 1 _ _ rfl rfl) h1
  obtain ⟨y, rfl, _, _, hy⟩ := Go.ChangeShapes.open_int under_u8 (hval 2 _ _ rfl rfl) h2
  refine (groupsl_any pd bs rs x y (u8_range hx) (u8_range hy) W hpa).mono fun e W' ⟨he, hb⟩ => ?_
  subst he
  exact ⟨_, rfl, lawEnd hW' rfl hst rfl (by decide +kernel) rfl rfl hb⟩
theorem pairGroups_over : Rows.pairGroupsRow.holds Try.pinned (OpenSpec.ofChange Rows.pairGroupsSpec) :=
  OpenClaim.holds_of_wide 10 Try.f10 rfl rfl rfl rfl rfl rfl rfl ⟨rfl, rfl, rfl, rfl, rfl⟩ rfl rfl rfl rfl rfl (by kernel_rfl) Try.func10 (by kernel_rfl)
    (of_decide_eq_true (by kernel_rfl)) (by unfold Func.isWrapper; first | (rw [if_pos (by decide +kernel)]; kernel_rfl) | (rw [if_neg (by decide +kernel)]; exact ⟨rfl, rfl⟩))
    (fun os started H enc _ => pairGroups_lifted os started H enc)
/-- The statement. -/
theorem pair_groups : Rows.PairGroupsSaid := pairGroups_over

end Go.Proofs.Ytlgeggekmdoceaa
