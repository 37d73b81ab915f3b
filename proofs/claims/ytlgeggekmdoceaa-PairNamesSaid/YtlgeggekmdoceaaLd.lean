/- How many groups there are: by labels that are passed on (plain). -/
import Derived.Test.YtlgeggekmdoceaaLc
namespace Go.Proofs.Ytlgeggekmdoceaa
set_option linter.unusedVariables false
set_option linter.unusedSimpArgs false

def labA (l : List Int) (i : Int) : Int := l.getD i.toNat 0
def relaxR (l : List Int) (r : RdD) : List Int := (l.set r.a.toNat (min (labA l r.a) (labA l r.b))).set r.b.toNat (min (labA l r.a) (labA l r.b))
def sweep (p : PairD) (l : List Int) : List Int := p.rs.foldl relaxR l
def labelsK (p : PairD) : Nat → List Int
  | 0 => (List.range p.bs.length).map fun i : Nat => (i : Int)
  | k + 1 => sweep p (labelsK p k)
def ownL (p : PairD) (i : Nat) : Bool := labA (labelsK p p.bs.length) i == (i : Int)
def groupsV (p : PairD) : Int × Int := if validB p = false then (0, 1) else ((((List.range p.bs.length).filter (ownL p)).length : Nat), 0)

theorem labA_set (l : List Int) (j : Nat) (v : Int) (i : Int) (hj : j < l.length) (hi : 0 ≤ i) : labA (l.set j v) i = if i = (j : Int) then v else labA l i := by
  unfold labA
  rw [List.getD_eq_getElem?_getD, List.getElem?_set]
  by_cases h : j = i.toNat
  · rw [if_pos h, if_pos hj, if_pos (by omega)]; rfl
  · rw [if_neg h, if_neg (by omega), List.getD_eq_getElem?_getD]
theorem relax_length (l : List Int) (r : RdD) : (relaxR l r).length = l.length := by simp [relaxR]
theorem relax_at (l : List Int) (r : RdD) (i : Int) (ha : 0 ≤ r.a ∧ r.a < l.length) (hb : 0 ≤ r.b ∧ r.b < l.length) (hi : 0 ≤ i) : labA (relaxR l r) i = if i = r.a ∨ i = r.b then min (labA l r.a) (labA l r.b) else labA l i := by
  unfold relaxR
  rw [labA_set _ _ _ _ (by rw [List.length_set]; omega) hi, labA_set _ _ _ _ (by omega) hi]
  by_cases h1 : i = r.b
  · rw [if_pos (by omega), if_pos (.inr h1)]
  · rw [if_neg (by omega)]
    by_cases h2 : i = r.a
    · rw [if_pos (by omega), if_pos (.inl h2)]
    · rw [if_neg (by omega), if_neg (by omega)]
/-- What holds of labels at all times. -/
structure LabOk (p : PairD) (l : List Int) : Prop where
  len : l.length = p.bs.length
  lo : ∀ i : Int, 0 ≤ i → i < p.bs.length → 0 ≤ labA l i ∧ labA l i ≤ i
  conn : ∀ i : Int, 0 ≤ i → i < p.bs.length → Conn p (labA l i) i
theorem LabOk.relax {p : PairD} {l : List Int} (h : LabOk p l) {r : RdD} (hr : r ∈ p.rs) (hp : OkP p) : LabOk p (relaxR l r) := by
  have hb := hp.rs r hr
  have hl := h.len
  have key := fun i hi => relax_at l r i ⟨hb.1, by rw [hl]; exact hb.2.1⟩ ⟨hb.2.2.1, by rw [hl]; exact hb.2.2.2.1⟩ hi
  have hadj : Adj p r.a r.b := ⟨r, hr, .inl ⟨rfl, rfl⟩⟩
  have la := h.lo r.a hb.1 hb.2.1
  have lb := h.lo r.b hb.2.2.1 hb.2.2.2.1
  have ca := h.conn r.a hb.1 hb.2.1
  have cb := h.conn r.b hb.2.2.1 hb.2.2.2.1
  have hmin : min (labA l r.a) (labA l r.b) = labA l r.a ∨ min (labA l r.a) (labA l r.b) = labA l r.b := by omega
  refine ⟨by rw [relax_length, hl], fun i h0 h1 => ?_, fun i h0 h1 => ?_⟩
  · rw [key i h0]
    split
    · rename_i e
      rcases e with rfl | rfl <;> omega
    · exact h.lo i h0 h1
  · rw [key i h0]
    split
    · rename_i e
      have cab : Conn p (min (labA l r.a) (labA l r.b)) r.a := by
        rcases hmin with e1 | e1 <;> rw [e1]
        · exact ca
        · exact .step cb hadj.symm
      rcases e with rfl | rfl
      · exact cab
      · exact .step cab hadj
    · exact h.conn i h0 h1
theorem fold_ok {p : PairD} (hp : OkP p) : ∀ (rs : List RdD) (l : List Int), (∀ r ∈ rs, r ∈ p.rs) → LabOk p l → LabOk p (rs.foldl relaxR l) ∧ (∀ i : Int, 0 ≤ i → i < p.bs.length → labA (rs.foldl relaxR l) i ≤ labA l i) ∧
    ∀ r ∈ rs, labA (rs.foldl relaxR l) r.a ≤ labA l r.b ∧ labA (rs.foldl relaxR l) r.b ≤ labA l r.a
  | [], l, _, h => ⟨h, fun _ _ _ => Int.le_refl _, fun r hr => by cases hr⟩
  | r :: rs, l, hr, h => by
    have hrm := hr r List.mem_cons_self
    have hb := hp.rs r hrm
    have hl := h.len
    have key := fun i hi => relax_at l r i ⟨hb.1, by rw [hl]; exact hb.2.1⟩ ⟨hb.2.2.1, by rw [hl]; exact hb.2.2.2.1⟩ hi
    obtain ⟨h1, h2, h3⟩ := fold_ok hp rs (relaxR l r) (fun r' hr' => hr r' (List.mem_cons_of_mem _ hr')) (h.relax hrm hp)
    have hle : ∀ i : Int, 0 ≤ i → i < p.bs.length → labA (relaxR l r) i ≤ labA l i := fun i h0 h1 => by
      rw [key i h0]
      split
      · rename_i e
        rcases e with rfl | rfl <;> omega
      · omega
    rw [List.foldl_cons]
    refine ⟨h1, fun i h0 hi => Int.le_trans (h2 i h0 hi) (hle i h0 hi), fun r' hr' => ?_⟩
    rcases List.mem_cons.1 hr' with rfl | hr'
    · have a1 := h2 r'.a hb.1 hb.2.1
      have a2 := h2 r'.b hb.2.2.1 hb.2.2.2.1
      have a3 := key r'.a hb.1
      have a4 := key r'.b hb.2.2.1
      rw [if_pos (.inl rfl)] at a3
      rw [if_pos (.inr rfl)] at a4
      omega
    · have hb' := hp.rs r' (hr r' (List.mem_cons_of_mem _ hr'))
      have a1 := h3 r' hr'
      have a2 := hle r'.a hb'.1 hb'.2.1
      have a3 := hle r'.b hb'.2.2.1 hb'.2.2.2.1
      omega
theorem labels_ok {p : PairD} (hp : OkP p) : ∀ k, LabOk p (labelsK p k)
  | 0 => by
    have key : ∀ i : Int, 0 ≤ i → i < p.bs.length → labA (labelsK p 0) i = i := fun i h0 h1 => by
      have : i.toNat < p.bs.length := by omega
      simp [labA, labelsK, List.getD_eq_getElem?_getD, this]
      omega
    exact ⟨by simp [labelsK], fun i h0 h1 => by rw [key i h0 h1]; omega, fun i h0 h1 => by rw [key i h0 h1]; exact .refl _⟩
  | k + 1 => (fold_ok hp p.rs _ (fun _ h => h) (labels_ok hp k)).1
theorem conn_range {p : PairD} (hp : OkP p) {x y : Int} (h : Conn p x y) (hx : 0 ≤ x ∧ x < p.bs.length) : 0 ≤ y ∧ y < p.bs.length := by
  refine h.closed (S := fun y => 0 ≤ y ∧ y < p.bs.length) hx fun u v _ ha => ?_
  obtain ⟨r, hr, ⟨_, rfl⟩ | ⟨_, rfl⟩⟩ := ha
  · have := hp.rs r hr; omega
  · have := hp.rs r hr; omega
/-- The least block's label has come to all that hang together with it, or to one more at least each time. -/
theorem spread {p : PairD} (hp : OkP p) (m : Nat) (hm : m < p.bs.length) (hmin : IsMin p m) : ∀ k, (∀ y, Conn p m y → labA (labelsK p k) y = m) ∨
    ∃ L : List Int, L.Nodup ∧ (∀ y ∈ L, Conn p m y ∧ labA (labelsK p k) y = m) ∧ L.length = k + 1 := by
  have hge : ∀ k y, Conn p m y → (m : Int) ≤ labA (labelsK p k) y := by
    intro k y hy
    have hr := conn_range hp hy ⟨by omega, by omega⟩
    have h1 := (labels_ok hp k).lo y hr.1 hr.2
    have h2 := (labels_ok hp k).conn y hr.1 hr.2
    rcases Int.lt_or_le (labA (labelsK p k) y) m with h | h
    · exfalso
      have hc : Conn p (labA (labelsK p k) y) m := h2.trans hy.symm
      obtain ⟨j, hj⟩ := Int.eq_ofNat_of_zero_le h1.1
      rw [hj] at hc h
      exact hmin j (by omega) hc
    · exact h
  intro k
  induction k with
  | zero =>
    refine .inr ⟨[(m : Int)], by simp, fun y hy => ?_, rfl⟩
    rw [List.mem_singleton.1 hy]
    refine ⟨.refl _, ?_⟩
    have h1 := (labels_ok hp 0).lo m (by omega) (by omega)
    have h2 := hge 0 m (.refl _)
    omega
  | succ k ih =>
    have hf := fold_ok hp p.rs _ (fun _ h => h) (labels_ok hp k)
    have hkeep : ∀ y, Conn p m y → labA (labelsK p k) y = m → labA (labelsK p (k + 1)) y = m := by
      intro y hy h
      have hr := conn_range hp hy ⟨by omega, by omega⟩
      have h1 := hf.2.1 y hr.1 hr.2
      have h2 := hge (k + 1) y hy
      have h3 : labA (labelsK p (k + 1)) y ≤ labA (labelsK p k) y := h1
      omega
    rcases ih with ih | ⟨L, h1, h2, h3⟩
    · exact .inl fun y hy => hkeep y hy (ih y hy)
    · by_cases hall : ∀ y, Conn p m y → labA (labelsK p (k + 1)) y = m
      · exact .inl hall
      · refine .inr ?_
        have hno : ¬ ∀ y, Conn p m y → labA (labelsK p k) y = m := fun h => hall fun y hy => hkeep y hy (h y hy)
        have hm0 : labA (labelsK p k) m = m := by
          have h1 := (labels_ok hp k).lo m (by omega) (by omega)
          have h2 := hge k m (.refl _)
          omega
        have hedge : ∃ u v, Conn p m u ∧ labA (labelsK p k) u = m ∧ Adj p u v ∧ labA (labelsK p k) v ≠ m := by
          refine Classical.byContradiction fun hcon => hno fun y hy => ?_
          have := hy.closed (S := fun y => Conn p m y ∧ labA (labelsK p k) y = m) ⟨.refl _, hm0⟩ fun u v hu ha => ⟨.step hu.1 ha, Classical.byContradiction fun hv => hcon ⟨u, v, hu.1, hu.2, ha, hv⟩⟩
          exact this.2
        obtain ⟨u, v, hu, hlu, hadj, hv⟩ := hedge
        have hcv : Conn p m v := .step hu hadj
        have hlv : labA (labelsK p (k + 1)) v = m := by
          have h2 := hge (k + 1) v hcv
          have h1 : labA (labelsK p (k + 1)) v ≤ labA (labelsK p k) u := by
            obtain ⟨r, hr, ⟨rfl, rfl⟩ | ⟨rfl, rfl⟩⟩ := hadj
            · exact (hf.2.2 r hr).2
            · exact (hf.2.2 r hr).1
          omega
        refine ⟨v :: L, List.nodup_cons.2 ⟨fun hvL => hv (h2 v hvL).2, h1⟩, fun y hy => ?_, by simp [h3]⟩
        rcases List.mem_cons.1 hy with rfl | hy
        · exact ⟨hcv, hlv⟩
        · exact ⟨(h2 y hy).1, hkeep y (h2 y hy).1 (h2 y hy).2⟩
theorem label_min {p : PairD} (hp : OkP p) (m : Nat) (hm : m < p.bs.length) (hmin : IsMin p m) (y : Int) (hy : Conn p m y) : labA (labelsK p p.bs.length) y = m := by
  rcases spread hp m hm hmin p.bs.length with h | ⟨L, h1, h2, h3⟩
  · exact h y hy
  · have := nodup_len p.bs.length L h1 (fun y hy => conn_range hp (h2 y hy).1 ⟨by omega, by omega⟩)
    omega
theorem has_min {p : PairD} : ∀ i : Nat, ∃ m : Nat, m ≤ i ∧ IsMin p m ∧ Conn p m i := by
  intro i
  induction i using Nat.strongRecOn with
  | ind i ih =>
    by_cases h : IsMin p i
    · exact ⟨i, Nat.le_refl _, h, .refl _⟩
    · unfold IsMin at h
      have : ∃ k : Nat, k < i ∧ Conn p k i := Classical.byContradiction fun hc => h fun k hk hck => hc ⟨k, hk, hck⟩
      obtain ⟨k, hk, hc⟩ := this
      obtain ⟨m, h1, h2, h3⟩ := ih k hk
      exact ⟨m, by omega, h2, h3.trans hc⟩
theorem ownL_iff {p : PairD} (hp : OkP p) (i : Nat) (hi : i < p.bs.length) : ownL p i = true ↔ IsMin p i := by
  obtain ⟨m, h1, h2, h3⟩ := has_min (p := p) i
  have hl := label_min hp m (by omega) h2 i h3
  unfold ownL
  rw [hl, beq_iff_eq]
  constructor
  · intro h
    have : m = i := by omega
    subst this
    exact h2
  · intro h
    rcases Nat.lt_or_ge m i with hlt | hge
    · exact absurd h3 (h m hlt)
    · have : m = i := by omega
      rw [this]
theorem groups_eq (p : PairD) (n er : Int) (h : GroupsRes p n er) : (n, er) = groupsV p := by
  unfold groupsV
  rcases h with ⟨hv, rfl, rfl⟩ | ⟨hv, rfl, f, hf, rfl⟩
  · rw [if_pos hv]
  · have hp := OkP.of p hv
    rw [if_neg (by simp [hv])]
    have : (List.range p.bs.length).filter f = (List.range p.bs.length).filter (ownL p) := by
      apply List.filter_congr
      intro i hi
      rw [List.mem_range] at hi
      rw [Bool.eq_iff_iff, hf i hi, ownL_iff hp i hi]
    rw [this]

end Go.Proofs.Ytlgeggekmdoceaa
