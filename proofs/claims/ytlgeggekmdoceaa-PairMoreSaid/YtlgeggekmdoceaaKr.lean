/- Texts It, Pb, Pf, Pg, Pi in one file; each begins with a word on what it proves. -/
import Derived.StillTail
import Derived.OrdersHeld
import Derived.Deep.RegionHeld
import Derived.Test.YtlgeggekmdoceaaKk

/- A drawn region of which the last operations come behind all others, in order: the others in whatever order, with a condition held; then the last ones. Of any program. -/
namespace Go.Proofs.Ytlgeggekmdoceaa
set_option linter.unusedVariables false
set_option linter.unusedSimpArgs false
section
variable {P : Program} {md : Region.Mode} {ops : Array Oper} {Q Q' : Exit → Act → World → Prop}

theorem upon_monoQ {o : Oper} {a : Act} {K K' : Act → World → Prop} (hK : ∀ a w, K a w → K' a w) (hQ : ∀ e a w, e ≠ Exit.normal → Q e a w → Q' e a w) :
    ∀ r, o.upon P a K Q r → o.upon P a K' Q' r := by
  have hl : LetsOut Q → LetsOut Q' := fun ⟨a, w, h⟩ => ⟨a, w, hQ _ _ _ (by simp) h⟩
  intro r h
  cases r with
  | ok n w' =>
    cases n <;> simp only [Oper.upon] at h ⊢ <;>
      first
        | exact hK _ _ h
        | exact Calls.mono h (fun e w'' he => by cases e <;> first | exact hK _ _ he | exact hQ _ _ _ (by simp) he | exact hl he)
        | exact Rows.mono h (fun _ _ he => hK _ _ he)
  | halt x w' => cases x <;> simp only [Oper.upon] at h ⊢ <;> first | exact hQ _ _ _ (by simp) h | exact h

theorem wpOp_monoQ {i : Nat} {a : Act} {w : World} {K K' : Act → World → Prop} (hK : ∀ a w, K a w → K' a w) (hQ : ∀ e a w, e ≠ Exit.normal → Q e a w → Q' e a w)
    (h : wpOp P ops Q i K a w) : wpOp P ops Q' i K' a w := by
  unfold wpOp at *
  split
  · exact hK _ _ (by simpa [*] using h)
  · rename_i o ho
    simp only [ho] at h
    split
    · rename_i hw
      simp only [hw, if_true] at h
      rcases h with h | ⟨h1, a', w', h2⟩
      · exact .inl (upon_monoQ hK hQ _ h)
      · exact .inr ⟨h1, a', w', hQ _ _ _ (by simp) h2⟩
    · rename_i hw; simp only [hw] at h; exact hK _ _ h

theorem wpAny_fuel1 : ∀ (f : Nat) (listed : Array Bool) (a : Act) (w : World), wpAny P md ops Q f listed a w → wpAny P md ops Q (f + 1) listed a w
  | 0, _, _, _, h => ⟨fun _ => h.2, by rw [h.1]; simp⟩
  | f + 1, _, _, _, h => ⟨h.1, fun i hi => wpOp_mono (fun a' w' h' => wpAny_fuel1 f _ a' w' h') (h.2 i hi)⟩
theorem wpAny_fuel (g : Nat) : ∀ (f : Nat) (listed : Array Bool) (a : Act) (w : World), wpAny P md ops Q g listed a w → wpAny P md ops Q (f + g) listed a w
  | 0, _, _, _, h => by rw [Nat.zero_add]; exact h
  | f + 1, _, _, _, h => by rw [show f + 1 + g = (f + g) + 1 by omega]; exact wpAny_fuel1 _ _ _ _ (wpAny_fuel g f _ _ _ h)

/-- The operations ahead of n wait for such alone as come ahead of them. -/
def backB (md : Region.Mode) (ops : Array Oper) (n : Nat) : Bool :=
  (List.range n).all fun i => match ops[i]? with
    | some o => o.after.all fun e => !Region.binds md e || decide (e.on < i)
    | none => false
theorem backB_spec {n i : Nat} {o : Oper} (h : backB md ops n = true) (hi : i < n) (ho : ops[i]? = some o) : ∀ e ∈ o.after, Region.binds md e = true → e.on < i := by
  have h1 := List.all_eq_true.1 h i (List.mem_range.2 hi)
  simp only [ho] at h1
  intro e he hb
  have h2 := Array.all_eq_true'.1 h1 e he
  rw [hb] at h2
  simpa using h2
theorem backB_some {n i : Nat} (h : backB md ops n = true) (hi : i < n) : ∃ o, ops[i]? = some o := by
  have h1 := List.all_eq_true.1 h i (List.mem_range.2 hi)
  cases h2 : ops[i]? with
  | none => rw [h2] at h1; cases h1
  | some o => exact ⟨o, rfl⟩

/-- The first n as they are, all others as if they had come up. -/
def TailRel (n : Nat) (listed listed' : Array Bool) : Prop := listed'.size = listed.size ∧ (∀ i, i < n → listed'[i]? = listed[i]?) ∧ ∀ t, n ≤ t → listed'.getD t true = true
theorem getD_of_get {l l' : Array Bool} {i : Nat} (h : l'[i]? = l[i]?) (d : Bool) : l'.getD i d = l.getD i d := by
  rw [Array.getD_eq_getD_getElem?, Array.getD_eq_getD_getElem?, h]
theorem TailRel.ready {n : Nat} {listed listed' : Array Bool} (hr : TailRel n listed listed') (hb : backB md ops n = true) (j : Nat) : j ∈ Region.ready md ops listed' ↔ (j < n ∧ j ∈ Region.ready md ops listed) := by
  rw [mem_ready, mem_ready]
  constructor
  · rintro ⟨h1, o, h2, h3⟩
    have hj : j < n := by
      rcases Nat.lt_or_ge j n with h | h
      · exact h
      · rw [hr.2.2 j h] at h1; cases h1
    refine ⟨hj, by rw [← getD_of_get (hr.2.1 j hj)]; exact h1, o, h2, fun e he hbi => ?_⟩
    have := backB_spec hb hj h2 e he hbi
    rw [← getD_of_get (hr.2.1 e.on (by omega))]
    exact h3 e he hbi
  · rintro ⟨hj, h1, o, h2, h3⟩
    refine ⟨by rw [getD_of_get (hr.2.1 j hj)]; exact h1, o, h2, fun e he hbi => ?_⟩
    have := backB_spec hb hj h2 e he hbi
    rw [getD_of_get (hr.2.1 e.on (by omega))]
    exact h3 e he hbi
theorem TailRel.set {n i : Nat} {listed listed' : Array Bool} (hr : TailRel n listed listed') : TailRel n (listed.setIfInBounds i true) (listed'.setIfInBounds i true) := by
  refine ⟨by simp [hr.1], fun j hj => ?_, fun t ht => ?_⟩
  · rw [Array.getElem?_setIfInBounds, Array.getElem?_setIfInBounds, hr.1, hr.2.1 j hj]
  · by_cases h : i = t
    · subst h
      rw [Array.getD_eq_getD_getElem?, Array.getElem?_setIfInBounds]
      rw [if_pos rfl]
      split <;> rfl
    · rw [getD_set_ne true h]; exact hr.2.2 t ht
/-- None may come up: all ahead of n have. -/
theorem all_listed {n : Nat} {listed : Array Bool} (hb : backB md ops n = true) (hsz : listed.size = ops.size) (h : ∀ j, j < n → j ∉ Region.ready md ops listed) : ∀ i, i < n → listed.getD i true = true := by
  intro i
  induction i using Nat.strongRecOn with
  | _ i ih =>
    intro hi
    cases hl : listed.getD i true with
    | true => rfl
    | false =>
      obtain ⟨o, ho⟩ := backB_some hb hi
      refine (h i hi (mem_ready.2 ⟨hl, o, ho, fun e he hbi => ?_⟩)).elim
      have h1 := backB_spec hb hi ho e he hbi
      have h2 := ih e.on h1 (by omega)
      cases h3 : listed.getD e.on false with
      | true => rfl
      | false =>
        have hlt : e.on < listed.size := by rw [hsz]; have := (Array.getElem?_eq_some_iff.1 ho).1; omega
        rw [getD_in hlt h3] at h2
        cases h2

/-- What must be so of a region's shape. -/
def tailB (l : List Oper) (n : Nat) : Bool :=
  decide (n < l.length) && Region.sinkB .any l.toArray n && Region.chainB .any l.toArray n && backB .any l.toArray n && Region.seqB .any l.toArray (l.drop n).length n (Array.replicate n true ++ Array.replicate (l.length - n) false)
/-- All that comes behind the first n: they are carried out in order. -/
def TailQ (P : Program) (l : List Oper) (n : Nat) (Q : Exit → Act → World → Prop) : Exit → Act → World → Prop
  | .normal, a, w => wpList P l.toArray Q (l.drop n) a w
  | e, a, w => Q e a w
theorem wpAny_of_tail {l : List Oper} {n : Nat} {S : World → Prop} (hB : tailB l n = true) :
    ∀ (f : Nat) (listed listed' : Array Bool) (a : Act) (w : World), HeadInv .any l.toArray n listed → TailRel n listed listed' →
      wpAnyH P .any l.toArray (TailQ P l n Q) S f listed' a w → wpAny P .any l.toArray Q (f + (l.drop n).length) listed a w := by
  unfold tailB at hB
  simp only [Bool.and_eq_true, decide_eq_true_eq] at hB
  obtain ⟨⟨⟨⟨hn, hs⟩, hc⟩, hb⟩, hq⟩ := hB
  have hend : ∀ (f : Nat) (listed listed' : Array Bool) (a : Act) (w : World), HeadInv .any l.toArray n listed → TailRel n listed listed' → Region.ready .any l.toArray listed' = [] → TailQ P l n Q .normal a w → wpAny P .any l.toArray Q (f + (l.drop n).length) listed a w := by
    intro f listed listed' a w inv hr h0 h
    have h1 : ∀ i, i < n → listed.getD i true = true := all_listed hb inv.size (fun j hj hm => by
      have := (hr.ready hb j).2 ⟨hj, hm⟩
      rw [h0] at this; cases this)
    have h2 : listed = Array.replicate n true ++ Array.replicate (l.length - n) false := by
      apply Array.ext
      · rw [inv.size]; simp; omega
      · intro i hi1 hi2
        have hi3 : i < l.length := by have := inv.size; simp at this; omega
        rcases Nat.lt_or_ge i n with h | h
        · have := h1 i h
          rw [Array.getD_eq_getD_getElem?, Array.getElem?_eq_getElem hi1, Option.getD_some] at this
          rw [this, Array.getElem_append_left (by simpa using h)]
          simp
        · have := inv.tail i h (by simpa using hi3)
          rw [Array.getD_eq_getD_getElem?, Array.getElem?_eq_getElem hi1, Option.getD_some] at this
          rw [this, Array.getElem_append_right (by simpa using h)]
          simp
    rw [h2]
    refine wpAny_fuel _ f _ a w (wpAny_of_seq (md := .any) (l.drop n) n _ a w (fun j => by simp [List.getElem?_drop]) hq h)
  intro f
  induction f with
  | zero => intro listed listed' a w inv hr h; exact hend 0 listed listed' a w inv hr h.1 h.2
  | succ f ih =>
    intro listed listed' a w inv hr h
    cases h0 : Region.ready .any l.toArray listed' with
    | nil => exact hend (f + 1) listed listed' a w inv hr h0 (h.1 h0)
    | cons i0 rs =>
      have hi0 : i0 ∈ Region.ready .any l.toArray listed' := by rw [h0]; simp
      obtain ⟨hi1, hi2⟩ := (hr.ready hb i0).1 hi0
      have hw := tail_waits hs hc (by simpa using hn) inv _ i0 rfl hi1 (mem_ready.1 hi2).1
      rw [show f + 1 + (l.drop n).length = (f + (l.drop n).length) + 1 by omega]
      refine ⟨fun h => (by rw [h] at hi2; cases hi2), fun j hj => ?_⟩
      have hjn : j < n := by
        rcases Nat.lt_or_ge j n with h | h
        · exact h
        · exact (hw j h hj).elim
      have hj' := (hr.ready hb j).2 ⟨hjn, hj⟩
      refine wpOp_monoQ (fun a' w' h' => ih _ _ a' w' (inv.set hj hjn) hr.set h'.2) (fun e a' w' he hx => ?_) (h.2 j hj')
      cases e <;> first | exact hx | exact (he rfl).elim
/-- THE BEGINNING: S is shown of the world behind the draw; then the first n in whatever order, the others as if they had come up; and behind them the others, in order. -/
theorem wp_region_tail {id : Nat} {a : Act} {w : World} {l : List Oper} (n : Nat) (L : Array Bool) (S : World → Prop) (hm : P.follows .mixedOrders = true) (hB : tailB l n = true) (hL : L = Array.replicate n false ++ Array.replicate (l.length - n) true) (hS : S w.drew)
    (h : S w.drew → wpAnyH P .any l.toArray (TailQ P l n Q) S n L a w.drew) : (Code.region id l.toArray true).wp P Q a w := by
  subst hL
  have hn : n < l.length := by
    unfold tailB at hB
    simp only [Bool.and_eq_true, decide_eq_true_eq] at hB
    exact hB.1.1.1.1
  refine wp_region_any hm ?_
  have := wpAny_of_tail hB n (Array.replicate l.toArray.size false) (Array.replicate n false ++ Array.replicate (l.length - n) true) a w.drew
    ⟨by simp, fun j oj _ hl => (by rw [getD_replicate_false] at hl; cases hl), fun t _ ht => getD_in (by simpa using ht) (getD_replicate_false _ _)⟩ ⟨by simp; omega, fun i hi => by
      rw [Array.getElem?_append_left (by simpa using hi)]
      simp [hi, show i < l.length by omega], fun t ht => by
      rw [Array.getD_eq_getD_getElem?]
      rcases Nat.lt_or_ge t l.length with h | h
      · rw [Array.getElem?_append_right (by simpa using ht), Array.getElem?_replicate]; split <;> rfl
      · rw [Array.getElem?_eq_none (by simp; omega)]; rfl⟩ (h hS)
  rw [show n + (l.drop n).length = l.toArray.size by simp; omega] at this
  exact this
end

end Go.Proofs.Ytlgeggekmdoceaa

/- What PairLongest says (plain). -/
namespace Go.Proofs.Ytlgeggekmdoceaa
set_option linter.unusedVariables false
set_option linter.unusedSimpArgs false

theorem setN_bit (f : Nat → Bool) : ∀ n i, (setN f n).testBit i = (decide (i < n) && f i)
  | 0, i => by simp [setN]
  | n + 1, i => by
    have ih := setN_bit f n i
    have hlt := setN_lt f n
    unfold setN
    cases hf : f n with
    | true =>
      simp only [if_true]
      by_cases hi : i = n
      · subst hi
        rw [Nat.add_comm, Nat.testBit_two_pow_add_eq, ih]
        simp [hf]
      · rcases Nat.lt_or_ge i n with h | h
        · rw [Nat.add_comm, Nat.testBit_two_pow_add_gt h, ih]
          simp [h, Nat.lt_succ_of_lt h]
        · have h2 : setN f n + 2 ^ n < 2 ^ i := by
            have : 2 ^ (n + 1) ≤ 2 ^ i := Nat.pow_le_pow_right (by decide) (by omega)
            omega
          rw [Nat.testBit_lt_two_pow h2]
          simp; omega
    | false =>
      simp only [Bool.false_eq_true, if_false]
      rw [ih]
      by_cases hi : i = n
      · subst hi; simp [hf]
      · rcases Nat.lt_or_ge i n with h | h
        · simp [h, Nat.lt_succ_of_lt h]
        · have h1 : ¬ i < n := by omega
          have h2 : ¬ i < n + 1 := by omega
          simp [h1, h2]
theorem setN_32 (f : Nat → Bool) (n : Nat) (hn : n ≤ 5) : setN f n < 32 := by
  have h1 := setN_lt f n
  have h2 : 2 ^ n ≤ 2 ^ 5 := Nat.pow_le_pow_right (by decide) hn
  omega
theorem bit_i64 : ∀ i : Fin 5, ∀ s : Fin 32, (bits BinOp.and IntKind.i64 ((s.val : Int) / 2 ^ i.val) 1 == 1) = s.val.testBit i.val := by decide +kernel
theorem andNot_zero : ∀ a b : Fin 32, (∀ i : Fin 5, a.val.testBit i.val = true → b.val.testBit i.val = true) → bits BinOp.andNot IntKind.i64 (a.val : Int) (b.val : Int) = 0 := by decide +kernel
def lowB (p : PairD) (i k : Nat) : Bool := decide (0 ≤ (hullD p i k).1)
def highB (p : PairD) (i k : Nat) : Bool := decide (0 ≤ (hullD p i k).2)
def sK (p : PairD) (i k : Nat) : Bool := (List.range k).all (lowB p i)
def cK (p : PairD) (i k : Nat) : Bool := (List.range k).all (highB p i)
theorem sK_next (p : PairD) (i k : Nat) : sK p i (k + 1) = (sK p i k && lowB p i k) := by simp [sK, List.range_succ]
theorem cK_next (p : PairD) (i k : Nat) : cK p i (k + 1) = (cK p i k && highB p i k) := by simp [cK, List.range_succ]
section
variable {p : PairD} (hp : OkP p) (hne : truA p ≠ [])
include hne
theorem long_sure (i : Nat) : sureF p i = sK p i p.bs.length := by
  rw [Bool.eq_iff_iff]
  unfold sureF sK lowB
  rw [List.all_eq_true, List.all_eq_true]
  constructor
  · intro h k hk
    rw [List.mem_range] at hk
    rw [decide_eq_true_eq]
    obtain ⟨t, ht, e⟩ := (hullD_spec hne i k).lo
    have := (longT_iff _ _ _).1 (h t ht) k hk
    unfold dif at e
    omega
  · intro h t ht
    refine (longT_iff _ _ _).2 fun k hk => ?_
    have h1 := h k (List.mem_range.2 hk)
    rw [decide_eq_true_eq] at h1
    have h2 := (hullD_spec hne i k).all t ht
    unfold dif at h2
    omega
theorem long_canK (i : Nat) (h : canF p i = true) : cK p i p.bs.length = true := by
  unfold canF at h
  rw [List.any_eq_true] at h
  obtain ⟨t, ht, hl⟩ := h
  unfold cK highB
  rw [List.all_eq_true]
  intro k hk
  rw [List.mem_range] at hk
  rw [decide_eq_true_eq]
  have h1 := (longT_iff _ _ _).1 hl k hk
  have h2 := (hullD_spec hne i k).all t ht
  unfold dif at h2
  omega
theorem long_both (i k : Nat) (hi : i < p.bs.length) (hk : k < p.bs.length) (h1 : sureF p i = true) (h2 : canF p k = true) : (hullD p i k).1 ≤ 0 ∧ 0 ≤ (hullD p i k).2 := by
  unfold canF at h2
  rw [List.any_eq_true] at h2
  obtain ⟨t, ht, hl⟩ := h2
  unfold sureF at h1
  rw [List.all_eq_true] at h1
  have h3 := (longT_iff _ _ _).1 (h1 t ht) k hk
  have h4 := (longT_iff _ _ _).1 hl i hi
  have h5 := (hullD_spec hne i k).all t ht
  unfold dif at h5
  omega
theorem long_sub (i : Nat) (h : sureF p i = true) : canF p i = true := by
  obtain ⟨t, l, e⟩ := List.exists_cons_of_ne_nil hne
  unfold sureF at h
  rw [List.all_eq_true] at h
  unfold canF
  rw [List.any_eq_true]
  have ht : t ∈ truA p := by rw [e]; exact List.mem_cons_self
  exact ⟨t, ht, h t ht⟩
end
theorem max_at (x : List Int) : ∀ n, 0 < n → ∃ i, i < n ∧ ∀ k, k < n → x.getD k 0 ≤ x.getD i 0
  | 1, _ => ⟨0, by omega, fun k hk => by have : k = 0 := by omega
                                         rw [this]; exact Int.le_refl _⟩
  | n + 2, _ => by
    obtain ⟨i, hi, h⟩ := max_at x (n + 1) (by omega)
    rcases Int.lt_or_le (x.getD i 0) (x.getD (n + 1) 0) with hlt | hle
    · exact ⟨n + 1, by omega, fun k hk => by
        by_cases e : k = n + 1
        · rw [e]; exact Int.le_refl _
        · have := h k (by omega); omega⟩
    · exact ⟨i, by omega, fun k hk => by
        by_cases e : k = n + 1
        · rw [e]; exact hle
        · exact h k (by omega)⟩
theorem long_some {p : PairD} (hp : OkP p) (hne : truA p ≠ []) : setN (canF p) p.bs.length ≠ 0 := by
  obtain ⟨t, l, e⟩ := List.exists_cons_of_ne_nil hne
  obtain ⟨i, hi, h⟩ := max_at t.1 p.bs.length (by have := hp.n1; omega)
  have hc : canF p i = true := by
    unfold canF
    rw [List.any_eq_true]
    exact ⟨t, by rw [e]; exact List.mem_cons_self, (longT_iff _ _ _).2 h⟩
  intro h0
  have := setN_bit (canF p) p.bs.length i
  rw [h0, hc] at this
  simp [hi] at this
theorem long_andNot {p : PairD} (hp : OkP p) (hne : truA p ≠ []) : bits BinOp.andNot IntKind.i64 ((setN (sureF p) p.bs.length : Nat) : Int) ((setN (canF p) p.bs.length : Nat) : Int) = 0 := by
  refine andNot_zero ⟨_, setN_32 _ _ hp.n5⟩ ⟨_, setN_32 _ _ hp.n5⟩ fun i h => ?_
  dsimp only at h ⊢
  rw [setN_bit, Bool.and_eq_true] at h ⊢
  exact ⟨h.1, long_sub hne _ h.2⟩
theorem set_bit_i64 (f : Nat → Bool) (n i : Nat) (hn : n ≤ 5) (hi : i < n) : (bits BinOp.and IntKind.i64 (((setN f n : Nat) : Int) / 2 ^ i) 1 == 1) = f i := by
  have := bit_i64 ⟨i, by omega⟩ ⟨setN f n, setN_32 f n hn⟩
  dsimp only at this
  rw [this, setN_bit, decide_eq_true hi, Bool.true_and]
theorem set_shift (f : Nat → Bool) (n : Nat) : ((setN f n : Nat) : Int) / 2 ^ n = 0 := by
  have := setN_lt f n
  have h : setN f n / 2 ^ n = 0 := Nat.div_eq_of_lt this
  have e : ((setN f n / 2 ^ n : Nat) : Int) = ((setN f n : Nat) : Int) / 2 ^ n := by simp
  rw [← e, h]; rfl

end Go.Proofs.Ytlgeggekmdoceaa

/- What PairClash says (plain). -/
namespace Go.Proofs.Ytlgeggekmdoceaa
set_option linter.unusedVariables false
set_option linter.unusedSimpArgs false
open Go.RowKit

theorem mem_keptL (l : List RdD) (s j : Nat) (hj : j ≤ l.length) (r : RdD) : r ∈ keptL l s j ↔ ∃ i, ∃ h : i < l.length, i < j ∧ s.testBit i = true ∧ l[i] = r := by
  unfold keptL
  rw [List.mem_filterMap]
  constructor
  · rintro ⟨i, hi, h⟩
    rw [List.mem_range] at hi
    split at h
    · rw [List.getElem?_eq_getElem (by omega : i < l.length)] at h
      exact ⟨i, by omega, hi, by assumption, Option.some.inj h⟩
    · cases h
  · rintro ⟨i, h, hi, hs, e⟩
    refine ⟨i, List.mem_range.2 hi, ?_⟩
    rw [if_pos hs, List.getElem?_eq_getElem h, e]
/-- The pair with those of its readings that are in a set. -/
def subR (p : PairD) (s : Nat) : PairD := { p with rs := keptL p.rs s p.rs.length }
theorem subR_valid {p : PairD} (hv : validB p = true) (s : Nat) : validB (subR p s) = true := by
  unfold validB at hv ⊢
  rw [Bool.and_eq_true, Bool.and_eq_true, Bool.and_eq_true] at hv ⊢
  obtain ⟨⟨⟨h1, h2⟩, h3⟩, h4⟩ := hv
  refine ⟨⟨⟨?_, h2⟩, h3⟩, ?_⟩
  · unfold okHead subR at *
    rw [Bool.and_eq_true] at h1 ⊢
    refine ⟨h1.1, ?_⟩
    have := h1.2
    rw [decide_eq_true_eq] at this ⊢
    have h := keptL_le p.rs s p.rs.length
    show ((keptL p.rs s p.rs.length).length : Int) ≤ 8
    omega
  · show (keptL p.rs s p.rs.length).all (okRd p.bs.length) = true
    rw [List.all_eq_true] at h4 ⊢
    intro r hr
    obtain ⟨i, h, _, _, rfl⟩ := (mem_keptL _ _ _ (Nat.le_refl _) r).1 hr
    exact h4 _ (List.getElem_mem h)
theorem allR_bit (p : PairD) (i : Nat) (hi : i < p.rs.length) : (allR p).testBit i = true := by
  unfold allR
  rw [Nat.testBit_two_pow_sub_one]
  simpa using hi
theorem subR_can (p : PairD) (s : Nat) : CanP (subR p s) (allR (subR p s)) ↔ CanP p s := by
  unfold CanP
  have hT : ∀ c x, TruthP (subR p s) (allR (subR p s)) c x ↔ TruthP p s c x := by
    intro c x
    constructor
    · intro h
      refine ⟨h.mark, h.bs, fun i hi hs => ?_⟩
      have hm : p.rs[i] ∈ (subR p s).rs := (mem_keptL _ _ _ (Nat.le_refl _) _).2 ⟨i, hi, hi, hs, rfl⟩
      obtain ⟨j, hj, e⟩ := List.getElem_of_mem hm
      have := h.rs j hj (allR_bit _ j hj)
      rw [e] at this
      exact this
    · intro h
      refine ⟨h.mark, h.bs, fun j hj _ => ?_⟩
      obtain ⟨i, hi, _, hs, e⟩ := (mem_keptL p.rs s _ (Nat.le_refl _) _).1 (List.getElem_mem hj)
      have := h.rs i hi hs
      rw [e] at this
      exact this
  constructor
  · rintro ⟨c, hc, x, hx⟩; exact ⟨c, hc, x, (hT c x).1 hx⟩
  · rintro ⟨c, hc, x, hx⟩; exact ⟨c, hc, x, (hT c x).2 hx⟩
theorem someT_can {p : PairD} (hp : OkP p) (s : Nat) : someT p s = true ↔ CanP p s := by
  rw [← truthsL_ne p hp]
  unfold someT
  cases truthsL p s <;> simp
theorem truA_sub {p : PairD} (hv : validB p = true) (s : Nat) : (truA (subR p s) = [] ↔ someT p s = false) := by
  have h1 := truthsL_ne (subR p s) (OkP.of _ (subR_valid hv s)) (allR (subR p s))
  rw [subR_can, ← someT_can (OkP.of p hv)] at h1
  unfold truA
  constructor
  · intro h
    cases e : someT p s with
    | false => rfl
    | true => exact absurd h (h1.2 e)
  · intro h
    rcases Classical.em (truthsL (subR p s) (allR (subR p s)) = []) with k | k
    · exact k
    · rw [h1.1 k] at h; cases h
theorem truA_some (p : PairD) : truA p = [] ↔ someT p (allR p) = false := by
  unfold truA someT
  cases truthsL p (allR p) <;> simp
theorem someT_mono {p : PairD} (hp : OkP p) {s t : Nat} (h : ∀ i, i < p.rs.length → s.testBit i = true → t.testBit i = true) (ht : someT p t = true) : someT p s = true := by
  rw [someT_can hp] at ht ⊢
  obtain ⟨c, hc, x, hx⟩ := ht
  exact ⟨c, hc, x, hx.mark, hx.bs, fun i hi hs => hx.rs i hi (h i hi hs)⟩
theorem best_spec (f : Nat → Bool) (m : Nat) (hm : m ≤ 8) (hall : f (2 ^ m - 1) = true) : f (bestL f (2 ^ m - 1) (2 ^ m)) = true ∧ bestL f (2 ^ m - 1) (2 ^ m) ≤ 2 ^ m - 1 ∧
    ∀ t, t < 2 ^ m → f t = true → ones (bestL f (2 ^ m - 1) (2 ^ m)) < ones t ∨ (ones (bestL f (2 ^ m - 1) (2 ^ m)) = ones t ∧ bestL f (2 ^ m - 1) (2 ^ m) ≤ t) := by
  have hp := Nat.one_le_two_pow (n := m)
  rcases best_inv f m hm (2 ^ m) (Nat.le_refl _) with ⟨h1, h2⟩ | ⟨h1, h2, h3, h4⟩
  · rw [h1]
    refine ⟨hall, Nat.le_refl _, fun t ht hf => ?_⟩
    by_cases e : t = 2 ^ m - 1
    · rw [e]; exact .inr ⟨rfl, Nat.le_refl _⟩
    · rw [h2 t ht (by omega)] at hf; cases hf
  · exact ⟨h3, by omega, h4⟩
theorem ones_zero : ∀ t : Fin 256, ones t.val = 0 → t.val = 0 := by decide +kernel
theorem ones_less : ∀ t : Fin 256, ∀ i : Fin 8, t.val.testBit i.val = true → ones (t.val - 2 ^ i.val) < ones t.val ∧ 2 ^ i.val ≤ t.val ∧ bits BinOp.andNot IntKind.i64 (t.val : Int) (2 ^ i.val) = ((t.val - 2 ^ i.val : Nat) : Int) := by decide +kernel
theorem bit8_i64 : ∀ i : Fin 8, ∀ s : Fin 256, (bits BinOp.and IntKind.i64 ((s.val : Int) / 2 ^ i.val) 1 == 1) = s.val.testBit i.val := by decide +kernel
theorem i64_and_nat (a b : Nat) (ha : a < 256) (hb : b < 256) : bits .and .i64 (a : Int) (b : Int) = ((a &&& b : Nat) : Int) := by
  have hx : a &&& b < 2 ^ 8 := Nat.and_lt_two_pow _ (by omega)
  show IntKind.i64.wrap ((BitVec.ofInt 64 (a : Int) &&& BitVec.ofInt 64 (b : Int)).toNat : Int) = _
  rw [BitVec.toNat_and, BitVec.ofInt_natCast, BitVec.ofInt_natCast, BitVec.toNat_ofNat, BitVec.toNat_ofNat, Nat.mod_eq_of_lt (by omega), Nat.mod_eq_of_lt (by omega)]
  exact IntWalk.i64_in _ (by omega)
theorem i64_not_nat (m t : Nat) (hm : m ≤ 8) (ht : t ≤ 2 ^ m - 1) : bits .andNot .i64 ((2 ^ m - 1 : Nat) : Int) (t : Int) = ((2 ^ m - 1 - t : Nat) : Int) := by
  have hp := Nat.one_le_two_pow (n := m)
  have h256 : 2 ^ m ≤ 2 ^ 8 := Nat.pow_le_pow_right (by decide) hm
  show IntKind.i64.wrap ((BitVec.ofInt 64 ((2 ^ m - 1 : Nat) : Int) &&& ~~~ BitVec.ofInt 64 (t : Int)).toNat : Int) = _
  have e : (BitVec.ofInt 64 ((2 ^ m - 1 : Nat) : Int) &&& ~~~ BitVec.ofInt 64 (t : Int)).toNat = 2 ^ m - 1 - t := by
    apply Nat.eq_of_testBit_eq
    intro i
    rw [BitVec.testBit_toNat, BitVec.getLsbD_and, BitVec.getLsbD_not, BitVec.ofInt_natCast, BitVec.ofInt_natCast, BitVec.getLsbD_ofNat, BitVec.getLsbD_ofNat, Nat.testBit_two_pow_sub_one,
      show 2 ^ m - 1 - t = 2 ^ m - (t + 1) by omega, Nat.testBit_two_pow_sub_succ (by omega)]
    by_cases h1 : i < m
    · have h64 : i < 64 := by omega
      simp [h1, h64]
    · simp [h1]
  rw [e]
  exact IntWalk.i64_in _ (by omega)
/-! ### what is told -/
/-- The readings that must be wrong; those that clash. -/
def outS (p : PairD) : Nat := bestL (fun s => someT p (allR p - s)) (allR p) (2 ^ p.rs.length)
def setS (p : PairD) : Nat := bestL (fun s => !someT p s) (allR p) (2 ^ p.rs.length)
theorem wrongV_yes {p : PairD} (hv : validB p = true) : wrongV p = ((((ones (outS p) : Nat) : Int), ((outS p : Nat) : Int)), 0) := by
  unfold wrongV
  rw [if_neg (by simp [hv])]
  rfl
structure OutOk (p : PairD) (o : Nat) : Prop where
  le : o ≤ allR p
  can : someT p (allR p - o) = true
  least : ∀ t, t ≤ allR p → someT p (allR p - t) = true → ones o < ones t ∨ (ones o = ones t ∧ o ≤ t)
theorem outS_ok {p : PairD} (hv : validB p = true) : OutOk p (outS p) := by
  have hp := OkP.of p hv
  have h := best_spec (fun s => someT p (allR p - s)) p.rs.length hp.m8 (by
    show someT p (allR p - (2 ^ p.rs.length - 1)) = true
    rw [show allR p - (2 ^ p.rs.length - 1) = 0 by unfold allR; omega]
    exact someT_zero p hp)
  have hpw := Nat.one_le_two_pow (n := p.rs.length)
  exact ⟨h.2.1, h.1, fun t ht => h.2.2 t (by unfold allR at ht; omega)⟩
structure SetOk (p : PairD) (s : Nat) : Prop where
  le : s ≤ allR p
  no : someT p s = false
  least : ∀ t, t ≤ allR p → someT p t = false → ones s < ones t ∨ (ones s = ones t ∧ s ≤ t)
theorem setS_ok {p : PairD} (hv : validB p = true) (hn : someT p (allR p) = false) : SetOk p (setS p) := by
  have hp := OkP.of p hv
  have h := best_spec (fun s => !someT p s) p.rs.length hp.m8 (by
    show (!someT p (allR p)) = true
    rw [hn]; rfl)
  have hpw := Nat.one_le_two_pow (n := p.rs.length)
  refine ⟨h.2.1, (by have := h.1; rw [Bool.not_eq_true'] at this; exact this), fun t ht hs => h.2.2 t (by unfold allR at ht; omega) (by rw [hs]; rfl)⟩
section
variable {p : PairD} (hv : validB p = true)
include hv
theorem allR_256 : allR p < 256 := allR_lt p (OkP.of p hv).m8
theorem outS_none : (((ones (outS p) : Nat) : Int) == 0) = someT p (allR p) := by
  have h := outS_ok hv
  have h256 := allR_256 hv
  have hle := h.le
  rw [Bool.eq_iff_iff, beq_iff_eq]
  constructor
  · intro e
    have := ones_zero ⟨outS p, by omega⟩ (by dsimp only; omega)
    dsimp only at this
    have hc := h.can
    rw [this] at hc
    exact hc
  · intro e
    have := h.least 0 (by omega) e
    have h0 : ones 0 = 0 := by decide +kernel
    omega
theorem setS_pos (hn : someT p (allR p) = false) : 1 ≤ setS p := by
  have h := (setS_ok hv hn).no
  rcases Nat.eq_zero_or_pos (setS p) with e | e
  · rw [e, someT_zero p (OkP.of p hv)] at h; cases h
  · exact e
theorem setS_meets (hn : someT p (allR p) = false) : (setS p &&& outS p) ≠ 0 := by
  have hp := OkP.of p hv
  have h1 := setS_ok hv hn
  have h2 := outS_ok hv
  intro e
  have : someT p (setS p) = true := someT_mono hp (fun i hi hs => by
    have hpw := Nat.one_le_two_pow (n := p.rs.length)
    have hle := h2.le
    unfold allR at hle ⊢
    rw [show 2 ^ p.rs.length - 1 - outS p = 2 ^ p.rs.length - (outS p + 1) by omega, Nat.testBit_two_pow_sub_succ (by omega)]
    have e2 : (setS p &&& outS p).testBit i = false := by rw [e]; simp
    rw [Nat.testBit_and, hs, Bool.true_and] at e2
    simp [hi, e2]) h2.can
  rw [h1.no] at this
  cases this
theorem setS_cut (hn : someT p (allR p) = false) (i : Nat) (hi : i < p.rs.length) (hb : (setS p).testBit i = true) : someT p (setS p - 2 ^ i) = true := by
  have hp := OkP.of p hv
  have h1 := setS_ok hv hn
  have h256 := allR_256 hv
  have hle := h1.le
  have h8 := hp.m8
  have hl := ones_less ⟨setS p, by omega⟩ ⟨i, by omega⟩ hb
  dsimp only at hl
  cases e : someT p (setS p - 2 ^ i) with
  | true => rfl
  | false =>
    have := h1.least (setS p - 2 ^ i) (Nat.le_trans (Nat.sub_le _ _) hle) e
    omega
end

end Go.Proofs.Ytlgeggekmdoceaa

/- A pair that was made with readings that are right has its truth (plain). -/
namespace Go.Proofs.Ytlgeggekmdoceaa
set_option linter.unusedVariables false
set_option linter.unusedSimpArgs false

def BlkOk (s : Int × Int) (n : Int) : Prop := -20 ≤ s.1 ∧ s.1 ≤ n ∧ n ≤ s.2 ∧ s.2 ≤ 20
/-- A reading that is right, of deviations. -/
def RdOk (D : List Int) (zz rr : Int) (r : RdD) : Prop :=
  (0 ≤ r.a ∧ r.a < D.length ∧ 0 ≤ r.b ∧ r.b < D.length ∧ r.a ≠ r.b ∧ 0 ≤ r.m ∧ r.m ≤ 60) ∧ -80 ≤ r.lo ∧ r.lo ≤ D.getD r.a.toNat 0 - D.getD r.b.toNat 0 + showsC zz rr r.m ∧ D.getD r.a.toNat 0 - D.getD r.b.toNat 0 + showsC zz rr r.m ≤ r.hi ∧ r.hi ≤ 80
/-- The pair that was made. -/
def madeD (pl : List ((Int × Int) × Int)) (zl zh rl rh : Int) (rs : List RdD) : PairD := { bs := pl.map Prod.fst, zl := zl, zh := zh, rl := rl, rh := rh, rs := rs }
section
variable {pl : List ((Int × Int) × Int)} {zl zh rl rh zz rr : Int} {rs : List RdD} (h1 : 1 ≤ pl.length) (h5 : pl.length ≤ 5) (h8 : rs.length ≤ 8) (hok : ∀ q ∈ pl, BlkOk q.1 q.2) (hrd : ∀ r ∈ rs, RdOk (pl.map Prod.snd) zz rr r)
  (hz : -10 ≤ zl ∧ zl ≤ zz ∧ zz ≤ zh ∧ zh ≤ 10 ∧ zh - zl ≤ 4) (hr : -5 ≤ rl ∧ rl ≤ rr ∧ rr ≤ rh ∧ rh ≤ 5 ∧ rh - rl ≤ 4)
include h1 h5 h8 hok hrd hz hr
theorem made_valid : validB (madeD pl zl zh rl rh rs) = true := by
  unfold validB madeD
  rw [Bool.and_eq_true, Bool.and_eq_true, Bool.and_eq_true]
  refine ⟨⟨⟨?_, ?_⟩, ?_⟩, ?_⟩
  · unfold okHead inB
    simp only [Bool.and_eq_true, decide_eq_true_eq, List.length_map]
    omega
  · rw [List.all_eq_true]
    intro s hs
    obtain ⟨q, hq, rfl⟩ := List.mem_map.1 hs
    have := hok q hq
    unfold BlkOk at this
    unfold okSp okSpan
    simp only [Bool.and_eq_true, decide_eq_true_eq]
    omega
  · unfold okZR okSpan
    simp only [Bool.and_eq_true, decide_eq_true_eq]
    omega
  · rw [List.all_eq_true]
    intro r hr'
    have := hrd r hr'
    unfold RdOk at this
    rw [List.length_map] at this
    unfold okRd okSpan inB
    simp only [Bool.and_eq_true, decide_eq_true_eq, List.length_map]
    omega
theorem made_truth : (pl.map Prod.snd, (zz, rr)) ∈ truA (madeD pl zl zh rl rh rs) := by
  have hp := OkP.of _ (made_valid h1 h5 h8 hok hrd hz hr)
  rw [mem_truA hp]
  refine ⟨(mem_comps _ _ _ _ _).2 ⟨hz.2.1, hz.2.2.1, hr.2.1, hr.2.2.1⟩, by simp [madeD], ?_, fun i hi => ?_, fun i hi _ => ?_⟩
  · show (pl.map Prod.snd).getD 5 0 = 0
    rw [List.getD_eq_getElem?_getD, List.getElem?_eq_none (by simpa using h5)]; rfl
  · have hi' : i < pl.length := by simpa [madeD] using hi
    have := hok _ (List.getElem_mem hi')
    unfold BlkOk at this
    show ((pl.map Prod.fst)[i]'(by simpa using hi')).1 ≤ (pl.map Prod.snd).getD i 0 ∧ (pl.map Prod.snd).getD i 0 ≤ ((pl.map Prod.fst)[i]'(by simpa using hi')).2
    rw [List.getD_eq_getElem?_getD, List.getElem?_map, List.getElem?_eq_getElem hi', List.getElem_map]
    exact ⟨this.2.1, this.2.2.1⟩
  · have := hrd _ (List.getElem_mem hi)
    unfold RdOk at this
    exact ⟨this.2.2.1, this.2.2.2.1⟩
end

end Go.Proofs.Ytlgeggekmdoceaa

/- What PairTrue says (plain): the truth is within all that is told. -/
namespace Go.Proofs.Ytlgeggekmdoceaa
set_option linter.unusedVariables false
set_option linter.unusedSimpArgs false
open Go.RowKit

theorem wrongV_none {p : PairD} (hv : validB p = true) (hn : truA p ≠ []) : wrongV p = ((0, 0), 0) := by
  have h1 := outS_none hv
  have h2 : someT p (allR p) = true := by
    cases e : someT p (allR p) with
    | true => rfl
    | false => exact (hn ((truA_some p).2 e)).elim
  rw [h2, beq_iff_eq] at h1
  have hle := (outS_ok hv).le
  have h256 := allR_256 hv
  have h3 := ones_zero ⟨outS p, by omega⟩ (by dsimp only; omega)
  dsimp only at h3
  rw [wrongV_yes hv, h1, h3]
  rfl
theorem gives_wrong_none {p : PairD} {bs rs : Value} (hv : validB p = true) (hn : truA p ≠ []) : Gives p bs rs 27 [] (.tuple #[.int .i64 0, .int .i64 0, .int .i64 0]) := fun W h => by
  have := wrongV_any h; rw [wrongV_none hv hn] at this; exact this
/-- The block a is the longest one of the first k. -/
def lonK (D : List Int) (a k : Nat) : Bool := (List.range k).all fun b => decide (D.getD b 0 ≤ D.getD a 0)
theorem lonK_next (D : List Int) (a k : Nat) : lonK D a (k + 1) = (lonK D a k && decide (D.getD k 0 ≤ D.getD a 0)) := by simp [lonK, List.range_succ]
theorem lonK_long (D : List Int) (a k : Nat) : lonK D a k = longT k D a := rfl
section
variable {p : PairD} {D : List Int} {zz rr : Int} (hp : OkP p) (ht : (D, (zz, rr)) ∈ truA p)
include hp ht
theorem true_len : D.length = p.bs.length := ((mem_truA hp _).1 ht).2.1
theorem true_known (a : Nat) (ha : a < p.bs.length) : insB (D.getD a 0) (hullD p a 5).1 (hullD p a 5).2 = true ∧ p.bs[a].1 ≤ (hullD p a 5).1 ∧ (hullD p a 5).2 ≤ p.bs[a].2 := by
  have hne := List.ne_nil_of_mem ht
  have h := hullD_spec hne a 5
  have n5 := hp.n5
  have hm : ∀ t ∈ truA p, dif a 5 t = t.1.getD a 0 := fun t ht => by
    unfold dif
    rw [truA_out hp ht 5 n5]
    omega
  have h1 := h.all _ ht
  rw [hm _ ht] at h1
  obtain ⟨t1, m1, e1⟩ := h.lo
  obtain ⟨t2, m2, e2⟩ := h.hi
  rw [hm _ m1] at e1
  rw [hm _ m2] at e2
  have a1 := truA_at hp m1 a ha
  have a2 := truA_at hp m2 a ha
  refine ⟨?_, by omega, by omega⟩
  unfold insB
  rw [decide_eq_true h1.1, decide_eq_true h1.2]; rfl
theorem true_20 (a : Nat) : -20 ≤ D.getD a 0 ∧ D.getD a 0 ≤ 20 := truA_20 hp ht a
end
section
variable {p : PairD} {D : List Int} {zz rr : Int} (ht : (D, (zz, rr)) ∈ truA p)
include ht
theorem true_differ (a b : Nat) : insB (D.getD a 0 - D.getD b 0) (hullD p a b).1 (hullD p a b).2 = true := by
  have h1 := (hullD_spec (List.ne_nil_of_mem ht) a b).all _ ht
  unfold dif at h1
  unfold insB
  rw [decide_eq_true h1.1, decide_eq_true h1.2]; rfl
theorem true_shows (m : Int) : insB (showsC zz rr m) (hullS p m).1 (hullS p m).2 = true := by
  have h1 := (hullS_spec (List.ne_nil_of_mem ht) m).all _ ht
  unfold sho at h1
  unfold insB
  rw [decide_eq_true h1.1, decide_eq_true h1.2]; rfl
theorem true_can (a : Nat) (h : lonK D a p.bs.length = true) : canF p a = true := by
  unfold canF
  rw [List.any_eq_true]
  exact ⟨_, ht, h⟩
theorem true_sure (a : Nat) (h : lonK D a p.bs.length = false) : sureF p a = false := by
  cases e : sureF p a with
  | false => rfl
  | true =>
    unfold sureF at e
    rw [List.all_eq_true] at e
    have := e _ ht
    rw [lonK_long] at h
    dsimp only at this
    rw [h] at this
    cases this
end
theorem bit0_i64 : ∀ i : Fin 5, ∀ s : Fin 32, (bits BinOp.and IntKind.i64 ((s.val : Int) / 2 ^ i.val) 1 == 0) = !s.val.testBit i.val := by decide +kernel
theorem set_bit0_i64 (f : Nat → Bool) (n i : Nat) (hn : n ≤ 5) (hi : i < n) : (bits BinOp.and IntKind.i64 (((setN f n : Nat) : Int) / 2 ^ i) 1 == 0) = !f i := by
  have := bit0_i64 ⟨i, by omega⟩ ⟨setN f n, setN_32 f n hn⟩
  rw [this, setN_bit, decide_eq_true hi, Bool.true_and]

end Go.Proofs.Ytlgeggekmdoceaa
