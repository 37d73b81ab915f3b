/- Texts Pa, Pf, Pe, Ra, Rb, Pp, Tb, To in one file; each begins with a word on what it proves. -/
import Derived.Deep.Slices
import Derived.Lib.SmallJoins
import Derived.Test.YtabbmihakoeegaaKf
import Derived.Test.YtabbmihakoeegaaKa

/- What is told of a valid pair, in terms of its truths (plain). -/
namespace Go.Proofs.Ytabbmihakoeegaa
set_option linter.unusedVariables false
set_option linter.unusedSimpArgs false

theorem mem_comps (zl zh rl rh : Int) (c : Int × Int) : c ∈ comps zl zh rl rh ↔ zl ≤ c.1 ∧ c.1 ≤ zh ∧ rl ≤ c.2 ∧ c.2 ≤ rh := by
  unfold comps
  rw [List.mem_map]
  constructor
  · rintro ⟨k, hk, rfl⟩
    rw [List.mem_range] at hk
    have hpos : 0 < wideN rl rh := by
      rcases Nat.eq_zero_or_pos (wideN rl rh) with h | h
      · rw [h] at hk; simp at hk
      · exact h
    have h1 : k / wideN rl rh < wideN zl zh := Nat.div_lt_of_lt_mul (by rw [Nat.mul_comm]; exact hk)
    have h2 : k % wideN rl rh < wideN rl rh := Nat.mod_lt _ hpos
    generalize k / wideN rl rh = a at *
    generalize k % wideN rl rh = b at *
    unfold wideN at h1 h2
    dsimp only
    omega
  · rintro ⟨h1, h2, h3, h4⟩
    have ha : (c.1 - zl).toNat < wideN zl zh := by unfold wideN; omega
    have hb : (c.2 - rl).toNat < wideN rl rh := by unfold wideN; omega
    refine ⟨(c.1 - zl).toNat * wideN rl rh + (c.2 - rl).toNat, List.mem_range.2 ?_, ?_⟩
    · calc (c.1 - zl).toNat * wideN rl rh + (c.2 - rl).toNat < (c.1 - zl).toNat * wideN rl rh + wideN rl rh := by omega
        _ = ((c.1 - zl).toNat + 1) * wideN rl rh := by rw [Nat.add_mul]; omega
        _ ≤ wideN zl zh * wideN rl rh := Nat.mul_le_mul_right _ ha
    · have hpos : 0 < wideN rl rh := by omega
      rw [Nat.mul_comm, Nat.mul_add_div hpos, Nat.div_eq_of_lt hb, Nat.mul_add_mod, Nat.mod_eq_of_lt hb]
      apply Prod.ext <;> (dsimp only; omega)
/-- By how much two blocks differ, in a truth. -/
def dif (a b : Nat) (t : List Int × (Int × Int)) : Int := t.1.getD a 0 - t.1.getD b 0
def sho (m : Int) (t : List Int × (Int × Int)) : Int := showsC t.2.1 t.2.2 m
structure SpanOf (L : List (List Int × (Int × Int))) (f : List Int × (Int × Int) → Int) (S : Int × Int) : Prop where
  lo : ∃ t ∈ L, f t = S.1
  hi : ∃ t ∈ L, f t = S.2
  all : ∀ t ∈ L, S.1 ≤ f t ∧ f t ≤ S.2
theorem spanOf_is {L : List (List Int × (Int × Int))} (hne : L ≠ []) (f : List Int × (Int × Int) → Int) : SpanOf L f (hullOf (L.map fun t => (f t, f t))) := by
  obtain ⟨⟨a, ha, ha1⟩, ⟨b, hb, hb1⟩, hall⟩ := hullOf_is (L.map fun t => (f t, f t)) (by simpa using hne)
  obtain ⟨t, ht, rfl⟩ := List.mem_map.1 ha
  obtain ⟨u, hu, rfl⟩ := List.mem_map.1 hb
  exact ⟨⟨t, ht, ha1⟩, ⟨u, hu, hb1⟩, fun t ht => hall _ (List.mem_map.2 ⟨t, ht, rfl⟩)⟩
theorem SpanOf.eq {L : List (List Int × (Int × Int))} {f : List Int × (Int × Int) → Int} {S T : Int × Int} (h : SpanOf L f S) (k : SpanOf L f T) : S = T := by
  obtain ⟨t1, m1, e1⟩ := h.lo
  obtain ⟨t2, m2, e2⟩ := h.hi
  obtain ⟨u1, n1, f1⟩ := k.lo
  obtain ⟨u2, n2, f2⟩ := k.hi
  have a1 := k.all t1 m1
  have a2 := k.all t2 m2
  have a3 := h.all u1 n1
  have a4 := h.all u2 n2
  apply Prod.ext <;> omega
theorem hullD_spec {p : PairD} (hne : truA p ≠ []) (a b : Nat) : SpanOf (truA p) (dif a b) (hullD p a b) := spanOf_is hne (dif a b)
theorem hullS_spec {p : PairD} (hne : truA p ≠ []) (m : Int) : SpanOf (truA p) (sho m) (hullS p m) := spanOf_is hne (sho m)
theorem mem_truA {p : PairD} (hp : OkP p) (t : List Int × (Int × Int)) : t ∈ truA p ↔ t.2 ∈ comps p.zl p.zh p.rl p.rh ∧ t.1.length = p.bs.length ∧ TruthP p (allR p) t.2 (fun i => t.1.getD i 0) := mem_truthsL p hp (allR p) t.1 t.2
theorem truA_at {p : PairD} (hp : OkP p) {t : List Int × (Int × Int)} (ht : t ∈ truA p) (i : Nat) (hi : i < p.bs.length) : p.bs[i].1 ≤ t.1.getD i 0 ∧ t.1.getD i 0 ≤ p.bs[i].2 := ((mem_truA hp t).1 ht).2.2.bs i hi
theorem truA_out {p : PairD} (hp : OkP p) {t : List Int × (Int × Int)} (ht : t ∈ truA p) (i : Nat) (hi : p.bs.length ≤ i) : t.1.getD i 0 = 0 := by
  rw [List.getD_eq_getElem?_getD, List.getElem?_eq_none (by rw [((mem_truA hp t).1 ht).2.1]; exact hi)]; rfl
theorem truA_20 {p : PairD} (hp : OkP p) {t : List Int × (Int × Int)} (ht : t ∈ truA p) (i : Nat) : -20 ≤ t.1.getD i 0 ∧ t.1.getD i 0 ≤ 20 := by
  rcases Nat.lt_or_ge i p.bs.length with hi | hi
  · have := truA_at hp ht i hi
    have := hp.bs _ (List.getElem_mem hi)
    omega
  · rw [truA_out hp ht i hi]; omega
theorem hullD_40 {p : PairD} (hp : OkP p) (hne : truA p ≠ []) (a b : Nat) : -40 ≤ (hullD p a b).1 ∧ (hullD p a b).1 ≤ (hullD p a b).2 ∧ (hullD p a b).2 ≤ 40 := by
  have h := hullD_spec hne a b
  obtain ⟨t1, m1, e1⟩ := h.lo
  obtain ⟨t2, m2, e2⟩ := h.hi
  have := h.all t1 m1
  have := truA_20 hp m1 a
  have := truA_20 hp m1 b
  have := truA_20 hp m2 a
  have := truA_20 hp m2 b
  unfold dif at *
  omega
theorem hullD_self {p : PairD} (hne : truA p ≠ []) (a : Nat) : hullD p a a = (0, 0) := by
  refine (hullD_spec hne a a).eq ?_
  obtain ⟨t, l, e⟩ := List.exists_cons_of_ne_nil hne
  have hz : ∀ t, dif a a t = 0 := fun t => by unfold dif; omega
  exact ⟨⟨t, by rw [e]; exact List.mem_cons_self, hz t⟩, ⟨t, by rw [e]; exact List.mem_cons_self, hz t⟩, fun t _ => by rw [hz]; exact ⟨Int.le_refl _, Int.le_refl _⟩⟩
theorem hullD_back {p : PairD} (hne : truA p ≠ []) (a b : Nat) : hullD p b a = (-(hullD p a b).2, -(hullD p a b).1) := by
  refine (hullD_spec hne b a).eq ?_
  have h := hullD_spec hne a b
  have hz : ∀ t, dif b a t = - dif a b t := fun t => by unfold dif; omega
  obtain ⟨t1, m1, e1⟩ := h.lo
  obtain ⟨t2, m2, e2⟩ := h.hi
  exact ⟨⟨t2, m2, by rw [hz, e2]⟩, ⟨t1, m1, by rw [hz, e1]⟩, fun t ht => by have := h.all t ht; rw [hz]; dsimp only; omega⟩
/-! ### what the functions return, by cases -/
theorem okBl_nat {p : PairD} (i : Nat) : okBl p i = decide (i < p.bs.length) := by
  unfold okBl inB
  rw [decide_eq_decide]
  omega
theorem toldV_no {p : PairD} (hv : validB p = true) (hn : truA p = []) (h : Int × Int) : toldV p true h = ((0, 0), 10) := by
  unfold toldV
  rw [if_neg (by simp [hv]), if_neg (by simp), if_pos hn]
theorem toldV_yes {p : PairD} (hv : validB p = true) (hn : truA p ≠ []) (h : Int × Int) : toldV p true h = (h, 0) := by
  unfold toldV
  rw [if_neg (by simp [hv]), if_neg (by simp), if_neg hn]
theorem toldV_range {p : PairD} (hv : validB p = true) (h : Int × Int) : toldV p false h = ((0, 0), 2) := by
  unfold toldV
  rw [if_neg (by simp [hv]), if_pos rfl]
theorem differV_no {p : PairD} (hv : validB p = true) (hn : truA p = []) (a b : Nat) (ha : a < p.bs.length) (hb : b < p.bs.length) : differV p a b = ((0, 0), 10) := by
  unfold differV
  rw [okBl_nat, okBl_nat, decide_eq_true ha, decide_eq_true hb]
  exact toldV_no hv hn _
theorem differV_yes {p : PairD} (hv : validB p = true) (hn : truA p ≠ []) (a b : Nat) (ha : a < p.bs.length) (hb : b < p.bs.length) : differV p a b = (hullD p a b, 0) := by
  unfold differV
  rw [okBl_nat, okBl_nat, decide_eq_true ha, decide_eq_true hb, Int.toNat_natCast, Int.toNat_natCast]
  exact toldV_yes hv hn _
theorem knownV_no {p : PairD} (hv : validB p = true) (hn : truA p = []) (a : Nat) (ha : a < p.bs.length) : knownV p a = ((0, 0), 10) := by
  unfold knownV
  rw [okBl_nat, decide_eq_true ha]
  exact toldV_no hv hn _
theorem knownV_yes {p : PairD} (hv : validB p = true) (hn : truA p ≠ []) (a : Nat) (ha : a < p.bs.length) : knownV p a = (hullD p a 5, 0) := by
  unfold knownV
  rw [okBl_nat, decide_eq_true ha, Int.toNat_natCast]
  exact toldV_yes hv hn _
theorem showsV_no {p : PairD} (hv : validB p = true) (hn : truA p = []) (m : Int) (hm : 0 ≤ m ∧ m ≤ 60) : showsV p m = ((0, 0), 10) := by
  unfold showsV
  rw [show inB m 0 60 = true by unfold inB; rw [decide_eq_true_eq]; omega]
  exact toldV_no hv hn _
theorem showsV_yes {p : PairD} (hv : validB p = true) (hn : truA p ≠ []) (m : Int) (hm : 0 ≤ m ∧ m ≤ 60) : showsV p m = (hullS p m, 0) := by
  unfold showsV
  rw [show inB m 0 60 = true by unfold inB; rw [decide_eq_true_eq]; omega]
  exact toldV_yes hv hn _
theorem longV_no {p : PairD} (hv : validB p = true) (hn : truA p = []) : longV p = ((0, 0), 10) := by
  unfold longV
  rw [if_neg (by simp [hv]), if_pos hn]
theorem leastV_no {p : PairD} (hv : validB p = true) (hn : truA p = []) : leastV p = ((0, 0, 0), 10) := by
  unfold leastV
  rw [if_neg (by simp [hv]), if_pos hn]
theorem leastV_one {p : PairD} (hv : validB p = true) (hn : truA p ≠ []) (h1 : p.bs.length ≤ 1) : leastV p = ((0, 0, 0), 4) := by
  unfold leastV
  rw [if_neg (by simp [hv]), if_neg hn, if_pos h1]
theorem clashV_no {p : PairD} (hv : validB p = true) (hn : truA p ≠ []) : clashV p = (0, 4) := by
  unfold clashV
  rw [if_neg (by simp [hv]), if_pos]
  unfold someT
  unfold truA at hn
  cases h : truthsL p (allR p) with
  | nil => exact absurd h hn
  | cons => rfl
theorem clashV_yes {p : PairD} (hv : validB p = true) (hn : truA p = []) : clashV p = (((bestL (fun s => !someT p s) (allR p) (2 ^ p.rs.length) : Nat) : Int), 0) := by
  unfold clashV
  rw [if_neg (by simp [hv]), if_neg]
  unfold someT
  unfold truA at hn
  rw [hn]
  decide

end Go.Proofs.Ytabbmihakoeegaa

/- What PairClash says (plain). -/
namespace Go.Proofs.Ytabbmihakoeegaa
set_option linter.unusedVariables false
set_option linter.unusedSimpArgs false
open Go.RowKit

theorem mem_keptL (l : List RdD) (s j : Nat) (hj : j ≤ l.length) (r : RdD) : r ∈ keptL l s j ↔ ∃ i, ∃ h : i < l.length, i < j ∧ s.testBit i = true ∧ l[i] = r := by
  unfold keptL
  rw [List.mem_filterMap]
  constructor
  · rintro ⟨i, hi, h⟩
    rw [List.mem_range] at hi
    split at h
    · rw [List.getElem?_eq_getElem (by omega : i < l.length)] at h
      exact ⟨i, by omega, hi, by assumption, Option.some.inj h⟩
    · cases h
  · rintro ⟨i, h, hi, hs, e⟩
    refine ⟨i, List.mem_range.2 hi, ?_⟩
    rw [if_pos hs, List.getElem?_eq_getElem h, e]
/-- The pair with those of its readings that are in a set. -/
def subR (p : PairD) (s : Nat) : PairD := { p with rs := keptL p.rs s p.rs.length }
theorem subR_valid {p : PairD} (hv : validB p = true) (s : Nat) : validB (subR p s) = true := by
  unfold validB at hv ⊢
  rw [Bool.and_eq_true, Bool.and_eq_true, Bool.and_eq_true] at hv ⊢
  obtain ⟨⟨⟨h1, h2⟩, h3⟩, h4⟩ := hv
  refine ⟨⟨⟨?_, h2⟩, h3⟩, ?_⟩
  · unfold okHead subR at *
    rw [Bool.and_eq_true] at h1 ⊢
    refine ⟨h1.1, ?_⟩
    have := h1.2
    rw [decide_eq_true_eq] at this ⊢
    have h := keptL_le p.rs s p.rs.length
    show ((keptL p.rs s p.rs.length).length : Int) ≤ 8
    omega
  · show (keptL p.rs s p.rs.length).all (okRd p.bs.length) = true
    rw [List.all_eq_true] at h4 ⊢
    intro r hr
    obtain ⟨i, h, _, _, rfl⟩ := (mem_keptL _ _ _ (Nat.le_refl _) r).1 hr
    exact h4 _ (List.getElem_mem h)
theorem allR_bit (p : PairD) (i : Nat) (hi : i < p.rs.length) : (allR p).testBit i = true := by
  unfold allR
  rw [Nat.testBit_two_pow_sub_one]
  simpa using hi
theorem subR_can (p : PairD) (s : Nat) : CanP (subR p s) (allR (subR p s)) ↔ CanP p s := by
  unfold CanP
  have hT : ∀ c x, TruthP (subR p s) (allR (subR p s)) c x ↔ TruthP p s c x := by
    intro c x
    constructor
    · intro h
      refine ⟨h.mark, h.bs, fun i hi hs => ?_⟩
      have hm : p.rs[i] ∈ (subR p s).rs := (mem_keptL _ _ _ (Nat.le_refl _) _).2 ⟨i, hi, hi, hs, rfl⟩
      obtain ⟨j, hj, e⟩ := List.getElem_of_mem hm
      have := h.rs j hj (allR_bit _ j hj)
      rw [e] at this
      exact this
    · intro h
      refine ⟨h.mark, h.bs, fun j hj _ => ?_⟩
      obtain ⟨i, hi, _, hs, e⟩ := (mem_keptL p.rs s _ (Nat.le_refl _) _).1 (List.getElem_mem hj)
      have := h.rs i hi hs
      rw [e] at this
      exact this
  constructor
  · rintro ⟨c, hc, x, hx⟩; exact ⟨c, hc, x, (hT c x).1 hx⟩
  · rintro ⟨c, hc, x, hx⟩; exact ⟨c, hc, x, (hT c x).2 hx⟩
theorem someT_can {p : PairD} (hp : OkP p) (s : Nat) : someT p s = true ↔ CanP p s := by
  rw [← truthsL_ne p hp]
  unfold someT
  cases truthsL p s <;> simp
theorem truA_sub {p : PairD} (hv : validB p = true) (s : Nat) : (truA (subR p s) = [] ↔ someT p s = false) := by
  have h1 := truthsL_ne (subR p s) (OkP.of _ (subR_valid hv s)) (allR (subR p s))
  rw [subR_can, ← someT_can (OkP.of p hv)] at h1
  unfold truA
  constructor
  · intro h
    cases e : someT p s with
    | false => rfl
    | true => exact absurd h (h1.2 e)
  · intro h
    rcases Classical.em (truthsL (subR p s) (allR (subR p s)) = []) with k | k
    · exact k
    · rw [h1.1 k] at h; cases h
theorem truA_some (p : PairD) : truA p = [] ↔ someT p (allR p) = false := by
  unfold truA someT
  cases truthsL p (allR p) <;> simp
theorem someT_mono {p : PairD} (hp : OkP p) {s t : Nat} (h : ∀ i, i < p.rs.length → s.testBit i = true → t.testBit i = true) (ht : someT p t = true) : someT p s = true := by
  rw [someT_can hp] at ht ⊢
  obtain ⟨c, hc, x, hx⟩ := ht
  exact ⟨c, hc, x, hx.mark, hx.bs, fun i hi hs => hx.rs i hi (h i hi hs)⟩
theorem best_spec (f : Nat → Bool) (m : Nat) (hm : m ≤ 8) (hall : f (2 ^ m - 1) = true) : f (bestL f (2 ^ m - 1) (2 ^ m)) = true ∧ bestL f (2 ^ m - 1) (2 ^ m) ≤ 2 ^ m - 1 ∧
    ∀ t, t < 2 ^ m → f t = true → ones (bestL f (2 ^ m - 1) (2 ^ m)) < ones t ∨ (ones (bestL f (2 ^ m - 1) (2 ^ m)) = ones t ∧ bestL f (2 ^ m - 1) (2 ^ m) ≤ t) := by
  have hp := Nat.one_le_two_pow (n := m)
  rcases best_inv f m hm (2 ^ m) (Nat.le_refl _) with ⟨h1, h2⟩ | ⟨h1, h2, h3, h4⟩
  · rw [h1]
    refine ⟨hall, Nat.le_refl _, fun t ht hf => ?_⟩
    by_cases e : t = 2 ^ m - 1
    · rw [e]; exact .inr ⟨rfl, Nat.le_refl _⟩
    · rw [h2 t ht (by omega)] at hf; cases hf
  · exact ⟨h3, by omega, h4⟩
theorem ones_zero : ∀ t : Fin 256, ones t.val = 0 → t.val = 0 := by decide +kernel
theorem ones_less : ∀ t : Fin 256, ∀ i : Fin 8, t.val.testBit i.val = true → ones (t.val - 2 ^ i.val) < ones t.val ∧ 2 ^ i.val ≤ t.val ∧ bits BinOp.andNot IntKind.i64 (t.val : Int) (2 ^ i.val) = ((t.val - 2 ^ i.val : Nat) : Int) := by decide +kernel
theorem bit8_i64 : ∀ i : Fin 8, ∀ s : Fin 256, (bits BinOp.and IntKind.i64 ((s.val : Int) / 2 ^ i.val) 1 == 1) = s.val.testBit i.val := by decide +kernel
theorem i64_and_nat (a b : Nat) (ha : a < 256) (hb : b < 256) : bits .and .i64 (a : Int) (b : Int) = ((a &&& b : Nat) : Int) := by
  have hx : a &&& b < 2 ^ 8 := Nat.and_lt_two_pow _ (by omega)
  show IntKind.i64.wrap ((BitVec.ofInt 64 (a : Int) &&& BitVec.ofInt 64 (b : Int)).toNat : Int) = _
  rw [BitVec.toNat_and, BitVec.ofInt_natCast, BitVec.ofInt_natCast, BitVec.toNat_ofNat, BitVec.toNat_ofNat, Nat.mod_eq_of_lt (by omega), Nat.mod_eq_of_lt (by omega)]
  exact IntWalk.i64_in _ (by omega)
theorem i64_not_nat (m t : Nat) (hm : m ≤ 8) (ht : t ≤ 2 ^ m - 1) : bits .andNot .i64 ((2 ^ m - 1 : Nat) : Int) (t : Int) = ((2 ^ m - 1 - t : Nat) : Int) := by
  have hp := Nat.one_le_two_pow (n := m)
  have h256 : 2 ^ m ≤ 2 ^ 8 := Nat.pow_le_pow_right (by decide) hm
  show IntKind.i64.wrap ((BitVec.ofInt 64 ((2 ^ m - 1 : Nat) : Int) &&& ~~~ BitVec.ofInt 64 (t : Int)).toNat : Int) = _
  have e : (BitVec.ofInt 64 ((2 ^ m - 1 : Nat) : Int) &&& ~~~ BitVec.ofInt 64 (t : Int)).toNat = 2 ^ m - 1 - t := by
    apply Nat.eq_of_testBit_eq
    intro i
    rw [BitVec.testBit_toNat, BitVec.getLsbD_and, BitVec.getLsbD_not, BitVec.ofInt_natCast, BitVec.ofInt_natCast, BitVec.getLsbD_ofNat, BitVec.getLsbD_ofNat, Nat.testBit_two_pow_sub_one,
      show 2 ^ m - 1 - t = 2 ^ m - (t + 1) by omega, Nat.testBit_two_pow_sub_succ (by omega)]
    by_cases h1 : i < m
    · have h64 : i < 64 := by omega
      simp [h1, h64]
    · simp [h1]
  rw [e]
  exact IntWalk.i64_in _ (by omega)
/-! ### what is told -/
/-- The readings that must be wrong; those that clash. -/
def outS (p : PairD) : Nat := bestL (fun s => someT p (allR p - s)) (allR p) (2 ^ p.rs.length)
def setS (p : PairD) : Nat := bestL (fun s => !someT p s) (allR p) (2 ^ p.rs.length)
theorem wrongV_yes {p : PairD} (hv : validB p = true) : wrongV p = ((((ones (outS p) : Nat) : Int), ((outS p : Nat) : Int)), 0) := by
  unfold wrongV
  rw [if_neg (by simp [hv])]
  rfl
structure OutOk (p : PairD) (o : Nat) : Prop where
  le : o ≤ allR p
  can : someT p (allR p - o) = true
  least : ∀ t, t ≤ allR p → someT p (allR p - t) = true → ones o < ones t ∨ (ones o = ones t ∧ o ≤ t)
theorem outS_ok {p : PairD} (hv : validB p = true) : OutOk p (outS p) := by
  have hp := OkP.of p hv
  have h := best_spec (fun s => someT p (allR p - s)) p.rs.length hp.m8 (by
    show someT p (allR p - (2 ^ p.rs.length - 1)) = true
    rw [show allR p - (2 ^ p.rs.length - 1) = 0 by unfold allR; omega]
    exact someT_zero p hp)
  have hpw := Nat.one_le_two_pow (n := p.rs.length)
  exact ⟨h.2.1, h.1, fun t ht => h.2.2 t (by unfold allR at ht; omega)⟩
structure SetOk (p : PairD) (s : Nat) : Prop where
  le : s ≤ allR p
  no : someT p s = false
  least : ∀ t, t ≤ allR p → someT p t = false → ones s < ones t ∨ (ones s = ones t ∧ s ≤ t)
theorem setS_ok {p : PairD} (hv : validB p = true) (hn : someT p (allR p) = false) : SetOk p (setS p) := by
  have hp := OkP.of p hv
  have h := best_spec (fun s => !someT p s) p.rs.length hp.m8 (by
    show (!someT p (allR p)) = true
    rw [hn]; rfl)
  have hpw := Nat.one_le_two_pow (n := p.rs.length)
  refine ⟨h.2.1, (by have := h.1; rw [Bool.not_eq_true'] at this; exact this), fun t ht hs => h.2.2 t (by unfold allR at ht; omega) (by rw [hs]; rfl)⟩
section
variable {p : PairD} (hv : validB p = true)
include hv
theorem allR_256 : allR p < 256 := allR_lt p (OkP.of p hv).m8
theorem outS_none : (((ones (outS p) : Nat) : Int) == 0) = someT p (allR p) := by
  have h := outS_ok hv
  have h256 := allR_256 hv
  have hle := h.le
  rw [Bool.eq_iff_iff, beq_iff_eq]
  constructor
  · intro e
    have := ones_zero ⟨outS p, by omega⟩ (by dsimp only; omega)
    dsimp only at this
    have hc := h.can
    rw [this] at hc
    exact hc
  · intro e
    have := h.least 0 (by omega) e
    have h0 : ones 0 = 0 := by decide +kernel
    omega
theorem setS_pos (hn : someT p (allR p) = false) : 1 ≤ setS p := by
  have h := (setS_ok hv hn).no
  rcases Nat.eq_zero_or_pos (setS p) with e | e
  · rw [e, someT_zero p (OkP.of p hv)] at h; cases h
  · exact e
theorem setS_meets (hn : someT p (allR p) = false) : (setS p &&& outS p) ≠ 0 := by
  have hp := OkP.of p hv
  have h1 := setS_ok hv hn
  have h2 := outS_ok hv
  intro e
  have : someT p (setS p) = true := someT_mono hp (fun i hi hs => by
    have hpw := Nat.one_le_two_pow (n := p.rs.length)
    have hle := h2.le
    unfold allR at hle ⊢
    rw [show 2 ^ p.rs.length - 1 - outS p = 2 ^ p.rs.length - (outS p + 1) by omega, Nat.testBit_two_pow_sub_succ (by omega)]
    have e2 : (setS p &&& outS p).testBit i = false := by rw [e]; simp
    rw [Nat.testBit_and, hs, Bool.true_and] at e2
    simp [hi, e2]) h2.can
  rw [h1.no] at this
  cases this
theorem setS_cut (hn : someT p (allR p) = false) (i : Nat) (hi : i < p.rs.length) (hb : (setS p).testBit i = true) : someT p (setS p - 2 ^ i) = true := by
  have hp := OkP.of p hv
  have h1 := setS_ok hv hn
  have h256 := allR_256 hv
  have hle := h1.le
  have h8 := hp.m8
  have hl := ones_less ⟨setS p, by omega⟩ ⟨i, by omega⟩ hb
  dsimp only at hl
  cases e : someT p (setS p - 2 ^ i) with
  | true => rfl
  | false =>
    have := h1.least (setS p - 2 ^ i) (Nat.le_trans (Nat.sub_le _ _) hle) e
    omega
end

end Go.Proofs.Ytabbmihakoeegaa

/- What PairGroups says (plain): a reading more joins two groups, or none. -/
namespace Go.Proofs.Ytabbmihakoeegaa
set_option linter.unusedVariables false
set_option linter.unusedSimpArgs false

/-- The pair with a reading more. -/
def withR (p : PairD) (r : RdD) : PairD := { p with rs := p.rs ++ [r] }
theorem withR_valid {p : PairD} (hv : validB p = true) {r : RdD} (h8 : p.rs.length < 8) (hr : okRd p.bs.length r = true) : validB (withR p r) = true := by
  unfold validB at hv ⊢
  rw [Bool.and_eq_true, Bool.and_eq_true, Bool.and_eq_true] at hv ⊢
  obtain ⟨⟨⟨h1, h2⟩, h3⟩, h4⟩ := hv
  refine ⟨⟨⟨?_, h2⟩, h3⟩, ?_⟩
  · unfold okHead withR at *
    rw [Bool.and_eq_true] at h1 ⊢
    refine ⟨h1.1, ?_⟩
    rw [decide_eq_true_eq]
    simp only [List.length_append, List.length_cons, List.length_nil]
    omega
  · show (p.rs ++ [r]).all (okRd p.bs.length) = true
    rw [List.all_append, h4, Bool.true_and]
    simpa using hr
def cutR (p : PairD) (k : Nat) : PairD := { p with rs := p.rs.take k }
theorem cutR_valid {p : PairD} (hv : validB p = true) (k : Nat) : validB (cutR p k) = true := by
  unfold validB at hv ⊢
  rw [Bool.and_eq_true, Bool.and_eq_true, Bool.and_eq_true] at hv ⊢
  obtain ⟨⟨⟨h1, h2⟩, h3⟩, h4⟩ := hv
  refine ⟨⟨⟨?_, h2⟩, h3⟩, ?_⟩
  · unfold okHead cutR at *
    rw [Bool.and_eq_true] at h1 ⊢
    refine ⟨h1.1, ?_⟩
    have := h1.2
    rw [decide_eq_true_eq] at this ⊢
    rw [List.length_take]
    omega
  · show (p.rs.take k).all (okRd p.bs.length) = true
    rw [List.all_eq_true] at h4 ⊢
    exact fun r hr => h4 r (List.mem_of_mem_take hr)
theorem cutR_next (p : PairD) (k : Nat) (hk : k < p.rs.length) : cutR p (k + 1) = withR (cutR p k) p.rs[k] := by
  unfold cutR withR
  rw [List.take_succ_eq_append_getElem hk]
theorem cutR_all (p : PairD) : cutR p p.rs.length = p := by unfold cutR; rw [List.take_length]
theorem adj_with {p : PairD} {r : RdD} {x y : Int} : Adj (withR p r) x y ↔ Adj p x y ∨ (r.a = x ∧ r.b = y) ∨ (r.b = x ∧ r.a = y) := by
  unfold Adj withR
  constructor
  · rintro ⟨q, hq, h⟩
    rcases List.mem_append.1 hq with hq | hq
    · exact .inl ⟨q, hq, h⟩
    · rw [List.mem_singleton] at hq
      subst hq
      exact .inr h
  · rintro (⟨q, hq, h⟩ | h)
    · exact ⟨q, List.mem_append_left _ hq, h⟩
    · exact ⟨r, List.mem_append_right _ (by simp), h⟩
theorem conn_mono {p : PairD} {r : RdD} {x y : Int} (h : Conn p x y) : Conn (withR p r) x y := by
  induction h with
  | refl => exact .refl _
  | step _ ha ih => exact .step ih (adj_with.2 (.inl ha))
theorem conn_with {p : PairD} {r : RdD} {x y : Int} : Conn (withR p r) x y ↔ Conn p x y ∨ (Conn p x r.a ∧ Conn p r.b y) ∨ (Conn p x r.b ∧ Conn p r.a y) := by
  constructor
  · intro h
    induction h with
    | refl => exact .inl (.refl _)
    | step _ ha ih =>
      rcases adj_with.1 ha with ha | ⟨rfl, rfl⟩ | ⟨rfl, rfl⟩
      · rcases ih with h | ⟨h, k⟩ | ⟨h, k⟩
        · exact .inl (.step h ha)
        · exact .inr (.inl ⟨h, .step k ha⟩)
        · exact .inr (.inr ⟨h, .step k ha⟩)
      · rcases ih with h | ⟨h, k⟩ | ⟨h, k⟩
        · exact .inr (.inl ⟨h, .refl _⟩)
        · exact .inr (.inl ⟨h, .refl _⟩)
        · exact .inl h
      · rcases ih with h | ⟨h, k⟩ | ⟨h, k⟩
        · exact .inr (.inr ⟨h, .refl _⟩)
        · exact .inl h
        · exact .inr (.inr ⟨h, .refl _⟩)
  · have e : Conn (withR p r) r.a r.b := .step (.refl _) (adj_with.2 (.inr (.inl ⟨rfl, rfl⟩)))
    rintro (h | ⟨h, k⟩ | ⟨h, k⟩)
    · exact conn_mono h
    · exact ((conn_mono h).trans e).trans (conn_mono k)
    · exact ((conn_mono h).trans e.symm).trans (conn_mono k)
/-- How many groups there are. -/
def cntM (p : PairD) : Nat := ((List.range p.bs.length).filter (ownL p)).length
theorem groupsV_yes {p : PairD} (hv : validB p = true) : groupsV p = ((cntM p : Int), 0) := by
  unfold groupsV
  rw [if_neg (by simp [hv])]
  rfl
theorem min_one {p : PairD} {i j : Nat} (hi : IsMin p i) (hj : IsMin p j) (h : Conn p i j) : i = j := by
  rcases Nat.lt_trichotomy i j with k | k | k
  · exact absurd h (hj i k)
  · exact k
  · exact absurd h.symm (hi j k)
theorem count_next (f : Nat → Bool) (n : Nat) : ((List.range (n + 1)).filter f).length = ((List.range n).filter f).length + (if f n then 1 else 0) := by
  rw [List.range_succ, List.filter_append, List.length_append]
  cases h : f n <;> simp [h]
theorem count_remove (f g : Nat → Bool) (m : Nat) (hm : g m = true) : ∀ n, (∀ i, i < n → f i = (g i && decide (i ≠ m))) → ((List.range n).filter g).length = ((List.range n).filter f).length + (if m < n then 1 else 0)
  | 0, _ => by simp
  | n + 1, h => by
    rw [count_next, count_next, count_remove f g m hm n (fun i hi => h i (by omega)), h n (by omega)]
    by_cases e : n = m
    · subst e
      simp [hm]
    · cases hg : g n
      · have e2 : (m < n) = (m < n + 1) := by rw [eq_iff_iff]; omega
        simp [e2]
      · have e2 : (m < n) = (m < n + 1) := by rw [eq_iff_iff]; omega
        simp [e, e2]; omega
theorem cnt_same {p q : PairD} (hp : OkP p) (hq : OkP q) (hb : q.bs.length = p.bs.length) (h : ∀ x y, Conn q x y ↔ Conn p x y) : cntM q = cntM p := by
  unfold cntM
  rw [hb]
  congr 1
  apply List.filter_congr
  intro i hi
  rw [List.mem_range] at hi
  rw [Bool.eq_iff_iff, ownL_iff hp i hi, ownL_iff hq i (by omega)]
  unfold IsMin
  simp only [h]
theorem cnt_join {p : PairD} {r : RdD} (hv : validB p = true) (hw : validB (withR p r) = true) : (Conn p r.a r.b → cntM (withR p r) = cntM p) ∧ (¬ Conn p r.a r.b → cntM p = cntM (withR p r) + 1) := by
  have hp := OkP.of p hv
  have hq := OkP.of _ hw
  constructor
  · intro hc
    refine cnt_same hp hq rfl fun x y => ?_
    rw [conn_with]
    constructor
    · rintro (h | ⟨h, k⟩ | ⟨h, k⟩)
      · exact h
      · exact (h.trans hc).trans k
      · exact (h.trans hc.symm).trans k
    · exact .inl
  · intro hc
    have hr := hq.rs r (List.mem_append_right _ (by simp))
    have hn : (withR p r).bs.length = p.bs.length := rfl
    rw [hn] at hr
    obtain ⟨ma, a1, a2, a3⟩ := has_min (p := p) r.a.toNat
    obtain ⟨mb, b1, b2, b3⟩ := has_min (p := p) r.b.toNat
    rw [Int.toNat_of_nonneg hr.1] at a3
    rw [Int.toNat_of_nonneg hr.2.2.1] at b3
    have hab : ma ≠ mb := by
      intro e
      rw [e] at a3
      exact hc (a3.symm.trans b3)
    have key : ∀ i, IsMin (withR p r) i ↔ IsMin p i ∧ i ≠ max ma mb := by
      intro i
      constructor
      · intro h
        refine ⟨fun k hk hck => h k hk (conn_mono hck), fun e => ?_⟩
        rcases Nat.lt_or_gt_of_ne hab with k | k
        · refine h ma (by omega) (conn_with.2 (.inr (.inl ⟨a3, ?_⟩)))
          rw [show i = mb by omega]
          exact b3.symm
        · refine h mb (by omega) (conn_with.2 (.inr (.inr ⟨b3, ?_⟩)))
          rw [show i = ma by omega]
          exact a3.symm
      · rintro ⟨h, hne⟩ k hk hck
        rcases conn_with.1 hck with c | ⟨c, d⟩ | ⟨c, d⟩
        · exact h k hk c
        · have e := min_one b2 h (b3.trans d)
          have : ¬ k < ma := fun hlt => a2 k hlt (c.trans a3.symm)
          omega
        · have e := min_one a2 h (a3.trans d)
          have : ¬ k < mb := fun hlt => b2 k hlt (c.trans b3.symm)
          omega
    have hmx : IsMin p (max ma mb) := by
      rcases Nat.le_total ma mb with k | k
      · rw [Nat.max_eq_right k]; exact b2
      · rw [Nat.max_eq_left k]; exact a2
    have hml : max ma mb < p.bs.length := by omega
    have := count_remove (ownL (withR p r)) (ownL p) (max ma mb) ((ownL_iff hp _ hml).2 hmx) p.bs.length (fun i hi => by
      rw [Bool.eq_iff_iff, ownL_iff hq i hi, key, Bool.and_eq_true, ownL_iff hp i hi, decide_eq_true_eq])
    rw [if_pos hml] at this
    exact this
theorem cnt_bare {p : PairD} (hv : validB p = true) (h0 : p.rs = []) : cntM p = p.bs.length := by
  have hp := OkP.of p hv
  have hc : ∀ x y, Conn p x y → x = y := fun x y h => by
    induction h with
    | refl => rfl
    | step _ ha _ =>
      obtain ⟨r, hr, _⟩ := ha
      rw [h0] at hr
      cases hr
  unfold cntM
  rw [List.filter_eq_self.2 (fun i hi => by
    rw [List.mem_range] at hi
    rw [ownL_iff hp i hi]
    intro k hk hck
    have := hc _ _ hck
    omega), List.length_range]
theorem cnt_cut {p : PairD} (hv : validB p = true) : ∀ k, k ≤ p.rs.length → p.bs.length - k ≤ cntM (cutR p k) ∧ cntM (cutR p k) ≤ p.bs.length ∧ (0 < k → cntM (cutR p k) < p.bs.length)
  | 0, _ => by
    have := cnt_bare (p := cutR p 0) (cutR_valid hv 0) rfl
    have e : (cutR p 0).bs.length = p.bs.length := rfl
    omega
  | k + 1, hk => by
    have ih := cnt_cut hv k (by omega)
    have hw := cutR_valid hv (k + 1)
    rw [cutR_next p k (by omega)] at hw ⊢
    have hj := cnt_join (cutR_valid hv k) hw
    have e : (cutR p k).bs.length = p.bs.length := rfl
    by_cases hc : Conn (cutR p k) p.rs[k].a p.rs[k].b
    · have := hj.1 hc
      refine ⟨by omega, by omega, fun _ => ?_⟩
      rcases Nat.eq_zero_or_pos k with h0 | h0
      · exfalso
        subst h0
        have hne : p.rs[0].a ≠ p.rs[0].b := by
          have h4 := hv
          unfold validB at h4
          rw [Bool.and_eq_true, List.all_eq_true] at h4
          have := h4.2 _ (List.getElem_mem (l := p.rs) (n := 0) (by omega))
          unfold okRd at this
          simp only [Bool.and_eq_true, decide_eq_true_eq] at this
          exact this.1.1.2
        have hcc : ∀ x y, Conn (cutR p 0) x y → x = y := fun x y h => by
          induction h with
          | refl => rfl
          | step _ ha _ =>
            obtain ⟨r, hr, _⟩ := ha
            cases hr
        exact hne (hcc _ _ hc)
      · have := ih.2.2 h0
        omega
    · have := hj.2 hc
      exact ⟨by omega, by omega, fun _ => by omega⟩
theorem cnt_all {p : PairD} (hv : validB p = true) : p.bs.length - p.rs.length ≤ cntM p ∧ cntM p ≤ p.bs.length ∧ (0 < p.rs.length → cntM p < p.bs.length) ∧ 1 ≤ cntM p := by
  have h := cnt_cut hv p.rs.length (Nat.le_refl _)
  rw [cutR_all] at h
  refine ⟨h.1, h.2.1, h.2.2, ?_⟩
  have hp := OkP.of p hv
  have h0 : ownL p 0 = true := (ownL_iff hp 0 (by have := hp.n1; omega)).2 fun k hk => absurd hk (by omega)
  have : 0 ∈ (List.range p.bs.length).filter (ownL p) := List.mem_filter.2 ⟨List.mem_range.2 (by have := hp.n1; omega), h0⟩
  exact List.length_pos_of_mem this
/-! ### who hangs together with a block, by going over all readings again and again -/
def addL (L : List Int) (x : Int) : List Int := if x ∈ L then L else L ++ [x]
def joinS (L : List Int) (r : RdD) : List Int := if r.a ∈ L ∨ r.b ∈ L then addL (addL L r.a) r.b else L
def joinK (p : PairD) (a : Int) : Nat → List Int
  | 0 => [a]
  | k + 1 => p.rs.foldl joinS (joinK p a k)
theorem addL_mem (L : List Int) (x y : Int) : y ∈ addL L x ↔ y ∈ L ∨ y = x := by
  unfold addL
  split
  · constructor
    · exact .inl
    · rintro (h | rfl) <;> assumption
  · simp
theorem addL_nodup {L : List Int} (h : L.Nodup) (x : Int) : (addL L x).Nodup := by
  unfold addL
  split
  · exact h
  · rename_i hx
    rw [List.nodup_append]
    exact ⟨h, by simp, fun a ha b hb => by
      rw [List.mem_singleton] at hb
      intro e; rw [e, hb] at ha; exact hx ha⟩
theorem addL_len (L : List Int) (x : Int) : L.length ≤ (addL L x).length ∧ ((addL L x).length = L.length → x ∈ L ∧ addL L x = L) := by
  unfold addL
  split
  · exact ⟨Nat.le_refl _, fun _ => ⟨by assumption, rfl⟩⟩
  · simp
/-- What holds of the list of those that have been found. -/
structure JoinOk (p : PairD) (a : Int) (L : List Int) : Prop where
  nd : L.Nodup
  conn : ∀ y ∈ L, Conn p a y
  own : a ∈ L
theorem JoinOk.step {p : PairD} {a : Int} {L : List Int} (h : JoinOk p a L) {r : RdD} (hr : r ∈ p.rs) : JoinOk p a (joinS L r) ∧ (∀ y ∈ L, y ∈ joinS L r) ∧ L.length ≤ (joinS L r).length ∧ ((joinS L r).length = L.length → joinS L r = L ∧ (r.a ∈ L ∨ r.b ∈ L → r.a ∈ L ∧ r.b ∈ L)) := by
  unfold joinS
  split
  · rename_i hab
    have l1 := addL_len L r.a
    have l2 := addL_len (addL L r.a) r.b
    have hadj : Adj p r.a r.b := ⟨r, hr, .inl ⟨rfl, rfl⟩⟩
    have hca : Conn p a r.a ∧ Conn p a r.b := by
      rcases hab with k | k
      · exact ⟨h.conn _ k, .step (h.conn _ k) hadj⟩
      · exact ⟨.step (h.conn _ k) hadj.symm, h.conn _ k⟩
    refine ⟨⟨addL_nodup (addL_nodup h.nd _) _, fun y hy => ?_, ?_⟩, fun y hy => ?_, by omega, fun e => ?_⟩
    · rcases (addL_mem _ _ _).1 hy with hy | rfl
      · rcases (addL_mem _ _ _).1 hy with hy | rfl
        · exact h.conn y hy
        · exact hca.1
      · exact hca.2
    · exact (addL_mem _ _ _).2 (.inl ((addL_mem _ _ _).2 (.inl h.own)))
    · exact (addL_mem _ _ _).2 (.inl ((addL_mem _ _ _).2 (.inl hy)))
    · obtain ⟨m1, e1⟩ := l1.2 (by omega)
      obtain ⟨m2, e2⟩ := l2.2 (by omega)
      rw [e1] at m2
      exact ⟨by rw [e2, e1], fun _ => ⟨m1, m2⟩⟩
  · rename_i hab
    exact ⟨h, fun y hy => hy, Nat.le_refl _, fun _ => ⟨rfl, fun k => absurd k hab⟩⟩
theorem JoinOk.fold {p : PairD} {a : Int} : ∀ (rs : List RdD) {L : List Int}, (∀ r ∈ rs, r ∈ p.rs) → JoinOk p a L → JoinOk p a (rs.foldl joinS L) ∧ L.length ≤ (rs.foldl joinS L).length ∧
    ((rs.foldl joinS L).length = L.length → rs.foldl joinS L = L ∧ ∀ r ∈ rs, r.a ∈ L ∨ r.b ∈ L → r.a ∈ L ∧ r.b ∈ L)
  | [], L, _, h => ⟨h, Nat.le_refl _, fun _ => ⟨rfl, fun r hr => by cases hr⟩⟩
  | r :: rs, L, hs, h => by
    have h1 := h.step (hs r List.mem_cons_self)
    have h2 := JoinOk.fold rs (fun q hq => hs q (List.mem_cons_of_mem _ hq)) h1.1
    rw [List.foldl_cons]
    refine ⟨h2.1, by omega, fun e => ?_⟩
    obtain ⟨e1, c1⟩ := h1.2.2.2 (by omega)
    obtain ⟨e2, c2⟩ := h2.2.2 (by omega)
    rw [e1] at e2 c2
    rw [e1]
    refine ⟨e2, fun q hq => ?_⟩
    rcases List.mem_cons.1 hq with rfl | hq
    · exact c1
    · exact c2 q hq
theorem joinK_ok {p : PairD} (a : Int) : ∀ k, JoinOk p a (joinK p a k)
  | 0 => ⟨by simp [joinK], fun y hy => by simp [joinK] at hy; rw [hy]; exact .refl _, by simp [joinK]⟩
  | k + 1 => (JoinOk.fold p.rs (fun _ h => h) (joinK_ok a k)).1
theorem joinK_grows {p : PairD} (a : Int) : ∀ k, (∀ r ∈ p.rs, r.a ∈ joinK p a k ∨ r.b ∈ joinK p a k → r.a ∈ joinK p a k ∧ r.b ∈ joinK p a k) ∨ k + 1 ≤ (joinK p a k).length
  | 0 => .inr (by simp [joinK])
  | k + 1 => by
    have h := JoinOk.fold p.rs (fun _ h => h) (joinK_ok (p := p) a k)
    by_cases e : (p.rs.foldl joinS (joinK p a k)).length = (joinK p a k).length
    · obtain ⟨e1, e2⟩ := h.2.2 e
      left
      show ∀ r ∈ p.rs, r.a ∈ p.rs.foldl joinS (joinK p a k) ∨ r.b ∈ p.rs.foldl joinS (joinK p a k) → _
      rw [show joinK p a (k + 1) = p.rs.foldl joinS (joinK p a k) from rfl, e1]
      exact e2
    · right
      show k + 1 + 1 ≤ (p.rs.foldl joinS (joinK p a k)).length
      rcases joinK_grows a k with h3 | h3
      · exfalso
        apply e
        have hfix : ∀ (rs : List RdD), (∀ r ∈ rs, r ∈ p.rs) → rs.foldl joinS (joinK p a k) = joinK p a k := by
          intro rs
          induction rs with
          | nil => intro _; rfl
          | cons r rs ih =>
            intro hs
            rw [List.foldl_cons]
            have : joinS (joinK p a k) r = joinK p a k := by
              unfold joinS
              split
              · rename_i hab
                obtain ⟨m1, m2⟩ := h3 r (hs r List.mem_cons_self) hab
                unfold addL
                rw [if_pos m1, if_pos m2]
              · rfl
            rw [this]
            exact ih fun q hq => hs q (List.mem_cons_of_mem _ hq)
        rw [hfix p.rs fun _ h => h]
      · have := h.2.1
        omega
theorem joined_iff {p : PairD} (hp : OkP p) (a b : Nat) (ha : a < p.bs.length) : (b : Int) ∈ joinK p a p.bs.length ↔ Conn p a b := by
  have hk := joinK_ok (p := p) (a : Int) p.bs.length
  constructor
  · exact hk.conn _
  · intro hc
    rcases joinK_grows (p := p) (a : Int) p.bs.length with h | h
    · refine hc.closed (S := fun y => y ∈ joinK p a p.bs.length) hk.own fun u v hu hadj => ?_
      obtain ⟨r, hr, ⟨rfl, rfl⟩ | ⟨rfl, rfl⟩⟩ := hadj
      · exact (h r hr (.inl hu)).2
      · exact (h r hr (.inr hu)).1
    · have := nodup_len p.bs.length _ hk.nd (fun y hy => conn_range hp (hk.conn y hy) ⟨by omega, by omega⟩)
      omega

end Go.Proofs.Ytabbmihakoeegaa

/- The reference's small functions. -/
namespace Go.Proofs.Ytabbmihakoeegaa
set_option linter.unusedVariables false
set_option linter.unusedSimpArgs false
open Go.RowKit Go.Shelf
attribute [local go_sem] Oper.semAt_some

theorem rin_any (n a b : Int) (w : World) :
    Calls Try.prog 65 #[.int .i64 n, .int .i64 a, .int .i64 b] w fun e w' => e = .returned (.bool (inB n a b)) ∧ w = w' := by
  have H : Hid (inB n a b = (decide (a ≤ n) && decide (n ≤ b))) := by show _ = _; simp [inB]
  go_enter Try.func65, Try.ntmps65
  go_wp2
  all_goals go_ret
  all_goals exact ⟨by rw [H.out]; simp [*]; try omega, rfl⟩
theorem rspan_any (lo hi m : Int) (hm : -1000000 ≤ m ∧ m ≤ 1000000) (w : World) :
    Calls Try.prog 66 #[.agg #[.int .i64 lo, .int .i64 hi], .int .i64 m] w fun e w' => e = .returned (.bool (okSpan lo hi m)) ∧ Below w.heap.size w w' := by
  have H : Hid (okSpan lo hi m = (decide (-m ≤ lo) && decide (lo ≤ hi) && decide (hi ≤ m))) := by show _ = _; simp [okSpan, Bool.and_assoc]
  obtain ⟨hm1, hm2⟩ := hm
  go_enter Try.func66, Try.ntmps66
  go_wp2
  all_goals go_ret
  all_goals exact ⟨by rw [H.out]; simp [*]; try omega, (Below.refl _ _).alloc (Nat.le_refl _) _⟩
theorem rminute_any (n : Int) (w : World) :
    Calls Try.prog 68 #[.int .i64 n] w fun e w' => e = .returned (.bool (inB n 0 60)) ∧ w = w' := by
  go_enter Try.func68, Try.ntmps68
  go_wp2_with (go_at_call 65; refine (rin_any _ _ _ _).mono ?_; rintro e w' ⟨rfl, rfl⟩)
  go_ret
  exact ⟨rfl, rfl⟩
theorem rblock_any (p : PairD) (n cap : Nat) (ao : Option Addr) (rs : Value) (hn : n ≤ 1000) (x : Int) (w : World) :
    Calls Try.prog 67 #[.agg (pairRow p (.slice ao n cap) rs), .int .i64 x] w fun e w' => e = .returned (.bool (inB x 0 ((n : Int) - 1))) ∧ Below w.heap.size w w' := by
  unfold pairRow
  go_enter Try.func67, Try.ntmps67
  have hw : IntKind.i64.wrap ((n : Int) - 1) = (n : Int) - 1 := IntWalk.i64_in _ (by omega)
  go_wp2_with (go_at_call 65; refine (rin_any _ _ _ _).mono ?_; rintro e w' ⟨rfl, rfl⟩)
  go_ret
  exact ⟨rfl, (Below.refl _ _).alloc (Nat.le_refl _) _⟩
theorem pow_bound (n : Nat) (h : n ≤ 60) : (2 : Nat) ^ n ≤ 1152921504606846976 := Nat.le_trans (Nat.pow_le_pow_right (by decide) h) (by decide)
theorem has_bit : ∀ n : Fin 9, ∀ s : Fin 256, ((wrap64 ((s.val : Int) / ((2 ^ n.val : Nat) : Int))).tmod 2 == 1) = s.val.testBit n.val := by decide +kernel
end Go.Proofs.Ytabbmihakoeegaa

/- The reference's Pair: is a pair valid? -/
namespace Go.Proofs.Ytabbmihakoeegaa
set_option linter.unusedVariables false
set_option linter.unusedSimpArgs false
open Go.RowKit Go.Shelf
attribute [local go_sem] Oper.semAt_some

def pairObj (p : PairD) (bs rs : Value) : Obj := .cells (pairRow p bs rs) 27 (0, 0)
set_option maxRecDepth 100000 in
set_option maxHeartbeats 8000000 in
theorem rpair_any {w : World} {p : PairD} {bs rs : Value} (h : PairAt w p bs rs) : Calls Try.prog 24 #[.agg (pairRow p bs rs)] w fun e w' => e = .returned (.bool (validB p)) ∧ Below w.heap.size w w' := by
  obtain ⟨⟨ao, cap, rfl, hc1, hc2, hel⟩, ⟨ao2, cap2, rfl, hc3, hc4, hel2⟩⟩ := h
  have HE1 := Lib.hid hel
  have HE2 := Lib.hid hel2
  clear hel hel2
  obtain ⟨W0, hW0⟩ : ∃ W0, W0 = w.alloc (.cells (pairRow p (.slice ao p.bs.length cap) (.slice ao2 p.rs.length cap2)) 27 (0, 0)) := ⟨_, rfl⟩
  have hb0 : Below w.heap.size w W0 := by rw [hW0]; exact (Below.refl _ _).alloc (Nat.le_refl _) _
  have hr0 : W0.heap[w.heap.size]? = some (pairObj p (.slice ao p.bs.length cap) (.slice ao2 p.rs.length cap2)) := by rw [hW0]; exact heap_alloc_at _ _ _ rfl
  have HB0 := Lib.hid hb0
  have HR0 := Lib.hid hr0
  unfold pairObj pairRow at hr0
  have c0 : W0.cell? ⟨w.heap.size, 0, none⟩ = some (.slice ao p.bs.length cap) := by rw [cell_of_row W0 _ _ _ _ _ hr0]; rfl
  have c1 : W0.cell? ⟨w.heap.size, 1, none⟩ = some (.int .i64 p.zl) := by rw [cell_of_row W0 _ _ _ _ _ hr0]; rfl
  have c2 : W0.cell? ⟨w.heap.size, 2, none⟩ = some (.int .i64 p.zh) := by rw [cell_of_row W0 _ _ _ _ _ hr0]; rfl
  have c3 : W0.cell? ⟨w.heap.size, 3, none⟩ = some (.int .i64 p.rl) := by rw [cell_of_row W0 _ _ _ _ _ hr0]; rfl
  have c4 : W0.cell? ⟨w.heap.size, 4, none⟩ = some (.int .i64 p.rh) := by rw [cell_of_row W0 _ _ _ _ _ hr0]; rfl
  have c5 : W0.cell? ⟨w.heap.size, 5, none⟩ = some (.slice ao2 p.rs.length cap2) := by rw [cell_of_row W0 _ _ _ _ _ hr0]; rfl
  clear hb0 hr0
  unfold pairRow at hW0 ⊢
  go_enter Try.func24, Try.ntmps24
  go_wp2_with fail
  rw [← hW0]
  clear hW0
  refine (rin_any _ _ _ _).mono ?_
  rintro e w' ⟨rfl, rfl⟩
  cases h1 : inB (↑p.bs.length) 1 5 with
  | false =>
    go_wp2
    go_ret
    refine ⟨?_, HB0.out⟩
    rw [show validB p = false from by simp [validB, okHead, h1]]
    rfl
  | true =>
  by_cases h2 : (p.rs.length : Int) ≤ 8
  case neg =>
    have hd : decide ((8 : Int) < p.rs.length) = true := by simp; omega
    have hq : decide ((p.rs.length : Int) ≤ 8) = false := by simpa using h2
    go_wp2
    go_ret
    refine ⟨?_, HB0.out⟩
    rw [show validB p = false from by simp [validB, okHead, hq]]
    rfl
  have hd2 : decide ((8 : Int) < p.rs.length) = false := by simp; omega
  have hhd : okHead p = true := by simp [okHead, h1]; omega
  have HHD := Lib.hid hhd
  go_wp2_with fail
  have hn5 : p.bs.length ≤ 5 := by simp [inB] at h1; omega
  have hm8 : p.rs.length ≤ 8 := by omega
  clear hd2 hhd h1 c0 c1 c2 c3 c4 c5
  go_loopw [3] (fun i wr => ∃ k : Nat, k ≤ p.bs.length ∧ i = .int .i64 k ∧ (p.bs.take k).all okSp = true ∧ wr.heap[w.heap.size]? = some (pairObj p (.slice ao p.bs.length cap) (.slice ao2 p.rs.length cap2)) ∧ Below w.heap.size w wr) (fun i _ => p.bs.length - (intOf i).toNat)
  case atStart => exact ⟨0, by omega, rfl, by simp, HR0.out, HB0.out⟩
  case round =>
    obtain ⟨k, hk, rfl, hall, hrow, hb⟩ := hrel
    have HRW := Lib.hid hrow
    have HB := Lib.hid hb
    have HALL := Lib.hid hall
    unfold pairObj pairRow at hrow
    have c0 : wr.cell? ⟨w.heap.size, 0, none⟩ = some (.slice ao p.bs.length cap) := by rw [cell_of_row wr _ _ _ _ _ hrow]; rfl
    have c1 : wr.cell? ⟨w.heap.size, 1, none⟩ = some (.int .i64 p.zl) := by rw [cell_of_row wr _ _ _ _ _ hrow]; rfl
    have c2 : wr.cell? ⟨w.heap.size, 2, none⟩ = some (.int .i64 p.zh) := by rw [cell_of_row wr _ _ _ _ _ hrow]; rfl
    have c3 : wr.cell? ⟨w.heap.size, 3, none⟩ = some (.int .i64 p.rl) := by rw [cell_of_row wr _ _ _ _ _ hrow]; rfl
    have c4 : wr.cell? ⟨w.heap.size, 4, none⟩ = some (.int .i64 p.rh) := by rw [cell_of_row wr _ _ _ _ _ hrow]; rfl
    have c5 : wr.cell? ⟨w.heap.size, 5, none⟩ = some (.slice ao2 p.rs.length cap2) := by rw [cell_of_row wr _ _ _ _ _ hrow]; rfl
    clear hrow hb hall
    by_cases hlk : k < p.bs.length
    · obtain ⟨b, off, rfl, hr, hbl, e1, e2⟩ := HE1.out k hlk
      have f1 := (HB.out.cell (p := ⟨b, off + k * 2, none⟩) hbl).trans e1
      have f2 := (HB.out.cell (p := ⟨b, off + k * 2 + 1, none⟩) hbl).trans e2
      clear e1 e2
      have HTA := Lib.hid (take_all p.bs okSp k hlk HALL.out)
      have HAF := Lib.hid (all_false p.bs okSp k hlk)
      generalize p.bs[k] = sp at *
      obtain ⟨slo, shi⟩ := sp
      go_wp2_with fail
      refine (rspan_any slo shi 20 (by omega) _).mono ?_
      rintro e w2 ⟨rfl, hb2⟩
      have hbel : Below w.heap.size w w2 := HB.out.trans (hb2.mono HB.out.size)
      have hrw2 := (hb2.block w.heap.size (lt_of_block HRW.out)).trans HRW.out
      have HBEL := Lib.hid hbel
      have HRW2 := Lib.hid hrw2
      clear hb2 hbel hrw2 c0 c1 c2 c3 c4 c5
      cases h3 : okSpan slo shi 20 with
      | false =>
        go_wp2
        go_ret
        refine ⟨?_, HBEL.out⟩
        rw [show validB p = false from by simp [validB, HAF.out (show okSp (slo, shi) = false from h3)]]
        rfl
      | true =>
        go_wp2
        exact ⟨⟨k + 1, by omega, by go_num, HTA.out.trans h3, HRW2.out, HBEL.out⟩, by simp [intOf]; omega⟩
    · obtain rfl : k = p.bs.length := by omega
      have hall := HALL.out
      rw [List.take_length] at hall
      have HAB := Lib.hid hall
      clear hall HALL
      go_wp2_with fail
      refine (rspan_any p.zl p.zh 10 (by omega) _).mono ?_
      rintro e w3 ⟨rfl, hb3⟩
      have HB3 := Lib.hid (HB.out.trans (hb3.mono HB.out.size))
      have hrw3 := (hb3.block w.heap.size (lt_of_block HRW.out)).trans HRW.out
      have HRW3 := Lib.hid hrw3
      clear hb3 c0 c1 c2 c3 c4 c5
      unfold pairObj pairRow at hrw3
      have c0 : w3.cell? ⟨w.heap.size, 0, none⟩ = some (.slice ao p.bs.length cap) := by rw [cell_of_row w3 _ _ _ _ _ hrw3]; rfl
      have c1 : w3.cell? ⟨w.heap.size, 1, none⟩ = some (.int .i64 p.zl) := by rw [cell_of_row w3 _ _ _ _ _ hrw3]; rfl
      have c2 : w3.cell? ⟨w.heap.size, 2, none⟩ = some (.int .i64 p.zh) := by rw [cell_of_row w3 _ _ _ _ _ hrw3]; rfl
      have c3 : w3.cell? ⟨w.heap.size, 3, none⟩ = some (.int .i64 p.rl) := by rw [cell_of_row w3 _ _ _ _ _ hrw3]; rfl
      have c4 : w3.cell? ⟨w.heap.size, 4, none⟩ = some (.int .i64 p.rh) := by rw [cell_of_row w3 _ _ _ _ _ hrw3]; rfl
      have c5 : w3.cell? ⟨w.heap.size, 5, none⟩ = some (.slice ao2 p.rs.length cap2) := by rw [cell_of_row w3 _ _ _ _ _ hrw3]; rfl
      clear hrw3
      cases h3 : okSpan p.zl p.zh 10 with
      | false =>
        go_wp2
        go_ret
        refine ⟨?_, HB3.out⟩
        rw [show validB p = false from by simp [validB, okZR, h3]]
        rfl
      | true =>
      go_wp2_with fail
      refine (rspan_any p.rl p.rh 5 (by omega) _).mono ?_
      rintro e w4 ⟨rfl, hb4⟩
      have HB4 := Lib.hid (HB3.out.trans (hb4.mono HB3.out.size))
      have hrw4 := (hb4.block w.heap.size (lt_of_block HRW3.out)).trans HRW3.out
      have HRW4 := Lib.hid hrw4
      clear hb4 c0 c1 c2 c3 c4 c5
      unfold pairObj pairRow at hrw4
      have c0 : w4.cell? ⟨w.heap.size, 0, none⟩ = some (.slice ao p.bs.length cap) := by rw [cell_of_row w4 _ _ _ _ _ hrw4]; rfl
      have c1 : w4.cell? ⟨w.heap.size, 1, none⟩ = some (.int .i64 p.zl) := by rw [cell_of_row w4 _ _ _ _ _ hrw4]; rfl
      have c2 : w4.cell? ⟨w.heap.size, 2, none⟩ = some (.int .i64 p.zh) := by rw [cell_of_row w4 _ _ _ _ _ hrw4]; rfl
      have c3 : w4.cell? ⟨w.heap.size, 3, none⟩ = some (.int .i64 p.rl) := by rw [cell_of_row w4 _ _ _ _ _ hrw4]; rfl
      have c4 : w4.cell? ⟨w.heap.size, 4, none⟩ = some (.int .i64 p.rh) := by rw [cell_of_row w4 _ _ _ _ _ hrw4]; rfl
      have c5 : w4.cell? ⟨w.heap.size, 5, none⟩ = some (.slice ao2 p.rs.length cap2) := by rw [cell_of_row w4 _ _ _ _ _ hrw4]; rfl
      clear hrw4
      cases h4 : okSpan p.rl p.rh 5 with
      | false =>
        go_wp2
        go_ret
        refine ⟨?_, HB4.out⟩
        rw [show validB p = false from by simp [validB, okZR, h3, h4]]
        rfl
      | true =>
      have hz := h3
      have hr := h4
      simp only [okSpan, decide_eq_true_eq] at hz hr
      obtain ⟨hz1, hz2, hz3⟩ := hz
      obtain ⟨hr1, hr2, hr3⟩ := hr
      have hwz : IntKind.i64.wrap (p.zh - p.zl) = p.zh - p.zl := IntWalk.i64_in _ (by omega)
      have hwr : IntKind.i64.wrap (p.rh - p.rl) = p.rh - p.rl := IntWalk.i64_in _ (by omega)
      by_cases h5 : p.zh - p.zl ≤ 4
      case neg =>
        have hd : decide ((4 : Int) < p.zh - p.zl) = true := by simp; omega
        have hq : decide (p.zh - p.zl ≤ 4) = false := by simpa using h5
        go_wp2
        go_ret
        refine ⟨?_, HB4.out⟩
        rw [show validB p = false from by simp [validB, okZR, hq]]
        rfl
      have hd5 : decide ((4 : Int) < p.zh - p.zl) = false := by simp; omega
      by_cases h6 : p.rh - p.rl ≤ 4
      case neg =>
        have hd : decide ((4 : Int) < p.rh - p.rl) = true := by simp; omega
        have hq : decide (p.rh - p.rl ≤ 4) = false := by simpa using h6
        go_wp2
        go_ret
        refine ⟨?_, HB4.out⟩
        rw [show validB p = false from by simp [validB, okZR, hq]]
        rfl
      have hd6 : decide ((4 : Int) < p.rh - p.rl) = false := by simp; omega
      have HZR : Hid (okZR p = true) := by show _ = _; simp [okZR, h3, h4, h5, h6]
      clear h3 h4 h5 h6
      go_wp2_with fail
      clear hd5 hd6 hwz hwr hz1 hz2 hz3 hr1 hr2 hr3 c0 c1 c2 c3 c4 c5
      go_loopw [4] (fun i wr => ∃ k : Nat, k ≤ p.rs.length ∧ i = .int .i64 k ∧ (p.rs.take k).all (okRd p.bs.length) = true ∧ wr.heap[w.heap.size]? = some (pairObj p (.slice ao p.bs.length cap) (.slice ao2 p.rs.length cap2)) ∧ Below w.heap.size w wr) (fun i _ => p.rs.length - (intOf i).toNat)
      case atStart => exact ⟨0, by omega, rfl, by simp, HRW4.out, HB4.out⟩
      case round =>
        obtain ⟨k, hk, rfl, hra, hrow, hb⟩ := hrel
        have HRW := Lib.hid hrow
        have HB := Lib.hid hb
        have HRA := Lib.hid hra
        have hlr := lt_of_block hrow
        unfold pairObj pairRow at hrow
        clear hb hra
        by_cases hlk : k < p.rs.length
        · skip
          have c0 : wr.cell? ⟨w.heap.size, 0, none⟩ = some (.slice ao p.bs.length cap) := by rw [cell_of_row wr _ _ _ _ _ hrow]; rfl
          have c1 : wr.cell? ⟨w.heap.size, 1, none⟩ = some (.int .i64 p.zl) := by rw [cell_of_row wr _ _ _ _ _ hrow]; rfl
          have c2 : wr.cell? ⟨w.heap.size, 2, none⟩ = some (.int .i64 p.zh) := by rw [cell_of_row wr _ _ _ _ _ hrow]; rfl
          have c3 : wr.cell? ⟨w.heap.size, 3, none⟩ = some (.int .i64 p.rl) := by rw [cell_of_row wr _ _ _ _ _ hrow]; rfl
          have c4 : wr.cell? ⟨w.heap.size, 4, none⟩ = some (.int .i64 p.rh) := by rw [cell_of_row wr _ _ _ _ _ hrow]; rfl
          have c5 : wr.cell? ⟨w.heap.size, 5, none⟩ = some (.slice ao2 p.rs.length cap2) := by rw [cell_of_row wr _ _ _ _ _ hrow]; rfl
          have hcs : ∀ o, (wr.alloc o).cell? ⟨w.heap.size, 0, none⟩ = some (.slice ao p.bs.length cap) ∧ (wr.alloc o).cell? ⟨w.heap.size, 1, none⟩ = some (.int .i64 p.zl) ∧ (wr.alloc o).cell? ⟨w.heap.size, 2, none⟩ = some (.int .i64 p.zh) ∧ (wr.alloc o).cell? ⟨w.heap.size, 3, none⟩ = some (.int .i64 p.rl) ∧ (wr.alloc o).cell? ⟨w.heap.size, 4, none⟩ = some (.int .i64 p.rh) ∧ (wr.alloc o).cell? ⟨w.heap.size, 5, none⟩ = some (.slice ao2 p.rs.length cap2) := by
            intro o
            have hr' := (hget_old wr o _ (by omega)).trans hrow
            refine ⟨?_, ?_, ?_, ?_, ?_, ?_⟩ <;> (rw [cell_of_row _ _ _ _ _ _ hr']; rfl)
          have d0 := fun o => (hcs o).1
          have d1 := fun o => (hcs o).2.1
          have d2 := fun o => (hcs o).2.2.1
          have d3 := fun o => (hcs o).2.2.2.1
          have d4 := fun o => (hcs o).2.2.2.2.1
          have d5 := fun o => (hcs o).2.2.2.2.2
          clear hrow hcs
          obtain ⟨b, off, rfl, hr, hbl, e1, e2, e3, e4, e5⟩ := HE2.out k hlk
          have f1 := (HB.out.cell (p := ⟨b, off + k * 5, none⟩) hbl).trans e1
          have f2 := (HB.out.cell (p := ⟨b, off + k * 5 + 1, none⟩) hbl).trans e2
          have f3 := (HB.out.cell (p := ⟨b, off + k * 5 + 2, none⟩) hbl).trans e3
          have f4 := (HB.out.cell (p := ⟨b, off + k * 5 + 3, none⟩) hbl).trans e4
          have f5 := (HB.out.cell (p := ⟨b, off + k * 5 + 4, none⟩) hbl).trans e5
          clear e1 e2 e3 e4 e5
          have HTA := Lib.hid (take_all p.rs (okRd p.bs.length) k hlk HRA.out)
          have HAF := Lib.hid (all_false p.rs (okRd p.bs.length) k hlk)
          generalize p.rs[k] = rd at *
          obtain ⟨ra, rb, rm, rlo, rhi⟩ := rd
          have HNO : Hid (okRd p.bs.length ⟨ra, rb, rm, rlo, rhi⟩ = false → validB p = false) := fun h => (by simp only [validB, HAF.out h, Bool.and_false])
          clear HAF
          have hszr := HB.out.size
          obtain ⟨w5, hW5⟩ : ∃ w5, w5 = wr.alloc (.cells #[.int .i64 ra, .int .i64 rb, .int .i64 rm, .int .i64 rlo, .int .i64 rhi] 48 (0, 0)) := ⟨_, rfl⟩
          have HB5 := Lib.hid (show Below w.heap.size w w5 by rw [hW5]; exact HB.out.alloc hszr _)
          have HR5 := Lib.hid (show w5.heap[w.heap.size]? = some (pairObj p (.slice ao p.bs.length cap) (.slice (some ⟨b, off, none⟩) p.rs.length cap2)) by rw [hW5]; exact (hget_old wr _ _ (by omega)).trans HRW.out)
          have HQ5 := Lib.hid (show w5.heap[wr.heap.size]? = some (.cells #[.int .i64 ra, .int .i64 rb, .int .i64 rm, .int .i64 rlo, .int .i64 rhi] 48 (0, 0)) by rw [hW5]; exact heap_alloc_at _ _ _ rfl)
          go_wp2_with fail
          rw [← hW5]
          clear hW5 d0 d1 d2 d3 d4 d5 f1 f2 f3 f4 f5
          have g0 := True.intro
          have g1 := True.intro
          have g2 := True.intro
          have g3 := True.intro
          have g4 := True.intro
          refine (rblock_any p p.bs.length cap ao _ (by omega) ra _).mono ?_
          rintro e w6 ⟨rfl, hbx⟩
          have HB6 := Lib.hid (HB5.out.trans (hbx.mono HB5.out.size))
          have hrq := (hbx.block w.heap.size (lt_of_block HR5.out)).trans HR5.out
          have hqq := (hbx.block wr.heap.size (lt_of_block HQ5.out)).trans HQ5.out
          have HR6 := Lib.hid hrq
          have HQ6 := Lib.hid hqq
          clear hbx c0 c1 c2 c3 c4 c5 g0 g1 g2 g3 g4
          unfold pairObj pairRow at hrq
          have c0 : w6.cell? ⟨w.heap.size, 0, none⟩ = some (.slice ao p.bs.length cap) := by rw [cell_of_row w6 _ _ _ _ _ hrq]; rfl
          have c1 : w6.cell? ⟨w.heap.size, 1, none⟩ = some (.int .i64 p.zl) := by rw [cell_of_row w6 _ _ _ _ _ hrq]; rfl
          have c2 : w6.cell? ⟨w.heap.size, 2, none⟩ = some (.int .i64 p.zh) := by rw [cell_of_row w6 _ _ _ _ _ hrq]; rfl
          have c3 : w6.cell? ⟨w.heap.size, 3, none⟩ = some (.int .i64 p.rl) := by rw [cell_of_row w6 _ _ _ _ _ hrq]; rfl
          have c4 : w6.cell? ⟨w.heap.size, 4, none⟩ = some (.int .i64 p.rh) := by rw [cell_of_row w6 _ _ _ _ _ hrq]; rfl
          have c5 : w6.cell? ⟨w.heap.size, 5, none⟩ = some (.slice (some ⟨b, off, none⟩) p.rs.length cap2) := by rw [cell_of_row w6 _ _ _ _ _ hrq]; rfl
          have g0 : w6.cell? ⟨wr.heap.size, 0, none⟩ = some (.int .i64 ra) := by rw [cell_of_row w6 _ _ _ _ _ hqq]; rfl
          have g1 : w6.cell? ⟨wr.heap.size, 1, none⟩ = some (.int .i64 rb) := by rw [cell_of_row w6 _ _ _ _ _ hqq]; rfl
          have g2 : w6.cell? ⟨wr.heap.size, 2, none⟩ = some (.int .i64 rm) := by rw [cell_of_row w6 _ _ _ _ _ hqq]; rfl
          have g3 : w6.cell? ⟨wr.heap.size, 3, none⟩ = some (.int .i64 rlo) := by rw [cell_of_row w6 _ _ _ _ _ hqq]; rfl
          have g4 : w6.cell? ⟨wr.heap.size, 4, none⟩ = some (.int .i64 rhi) := by rw [cell_of_row w6 _ _ _ _ _ hqq]; rfl
          clear hrq hqq
          cases k1 : inB ra 0 ((p.bs.length : Int) - 1) with
          | false =>
            go_wp2
            go_ret
            refine ⟨?_, HB6.out⟩
            rw [show validB p = false from HNO.out (by simp [okRd, k1])]
            rfl
          | true =>
          go_wp2_with fail
          refine (rblock_any p p.bs.length cap ao _ (by omega) rb _).mono ?_
          rintro e w7 ⟨rfl, hbx⟩
          have HB7 := Lib.hid (HB6.out.trans (hbx.mono HB6.out.size))
          have hrq := (hbx.block w.heap.size (lt_of_block HR6.out)).trans HR6.out
          have hqq := (hbx.block wr.heap.size (lt_of_block HQ6.out)).trans HQ6.out
          have HR7 := Lib.hid hrq
          have HQ7 := Lib.hid hqq
          clear hbx c0 c1 c2 c3 c4 c5 g0 g1 g2 g3 g4
          unfold pairObj pairRow at hrq
          have c0 : w7.cell? ⟨w.heap.size, 0, none⟩ = some (.slice ao p.bs.length cap) := by rw [cell_of_row w7 _ _ _ _ _ hrq]; rfl
          have c1 : w7.cell? ⟨w.heap.size, 1, none⟩ = some (.int .i64 p.zl) := by rw [cell_of_row w7 _ _ _ _ _ hrq]; rfl
          have c2 : w7.cell? ⟨w.heap.size, 2, none⟩ = some (.int .i64 p.zh) := by rw [cell_of_row w7 _ _ _ _ _ hrq]; rfl
          have c3 : w7.cell? ⟨w.heap.size, 3, none⟩ = some (.int .i64 p.rl) := by rw [cell_of_row w7 _ _ _ _ _ hrq]; rfl
          have c4 : w7.cell? ⟨w.heap.size, 4, none⟩ = some (.int .i64 p.rh) := by rw [cell_of_row w7 _ _ _ _ _ hrq]; rfl
          have c5 : w7.cell? ⟨w.heap.size, 5, none⟩ = some (.slice (some ⟨b, off, none⟩) p.rs.length cap2) := by rw [cell_of_row w7 _ _ _ _ _ hrq]; rfl
          have g0 : w7.cell? ⟨wr.heap.size, 0, none⟩ = some (.int .i64 ra) := by rw [cell_of_row w7 _ _ _ _ _ hqq]; rfl
          have g1 : w7.cell? ⟨wr.heap.size, 1, none⟩ = some (.int .i64 rb) := by rw [cell_of_row w7 _ _ _ _ _ hqq]; rfl
          have g2 : w7.cell? ⟨wr.heap.size, 2, none⟩ = some (.int .i64 rm) := by rw [cell_of_row w7 _ _ _ _ _ hqq]; rfl
          have g3 : w7.cell? ⟨wr.heap.size, 3, none⟩ = some (.int .i64 rlo) := by rw [cell_of_row w7 _ _ _ _ _ hqq]; rfl
          have g4 : w7.cell? ⟨wr.heap.size, 4, none⟩ = some (.int .i64 rhi) := by rw [cell_of_row w7 _ _ _ _ _ hqq]; rfl
          clear hrq hqq
          cases k2 : inB rb 0 ((p.bs.length : Int) - 1) with
          | false =>
            go_wp2
            go_ret
            refine ⟨?_, HB7.out⟩
            rw [show validB p = false from HNO.out (by simp [okRd, k2])]
            rfl
          | true =>
          by_cases k3 : ra = rb
          case pos =>
            have hd : (ra == rb) = true := by simpa using k3
            go_wp2
            go_ret
            refine ⟨?_, HB7.out⟩
            rw [show validB p = false from HNO.out (by simp [okRd, k3])]
            rfl
          have hd3 : (ra == rb) = false := by simpa using k3
          go_wp2_with fail
          refine (rminute_any rm w7).mono ?_
          rintro e w' ⟨rfl, rfl⟩
          cases k4 : inB rm 0 60 with
          | false =>
            go_wp2
            go_ret
            refine ⟨?_, HB7.out⟩
            rw [show validB p = false from HNO.out (by simp [okRd, k4])]
            rfl
          | true =>
          go_wp2_with fail
          refine (rspan_any rlo rhi 80 (by omega) w7).mono ?_
          rintro e w8 ⟨rfl, hbx⟩
          have HB8 := Lib.hid (HB7.out.trans (hbx.mono HB7.out.size))
          have hrq := (hbx.block w.heap.size (lt_of_block HR7.out)).trans HR7.out
          have hqq := (hbx.block wr.heap.size (lt_of_block HQ7.out)).trans HQ7.out
          have HR8 := Lib.hid hrq
          have HQ8 := Lib.hid hqq
          clear hbx c0 c1 c2 c3 c4 c5 g0 g1 g2 g3 g4
          unfold pairObj pairRow at hrq
          have c0 : w8.cell? ⟨w.heap.size, 0, none⟩ = some (.slice ao p.bs.length cap) := by rw [cell_of_row w8 _ _ _ _ _ hrq]; rfl
          have c1 : w8.cell? ⟨w.heap.size, 1, none⟩ = some (.int .i64 p.zl) := by rw [cell_of_row w8 _ _ _ _ _ hrq]; rfl
          have c2 : w8.cell? ⟨w.heap.size, 2, none⟩ = some (.int .i64 p.zh) := by rw [cell_of_row w8 _ _ _ _ _ hrq]; rfl
          have c3 : w8.cell? ⟨w.heap.size, 3, none⟩ = some (.int .i64 p.rl) := by rw [cell_of_row w8 _ _ _ _ _ hrq]; rfl
          have c4 : w8.cell? ⟨w.heap.size, 4, none⟩ = some (.int .i64 p.rh) := by rw [cell_of_row w8 _ _ _ _ _ hrq]; rfl
          have c5 : w8.cell? ⟨w.heap.size, 5, none⟩ = some (.slice (some ⟨b, off, none⟩) p.rs.length cap2) := by rw [cell_of_row w8 _ _ _ _ _ hrq]; rfl
          have g0 : w8.cell? ⟨wr.heap.size, 0, none⟩ = some (.int .i64 ra) := by rw [cell_of_row w8 _ _ _ _ _ hqq]; rfl
          have g1 : w8.cell? ⟨wr.heap.size, 1, none⟩ = some (.int .i64 rb) := by rw [cell_of_row w8 _ _ _ _ _ hqq]; rfl
          have g2 : w8.cell? ⟨wr.heap.size, 2, none⟩ = some (.int .i64 rm) := by rw [cell_of_row w8 _ _ _ _ _ hqq]; rfl
          have g3 : w8.cell? ⟨wr.heap.size, 3, none⟩ = some (.int .i64 rlo) := by rw [cell_of_row w8 _ _ _ _ _ hqq]; rfl
          have g4 : w8.cell? ⟨wr.heap.size, 4, none⟩ = some (.int .i64 rhi) := by rw [cell_of_row w8 _ _ _ _ _ hqq]; rfl
          clear hrq hqq
          cases k5 : okSpan rlo rhi 80 with
          | false =>
            go_wp2
            go_ret
            refine ⟨?_, HB8.out⟩
            rw [show validB p = false from HNO.out (by simp [okRd, k5])]
            rfl
          | true =>
          have hok : okRd p.bs.length ⟨ra, rb, rm, rlo, rhi⟩ = true := by simp [okRd, k1, k2, k3, k4, k5]
          have HOK := Lib.hid hok
          clear hok k1 k2 k3 k4 k5 hd3
          go_wp2
          exact ⟨⟨k + 1, by omega, by go_num, HTA.out.trans HOK.out, HR8.out, HB8.out⟩, by simp [intOf]; omega⟩
        · obtain rfl : k = p.rs.length := by omega
          have hrall := HRA.out
          rw [List.take_length] at hrall
          have hv : validB p = true := by simp only [validB, HHD.out, HAB.out, HZR.out, hrall, Bool.and_self]
          have HV := Lib.hid hv
          have c0 : wr.cell? ⟨w.heap.size, 0, none⟩ = some (.slice ao p.bs.length cap) := by rw [cell_of_row wr _ _ _ _ _ hrow]; rfl
          have c1 : wr.cell? ⟨w.heap.size, 1, none⟩ = some (.int .i64 p.zl) := by rw [cell_of_row wr _ _ _ _ _ hrow]; rfl
          have c2 : wr.cell? ⟨w.heap.size, 2, none⟩ = some (.int .i64 p.zh) := by rw [cell_of_row wr _ _ _ _ _ hrow]; rfl
          have c3 : wr.cell? ⟨w.heap.size, 3, none⟩ = some (.int .i64 p.rl) := by rw [cell_of_row wr _ _ _ _ _ hrow]; rfl
          have c4 : wr.cell? ⟨w.heap.size, 4, none⟩ = some (.int .i64 p.rh) := by rw [cell_of_row wr _ _ _ _ _ hrow]; rfl
          have c5 : wr.cell? ⟨w.heap.size, 5, none⟩ = some (.slice ao2 p.rs.length cap2) := by rw [cell_of_row wr _ _ _ _ _ hrow]; rfl
          clear hv hrall HRA hrow
          go_wp2
          go_ret
          refine ⟨?_, HB.out⟩
          rw [HV.out]
          rfl

end Go.Proofs.Ytabbmihakoeegaa

/- A pair that comes in as an argument (plain). -/
namespace Go.Proofs.Ytabbmihakoeegaa
set_option linter.unusedVariables false
set_option linter.unusedSimpArgs false
open Go.ChangeShapes Go.WideShapes Go.ChangeAt Go.RowKit Go.Deep

theorem choose_list {α : Type} {Q : Nat → α → Prop} : ∀ n : Nat, (∀ i, i < n → ∃ x, Q i x) → ∃ l : List α, l.length = n ∧ ∀ i (h : i < l.length), Q i l[i]
  | 0, _ => ⟨[], rfl, fun i h => absurd h (by simp)⟩
  | n + 1, h => by
    obtain ⟨l, hl, hq⟩ := choose_list n (fun i hi => h i (by omega))
    obtain ⟨x, hx⟩ := h n (by omega)
    refine ⟨l ++ [x], by simp [hl], fun i hi => ?_⟩
    by_cases hin : i < l.length
    · rw [List.getElem_append_left hin]; exact hq i hin
    · have : i = n := by simp at hi; omega
      subst this
      rw [List.getElem_append_right (by omega)]
      simpa [hl] using hx
theorem addr_of_cell {w : World} {a : Addr} {v : Value} (h : w.cell? a = some v) : a = ⟨a.block, a.off, none⟩ ∧ a.block < w.heap.size := by
  obtain ⟨b, o, s⟩ := a
  unfold World.cell? at h
  cases hh : w.heap[b]? with
  | none => rw [hh] at h; simp at h
  | some ob =>
    rw [hh] at h
    refine ⟨?_, (Array.getElem?_eq_some_iff.1 hh).1⟩
    cases s with
    | none => rfl
    | some s => cases ob <;> simp at h

section
variable {H : Type} {enc : TypeId × Value → H} {w : World} {base : Nat} {spare : Nat → Bool} {held : Bool}
theorem open_int2 {n : Nat} {t : TypeId} {v : Value} {x : DataW H × List MemPlace} (ht : Try.prog.underlying t = some (.int .i64)) (h : DataW.trod enc Try.prog w base spare held n t [v] = some x) : ∃ i, v = .int .i64 i := by
  obtain ⟨i, hi, _⟩ := DataW.trod_int ht h
  exact ⟨i, by simpa using hi⟩
theorem under3 : Try.prog.underlying 3 = some (.int .i64) := by kernel_rfl
theorem cells_int : Try.prog.cellsOf 3 = 1 := by kernel_rfl
theorem cells_span : Try.prog.cellsOf 24 = 2 := by kernel_rfl
theorem cells_read : Try.prog.cellsOf 48 = 5 := by kernel_rfl
theorem cells_spans : Try.prog.cellsOf 22 = 1 := by kernel_rfl
theorem cells_reads : Try.prog.cellsOf 25 = 1 := by kernel_rfl
theorem cells_pair : Try.prog.cellsOf 27 = 6 := by kernel_rfl
set_option maxRecDepth 100000 in
theorem open_spanV {n : Nat} {cs : List Value} {x : DataW H × List MemPlace} (h : DataW.trod enc Try.prog w base spare held n 24 cs = some x) : ∃ a b, cs = [.int .i64 a, .int .i64 b] := by
  obtain ⟨xs, m, _, _, hl, hx, hf⟩ := DataW.trod_struct Try.underlying24 h
  rw [cells_span] at hl
  match cs, hl with
  | [c0, c1], _ =>
    have h0 := hf 0 _ rfl
    have h1 := hf 1 _ rfl
    have hxl : xs.length = 2 := hx
    match xs, hxl with
    | [y0, y1], _ =>
      have e0 : DataW.trod enc Try.prog w base spare held m 3 [c0] = some y0 := by
        change DataW.trod enc Try.prog w base spare held m 3 (List.take (Try.prog.cellsOf 3) (List.drop 0 [c0, c1])) = some y0 at h0
        rw [cells_int] at h0
        exact h0
      have e1 : DataW.trod enc Try.prog w base spare held m 3 [c1] = some y1 := by
        change DataW.trod enc Try.prog w base spare held m 3 (List.take (Try.prog.cellsOf 3) (List.drop 1 [c0, c1])) = some y1 at h1
        rw [cells_int] at h1
        exact h1
      obtain ⟨a, rfl⟩ := open_int2 under3 e0
      obtain ⟨b, rfl⟩ := open_int2 under3 e1
      exact ⟨a, b, rfl⟩
set_option maxRecDepth 100000 in
theorem open_readV {n : Nat} {cs : List Value} {x : DataW H × List MemPlace} (h : DataW.trod enc Try.prog w base spare held n 48 cs = some x) : ∃ r : RdD, cs = rdC r := by
  obtain ⟨xs, m, _, _, hl, hx, hf⟩ := DataW.trod_struct Try.underlying48 h
  rw [cells_read] at hl
  match cs, hl with
  | [c0, c1, c2, c3, c4], _ =>
    have h0 := hf 0 _ rfl
    have h1 := hf 1 _ rfl
    have h2 := hf 2 _ rfl
    have h3 := hf 3 _ rfl
    have hxl : xs.length = 4 := hx
    match xs, hxl with
    | [y0, y1, y2, y3], _ =>
      have e0 : DataW.trod enc Try.prog w base spare held m 3 [c0] = some y0 := by
        change DataW.trod enc Try.prog w base spare held m 3 (List.take (Try.prog.cellsOf 3) (List.drop 0 [c0, c1, c2, c3, c4])) = some y0 at h0
        rw [cells_int] at h0
        exact h0
      have e1 : DataW.trod enc Try.prog w base spare held m 3 [c1] = some y1 := by
        change DataW.trod enc Try.prog w base spare held m 3 (List.take (Try.prog.cellsOf 3) (List.drop 1 [c0, c1, c2, c3, c4])) = some y1 at h1
        rw [cells_int] at h1
        exact h1
      have e2 : DataW.trod enc Try.prog w base spare held m 3 [c2] = some y2 := by
        change DataW.trod enc Try.prog w base spare held m 3 (List.take (Try.prog.cellsOf 3) (List.drop 2 [c0, c1, c2, c3, c4])) = some y2 at h2
        rw [cells_int] at h2
        exact h2
      have e3 : DataW.trod enc Try.prog w base spare held m 24 [c3, c4] = some y3 := by
        change DataW.trod enc Try.prog w base spare held m 24 (List.take (Try.prog.cellsOf 24) (List.drop 3 [c0, c1, c2, c3, c4])) = some y3 at h3
        rw [cells_span] at h3
        exact h3
      obtain ⟨a, rfl⟩ := open_int2 under3 e0
      obtain ⟨b, rfl⟩ := open_int2 under3 e1
      obtain ⟨c, rfl⟩ := open_int2 under3 e2
      obtain ⟨lo, hi, hs⟩ := open_spanV e3
      simp only [List.cons.injEq, and_true] at hs
      obtain ⟨rfl, rfl⟩ := hs
      exact ⟨⟨a, b, c, lo, hi⟩, rfl⟩
set_option maxRecDepth 100000 in
theorem open_spansV {n : Nat} {v : Value} {x : DataW H × List MemPlace} (h : DataW.trod enc Try.prog w base spare held n 22 [v] = some x) : ∃ l, SpansAt w v l (fun k => k < w.heap.size) := by
  rcases open_slice Try.underlying22 h with ⟨h1, _⟩ | ⟨a, len, cap, m, k, D, Pl, h1, _, h2, h3, h4, _, h5⟩
  · exact ⟨[], none, 0, by simpa using h1, by simp, by simp, fun i hi => absurd hi (by simp)⟩
  · have hv : v = .slice (some a) len cap := by simpa using h1
    have hlm : len ≤ m := by rw [h4]; split <;> omega
    by_cases h0 : len = 0
    · subst h0
      exact ⟨[], some a, cap, hv, by simp, h3, fun i hi => absurd hi (by simp)⟩
    have hcells : ∀ i, i < len → ∃ s : Int × Int, w.cell? (a.add (i * 2)) = some (.int .i64 s.1) ∧ w.cell? (a.add (i * 2 + 1)) = some (.int .i64 s.2) := fun i hi => by
      obtain ⟨cs', hc, ht⟩ := h5 i (by omega)
      rw [cells_span] at hc
      obtain ⟨lo, hi', rfl⟩ := open_spanV ht
      obtain ⟨_, _, hat⟩ := World.cells?_some hc
      have a0 := hat 0 (by omega)
      have a1 := hat 1 (by omega)
      rw [Go.Deep.add_add] at a0 a1
      exact ⟨(lo, hi'), a0, a1⟩
    obtain ⟨s0, hs0, _⟩ := hcells 0 (by omega)
    obtain ⟨hae, hab⟩ := addr_of_cell (a := a) hs0
    obtain ⟨l, hl, hq⟩ := choose_list (Q := fun i (s : Int × Int) => w.cell? ⟨a.block, a.off + i * 2, none⟩ = some (.int .i64 s.1) ∧ w.cell? ⟨a.block, a.off + i * 2 + 1, none⟩ = some (.int .i64 s.2)) len (fun i hi => by
      obtain ⟨s, e1, e2⟩ := hcells i hi
      rw [hae, Addr.add_mid] at e1 e2
      exact ⟨s, e1, by rw [Nat.add_assoc]; exact e2⟩)
    refine ⟨l, some a, cap, by rw [hv, hl], by omega, h3, fun i hi => ?_⟩
    obtain ⟨e3, e4⟩ := hq i hi
    exact ⟨a.block, a.off, by rw [← hae], hab, hab, e3, e4⟩
set_option maxRecDepth 100000 in
theorem open_readsV {n : Nat} {v : Value} {x : DataW H × List MemPlace} (h : DataW.trod enc Try.prog w base spare held n 25 [v] = some x) : ∃ l, ReadsAt w v l (fun k => k < w.heap.size) := by
  rcases open_slice Try.underlying25 h with ⟨h1, _⟩ | ⟨a, len, cap, m, k, D, Pl, h1, _, h2, h3, h4, _, h5⟩
  · exact ⟨[], none, 0, by simpa using h1, by simp, by simp, fun i hi => absurd hi (by simp)⟩
  · have hv : v = .slice (some a) len cap := by simpa using h1
    have hlm : len ≤ m := by rw [h4]; split <;> omega
    by_cases h0 : len = 0
    · subst h0
      exact ⟨[], some a, cap, hv, by simp, h3, fun i hi => absurd hi (by simp)⟩
    have hcells : ∀ i, i < len → ∃ r : RdD, ∀ q, q < 5 → w.cell? (a.add (i * 5 + q)) = (rdC r)[q]? := fun i hi => by
      obtain ⟨cs', hc, ht⟩ := h5 i (by omega)
      rw [cells_read] at hc
      obtain ⟨r, rfl⟩ := open_readV ht
      obtain ⟨_, _, hat⟩ := World.cells?_some hc
      refine ⟨r, fun q hq => ?_⟩
      have a0 := hat q hq
      rw [Go.Deep.add_add] at a0
      exact a0
    obtain ⟨s0, hs0⟩ := hcells 0 (by omega)
    obtain ⟨hae, hab⟩ := addr_of_cell (a := a) (hs0 0 (by omega))
    obtain ⟨l, hl, hq⟩ := choose_list (Q := fun i (s : RdD) => ∀ q, q < 5 → w.cell? ⟨a.block, a.off + (i * 5 + q), none⟩ = (rdC s)[q]?) len (fun i hi => by
      obtain ⟨s, e1⟩ := hcells i hi
      refine ⟨s, fun q hq => ?_⟩
      have := e1 q hq
      rw [hae, Addr.add_mid] at this
      exact this)
    refine ⟨l, some a, cap, by rw [hv, hl], by omega, h3, fun i hi => ?_⟩
    have e := hq i hi
    exact ⟨a.block, a.off, by rw [← hae], hab, hab, e 0 (by omega), e 1 (by omega), e 2 (by omega), e 3 (by omega), e 4 (by omega)⟩
set_option maxRecDepth 100000 in
theorem open_pair {r : Reach} {b0 : Nat} {v : Value} {d : DataW H} {ps : List MemPlace} (hv : Value.okWide Try.prog w r b0 27 v) (h : DataW.Trod enc Try.prog w base spare held 27 v d ps) : ∃ p bs rs, v = .agg (pairRow p bs rs) ∧ PairAt w p bs rs := by
  obtain ⟨cs, rfl, hsz⟩ := okWide_struct Try.underlying27 hv
  obtain ⟨l⟩ := cs
  obtain ⟨fuel, hf⟩ := h
  obtain ⟨xs, m, _, _, hl, hx, hg⟩ := DataW.trod_struct Try.underlying27 hf
  match l, hsz.trans cells_pair with
  | [c0, c1, c2, c3, c4, c5], _ =>
    have h0 := hg 0 _ rfl
    have h1 := hg 1 _ rfl
    have h2 := hg 2 _ rfl
    have h3 := hg 3 _ rfl
    have hxl : xs.length = 4 := hx
    match xs, hxl with
    | [y0, y1, y2, y3], _ =>
      have e0 : DataW.trod enc Try.prog w base spare held m 22 [c0] = some y0 := by
        change DataW.trod enc Try.prog w base spare held m 22 (List.take (Try.prog.cellsOf 22) (List.drop 0 [c0, c1, c2, c3, c4, c5])) = some y0 at h0
        rw [cells_spans] at h0
        exact h0
      have e1 : DataW.trod enc Try.prog w base spare held m 24 [c1, c2] = some y1 := by
        change DataW.trod enc Try.prog w base spare held m 24 (List.take (Try.prog.cellsOf 24) (List.drop 1 [c0, c1, c2, c3, c4, c5])) = some y1 at h1
        rw [cells_span] at h1
        exact h1
      have e2 : DataW.trod enc Try.prog w base spare held m 24 [c3, c4] = some y2 := by
        change DataW.trod enc Try.prog w base spare held m 24 (List.take (Try.prog.cellsOf 24) (List.drop 3 [c0, c1, c2, c3, c4, c5])) = some y2 at h2
        rw [cells_span] at h2
        exact h2
      have e3 : DataW.trod enc Try.prog w base spare held m 25 [c5] = some y3 := by
        change DataW.trod enc Try.prog w base spare held m 25 (List.take (Try.prog.cellsOf 25) (List.drop 5 [c0, c1, c2, c3, c4, c5])) = some y3 at h3
        rw [cells_reads] at h3
        exact h3
      obtain ⟨bl, hbl⟩ := open_spansV e0
      obtain ⟨rl, hrl⟩ := open_readsV e3
      obtain ⟨zl, zh, hz⟩ := open_spanV e1
      obtain ⟨ql, qh, hq⟩ := open_spanV e2
      simp only [List.cons.injEq, and_true] at hz hq
      obtain ⟨rfl, rfl⟩ := hz
      obtain ⟨rfl, rfl⟩ := hq
      exact ⟨⟨bl, zl, zh, ql, qh, rl⟩, c0, c5, rfl, ⟨hbl, hrl⟩⟩
end

end Go.Proofs.Ytabbmihakoeegaa

/- Arguments that read as they did (plain). -/
namespace Go.Proofs.Ytabbmihakoeegaa
set_option linter.unusedVariables false
set_option linter.unusedSimpArgs false
open Go.ChangeShapes Go.WideShapes Go.ChangeAt Go.RowKit

theorem laid_out : laidOutB Try.prog = true := by kernel_rfl
theorem trodAll_stays {H : Type} {enc : TypeId × Value → H} {P : Program} (hl : laidOutB P = true) {W W' : World} {sp : Nat → Bool} : ∀ {ts : List TypeId} {vs : List Value} {ds : List (DataW H)} {ps : List MemPlace},
    (∀ t ∈ ts, P.readableRec t = true ∧ t < P.types.size) → DataW.TrodAll enc P W 0 (fun _ => true) true ts vs ds ps → Below W.heap.size W W' → (∀ x ∈ ps, x.block < W.heap.size) → (∀ x ∈ ps, sp x.block = true) → DataW.TrodAll enc P W' 0 sp true ts vs ds ps
  | [], [], [], _, _, h, _, _, _ => h
  | t :: ts, _ :: _, _ :: _, _, hT, ⟨p, q, h1, h2, e⟩, hb, hlt, hs =>
    ⟨p, q, WideElems.Trod_stays hl (hT t List.mem_cons_self).1 (hT t List.mem_cons_self).2 h1 (fun x hx => hb.same (hlt x (by rw [e]; exact List.mem_append_left _ hx))) (fun x hx => hs x (by rw [e]; exact List.mem_append_left _ hx)),
      trodAll_stays hl (fun t' ht' => hT t' (List.mem_cons_of_mem _ ht')) h2 hb (fun x hx => hlt x (by rw [e]; exact List.mem_append_right _ hx)) (fun x hx => hs x (by rw [e]; exact List.mem_append_right _ hx)), e⟩
set_option maxRecDepth 100000 in
theorem lawEnd {H : Type} {enc : TypeId × Value → H} {f : Func} {s : ChangeSpec} {W W' : World} {args : Array Value} {ds : List (DataW H)} {p : List MemPlace} {ts : List TypeId}
    (hW : DataW.Whole enc Try.prog f.params.toList s.vars false W args.toList ds [] p) (hvs : s.vars = []) (hA : DataW.TrodAll enc Try.prog W 0 (fun _ => true) true ts args.toList ds p) (hts : f.params.toList = ts)
    (hT : ∀ t ∈ ts, Try.prog.readableRec t = true ∧ t < Try.prog.types.size)
    (hfn : s.fn H (ds ++ []) = { results := [.lit (.bool true)], args := ds }) (hr : f.resultTypes = #[4]) (hb : Below W.heap.size W W') :
    s.post enc Try.prog f false true false false W args (.bool true) W' := by
  refine post_of_below (pa := p) (pv := []) hW (fun b sp hd => ?_) (fun sp hsp => ?_) (fun sp _ => ?_) (List.append_nil p).symm hb (ok_one hr rfl (okWide_bool_mk Try.underlying4 _))
  · rw [hr, hfn]
    exact trodAll_cons_mk (shut_bool Try.underlying4 _) trodAll_mk0
  · rw [hfn, hts]
    exact trodAll_stays laid_out hT hA hb (fun x hx => by simpa using hW.lt x hx) hsp
  · rw [hfn, hvs]
    rfl

end Go.Proofs.Ytabbmihakoeegaa

/- Numbers of eight bits as arguments (plain). -/
namespace Go.Proofs.Ytabbmihakoeegaa
set_option linter.unusedVariables false
set_option linter.unusedSimpArgs false
open Go.ChangeShapes Go.WideShapes Go.ChangeAt Go.RowKit

theorem under_u8 : Try.prog.underlying 5 = some (.int .u8) := by kernel_rfl
theorem u8_range {n : Int} (h : (Lit.int .u8 n).wf = true) : 0 ≤ n ∧ n < 256 := by
  have h1 : (decide (IntKind.u8.min ≤ n) && decide (n ≤ IntKind.u8.max)) = true := h
  rw [Bool.and_eq_true, decide_eq_true_eq, decide_eq_true_eq, show IntKind.u8.min = 0 by decide, show IntKind.u8.max = 255 by decide] at h1
  omega

end Go.Proofs.Ytabbmihakoeegaa
