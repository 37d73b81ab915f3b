/- Texts To, Pa, Td, Pc in one file; each begins with a word on what it proves. -/
import Derived.Test.YtlgeggekmdoceaaKh
import Derived.Test.YtlgeggekmdoceaaKi
import Derived.Test.YtlgeggekmdoceaaKj

/- Numbers of eight bits as arguments (plain). -/
namespace Go.Proofs.Ytlgeggekmdoceaa
set_option linter.unusedVariables false
set_option linter.unusedSimpArgs false
open Go.ChangeShapes Go.WideShapes Go.ChangeAt Go.RowKit

theorem under_u8 : Try.prog.underlying 5 = some (.int .u8) := by kernel_rfl
theorem u8_range {n : Int} (h : (Lit.int .u8 n).wf = true) : 0 ≤ n ∧ n < 256 := by
  have h1 : (decide (IntKind.u8.min ≤ n) && decide (n ≤ IntKind.u8.max)) = true := h
  rw [Bool.and_eq_true, decide_eq_true_eq, decide_eq_true_eq, show IntKind.u8.min = 0 by decide, show IntKind.u8.max = 255 by decide] at h1
  omega

end Go.Proofs.Ytlgeggekmdoceaa

/- What is told of a valid pair, in terms of its truths (plain). -/
namespace Go.Proofs.Ytlgeggekmdoceaa
set_option linter.unusedVariables false
set_option linter.unusedSimpArgs false

theorem mem_comps (zl zh rl rh : Int) (c : Int × Int) : c ∈ comps zl zh rl rh ↔ zl ≤ c.1 ∧ c.1 ≤ zh ∧ rl ≤ c.2 ∧ c.2 ≤ rh := by
  unfold comps
  rw [List.mem_map]
  constructor
  · rintro ⟨k, hk, rfl⟩
    rw [List.mem_range] at hk
    have hpos : 0 < wideN rl rh := by
      rcases Nat.eq_zero_or_pos (wideN rl rh) with h | h
      · rw [h] at hk; simp at hk
      · exact h
    have h1 : k / wideN rl rh < wideN zl zh := Nat.div_lt_of_lt_mul (by rw [Nat.mul_comm]; exact hk)
    have h2 : k % wideN rl rh < wideN rl rh := Nat.mod_lt _ hpos
    generalize k / wideN rl rh = a at *
    generalize k % wideN rl rh = b at *
    unfold wideN at h1 h2
    dsimp only
    omega
  · rintro ⟨h1, h2, h3, h4⟩
    have ha : (c.1 - zl).toNat < wideN zl zh := by unfold wideN; omega
    have hb : (c.2 - rl).toNat < wideN rl rh := by unfold wideN; omega
    refine ⟨(c.1 - zl).toNat * wideN rl rh + (c.2 - rl).toNat, List.mem_range.2 ?_, ?_⟩
    · calc (c.1 - zl).toNat * wideN rl rh + (c.2 - rl).toNat < (c.1 - zl).toNat * wideN rl rh + wideN rl rh := by omega
        _ = ((c.1 - zl).toNat + 1) * wideN rl rh := by rw [Nat.add_mul]; omega
        _ ≤ wideN zl zh * wideN rl rh := Nat.mul_le_mul_right _ ha
    · have hpos : 0 < wideN rl rh := by omega
      rw [Nat.mul_comm, Nat.mul_add_div hpos, Nat.div_eq_of_lt hb, Nat.mul_add_mod, Nat.mod_eq_of_lt hb]
      apply Prod.ext <;> (dsimp only; omega)
/-- By how much two blocks differ, in a truth. -/
def dif (a b : Nat) (t : List Int × (Int × Int)) : Int := t.1.getD a 0 - t.1.getD b 0
def sho (m : Int) (t : List Int × (Int × Int)) : Int := showsC t.2.1 t.2.2 m
structure SpanOf (L : List (List Int × (Int × Int))) (f : List Int × (Int × Int) → Int) (S : Int × Int) : Prop where
  lo : ∃ t ∈ L, f t = S.1
  hi : ∃ t ∈ L, f t = S.2
  all : ∀ t ∈ L, S.1 ≤ f t ∧ f t ≤ S.2
theorem spanOf_is {L : List (List Int × (Int × Int))} (hne : L ≠ []) (f : List Int × (Int × Int) → Int) : SpanOf L f (hullOf (L.map fun t => (f t, f t))) := by
  obtain ⟨⟨a, ha, ha1⟩, ⟨b, hb, hb1⟩, hall⟩ := hullOf_is (L.map fun t => (f t, f t)) (by simpa using hne)
  obtain ⟨t, ht, rfl⟩ := List.mem_map.1 ha
  obtain ⟨u, hu, rfl⟩ := List.mem_map.1 hb
  exact ⟨⟨t, ht, ha1⟩, ⟨u, hu, hb1⟩, fun t ht => hall _ (List.mem_map.2 ⟨t, ht, rfl⟩)⟩
theorem SpanOf.eq {L : List (List Int × (Int × Int))} {f : List Int × (Int × Int) → Int} {S T : Int × Int} (h : SpanOf L f S) (k : SpanOf L f T) : S = T := by
  obtain ⟨t1, m1, e1⟩ := h.lo
  obtain ⟨t2, m2, e2⟩ := h.hi
  obtain ⟨u1, n1, f1⟩ := k.lo
  obtain ⟨u2, n2, f2⟩ := k.hi
  have a1 := k.all t1 m1
  have a2 := k.all t2 m2
  have a3 := h.all u1 n1
  have a4 := h.all u2 n2
  apply Prod.ext <;> omega
theorem hullD_spec {p : PairD} (hne : truA p ≠ []) (a b : Nat) : SpanOf (truA p) (dif a b) (hullD p a b) := spanOf_is hne (dif a b)
theorem hullS_spec {p : PairD} (hne : truA p ≠ []) (m : Int) : SpanOf (truA p) (sho m) (hullS p m) := spanOf_is hne (sho m)
theorem mem_truA {p : PairD} (hp : OkP p) (t : List Int × (Int × Int)) : t ∈ truA p ↔ t.2 ∈ comps p.zl p.zh p.rl p.rh ∧ t.1.length = p.bs.length ∧ TruthP p (allR p) t.2 (fun i => t.1.getD i 0) := mem_truthsL p hp (allR p) t.1 t.2
theorem truA_at {p : PairD} (hp : OkP p) {t : List Int × (Int × Int)} (ht : t ∈ truA p) (i : Nat) (hi : i < p.bs.length) : p.bs[i].1 ≤ t.1.getD i 0 ∧ t.1.getD i 0 ≤ p.bs[i].2 := ((mem_truA hp t).1 ht).2.2.bs i hi
theorem truA_out {p : PairD} (hp : OkP p) {t : List Int × (Int × Int)} (ht : t ∈ truA p) (i : Nat) (hi : p.bs.length ≤ i) : t.1.getD i 0 = 0 := by
  rw [List.getD_eq_getElem?_getD, List.getElem?_eq_none (by rw [((mem_truA hp t).1 ht).2.1]; exact hi)]; rfl
theorem truA_20 {p : PairD} (hp : OkP p) {t : List Int × (Int × Int)} (ht : t ∈ truA p) (i : Nat) : -20 ≤ t.1.getD i 0 ∧ t.1.getD i 0 ≤ 20 := by
  rcases Nat.lt_or_ge i p.bs.length with hi | hi
  · have := truA_at hp ht i hi
    have := hp.bs _ (List.getElem_mem hi)
    omega
  · rw [truA_out hp ht i hi]; omega
theorem hullD_40 {p : PairD} (hp : OkP p) (hne : truA p ≠ []) (a b : Nat) : -40 ≤ (hullD p a b).1 ∧ (hullD p a b).1 ≤ (hullD p a b).2 ∧ (hullD p a b).2 ≤ 40 := by
  have h := hullD_spec hne a b
  obtain ⟨t1, m1, e1⟩ := h.lo
  obtain ⟨t2, m2, e2⟩ := h.hi
  have := h.all t1 m1
  have := truA_20 hp m1 a
  have := truA_20 hp m1 b
  have := truA_20 hp m2 a
  have := truA_20 hp m2 b
  unfold dif at *
  omega
theorem hullD_self {p : PairD} (hne : truA p ≠ []) (a : Nat) : hullD p a a = (0, 0) := by
  refine (hullD_spec hne a a).eq ?_
  obtain ⟨t, l, e⟩ := List.exists_cons_of_ne_nil hne
  have hz : ∀ t, dif a a t = 0 := fun t => by unfold dif; omega
  exact ⟨⟨t, by rw [e]; exact List.mem_cons_self, hz t⟩, ⟨t, by rw [e]; exact List.mem_cons_self, hz t⟩, fun t _ => by rw [hz]; exact ⟨Int.le_refl _, Int.le_refl _⟩⟩
theorem hullD_back {p : PairD} (hne : truA p ≠ []) (a b : Nat) : hullD p b a = (-(hullD p a b).2, -(hullD p a b).1) := by
  refine (hullD_spec hne b a).eq ?_
  have h := hullD_spec hne a b
  have hz : ∀ t, dif b a t = - dif a b t := fun t => by unfold dif; omega
  obtain ⟨t1, m1, e1⟩ := h.lo
  obtain ⟨t2, m2, e2⟩ := h.hi
  exact ⟨⟨t2, m2, by rw [hz, e2]⟩, ⟨t1, m1, by rw [hz, e1]⟩, fun t ht => by have := h.all t ht; rw [hz]; dsimp only; omega⟩
/-! ### what the functions return, by cases -/
theorem okBl_nat {p : PairD} (i : Nat) : okBl p i = decide (i < p.bs.length) := by
  unfold okBl inB
  rw [decide_eq_decide]
  omega
theorem toldV_no {p : PairD} (hv : validB p = true) (hn : truA p = []) (h : Int × Int) : toldV p true h = ((0, 0), 10) := by
  unfold toldV
  rw [if_neg (by simp [hv]), if_neg (by simp), if_pos hn]
theorem toldV_yes {p : PairD} (hv : validB p = true) (hn : truA p ≠ []) (h : Int × Int) : toldV p true h = (h, 0) := by
  unfold toldV
  rw [if_neg (by simp [hv]), if_neg (by simp), if_neg hn]
theorem toldV_range {p : PairD} (hv : validB p = true) (h : Int × Int) : toldV p false h = ((0, 0), 2) := by
  unfold toldV
  rw [if_neg (by simp [hv]), if_pos rfl]
theorem differV_no {p : PairD} (hv : validB p = true) (hn : truA p = []) (a b : Nat) (ha : a < p.bs.length) (hb : b < p.bs.length) : differV p a b = ((0, 0), 10) := by
  unfold differV
  rw [okBl_nat, okBl_nat, decide_eq_true ha, decide_eq_true hb]
  exact toldV_no hv hn _
theorem differV_yes {p : PairD} (hv : validB p = true) (hn : truA p ≠ []) (a b : Nat) (ha : a < p.bs.length) (hb : b < p.bs.length) : differV p a b = (hullD p a b, 0) := by
  unfold differV
  rw [okBl_nat, okBl_nat, decide_eq_true ha, decide_eq_true hb, Int.toNat_natCast, Int.toNat_natCast]
  exact toldV_yes hv hn _
theorem knownV_no {p : PairD} (hv : validB p = true) (hn : truA p = []) (a : Nat) (ha : a < p.bs.length) : knownV p a = ((0, 0), 10) := by
  unfold knownV
  rw [okBl_nat, decide_eq_true ha]
  exact toldV_no hv hn _
theorem knownV_yes {p : PairD} (hv : validB p = true) (hn : truA p ≠ []) (a : Nat) (ha : a < p.bs.length) : knownV p a = (hullD p a 5, 0) := by
  unfold knownV
  rw [okBl_nat, decide_eq_true ha, Int.toNat_natCast]
  exact toldV_yes hv hn _
theorem showsV_no {p : PairD} (hv : validB p = true) (hn : truA p = []) (m : Int) (hm : 0 ≤ m ∧ m ≤ 60) : showsV p m = ((0, 0), 10) := by
  unfold showsV
  rw [show inB m 0 60 = true by unfold inB; rw [decide_eq_true_eq]; omega]
  exact toldV_no hv hn _
theorem showsV_yes {p : PairD} (hv : validB p = true) (hn : truA p ≠ []) (m : Int) (hm : 0 ≤ m ∧ m ≤ 60) : showsV p m = (hullS p m, 0) := by
  unfold showsV
  rw [show inB m 0 60 = true by unfold inB; rw [decide_eq_true_eq]; omega]
  exact toldV_yes hv hn _
theorem longV_no {p : PairD} (hv : validB p = true) (hn : truA p = []) : longV p = ((0, 0), 10) := by
  unfold longV
  rw [if_neg (by simp [hv]), if_pos hn]
theorem longV_yes {p : PairD} (hv : validB p = true) (hn : truA p ≠ []) : longV p = ((((setN (sureF p) p.bs.length : Nat) : Int), ((setN (canF p) p.bs.length : Nat) : Int)), 0) := by
  unfold longV
  rw [if_neg (by simp [hv]), if_neg hn]
  rfl
theorem leastV_no {p : PairD} (hv : validB p = true) (hn : truA p = []) : leastV p = ((0, 0, 0), 10) := by
  unfold leastV
  rw [if_neg (by simp [hv]), if_pos hn]
theorem leastV_one {p : PairD} (hv : validB p = true) (hn : truA p ≠ []) (h1 : p.bs.length ≤ 1) : leastV p = ((0, 0, 0), 4) := by
  unfold leastV
  rw [if_neg (by simp [hv]), if_neg hn, if_pos h1]
theorem leastV_yes {p : PairD} (hv : validB p = true) (hn : truA p ≠ []) (h1 : ¬ p.bs.length ≤ 1) : ∃ a b : Nat, a < b ∧ b < p.bs.length ∧ leastV p = (((a : Int), (b : Int), widT p a b), 0) ∧
    ∀ c d, c < d → d < p.bs.length → widT p c d < widT p a b ∨ (widT p c d = widT p a b ∧ (a < c ∨ (a = c ∧ b ≤ d))) := by
  unfold leastV
  rw [if_neg (by simp [hv]), if_neg hn, if_neg h1]
  rcases best_allT p (widT_nonneg p) p.bs.length with ⟨h2, _⟩ | ⟨a, b, h2, h3, h4⟩
  · exact absurd ⟨by omega, by omega⟩ (h2 0 1)
  · exact ⟨a, b, h2.1, h2.2, by rw [h3], fun c d h5 h6 => h4 c d ⟨h5, h6⟩⟩
theorem clashV_no {p : PairD} (hv : validB p = true) (hn : truA p ≠ []) : clashV p = (0, 4) := by
  unfold clashV
  rw [if_neg (by simp [hv]), if_pos]
  unfold someT
  unfold truA at hn
  cases h : truthsL p (allR p) with
  | nil => exact absurd h hn
  | cons => rfl
theorem clashV_yes {p : PairD} (hv : validB p = true) (hn : truA p = []) : clashV p = (((bestL (fun s => !someT p s) (allR p) (2 ^ p.rs.length) : Nat) : Int), 0) := by
  unfold clashV
  rw [if_neg (by simp [hv]), if_neg]
  unfold someT
  unfold truA at hn
  rw [hn]
  decide

end Go.Proofs.Ytlgeggekmdoceaa

/- The laws' small functions: inside, shows. -/
namespace Go.Proofs.Ytlgeggekmdoceaa
set_option linter.unusedVariables false
set_option linter.unusedSimpArgs false
open Go.RowKit Go.Shelf
attribute [local go_sem] Oper.semAt_some

def insB (n lo hi : Int) : Bool := decide (lo ≤ n) && decide (n ≤ hi)
theorem inside_any (n lo hi : Int) (w : World) : Calls Try.prog 36 #[.int .i64 n, .agg #[.int .i64 lo, .int .i64 hi]] w fun e w' => e = .returned (.bool (insB n lo hi)) ∧ Below w.heap.size w w' := by
  have HR : Hid (insB n lo hi = (decide (lo ≤ n) && decide (n ≤ hi))) := rfl
  have HA : Hid (∀ o, Below w.heap.size w (w.alloc o)) := fun o => (Below.refl _ _).alloc (Nat.le_refl _) _
  by_cases h1 : lo ≤ n
  · have hd1 : decide (lo ≤ n) = true := by simpa using h1
    by_cases h2 : n ≤ hi
    · have hd2 : decide (n ≤ hi) = true := by simpa using h2
      have HE : Hid (insB n lo hi = true) := by show _ = _; rw [HR.out, hd1, hd2]; rfl
      go_enter Try.func36, Try.ntmps36
      go_wp2
      go_ret
      exact ⟨by rw [HE.out]; rfl, HA.out _⟩
    · have hd2 : decide (n ≤ hi) = false := by simpa using h2
      have HE : Hid (insB n lo hi = false) := by show _ = _; rw [HR.out, hd1, hd2]; rfl
      go_enter Try.func36, Try.ntmps36
      go_wp2
      go_ret
      exact ⟨by rw [HE.out]; rfl, HA.out _⟩
  · have hd1 : decide (lo ≤ n) = false := by simpa using h1
    have HE : Hid (insB n lo hi = false) := by show _ = _; rw [HR.out, hd1]; rfl
    go_enter Try.func36, Try.ntmps36
    go_wp2
    go_ret
    exact ⟨by rw [HE.out]; rfl, HA.out _⟩
set_option maxHeartbeats 1000000 in
theorem lshows_any (z r m : Int) (hz : -1000 ≤ z ∧ z ≤ 1000) (hr : -1000000 ≤ r * m ∧ r * m ≤ 1000000) (w : World) :
    Calls Try.prog 37 #[.int .i64 z, .int .i64 r, .int .i64 m] w fun e w' => e = .returned (.int .i64 (showsC z r m)) ∧ w = w' := by
  obtain ⟨hr1, hr2⟩ := hr
  obtain ⟨hz1, hz2⟩ := hz
  have HS : Hid (showsC z r m = z + r * m / 10) := rfl
  have HT := Lib.hid (tdiv_facts (r * m))
  have d1 : -1000000 ≤ (r * m).tdiv 10 := by have := HT.out; omega
  have d2 : (r * m).tdiv 10 ≤ 1000000 := by have := HT.out; omega
  go_enter Try.func37, Try.ntmps37
  go_wp2
  go_loop [8] (fun q => ∃ x : Int, r * m / 10 ≤ x ∧ x ≤ 1000000 ∧ q = .int .i64 x) (fun q => (intOf q - r * m / 10).toNat)
  case atStart => exact ⟨_, by have := HT.out; omega, by omega, rfl⟩
  case round =>
    obtain ⟨x, hx1, hx2, rfl⟩ := hrel
    by_cases hlt : r * m < x * 10
    · have hd : decide (r * m < x * 10) = true := by simpa using hlt
      go_wp2
      exact ⟨⟨x - 1, by omega, by omega, rfl⟩, by simp [intOf]; omega⟩
    · have hd : decide (r * m < x * 10) = false := by simpa using hlt
      go_wp2
      go_ret
      exact ⟨ret_int (by rw [HS.out]; omega), rfl⟩

section
variable {p : PairD} {bs rs : Value} (hv : validB p = true)
include hv
theorem gives_known_no (hn : truA p = []) (a : Nat) (ha : a < p.bs.length) : Gives p bs rs 15 [.int .i64 a] (.tuple #[.agg #[.int .i64 0, .int .i64 0], .int .i64 10]) := fun W h => by
  have := knownV_any h a; rw [knownV_no hv hn a ha] at this; exact this
theorem gives_known_yes (hn : truA p ≠ []) (a : Nat) (ha : a < p.bs.length) : Gives p bs rs 15 [.int .i64 a] (.tuple #[.agg #[.int .i64 (hullD p a 5).1, .int .i64 (hullD p a 5).2], .int .i64 0]) := fun W h => by
  have := knownV_any h a; rw [knownV_yes hv hn a ha] at this; exact this
theorem gives_known_range (a : Int) (ha : okBl p a = false) : Gives p bs rs 15 [.int .i64 a] (.tuple #[.agg #[.int .i64 0, .int .i64 0], .int .i64 2]) := fun W h => by
  have := knownV_any h a; unfold knownV at this; rw [ha, toldV_range hv] at this; exact this
theorem gives_differ_no (hn : truA p = []) (a b : Nat) (ha : a < p.bs.length) (hb : b < p.bs.length) : Gives p bs rs 17 [.int .i64 a, .int .i64 b] (.tuple #[.agg #[.int .i64 0, .int .i64 0], .int .i64 10]) := fun W h => by
  have := differV_any h a b; rw [differV_no hv hn a b ha hb] at this; exact this
theorem gives_differ_yes (hn : truA p ≠ []) (a b : Nat) (ha : a < p.bs.length) (hb : b < p.bs.length) : Gives p bs rs 17 [.int .i64 a, .int .i64 b] (.tuple #[.agg #[.int .i64 (hullD p a b).1, .int .i64 (hullD p a b).2], .int .i64 0]) := fun W h => by
  have := differV_any h a b; rw [differV_yes hv hn a b ha hb] at this; exact this
theorem gives_differ_range (a b : Int) (ha : (okBl p a && okBl p b) = false) : Gives p bs rs 17 [.int .i64 a, .int .i64 b] (.tuple #[.agg #[.int .i64 0, .int .i64 0], .int .i64 2]) := fun W h => by
  have := differV_any h a b; unfold differV at this; rw [ha, toldV_range hv] at this; exact this
theorem gives_shows_no (hn : truA p = []) (m : Int) (hm : 0 ≤ m ∧ m ≤ 60) : Gives p bs rs 19 [.int .i64 m] (.tuple #[.agg #[.int .i64 0, .int .i64 0], .int .i64 10]) := fun W h => by
  have := showsV_any h m; rw [showsV_no hv hn m hm] at this; exact this
theorem gives_shows_yes (hn : truA p ≠ []) (m : Int) (hm : 0 ≤ m ∧ m ≤ 60) : Gives p bs rs 19 [.int .i64 m] (.tuple #[.agg #[.int .i64 (hullS p m).1, .int .i64 (hullS p m).2], .int .i64 0]) := fun W h => by
  have := showsV_any h m; rw [showsV_yes hv hn m hm] at this; exact this
theorem gives_shows_range (m : Int) (hm : inB m 0 60 = false) : Gives p bs rs 19 [.int .i64 m] (.tuple #[.agg #[.int .i64 0, .int .i64 0], .int .i64 2]) := fun W h => by
  have := showsV_any h m; unfold showsV at this; rw [hm, toldV_range hv] at this; exact this
theorem gives_longest_no (hn : truA p = []) : Gives p bs rs 21 [] (.tuple #[.int .i64 0, .int .i64 0, .int .i64 10]) := fun W h => by
  have := longestV_any h; rw [longV_no hv hn] at this; exact this
theorem gives_longest_yes (hn : truA p ≠ []) : Gives p bs rs 21 [] (.tuple #[.int .i64 (setN (sureF p) p.bs.length : Nat), .int .i64 (setN (canF p) p.bs.length : Nat), .int .i64 0]) := fun W h => by
  have := longestV_any h; rw [longV_yes hv hn] at this; exact this
theorem gives_least_no (hn : truA p = []) : Gives p bs rs 23 [] (.tuple #[.int .i64 0, .int .i64 0, .int .i64 0, .int .i64 10]) := fun W h => by
  have := leastV_any h; rw [leastV_no hv hn] at this; exact this
theorem gives_least_one (hn : truA p ≠ []) (h1 : p.bs.length ≤ 1) : Gives p bs rs 23 [] (.tuple #[.int .i64 0, .int .i64 0, .int .i64 0, .int .i64 4]) := fun W h => by
  have := leastV_any h; rw [leastV_one hv hn h1] at this; exact this
theorem gives_clash_no (hn : truA p ≠ []) : Gives p bs rs 29 [] (.tuple #[.int .i64 0, .int .i64 4]) := fun W h => by
  have := clashV_any h; rw [clashV_no hv hn] at this; exact this
theorem gives_clash_yes (hn : truA p = []) : Gives p bs rs 29 [] (.tuple #[.int .i64 (bestL (fun s => !someT p s) (allR p) (2 ^ p.rs.length) : Nat), .int .i64 0]) := fun W h => by
  have := clashV_any h; rw [clashV_yes hv hn] at this; exact this
end

end Go.Proofs.Ytlgeggekmdoceaa

/- What PairShows says (plain). -/
namespace Go.Proofs.Ytlgeggekmdoceaa
set_option linter.unusedVariables false
set_option linter.unusedSimpArgs false

/-- The pair with a comparator of which zero and rate are known. -/
def atC (p : PairD) (z r : Int) : PairD := { p with zl := z, zh := z, rl := r, rh := r }
section
variable {p : PairD} (hv : validB p = true) {z r : Int} (hz : p.zl ≤ z ∧ z ≤ p.zh) (hr : p.rl ≤ r ∧ r ≤ p.rh)
include hv hz hr
theorem atC_valid : validB (atC p z r) = true := by
  have hp := OkP.of p hv
  have h1 := hp.zz
  have h2 := hp.rr
  unfold validB at hv ⊢
  rw [Bool.and_eq_true, Bool.and_eq_true, Bool.and_eq_true] at hv ⊢
  obtain ⟨⟨⟨a, b⟩, c⟩, d⟩ := hv
  refine ⟨⟨⟨a, b⟩, ?_⟩, d⟩
  unfold okZR okSpan atC
  simp only [Bool.and_eq_true, decide_eq_true_eq]
  omega
theorem mem_truA_atC (t : List Int × (Int × Int)) : t ∈ truA (atC p z r) ↔ t ∈ truA p ∧ t.2 = (z, r) := by
  rw [mem_truA (OkP.of _ (atC_valid hv hz hr)), mem_truA (OkP.of p hv), mem_comps, mem_comps]
  have hT : TruthP (atC p z r) (allR (atC p z r)) t.2 (fun i => t.1.getD i 0) ↔ TruthP p (allR p) t.2 (fun i => t.1.getD i 0) :=
    ⟨fun h => ⟨h.mark, h.bs, h.rs⟩, fun h => ⟨h.mark, h.bs, h.rs⟩⟩
  rw [hT]
  obtain ⟨x, c1, c2⟩ := t
  show (z ≤ c1 ∧ c1 ≤ z ∧ r ≤ c2 ∧ c2 ≤ r) ∧ x.length = p.bs.length ∧ _ ↔ ((p.zl ≤ c1 ∧ c1 ≤ p.zh ∧ p.rl ≤ c2 ∧ c2 ≤ p.rh) ∧ x.length = p.bs.length ∧ _) ∧ (c1, c2) = (z, r)
  rw [Prod.mk.injEq]
  constructor
  · rintro ⟨h1, h2, h3⟩
    exact ⟨⟨by omega, h2, h3⟩, by omega, by omega⟩
  · rintro ⟨⟨h1, h2, h3⟩, h4, h5⟩
    exact ⟨by omega, h2, h3⟩
theorem showsV_atC (m : Int) (hm : 0 ≤ m ∧ m ≤ 60) : showsV (atC p z r) m = if truA (atC p z r) = [] then ((0, 0), 10) else ((showsC z r m, showsC z r m), 0) := by
  have hw := atC_valid hv hz hr
  by_cases hn : truA (atC p z r) = []
  · rw [if_pos hn, showsV_no hw hn m hm]
  · rw [if_neg hn, showsV_yes hw hn m hm]
    have hs : ∀ t ∈ truA (atC p z r), sho m t = showsC z r m := fun t ht => by
      unfold sho; rw [((mem_truA_atC hv hz hr t).1 ht).2]
    obtain ⟨t, l, e⟩ := List.exists_cons_of_ne_nil hn
    have ht : t ∈ truA (atC p z r) := by rw [e]; exact List.mem_cons_self
    rw [(hullS_spec hn m).eq (T := (showsC z r m, showsC z r m)) ⟨⟨t, ht, hs t ht⟩, ⟨t, ht, hs t ht⟩, fun u hu => by rw [hs u hu]; exact ⟨Int.le_refl _, Int.le_refl _⟩⟩]
end
theorem sho_zero (t : List Int × (Int × Int)) : sho 0 t = t.2.1 := by
  unfold sho showsC
  rw [Int.mul_zero, Int.zero_ediv, Int.add_zero]
/-- What the loops hold when the comparators of which D tells have been looked at. -/
structure ShI (p : PairD) (m : Int) (D : Int × Int → Prop) (s : Bool) (lo hi le mo : Int) : Prop where
  all : ∀ t ∈ truA p, D t.2 → s = true ∧ lo ≤ sho m t ∧ sho m t ≤ hi ∧ le ≤ t.2.1 ∧ t.2.1 ≤ mo
  ex : s = true → (∃ t ∈ truA p, sho m t = lo) ∧ (∃ t ∈ truA p, sho m t = hi) ∧ (∃ t ∈ truA p, t.2.1 = le) ∧ (∃ t ∈ truA p, t.2.1 = mo)
theorem ShI.start (p : PairD) (m : Int) (D : Int × Int → Prop) (h : ∀ t ∈ truA p, ¬ D t.2) : ShI p m D false 99 (-99) 99 (-99) := ⟨fun t ht hd => absurd hd (h t ht), fun h => by cases h⟩
theorem ShI.congr {p : PairD} {m : Int} {D E : Int × Int → Prop} {s : Bool} {lo hi le mo : Int} (h : ShI p m D s lo hi le mo) (hd : ∀ t ∈ truA p, E t.2 → D t.2) : ShI p m E s lo hi le mo := ⟨fun t ht he => h.all t ht (hd t ht he), h.ex⟩
theorem ShI.skip {p : PairD} (hv : validB p = true) {m z r : Int} {D : Int × Int → Prop} {s : Bool} {lo hi le mo : Int} (h : ShI p m D s lo hi le mo) (hz : p.zl ≤ z ∧ z ≤ p.zh) (hr : p.rl ≤ r ∧ r ≤ p.rh) (hn : truA (atC p z r) = []) :
    ShI p m (fun c => D c ∨ c = (z, r)) s lo hi le mo := ⟨fun t ht hd => by
  rcases hd with hd | hd
  · exact h.all t ht hd
  · have := (mem_truA_atC hv hz hr t).2 ⟨ht, hd⟩
    rw [hn] at this
    exact absurd this (by simp), h.ex⟩
/-- Those of which the first is no greater, and which is less. -/
theorem ShI.take {p : PairD} (hv : validB p = true) {m z r : Int} {D : Int × Int → Prop} {s : Bool} {lo hi le mo : Int} (h : ShI p m D s lo hi le mo) (hz : p.zl ≤ z ∧ z ≤ p.zh) (hr : p.rl ≤ r ∧ r ≤ p.rh) (hn : truA (atC p z r) ≠ [])
    (h0 : s = false → showsC z r m ≤ lo ∧ hi ≤ showsC z r m ∧ z ≤ le ∧ mo ≤ z) :
    ShI p m (fun c => D c ∨ c = (z, r)) true (min lo (showsC z r m)) (max hi (showsC z r m)) (min le z) (max mo z) := by
  obtain ⟨u, l, e⟩ := List.exists_cons_of_ne_nil hn
  have hu := (mem_truA_atC hv hz hr u).1 (by rw [e]; exact List.mem_cons_self)
  have hs : ∀ t : List Int × (Int × Int), t.2 = (z, r) → sho m t = showsC z r m ∧ t.2.1 = z := fun t ht => by unfold sho; rw [ht]; exact ⟨rfl, rfl⟩
  have hsu := hs u hu.2
  generalize hN : showsC z r m = N at *
  refine ⟨fun t ht hd => ⟨rfl, ?_⟩, fun _ => ?_⟩
  · rcases hd with hd | hd
    · have := h.all t ht hd
      omega
    · have := hs t hd
      omega
  · cases s with
    | false =>
      obtain ⟨a1, a2, a3, a4⟩ := h0 rfl
      refine ⟨⟨u, hu.1, by omega⟩, ⟨u, hu.1, by omega⟩, ⟨u, hu.1, by omega⟩, ⟨u, hu.1, by omega⟩⟩
    | true =>
      obtain ⟨⟨t1, m1, e1⟩, ⟨t2, m2, e2⟩, ⟨t3, m3, e3⟩, ⟨t4, m4, e4⟩⟩ := h.ex rfl
      refine ⟨?_, ?_, ?_, ?_⟩
      · rcases Int.le_total lo N with k | k
        · exact ⟨t1, m1, by omega⟩
        · exact ⟨u, hu.1, by omega⟩
      · rcases Int.le_total N hi with k | k
        · exact ⟨t2, m2, by omega⟩
        · exact ⟨u, hu.1, by omega⟩
      · rcases Int.le_total le z with k | k
        · exact ⟨t3, m3, by omega⟩
        · exact ⟨u, hu.1, by omega⟩
      · rcases Int.le_total z mo with k | k
        · exact ⟨t4, m4, by omega⟩
        · exact ⟨u, hu.1, by omega⟩
theorem ShI.ends {p : PairD} {m : Int} {D : Int × Int → Prop} {s : Bool} {lo hi le mo : Int} (h : ShI p m D s lo hi le mo) (hd : ∀ t ∈ truA p, D t.2) : (s = false → truA p = []) ∧ (s = true → truA p ≠ [] ∧ hullS p m = (lo, hi) ∧ hullS p 0 = (le, mo)) := by
  constructor
  · intro hs
    cases ht : truA p with
    | nil => rfl
    | cons t l =>
      have hm : t ∈ truA p := by rw [ht]; exact List.mem_cons_self
      have := (h.all t hm (hd t hm)).1
      rw [hs] at this; cases this
  · intro hs
    obtain ⟨e1, e2, e3, e4⟩ := h.ex hs
    have hne : truA p ≠ [] := by
      obtain ⟨t, ht, _⟩ := e1
      intro h0; rw [h0] at ht; exact absurd ht (by simp)
    refine ⟨hne, (hullS_spec hne m).eq ⟨e1, e2, fun t ht => ?_⟩, (hullS_spec hne 0).eq ⟨?_, ?_, fun t ht => ?_⟩⟩
    · have := h.all t ht (hd t ht); exact ⟨this.2.1, this.2.2.1⟩
    · obtain ⟨t, ht, e⟩ := e3; exact ⟨t, ht, by rw [sho_zero]; exact e⟩
    · obtain ⟨t, ht, e⟩ := e4; exact ⟨t, ht, by rw [sho_zero]; exact e⟩
    · have := h.all t ht (hd t ht); rw [sho_zero]; exact ⟨this.2.2.2.1, this.2.2.2.2⟩
theorem showsC_99 {z r m : Int} (hz : -10 ≤ z ∧ z ≤ 10) (hr : -5 ≤ r ∧ r ≤ 5) (hm : 0 ≤ m ∧ m ≤ 60) : -99 ≤ showsC z r m ∧ showsC z r m ≤ 99 := by
  have h1 : -300 ≤ r * m := by
    have : -5 * m ≤ r * m := Int.mul_le_mul_of_nonneg_right hr.1 hm.1
    omega
  have h2 : r * m ≤ 300 := by
    have : r * m ≤ 5 * m := Int.mul_le_mul_of_nonneg_right hr.2 hm.1
    omega
  unfold showsC
  omega

end Go.Proofs.Ytlgeggekmdoceaa
