/- Texts Pa, Pf, Pe, Ra, Rb, Pp, Tb, To in one file; each begins with a word on what it proves. -/
import Derived.Deep.Slices
import Derived.Lib.SmallJoins
import Derived.Test.YtabbmihakoeegaaGreatKf
import Derived.Test.YtabbmihakoeegaaGreatKa

/- What is told of a valid pair, in terms of its truths (plain). -/
namespace Go.Proofs.YtabbmihakoeegaaGreat
set_option linter.unusedVariables false
set_option linter.unusedSimpArgs false

/-- By how much two blocks differ, in a truth. -/
def dif (a b : Nat) (t : List Int × (Int × Int)) : Int := t.1.getD a 0 - t.1.getD b 0
structure SpanOf (L : List (List Int × (Int × Int))) (f : List Int × (Int × Int) → Int) (S : Int × Int) : Prop where
  lo : ∃ t ∈ L, f t = S.1
  hi : ∃ t ∈ L, f t = S.2
  all : ∀ t ∈ L, S.1 ≤ f t ∧ f t ≤ S.2
theorem spanOf_is {L : List (List Int × (Int × Int))} (hne : L ≠ []) (f : List Int × (Int × Int) → Int) : SpanOf L f (hullOf (L.map fun t => (f t, f t))) := by
  obtain ⟨⟨a, ha, ha1⟩, ⟨b, hb, hb1⟩, hall⟩ := hullOf_is (L.map fun t => (f t, f t)) (by simpa using hne)
  obtain ⟨t, ht, rfl⟩ := List.mem_map.1 ha
  obtain ⟨u, hu, rfl⟩ := List.mem_map.1 hb
  exact ⟨⟨t, ht, ha1⟩, ⟨u, hu, hb1⟩, fun t ht => hall _ (List.mem_map.2 ⟨t, ht, rfl⟩)⟩
theorem SpanOf.eq {L : List (List Int × (Int × Int))} {f : List Int × (Int × Int) → Int} {S T : Int × Int} (h : SpanOf L f S) (k : SpanOf L f T) : S = T := by
  obtain ⟨t1, m1, e1⟩ := h.lo
  obtain ⟨t2, m2, e2⟩ := h.hi
  obtain ⟨u1, n1, f1⟩ := k.lo
  obtain ⟨u2, n2, f2⟩ := k.hi
  have a1 := k.all t1 m1
  have a2 := k.all t2 m2
  have a3 := h.all u1 n1
  have a4 := h.all u2 n2
  apply Prod.ext <;> omega
theorem hullD_spec {p : PairD} (hne : truA p ≠ []) (a b : Nat) : SpanOf (truA p) (dif a b) (hullD p a b) := spanOf_is hne (dif a b)
theorem mem_truA {p : PairD} (hp : OkP p) (t : List Int × (Int × Int)) : t ∈ truA p ↔ t.2 ∈ comps p.zl p.zh p.rl p.rh ∧ t.1.length = p.bs.length ∧ TruthP p (allR p) t.2 (fun i => t.1.getD i 0) := mem_truthsL p hp (allR p) t.1 t.2
theorem truA_at {p : PairD} (hp : OkP p) {t : List Int × (Int × Int)} (ht : t ∈ truA p) (i : Nat) (hi : i < p.bs.length) : p.bs[i].1 ≤ t.1.getD i 0 ∧ t.1.getD i 0 ≤ p.bs[i].2 := ((mem_truA hp t).1 ht).2.2.bs i hi
theorem truA_out {p : PairD} (hp : OkP p) {t : List Int × (Int × Int)} (ht : t ∈ truA p) (i : Nat) (hi : p.bs.length ≤ i) : t.1.getD i 0 = 0 := by
  rw [List.getD_eq_getElem?_getD, List.getElem?_eq_none (by rw [((mem_truA hp t).1 ht).2.1]; exact hi)]; rfl
theorem truA_20 {p : PairD} (hp : OkP p) {t : List Int × (Int × Int)} (ht : t ∈ truA p) (i : Nat) : -20 ≤ t.1.getD i 0 ∧ t.1.getD i 0 ≤ 20 := by
  rcases Nat.lt_or_ge i p.bs.length with hi | hi
  · have := truA_at hp ht i hi
    have := hp.bs _ (List.getElem_mem hi)
    omega
  · rw [truA_out hp ht i hi]; omega
theorem hullD_40 {p : PairD} (hp : OkP p) (hne : truA p ≠ []) (a b : Nat) : -40 ≤ (hullD p a b).1 ∧ (hullD p a b).1 ≤ (hullD p a b).2 ∧ (hullD p a b).2 ≤ 40 := by
  have h := hullD_spec hne a b
  obtain ⟨t1, m1, e1⟩ := h.lo
  obtain ⟨t2, m2, e2⟩ := h.hi
  have := h.all t1 m1
  have := truA_20 hp m1 a
  have := truA_20 hp m1 b
  have := truA_20 hp m2 a
  have := truA_20 hp m2 b
  unfold dif at *
  omega
/-! ### what the functions return, by cases -/
theorem okBl_nat {p : PairD} (i : Nat) : okBl p i = decide (i < p.bs.length) := by
  unfold okBl inB
  rw [decide_eq_decide]
  omega
theorem toldV_no {p : PairD} (hv : validB p = true) (hn : truA p = []) (h : Int × Int) : toldV p true h = ((0, 0), 10) := by
  unfold toldV
  rw [if_neg (by simp [hv]), if_neg (by simp), if_pos hn]
theorem toldV_yes {p : PairD} (hv : validB p = true) (hn : truA p ≠ []) (h : Int × Int) : toldV p true h = (h, 0) := by
  unfold toldV
  rw [if_neg (by simp [hv]), if_neg (by simp), if_neg hn]
theorem knownV_no {p : PairD} (hv : validB p = true) (hn : truA p = []) (a : Nat) (ha : a < p.bs.length) : knownV p a = ((0, 0), 10) := by
  unfold knownV
  rw [okBl_nat, decide_eq_true ha]
  exact toldV_no hv hn _
theorem knownV_yes {p : PairD} (hv : validB p = true) (hn : truA p ≠ []) (a : Nat) (ha : a < p.bs.length) : knownV p a = (hullD p a 5, 0) := by
  unfold knownV
  rw [okBl_nat, decide_eq_true ha, Int.toNat_natCast]
  exact toldV_yes hv hn _
end Go.Proofs.YtabbmihakoeegaaGreat

/- What PairClash says (plain). -/
namespace Go.Proofs.YtabbmihakoeegaaGreat
set_option linter.unusedVariables false
set_option linter.unusedSimpArgs false
open Go.RowKit

theorem mem_keptL (l : List RdD) (s j : Nat) (hj : j ≤ l.length) (r : RdD) : r ∈ keptL l s j ↔ ∃ i, ∃ h : i < l.length, i < j ∧ s.testBit i = true ∧ l[i] = r := by
  unfold keptL
  rw [List.mem_filterMap]
  constructor
  · rintro ⟨i, hi, h⟩
    rw [List.mem_range] at hi
    split at h
    · rw [List.getElem?_eq_getElem (by omega : i < l.length)] at h
      exact ⟨i, by omega, hi, by assumption, Option.some.inj h⟩
    · cases h
  · rintro ⟨i, h, hi, hs, e⟩
    refine ⟨i, List.mem_range.2 hi, ?_⟩
    rw [if_pos hs, List.getElem?_eq_getElem h, e]
/-- The pair with those of its readings that are in a set. -/
def subR (p : PairD) (s : Nat) : PairD := { p with rs := keptL p.rs s p.rs.length }
theorem subR_valid {p : PairD} (hv : validB p = true) (s : Nat) : validB (subR p s) = true := by
  unfold validB at hv ⊢
  rw [Bool.and_eq_true, Bool.and_eq_true, Bool.and_eq_true] at hv ⊢
  obtain ⟨⟨⟨h1, h2⟩, h3⟩, h4⟩ := hv
  refine ⟨⟨⟨?_, h2⟩, h3⟩, ?_⟩
  · unfold okHead subR at *
    rw [Bool.and_eq_true] at h1 ⊢
    refine ⟨h1.1, ?_⟩
    have := h1.2
    rw [decide_eq_true_eq] at this ⊢
    have h := keptL_le p.rs s p.rs.length
    show ((keptL p.rs s p.rs.length).length : Int) ≤ 8
    omega
  · show (keptL p.rs s p.rs.length).all (okRd p.bs.length) = true
    rw [List.all_eq_true] at h4 ⊢
    intro r hr
    obtain ⟨i, h, _, _, rfl⟩ := (mem_keptL _ _ _ (Nat.le_refl _) r).1 hr
    exact h4 _ (List.getElem_mem h)
theorem allR_bit (p : PairD) (i : Nat) (hi : i < p.rs.length) : (allR p).testBit i = true := by
  unfold allR
  rw [Nat.testBit_two_pow_sub_one]
  simpa using hi
theorem subR_can (p : PairD) (s : Nat) : CanP (subR p s) (allR (subR p s)) ↔ CanP p s := by
  unfold CanP
  have hT : ∀ c x, TruthP (subR p s) (allR (subR p s)) c x ↔ TruthP p s c x := by
    intro c x
    constructor
    · intro h
      refine ⟨h.mark, h.bs, fun i hi hs => ?_⟩
      have hm : p.rs[i] ∈ (subR p s).rs := (mem_keptL _ _ _ (Nat.le_refl _) _).2 ⟨i, hi, hi, hs, rfl⟩
      obtain ⟨j, hj, e⟩ := List.getElem_of_mem hm
      have := h.rs j hj (allR_bit _ j hj)
      rw [e] at this
      exact this
    · intro h
      refine ⟨h.mark, h.bs, fun j hj _ => ?_⟩
      obtain ⟨i, hi, _, hs, e⟩ := (mem_keptL p.rs s _ (Nat.le_refl _) _).1 (List.getElem_mem hj)
      have := h.rs i hi hs
      rw [e] at this
      exact this
  constructor
  · rintro ⟨c, hc, x, hx⟩; exact ⟨c, hc, x, (hT c x).1 hx⟩
  · rintro ⟨c, hc, x, hx⟩; exact ⟨c, hc, x, (hT c x).2 hx⟩
theorem someT_can {p : PairD} (hp : OkP p) (s : Nat) : someT p s = true ↔ CanP p s := by
  rw [← truthsL_ne p hp]
  unfold someT
  cases truthsL p s <;> simp
theorem truA_sub {p : PairD} (hv : validB p = true) (s : Nat) : (truA (subR p s) = [] ↔ someT p s = false) := by
  have h1 := truthsL_ne (subR p s) (OkP.of _ (subR_valid hv s)) (allR (subR p s))
  rw [subR_can, ← someT_can (OkP.of p hv)] at h1
  unfold truA
  constructor
  · intro h
    cases e : someT p s with
    | false => rfl
    | true => exact absurd h (h1.2 e)
  · intro h
    rcases Classical.em (truthsL (subR p s) (allR (subR p s)) = []) with k | k
    · exact k
    · rw [h1.1 k] at h; cases h
theorem truA_some (p : PairD) : truA p = [] ↔ someT p (allR p) = false := by
  unfold truA someT
  cases truthsL p (allR p) <;> simp
theorem someT_mono {p : PairD} (hp : OkP p) {s t : Nat} (h : ∀ i, i < p.rs.length → s.testBit i = true → t.testBit i = true) (ht : someT p t = true) : someT p s = true := by
  rw [someT_can hp] at ht ⊢
  obtain ⟨c, hc, x, hx⟩ := ht
  exact ⟨c, hc, x, hx.mark, hx.bs, fun i hi hs => hx.rs i hi (h i hi hs)⟩
/-! ### what is told -/
section
variable {p : PairD} (hv : validB p = true)
include hv
end

end Go.Proofs.YtabbmihakoeegaaGreat

/- What PairGroups says (plain): a reading more joins two groups, or none. -/
namespace Go.Proofs.YtabbmihakoeegaaGreat
set_option linter.unusedVariables false
set_option linter.unusedSimpArgs false

/-- How many groups there are. -/
def cntM (p : PairD) : Nat := ((List.range p.bs.length).filter (ownL p)).length
theorem groupsV_yes {p : PairD} (hv : validB p = true) : groupsV p = ((cntM p : Int), 0) := by
  unfold groupsV
  rw [if_neg (by simp [hv])]
  rfl
/-! ### who hangs together with a block, by going over all readings again and again -/
end Go.Proofs.YtabbmihakoeegaaGreat

/- The reference's small functions. -/
namespace Go.Proofs.YtabbmihakoeegaaGreat
set_option linter.unusedVariables false
set_option linter.unusedSimpArgs false
open Go.RowKit Go.Shelf
attribute [local go_sem] Oper.semAt_some

theorem rin_any (n a b : Int) (w : World) :
    Calls Tryz.prog 105 #[.int .i64 n, .int .i64 a, .int .i64 b] w fun e w' => e = .returned (.bool (inB n a b)) ∧ w = w' := by
  have H : Hid (inB n a b = (decide (a ≤ n) && decide (n ≤ b))) := by show _ = _; simp [inB]
  go_enter Tryz.func105, Tryz.ntmps105
  go_wp2
  all_goals go_ret
  all_goals exact ⟨by rw [H.out]; simp [*]; try omega, rfl⟩
theorem rspan_any (lo hi m : Int) (hm : -1000000 ≤ m ∧ m ≤ 1000000) (w : World) :
    Calls Tryz.prog 106 #[.agg #[.int .i64 lo, .int .i64 hi], .int .i64 m] w fun e w' => e = .returned (.bool (okSpan lo hi m)) ∧ Below w.heap.size w w' := by
  have H : Hid (okSpan lo hi m = (decide (-m ≤ lo) && decide (lo ≤ hi) && decide (hi ≤ m))) := by show _ = _; simp [okSpan, Bool.and_assoc]
  obtain ⟨hm1, hm2⟩ := hm
  go_enter Tryz.func106, Tryz.ntmps106
  go_wp2
  all_goals go_ret
  all_goals exact ⟨by rw [H.out]; simp [*]; try omega, (Below.refl _ _).alloc (Nat.le_refl _) _⟩
theorem rminute_any (n : Int) (w : World) :
    Calls Tryz.prog 108 #[.int .i64 n] w fun e w' => e = .returned (.bool (inB n 0 60)) ∧ w = w' := by
  go_enter Tryz.func108, Tryz.ntmps108
  go_wp2_with (go_at_call 105; refine (rin_any _ _ _ _).mono ?_; rintro e w' ⟨rfl, rfl⟩)
  go_ret
  exact ⟨rfl, rfl⟩
theorem rblock_any (p : PairD) (n cap : Nat) (ao : Option Addr) (rs : Value) (hn : n ≤ 1000) (x : Int) (w : World) :
    Calls Tryz.prog 107 #[.agg (pairRow p (.slice ao n cap) rs), .int .i64 x] w fun e w' => e = .returned (.bool (inB x 0 ((n : Int) - 1))) ∧ Below w.heap.size w w' := by
  unfold pairRow
  go_enter Tryz.func107, Tryz.ntmps107
  have hw : IntKind.i64.wrap ((n : Int) - 1) = (n : Int) - 1 := IntWalk.i64_in _ (by omega)
  go_wp2_with (go_at_call 105; refine (rin_any _ _ _ _).mono ?_; rintro e w' ⟨rfl, rfl⟩)
  go_ret
  exact ⟨rfl, (Below.refl _ _).alloc (Nat.le_refl _) _⟩
theorem pow_bound (n : Nat) (h : n ≤ 60) : (2 : Nat) ^ n ≤ 1152921504606846976 := Nat.le_trans (Nat.pow_le_pow_right (by decide) h) (by decide)
theorem power_any (n : Nat) (hn : n ≤ 60) (w : World) :
    Calls Tryz.prog 121 #[.int .i64 n] w fun e w' => e = .returned (.int .i64 ((2 ^ n : Nat) : Int)) ∧ w = w' := by
  go_enter Tryz.func121, Tryz.ntmps121
  go_wp2_with fail
  go_loopw [3, 4] (fun o i wr => ∃ (k : Nat), k ≤ n ∧ i = .int .i64 k ∧ o = .int .i64 ((2 ^ k : Nat) : Int) ∧ w = wr) (fun _ i _ => n - (intOf i).toNat)
  case atStart => exact ⟨0, by omega, rfl, rfl, rfl⟩
  case round =>
    obtain ⟨k, hk, rfl, rfl, rfl⟩ := hrel
    by_cases hlk : k < n
    · have hpk := pow_bound k (by omega)
      have HE := Lib.hid (Nat.pow_succ (n := 2) (m := k))
      obtain ⟨v, hv⟩ : ∃ v : Nat, v = 2 ^ k := ⟨_, rfl⟩
      rw [← hv] at hpk HE ⊢
      clear hv
      have hw : wrap64 (2 * (v : Int)) = 2 * (v : Int) := by unfold wrap64; omega
      go_wp2
      refine ⟨⟨k + 1, by omega, by go_num, ?_, by first | rfl | trivial⟩, by simp [intOf]; omega⟩
      rw [HE.out]
      congr 1
      omega
    · obtain rfl : k = n := by omega
      obtain ⟨v, hv⟩ : ∃ v : Nat, v = 2 ^ k := ⟨_, rfl⟩
      rw [← hv]
      have HV := Lib.hid hv
      clear hv
      go_wp2
      go_ret
      refine ⟨?_, rfl⟩
      rw [← HV.out]
      rfl
theorem has_bit : ∀ n : Fin 9, ∀ s : Fin 256, ((wrap64 ((s.val : Int) / ((2 ^ n.val : Nat) : Int))).tmod 2 == 1) = s.val.testBit n.val := by decide +kernel
theorem rhas_any (s n : Nat) (hs : s < 256) (hn : n ≤ 8) (w : World) :
    Calls Tryz.prog 127 #[.int .i64 s, .int .i64 n] w fun e w' => e = .returned (.bool (s.testBit n)) ∧ w = w' := by
  have hb := has_bit ⟨n, by omega⟩ ⟨s, hs⟩
  dsimp only at hb
  have hpos : (0 : Nat) < 2 ^ n := Nat.two_pow_pos n
  have hpb := pow_bound n (by omega)
  go_enter Tryz.func127, Tryz.ntmps127
  go_wp2_with fail
  refine (power_any n (by omega) w).mono ?_
  rintro e w' ⟨rfl, rfl⟩
  generalize hP : 2 ^ n = P at *
  have HB := Lib.hid hb
  clear hb hP
  go_wp2
  go_ret
  exact ⟨by rw [← HB.out]; rfl, rfl⟩
end Go.Proofs.YtabbmihakoeegaaGreat

/- The reference's Pair: is a pair valid? -/
namespace Go.Proofs.YtabbmihakoeegaaGreat
set_option linter.unusedVariables false
set_option linter.unusedSimpArgs false
open Go.RowKit Go.Shelf
attribute [local go_sem] Oper.semAt_some

def pairObj (p : PairD) (bs rs : Value) : Obj := .cells (pairRow p bs rs) 27 (0, 0)
set_option maxRecDepth 100000 in
set_option maxHeartbeats 8000000 in
theorem rpair_any {w : World} {p : PairD} {bs rs : Value} (h : PairAt w p bs rs) : Calls Tryz.prog 78 #[.agg (pairRow p bs rs)] w fun e w' => e = .returned (.bool (validB p)) ∧ Below w.heap.size w w' := by
  obtain ⟨⟨ao, cap, rfl, hc1, hc2, hel⟩, ⟨ao2, cap2, rfl, hc3, hc4, hel2⟩⟩ := h
  have HE1 := Lib.hid hel
  have HE2 := Lib.hid hel2
  clear hel hel2
  obtain ⟨W0, hW0⟩ : ∃ W0, W0 = w.alloc (.cells (pairRow p (.slice ao p.bs.length cap) (.slice ao2 p.rs.length cap2)) 27 (0, 0)) := ⟨_, rfl⟩
  have hb0 : Below w.heap.size w W0 := by rw [hW0]; exact (Below.refl _ _).alloc (Nat.le_refl _) _
  have hr0 : W0.heap[w.heap.size]? = some (pairObj p (.slice ao p.bs.length cap) (.slice ao2 p.rs.length cap2)) := by rw [hW0]; exact heap_alloc_at _ _ _ rfl
  have HB0 := Lib.hid hb0
  have HR0 := Lib.hid hr0
  unfold pairObj pairRow at hr0
  have c0 : W0.cell? ⟨w.heap.size, 0, none⟩ = some (.slice ao p.bs.length cap) := by rw [cell_of_row W0 _ _ _ _ _ hr0]; rfl
  have c1 : W0.cell? ⟨w.heap.size, 1, none⟩ = some (.int .i64 p.zl) := by rw [cell_of_row W0 _ _ _ _ _ hr0]; rfl
  have c2 : W0.cell? ⟨w.heap.size, 2, none⟩ = some (.int .i64 p.zh) := by rw [cell_of_row W0 _ _ _ _ _ hr0]; rfl
  have c3 : W0.cell? ⟨w.heap.size, 3, none⟩ = some (.int .i64 p.rl) := by rw [cell_of_row W0 _ _ _ _ _ hr0]; rfl
  have c4 : W0.cell? ⟨w.heap.size, 4, none⟩ = some (.int .i64 p.rh) := by rw [cell_of_row W0 _ _ _ _ _ hr0]; rfl
  have c5 : W0.cell? ⟨w.heap.size, 5, none⟩ = some (.slice ao2 p.rs.length cap2) := by rw [cell_of_row W0 _ _ _ _ _ hr0]; rfl
  clear hb0 hr0
  unfold pairRow at hW0 ⊢
  go_enter Tryz.func78, Tryz.ntmps78
  go_wp2_with fail
  rw [← hW0]
  clear hW0
  refine (rin_any _ _ _ _).mono ?_
  rintro e w' ⟨rfl, rfl⟩
  cases h1 : inB (↑p.bs.length) 1 5 with
  | false =>
    go_wp2
    go_ret
    refine ⟨?_, HB0.out⟩
    rw [show validB p = false from by simp [validB, okHead, h1]]
    rfl
  | true =>
  by_cases h2 : (p.rs.length : Int) ≤ 8
  case neg =>
    have hd : decide ((8 : Int) < p.rs.length) = true := by simp; omega
    have hq : decide ((p.rs.length : Int) ≤ 8) = false := by simpa using h2
    go_wp2
    go_ret
    refine ⟨?_, HB0.out⟩
    rw [show validB p = false from by simp [validB, okHead, hq]]
    rfl
  have hd2 : decide ((8 : Int) < p.rs.length) = false := by simp; omega
  have hhd : okHead p = true := by simp [okHead, h1]; omega
  have HHD := Lib.hid hhd
  go_wp2_with fail
  have hn5 : p.bs.length ≤ 5 := by simp [inB] at h1; omega
  have hm8 : p.rs.length ≤ 8 := by omega
  clear hd2 hhd h1 c0 c1 c2 c3 c4 c5
  go_loopw [3] (fun i wr => ∃ k : Nat, k ≤ p.bs.length ∧ i = .int .i64 k ∧ (p.bs.take k).all okSp = true ∧ wr.heap[w.heap.size]? = some (pairObj p (.slice ao p.bs.length cap) (.slice ao2 p.rs.length cap2)) ∧ Below w.heap.size w wr) (fun i _ => p.bs.length - (intOf i).toNat)
  case atStart => exact ⟨0, by omega, rfl, by simp, HR0.out, HB0.out⟩
  case round =>
    obtain ⟨k, hk, rfl, hall, hrow, hb⟩ := hrel
    have HRW := Lib.hid hrow
    have HB := Lib.hid hb
    have HALL := Lib.hid hall
    unfold pairObj pairRow at hrow
    have c0 : wr.cell? ⟨w.heap.size, 0, none⟩ = some (.slice ao p.bs.length cap) := by rw [cell_of_row wr _ _ _ _ _ hrow]; rfl
    have c1 : wr.cell? ⟨w.heap.size, 1, none⟩ = some (.int .i64 p.zl) := by rw [cell_of_row wr _ _ _ _ _ hrow]; rfl
    have c2 : wr.cell? ⟨w.heap.size, 2, none⟩ = some (.int .i64 p.zh) := by rw [cell_of_row wr _ _ _ _ _ hrow]; rfl
    have c3 : wr.cell? ⟨w.heap.size, 3, none⟩ = some (.int .i64 p.rl) := by rw [cell_of_row wr _ _ _ _ _ hrow]; rfl
    have c4 : wr.cell? ⟨w.heap.size, 4, none⟩ = some (.int .i64 p.rh) := by rw [cell_of_row wr _ _ _ _ _ hrow]; rfl
    have c5 : wr.cell? ⟨w.heap.size, 5, none⟩ = some (.slice ao2 p.rs.length cap2) := by rw [cell_of_row wr _ _ _ _ _ hrow]; rfl
    clear hrow hb hall
    by_cases hlk : k < p.bs.length
    · obtain ⟨b, off, rfl, hr, hbl, e1, e2⟩ := HE1.out k hlk
      have f1 := (HB.out.cell (p := ⟨b, off + k * 2, none⟩) hbl).trans e1
      have f2 := (HB.out.cell (p := ⟨b, off + k * 2 + 1, none⟩) hbl).trans e2
      clear e1 e2
      have HTA := Lib.hid (take_all p.bs okSp k hlk HALL.out)
      have HAF := Lib.hid (all_false p.bs okSp k hlk)
      generalize p.bs[k] = sp at *
      obtain ⟨slo, shi⟩ := sp
      go_wp2_with fail
      refine (rspan_any slo shi 20 (by omega) _).mono ?_
      rintro e w2 ⟨rfl, hb2⟩
      have hbel : Below w.heap.size w w2 := HB.out.trans (hb2.mono HB.out.size)
      have hrw2 := (hb2.block w.heap.size (lt_of_block HRW.out)).trans HRW.out
      have HBEL := Lib.hid hbel
      have HRW2 := Lib.hid hrw2
      clear hb2 hbel hrw2 c0 c1 c2 c3 c4 c5
      cases h3 : okSpan slo shi 20 with
      | false =>
        go_wp2
        go_ret
        refine ⟨?_, HBEL.out⟩
        rw [show validB p = false from by simp [validB, HAF.out (show okSp (slo, shi) = false from h3)]]
        rfl
      | true =>
        go_wp2
        exact ⟨⟨k + 1, by omega, by go_num, HTA.out.trans h3, HRW2.out, HBEL.out⟩, by simp [intOf]; omega⟩
    · obtain rfl : k = p.bs.length := by omega
      have hall := HALL.out
      rw [List.take_length] at hall
      have HAB := Lib.hid hall
      clear hall HALL
      go_wp2_with fail
      refine (rspan_any p.zl p.zh 10 (by omega) _).mono ?_
      rintro e w3 ⟨rfl, hb3⟩
      have HB3 := Lib.hid (HB.out.trans (hb3.mono HB.out.size))
      have hrw3 := (hb3.block w.heap.size (lt_of_block HRW.out)).trans HRW.out
      have HRW3 := Lib.hid hrw3
      clear hb3 c0 c1 c2 c3 c4 c5
      unfold pairObj pairRow at hrw3
      have c0 : w3.cell? ⟨w.heap.size, 0, none⟩ = some (.slice ao p.bs.length cap) := by rw [cell_of_row w3 _ _ _ _ _ hrw3]; rfl
      have c1 : w3.cell? ⟨w.heap.size, 1, none⟩ = some (.int .i64 p.zl) := by rw [cell_of_row w3 _ _ _ _ _ hrw3]; rfl
      have c2 : w3.cell? ⟨w.heap.size, 2, none⟩ = some (.int .i64 p.zh) := by rw [cell_of_row w3 _ _ _ _ _ hrw3]; rfl
      have c3 : w3.cell? ⟨w.heap.size, 3, none⟩ = some (.int .i64 p.rl) := by rw [cell_of_row w3 _ _ _ _ _ hrw3]; rfl
      have c4 : w3.cell? ⟨w.heap.size, 4, none⟩ = some (.int .i64 p.rh) := by rw [cell_of_row w3 _ _ _ _ _ hrw3]; rfl
      have c5 : w3.cell? ⟨w.heap.size, 5, none⟩ = some (.slice ao2 p.rs.length cap2) := by rw [cell_of_row w3 _ _ _ _ _ hrw3]; rfl
      clear hrw3
      cases h3 : okSpan p.zl p.zh 10 with
      | false =>
        go_wp2
        go_ret
        refine ⟨?_, HB3.out⟩
        rw [show validB p = false from by simp [validB, okZR, h3]]
        rfl
      | true =>
      go_wp2_with fail
      refine (rspan_any p.rl p.rh 5 (by omega) _).mono ?_
      rintro e w4 ⟨rfl, hb4⟩
      have HB4 := Lib.hid (HB3.out.trans (hb4.mono HB3.out.size))
      have hrw4 := (hb4.block w.heap.size (lt_of_block HRW3.out)).trans HRW3.out
      have HRW4 := Lib.hid hrw4
      clear hb4 c0 c1 c2 c3 c4 c5
      unfold pairObj pairRow at hrw4
      have c0 : w4.cell? ⟨w.heap.size, 0, none⟩ = some (.slice ao p.bs.length cap) := by rw [cell_of_row w4 _ _ _ _ _ hrw4]; rfl
      have c1 : w4.cell? ⟨w.heap.size, 1, none⟩ = some (.int .i64 p.zl) := by rw [cell_of_row w4 _ _ _ _ _ hrw4]; rfl
      have c2 : w4.cell? ⟨w.heap.size, 2, none⟩ = some (.int .i64 p.zh) := by rw [cell_of_row w4 _ _ _ _ _ hrw4]; rfl
      have c3 : w4.cell? ⟨w.heap.size, 3, none⟩ = some (.int .i64 p.rl) := by rw [cell_of_row w4 _ _ _ _ _ hrw4]; rfl
      have c4 : w4.cell? ⟨w.heap.size, 4, none⟩ = some (.int .i64 p.rh) := by rw [cell_of_row w4 _ _ _ _ _ hrw4]; rfl
      have c5 : w4.cell? ⟨w.heap.size, 5, none⟩ = some (.slice ao2 p.rs.length cap2) := by rw [cell_of_row w4 _ _ _ _ _ hrw4]; rfl
      clear hrw4
      cases h4 : okSpan p.rl p.rh 5 with
      | false =>
        go_wp2
        go_ret
        refine ⟨?_, HB4.out⟩
        rw [show validB p = false from by simp [validB, okZR, h3, h4]]
        rfl
      | true =>
      have hz := h3
      have hr := h4
      simp only [okSpan, decide_eq_true_eq] at hz hr
      obtain ⟨hz1, hz2, hz3⟩ := hz
      obtain ⟨hr1, hr2, hr3⟩ := hr
      have hwz : IntKind.i64.wrap (p.zh - p.zl) = p.zh - p.zl := IntWalk.i64_in _ (by omega)
      have hwr : IntKind.i64.wrap (p.rh - p.rl) = p.rh - p.rl := IntWalk.i64_in _ (by omega)
      by_cases h5 : p.zh - p.zl ≤ 4
      case neg =>
        have hd : decide ((4 : Int) < p.zh - p.zl) = true := by simp; omega
        have hq : decide (p.zh - p.zl ≤ 4) = false := by simpa using h5
        go_wp2
        go_ret
        refine ⟨?_, HB4.out⟩
        rw [show validB p = false from by simp [validB, okZR, hq]]
        rfl
      have hd5 : decide ((4 : Int) < p.zh - p.zl) = false := by simp; omega
      by_cases h6 : p.rh - p.rl ≤ 4
      case neg =>
        have hd : decide ((4 : Int) < p.rh - p.rl) = true := by simp; omega
        have hq : decide (p.rh - p.rl ≤ 4) = false := by simpa using h6
        go_wp2
        go_ret
        refine ⟨?_, HB4.out⟩
        rw [show validB p = false from by simp [validB, okZR, hq]]
        rfl
      have hd6 : decide ((4 : Int) < p.rh - p.rl) = false := by simp; omega
      have HZR : Hid (okZR p = true) := by show _ = _; simp [okZR, h3, h4, h5, h6]
      clear h3 h4 h5 h6
      go_wp2_with fail
      clear hd5 hd6 hwz hwr hz1 hz2 hz3 hr1 hr2 hr3 c0 c1 c2 c3 c4 c5
      go_loopw [4] (fun i wr => ∃ k : Nat, k ≤ p.rs.length ∧ i = .int .i64 k ∧ (p.rs.take k).all (okRd p.bs.length) = true ∧ wr.heap[w.heap.size]? = some (pairObj p (.slice ao p.bs.length cap) (.slice ao2 p.rs.length cap2)) ∧ Below w.heap.size w wr) (fun i _ => p.rs.length - (intOf i).toNat)
      case atStart => exact ⟨0, by omega, rfl, by simp, HRW4.out, HB4.out⟩
      case round =>
        obtain ⟨k, hk, rfl, hra, hrow, hb⟩ := hrel
        have HRW := Lib.hid hrow
        have HB := Lib.hid hb
        have HRA := Lib.hid hra
        have hlr := lt_of_block hrow
        unfold pairObj pairRow at hrow
        clear hb hra
        by_cases hlk : k < p.rs.length
        · skip
          have c0 : wr.cell? ⟨w.heap.size, 0, none⟩ = some (.slice ao p.bs.length cap) := by rw [cell_of_row wr _ _ _ _ _ hrow]; rfl
          have c1 : wr.cell? ⟨w.heap.size, 1, none⟩ = some (.int .i64 p.zl) := by rw [cell_of_row wr _ _ _ _ _ hrow]; rfl
          have c2 : wr.cell? ⟨w.heap.size, 2, none⟩ = some (.int .i64 p.zh) := by rw [cell_of_row wr _ _ _ _ _ hrow]; rfl
          have c3 : wr.cell? ⟨w.heap.size, 3, none⟩ = some (.int .i64 p.rl) := by rw [cell_of_row wr _ _ _ _ _ hrow]; rfl
          have c4 : wr.cell? ⟨w.heap.size, 4, none⟩ = some (.int .i64 p.rh) := by rw [cell_of_row wr _ _ _ _ _ hrow]; rfl
          have c5 : wr.cell? ⟨w.heap.size, 5, none⟩ = some (.slice ao2 p.rs.length cap2) := by rw [cell_of_row wr _ _ _ _ _ hrow]; rfl
          have hcs : ∀ o, (wr.alloc o).cell? ⟨w.heap.size, 0, none⟩ = some (.slice ao p.bs.length cap) ∧ (wr.alloc o).cell? ⟨w.heap.size, 1, none⟩ = some (.int .i64 p.zl) ∧ (wr.alloc o).cell? ⟨w.heap.size, 2, none⟩ = some (.int .i64 p.zh) ∧ (wr.alloc o).cell? ⟨w.heap.size, 3, none⟩ = some (.int .i64 p.rl) ∧ (wr.alloc o).cell? ⟨w.heap.size, 4, none⟩ = some (.int .i64 p.rh) ∧ (wr.alloc o).cell? ⟨w.heap.size, 5, none⟩ = some (.slice ao2 p.rs.length cap2) := by
            intro o
            have hr' := (hget_old wr o _ (by omega)).trans hrow
            refine ⟨?_, ?_, ?_, ?_, ?_, ?_⟩ <;> (rw [cell_of_row _ _ _ _ _ _ hr']; rfl)
          have d0 := fun o => (hcs o).1
          have d1 := fun o => (hcs o).2.1
          have d2 := fun o => (hcs o).2.2.1
          have d3 := fun o => (hcs o).2.2.2.1
          have d4 := fun o => (hcs o).2.2.2.2.1
          have d5 := fun o => (hcs o).2.2.2.2.2
          clear hrow hcs
          obtain ⟨b, off, rfl, hr, hbl, e1, e2, e3, e4, e5⟩ := HE2.out k hlk
          have f1 := (HB.out.cell (p := ⟨b, off + k * 5, none⟩) hbl).trans e1
          have f2 := (HB.out.cell (p := ⟨b, off + k * 5 + 1, none⟩) hbl).trans e2
          have f3 := (HB.out.cell (p := ⟨b, off + k * 5 + 2, none⟩) hbl).trans e3
          have f4 := (HB.out.cell (p := ⟨b, off + k * 5 + 3, none⟩) hbl).trans e4
          have f5 := (HB.out.cell (p := ⟨b, off + k * 5 + 4, none⟩) hbl).trans e5
          clear e1 e2 e3 e4 e5
          have HTA := Lib.hid (take_all p.rs (okRd p.bs.length) k hlk HRA.out)
          have HAF := Lib.hid (all_false p.rs (okRd p.bs.length) k hlk)
          generalize p.rs[k] = rd at *
          obtain ⟨ra, rb, rm, rlo, rhi⟩ := rd
          have HNO : Hid (okRd p.bs.length ⟨ra, rb, rm, rlo, rhi⟩ = false → validB p = false) := fun h => (by simp only [validB, HAF.out h, Bool.and_false])
          clear HAF
          have hszr := HB.out.size
          obtain ⟨w5, hW5⟩ : ∃ w5, w5 = wr.alloc (.cells #[.int .i64 ra, .int .i64 rb, .int .i64 rm, .int .i64 rlo, .int .i64 rhi] 94 (0, 0)) := ⟨_, rfl⟩
          have HB5 := Lib.hid (show Below w.heap.size w w5 by rw [hW5]; exact HB.out.alloc hszr _)
          have HR5 := Lib.hid (show w5.heap[w.heap.size]? = some (pairObj p (.slice ao p.bs.length cap) (.slice (some ⟨b, off, none⟩) p.rs.length cap2)) by rw [hW5]; exact (hget_old wr _ _ (by omega)).trans HRW.out)
          have HQ5 := Lib.hid (show w5.heap[wr.heap.size]? = some (.cells #[.int .i64 ra, .int .i64 rb, .int .i64 rm, .int .i64 rlo, .int .i64 rhi] 94 (0, 0)) by rw [hW5]; exact heap_alloc_at _ _ _ rfl)
          go_wp2_with fail
          rw [← hW5]
          clear hW5 d0 d1 d2 d3 d4 d5 f1 f2 f3 f4 f5
          have g0 := True.intro
          have g1 := True.intro
          have g2 := True.intro
          have g3 := True.intro
          have g4 := True.intro
          refine (rblock_any p p.bs.length cap ao _ (by omega) ra _).mono ?_
          rintro e w6 ⟨rfl, hbx⟩
          have HB6 := Lib.hid (HB5.out.trans (hbx.mono HB5.out.size))
          have hrq := (hbx.block w.heap.size (lt_of_block HR5.out)).trans HR5.out
          have hqq := (hbx.block wr.heap.size (lt_of_block HQ5.out)).trans HQ5.out
          have HR6 := Lib.hid hrq
          have HQ6 := Lib.hid hqq
          clear hbx c0 c1 c2 c3 c4 c5 g0 g1 g2 g3 g4
          unfold pairObj pairRow at hrq
          have c0 : w6.cell? ⟨w.heap.size, 0, none⟩ = some (.slice ao p.bs.length cap) := by rw [cell_of_row w6 _ _ _ _ _ hrq]; rfl
          have c1 : w6.cell? ⟨w.heap.size, 1, none⟩ = some (.int .i64 p.zl) := by rw [cell_of_row w6 _ _ _ _ _ hrq]; rfl
          have c2 : w6.cell? ⟨w.heap.size, 2, none⟩ = some (.int .i64 p.zh) := by rw [cell_of_row w6 _ _ _ _ _ hrq]; rfl
          have c3 : w6.cell? ⟨w.heap.size, 3, none⟩ = some (.int .i64 p.rl) := by rw [cell_of_row w6 _ _ _ _ _ hrq]; rfl
          have c4 : w6.cell? ⟨w.heap.size, 4, none⟩ = some (.int .i64 p.rh) := by rw [cell_of_row w6 _ _ _ _ _ hrq]; rfl
          have c5 : w6.cell? ⟨w.heap.size, 5, none⟩ = some (.slice (some ⟨b, off, none⟩) p.rs.length cap2) := by rw [cell_of_row w6 _ _ _ _ _ hrq]; rfl
          have g0 : w6.cell? ⟨wr.heap.size, 0, none⟩ = some (.int .i64 ra) := by rw [cell_of_row w6 _ _ _ _ _ hqq]; rfl
          have g1 : w6.cell? ⟨wr.heap.size, 1, none⟩ = some (.int .i64 rb) := by rw [cell_of_row w6 _ _ _ _ _ hqq]; rfl
          have g2 : w6.cell? ⟨wr.heap.size, 2, none⟩ = some (.int .i64 rm) := by rw [cell_of_row w6 _ _ _ _ _ hqq]; rfl
          have g3 : w6.cell? ⟨wr.heap.size, 3, none⟩ = some (.int .i64 rlo) := by rw [cell_of_row w6 _ _ _ _ _ hqq]; rfl
          have g4 : w6.cell? ⟨wr.heap.size, 4, none⟩ = some (.int .i64 rhi) := by rw [cell_of_row w6 _ _ _ _ _ hqq]; rfl
          clear hrq hqq
          cases k1 : inB ra 0 ((p.bs.length : Int) - 1) with
          | false =>
            go_wp2
            go_ret
            refine ⟨?_, HB6.out⟩
            rw [show validB p = false from HNO.out (by simp [okRd, k1])]
            rfl
          | true =>
          go_wp2_with fail
          refine (rblock_any p p.bs.length cap ao _ (by omega) rb _).mono ?_
          rintro e w7 ⟨rfl, hbx⟩
          have HB7 := Lib.hid (HB6.out.trans (hbx.mono HB6.out.size))
          have hrq := (hbx.block w.heap.size (lt_of_block HR6.out)).trans HR6.out
          have hqq := (hbx.block wr.heap.size (lt_of_block HQ6.out)).trans HQ6.out
          have HR7 := Lib.hid hrq
          have HQ7 := Lib.hid hqq
          clear hbx c0 c1 c2 c3 c4 c5 g0 g1 g2 g3 g4
          unfold pairObj pairRow at hrq
          have c0 : w7.cell? ⟨w.heap.size, 0, none⟩ = some (.slice ao p.bs.length cap) := by rw [cell_of_row w7 _ _ _ _ _ hrq]; rfl
          have c1 : w7.cell? ⟨w.heap.size, 1, none⟩ = some (.int .i64 p.zl) := by rw [cell_of_row w7 _ _ _ _ _ hrq]; rfl
          have c2 : w7.cell? ⟨w.heap.size, 2, none⟩ = some (.int .i64 p.zh) := by rw [cell_of_row w7 _ _ _ _ _ hrq]; rfl
          have c3 : w7.cell? ⟨w.heap.size, 3, none⟩ = some (.int .i64 p.rl) := by rw [cell_of_row w7 _ _ _ _ _ hrq]; rfl
          have c4 : w7.cell? ⟨w.heap.size, 4, none⟩ = some (.int .i64 p.rh) := by rw [cell_of_row w7 _ _ _ _ _ hrq]; rfl
          have c5 : w7.cell? ⟨w.heap.size, 5, none⟩ = some (.slice (some ⟨b, off, none⟩) p.rs.length cap2) := by rw [cell_of_row w7 _ _ _ _ _ hrq]; rfl
          have g0 : w7.cell? ⟨wr.heap.size, 0, none⟩ = some (.int .i64 ra) := by rw [cell_of_row w7 _ _ _ _ _ hqq]; rfl
          have g1 : w7.cell? ⟨wr.heap.size, 1, none⟩ = some (.int .i64 rb) := by rw [cell_of_row w7 _ _ _ _ _ hqq]; rfl
          have g2 : w7.cell? ⟨wr.heap.size, 2, none⟩ = some (.int .i64 rm) := by rw [cell_of_row w7 _ _ _ _ _ hqq]; rfl
          have g3 : w7.cell? ⟨wr.heap.size, 3, none⟩ = some (.int .i64 rlo) := by rw [cell_of_row w7 _ _ _ _ _ hqq]; rfl
          have g4 : w7.cell? ⟨wr.heap.size, 4, none⟩ = some (.int .i64 rhi) := by rw [cell_of_row w7 _ _ _ _ _ hqq]; rfl
          clear hrq hqq
          cases k2 : inB rb 0 ((p.bs.length : Int) - 1) with
          | false =>
            go_wp2
            go_ret
            refine ⟨?_, HB7.out⟩
            rw [show validB p = false from HNO.out (by simp [okRd, k2])]
            rfl
          | true =>
          by_cases k3 : ra = rb
          case pos =>
            have hd : (ra == rb) = true := by simpa using k3
            go_wp2
            go_ret
            refine ⟨?_, HB7.out⟩
            rw [show validB p = false from HNO.out (by simp [okRd, k3])]
            rfl
          have hd3 : (ra == rb) = false := by simpa using k3
          go_wp2_with fail
          refine (rminute_any rm w7).mono ?_
          rintro e w' ⟨rfl, rfl⟩
          cases k4 : inB rm 0 60 with
          | false =>
            go_wp2
            go_ret
            refine ⟨?_, HB7.out⟩
            rw [show validB p = false from HNO.out (by simp [okRd, k4])]
            rfl
          | true =>
          go_wp2_with fail
          refine (rspan_any rlo rhi 80 (by omega) w7).mono ?_
          rintro e w8 ⟨rfl, hbx⟩
          have HB8 := Lib.hid (HB7.out.trans (hbx.mono HB7.out.size))
          have hrq := (hbx.block w.heap.size (lt_of_block HR7.out)).trans HR7.out
          have hqq := (hbx.block wr.heap.size (lt_of_block HQ7.out)).trans HQ7.out
          have HR8 := Lib.hid hrq
          have HQ8 := Lib.hid hqq
          clear hbx c0 c1 c2 c3 c4 c5 g0 g1 g2 g3 g4
          unfold pairObj pairRow at hrq
          have c0 : w8.cell? ⟨w.heap.size, 0, none⟩ = some (.slice ao p.bs.length cap) := by rw [cell_of_row w8 _ _ _ _ _ hrq]; rfl
          have c1 : w8.cell? ⟨w.heap.size, 1, none⟩ = some (.int .i64 p.zl) := by rw [cell_of_row w8 _ _ _ _ _ hrq]; rfl
          have c2 : w8.cell? ⟨w.heap.size, 2, none⟩ = some (.int .i64 p.zh) := by rw [cell_of_row w8 _ _ _ _ _ hrq]; rfl
          have c3 : w8.cell? ⟨w.heap.size, 3, none⟩ = some (.int .i64 p.rl) := by rw [cell_of_row w8 _ _ _ _ _ hrq]; rfl
          have c4 : w8.cell? ⟨w.heap.size, 4, none⟩ = some (.int .i64 p.rh) := by rw [cell_of_row w8 _ _ _ _ _ hrq]; rfl
          have c5 : w8.cell? ⟨w.heap.size, 5, none⟩ = some (.slice (some ⟨b, off, none⟩) p.rs.length cap2) := by rw [cell_of_row w8 _ _ _ _ _ hrq]; rfl
          have g0 : w8.cell? ⟨wr.heap.size, 0, none⟩ = some (.int .i64 ra) := by rw [cell_of_row w8 _ _ _ _ _ hqq]; rfl
          have g1 : w8.cell? ⟨wr.heap.size, 1, none⟩ = some (.int .i64 rb) := by rw [cell_of_row w8 _ _ _ _ _ hqq]; rfl
          have g2 : w8.cell? ⟨wr.heap.size, 2, none⟩ = some (.int .i64 rm) := by rw [cell_of_row w8 _ _ _ _ _ hqq]; rfl
          have g3 : w8.cell? ⟨wr.heap.size, 3, none⟩ = some (.int .i64 rlo) := by rw [cell_of_row w8 _ _ _ _ _ hqq]; rfl
          have g4 : w8.cell? ⟨wr.heap.size, 4, none⟩ = some (.int .i64 rhi) := by rw [cell_of_row w8 _ _ _ _ _ hqq]; rfl
          clear hrq hqq
          cases k5 : okSpan rlo rhi 80 with
          | false =>
            go_wp2
            go_ret
            refine ⟨?_, HB8.out⟩
            rw [show validB p = false from HNO.out (by simp [okRd, k5])]
            rfl
          | true =>
          have hok : okRd p.bs.length ⟨ra, rb, rm, rlo, rhi⟩ = true := by simp [okRd, k1, k2, k3, k4, k5]
          have HOK := Lib.hid hok
          clear hok k1 k2 k3 k4 k5 hd3
          go_wp2
          exact ⟨⟨k + 1, by omega, by go_num, HTA.out.trans HOK.out, HR8.out, HB8.out⟩, by simp [intOf]; omega⟩
        · obtain rfl : k = p.rs.length := by omega
          have hrall := HRA.out
          rw [List.take_length] at hrall
          have hv : validB p = true := by simp only [validB, HHD.out, HAB.out, HZR.out, hrall, Bool.and_self]
          have HV := Lib.hid hv
          have c0 : wr.cell? ⟨w.heap.size, 0, none⟩ = some (.slice ao p.bs.length cap) := by rw [cell_of_row wr _ _ _ _ _ hrow]; rfl
          have c1 : wr.cell? ⟨w.heap.size, 1, none⟩ = some (.int .i64 p.zl) := by rw [cell_of_row wr _ _ _ _ _ hrow]; rfl
          have c2 : wr.cell? ⟨w.heap.size, 2, none⟩ = some (.int .i64 p.zh) := by rw [cell_of_row wr _ _ _ _ _ hrow]; rfl
          have c3 : wr.cell? ⟨w.heap.size, 3, none⟩ = some (.int .i64 p.rl) := by rw [cell_of_row wr _ _ _ _ _ hrow]; rfl
          have c4 : wr.cell? ⟨w.heap.size, 4, none⟩ = some (.int .i64 p.rh) := by rw [cell_of_row wr _ _ _ _ _ hrow]; rfl
          have c5 : wr.cell? ⟨w.heap.size, 5, none⟩ = some (.slice ao2 p.rs.length cap2) := by rw [cell_of_row wr _ _ _ _ _ hrow]; rfl
          clear hv hrall HRA hrow
          go_wp2
          go_ret
          refine ⟨?_, HB.out⟩
          rw [HV.out]
          rfl

end Go.Proofs.YtabbmihakoeegaaGreat

/- A pair that comes in as an argument (plain). -/
namespace Go.Proofs.YtabbmihakoeegaaGreat
set_option linter.unusedVariables false
set_option linter.unusedSimpArgs false
open Go.ChangeShapes Go.WideShapes Go.ChangeAt Go.RowKit Go.Deep

theorem choose_list {α : Type} {Q : Nat → α → Prop} : ∀ n : Nat, (∀ i, i < n → ∃ x, Q i x) → ∃ l : List α, l.length = n ∧ ∀ i (h : i < l.length), Q i l[i]
  | 0, _ => ⟨[], rfl, fun i h => absurd h (by simp)⟩
  | n + 1, h => by
    obtain ⟨l, hl, hq⟩ := choose_list n (fun i hi => h i (by omega))
    obtain ⟨x, hx⟩ := h n (by omega)
    refine ⟨l ++ [x], by simp [hl], fun i hi => ?_⟩
    by_cases hin : i < l.length
    · rw [List.getElem_append_left hin]; exact hq i hin
    · have : i = n := by simp at hi; omega
      subst this
      rw [List.getElem_append_right (by omega)]
      simpa [hl] using hx
theorem addr_of_cell {w : World} {a : Addr} {v : Value} (h : w.cell? a = some v) : a = ⟨a.block, a.off, none⟩ ∧ a.block < w.heap.size := by
  obtain ⟨b, o, s⟩ := a
  unfold World.cell? at h
  cases hh : w.heap[b]? with
  | none => rw [hh] at h; simp at h
  | some ob =>
    rw [hh] at h
    refine ⟨?_, (Array.getElem?_eq_some_iff.1 hh).1⟩
    cases s with
    | none => rfl
    | some s => cases ob <;> simp at h

section
variable {H : Type} {enc : TypeId × Value → H} {w : World} {base : Nat} {spare : Nat → Bool} {held : Bool}
theorem open_int2 {n : Nat} {t : TypeId} {v : Value} {x : DataW H × List MemPlace} (ht : Tryz.prog.underlying t = some (.int .i64)) (h : DataW.trod enc Tryz.prog w base spare held n t [v] = some x) : ∃ i, v = .int .i64 i := by
  obtain ⟨i, hi, _⟩ := DataW.trod_int ht h
  exact ⟨i, by simpa using hi⟩
theorem under3 : Tryz.prog.underlying 3 = some (.int .i64) := by kernel_rfl
theorem cells_int : Tryz.prog.cellsOf 3 = 1 := by kernel_rfl
theorem cells_span : Tryz.prog.cellsOf 24 = 2 := by kernel_rfl
theorem cells_read : Tryz.prog.cellsOf 94 = 5 := by kernel_rfl
theorem cells_spans : Tryz.prog.cellsOf 22 = 1 := by kernel_rfl
theorem cells_reads : Tryz.prog.cellsOf 25 = 1 := by kernel_rfl
theorem cells_pair : Tryz.prog.cellsOf 27 = 6 := by kernel_rfl
set_option maxRecDepth 100000 in
theorem open_spanV {n : Nat} {cs : List Value} {x : DataW H × List MemPlace} (h : DataW.trod enc Tryz.prog w base spare held n 24 cs = some x) : ∃ a b, cs = [.int .i64 a, .int .i64 b] := by
  obtain ⟨xs, m, _, _, hl, hx, hf⟩ := DataW.trod_struct Tryz.underlying24 h
  rw [cells_span] at hl
  match cs, hl with
  | [c0, c1], _ =>
    have h0 := hf 0 _ rfl
    have h1 := hf 1 _ rfl
    have hxl : xs.length = 2 := hx
    match xs, hxl with
    | [y0, y1], _ =>
      have e0 : DataW.trod enc Tryz.prog w base spare held m 3 [c0] = some y0 := by
        change DataW.trod enc Tryz.prog w base spare held m 3 (List.take (Tryz.prog.cellsOf 3) (List.drop 0 [c0, c1])) = some y0 at h0
        rw [cells_int] at h0
        exact h0
      have e1 : DataW.trod enc Tryz.prog w base spare held m 3 [c1] = some y1 := by
        change DataW.trod enc Tryz.prog w base spare held m 3 (List.take (Tryz.prog.cellsOf 3) (List.drop 1 [c0, c1])) = some y1 at h1
        rw [cells_int] at h1
        exact h1
      obtain ⟨a, rfl⟩ := open_int2 under3 e0
      obtain ⟨b, rfl⟩ := open_int2 under3 e1
      exact ⟨a, b, rfl⟩
set_option maxRecDepth 100000 in
theorem open_readV {n : Nat} {cs : List Value} {x : DataW H × List MemPlace} (h : DataW.trod enc Tryz.prog w base spare held n 94 cs = some x) : ∃ r : RdD, cs = rdC r := by
  obtain ⟨xs, m, _, _, hl, hx, hf⟩ := DataW.trod_struct Tryz.underlying94 h
  rw [cells_read] at hl
  match cs, hl with
  | [c0, c1, c2, c3, c4], _ =>
    have h0 := hf 0 _ rfl
    have h1 := hf 1 _ rfl
    have h2 := hf 2 _ rfl
    have h3 := hf 3 _ rfl
    have hxl : xs.length = 4 := hx
    match xs, hxl with
    | [y0, y1, y2, y3], _ =>
      have e0 : DataW.trod enc Tryz.prog w base spare held m 3 [c0] = some y0 := by
        change DataW.trod enc Tryz.prog w base spare held m 3 (List.take (Tryz.prog.cellsOf 3) (List.drop 0 [c0, c1, c2, c3, c4])) = some y0 at h0
        rw [cells_int] at h0
        exact h0
      have e1 : DataW.trod enc Tryz.prog w base spare held m 3 [c1] = some y1 := by
        change DataW.trod enc Tryz.prog w base spare held m 3 (List.take (Tryz.prog.cellsOf 3) (List.drop 1 [c0, c1, c2, c3, c4])) = some y1 at h1
        rw [cells_int] at h1
        exact h1
      have e2 : DataW.trod enc Tryz.prog w base spare held m 3 [c2] = some y2 := by
        change DataW.trod enc Tryz.prog w base spare held m 3 (List.take (Tryz.prog.cellsOf 3) (List.drop 2 [c0, c1, c2, c3, c4])) = some y2 at h2
        rw [cells_int] at h2
        exact h2
      have e3 : DataW.trod enc Tryz.prog w base spare held m 24 [c3, c4] = some y3 := by
        change DataW.trod enc Tryz.prog w base spare held m 24 (List.take (Tryz.prog.cellsOf 24) (List.drop 3 [c0, c1, c2, c3, c4])) = some y3 at h3
        rw [cells_span] at h3
        exact h3
      obtain ⟨a, rfl⟩ := open_int2 under3 e0
      obtain ⟨b, rfl⟩ := open_int2 under3 e1
      obtain ⟨c, rfl⟩ := open_int2 under3 e2
      obtain ⟨lo, hi, hs⟩ := open_spanV e3
      simp only [List.cons.injEq, and_true] at hs
      obtain ⟨rfl, rfl⟩ := hs
      exact ⟨⟨a, b, c, lo, hi⟩, rfl⟩
set_option maxRecDepth 100000 in
theorem open_spansV {n : Nat} {v : Value} {x : DataW H × List MemPlace} (h : DataW.trod enc Tryz.prog w base spare held n 22 [v] = some x) : ∃ l, SpansAt w v l (fun k => k < w.heap.size) := by
  rcases open_slice Tryz.underlying22 h with ⟨h1, _⟩ | ⟨a, len, cap, m, k, D, Pl, h1, _, h2, h3, h4, _, h5⟩
  · exact ⟨[], none, 0, by simpa using h1, by simp, by simp, fun i hi => absurd hi (by simp)⟩
  · have hv : v = .slice (some a) len cap := by simpa using h1
    have hlm : len ≤ m := by rw [h4]; split <;> omega
    by_cases h0 : len = 0
    · subst h0
      exact ⟨[], some a, cap, hv, by simp, h3, fun i hi => absurd hi (by simp)⟩
    have hcells : ∀ i, i < len → ∃ s : Int × Int, w.cell? (a.add (i * 2)) = some (.int .i64 s.1) ∧ w.cell? (a.add (i * 2 + 1)) = some (.int .i64 s.2) := fun i hi => by
      obtain ⟨cs', hc, ht⟩ := h5 i (by omega)
      rw [cells_span] at hc
      obtain ⟨lo, hi', rfl⟩ := open_spanV ht
      obtain ⟨_, _, hat⟩ := World.cells?_some hc
      have a0 := hat 0 (by omega)
      have a1 := hat 1 (by omega)
      rw [Go.Deep.add_add] at a0 a1
      exact ⟨(lo, hi'), a0, a1⟩
    obtain ⟨s0, hs0, _⟩ := hcells 0 (by omega)
    obtain ⟨hae, hab⟩ := addr_of_cell (a := a) hs0
    obtain ⟨l, hl, hq⟩ := choose_list (Q := fun i (s : Int × Int) => w.cell? ⟨a.block, a.off + i * 2, none⟩ = some (.int .i64 s.1) ∧ w.cell? ⟨a.block, a.off + i * 2 + 1, none⟩ = some (.int .i64 s.2)) len (fun i hi => by
      obtain ⟨s, e1, e2⟩ := hcells i hi
      rw [hae, Addr.add_mid] at e1 e2
      exact ⟨s, e1, by rw [Nat.add_assoc]; exact e2⟩)
    refine ⟨l, some a, cap, by rw [hv, hl], by omega, h3, fun i hi => ?_⟩
    obtain ⟨e3, e4⟩ := hq i hi
    exact ⟨a.block, a.off, by rw [← hae], hab, hab, e3, e4⟩
set_option maxRecDepth 100000 in
theorem open_readsV {n : Nat} {v : Value} {x : DataW H × List MemPlace} (h : DataW.trod enc Tryz.prog w base spare held n 25 [v] = some x) : ∃ l, ReadsAt w v l (fun k => k < w.heap.size) := by
  rcases open_slice Tryz.underlying25 h with ⟨h1, _⟩ | ⟨a, len, cap, m, k, D, Pl, h1, _, h2, h3, h4, _, h5⟩
  · exact ⟨[], none, 0, by simpa using h1, by simp, by simp, fun i hi => absurd hi (by simp)⟩
  · have hv : v = .slice (some a) len cap := by simpa using h1
    have hlm : len ≤ m := by rw [h4]; split <;> omega
    by_cases h0 : len = 0
    · subst h0
      exact ⟨[], some a, cap, hv, by simp, h3, fun i hi => absurd hi (by simp)⟩
    have hcells : ∀ i, i < len → ∃ r : RdD, ∀ q, q < 5 → w.cell? (a.add (i * 5 + q)) = (rdC r)[q]? := fun i hi => by
      obtain ⟨cs', hc, ht⟩ := h5 i (by omega)
      rw [cells_read] at hc
      obtain ⟨r, rfl⟩ := open_readV ht
      obtain ⟨_, _, hat⟩ := World.cells?_some hc
      refine ⟨r, fun q hq => ?_⟩
      have a0 := hat q hq
      rw [Go.Deep.add_add] at a0
      exact a0
    obtain ⟨s0, hs0⟩ := hcells 0 (by omega)
    obtain ⟨hae, hab⟩ := addr_of_cell (a := a) (hs0 0 (by omega))
    obtain ⟨l, hl, hq⟩ := choose_list (Q := fun i (s : RdD) => ∀ q, q < 5 → w.cell? ⟨a.block, a.off + (i * 5 + q), none⟩ = (rdC s)[q]?) len (fun i hi => by
      obtain ⟨s, e1⟩ := hcells i hi
      refine ⟨s, fun q hq => ?_⟩
      have := e1 q hq
      rw [hae, Addr.add_mid] at this
      exact this)
    refine ⟨l, some a, cap, by rw [hv, hl], by omega, h3, fun i hi => ?_⟩
    have e := hq i hi
    exact ⟨a.block, a.off, by rw [← hae], hab, hab, e 0 (by omega), e 1 (by omega), e 2 (by omega), e 3 (by omega), e 4 (by omega)⟩
end

end Go.Proofs.YtabbmihakoeegaaGreat

/- Arguments that read as they did (plain). -/
namespace Go.Proofs.YtabbmihakoeegaaGreat
set_option linter.unusedVariables false
set_option linter.unusedSimpArgs false
open Go.ChangeShapes Go.WideShapes Go.ChangeAt Go.RowKit

theorem laid_out : laidOutB Tryz.prog = true := by kernel_rfl
theorem trodAll_stays {H : Type} {enc : TypeId × Value → H} {P : Program} (hl : laidOutB P = true) {W W' : World} {sp : Nat → Bool} : ∀ {ts : List TypeId} {vs : List Value} {ds : List (DataW H)} {ps : List MemPlace},
    (∀ t ∈ ts, P.readableRec t = true ∧ t < P.types.size) → DataW.TrodAll enc P W 0 (fun _ => true) true ts vs ds ps → Below W.heap.size W W' → (∀ x ∈ ps, x.block < W.heap.size) → (∀ x ∈ ps, sp x.block = true) → DataW.TrodAll enc P W' 0 sp true ts vs ds ps
  | [], [], [], _, _, h, _, _, _ => h
  | t :: ts, _ :: _, _ :: _, _, hT, ⟨p, q, h1, h2, e⟩, hb, hlt, hs =>
    ⟨p, q, WideElems.Trod_stays hl (hT t List.mem_cons_self).1 (hT t List.mem_cons_self).2 h1 (fun x hx => hb.same (hlt x (by rw [e]; exact List.mem_append_left _ hx))) (fun x hx => hs x (by rw [e]; exact List.mem_append_left _ hx)),
      trodAll_stays hl (fun t' ht' => hT t' (List.mem_cons_of_mem _ ht')) h2 hb (fun x hx => hlt x (by rw [e]; exact List.mem_append_right _ hx)) (fun x hx => hs x (by rw [e]; exact List.mem_append_right _ hx)), e⟩
set_option maxRecDepth 100000 in
theorem lawEnd {H : Type} {enc : TypeId × Value → H} {f : Func} {s : ChangeSpec} {W W' : World} {args : Array Value} {ds : List (DataW H)} {p : List MemPlace} {ts : List TypeId}
    (hW : DataW.Whole enc Tryz.prog f.params.toList s.vars false W args.toList ds [] p) (hvs : s.vars = []) (hA : DataW.TrodAll enc Tryz.prog W 0 (fun _ => true) true ts args.toList ds p) (hts : f.params.toList = ts)
    (hT : ∀ t ∈ ts, Tryz.prog.readableRec t = true ∧ t < Tryz.prog.types.size)
    (hfn : s.fn H (ds ++ []) = { results := [.lit (.bool true)], args := ds }) (hr : f.resultTypes = #[4]) (hb : Below W.heap.size W W') :
    s.post enc Tryz.prog f false true false false W args (.bool true) W' := by
  refine post_of_below (pa := p) (pv := []) hW (fun b sp hd => ?_) (fun sp hsp => ?_) (fun sp _ => ?_) (List.append_nil p).symm hb (ok_one hr rfl (okWide_bool_mk Tryz.underlying4 _))
  · rw [hr, hfn]
    exact trodAll_cons_mk (shut_bool Tryz.underlying4 _) trodAll_mk0
  · rw [hfn, hts]
    exact trodAll_stays laid_out hT hA hb (fun x hx => by simpa using hW.lt x hx) hsp
  · rw [hfn, hvs]
    rfl

end Go.Proofs.YtabbmihakoeegaaGreat

/- Numbers of eight bits as arguments (plain). -/
namespace Go.Proofs.YtabbmihakoeegaaGreat
set_option linter.unusedVariables false
set_option linter.unusedSimpArgs false
open Go.ChangeShapes Go.WideShapes Go.ChangeAt Go.RowKit

end Go.Proofs.YtabbmihakoeegaaGreat
