/- Texts Pf, Tl, Ts, Tt in one file; each begins with a word on what it proves. -/
import Derived.Test.YtlgeggekmdoceaaKk
import Derived.Test.YtlgeggekmdoceaaKm

/- What PairClash says (plain). -/
namespace Go.Proofs.Ytlgeggekmdoceaa
set_option linter.unusedVariables false
set_option linter.unusedSimpArgs false
open Go.RowKit

theorem mem_keptL (l : List RdD) (s j : Nat) (hj : j ≤ l.length) (r : RdD) : r ∈ keptL l s j ↔ ∃ i, ∃ h : i < l.length, i < j ∧ s.testBit i = true ∧ l[i] = r := by
  unfold keptL
  rw [List.mem_filterMap]
  constructor
  · rintro ⟨i, hi, h⟩
    rw [List.mem_range] at hi
    split at h
    · rw [List.getElem?_eq_getElem (by omega : i < l.length)] at h
      exact ⟨i, by omega, hi, by assumption, Option.some.inj h⟩
    · cases h
  · rintro ⟨i, h, hi, hs, e⟩
    refine ⟨i, List.mem_range.2 hi, ?_⟩
    rw [if_pos hs, List.getElem?_eq_getElem h, e]
/-- The pair with those of its readings that are in a set. -/
def subR (p : PairD) (s : Nat) : PairD := { p with rs := keptL p.rs s p.rs.length }
theorem subR_valid {p : PairD} (hv : validB p = true) (s : Nat) : validB (subR p s) = true := by
  unfold validB at hv ⊢
  rw [Bool.and_eq_true, Bool.and_eq_true, Bool.and_eq_true] at hv ⊢
  obtain ⟨⟨⟨h1, h2⟩, h3⟩, h4⟩ := hv
  refine ⟨⟨⟨?_, h2⟩, h3⟩, ?_⟩
  · unfold okHead subR at *
    rw [Bool.and_eq_true] at h1 ⊢
    refine ⟨h1.1, ?_⟩
    have := h1.2
    rw [decide_eq_true_eq] at this ⊢
    have h := keptL_le p.rs s p.rs.length
    show ((keptL p.rs s p.rs.length).length : Int) ≤ 8
    omega
  · show (keptL p.rs s p.rs.length).all (okRd p.bs.length) = true
    rw [List.all_eq_true] at h4 ⊢
    intro r hr
    obtain ⟨i, h, _, _, rfl⟩ := (mem_keptL _ _ _ (Nat.le_refl _) r).1 hr
    exact h4 _ (List.getElem_mem h)
theorem allR_bit (p : PairD) (i : Nat) (hi : i < p.rs.length) : (allR p).testBit i = true := by
  unfold allR
  rw [Nat.testBit_two_pow_sub_one]
  simpa using hi
theorem subR_can (p : PairD) (s : Nat) : CanP (subR p s) (allR (subR p s)) ↔ CanP p s := by
  unfold CanP
  have hT : ∀ c x, TruthP (subR p s) (allR (subR p s)) c x ↔ TruthP p s c x := by
    intro c x
    constructor
    · intro h
      refine ⟨h.mark, h.bs, fun i hi hs => ?_⟩
      have hm : p.rs[i] ∈ (subR p s).rs := (mem_keptL _ _ _ (Nat.le_refl _) _).2 ⟨i, hi, hi, hs, rfl⟩
      obtain ⟨j, hj, e⟩ := List.getElem_of_mem hm
      have := h.rs j hj (allR_bit _ j hj)
      rw [e] at this
      exact this
    · intro h
      refine ⟨h.mark, h.bs, fun j hj _ => ?_⟩
      obtain ⟨i, hi, _, hs, e⟩ := (mem_keptL p.rs s _ (Nat.le_refl _) _).1 (List.getElem_mem hj)
      have := h.rs i hi hs
      rw [e] at this
      exact this
  constructor
  · rintro ⟨c, hc, x, hx⟩; exact ⟨c, hc, x, (hT c x).1 hx⟩
  · rintro ⟨c, hc, x, hx⟩; exact ⟨c, hc, x, (hT c x).2 hx⟩
theorem someT_can {p : PairD} (hp : OkP p) (s : Nat) : someT p s = true ↔ CanP p s := by
  rw [← truthsL_ne p hp]
  unfold someT
  cases truthsL p s <;> simp
theorem truA_sub {p : PairD} (hv : validB p = true) (s : Nat) : (truA (subR p s) = [] ↔ someT p s = false) := by
  have h1 := truthsL_ne (subR p s) (OkP.of _ (subR_valid hv s)) (allR (subR p s))
  rw [subR_can, ← someT_can (OkP.of p hv)] at h1
  unfold truA
  constructor
  · intro h
    cases e : someT p s with
    | false => rfl
    | true => exact absurd h (h1.2 e)
  · intro h
    rcases Classical.em (truthsL (subR p s) (allR (subR p s)) = []) with k | k
    · exact k
    · rw [h1.1 k] at h; cases h
theorem truA_some (p : PairD) : truA p = [] ↔ someT p (allR p) = false := by
  unfold truA someT
  cases truthsL p (allR p) <;> simp
theorem someT_mono {p : PairD} (hp : OkP p) {s t : Nat} (h : ∀ i, i < p.rs.length → s.testBit i = true → t.testBit i = true) (ht : someT p t = true) : someT p s = true := by
  rw [someT_can hp] at ht ⊢
  obtain ⟨c, hc, x, hx⟩ := ht
  exact ⟨c, hc, x, hx.mark, hx.bs, fun i hi hs => hx.rs i hi (h i hi hs)⟩
theorem best_spec (f : Nat → Bool) (m : Nat) (hm : m ≤ 8) (hall : f (2 ^ m - 1) = true) : f (bestL f (2 ^ m - 1) (2 ^ m)) = true ∧ bestL f (2 ^ m - 1) (2 ^ m) ≤ 2 ^ m - 1 ∧
    ∀ t, t < 2 ^ m → f t = true → ones (bestL f (2 ^ m - 1) (2 ^ m)) < ones t ∨ (ones (bestL f (2 ^ m - 1) (2 ^ m)) = ones t ∧ bestL f (2 ^ m - 1) (2 ^ m) ≤ t) := by
  have hp := Nat.one_le_two_pow (n := m)
  rcases best_inv f m hm (2 ^ m) (Nat.le_refl _) with ⟨h1, h2⟩ | ⟨h1, h2, h3, h4⟩
  · rw [h1]
    refine ⟨hall, Nat.le_refl _, fun t ht hf => ?_⟩
    by_cases e : t = 2 ^ m - 1
    · rw [e]; exact .inr ⟨rfl, Nat.le_refl _⟩
    · rw [h2 t ht (by omega)] at hf; cases hf
  · exact ⟨h3, by omega, h4⟩
theorem ones_zero : ∀ t : Fin 256, ones t.val = 0 → t.val = 0 := by decide +kernel
theorem ones_less : ∀ t : Fin 256, ∀ i : Fin 8, t.val.testBit i.val = true → ones (t.val - 2 ^ i.val) < ones t.val ∧ 2 ^ i.val ≤ t.val ∧ bits BinOp.andNot IntKind.i64 (t.val : Int) (2 ^ i.val) = ((t.val - 2 ^ i.val : Nat) : Int) := by decide +kernel
theorem bit8_i64 : ∀ i : Fin 8, ∀ s : Fin 256, (bits BinOp.and IntKind.i64 ((s.val : Int) / 2 ^ i.val) 1 == 1) = s.val.testBit i.val := by decide +kernel
theorem i64_and_nat (a b : Nat) (ha : a < 256) (hb : b < 256) : bits .and .i64 (a : Int) (b : Int) = ((a &&& b : Nat) : Int) := by
  have hx : a &&& b < 2 ^ 8 := Nat.and_lt_two_pow _ (by omega)
  show IntKind.i64.wrap ((BitVec.ofInt 64 (a : Int) &&& BitVec.ofInt 64 (b : Int)).toNat : Int) = _
  rw [BitVec.toNat_and, BitVec.ofInt_natCast, BitVec.ofInt_natCast, BitVec.toNat_ofNat, BitVec.toNat_ofNat, Nat.mod_eq_of_lt (by omega), Nat.mod_eq_of_lt (by omega)]
  exact IntWalk.i64_in _ (by omega)
theorem i64_not_nat (m t : Nat) (hm : m ≤ 8) (ht : t ≤ 2 ^ m - 1) : bits .andNot .i64 ((2 ^ m - 1 : Nat) : Int) (t : Int) = ((2 ^ m - 1 - t : Nat) : Int) := by
  have hp := Nat.one_le_two_pow (n := m)
  have h256 : 2 ^ m ≤ 2 ^ 8 := Nat.pow_le_pow_right (by decide) hm
  show IntKind.i64.wrap ((BitVec.ofInt 64 ((2 ^ m - 1 : Nat) : Int) &&& ~~~ BitVec.ofInt 64 (t : Int)).toNat : Int) = _
  have e : (BitVec.ofInt 64 ((2 ^ m - 1 : Nat) : Int) &&& ~~~ BitVec.ofInt 64 (t : Int)).toNat = 2 ^ m - 1 - t := by
    apply Nat.eq_of_testBit_eq
    intro i
    rw [BitVec.testBit_toNat, BitVec.getLsbD_and, BitVec.getLsbD_not, BitVec.ofInt_natCast, BitVec.ofInt_natCast, BitVec.getLsbD_ofNat, BitVec.getLsbD_ofNat, Nat.testBit_two_pow_sub_one,
      show 2 ^ m - 1 - t = 2 ^ m - (t + 1) by omega, Nat.testBit_two_pow_sub_succ (by omega)]
    by_cases h1 : i < m
    · have h64 : i < 64 := by omega
      simp [h1, h64]
    · simp [h1]
  rw [e]
  exact IntWalk.i64_in _ (by omega)
/-! ### what is told -/
/-- The readings that must be wrong; those that clash. -/
def outS (p : PairD) : Nat := bestL (fun s => someT p (allR p - s)) (allR p) (2 ^ p.rs.length)
def setS (p : PairD) : Nat := bestL (fun s => !someT p s) (allR p) (2 ^ p.rs.length)
theorem wrongV_yes {p : PairD} (hv : validB p = true) : wrongV p = ((((ones (outS p) : Nat) : Int), ((outS p : Nat) : Int)), 0) := by
  unfold wrongV
  rw [if_neg (by simp [hv])]
  rfl
structure OutOk (p : PairD) (o : Nat) : Prop where
  le : o ≤ allR p
  can : someT p (allR p - o) = true
  least : ∀ t, t ≤ allR p → someT p (allR p - t) = true → ones o < ones t ∨ (ones o = ones t ∧ o ≤ t)
theorem outS_ok {p : PairD} (hv : validB p = true) : OutOk p (outS p) := by
  have hp := OkP.of p hv
  have h := best_spec (fun s => someT p (allR p - s)) p.rs.length hp.m8 (by
    show someT p (allR p - (2 ^ p.rs.length - 1)) = true
    rw [show allR p - (2 ^ p.rs.length - 1) = 0 by unfold allR; omega]
    exact someT_zero p hp)
  have hpw := Nat.one_le_two_pow (n := p.rs.length)
  exact ⟨h.2.1, h.1, fun t ht => h.2.2 t (by unfold allR at ht; omega)⟩
structure SetOk (p : PairD) (s : Nat) : Prop where
  le : s ≤ allR p
  no : someT p s = false
  least : ∀ t, t ≤ allR p → someT p t = false → ones s < ones t ∨ (ones s = ones t ∧ s ≤ t)
theorem setS_ok {p : PairD} (hv : validB p = true) (hn : someT p (allR p) = false) : SetOk p (setS p) := by
  have hp := OkP.of p hv
  have h := best_spec (fun s => !someT p s) p.rs.length hp.m8 (by
    show (!someT p (allR p)) = true
    rw [hn]; rfl)
  have hpw := Nat.one_le_two_pow (n := p.rs.length)
  refine ⟨h.2.1, (by have := h.1; rw [Bool.not_eq_true'] at this; exact this), fun t ht hs => h.2.2 t (by unfold allR at ht; omega) (by rw [hs]; rfl)⟩
section
variable {p : PairD} (hv : validB p = true)
include hv
theorem allR_256 : allR p < 256 := allR_lt p (OkP.of p hv).m8
theorem outS_none : (((ones (outS p) : Nat) : Int) == 0) = someT p (allR p) := by
  have h := outS_ok hv
  have h256 := allR_256 hv
  have hle := h.le
  rw [Bool.eq_iff_iff, beq_iff_eq]
  constructor
  · intro e
    have := ones_zero ⟨outS p, by omega⟩ (by dsimp only; omega)
    dsimp only at this
    have hc := h.can
    rw [this] at hc
    exact hc
  · intro e
    have := h.least 0 (by omega) e
    have h0 : ones 0 = 0 := by decide +kernel
    omega
theorem setS_pos (hn : someT p (allR p) = false) : 1 ≤ setS p := by
  have h := (setS_ok hv hn).no
  rcases Nat.eq_zero_or_pos (setS p) with e | e
  · rw [e, someT_zero p (OkP.of p hv)] at h; cases h
  · exact e
theorem setS_meets (hn : someT p (allR p) = false) : (setS p &&& outS p) ≠ 0 := by
  have hp := OkP.of p hv
  have h1 := setS_ok hv hn
  have h2 := outS_ok hv
  intro e
  have : someT p (setS p) = true := someT_mono hp (fun i hi hs => by
    have hpw := Nat.one_le_two_pow (n := p.rs.length)
    have hle := h2.le
    unfold allR at hle ⊢
    rw [show 2 ^ p.rs.length - 1 - outS p = 2 ^ p.rs.length - (outS p + 1) by omega, Nat.testBit_two_pow_sub_succ (by omega)]
    have e2 : (setS p &&& outS p).testBit i = false := by rw [e]; simp
    rw [Nat.testBit_and, hs, Bool.true_and] at e2
    simp [hi, e2]) h2.can
  rw [h1.no] at this
  cases this
theorem setS_cut (hn : someT p (allR p) = false) (i : Nat) (hi : i < p.rs.length) (hb : (setS p).testBit i = true) : someT p (setS p - 2 ^ i) = true := by
  have hp := OkP.of p hv
  have h1 := setS_ok hv hn
  have h256 := allR_256 hv
  have hle := h1.le
  have h8 := hp.m8
  have hl := ones_less ⟨setS p, by omega⟩ ⟨i, by omega⟩ hb
  dsimp only at hl
  cases e : someT p (setS p - 2 ^ i) with
  | true => rfl
  | false =>
    have := h1.least (setS p - 2 ^ i) (Nat.le_trans (Nat.sub_le _ _) hle) e
    omega
end

end Go.Proofs.Ytlgeggekmdoceaa

/- The closure of PairClash: do the readings of a set clash? -/
namespace Go.Proofs.Ytlgeggekmdoceaa
set_option linter.unusedVariables false
set_option linter.unusedSimpArgs false
open Go.RowKit Go.Shelf
attribute [local go_sem] Oper.semAt_some

theorem set_field5 {w : World} {b : Nat} {a0 a1 a2 a3 a4 a5 x : Value} {t : TypeId} {fr : Nat × Nat} (h : w.heap[b]? = some (.cells #[a0, a1, a2, a3, a4, a5] t fr)) : (w.setCell ⟨b, 5, none⟩ x).heap[b]? = some (.cells #[a0, a1, a2, a3, a4, x] t fr) := one5_setCell h
theorem own_keep {w w' : World} {base : Nat} {e : TypeId} {size : Nat} {v : Value} {n : Nat} {xs : List Value} (h : w.ownsRow base e size v n xs) (hh : ∀ g, base ≤ g → w'.heap[g]? = w.heap[g]?) : w'.ownsRow base e size v n xs := by
  obtain ⟨h1, h2⟩ := h
  exact ⟨h1, h2.imp id (fun ⟨g, cap, cur, a, b, c, d⟩ => ⟨g, cap, cur, a, b, (hh g b).trans c, d⟩)⟩
set_option maxRecDepth 100000 in
set_option maxHeartbeats 4000000 in
theorem clashc_any (p : PairD) (hv : validB p = true) (s : Nat) (hs : s < 256) (bp : Nat) (bs rs : Value) (w : World) (hpa : PairAt w p bs rs) (hb : w.heap[bp]? = some (pairObj p bs rs)) :
    Calls Try.prog 42 (#[.int .i64 s] ++ #[.pointer (some ⟨bp, 0, none⟩)]) w fun e w' => e = .returned (.bool (!someT p s)) ∧ Below w.heap.size w w' := by
  obtain ⟨ao, cap, hbse, _⟩ := id hpa.b
  subst hbse
  obtain ⟨ao2, cap2, hrse, _⟩ := id hpa.r
  subst hrse
  have hp := OkP.of p hv
  have hm8 := hp.m8
  have hbl := lt_of_block hb
  have HPA := Lib.hid hpa
  have HBP := Lib.hid hb
  obtain ⟨k1, k2, er, hkn, her⟩ : ∃ k1 k2 er : Int, (∀ W v, PairAt W (subR p s) (.slice ao p.bs.length cap) v → Calls Try.prog 15 #[.agg #[.slice ao p.bs.length cap, .int .i64 p.zl, .int .i64 p.zh, .int .i64 p.rl, .int .i64 p.rh, v], .int .i64 0] W fun e w' => e = .returned (.tuple #[.agg #[.int .i64 k1, .int .i64 k2], .int .i64 er]) ∧ Below W.heap.size W w') ∧ (er == 10) = !someT p s := by
    have hvs := subR_valid hv s
    have h0 : 0 < (subR p s).bs.length := hp.n1
    by_cases hn : truA (subR p s) = []
    · exact ⟨0, 0, 10, fun W v h => gives_known_no hvs hn 0 h0 W h, by rw [(truA_sub hv s).1 hn]; rfl⟩
    · refine ⟨_, _, 0, fun W v h => gives_known_yes hvs hn 0 h0 W h, ?_⟩
      cases e : someT p s with
      | true => rfl
      | false => exact absurd ((truA_sub hv s).2 e) hn
  have HKN := Lib.hid hkn
  have HER := Lib.hid her
  have HBIT : Hid (∀ k : Nat, k < p.rs.length → (bits BinOp.and IntKind.i64 ((s : Int) / 2 ^ k) 1 == 1) = s.testBit k) := fun k hk => bit8_i64 ⟨k, by omega⟩ ⟨s, hs⟩
  have HRS := Lib.hid hp.rs
  obtain ⟨c0, c1, c2, c3, c4, c5⟩ : w.cell? ⟨bp, 0, none⟩ = some (.slice ao p.bs.length cap) ∧ w.cell? ⟨bp, 1, none⟩ = some (.int .i64 p.zl) ∧ w.cell? ⟨bp, 2, none⟩ = some (.int .i64 p.zh) ∧ w.cell? ⟨bp, 3, none⟩ = some (.int .i64 p.rl) ∧ w.cell? ⟨bp, 4, none⟩ = some (.int .i64 p.rh) ∧ w.cell? ⟨bp, 5, none⟩ = some (.slice ao2 p.rs.length cap2) := by
    unfold pairObj pairRow at hb
    refine ⟨?_, ?_, ?_, ?_, ?_, ?_⟩ <;> (rw [cell_of_row _ _ _ _ _ _ hb]; rfl)
  clear hpa hb hkn her hv hp
  go_enter Try.func42, Try.ntmps42
  go_wp2_with fail
  clear c0 c1 c2 c3 c4 c5
  obtain ⟨W2, hW2⟩ : ∃ W2, W2 = w.alloc (.cells #[.slice ao p.bs.length cap, .int .i64 p.zl, .int .i64 p.zh, .int .i64 p.rl, .int .i64 p.rh, .slice none 0 0] 27) := ⟨_, rfl⟩
  have z0 : W2.heap[w.heap.size]? = some (.cells #[.slice ao p.bs.length cap, .int .i64 p.zl, .int .i64 p.zh, .int .i64 p.rl, .int .i64 p.rh, .slice none 0 0] 27 (0, 0)) := by rw [hW2]; exact heap_alloc_at _ _ _ rfl
  have zb : Below w.heap.size w W2 := by rw [hW2]; exact (Below.refl _ _).alloc (Nat.le_refl _) _
  have zs : w.heap.size + 1 ≤ W2.heap.size := by rw [hW2]; simp
  rw [← hW2]
  have Z0 := Lib.hid z0
  have ZB := Lib.hid zb
  clear hW2 z0 zb
  go_loopw [14] (fun i wr => ∃ (k : Nat) (v : Value), k ≤ p.rs.length ∧ i = .int .i64 k ∧ wr.heap[w.heap.size]? = some (.cells #[.slice ao p.bs.length cap, .int .i64 p.zl, .int .i64 p.zh, .int .i64 p.rl, .int .i64 p.rh, v] 27 (0, 0)) ∧ wr.ownsRow (w.heap.size + 1) 44 5 v (keptL p.rs s k).length ((keptL p.rs s k).flatMap rdC) ∧ Below w.heap.size w wr ∧ w.heap.size + 1 ≤ wr.heap.size) (fun i _ => p.rs.length - (intOf i).toNat)
  case atStart => exact ⟨0, .slice none 0 0, by omega, rfl, Z0.out, World.ownsRow_nil _ _ _ _, ZB.out, zs⟩
  case round =>
    obtain ⟨k, v, hk, rfl, hrow, hown, hb, hsz⟩ := hrel
    have HPR := Lib.hid (HPA.out.later hb)
    have HROW := Lib.hid hrow
    have HOWN := Lib.hid hown
    have HBB := Lib.hid hb
    clear hrow hown hb
    by_cases hlk : k < p.rs.length
    · obtain ⟨ao', cap', e', _, _, hel⟩ := HPR.out.r
      cases e'
      obtain ⟨b, off, rfl, hbr, _, f1, f2, f3, f4, f5⟩ := hel k hlk
      have hbt := HBIT.out k hlk
      have hkl := keptL_le p.rs s k
      have HKY := Lib.hid (keptL_yes p.rs s k hlk)
      have HKN2 := Lib.hid (keptL_no p.rs s k)
      generalize hrg : p.rs[k] = rd at *
      obtain ⟨ra, rb, rm, rlo, rhi⟩ := rd
      have hwk : IntKind.i64.wrap ((k : Int) + 1) = ((k + 1 : Nat) : Int) := by rw [IntWalk.i64_in _ (by omega)]; omega
      clear hel hrg
      cases hbit : s.testBit k with
      | false =>
        rw [hbit] at hbt
        have HKF := Lib.hid (HKN2.out hbit)
        clear hbit
        go_wp2
        exact ⟨⟨k + 1, v, by omega, by go_num, (hget_old _ _ _ (by omega)).trans HROW.out, by rw [HKF.out]; exact HOWN.out.alloc _, HBB.out.alloc (by omega) _, by simp; omega⟩, by simp [intOf]; omega⟩
      | true =>
        rw [hbit] at hbt
        have HKT := Lib.hid (HKY.out hbit)
        clear hbit
        have e5 : ∀ o, (wr.alloc o).cell? ⟨w.heap.size, 5, none⟩ = some v := fun o => cell_of_row _ _ 5 _ _ _ ((hget_old _ _ _ (by omega)).trans HROW.out)
        go_wp2_with (first | (at_builtin; refine wpList_append_m rfl _ _ 25 rfl (w.heap.size + 1) 44 5 40 _ underReads infoRead rfl (by decide) v _ _ rfl ((HOWN.out.alloc _).alloc _) ⟨wr.heap.size + 1, 0, none⟩ 1 1 (rdC ⟨ra, rb, rm, rlo, rhi⟩) rfl rfl (news_block (cs := (rdC ⟨ra, rb, rm, rlo, rhi⟩).toArray) (heap_alloc_at _ _ _ (by simp))) (by simp [rdC, Value.oneCell']) (by omega) (by decide) (by simp; omega) ?_; intro v2 w2 hown2 hg2 hb2; obtain ⟨g1, cap1, cur1, rfl, _, _, _, _, _, _⟩ := own_row hown2 (by omega); have q0 := (hb2.block w.heap.size (by omega)).trans ((hget_old _ _ _ (by simp; omega)).trans ((hget_old _ _ _ (by omega)).trans HROW.out)); have d5 := cell_of_row _ _ 5 _ _ _ q0; have d6 : ∀ k, w2.frozen? ⟨w.heap.size, k, none⟩ = false := fun k => frozen_of_row _ _ _ _ _ q0; have Q0 := Lib.hid q0; have OWN2 := Lib.hid hown2; have B2 := Lib.hid hb2; clear q0 hown2 hg2 hb2))
        have hs2 := B2.out.size
        refine ⟨⟨k + 1, _, by omega, by go_num, set_field5 Q0.out, ?_, ?_, by simp at hs2 ⊢; omega⟩, by simp [intOf]; omega⟩
        · rw [HKT.out, List.length_append, List.flatMap_append]
          have := OWN2.out
          rw [List.flatMap_cons, List.flatMap_nil, List.append_nil]
          exact own_keep this (fun g hg => Below.heap_setCell _ _ _ _ (by simp; omega))
        · exact (((HBB.out.alloc (by omega) _).alloc (by simp; omega) _).trans (B2.out.mono (by omega))).setCell (by simp) _
    · obtain rfl : k = p.rs.length := by omega
      have e0 := cell_of_row _ _ 0 _ _ _ HROW.out
      have e1 := cell_of_row _ _ 1 _ _ _ HROW.out
      have e2 := cell_of_row _ _ 2 _ _ _ HROW.out
      have e3 := cell_of_row _ _ 3 _ _ _ HROW.out
      have e4 := cell_of_row _ _ 4 _ _ _ HROW.out
      have e5 := cell_of_row _ _ 5 _ _ _ HROW.out
      have hps : PairAt wr (subR p s) (.slice ao p.bs.length cap) v := ⟨HPR.out.b, (readsAt_of_owns HOWN.out).low⟩
      have HPS := Lib.hid hps
      clear hps
      go_wp2_with fail
      refine (HKN.out _ _ HPS.out).mono ?_
      rintro e wz ⟨rfl, hbz⟩
      have HBZ := Lib.hid (HBB.out.trans (hbz.mono (by omega)))
      have hzs := HBZ.out.size
      clear hbz e0 e1 e2 e3 e4 e5
      go_wp2
      go_ret
      exact ⟨by rw [HER.out]; rfl, HBZ.out.alloc hzs _⟩

end Go.Proofs.Ytlgeggekmdoceaa

/- PairClash: the walk. -/
namespace Go.Proofs.Ytlgeggekmdoceaa
set_option linter.unusedVariables false
set_option linter.unusedSimpArgs false
open Go.RowKit Go.Shelf
attribute [local go_sem] Oper.semAt_some

theorem wrongV_bad {p : PairD} (hv : validB p = false) : wrongV p = ((0, 0), 1) := by
  unfold wrongV
  rw [if_pos (by simp [hv])]
theorem clashV_bad {p : PairD} (hv : validB p = false) : clashV p = (0, 1) := by
  unfold clashV
  rw [if_pos (by simp [hv])]
theorem shl8 : ∀ i : Fin 9, wrap64 (2 ^ i.val) = ((2 ^ i.val : Nat) : Int) := by decide +kernel
theorem shr8 : ∀ i : Fin 9, wrap64 (2 ^ i.val - 1) = ((2 ^ i.val - 1 : Nat) : Int) := by decide +kernel
set_option maxRecDepth 100000 in
set_option maxHeartbeats 64000000 in
theorem clashl_any (p : PairD) (bs rs : Value) (x : Int) (hx : 0 ≤ x ∧ x < 256) (w : World) (hpa : PairAt w p bs rs) :
    Calls Try.prog 11 #[.agg (pairRow p bs rs), .int .u8 x] w fun e w' => e = .returned (.bool true) ∧ Below w.heap.size w w' := by
  obtain ⟨ao, cap, hbse, _⟩ := id hpa.b
  subst hbse
  obtain ⟨ao2, cap2, hrse, _⟩ := id hpa.r
  subst hrse
  obtain ⟨W0, hW0⟩ : ∃ W0, W0 = w.alloc (.cells (pairRow p (.slice ao p.bs.length cap) (.slice ao2 p.rs.length cap2)) 27 (0, 0)) := ⟨_, rfl⟩
  have hb0 : Below w.heap.size w W0 := by rw [hW0]; exact (Below.refl _ _).alloc (Nat.le_refl _) _
  have hr1 : W0.heap[w.heap.size]? = some (pairObj p (.slice ao p.bs.length cap) (.slice ao2 p.rs.length cap2)) := by rw [hW0]; exact heap_alloc_at _ _ _ rfl
  have hsw : W0.heap.size = w.heap.size + 1 := by rw [hW0]; simp
  have HB0 := Lib.hid hb0
  have HR1 := Lib.hid hr1
  have HPA := Lib.hid (hpa.later hb0)
  have rows : ∀ W', Below W0.heap.size W0 W' → (W'.cell? ⟨w.heap.size, 0, none⟩ = some (.slice ao p.bs.length cap) ∧ W'.cell? ⟨w.heap.size, 1, none⟩ = some (.int .i64 p.zl) ∧ W'.cell? ⟨w.heap.size, 2, none⟩ = some (.int .i64 p.zh) ∧
        W'.cell? ⟨w.heap.size, 3, none⟩ = some (.int .i64 p.rl) ∧ W'.cell? ⟨w.heap.size, 4, none⟩ = some (.int .i64 p.rh) ∧ W'.cell? ⟨w.heap.size, 5, none⟩ = some (.slice ao2 p.rs.length cap2)) := fun W' hb => by
    have q1 := (hb.block w.heap.size (by omega)).trans hr1
    unfold pairObj pairRow at q1
    refine ⟨?_, ?_, ?_, ?_, ?_, ?_⟩ <;> (rw [cell_of_row _ _ _ _ _ _ q1]; rfl)
  have ROWS := Lib.hid rows
  have HLG := Lib.hid (long_any p p.bs.length cap p.rs.length cap2 ao ao2 W0)
  have HRP : Hid (∀ W, PairAt W p (.slice ao p.bs.length cap) (.slice ao2 p.rs.length cap2) → Calls Try.prog 39 #[.agg (pairRow p (.slice ao p.bs.length cap) (.slice ao2 p.rs.length cap2))] W fun e w' => e = .returned (.bool (validB p)) ∧ Below W.heap.size W w') := fun W h => rpair_any h
  have HB := Lib.hid (BoxL.nil W0)
  rw [show decide (40 < max p.bs.length p.rs.length) = farP p from rfl] at HLG
  clear rows hb0 hr1 hpa
  cases hfar : farP p with
  | true =>
    rw [hfar] at HLG
    clear hfar
    unfold pairRow at hW0 HLG HRP ⊢
    go_enter Try.func11, Try.ntmps11
    obtain ⟨c0, c1, c2, c3, c4, c5⟩ := ROWS.out _ HB.out.2
    go_wp2_with fail
    rw [← hW0]
    clear hW0 c0 c1 c2 c3 c4 c5
    refine HLG.out.mono ?_
    rintro e w1 ⟨rfl, hb⟩
    replace HB := Lib.hid (HB.out.later hb)
    clear hb
    go_wp2_with fail
    refine (alive_any _).mono ?_
    rintro e wz ⟨rfl, hb⟩
    replace HB := Lib.hid (HB.out.later hb)
    clear hb
    go_wp2
    go_ret
    exact ⟨rfl, HB0.out.trans (HB.out.2.mono (by omega))⟩
  | false =>
  rw [hfar] at HLG
  clear hfar
  cases hv : validB p with
  | false =>
    have HC : Hid (Gives p (.slice ao p.bs.length cap) (.slice ao2 p.rs.length cap2) 29 [] (.tuple #[.int .i64 0, .int .i64 1])) := fun W h => by have := clashV_any h; rw [clashV_bad hv] at this; exact this
    have HW : Hid (Gives p (.slice ao p.bs.length cap) (.slice ao2 p.rs.length cap2) 27 [] (.tuple #[.int .i64 0, .int .i64 0, .int .i64 1])) := fun W h => by have := wrongV_any h; rw [wrongV_bad hv] at this; exact this
    rw [hv] at HRP
    clear hv
    unfold Gives at HC HW
    unfold pairRow at HC HW
    unfold pairRow at hW0 HLG HRP ⊢
    go_enter Try.func11, Try.ntmps11
    obtain ⟨c0, c1, c2, c3, c4, c5⟩ := ROWS.out _ HB.out.2
    go_wp2_with fail
    rw [← hW0]
    clear hW0 c0 c1 c2 c3 c4 c5
    refine HLG.out.mono ?_
    rintro e w1 ⟨rfl, hb⟩
    replace HB := Lib.hid (HB.out.later hb)
    clear hb
    obtain ⟨c0, c1, c2, c3, c4, c5⟩ := ROWS.out _ HB.out.2
    go_wp2_with fail
    clear c0 c1 c2 c3 c4 c5
    refine (HC.out _ (HPA.out.later HB.out.2)).mono ?_
    rintro e w2 ⟨rfl, hb⟩
    replace HB := Lib.hid (HB.out.later hb)
    clear hb
    obtain ⟨c0, c1, c2, c3, c4, c5⟩ := ROWS.out _ HB.out.2
    go_wp2_with fail
    clear c0 c1 c2 c3 c4 c5
    refine (HW.out _ (HPA.out.later HB.out.2)).mono ?_
    rintro e w3 ⟨rfl, hb⟩
    replace HB := Lib.hid (HB.out.later hb)
    clear hb
    obtain ⟨c0, c1, c2, c3, c4, c5⟩ := ROWS.out _ HB.out.2
    go_wp2_with fail
    clear c0 c1 c2 c3 c4 c5
    refine (HRP.out _ (HPA.out.later HB.out.2)).mono ?_
    rintro e w4 ⟨rfl, hb⟩
    replace HB := Lib.hid (HB.out.later hb)
    clear hb
    go_wp2_with fail
    refine (alive_any _).mono ?_
    rintro e wz ⟨rfl, hb⟩
    replace HB := Lib.hid (HB.out.later hb)
    clear hb
    go_wp2
    go_ret
    exact ⟨rfl, HB0.out.trans (HB.out.2.mono (by omega))⟩
  | true =>
  rw [hv] at HRP
  have hp := OkP.of p hv
  have hm8 := hp.m8
  obtain ⟨xn, rfl⟩ : ∃ n : Nat, x = n := ⟨x.toNat, by omega⟩
  have hxn : xn < 256 := by omega
  obtain ⟨S, er, hC, hS⟩ : ∃ S er : Int, Gives p (.slice ao p.bs.length cap) (.slice ao2 p.rs.length cap2) 29 [] (.tuple #[.int .i64 S, .int .i64 er]) ∧
      ((someT p (allR p) = true ∧ S = 0 ∧ er = 4) ∨ (someT p (allR p) = false ∧ S = setS p ∧ er = 0)) := by
    by_cases hn : truA p = []
    · exact ⟨_, 0, gives_clash_yes hv hn, .inr ⟨(truA_some p).1 hn, rfl, rfl⟩⟩
    · refine ⟨0, 4, gives_clash_no hv hn, .inl ⟨?_, rfl, rfl⟩⟩
      cases e : someT p (allR p) with
      | true => rfl
      | false => exact absurd ((truA_some p).2 e) hn
  have hW : Gives p (.slice ao p.bs.length cap) (.slice ao2 p.rs.length cap2) 27 [] (.tuple #[.int .i64 (ones (outS p) : Nat), .int .i64 (outS p : Nat), .int .i64 0]) := fun W h => by have := wrongV_any h; rw [wrongV_yes hv] at this; exact this
  have ho := outS_ok hv
  have h256 := allR_256 hv
  have hnone := outS_none hv
  have hcl : ∀ (s : Nat) W, s < 256 → Below W0.heap.size W0 W → Calls Try.prog 42 #[.int .i64 s, .pointer (some ⟨w.heap.size, 0, none⟩)] W fun e w' => e = .returned (.bool (!someT p s)) ∧ Below W.heap.size W w' :=
    fun s W hs hb => clashc_any p hv s hs w.heap.size _ _ W (HPA.out.later hb) ((hb.block _ (by omega)).trans HR1.out)
  have hsh0 : wrap64 (2 ^ p.rs.length) = ((2 ^ p.rs.length : Nat) : Int) := shl8 ⟨p.rs.length, by omega⟩
  have hsh : wrap64 (2 ^ p.rs.length - 1) = ((allR p : Nat) : Int) := shr8 ⟨p.rs.length, by omega⟩
  have hnt : ∀ t, t ≤ allR p → bits .andNot .i64 ((allR p : Nat) : Int) (t : Int) = ((allR p - t : Nat) : Int) := fun t ht => i64_not_nat p.rs.length t hm8 ht
  have hand := i64_and_nat xn (allR p) hxn h256
  have hown : xn &&& allR p ≤ allR p := Nat.and_le_right
  have hpos : someT p (allR p) = false → 1 ≤ setS p ∧ setS p ≤ allR p ∧ someT p (setS p) = false ∧ (bits .and .i64 ((setS p : Nat) : Int) ((outS p : Nat) : Int) == 0) = false ∧ (∀ t, t ≤ allR p → someT p t = false → ones (setS p) < ones t ∨ (ones (setS p) = ones t ∧ setS p ≤ t)) ∧
      (∀ i, i < p.rs.length → (bits BinOp.and IntKind.i64 (((setS p : Nat) : Int) / 2 ^ i) 1 == 1) = (setS p).testBit i) ∧
      (∀ i, i < p.rs.length → (setS p).testBit i = true → (wrap64 (2 ^ i) = 2 ^ i ∧ bits BinOp.andNot IntKind.i64 ((setS p : Nat) : Int) (2 ^ i) = ((setS p - 2 ^ i : Nat) : Int)) ∧ someT p (setS p - 2 ^ i) = true) := fun hn => by
    have hs := setS_ok hv hn
    have hle := hs.le
    have hle2 := ho.le
    refine ⟨setS_pos hv hn, hs.le, hs.no, ?_, hs.least, fun i hi => bit8_i64 ⟨i, by omega⟩ ⟨setS p, by omega⟩, fun i hi hb => ⟨⟨?_, ?_⟩, setS_cut hv hn i hi hb⟩⟩
    · rw [i64_and_nat _ _ (by omega) (by omega), beq_eq_false_iff_ne]
      have := setS_meets hv hn
      omega
    · have h1 : wrap64 (2 ^ i) = ((2 ^ i : Nat) : Int) := shl8 ⟨i, by omega⟩
      rw [h1]
      simp
    · have := (ones_less ⟨setS p, by omega⟩ ⟨i, by omega⟩ hb).2.2
      simpa using this
  have hcan := ho.can
  have hlst := ho.least (xn &&& allR p) hown
  have hle := ho.le
  have hnO := hnt _ hle
  have hnW := hnt _ hown
  have hrO : allR p - outS p < 256 := by omega
  have hrW : allR p - (xn &&& allR p) < 256 := by omega
  have hmf : ∀ (fn : Fn) (first cap : Array Value) (w : World), (Instr.makeFunc fn first cap).run Try.prog w = .ok (.func fn first cap) w := fun _ _ _ _ => rfl
  generalize allR p - outS p = RO at *
  generalize allR p - (xn &&& allR p) = RW at *
  generalize outS p = O at *
  generalize setS p = S1 at *
  generalize xn &&& allR p = own at *
  generalize allR p = R at *
  have HC := Lib.hid hC
  have HW := Lib.hid hW
  have HPOS := Lib.hid hpos
  have HLST := Lib.hid hlst
  have HCL := Lib.hid hcl
  have HCAN := Lib.hid hcan
  clear hC hW hpos hlst hcl hcan ho hnt hv hp
  unfold Gives at HC HW
  unfold pairRow at HC HW
  have eg1 := enters_of Try.func42 (by kernel_rfl) rfl
  have eg2 := enters_of Try.func43 (by kernel_rfl) rfl
  rcases hS with ⟨hR, rfl, rfl⟩ | ⟨hR, rfl, rfl⟩
  · rw [hR] at hnone
    have HRT := Lib.hid hR
    clear hR HPOS
    unfold pairRow at hW0 HLG HRP ⊢
    go_enter Try.func11, Try.ntmps11
    obtain ⟨c0, c1, c2, c3, c4, c5⟩ := ROWS.out _ HB.out.2
    go_wp2_with fail
    rw [← hW0]
    clear hW0 c0 c1 c2 c3 c4 c5
    refine HLG.out.mono ?_
    rintro e w1 ⟨rfl, hb⟩
    replace HB := Lib.hid (HB.out.later hb)
    clear hb
    obtain ⟨c0, c1, c2, c3, c4, c5⟩ := ROWS.out _ HB.out.2
    go_wp2_with fail
    clear c0 c1 c2 c3 c4 c5
    refine (HC.out _ (HPA.out.later HB.out.2)).mono ?_
    rintro e w2 ⟨rfl, hb⟩
    replace HB := Lib.hid (HB.out.later hb)
    clear hb
    obtain ⟨c0, c1, c2, c3, c4, c5⟩ := ROWS.out _ HB.out.2
    go_wp2_with fail
    clear c0 c1 c2 c3 c4 c5
    refine (HW.out _ (HPA.out.later HB.out.2)).mono ?_
    rintro e w3 ⟨rfl, hb⟩
    replace HB := Lib.hid (HB.out.later hb)
    clear hb
    obtain ⟨c0, c1, c2, c3, c4, c5⟩ := ROWS.out _ HB.out.2
    go_wp2_with fail
    clear c0 c1 c2 c3 c4 c5
    refine (HRP.out _ (HPA.out.later HB.out.2)).mono ?_
    rintro e w4 ⟨rfl, hb⟩
    replace HB := Lib.hid (HB.out.later hb)
    clear hb
    obtain ⟨c0, c1, c2, c3, c4, c5⟩ := ROWS.out _ HB.out.2
    go_wp2_with fail
    refine (size_any (O) (by omega) _).mono ?_
    rintro e wz ⟨rfl, rfl⟩
    clear c0 c1 c2 c3 c4 c5
    go_wp2_with fail
    refine (HCL.out (RO) _ (by omega) HB.out.2).mono ?_
    rintro e w5 ⟨rfl, hb⟩
    rw [HCAN.out]
    replace HB := Lib.hid (HB.out.later hb)
    clear hb
    go_wp2_with fail
    refine (HCL.out (R) _ (by omega) HB.out.2).mono ?_
    rintro e w6 ⟨rfl, hb⟩
    rw [HRT.out]
    replace HB := Lib.hid (HB.out.later hb)
    clear hb
    cases hso : someT p RW with
    | false =>
      go_wp2_with fail
      refine (HCL.out (RW) _ (by omega) HB.out.2).mono ?_
      rintro e w7 ⟨rfl, hb⟩
      rw [hso]
      replace HB := Lib.hid (HB.out.later hb)
      clear hb
      go_wp2_with fail
      refine (alive_any _).mono ?_
      rintro e wz ⟨rfl, hb⟩
      replace HB := Lib.hid (HB.out.later hb)
      clear hb
      go_wp2
      go_ret
      exact ⟨rfl, HB0.out.trans (HB.out.2.mono (by omega))⟩
    | true =>
      go_wp2_with fail
      refine (HCL.out (RW) _ (by omega) HB.out.2).mono ?_
      rintro e w7 ⟨rfl, hb⟩
      rw [hso]
      replace HB := Lib.hid (HB.out.later hb)
      clear hb
      have hl := HLST.out hso
      have n1 : ¬ ones own < ones O := by omega
      by_cases heq : ones own = ones O
      · have n2 : ¬ own < O := by omega
        have HEQ := Lib.hid heq
        have n3 : (((ones own : Nat) : Int) == ((ones O : Nat) : Int)) = true := by rw [heq]; simp
        clear heq hl
        go_wp2_with fail
        refine (size_any (own) (by omega) _).mono ?_
        rintro e wz ⟨rfl, rfl⟩
        go_wp2_with fail
        refine (size_any (own) (by omega) _).mono ?_
        rintro e wz ⟨rfl, rfl⟩
        go_wp2_with fail
        refine (alive_any _).mono ?_
        rintro e wz ⟨rfl, hb⟩
        replace HB := Lib.hid (HB.out.later hb)
        clear hb
        go_wp2
        go_ret
        exact ⟨rfl, HB0.out.trans (HB.out.2.mono (by omega))⟩
      · have n3 : (((ones own : Nat) : Int) == ((ones O : Nat) : Int)) = false := by rw [beq_eq_false_iff_ne]; omega
        clear heq hl
        go_wp2_with fail
        refine (size_any (own) (by omega) _).mono ?_
        rintro e wz ⟨rfl, rfl⟩
        go_wp2_with fail
        refine (size_any (own) (by omega) _).mono ?_
        rintro e wz ⟨rfl, rfl⟩
        go_wp2_with fail
        refine (alive_any _).mono ?_
        rintro e wz ⟨rfl, hb⟩
        replace HB := Lib.hid (HB.out.later hb)
        clear hb
        go_wp2
        go_ret
        exact ⟨rfl, HB0.out.trans (HB.out.2.mono (by omega))⟩
  · rw [hR] at hnone
    obtain ⟨hs1, hsR, hsno, hsO, hsl, hbit, hcut⟩ := HPOS.out hR
    have HRT := Lib.hid hR
    have m1 : decide ((S1 : Int) < 1) = false := by simp; omega
    have m2 : decide (R < S1) = false := by simp; omega
    have HSNO := Lib.hid hsno
    have HSL := Lib.hid (hsl own hown)
    have HBIT := Lib.hid hbit
    have HCUT := Lib.hid hcut
    clear hR HPOS hsno hsl hbit hcut
    unfold pairRow at hW0 HLG HRP ⊢
    go_enter Try.func11, Try.ntmps11
    obtain ⟨c0, c1, c2, c3, c4, c5⟩ := ROWS.out _ HB.out.2
    go_wp2_with fail
    rw [← hW0]
    clear hW0 c0 c1 c2 c3 c4 c5
    refine HLG.out.mono ?_
    rintro e w1 ⟨rfl, hb⟩
    replace HB := Lib.hid (HB.out.later hb)
    clear hb
    obtain ⟨c0, c1, c2, c3, c4, c5⟩ := ROWS.out _ HB.out.2
    go_wp2_with fail
    clear c0 c1 c2 c3 c4 c5
    refine (HC.out _ (HPA.out.later HB.out.2)).mono ?_
    rintro e w2 ⟨rfl, hb⟩
    replace HB := Lib.hid (HB.out.later hb)
    clear hb
    obtain ⟨c0, c1, c2, c3, c4, c5⟩ := ROWS.out _ HB.out.2
    go_wp2_with fail
    clear c0 c1 c2 c3 c4 c5
    refine (HW.out _ (HPA.out.later HB.out.2)).mono ?_
    rintro e w3 ⟨rfl, hb⟩
    replace HB := Lib.hid (HB.out.later hb)
    clear hb
    obtain ⟨c0, c1, c2, c3, c4, c5⟩ := ROWS.out _ HB.out.2
    go_wp2_with fail
    clear c0 c1 c2 c3 c4 c5
    refine (HRP.out _ (HPA.out.later HB.out.2)).mono ?_
    rintro e w4 ⟨rfl, hb⟩
    replace HB := Lib.hid (HB.out.later hb)
    clear hb
    obtain ⟨c0, c1, c2, c3, c4, c5⟩ := ROWS.out _ HB.out.2
    go_wp2_with fail
    refine (size_any (O) (by omega) _).mono ?_
    rintro e wz ⟨rfl, rfl⟩
    clear c0 c1 c2 c3 c4 c5
    go_wp2_with fail
    refine (HCL.out (RO) _ (by omega) HB.out.2).mono ?_
    rintro e w5 ⟨rfl, hb⟩
    rw [HCAN.out]
    replace HB := Lib.hid (HB.out.later hb)
    clear hb
    go_wp2_with fail
    refine (HCL.out (R) _ (by omega) HB.out.2).mono ?_
    rintro e w6 ⟨rfl, hb⟩
    rw [HRT.out]
    replace HB := Lib.hid (HB.out.later hb)
    clear hb
    cases hso : someT p RW with
    | false =>
      go_wp2_with fail
      refine (HCL.out (RW) _ (by omega) HB.out.2).mono ?_
      rintro e w7 ⟨rfl, hb⟩
      rw [hso]
      replace HB := Lib.hid (HB.out.later hb)
      clear hb
      go_wp2_with fail
      refine (HCL.out (S1) _ (by omega) HB.out.2).mono ?_
      rintro e w8 ⟨rfl, hb⟩
      rw [HSNO.out]
      replace HB := Lib.hid (HB.out.later hb)
      clear hb
      obtain ⟨c0, c1, c2, c3, c4, c5⟩ := ROWS.out _ HB.out.2
      go_wp2_with fail
      clear c0 c1 c2 c3 c4 c5
      go_loopw [166] (fun i wr => ∃ k : Nat, k ≤ p.rs.length ∧ i = .int .i64 k ∧ BoxL [] W0 wr) (fun i _ => p.rs.length - (intOf i).toNat)
      case atStart => exact ⟨0, by omega, rfl, HB.out⟩
      case round =>
        clear HB
        obtain ⟨k, hk, rfl, hb⟩ := hrel
        have HB := Lib.hid hb
        clear hb
        by_cases hlk : k < p.rs.length
        · have hwk : IntKind.i64.wrap ((k : Int) + 1) = ((k + 1 : Nat) : Int) := by rw [IntWalk.i64_in _ (by omega)]; omega
          have hbt := HBIT.out k hlk
          cases hbit : S1.testBit k with
          | false =>
            rw [hbit] at hbt
            clear hbit
            go_wp2
            exact ⟨⟨k + 1, by omega, by go_num, HB.out⟩, by simp [intOf]; omega⟩
          | true =>
            rw [hbit] at hbt
            obtain ⟨⟨h0, h1⟩, h2⟩ := HCUT.out k hlk hbit
            have hsk : S1 - 2 ^ k < 256 := Nat.lt_of_le_of_lt (Nat.sub_le _ _) (by omega)
            generalize S1 - 2 ^ k = SK at *
            have H2 := Lib.hid h2
            clear hbit h2
            go_wp2_with fail
            refine (HCL.out (SK) _ (by omega) HB.out.2).mono ?_
            rintro e w9 ⟨rfl, hb⟩
            rw [H2.out]
            replace HB := Lib.hid (HB.out.later hb)
            clear hb
            go_wp2
            exact ⟨⟨k + 1, by omega, by go_num, HB.out⟩, by simp [intOf]; omega⟩
        · have hkn : k = p.rs.length := by omega
          subst hkn
          cases hown2 : someT p own with
          | true =>
            go_wp2_with fail
            refine (HCL.out (own) _ (by omega) HB.out.2).mono ?_
            rintro e w10 ⟨rfl, hb⟩
            rw [hown2]
            replace HB := Lib.hid (HB.out.later hb)
            clear hb
            go_wp2_with fail
            refine (alive_any _).mono ?_
            rintro e wz ⟨rfl, hb⟩
            replace HB := Lib.hid (HB.out.later hb)
            clear hb
            go_wp2
            go_ret
            exact ⟨rfl, HB0.out.trans (HB.out.2.mono (by omega))⟩
          | false =>
            have hl2 := HSL.out hown2
            by_cases hlt : ones S1 < ones own
            · skip
              go_wp2_with fail
              refine (HCL.out (own) _ (by omega) HB.out.2).mono ?_
              rintro e w10 ⟨rfl, hb⟩
              rw [hown2]
              replace HB := Lib.hid (HB.out.later hb)
              clear hb
              go_wp2_with fail
              refine (size_any (own) (by omega) _).mono ?_
              rintro e wz ⟨rfl, rfl⟩
              go_wp2_with fail
              refine (size_any (S1) (by omega) _).mono ?_
              rintro e wz ⟨rfl, rfl⟩
              go_wp2_with fail
              refine (alive_any _).mono ?_
              rintro e wz ⟨rfl, hb⟩
              replace HB := Lib.hid (HB.out.later hb)
              clear hb
              go_wp2
              go_ret
              exact ⟨rfl, HB0.out.trans (HB.out.2.mono (by omega))⟩
            · have n5 : (((ones own : Nat) : Int) == ((ones S1 : Nat) : Int)) = true := by rw [beq_iff_eq]; omega
              have n6 : S1 ≤ own := by omega
              clear hl2
              go_wp2_with fail
              refine (HCL.out (own) _ (by omega) HB.out.2).mono ?_
              rintro e w10 ⟨rfl, hb⟩
              rw [hown2]
              replace HB := Lib.hid (HB.out.later hb)
              clear hb
              go_wp2_with fail
              refine (size_any (own) (by omega) _).mono ?_
              rintro e wz ⟨rfl, rfl⟩
              go_wp2_with fail
              refine (size_any (S1) (by omega) _).mono ?_
              rintro e wz ⟨rfl, rfl⟩
              go_wp2_with fail
              refine (size_any (own) (by omega) _).mono ?_
              rintro e wz ⟨rfl, rfl⟩
              go_wp2_with fail
              refine (size_any (S1) (by omega) _).mono ?_
              rintro e wz ⟨rfl, rfl⟩
              go_wp2_with fail
              refine (alive_any _).mono ?_
              rintro e wz ⟨rfl, hb⟩
              replace HB := Lib.hid (HB.out.later hb)
              clear hb
              go_wp2
              go_ret
              exact ⟨rfl, HB0.out.trans (HB.out.2.mono (by omega))⟩
    | true =>
      go_wp2_with fail
      refine (HCL.out (RW) _ (by omega) HB.out.2).mono ?_
      rintro e w7 ⟨rfl, hb⟩
      rw [hso]
      replace HB := Lib.hid (HB.out.later hb)
      clear hb
      have hl := HLST.out hso
      have n1 : ¬ ones own < ones O := by omega
      by_cases heq : ones own = ones O
      · have n2 : ¬ own < O := by omega
        have HEQ := Lib.hid heq
        have n3 : (((ones own : Nat) : Int) == ((ones O : Nat) : Int)) = true := by rw [heq]; simp
        clear heq hl
        go_wp2_with fail
        refine (size_any (own) (by omega) _).mono ?_
        rintro e wz ⟨rfl, rfl⟩
        go_wp2_with fail
        refine (size_any (own) (by omega) _).mono ?_
        rintro e wz ⟨rfl, rfl⟩
        go_wp2_with fail
        refine (HCL.out (S1) _ (by omega) HB.out.2).mono ?_
        rintro e w8 ⟨rfl, hb⟩
        rw [HSNO.out]
        replace HB := Lib.hid (HB.out.later hb)
        clear hb
        obtain ⟨c0, c1, c2, c3, c4, c5⟩ := ROWS.out _ HB.out.2
        go_wp2_with fail
        clear c0 c1 c2 c3 c4 c5
        go_loopw [166] (fun i wr => ∃ k : Nat, k ≤ p.rs.length ∧ i = .int .i64 k ∧ BoxL [] W0 wr) (fun i _ => p.rs.length - (intOf i).toNat)
        case atStart => exact ⟨0, by omega, rfl, HB.out⟩
        case round =>
          clear HB
          obtain ⟨k, hk, rfl, hb⟩ := hrel
          have HB := Lib.hid hb
          clear hb
          by_cases hlk : k < p.rs.length
          · have hwk : IntKind.i64.wrap ((k : Int) + 1) = ((k + 1 : Nat) : Int) := by rw [IntWalk.i64_in _ (by omega)]; omega
            have hbt := HBIT.out k hlk
            cases hbit : S1.testBit k with
            | false =>
              rw [hbit] at hbt
              clear hbit
              go_wp2
              exact ⟨⟨k + 1, by omega, by go_num, HB.out⟩, by simp [intOf]; omega⟩
            | true =>
              rw [hbit] at hbt
              obtain ⟨⟨h0, h1⟩, h2⟩ := HCUT.out k hlk hbit
              have hsk : S1 - 2 ^ k < 256 := Nat.lt_of_le_of_lt (Nat.sub_le _ _) (by omega)
              generalize S1 - 2 ^ k = SK at *
              have H2 := Lib.hid h2
              clear hbit h2
              go_wp2_with fail
              refine (HCL.out (SK) _ (by omega) HB.out.2).mono ?_
              rintro e w9 ⟨rfl, hb⟩
              rw [H2.out]
              replace HB := Lib.hid (HB.out.later hb)
              clear hb
              go_wp2
              exact ⟨⟨k + 1, by omega, by go_num, HB.out⟩, by simp [intOf]; omega⟩
          · have hkn : k = p.rs.length := by omega
            subst hkn
            cases hown2 : someT p own with
            | true =>
              go_wp2_with fail
              refine (HCL.out (own) _ (by omega) HB.out.2).mono ?_
              rintro e w10 ⟨rfl, hb⟩
              rw [hown2]
              replace HB := Lib.hid (HB.out.later hb)
              clear hb
              go_wp2_with fail
              refine (alive_any _).mono ?_
              rintro e wz ⟨rfl, hb⟩
              replace HB := Lib.hid (HB.out.later hb)
              clear hb
              go_wp2
              go_ret
              exact ⟨rfl, HB0.out.trans (HB.out.2.mono (by omega))⟩
            | false =>
              have hl2 := HSL.out hown2
              by_cases hlt : ones S1 < ones own
              · skip
                go_wp2_with fail
                refine (HCL.out (own) _ (by omega) HB.out.2).mono ?_
                rintro e w10 ⟨rfl, hb⟩
                rw [hown2]
                replace HB := Lib.hid (HB.out.later hb)
                clear hb
                go_wp2_with fail
                refine (size_any (own) (by omega) _).mono ?_
                rintro e wz ⟨rfl, rfl⟩
                go_wp2_with fail
                refine (size_any (S1) (by omega) _).mono ?_
                rintro e wz ⟨rfl, rfl⟩
                go_wp2_with fail
                refine (alive_any _).mono ?_
                rintro e wz ⟨rfl, hb⟩
                replace HB := Lib.hid (HB.out.later hb)
                clear hb
                go_wp2
                go_ret
                exact ⟨rfl, HB0.out.trans (HB.out.2.mono (by omega))⟩
              · have n5 : (((ones own : Nat) : Int) == ((ones S1 : Nat) : Int)) = true := by rw [beq_iff_eq]; omega
                have n6 : S1 ≤ own := by omega
                clear hl2
                go_wp2_with fail
                refine (HCL.out (own) _ (by omega) HB.out.2).mono ?_
                rintro e w10 ⟨rfl, hb⟩
                rw [hown2]
                replace HB := Lib.hid (HB.out.later hb)
                clear hb
                go_wp2_with fail
                refine (size_any (own) (by omega) _).mono ?_
                rintro e wz ⟨rfl, rfl⟩
                go_wp2_with fail
                refine (size_any (S1) (by omega) _).mono ?_
                rintro e wz ⟨rfl, rfl⟩
                go_wp2_with fail
                refine (size_any (own) (by omega) _).mono ?_
                rintro e wz ⟨rfl, rfl⟩
                go_wp2_with fail
                refine (size_any (S1) (by omega) _).mono ?_
                rintro e wz ⟨rfl, rfl⟩
                go_wp2_with fail
                refine (alive_any _).mono ?_
                rintro e wz ⟨rfl, hb⟩
                replace HB := Lib.hid (HB.out.later hb)
                clear hb
                go_wp2
                go_ret
                exact ⟨rfl, HB0.out.trans (HB.out.2.mono (by omega))⟩
      · have n3 : (((ones own : Nat) : Int) == ((ones O : Nat) : Int)) = false := by rw [beq_eq_false_iff_ne]; omega
        clear heq hl
        go_wp2_with fail
        refine (size_any (own) (by omega) _).mono ?_
        rintro e wz ⟨rfl, rfl⟩
        go_wp2_with fail
        refine (size_any (own) (by omega) _).mono ?_
        rintro e wz ⟨rfl, rfl⟩
        go_wp2_with fail
        refine (HCL.out (S1) _ (by omega) HB.out.2).mono ?_
        rintro e w8 ⟨rfl, hb⟩
        rw [HSNO.out]
        replace HB := Lib.hid (HB.out.later hb)
        clear hb
        obtain ⟨c0, c1, c2, c3, c4, c5⟩ := ROWS.out _ HB.out.2
        go_wp2_with fail
        clear c0 c1 c2 c3 c4 c5
        go_loopw [166] (fun i wr => ∃ k : Nat, k ≤ p.rs.length ∧ i = .int .i64 k ∧ BoxL [] W0 wr) (fun i _ => p.rs.length - (intOf i).toNat)
        case atStart => exact ⟨0, by omega, rfl, HB.out⟩
        case round =>
          clear HB
          obtain ⟨k, hk, rfl, hb⟩ := hrel
          have HB := Lib.hid hb
          clear hb
          by_cases hlk : k < p.rs.length
          · have hwk : IntKind.i64.wrap ((k : Int) + 1) = ((k + 1 : Nat) : Int) := by rw [IntWalk.i64_in _ (by omega)]; omega
            have hbt := HBIT.out k hlk
            cases hbit : S1.testBit k with
            | false =>
              rw [hbit] at hbt
              clear hbit
              go_wp2
              exact ⟨⟨k + 1, by omega, by go_num, HB.out⟩, by simp [intOf]; omega⟩
            | true =>
              rw [hbit] at hbt
              obtain ⟨⟨h0, h1⟩, h2⟩ := HCUT.out k hlk hbit
              have hsk : S1 - 2 ^ k < 256 := Nat.lt_of_le_of_lt (Nat.sub_le _ _) (by omega)
              generalize S1 - 2 ^ k = SK at *
              have H2 := Lib.hid h2
              clear hbit h2
              go_wp2_with fail
              refine (HCL.out (SK) _ (by omega) HB.out.2).mono ?_
              rintro e w9 ⟨rfl, hb⟩
              rw [H2.out]
              replace HB := Lib.hid (HB.out.later hb)
              clear hb
              go_wp2
              exact ⟨⟨k + 1, by omega, by go_num, HB.out⟩, by simp [intOf]; omega⟩
          · have hkn : k = p.rs.length := by omega
            subst hkn
            cases hown2 : someT p own with
            | true =>
              go_wp2_with fail
              refine (HCL.out (own) _ (by omega) HB.out.2).mono ?_
              rintro e w10 ⟨rfl, hb⟩
              rw [hown2]
              replace HB := Lib.hid (HB.out.later hb)
              clear hb
              go_wp2_with fail
              refine (alive_any _).mono ?_
              rintro e wz ⟨rfl, hb⟩
              replace HB := Lib.hid (HB.out.later hb)
              clear hb
              go_wp2
              go_ret
              exact ⟨rfl, HB0.out.trans (HB.out.2.mono (by omega))⟩
            | false =>
              have hl2 := HSL.out hown2
              by_cases hlt : ones S1 < ones own
              · skip
                go_wp2_with fail
                refine (HCL.out (own) _ (by omega) HB.out.2).mono ?_
                rintro e w10 ⟨rfl, hb⟩
                rw [hown2]
                replace HB := Lib.hid (HB.out.later hb)
                clear hb
                go_wp2_with fail
                refine (size_any (own) (by omega) _).mono ?_
                rintro e wz ⟨rfl, rfl⟩
                go_wp2_with fail
                refine (size_any (S1) (by omega) _).mono ?_
                rintro e wz ⟨rfl, rfl⟩
                go_wp2_with fail
                refine (alive_any _).mono ?_
                rintro e wz ⟨rfl, hb⟩
                replace HB := Lib.hid (HB.out.later hb)
                clear hb
                go_wp2
                go_ret
                exact ⟨rfl, HB0.out.trans (HB.out.2.mono (by omega))⟩
              · have n5 : (((ones own : Nat) : Int) == ((ones S1 : Nat) : Int)) = true := by rw [beq_iff_eq]; omega
                have n6 : S1 ≤ own := by omega
                clear hl2
                go_wp2_with fail
                refine (HCL.out (own) _ (by omega) HB.out.2).mono ?_
                rintro e w10 ⟨rfl, hb⟩
                rw [hown2]
                replace HB := Lib.hid (HB.out.later hb)
                clear hb
                go_wp2_with fail
                refine (size_any (own) (by omega) _).mono ?_
                rintro e wz ⟨rfl, rfl⟩
                go_wp2_with fail
                refine (size_any (S1) (by omega) _).mono ?_
                rintro e wz ⟨rfl, rfl⟩
                go_wp2_with fail
                refine (size_any (own) (by omega) _).mono ?_
                rintro e wz ⟨rfl, rfl⟩
                go_wp2_with fail
                refine (size_any (S1) (by omega) _).mono ?_
                rintro e wz ⟨rfl, rfl⟩
                go_wp2_with fail
                refine (alive_any _).mono ?_
                rintro e wz ⟨rfl, hb⟩
                replace HB := Lib.hid (HB.out.later hb)
                clear hb
                go_wp2
                go_ret
                exact ⟨rfl, HB0.out.trans (HB.out.2.mono (by omega))⟩

end Go.Proofs.Ytlgeggekmdoceaa

/- PairClash: whatever the pair and the number: the law returns true. No conditions. -/
namespace Go.Proofs.Ytlgeggekmdoceaa
set_option linter.unusedVariables false
set_option linter.unusedSimpArgs false
open Go.ChangeShapes Go.WideShapes Go.ChangeAt Go.RowKit

set_option maxRecDepth 100000 in
theorem pairClash_lifted (os : Os) (started : os.Started) (H : Type) (enc : TypeId × Value → H) :
    ReturnsInHanded {} Try.checked os 11 .any (Rows.pairClashSpec.pre6 enc Try.prog Try.f11 Rows.pairClashRow.domain false) (Rows.pairClashSpec.post enc Try.prog Try.f11 false true false false) := by
  refine returnsInHanded_of_change (C := Try.checked) own_knob started (by kernel_rfl) Try.func11
    (ChangeSpec.witness6 (enc := enc) (C := Try.checked) false ⟨#[], #[.agg #[.slice none 0 0, .int .i64 0, .int .i64 0, .int .i64 0, .int .i64 0, .slice none 0 0], .int .u8 0], []⟩ 8 (by kernel_rfl) (by kernel_rfl) (by kernel_rfl) (by kernel_rfl)) ?_
  intro W base args ds gs before hval0 hW hcnd _
  have hval : ∀ (j : Nat) t v, Try.f11.params[j]? = some t → args[j]? = some v → Value.okWide Try.prog W .any base t v := hval0
  have hW' := hW
  obtain ⟨p, q, hA0, hV, rfl, hfz, hnd⟩ := hW
  have hA : DataW.TrodAll enc Try.prog W 0 (fun _ => true) true Try.f11.params.toList args.toList ds p := hA0
  rw [Try.params11] at hA hval
  obtain ⟨rfl, rfl⟩ := trodVars_none hV
  clear hA0 hval0
  simp only [List.append_nil] at hW'
  have hst := hA
  obtain ⟨v0, v1, d0, d1, p0, p1, rfl, rfl, rfl, h0, h1⟩ := trodAll_two hA
  obtain ⟨pd, bs, rs, rfl, hpa⟩ := open_pair (hval 0 _ _ rfl rfl) h0
  obtain ⟨x, rfl, _, _, hx⟩ := Go.ChangeShapes.open_int under_u8 (hval 1 _ _ rfl rfl) h1
  refine (clashl_any pd bs rs x (u8_range hx) W hpa).mono fun e W' ⟨he, hb⟩ => ?_
  subst he
  exact ⟨_, rfl, lawEnd hW' rfl hst rfl (by decide +kernel) rfl rfl hb⟩
theorem pairClash_over : Rows.pairClashRow.holds Try.pinned (OpenSpec.ofChange Rows.pairClashSpec) :=
  OpenClaim.holds_of_wide 11 Try.f11 rfl rfl rfl rfl rfl rfl rfl ⟨rfl, rfl, rfl, rfl, rfl⟩ rfl rfl rfl rfl rfl (by kernel_rfl) Try.func11 (by kernel_rfl)
    (of_decide_eq_true (by kernel_rfl)) (by unfold Func.isWrapper; first | (rw [if_pos (by decide +kernel)]; kernel_rfl) | (rw [if_neg (by decide +kernel)]; exact ⟨rfl, rfl⟩))
    (fun os started H enc _ => pairClash_lifted os started H enc)
/-- The statement. -/
theorem pair_clash : Rows.PairClashSaid := pairClash_over

end Go.Proofs.Ytlgeggekmdoceaa
