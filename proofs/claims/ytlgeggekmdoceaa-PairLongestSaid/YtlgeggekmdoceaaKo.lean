/- Texts Pb, Te, Tf in one file; each begins with a word on what it proves. -/
import Derived.Test.YtlgeggekmdoceaaKk

/- What PairLongest says (plain). -/
namespace Go.Proofs.Ytlgeggekmdoceaa
set_option linter.unusedVariables false
set_option linter.unusedSimpArgs false

theorem setN_bit (f : Nat → Bool) : ∀ n i, (setN f n).testBit i = (decide (i < n) && f i)
  | 0, i => by simp [setN]
  | n + 1, i => by
    have ih := setN_bit f n i
    have hlt := setN_lt f n
    unfold setN
    cases hf : f n with
    | true =>
      simp only [if_true]
      by_cases hi : i = n
      · subst hi
        rw [Nat.add_comm, Nat.testBit_two_pow_add_eq, ih]
        simp [hf]
      · rcases Nat.lt_or_ge i n with h | h
        · rw [Nat.add_comm, Nat.testBit_two_pow_add_gt h, ih]
          simp [h, Nat.lt_succ_of_lt h]
        · have h2 : setN f n + 2 ^ n < 2 ^ i := by
            have : 2 ^ (n + 1) ≤ 2 ^ i := Nat.pow_le_pow_right (by decide) (by omega)
            omega
          rw [Nat.testBit_lt_two_pow h2]
          simp; omega
    | false =>
      simp only [Bool.false_eq_true, if_false]
      rw [ih]
      by_cases hi : i = n
      · subst hi; simp [hf]
      · rcases Nat.lt_or_ge i n with h | h
        · simp [h, Nat.lt_succ_of_lt h]
        · have h1 : ¬ i < n := by omega
          have h2 : ¬ i < n + 1 := by omega
          simp [h1, h2]
theorem setN_32 (f : Nat → Bool) (n : Nat) (hn : n ≤ 5) : setN f n < 32 := by
  have h1 := setN_lt f n
  have h2 : 2 ^ n ≤ 2 ^ 5 := Nat.pow_le_pow_right (by decide) hn
  omega
theorem bit_i64 : ∀ i : Fin 5, ∀ s : Fin 32, (bits BinOp.and IntKind.i64 ((s.val : Int) / 2 ^ i.val) 1 == 1) = s.val.testBit i.val := by decide +kernel
theorem andNot_zero : ∀ a b : Fin 32, (∀ i : Fin 5, a.val.testBit i.val = true → b.val.testBit i.val = true) → bits BinOp.andNot IntKind.i64 (a.val : Int) (b.val : Int) = 0 := by decide +kernel
def lowB (p : PairD) (i k : Nat) : Bool := decide (0 ≤ (hullD p i k).1)
def highB (p : PairD) (i k : Nat) : Bool := decide (0 ≤ (hullD p i k).2)
def sK (p : PairD) (i k : Nat) : Bool := (List.range k).all (lowB p i)
def cK (p : PairD) (i k : Nat) : Bool := (List.range k).all (highB p i)
theorem sK_next (p : PairD) (i k : Nat) : sK p i (k + 1) = (sK p i k && lowB p i k) := by simp [sK, List.range_succ]
theorem cK_next (p : PairD) (i k : Nat) : cK p i (k + 1) = (cK p i k && highB p i k) := by simp [cK, List.range_succ]
section
variable {p : PairD} (hp : OkP p) (hne : truA p ≠ [])
include hne
theorem long_sure (i : Nat) : sureF p i = sK p i p.bs.length := by
  rw [Bool.eq_iff_iff]
  unfold sureF sK lowB
  rw [List.all_eq_true, List.all_eq_true]
  constructor
  · intro h k hk
    rw [List.mem_range] at hk
    rw [decide_eq_true_eq]
    obtain ⟨t, ht, e⟩ := (hullD_spec hne i k).lo
    have := (longT_iff _ _ _).1 (h t ht) k hk
    unfold dif at e
    omega
  · intro h t ht
    refine (longT_iff _ _ _).2 fun k hk => ?_
    have h1 := h k (List.mem_range.2 hk)
    rw [decide_eq_true_eq] at h1
    have h2 := (hullD_spec hne i k).all t ht
    unfold dif at h2
    omega
theorem long_canK (i : Nat) (h : canF p i = true) : cK p i p.bs.length = true := by
  unfold canF at h
  rw [List.any_eq_true] at h
  obtain ⟨t, ht, hl⟩ := h
  unfold cK highB
  rw [List.all_eq_true]
  intro k hk
  rw [List.mem_range] at hk
  rw [decide_eq_true_eq]
  have h1 := (longT_iff _ _ _).1 hl k hk
  have h2 := (hullD_spec hne i k).all t ht
  unfold dif at h2
  omega
theorem long_both (i k : Nat) (hi : i < p.bs.length) (hk : k < p.bs.length) (h1 : sureF p i = true) (h2 : canF p k = true) : (hullD p i k).1 ≤ 0 ∧ 0 ≤ (hullD p i k).2 := by
  unfold canF at h2
  rw [List.any_eq_true] at h2
  obtain ⟨t, ht, hl⟩ := h2
  unfold sureF at h1
  rw [List.all_eq_true] at h1
  have h3 := (longT_iff _ _ _).1 (h1 t ht) k hk
  have h4 := (longT_iff _ _ _).1 hl i hi
  have h5 := (hullD_spec hne i k).all t ht
  unfold dif at h5
  omega
theorem long_sub (i : Nat) (h : sureF p i = true) : canF p i = true := by
  obtain ⟨t, l, e⟩ := List.exists_cons_of_ne_nil hne
  unfold sureF at h
  rw [List.all_eq_true] at h
  unfold canF
  rw [List.any_eq_true]
  have ht : t ∈ truA p := by rw [e]; exact List.mem_cons_self
  exact ⟨t, ht, h t ht⟩
end
theorem max_at (x : List Int) : ∀ n, 0 < n → ∃ i, i < n ∧ ∀ k, k < n → x.getD k 0 ≤ x.getD i 0
  | 1, _ => ⟨0, by omega, fun k hk => by have : k = 0 := by omega
                                         rw [this]; exact Int.le_refl _⟩
  | n + 2, _ => by
    obtain ⟨i, hi, h⟩ := max_at x (n + 1) (by omega)
    rcases Int.lt_or_le (x.getD i 0) (x.getD (n + 1) 0) with hlt | hle
    · exact ⟨n + 1, by omega, fun k hk => by
        by_cases e : k = n + 1
        · rw [e]; exact Int.le_refl _
        · have := h k (by omega); omega⟩
    · exact ⟨i, by omega, fun k hk => by
        by_cases e : k = n + 1
        · rw [e]; exact hle
        · exact h k (by omega)⟩
theorem long_some {p : PairD} (hp : OkP p) (hne : truA p ≠ []) : setN (canF p) p.bs.length ≠ 0 := by
  obtain ⟨t, l, e⟩ := List.exists_cons_of_ne_nil hne
  obtain ⟨i, hi, h⟩ := max_at t.1 p.bs.length (by have := hp.n1; omega)
  have hc : canF p i = true := by
    unfold canF
    rw [List.any_eq_true]
    exact ⟨t, by rw [e]; exact List.mem_cons_self, (longT_iff _ _ _).2 h⟩
  intro h0
  have := setN_bit (canF p) p.bs.length i
  rw [h0, hc] at this
  simp [hi] at this
theorem long_andNot {p : PairD} (hp : OkP p) (hne : truA p ≠ []) : bits BinOp.andNot IntKind.i64 ((setN (sureF p) p.bs.length : Nat) : Int) ((setN (canF p) p.bs.length : Nat) : Int) = 0 := by
  refine andNot_zero ⟨_, setN_32 _ _ hp.n5⟩ ⟨_, setN_32 _ _ hp.n5⟩ fun i h => ?_
  dsimp only at h ⊢
  rw [setN_bit, Bool.and_eq_true] at h ⊢
  exact ⟨h.1, long_sub hne _ h.2⟩
theorem set_bit_i64 (f : Nat → Bool) (n i : Nat) (hn : n ≤ 5) (hi : i < n) : (bits BinOp.and IntKind.i64 (((setN f n : Nat) : Int) / 2 ^ i) 1 == 1) = f i := by
  have := bit_i64 ⟨i, by omega⟩ ⟨setN f n, setN_32 f n hn⟩
  dsimp only at this
  rw [this, setN_bit, decide_eq_true hi, Bool.true_and]
theorem set_shift (f : Nat → Bool) (n : Nat) : ((setN f n : Nat) : Int) / 2 ^ n = 0 := by
  have := setN_lt f n
  have h : setN f n / 2 ^ n = 0 := Nat.div_eq_of_lt this
  have e : ((setN f n / 2 ^ n : Nat) : Int) = ((setN f n : Nat) : Int) / 2 ^ n := by simp
  rw [← e, h]; rfl

end Go.Proofs.Ytlgeggekmdoceaa

/- PairLongest: the walk. -/
namespace Go.Proofs.Ytlgeggekmdoceaa
set_option linter.unusedVariables false
set_option linter.unusedSimpArgs false
open Go.RowKit Go.Shelf
attribute [local go_sem] Oper.semAt_some

set_option maxRecDepth 100000 in
set_option maxHeartbeats 8000000 in
theorem longestl_any (p : PairD) (bs rs : Value) (x y : Int) (hx : 0 ≤ x ∧ x < 256) (hy : 0 ≤ y ∧ y < 256) (w : World) (hpa : PairAt w p bs rs) :
    Calls Try.prog 9 #[.agg (pairRow p bs rs), .int .u8 x, .int .u8 y] w fun e w' => e = .returned (.bool true) ∧ Below w.heap.size w w' := by
  obtain ⟨ao, cap, hbse, _⟩ := id hpa.b
  subst hbse
  obtain ⟨ao2, cap2, hrse, _⟩ := id hpa.r
  subst hrse
  obtain ⟨W0, hW0⟩ : ∃ W0, W0 = w.alloc (.cells (pairRow p (.slice ao p.bs.length cap) (.slice ao2 p.rs.length cap2)) 27 (0, 0)) := ⟨_, rfl⟩
  have hb0 : Below w.heap.size w W0 := by rw [hW0]; exact (Below.refl _ _).alloc (Nat.le_refl _) _
  have hr1 : W0.heap[w.heap.size]? = some (pairObj p (.slice ao p.bs.length cap) (.slice ao2 p.rs.length cap2)) := by rw [hW0]; exact heap_alloc_at _ _ _ rfl
  have hsw : W0.heap.size = w.heap.size + 1 := by rw [hW0]; simp
  have HB0 := Lib.hid hb0
  have HR1 := Lib.hid hr1
  have HPA := Lib.hid (hpa.later hb0)
  have rows : ∀ W', Below W0.heap.size W0 W' → (W'.cell? ⟨w.heap.size, 0, none⟩ = some (.slice ao p.bs.length cap) ∧ W'.cell? ⟨w.heap.size, 1, none⟩ = some (.int .i64 p.zl) ∧ W'.cell? ⟨w.heap.size, 2, none⟩ = some (.int .i64 p.zh) ∧
        W'.cell? ⟨w.heap.size, 3, none⟩ = some (.int .i64 p.rl) ∧ W'.cell? ⟨w.heap.size, 4, none⟩ = some (.int .i64 p.rh) ∧ W'.cell? ⟨w.heap.size, 5, none⟩ = some (.slice ao2 p.rs.length cap2)) := fun W' hb => by
    have q1 := (hb.block w.heap.size (by omega)).trans hr1
    unfold pairObj pairRow at q1
    refine ⟨?_, ?_, ?_, ?_, ?_, ?_⟩ <;> (rw [cell_of_row _ _ _ _ _ _ q1]; rfl)
  have ROWS := Lib.hid rows
  have HLG := Lib.hid (long_any p p.bs.length cap p.rs.length cap2 ao ao2 W0)
  have HRP : Hid (∀ W, PairAt W p (.slice ao p.bs.length cap) (.slice ao2 p.rs.length cap2) → Calls Try.prog 39 #[.agg (pairRow p (.slice ao p.bs.length cap) (.slice ao2 p.rs.length cap2))] W fun e w' => e = .returned (.bool (validB p)) ∧ Below W.heap.size W w') := fun W h => rpair_any h
  have HB := Lib.hid (BoxL.nil W0)
  rw [show decide (40 < max p.bs.length p.rs.length) = farP p from rfl] at HLG
  clear rows hb0 hr1 hpa
  cases hfar : farP p with
  | true =>
    rw [hfar] at HLG
    clear hfar
    unfold pairRow at hW0 HLG HRP ⊢
    go_enter Try.func9, Try.ntmps9
    obtain ⟨c0, c1, c2, c3, c4, c5⟩ := ROWS.out _ HB.out.2
    go_wp2_with fail
    rw [← hW0]
    clear hW0 c0 c1 c2 c3 c4 c5
    refine HLG.out.mono ?_
    rintro e w1 ⟨rfl, hb⟩
    replace HB := Lib.hid (HB.out.later hb)
    clear hb
    go_wp2_with fail
    refine (alive_any _).mono ?_
    rintro e wz ⟨rfl, hb⟩
    replace HB := Lib.hid (HB.out.later hb)
    clear hb
    go_wp2
    go_ret
    exact ⟨rfl, HB0.out.trans (HB.out.2.mono (by omega))⟩
  | false =>
  rw [hfar] at HLG
  clear hfar
  cases hv : validB p with
  | false =>
    rw [hv] at HRP
    clear hv
    unfold pairRow at hW0 HLG HRP ⊢
    go_enter Try.func9, Try.ntmps9
    obtain ⟨c0, c1, c2, c3, c4, c5⟩ := ROWS.out _ HB.out.2
    go_wp2_with fail
    rw [← hW0]
    clear hW0 c0 c1 c2 c3 c4 c5
    refine HLG.out.mono ?_
    rintro e w1 ⟨rfl, hb⟩
    replace HB := Lib.hid (HB.out.later hb)
    clear hb
    obtain ⟨c0, c1, c2, c3, c4, c5⟩ := ROWS.out _ HB.out.2
    go_wp2_with fail
    clear c0 c1 c2 c3 c4 c5
    refine (HRP.out _ (HPA.out.later HB.out.2)).mono ?_
    rintro e w2 ⟨rfl, hb⟩
    replace HB := Lib.hid (HB.out.later hb)
    clear hb
    go_wp2_with fail
    refine (alive_any _).mono ?_
    rintro e wz ⟨rfl, hb⟩
    replace HB := Lib.hid (HB.out.later hb)
    clear hb
    go_wp2
    go_ret
    exact ⟨rfl, HB0.out.trans (HB.out.2.mono (by omega))⟩
  | true =>
  rw [hv] at HRP
  have hp := OkP.of p hv
  have hn1 := hp.n1
  have hn5 := hp.n5
  by_cases hne : truA p = []
  · have HL := Lib.hid (gives_longest_no (bs := .slice ao p.bs.length cap) (rs := .slice ao2 p.rs.length cap2) hv hne)
    have HE := Lib.hid (gives_least_no (bs := .slice ao p.bs.length cap) (rs := .slice ao2 p.rs.length cap2) hv hne)
    unfold Gives at HL HE
    unfold pairRow at HL HE
    clear hv hp hne
    unfold pairRow at hW0 HLG HRP ⊢
    go_enter Try.func9, Try.ntmps9
    obtain ⟨c0, c1, c2, c3, c4, c5⟩ := ROWS.out _ HB.out.2
    go_wp2_with fail
    rw [← hW0]
    clear hW0 c0 c1 c2 c3 c4 c5
    refine HLG.out.mono ?_
    rintro e w1 ⟨rfl, hb⟩
    replace HB := Lib.hid (HB.out.later hb)
    clear hb
    obtain ⟨c0, c1, c2, c3, c4, c5⟩ := ROWS.out _ HB.out.2
    go_wp2_with fail
    clear c0 c1 c2 c3 c4 c5
    refine (HRP.out _ (HPA.out.later HB.out.2)).mono ?_
    rintro e w2 ⟨rfl, hb⟩
    replace HB := Lib.hid (HB.out.later hb)
    clear hb
    obtain ⟨c0, c1, c2, c3, c4, c5⟩ := ROWS.out _ HB.out.2
    go_wp2_with fail
    clear c0 c1 c2 c3 c4 c5
    refine (HL.out _ (HPA.out.later HB.out.2)).mono ?_
    rintro e w3 ⟨rfl, hb⟩
    replace HB := Lib.hid (HB.out.later hb)
    clear hb
    obtain ⟨c0, c1, c2, c3, c4, c5⟩ := ROWS.out _ HB.out.2
    go_wp2_with fail
    clear c0 c1 c2 c3 c4 c5
    refine (HE.out _ (HPA.out.later HB.out.2)).mono ?_
    rintro e w4 ⟨rfl, hb⟩
    replace HB := Lib.hid (HB.out.later hb)
    clear hb
    go_wp2_with fail
    refine (alive_any _).mono ?_
    rintro e wz ⟨rfl, hb⟩
    replace HB := Lib.hid (HB.out.later hb)
    clear hb
    go_wp2
    go_ret
    exact ⟨rfl, HB0.out.trans (HB.out.2.mono (by omega))⟩
  · have hL := gives_longest_yes (bs := .slice ao p.bs.length cap) (rs := .slice ao2 p.rs.length cap2) hv hne
    obtain ⟨b1, la, lb, lw, lf, hE, h4, h1, h0, hle, hbt, hbf⟩ : ∃ (b1 : Bool) (la lb lw lf : Int), Gives p (.slice ao p.bs.length cap) (.slice ao2 p.rs.length cap2) 23 [] (.tuple #[.int .i64 la, .int .i64 lb, .int .i64 lw, .int .i64 lf]) ∧ (lf == 4) = b1 ∧ ((p.bs.length : Int) == 1) = b1 ∧ (lf != 0) = b1 ∧ (b1 = true → (lf != 4) = false) ∧ (b1 = true → la = 0 ∧ lb = 0 ∧ lw = 0) ∧
        (b1 = false → ∃ a b : Nat, la = a ∧ lb = b ∧ a < b ∧ b < p.bs.length ∧ lw = widT p a b ∧ ∀ c d, c < d → d < p.bs.length → widT p c d < widT p a b ∨ (widT p c d = widT p a b ∧ (a < c ∨ (a = c ∧ b ≤ d)))) := by
      by_cases h1 : p.bs.length ≤ 1
      · refine ⟨true, 0, 0, 0, 4, gives_least_one hv hne h1, rfl, ?_, rfl, fun _ => rfl, fun _ => ⟨rfl, rfl, rfl⟩, fun h => by cases h⟩
        rw [show p.bs.length = 1 by omega]; rfl
      · obtain ⟨a, b, hab, hbn, he, hall⟩ := leastV_yes hv hne h1
        refine ⟨false, a, b, widT p a b, 0, fun W h => ?_, rfl, ?_, rfl, (fun h => by cases h), (fun h => by cases h), fun _ => ⟨a, b, rfl, rfl, hab, hbn, rfl, hall⟩⟩
        · have := leastV_any h; rw [he] at this; exact this
        · rw [beq_eq_false_iff_ne]; omega
    have hD : ∀ a b : Nat, a < p.bs.length → b < p.bs.length → ∃ lo hi : Int, hullD p a b = (lo, hi) ∧ -40 ≤ lo ∧ lo ≤ hi ∧ hi ≤ 40 ∧ Gives p (.slice ao p.bs.length cap) (.slice ao2 p.rs.length cap2) 17 [.int .i64 a, .int .i64 b] (.tuple #[.agg #[.int .i64 lo, .int .i64 hi], .int .i64 0]) := fun a b ha hb =>
      ⟨_, _, rfl, (hullD_40 hp hne a b).1, (hullD_40 hp hne a b).2.1, (hullD_40 hp hne a b).2.2, gives_differ_yes hv hne a b ha hb⟩
    have hsm := long_some hp hne
    have hc0 : (((setN (canF p) p.bs.length : Nat) : Int) == 0) = false := by rw [beq_eq_false_iff_ne]; omega
    have han := long_andNot hp hne
    have hsh := set_shift (canF p) p.bs.length
    have hbs : ∀ i, i < p.bs.length → (bits BinOp.and IntKind.i64 (((setN (sureF p) p.bs.length : Nat) : Int) / 2 ^ i) 1 == 1) = sureF p i := fun i hi => set_bit_i64 _ _ i hn5 hi
    have hbc : ∀ i, i < p.bs.length → (bits BinOp.and IntKind.i64 (((setN (canF p) p.bs.length : Nat) : Int) / 2 ^ i) 1 == 1) = canF p i := fun i hi => set_bit_i64 _ _ i hn5 hi
    have hS32 := setN_32 (sureF p) p.bs.length hn5
    have hC32 := setN_32 (canF p) p.bs.length hn5
    have HF1 := Lib.hid (long_sure (p := p) hne)
    have HF2 := Lib.hid (long_canK (p := p) hne)
    have HF3 := Lib.hid (long_both (p := p) hne)
    have HSE := Lib.hid (hullD_self (p := p) hne)
    have HL := Lib.hid hL
    have HE := Lib.hid hE
    have HD := Lib.hid hD
    have HBS := Lib.hid hbs
    have HBC := Lib.hid hbc
    have HBT := Lib.hid hbt
    have HBF := Lib.hid hbf
    clear hsm hbs hbc hL hE hD hv hp hne hbt hbf
    unfold Gives at HL HE HD
    unfold pairRow at HL HE HD
    generalize setN (sureF p) p.bs.length = S at *
    generalize setN (canF p) p.bs.length = C at *
    unfold pairRow at hW0 HLG HRP ⊢
    go_enter Try.func9, Try.ntmps9
    obtain ⟨c0, c1, c2, c3, c4, c5⟩ := ROWS.out _ HB.out.2
    go_wp2_with fail
    rw [← hW0]
    clear hW0 c0 c1 c2 c3 c4 c5
    refine HLG.out.mono ?_
    rintro e w1 ⟨rfl, hb⟩
    replace HB := Lib.hid (HB.out.later hb)
    clear hb
    obtain ⟨c0, c1, c2, c3, c4, c5⟩ := ROWS.out _ HB.out.2
    go_wp2_with fail
    clear c0 c1 c2 c3 c4 c5
    refine (HRP.out _ (HPA.out.later HB.out.2)).mono ?_
    rintro e w2 ⟨rfl, hb⟩
    replace HB := Lib.hid (HB.out.later hb)
    clear hb
    obtain ⟨c0, c1, c2, c3, c4, c5⟩ := ROWS.out _ HB.out.2
    go_wp2_with fail
    clear c0 c1 c2 c3 c4 c5
    refine (HL.out _ (HPA.out.later HB.out.2)).mono ?_
    rintro e w3 ⟨rfl, hb⟩
    replace HB := Lib.hid (HB.out.later hb)
    clear hb
    obtain ⟨c0, c1, c2, c3, c4, c5⟩ := ROWS.out _ HB.out.2
    go_wp2_with fail
    clear c0 c1 c2 c3 c4 c5
    refine (HE.out _ (HPA.out.later HB.out.2)).mono ?_
    rintro e w4 ⟨rfl, hb⟩
    replace HB := Lib.hid (HB.out.later hb)
    clear hb
    cases b1 with
    | true =>
      obtain ⟨rfl, rfl, rfl⟩ := HBT.out rfl
      go_wp2_with fail
      have HB4 := Lib.hid HB.out.2
      go_loopw [113] (fun i wr => ∃ k : Nat, k ≤ p.bs.length ∧ i = .int .i64 k ∧ Below W0.heap.size W0 wr) (fun i _ => p.bs.length - (intOf i).toNat)
      case atStart => exact ⟨0, by omega, rfl, HB4.out⟩
      case round =>
        obtain ⟨i, hi, rfl, hb⟩ := hrel
        have HBI := Lib.hid hb
        have hgew := hb.size
        clear hb
        by_cases hli : i < p.bs.length
        case neg =>
          have hd : decide ((i : Int) < (p.bs.length : Int)) = false := by simp; omega
          replace HB := Lib.hid (show BoxL [] W0 wr from ⟨by simp, HBI.out⟩)
          go_wp2_with fail
          refine (alive_any _).mono ?_
          rintro e wz ⟨rfl, hb⟩
          replace HB := Lib.hid (HB.out.later hb)
          clear hb
          go_wp2
          go_ret
          exact ⟨rfl, HB0.out.trans (HB.out.2.mono (by omega))⟩
        have hd : decide ((i : Int) < (p.bs.length : Int)) = true := by simp; omega
        have hwi : IntKind.i64.wrap ((i : Int) + 1) = ((i + 1 : Nat) : Int) := by rw [IntWalk.i64_in _ (by omega)]; omega
        go_wp2_with fail
        obtain ⟨wo, rfl⟩ : ∃ wo, wo = wr := ⟨_, rfl⟩
        go_loopw [16, 17, 117] (fun s c j wq => ∃ k : Nat, k ≤ p.bs.length ∧ j = .int .i64 k ∧ s = .bool (sK p i k) ∧ c = .bool (cK p i k) ∧ Below W0.heap.size W0 wq) (fun _ _ j _ => p.bs.length - (intOf j).toNat)
        case atStart => exact ⟨0, by omega, rfl, rfl, rfl, HBI.out⟩
        case round =>
          obtain ⟨k, hk, rfl, rfl, rfl, hb⟩ := hrel
          have HBK := Lib.hid hb
          have hgek := hb.size
          clear hb
          by_cases hlk : k < p.bs.length
          case neg =>
            have hkn : k = p.bs.length := by omega
            have hdk : decide ((k : Int) < (p.bs.length : Int)) = false := by simp; omega
            have hs := HF1.out i
            rw [← hkn] at hs
            have hc : canF p i = true → cK p i k = true := by rw [hkn]; exact HF2.out i
            have hbs := HBS.out i hli
            have hbc := HBC.out i hli
            rw [hs] at hbs
            clear hkn hs
            generalize sK p i k = s at *
            generalize cK p i k = c at *
            generalize canF p i = f at *
            cases s <;> cases f
            all_goals first | (have hc := hc rfl; subst hc) | cases c
            all_goals
              clear hc
              go_wp2
              exact ⟨⟨i + 1, by omega, by first | rfl | (congr 1; omega), HBK.out⟩, by simp [intOf]; omega⟩
          have hdk : decide ((k : Int) < (p.bs.length : Int)) = true := by simp; omega
          have hwk : IntKind.i64.wrap ((k : Int) + 1) = ((k + 1 : Nat) : Int) := by rw [IntWalk.i64_in _ (by omega)]; omega
          obtain ⟨lo, hi', hlh, hl1, hl2, hl3, hg⟩ := HD.out i k hli hlk
          have HG := Lib.hid hg
          have HSN : Hid (sK p i (k + 1) = (sK p i k && decide (0 ≤ lo))) := by show _ = _; rw [sK_next]; unfold lowB; rw [hlh]
          have HCN : Hid (cK p i (k + 1) = (cK p i k && decide (0 ≤ hi'))) := by show _ = _; rw [cK_next]; unfold highB; rw [hlh]
          have h3 := HF3.out i k hli hlk
          rw [hlh] at h3
          dsimp only at h3
          have H3 := Lib.hid h3
          have hbs := HBS.out i hli
          have hbc := HBC.out k hlk
          have hin : sureF p i = true → canF p k = true → insB 0 lo hi' = true := fun a b => by
            have := H3.out a b
            unfold insB
            rw [decide_eq_true (by omega), decide_eq_true (by omega)]; rfl
          generalize sureF p i = f1 at *
          generalize canF p k = f2 at *
          have HIN := Lib.hid hin
          clear hg hlh h3 hin H3
          generalize sK p i k = s at *
          generalize cK p i k = c at *
          obtain ⟨c0, c1, c2, c3, c4, c5⟩ := ROWS.out _ HBK.out
          go_wp2_with fail
          clear c0 c1 c2 c3 c4 c5
          refine (HG.out _ (HPA.out.later HBK.out)).mono ?_
          rintro e wk ⟨rfl, hb⟩
          have HBL := Lib.hid (HBK.out.trans (hb.mono hgek))
          have hgel : W0.heap.size ≤ wk.heap.size := HBL.out.size
          have hr : (wk.alloc (.cells #[.int .i64 lo, .int .i64 hi'] 24)).heap[wk.heap.size]? = some (.cells #[.int .i64 lo, .int .i64 hi'] 24 (0, 0)) := heap_alloc_at _ _ _ rfl
          have d0 : (wk.alloc (.cells #[.int .i64 lo, .int .i64 hi'] 24)).cell? ⟨wk.heap.size, 0, none⟩ = some (.int .i64 lo) := by rw [cell_of_row _ _ _ _ _ _ hr]; rfl
          have d1 : (wk.alloc (.cells #[.int .i64 lo, .int .i64 hi'] 24)).cell? ⟨wk.heap.size, 1, none⟩ = some (.int .i64 hi') := by rw [cell_of_row _ _ _ _ _ _ hr]; rfl
          clear hb hr
          go_wp2_with fail
          obtain ⟨A, hA⟩ : ∃ A, A = wk.alloc (.cells #[.int .i64 lo, .int .i64 hi'] 24) := ⟨_, rfl⟩
          have hba : Below W0.heap.size W0 A := by rw [hA]; exact HBL.out.alloc hgel _
          rw [← hA] at d0 d1 ⊢
          have HBD : Hid (∀ n, Below W0.heap.size W0 (A.drewN n)) := fun n => ⟨hba.os, hba.tape, hba.output, hba.size, hba.block⟩
          clear hA hba
          cases s <;> cases c
          all_goals
            go_wp2_with fail
            go_quiet (fail)
            cases f1
            · go_wp2
              exact ⟨⟨k + 1, by omega, by first | rfl | (congr 1; omega), by rw [HSN.out]; rfl, by rw [HCN.out]; rfl, HBD.out _⟩, by simp [intOf]; omega⟩
            cases f2
            · go_wp2
              exact ⟨⟨k + 1, by omega, by first | rfl | (congr 1; omega), by rw [HSN.out]; rfl, by rw [HCN.out]; rfl, HBD.out _⟩, by simp [intOf]; omega⟩
            have HI := Lib.hid (HIN.out rfl rfl)
            go_wp2_with fail
            refine (inside_any 0 lo hi' _).mono ?_
            rintro e wi ⟨rfl, hbi⟩
            rw [HI.out]
            have HBZ := Lib.hid ((HBD.out _).trans (hbi.mono (HBD.out _).size))
            clear hbi
            go_wp2
            exact ⟨⟨k + 1, by omega, by first | rfl | (congr 1; omega), by rw [HSN.out]; rfl, by rw [HCN.out]; rfl, HBZ.out⟩, by simp [intOf]; omega⟩
    | false =>
      obtain ⟨a, b, rfl, rfl, hab, hbn, hwab, hall⟩ := HBF.out rfl
      have HWAB := Lib.hid hwab
      have HALL : Hid (∀ c d, c < d → d < p.bs.length → widT p c d < lw ∨ (widT p c d = lw ∧ (a < c ∨ (a = c ∧ b ≤ d)))) := by rw [hwab]; exact hall
      clear hwab hall
      go_wp2_with fail
      have HB4 := Lib.hid HB.out.2
      go_loopw [113] (fun i wr => ∃ k : Nat, k ≤ p.bs.length ∧ i = .int .i64 k ∧ Below W0.heap.size W0 wr) (fun i _ => p.bs.length - (intOf i).toNat)
      case atStart => exact ⟨0, by omega, rfl, HB4.out⟩
      case round =>
        obtain ⟨i, hi, rfl, hb⟩ := hrel
        have HBI := Lib.hid hb
        have hgew := hb.size
        clear hb
        by_cases hli : i < p.bs.length
        case neg =>
          have hd : decide ((i : Int) < (p.bs.length : Int)) = false := by simp; omega
          obtain ⟨lo, hi', hlh, hl1, hl2, hl3, hg⟩ := HD.out a b (by omega) hbn
          have HG := Lib.hid hg
          have HLW : Hid (lw = hi' - lo) := by
            show _ = _
            rw [HWAB.out]
            show (hullD p a b).2 - (hullD p a b).1 = _
            rw [hlh]
          have g1 : decide ((a : Int) < 0) = false := decide_eq_false (by omega)
          have g2 : decide ((b : Int) ≤ (a : Int)) = false := by simp; omega
          have g3 : decide ((p.bs.length : Int) ≤ (b : Int)) = false := by simp; omega
          clear hg hlh
          obtain ⟨c0, c1, c2, c3, c4, c5⟩ := ROWS.out _ HBI.out
          go_wp2_with fail
          clear c0 c1 c2 c3 c4 c5
          refine (HG.out _ (HPA.out.later HBI.out)).mono ?_
          rintro e wp ⟨rfl, hb⟩
          have hbp := HBI.out.trans (hb.mono hgew)
          have hgp := hbp.size
          have hrp : (wp.alloc (.cells #[.int .i64 lo, .int .i64 hi'] 24)).heap[wp.heap.size]? = some (.cells #[.int .i64 lo, .int .i64 hi'] 24 (0, 0)) := heap_alloc_at _ _ _ rfl
          have hbA : Below W0.heap.size W0 (wp.alloc (.cells #[.int .i64 lo, .int .i64 hi'] 24)) := hbp.alloc hgp _
          clear hb hbp
          obtain ⟨cn, hcn⟩ : ∃ n : Nat, x % (p.bs.length : Int) = n := ⟨(x % (p.bs.length : Int)).toNat, by have := Int.emod_nonneg x (b := (p.bs.length : Int)) (by omega); omega⟩
          obtain ⟨dn, hdn⟩ : ∃ n : Nat, y % (p.bs.length : Int) = n := ⟨(y % (p.bs.length : Int)).toNat, by have := Int.emod_nonneg y (b := (p.bs.length : Int)) (by omega); omega⟩
          have hcl : cn < p.bs.length := by have := Int.emod_lt_of_pos x (b := (p.bs.length : Int)) (by omega); omega
          have hdl : dn < p.bs.length := by have := Int.emod_lt_of_pos y (b := (p.bs.length : Int)) (by omega); omega
          have hz0 : ((p.bs.length : Int) == 0) = false := by rw [beq_eq_false_iff_ne]; omega
          go_wp2_with fail
          obtain ⟨wq, hwq⟩ : ∃ wq, wq = wp.alloc (.cells #[.int .i64 lo, .int .i64 hi'] 24) := ⟨_, rfl⟩
          rw [← hwq] at hrp hbA ⊢
          have hpl : wp.heap.size < wq.heap.size := lt_of_block hrp
          clear hwq
          go_quiet (fail)
          obtain ⟨wv, hwv⟩ : ∃ wv, wv = wq.drewN nq := ⟨_, rfl⟩
          have hrq : wv.heap[wp.heap.size]? = some (.cells #[.int .i64 lo, .int .i64 hi'] 24 (0, 0)) := by rw [hwv]; exact hrp
          have hbq : Below W0.heap.size W0 wv := by rw [hwv]; exact ⟨hbA.os, hbA.tape, hbA.output, hbA.size, hbA.block⟩
          have hpl : wp.heap.size < wv.heap.size := by rw [hwv]; exact hpl
          rw [← hwv]
          have HBQ := Lib.hid hbq
          clear hwv hrp hbA hbq
          rcases Nat.lt_trichotomy cn dn with hlt | heq | hgt
          · have k1 : ¬ dn < cn := by omega
            obtain ⟨lo2, hi2, hlh2, hm1, hm2, hm3, hg2⟩ := HD.out cn dn (by omega) (by omega)
            have hw2 : widT p cn dn = hi2 - lo2 := by show (hullD p cn dn).2 - (hullD p cn dn).1 = _; rw [hlh2]
            have hcs := HALL.out cn dn hlt (by omega)
            rw [hw2] at hcs
            have HG2 := Lib.hid hg2
            have HCS := Lib.hid hcs
            clear hg2 hlh2 hw2 hcs
            obtain ⟨c0, c1, c2, c3, c4, c5⟩ := ROWS.out _ HBQ.out
            go_wp2_with fail
            clear c0 c1 c2 c3 c4 c5
            refine (HG2.out _ (HPA.out.later HBQ.out)).mono ?_
            rintro e wt ⟨rfl, hb⟩
            have hgt := HBQ.out.size
            have hrt := (hb.block wp.heap.size hpl).trans hrq
            have hbt := HBQ.out.trans (hb.mono hgt)
            have hgt2 := hbt.size
            have hpl2 : wp.heap.size < wt.heap.size := Nat.lt_of_lt_of_le hpl hb.size
            have hA2 : Below W0.heap.size W0 (wt.alloc (.cells #[.int .i64 lo2, .int .i64 hi2] 24)) := hbt.alloc hgt2 _
            have hrt1 : (wt.alloc (.cells #[.int .i64 lo2, .int .i64 hi2] 24)).heap[wp.heap.size]? = some (.cells #[.int .i64 lo, .int .i64 hi'] 24 (0, 0)) := (hget_old _ _ _ (by omega)).trans hrt
            have hrt2 : (wt.alloc (.cells #[.int .i64 lo2, .int .i64 hi2] 24)).heap[wt.heap.size]? = some (.cells #[.int .i64 lo2, .int .i64 hi2] 24 (0, 0)) := heap_alloc_at _ _ _ rfl
            have d0 : (wt.alloc (.cells #[.int .i64 lo2, .int .i64 hi2] 24)).cell? ⟨wp.heap.size, 0, none⟩ = some (.int .i64 lo) := by rw [cell_of_row _ _ _ _ _ _ hrt1]; rfl
            have d1 : (wt.alloc (.cells #[.int .i64 lo2, .int .i64 hi2] 24)).cell? ⟨wp.heap.size, 1, none⟩ = some (.int .i64 hi') := by rw [cell_of_row _ _ _ _ _ _ hrt1]; rfl
            have d2 : (wt.alloc (.cells #[.int .i64 lo2, .int .i64 hi2] 24)).cell? ⟨wt.heap.size, 0, none⟩ = some (.int .i64 lo2) := by rw [cell_of_row _ _ _ _ _ _ hrt2]; rfl
            have d3 : (wt.alloc (.cells #[.int .i64 lo2, .int .i64 hi2] 24)).cell? ⟨wt.heap.size, 1, none⟩ = some (.int .i64 hi2) := by rw [cell_of_row _ _ _ _ _ _ hrt2]; rfl
            have HB := Lib.hid (show BoxL [] W0 _ from ⟨by simp, hA2⟩)
            have e1 : (hi' - lo == lw) = true := by rw [beq_iff_eq]; exact HLW.out.symm
            clear hb hrt hbt hA2 hrt1 hrt2
            by_cases hww : hi2 - lo2 < lw
            · have f1 : decide (hi2 - lo2 < lw) = true := by simpa using hww
              clear hww
              go_wp2_with fail
              refine (alive_any _).mono ?_
              rintro e wz2 ⟨rfl, hb⟩
              replace HB := Lib.hid (HB.out.later hb)
              clear hb
              go_wp2
              go_ret
              exact ⟨rfl, HB0.out.trans (HB.out.2.mono (by omega))⟩
            have f1 : decide (hi2 - lo2 < lw) = false := by simpa using hww
            have hcs : a < cn ∨ (a = cn ∧ b ≤ dn) := by have := HCS.out; omega
            have f2 : (hi2 - lo2 == lw) = true := by
              rw [beq_iff_eq]
              have := HCS.out
              omega
            have f3 : (((cn : Nat) : Int) == ((dn : Nat) : Int)) = false := by rw [beq_eq_false_iff_ne]; omega
            have HCQ := Lib.hid hcs
            clear hcs
            by_cases hau : a < cn
            · have f4 : decide ((a : Int) < ((cn : Nat) : Int)) = true := by simpa using hau
              go_wp2_with fail
              refine (alive_any _).mono ?_
              rintro e wz2 ⟨rfl, hb⟩
              replace HB := Lib.hid (HB.out.later hb)
              clear hb
              go_wp2
              go_ret
              exact ⟨rfl, HB0.out.trans (HB.out.2.mono (by omega))⟩
            have f4 : decide ((a : Int) < ((cn : Nat) : Int)) = false := by simpa using hau
            have f5 : (((cn : Nat) : Int) == (a : Int)) = true := by
              rw [beq_iff_eq]
              have := HCQ.out
              omega
            have f7 : b ≤ dn := by have := HCQ.out; omega
            have f6 : decide ((b : Int) ≤ ((dn : Nat) : Int)) = true := by simpa using f7
            go_wp2_with fail
            refine (alive_any _).mono ?_
            rintro e wz2 ⟨rfl, hb⟩
            replace HB := Lib.hid (HB.out.later hb)
            clear hb
            go_wp2
            go_ret
            exact ⟨rfl, HB0.out.trans (HB.out.2.mono (by omega))⟩
          · subst heq
            have k1 : ¬ cn < cn := by omega
            obtain ⟨lo2, hi2, hlh2, hm1, hm2, hm3, hg2⟩ := HD.out cn cn (by omega) (by omega)
            have hw2 : widT p cn cn = hi2 - lo2 := by show (hullD p cn cn).2 - (hullD p cn cn).1 = _; rw [hlh2]
            have hcs : hi2 - lo2 = 0 := by
              have h1 := HSE.out cn
              have e1 := congrArg Prod.fst (hlh2.symm.trans h1)
              have e2 := congrArg Prod.snd (hlh2.symm.trans h1)
              dsimp only at e1 e2
              omega
            have HG2 := Lib.hid hg2
            have HCS := Lib.hid hcs
            clear hg2 hlh2 hw2 hcs
            obtain ⟨c0, c1, c2, c3, c4, c5⟩ := ROWS.out _ HBQ.out
            go_wp2_with fail
            clear c0 c1 c2 c3 c4 c5
            refine (HG2.out _ (HPA.out.later HBQ.out)).mono ?_
            rintro e wt ⟨rfl, hb⟩
            have hgt := HBQ.out.size
            have hrt := (hb.block wp.heap.size hpl).trans hrq
            have hbt := HBQ.out.trans (hb.mono hgt)
            have hgt2 := hbt.size
            have hpl2 : wp.heap.size < wt.heap.size := Nat.lt_of_lt_of_le hpl hb.size
            have hA2 : Below W0.heap.size W0 (wt.alloc (.cells #[.int .i64 lo2, .int .i64 hi2] 24)) := hbt.alloc hgt2 _
            have hrt1 : (wt.alloc (.cells #[.int .i64 lo2, .int .i64 hi2] 24)).heap[wp.heap.size]? = some (.cells #[.int .i64 lo, .int .i64 hi'] 24 (0, 0)) := (hget_old _ _ _ (by omega)).trans hrt
            have hrt2 : (wt.alloc (.cells #[.int .i64 lo2, .int .i64 hi2] 24)).heap[wt.heap.size]? = some (.cells #[.int .i64 lo2, .int .i64 hi2] 24 (0, 0)) := heap_alloc_at _ _ _ rfl
            have d0 : (wt.alloc (.cells #[.int .i64 lo2, .int .i64 hi2] 24)).cell? ⟨wp.heap.size, 0, none⟩ = some (.int .i64 lo) := by rw [cell_of_row _ _ _ _ _ _ hrt1]; rfl
            have d1 : (wt.alloc (.cells #[.int .i64 lo2, .int .i64 hi2] 24)).cell? ⟨wp.heap.size, 1, none⟩ = some (.int .i64 hi') := by rw [cell_of_row _ _ _ _ _ _ hrt1]; rfl
            have d2 : (wt.alloc (.cells #[.int .i64 lo2, .int .i64 hi2] 24)).cell? ⟨wt.heap.size, 0, none⟩ = some (.int .i64 lo2) := by rw [cell_of_row _ _ _ _ _ _ hrt2]; rfl
            have d3 : (wt.alloc (.cells #[.int .i64 lo2, .int .i64 hi2] 24)).cell? ⟨wt.heap.size, 1, none⟩ = some (.int .i64 hi2) := by rw [cell_of_row _ _ _ _ _ _ hrt2]; rfl
            have HB := Lib.hid (show BoxL [] W0 _ from ⟨by simp, hA2⟩)
            have e1 : (hi' - lo == lw) = true := by rw [beq_iff_eq]; exact HLW.out.symm
            clear hb hrt hbt hA2 hrt1 hrt2
            by_cases hww : hi2 - lo2 < lw
            · have f1 : decide (hi2 - lo2 < lw) = true := by simpa using hww
              clear hww
              go_wp2_with fail
              refine (alive_any _).mono ?_
              rintro e wz2 ⟨rfl, hb⟩
              replace HB := Lib.hid (HB.out.later hb)
              clear hb
              go_wp2
              go_ret
              exact ⟨rfl, HB0.out.trans (HB.out.2.mono (by omega))⟩
            have f1 : decide (hi2 - lo2 < lw) = false := by simpa using hww
            have f2 : (hi2 - lo2 == lw) = true := by
              rw [beq_iff_eq]
              have := HCS.out
              have := HLW.out
              omega
            go_wp2_with fail
            refine (alive_any _).mono ?_
            rintro e wz2 ⟨rfl, hb⟩
            replace HB := Lib.hid (HB.out.later hb)
            clear hb
            go_wp2
            go_ret
            exact ⟨rfl, HB0.out.trans (HB.out.2.mono (by omega))⟩
          · have hlt := hgt
            have k1 : ¬ cn < dn := by omega
            obtain ⟨lo2, hi2, hlh2, hm1, hm2, hm3, hg2⟩ := HD.out dn cn (by omega) (by omega)
            have hw2 : widT p dn cn = hi2 - lo2 := by show (hullD p dn cn).2 - (hullD p dn cn).1 = _; rw [hlh2]
            have hcs := HALL.out dn cn hlt (by omega)
            rw [hw2] at hcs
            have HG2 := Lib.hid hg2
            have HCS := Lib.hid hcs
            clear hg2 hlh2 hw2 hcs
            obtain ⟨c0, c1, c2, c3, c4, c5⟩ := ROWS.out _ HBQ.out
            go_wp2_with fail
            clear c0 c1 c2 c3 c4 c5
            refine (HG2.out _ (HPA.out.later HBQ.out)).mono ?_
            rintro e wt ⟨rfl, hb⟩
            have hgt := HBQ.out.size
            have hrt := (hb.block wp.heap.size hpl).trans hrq
            have hbt := HBQ.out.trans (hb.mono hgt)
            have hgt2 := hbt.size
            have hpl2 : wp.heap.size < wt.heap.size := Nat.lt_of_lt_of_le hpl hb.size
            have hA2 : Below W0.heap.size W0 (wt.alloc (.cells #[.int .i64 lo2, .int .i64 hi2] 24)) := hbt.alloc hgt2 _
            have hrt1 : (wt.alloc (.cells #[.int .i64 lo2, .int .i64 hi2] 24)).heap[wp.heap.size]? = some (.cells #[.int .i64 lo, .int .i64 hi'] 24 (0, 0)) := (hget_old _ _ _ (by omega)).trans hrt
            have hrt2 : (wt.alloc (.cells #[.int .i64 lo2, .int .i64 hi2] 24)).heap[wt.heap.size]? = some (.cells #[.int .i64 lo2, .int .i64 hi2] 24 (0, 0)) := heap_alloc_at _ _ _ rfl
            have d0 : (wt.alloc (.cells #[.int .i64 lo2, .int .i64 hi2] 24)).cell? ⟨wp.heap.size, 0, none⟩ = some (.int .i64 lo) := by rw [cell_of_row _ _ _ _ _ _ hrt1]; rfl
            have d1 : (wt.alloc (.cells #[.int .i64 lo2, .int .i64 hi2] 24)).cell? ⟨wp.heap.size, 1, none⟩ = some (.int .i64 hi') := by rw [cell_of_row _ _ _ _ _ _ hrt1]; rfl
            have d2 : (wt.alloc (.cells #[.int .i64 lo2, .int .i64 hi2] 24)).cell? ⟨wt.heap.size, 0, none⟩ = some (.int .i64 lo2) := by rw [cell_of_row _ _ _ _ _ _ hrt2]; rfl
            have d3 : (wt.alloc (.cells #[.int .i64 lo2, .int .i64 hi2] 24)).cell? ⟨wt.heap.size, 1, none⟩ = some (.int .i64 hi2) := by rw [cell_of_row _ _ _ _ _ _ hrt2]; rfl
            have HB := Lib.hid (show BoxL [] W0 _ from ⟨by simp, hA2⟩)
            have e1 : (hi' - lo == lw) = true := by rw [beq_iff_eq]; exact HLW.out.symm
            clear hb hrt hbt hA2 hrt1 hrt2
            by_cases hww : hi2 - lo2 < lw
            · have f1 : decide (hi2 - lo2 < lw) = true := by simpa using hww
              clear hww
              go_wp2_with fail
              refine (alive_any _).mono ?_
              rintro e wz2 ⟨rfl, hb⟩
              replace HB := Lib.hid (HB.out.later hb)
              clear hb
              go_wp2
              go_ret
              exact ⟨rfl, HB0.out.trans (HB.out.2.mono (by omega))⟩
            have f1 : decide (hi2 - lo2 < lw) = false := by simpa using hww
            have hcs : a < dn ∨ (a = dn ∧ b ≤ cn) := by have := HCS.out; omega
            have f2 : (hi2 - lo2 == lw) = true := by
              rw [beq_iff_eq]
              have := HCS.out
              omega
            have f3 : (((dn : Nat) : Int) == ((cn : Nat) : Int)) = false := by rw [beq_eq_false_iff_ne]; omega
            have HCQ := Lib.hid hcs
            clear hcs
            by_cases hau : a < dn
            · have f4 : decide ((a : Int) < ((dn : Nat) : Int)) = true := by simpa using hau
              go_wp2_with fail
              refine (alive_any _).mono ?_
              rintro e wz2 ⟨rfl, hb⟩
              replace HB := Lib.hid (HB.out.later hb)
              clear hb
              go_wp2
              go_ret
              exact ⟨rfl, HB0.out.trans (HB.out.2.mono (by omega))⟩
            have f4 : decide ((a : Int) < ((dn : Nat) : Int)) = false := by simpa using hau
            have f5 : (((dn : Nat) : Int) == (a : Int)) = true := by
              rw [beq_iff_eq]
              have := HCQ.out
              omega
            have f7 : b ≤ cn := by have := HCQ.out; omega
            have f6 : decide ((b : Int) ≤ ((cn : Nat) : Int)) = true := by simpa using f7
            go_wp2_with fail
            refine (alive_any _).mono ?_
            rintro e wz2 ⟨rfl, hb⟩
            replace HB := Lib.hid (HB.out.later hb)
            clear hb
            go_wp2
            go_ret
            exact ⟨rfl, HB0.out.trans (HB.out.2.mono (by omega))⟩
        have hd : decide ((i : Int) < (p.bs.length : Int)) = true := by simp; omega
        have hwi : IntKind.i64.wrap ((i : Int) + 1) = ((i + 1 : Nat) : Int) := by rw [IntWalk.i64_in _ (by omega)]; omega
        go_wp2_with fail
        obtain ⟨wo, rfl⟩ : ∃ wo, wo = wr := ⟨_, rfl⟩
        go_loopw [16, 17, 117] (fun s c j wq => ∃ k : Nat, k ≤ p.bs.length ∧ j = .int .i64 k ∧ s = .bool (sK p i k) ∧ c = .bool (cK p i k) ∧ Below W0.heap.size W0 wq) (fun _ _ j _ => p.bs.length - (intOf j).toNat)
        case atStart => exact ⟨0, by omega, rfl, rfl, rfl, HBI.out⟩
        case round =>
          obtain ⟨k, hk, rfl, rfl, rfl, hb⟩ := hrel
          have HBK := Lib.hid hb
          have hgek := hb.size
          clear hb
          by_cases hlk : k < p.bs.length
          case neg =>
            have hkn : k = p.bs.length := by omega
            have hdk : decide ((k : Int) < (p.bs.length : Int)) = false := by simp; omega
            have hs := HF1.out i
            rw [← hkn] at hs
            have hc : canF p i = true → cK p i k = true := by rw [hkn]; exact HF2.out i
            have hbs := HBS.out i hli
            have hbc := HBC.out i hli
            rw [hs] at hbs
            clear hkn hs
            generalize sK p i k = s at *
            generalize cK p i k = c at *
            generalize canF p i = f at *
            cases s <;> cases f
            all_goals first | (have hc := hc rfl; subst hc) | cases c
            all_goals
              clear hc
              go_wp2
              exact ⟨⟨i + 1, by omega, by first | rfl | (congr 1; omega), HBK.out⟩, by simp [intOf]; omega⟩
          have hdk : decide ((k : Int) < (p.bs.length : Int)) = true := by simp; omega
          have hwk : IntKind.i64.wrap ((k : Int) + 1) = ((k + 1 : Nat) : Int) := by rw [IntWalk.i64_in _ (by omega)]; omega
          obtain ⟨lo, hi', hlh, hl1, hl2, hl3, hg⟩ := HD.out i k hli hlk
          have HG := Lib.hid hg
          have HSN : Hid (sK p i (k + 1) = (sK p i k && decide (0 ≤ lo))) := by show _ = _; rw [sK_next]; unfold lowB; rw [hlh]
          have HCN : Hid (cK p i (k + 1) = (cK p i k && decide (0 ≤ hi'))) := by show _ = _; rw [cK_next]; unfold highB; rw [hlh]
          have h3 := HF3.out i k hli hlk
          rw [hlh] at h3
          dsimp only at h3
          have H3 := Lib.hid h3
          have hbs := HBS.out i hli
          have hbc := HBC.out k hlk
          have hin : sureF p i = true → canF p k = true → insB 0 lo hi' = true := fun a b => by
            have := H3.out a b
            unfold insB
            rw [decide_eq_true (by omega), decide_eq_true (by omega)]; rfl
          generalize sureF p i = f1 at *
          generalize canF p k = f2 at *
          have HIN := Lib.hid hin
          clear hg hlh h3 hin H3
          generalize sK p i k = s at *
          generalize cK p i k = c at *
          obtain ⟨c0, c1, c2, c3, c4, c5⟩ := ROWS.out _ HBK.out
          go_wp2_with fail
          clear c0 c1 c2 c3 c4 c5
          refine (HG.out _ (HPA.out.later HBK.out)).mono ?_
          rintro e wk ⟨rfl, hb⟩
          have HBL := Lib.hid (HBK.out.trans (hb.mono hgek))
          have hgel : W0.heap.size ≤ wk.heap.size := HBL.out.size
          have hr : (wk.alloc (.cells #[.int .i64 lo, .int .i64 hi'] 24)).heap[wk.heap.size]? = some (.cells #[.int .i64 lo, .int .i64 hi'] 24 (0, 0)) := heap_alloc_at _ _ _ rfl
          have d0 : (wk.alloc (.cells #[.int .i64 lo, .int .i64 hi'] 24)).cell? ⟨wk.heap.size, 0, none⟩ = some (.int .i64 lo) := by rw [cell_of_row _ _ _ _ _ _ hr]; rfl
          have d1 : (wk.alloc (.cells #[.int .i64 lo, .int .i64 hi'] 24)).cell? ⟨wk.heap.size, 1, none⟩ = some (.int .i64 hi') := by rw [cell_of_row _ _ _ _ _ _ hr]; rfl
          clear hb hr
          go_wp2_with fail
          obtain ⟨A, hA⟩ : ∃ A, A = wk.alloc (.cells #[.int .i64 lo, .int .i64 hi'] 24) := ⟨_, rfl⟩
          have hba : Below W0.heap.size W0 A := by rw [hA]; exact HBL.out.alloc hgel _
          rw [← hA] at d0 d1 ⊢
          have HBD : Hid (∀ n, Below W0.heap.size W0 (A.drewN n)) := fun n => ⟨hba.os, hba.tape, hba.output, hba.size, hba.block⟩
          clear hA hba
          cases s <;> cases c
          all_goals
            go_wp2_with fail
            go_quiet (fail)
            cases f1
            · go_wp2
              exact ⟨⟨k + 1, by omega, by first | rfl | (congr 1; omega), by rw [HSN.out]; rfl, by rw [HCN.out]; rfl, HBD.out _⟩, by simp [intOf]; omega⟩
            cases f2
            · go_wp2
              exact ⟨⟨k + 1, by omega, by first | rfl | (congr 1; omega), by rw [HSN.out]; rfl, by rw [HCN.out]; rfl, HBD.out _⟩, by simp [intOf]; omega⟩
            have HI := Lib.hid (HIN.out rfl rfl)
            go_wp2_with fail
            refine (inside_any 0 lo hi' _).mono ?_
            rintro e wi ⟨rfl, hbi⟩
            rw [HI.out]
            have HBZ := Lib.hid ((HBD.out _).trans (hbi.mono (HBD.out _).size))
            clear hbi
            go_wp2
            exact ⟨⟨k + 1, by omega, by first | rfl | (congr 1; omega), by rw [HSN.out]; rfl, by rw [HCN.out]; rfl, HBZ.out⟩, by simp [intOf]; omega⟩

end Go.Proofs.Ytlgeggekmdoceaa

/- PairLongest: whatever the pair and the two numbers: the law returns true. No conditions. -/
namespace Go.Proofs.Ytlgeggekmdoceaa
set_option linter.unusedVariables false
set_option linter.unusedSimpArgs false
open Go.ChangeShapes Go.WideShapes Go.ChangeAt Go.RowKit

set_option maxRecDepth 100000 in
theorem longestl_lifted (os : Os) (started : os.Started) (H : Type) (enc : TypeId × Value → H) :
    ReturnsInHanded {} Try.checked os 9 .any (Rows.pairLongestSpec.pre6 enc Try.prog Try.f9 Rows.pairLongestRow.domain false) (Rows.pairLongestSpec.post enc Try.prog Try.f9 false true false false) := by
  refine returnsInHanded_of_change (C := Try.checked) own_knob started (by kernel_rfl) Try.func9
    (ChangeSpec.witness6 (enc := enc) (C := Try.checked) false ⟨#[], #[.agg #[.slice none 0 0, .int .i64 0, .int .i64 0, .int .i64 0, .int .i64 0, .slice none 0 0], .int .u8 0, .int .u8 0], []⟩ 8 (by kernel_rfl) (by kernel_rfl) (by kernel_rfl) (by kernel_rfl)) ?_
  intro W base args ds gs before hval0 hW hcnd _
  have hval : ∀ (j : Nat) t v, Try.f9.params[j]? = some t → args[j]? = some v → Value.okWide Try.prog W .any base t v := hval0
  have hW' := hW
  obtain ⟨p, q, hA0, hV, rfl, hfz, hnd⟩ := hW
  have hA : DataW.TrodAll enc Try.prog W 0 (fun _ => true) true Try.f9.params.toList args.toList ds p := hA0
  rw [Try.params9] at hA hval
  obtain ⟨rfl, rfl⟩ := trodVars_none hV
  clear hA0 hval0
  simp only [List.append_nil] at hW'
  have hst := hA
  obtain ⟨v0, v1, v2, d0, d1, d2, p0, p1, p2, rfl, rfl, rfl, h0, h1, h2⟩ := trodAll_three hA
  obtain ⟨pd, bs, rs, rfl, hpa⟩ := open_pair (hval 0 _ _ rfl rfl) h0
  obtain ⟨x, rfl, _, _, hx⟩ := Go.ChangeShapes.open_int under_u8 (hval 1 _ _ rfl rfl) h1
  obtain ⟨y, rfl, _, _, hy⟩ := open_int under_u8 (hval 2 _ _ rfl rfl) h2
  refine (longestl_any pd bs rs x y (u8_range hx) (u8_range hy) W hpa).mono fun e W' ⟨he, hb⟩ => ?_
  subst he
  exact ⟨_, rfl, lawEnd hW' rfl hst rfl (by decide +kernel) rfl rfl hb⟩
theorem longestl_over : Rows.pairLongestRow.holds Try.pinned (OpenSpec.ofChange Rows.pairLongestSpec) :=
  OpenClaim.holds_of_wide 9 Try.f9 rfl rfl rfl rfl rfl rfl rfl ⟨rfl, rfl, rfl, rfl, rfl⟩ rfl rfl rfl rfl rfl (by kernel_rfl) Try.func9 (by kernel_rfl)
    (of_decide_eq_true (by kernel_rfl)) (by unfold Func.isWrapper; first | (rw [if_pos (by decide +kernel)]; kernel_rfl) | (rw [if_neg (by decide +kernel)]; exact ⟨rfl, rfl⟩))
    (fun os started H enc _ => longestl_lifted os started H enc)
/-- The statement. -/
theorem pair_longest : Rows.PairLongestSaid := longestl_over

end Go.Proofs.Ytlgeggekmdoceaa
