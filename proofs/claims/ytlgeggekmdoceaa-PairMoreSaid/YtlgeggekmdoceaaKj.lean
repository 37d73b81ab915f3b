/- Texts Ta, Tc in one file; each begins with a word on what it proves. -/
import Derived.Test.YtlgeggekmdoceaaKi
import Derived.Test.YtlgeggekmdoceaaKg
import Derived.Test.YtlgeggekmdoceaaKh

/- PairTells and PairSets: the walks. -/
namespace Go.Proofs.Ytlgeggekmdoceaa
set_option linter.unusedVariables false
set_option linter.unusedSimpArgs false
open Go.RowKit Go.Shelf
attribute [local go_sem] Oper.semAt_some

section
variable (p : PairD) (bs rs : Value)
/-- In each world in which the pair lies, a call returns this. -/
def Gives (f : Nat) (rest : List Value) (v : Value) : Prop := ∀ W, PairAt W p bs rs → Calls Try.prog f ((.agg (pairRow p bs rs) :: rest).toArray) W fun e w' => e = .returned v ∧ Below W.heap.size W w'
theorem both_known (x : Int) (hlb : p.bs.length ≤ 1000) (hcnt : validB p = true → (truA p).length ≤ 1000000) :
    ∃ a b c : Int, Gives p bs rs 15 [.int .i64 x] (.tuple #[.agg #[.int .i64 a, .int .i64 b], .int .i64 c]) ∧ Gives p bs rs 16 [.int .i64 x] (.tuple #[.agg #[.int .i64 a, .int .i64 b], .int .i64 c]) :=
  ⟨(knownV p x).1.1, (knownV p x).1.2, (knownV p x).2, fun W h => knownV_any h x, fun W h => rknown_any p bs rs x hlb hcnt W h⟩
theorem both_differ (x y : Int) (hlb : p.bs.length ≤ 1000) (hcnt : validB p = true → (truA p).length ≤ 1000000) :
    ∃ a b c : Int, Gives p bs rs 17 [.int .i64 x, .int .i64 y] (.tuple #[.agg #[.int .i64 a, .int .i64 b], .int .i64 c]) ∧ Gives p bs rs 18 [.int .i64 x, .int .i64 y] (.tuple #[.agg #[.int .i64 a, .int .i64 b], .int .i64 c]) :=
  ⟨(differV p x y).1.1, (differV p x y).1.2, (differV p x y).2, fun W h => differV_any h x y, fun W h => rdifferb_any p bs rs x y hlb hcnt W h⟩
theorem both_shows (x : Int) (hlb : p.bs.length ≤ 1000) (hcnt : validB p = true → (truA p).length ≤ 1000000) :
    ∃ a b c : Int, Gives p bs rs 19 [.int .i64 x] (.tuple #[.agg #[.int .i64 a, .int .i64 b], .int .i64 c]) ∧ Gives p bs rs 20 [.int .i64 x] (.tuple #[.agg #[.int .i64 a, .int .i64 b], .int .i64 c]) :=
  ⟨(showsV p x).1.1, (showsV p x).1.2, (showsV p x).2, fun W h => showsV_any h x, fun W h => rshows_any p bs rs x hlb hcnt W h⟩
theorem both_longest (hcnt : validB p = true → (truA p).length ≤ 1000000) :
    ∃ a b c : Int, Gives p bs rs 21 [] (.tuple #[.int .i64 a, .int .i64 b, .int .i64 c]) ∧ Gives p bs rs 22 [] (.tuple #[.int .i64 a, .int .i64 b, .int .i64 c]) :=
  ⟨(longV p).1.1, (longV p).1.2, (longV p).2, fun W h => longestV_any h, fun W h => rlongestp_any p bs rs hcnt W h⟩
theorem both_least (hcnt : validB p = true → (truA p).length ≤ 1000000) :
    ∃ a b c d : Int, Gives p bs rs 23 [] (.tuple #[.int .i64 a, .int .i64 b, .int .i64 c, .int .i64 d]) ∧ Gives p bs rs 24 [] (.tuple #[.int .i64 a, .int .i64 b, .int .i64 c, .int .i64 d]) :=
  ⟨(leastV p).1.1, (leastV p).1.2.1, (leastV p).1.2.2, (leastV p).2, fun W h => leastV_any h, fun W h => rleastp_any p bs rs hcnt W h⟩
theorem both_groups :
    ∃ a b : Int, Gives p bs rs 25 [] (.tuple #[.int .i64 a, .int .i64 b]) ∧ Gives p bs rs 26 [] (.tuple #[.int .i64 a, .int .i64 b]) :=
  ⟨(groupsV p).1, (groupsV p).2, fun W h => groupsV_any h, fun W h => rgroups_any p bs rs W h⟩
theorem both_wrong (hcnt : validB p = true → ∀ s, (truthsL p s).length ≤ 1000000) :
    ∃ a b c : Int, Gives p bs rs 27 [] (.tuple #[.int .i64 a, .int .i64 b, .int .i64 c]) ∧ Gives p bs rs 28 [] (.tuple #[.int .i64 a, .int .i64 b, .int .i64 c]) :=
  ⟨(wrongV p).1.1, (wrongV p).1.2, (wrongV p).2, fun W h => wrongV_any h, fun W h => rwrong_any p bs rs hcnt W h⟩
theorem both_clash (hcnt : validB p = true → ∀ s, (truthsL p s).length ≤ 1000000) :
    ∃ a b : Int, Gives p bs rs 29 [] (.tuple #[.int .i64 a, .int .i64 b]) ∧ Gives p bs rs 30 [] (.tuple #[.int .i64 a, .int .i64 b]) :=
  ⟨(clashV p).1, (clashV p).2, fun W h => clashV_any h, fun W h => rclash_any p bs rs hcnt W h⟩
end
set_option maxRecDepth 100000 in
set_option maxHeartbeats 8000000 in
theorem tells_any (p : PairD) (bs rs : Value) (x y m : Int) (w : World) (hpa : PairAt w p bs rs) :
    Calls Try.prog 3 #[.agg (pairRow p bs rs), .int .i64 x, .int .i64 y, .int .i64 m] w fun e w' => e = .returned (.bool true) ∧ Below w.heap.size w w' := by
  obtain ⟨ao, cap, hbse, _⟩ := id hpa.b
  subst hbse
  obtain ⟨ao2, cap2, hrse, _⟩ := id hpa.r
  subst hrse
  obtain ⟨W0, hW0⟩ : ∃ W0, W0 = w.alloc (.cells (pairRow p (.slice ao p.bs.length cap) (.slice ao2 p.rs.length cap2)) 27 (0, 0)) := ⟨_, rfl⟩
  have hb0 : Below w.heap.size w W0 := by rw [hW0]; exact (Below.refl _ _).alloc (Nat.le_refl _) _
  have hr1 : W0.heap[w.heap.size]? = some (pairObj p (.slice ao p.bs.length cap) (.slice ao2 p.rs.length cap2)) := by rw [hW0]; exact heap_alloc_at _ _ _ rfl
  have hsw : W0.heap.size = w.heap.size + 1 := by rw [hW0]; simp
  have HB0 := Lib.hid hb0
  have HR1 := Lib.hid hr1
  have HPA := Lib.hid (hpa.later hb0)
  have rows : ∀ W', Below W0.heap.size W0 W' → (W'.cell? ⟨w.heap.size, 0, none⟩ = some (.slice ao p.bs.length cap) ∧ W'.cell? ⟨w.heap.size, 1, none⟩ = some (.int .i64 p.zl) ∧ W'.cell? ⟨w.heap.size, 2, none⟩ = some (.int .i64 p.zh) ∧
        W'.cell? ⟨w.heap.size, 3, none⟩ = some (.int .i64 p.rl) ∧ W'.cell? ⟨w.heap.size, 4, none⟩ = some (.int .i64 p.rh) ∧ W'.cell? ⟨w.heap.size, 5, none⟩ = some (.slice ao2 p.rs.length cap2)) := fun W' hb => by
    have q1 := (hb.block w.heap.size (by omega)).trans hr1
    unfold pairObj pairRow at q1
    refine ⟨?_, ?_, ?_, ?_, ?_, ?_⟩ <;> (rw [cell_of_row _ _ _ _ _ _ q1]; rfl)
  have ROWS := Lib.hid rows
  clear rows hb0 hr1 hpa
  have HV := Lib.hid (heavy_any p (.slice ao p.bs.length cap) (.slice ao2 p.rs.length cap2) 4000)
  cases hh : heavyV p 4000 with
  | true =>
    rw [hh] at HV
    have HB := Lib.hid (BoxL.nil W0)
    clear hh
    unfold pairRow at hW0 HV ⊢
    go_enter Try.func3, Try.ntmps3
    obtain ⟨c0, c1, c2, c3, c4, c5⟩ := ROWS.out _ HB.out.2
    go_wp2_with fail
    rw [← hW0]
    clear hW0 c0 c1 c2 c3 c4 c5
    refine (HV.out W0 HPA.out).mono ?_
    rintro e w1 ⟨rfl, hb⟩
    replace HB := Lib.hid (HB.out.later hb)
    clear hb
    go_wp2_with fail
    refine (alive_any _).mono ?_
    rintro e w2 ⟨rfl, hb⟩
    replace HB := Lib.hid (HB.out.later hb)
    clear hb
    go_wp2
    go_ret
    exact ⟨rfl, HB0.out.trans (HB.out.2.mono (by omega))⟩
  | false =>
    rw [hh] at HV
    have hlb : p.bs.length ≤ 1000 := by have := (heavy_far hh).1; omega
    have hcnt : validB p = true → (truA p).length ≤ 1000000 := fun hv => by have := truths_count p (allR p) 4000 hh hv; unfold truA; omega
    obtain ⟨a1, a2, a3, ha, ha'⟩ := both_known p (.slice ao p.bs.length cap) (.slice ao2 p.rs.length cap2) x hlb hcnt
    obtain ⟨b1, b2, b3, hb, hb'⟩ := both_differ p (.slice ao p.bs.length cap) (.slice ao2 p.rs.length cap2) x y hlb hcnt
    obtain ⟨d1, d2, d3, hd, hd'⟩ := both_shows p (.slice ao p.bs.length cap) (.slice ao2 p.rs.length cap2) m hlb hcnt
    obtain ⟨f1, f2, f3, hf, hf'⟩ := both_longest p (.slice ao p.bs.length cap) (.slice ao2 p.rs.length cap2) hcnt
    obtain ⟨g1, g2, g3, g4, hg, hg'⟩ := both_least p (.slice ao p.bs.length cap) (.slice ao2 p.rs.length cap2) hcnt
    obtain ⟨k1, k2, hk, hk'⟩ := both_groups p (.slice ao p.bs.length cap) (.slice ao2 p.rs.length cap2)
    have HA := Lib.hid ha
    have HA' := Lib.hid ha'
    have HD := Lib.hid hb
    have HD' := Lib.hid hb'
    have HS := Lib.hid hd
    have HS' := Lib.hid hd'
    have HL := Lib.hid hf
    have HL' := Lib.hid hf'
    have HE := Lib.hid hg
    have HE' := Lib.hid hg'
    have HG := Lib.hid hk
    have HG' := Lib.hid hk'
    have HB := Lib.hid (BoxL.nil W0)
    clear hh hlb hcnt ha ha' hb hb' hd hd' hf hf' hg hg' hk hk'
    unfold Gives at HA HA' HD HD' HS HS' HL HL' HE HE' HG HG'
    unfold pairRow at hW0 HV HA HA' HD HD' HS HS' HL HL' HE HE' HG HG' ⊢
    go_enter Try.func3, Try.ntmps3
    obtain ⟨c0, c1, c2, c3, c4, c5⟩ := ROWS.out _ HB.out.2
    go_wp2_with fail
    rw [← hW0]
    clear hW0 c0 c1 c2 c3 c4 c5
    refine (HV.out W0 HPA.out).mono ?_
    rintro e w1 ⟨rfl, hb⟩
    replace HB := Lib.hid (HB.out.later hb)
    clear hb
    obtain ⟨c0, c1, c2, c3, c4, c5⟩ := ROWS.out _ HB.out.2
    go_wp2_with fail
    clear c0 c1 c2 c3 c4 c5
    refine (HA.out _ (HPA.out.later HB.out.2)).mono ?_
    rintro e w2 ⟨rfl, hb⟩
    replace HB := Lib.hid (HB.out.later hb)
    clear hb
    replace HB := Lib.hid (HB.out.alloc (a1) (a2))
    obtain ⟨c0, c1, c2, c3, c4, c5⟩ := ROWS.out _ HB.out.2
    go_wp2_with fail
    clear c0 c1 c2 c3 c4 c5
    obtain ⟨A2, hA⟩ : ∃ A, A = w2.alloc (.cells #[.int .i64 (a1), .int .i64 (a2)] 24) := ⟨_, rfl⟩
    rw [← hA] at HB ⊢
    clear hA
    refine (HA'.out _ (HPA.out.later HB.out.2)).mono ?_
    rintro e w3 ⟨rfl, hb⟩
    replace HB := Lib.hid (HB.out.later hb)
    clear hb
    replace HB := Lib.hid (HB.out.alloc (a1) (a2))
    obtain ⟨c0, c1, c2, c3, c4, c5⟩ := ROWS.out _ HB.out.2
    go_wp2_with fail
    clear c0 c1 c2 c3 c4 c5
    obtain ⟨A3, hA⟩ : ∃ A, A = w3.alloc (.cells #[.int .i64 (a1), .int .i64 (a2)] 24) := ⟨_, rfl⟩
    rw [← hA] at HB ⊢
    clear hA
    refine (HD.out _ (HPA.out.later HB.out.2)).mono ?_
    rintro e w4 ⟨rfl, hb⟩
    replace HB := Lib.hid (HB.out.later hb)
    clear hb
    replace HB := Lib.hid (HB.out.alloc (b1) (b2))
    obtain ⟨c0, c1, c2, c3, c4, c5⟩ := ROWS.out _ HB.out.2
    go_wp2_with fail
    clear c0 c1 c2 c3 c4 c5
    obtain ⟨A4, hA⟩ : ∃ A, A = w4.alloc (.cells #[.int .i64 (b1), .int .i64 (b2)] 24) := ⟨_, rfl⟩
    rw [← hA] at HB ⊢
    clear hA
    refine (HD'.out _ (HPA.out.later HB.out.2)).mono ?_
    rintro e w5 ⟨rfl, hb⟩
    replace HB := Lib.hid (HB.out.later hb)
    clear hb
    replace HB := Lib.hid (HB.out.alloc (b1) (b2))
    obtain ⟨c0, c1, c2, c3, c4, c5⟩ := ROWS.out _ HB.out.2
    go_wp2_with fail
    clear c0 c1 c2 c3 c4 c5
    obtain ⟨A5, hA⟩ : ∃ A, A = w5.alloc (.cells #[.int .i64 (b1), .int .i64 (b2)] 24) := ⟨_, rfl⟩
    rw [← hA] at HB ⊢
    clear hA
    refine (HS.out _ (HPA.out.later HB.out.2)).mono ?_
    rintro e w6 ⟨rfl, hb⟩
    replace HB := Lib.hid (HB.out.later hb)
    clear hb
    replace HB := Lib.hid (HB.out.alloc (d1) (d2))
    obtain ⟨c0, c1, c2, c3, c4, c5⟩ := ROWS.out _ HB.out.2
    go_wp2_with fail
    clear c0 c1 c2 c3 c4 c5
    obtain ⟨A6, hA⟩ : ∃ A, A = w6.alloc (.cells #[.int .i64 (d1), .int .i64 (d2)] 24) := ⟨_, rfl⟩
    rw [← hA] at HB ⊢
    clear hA
    refine (HS'.out _ (HPA.out.later HB.out.2)).mono ?_
    rintro e w7 ⟨rfl, hb⟩
    replace HB := Lib.hid (HB.out.later hb)
    clear hb
    replace HB := Lib.hid (HB.out.alloc d1 d2)
    obtain ⟨q1, q2⟩ := HB.out.cell (b := w2.heap.size) (x := a1) (y := a2) (by simp)
    obtain ⟨q3, q4⟩ := HB.out.cell (b := w3.heap.size) (x := a1) (y := a2) (by simp)
    obtain ⟨q5, q6⟩ := HB.out.cell (b := w4.heap.size) (x := b1) (y := b2) (by simp)
    obtain ⟨q7, q8⟩ := HB.out.cell (b := w5.heap.size) (x := b1) (y := b2) (by simp)
    obtain ⟨q9, q10⟩ := HB.out.cell (b := w6.heap.size) (x := d1) (y := d2) (by simp)
    obtain ⟨q11, q12⟩ := HB.out.cell (b := w7.heap.size) (x := d1) (y := d2) (by simp)
    obtain ⟨c0, c1, c2, c3, c4, c5⟩ := ROWS.out _ HB.out.2
    go_wp2_with fail
    clear c0 c1 c2 c3 c4 c5 q1 q2 q3 q4 q5 q6 q7 q8 q9 q10 q11 q12
    refine (HL.out _ (HPA.out.later HB.out.2)).mono ?_
    rintro e w8 ⟨rfl, hb⟩
    replace HB := Lib.hid (HB.out.later hb)
    clear hb
    obtain ⟨c0, c1, c2, c3, c4, c5⟩ := ROWS.out _ HB.out.2
    go_wp2_with fail
    clear c0 c1 c2 c3 c4 c5
    refine (HL'.out _ (HPA.out.later HB.out.2)).mono ?_
    rintro e w9 ⟨rfl, hb⟩
    replace HB := Lib.hid (HB.out.later hb)
    clear hb
    obtain ⟨c0, c1, c2, c3, c4, c5⟩ := ROWS.out _ HB.out.2
    go_wp2_with fail
    clear c0 c1 c2 c3 c4 c5
    refine (HE.out _ (HPA.out.later HB.out.2)).mono ?_
    rintro e w10 ⟨rfl, hb⟩
    replace HB := Lib.hid (HB.out.later hb)
    clear hb
    obtain ⟨c0, c1, c2, c3, c4, c5⟩ := ROWS.out _ HB.out.2
    go_wp2_with fail
    clear c0 c1 c2 c3 c4 c5
    refine (HE'.out _ (HPA.out.later HB.out.2)).mono ?_
    rintro e w11 ⟨rfl, hb⟩
    replace HB := Lib.hid (HB.out.later hb)
    clear hb
    obtain ⟨c0, c1, c2, c3, c4, c5⟩ := ROWS.out _ HB.out.2
    go_wp2_with fail
    clear c0 c1 c2 c3 c4 c5
    refine (HG.out _ (HPA.out.later HB.out.2)).mono ?_
    rintro e w12 ⟨rfl, hb⟩
    replace HB := Lib.hid (HB.out.later hb)
    clear hb
    obtain ⟨c0, c1, c2, c3, c4, c5⟩ := ROWS.out _ HB.out.2
    go_wp2_with fail
    clear c0 c1 c2 c3 c4 c5
    refine (HG'.out _ (HPA.out.later HB.out.2)).mono ?_
    rintro e w13 ⟨rfl, hb⟩
    replace HB := Lib.hid (HB.out.later hb)
    clear hb
    go_wp2_with fail
    refine (alive_any _).mono ?_
    rintro e w14 ⟨rfl, hb⟩
    replace HB := Lib.hid (HB.out.later hb)
    clear hb
    go_wp2
    go_ret
    exact ⟨rfl, HB0.out.trans (HB.out.2.mono (by omega))⟩
set_option maxRecDepth 100000 in
set_option maxHeartbeats 8000000 in
theorem sets_any (p : PairD) (bs rs : Value) (w : World) (hpa : PairAt w p bs rs) :
    Calls Try.prog 4 #[.agg (pairRow p bs rs)] w fun e w' => e = .returned (.bool true) ∧ Below w.heap.size w w' := by
  obtain ⟨ao, cap, hbse, _⟩ := id hpa.b
  subst hbse
  obtain ⟨ao2, cap2, hrse, _⟩ := id hpa.r
  subst hrse
  obtain ⟨W0, hW0⟩ : ∃ W0, W0 = w.alloc (.cells (pairRow p (.slice ao p.bs.length cap) (.slice ao2 p.rs.length cap2)) 27 (0, 0)) := ⟨_, rfl⟩
  have hb0 : Below w.heap.size w W0 := by rw [hW0]; exact (Below.refl _ _).alloc (Nat.le_refl _) _
  have hr1 : W0.heap[w.heap.size]? = some (pairObj p (.slice ao p.bs.length cap) (.slice ao2 p.rs.length cap2)) := by rw [hW0]; exact heap_alloc_at _ _ _ rfl
  have hsw : W0.heap.size = w.heap.size + 1 := by rw [hW0]; simp
  have HB0 := Lib.hid hb0
  have HR1 := Lib.hid hr1
  have HPA := Lib.hid (hpa.later hb0)
  have rows : ∀ W', Below W0.heap.size W0 W' → (W'.cell? ⟨w.heap.size, 0, none⟩ = some (.slice ao p.bs.length cap) ∧ W'.cell? ⟨w.heap.size, 1, none⟩ = some (.int .i64 p.zl) ∧ W'.cell? ⟨w.heap.size, 2, none⟩ = some (.int .i64 p.zh) ∧
        W'.cell? ⟨w.heap.size, 3, none⟩ = some (.int .i64 p.rl) ∧ W'.cell? ⟨w.heap.size, 4, none⟩ = some (.int .i64 p.rh) ∧ W'.cell? ⟨w.heap.size, 5, none⟩ = some (.slice ao2 p.rs.length cap2)) := fun W' hb => by
    have q1 := (hb.block w.heap.size (by omega)).trans hr1
    unfold pairObj pairRow at q1
    refine ⟨?_, ?_, ?_, ?_, ?_, ?_⟩ <;> (rw [cell_of_row _ _ _ _ _ _ q1]; rfl)
  have ROWS := Lib.hid rows
  clear rows hb0 hr1 hpa
  have HV := Lib.hid (heavy_any p (.slice ao p.bs.length cap) (.slice ao2 p.rs.length cap2) 300)
  cases hh : heavyV p 300 with
  | true =>
    rw [hh] at HV
    have HB := Lib.hid (BoxL.nil W0)
    clear hh
    unfold pairRow at hW0 HV ⊢
    go_enter Try.func4, Try.ntmps4
    obtain ⟨c0, c1, c2, c3, c4, c5⟩ := ROWS.out _ HB.out.2
    go_wp2_with fail
    rw [← hW0]
    clear hW0 c0 c1 c2 c3 c4 c5
    refine (HV.out W0 HPA.out).mono ?_
    rintro e w1 ⟨rfl, hb⟩
    replace HB := Lib.hid (HB.out.later hb)
    clear hb
    go_wp2_with fail
    refine (alive_any _).mono ?_
    rintro e w2 ⟨rfl, hb⟩
    replace HB := Lib.hid (HB.out.later hb)
    clear hb
    go_wp2
    go_ret
    exact ⟨rfl, HB0.out.trans (HB.out.2.mono (by omega))⟩
  | false =>
    rw [hh] at HV
    have hcnt : validB p = true → ∀ s, (truthsL p s).length ≤ 1000000 := fun hv s => by have := truths_count p s 300 hh hv; omega
    obtain ⟨a1, a2, a3, ha, ha'⟩ := both_wrong p (.slice ao p.bs.length cap) (.slice ao2 p.rs.length cap2) hcnt
    obtain ⟨b1, b2, hb, hb'⟩ := both_clash p (.slice ao p.bs.length cap) (.slice ao2 p.rs.length cap2) hcnt
    have HA := Lib.hid ha
    have HA' := Lib.hid ha'
    have HD := Lib.hid hb
    have HD' := Lib.hid hb'
    have HB := Lib.hid (BoxL.nil W0)
    clear hh hcnt ha ha' hb hb'
    unfold Gives at HA HA' HD HD'
    unfold pairRow at hW0 HV HA HA' HD HD' ⊢
    go_enter Try.func4, Try.ntmps4
    obtain ⟨c0, c1, c2, c3, c4, c5⟩ := ROWS.out _ HB.out.2
    go_wp2_with fail
    rw [← hW0]
    clear hW0 c0 c1 c2 c3 c4 c5
    refine (HV.out W0 HPA.out).mono ?_
    rintro e w1 ⟨rfl, hb⟩
    replace HB := Lib.hid (HB.out.later hb)
    clear hb
    obtain ⟨c0, c1, c2, c3, c4, c5⟩ := ROWS.out _ HB.out.2
    go_wp2_with fail
    clear c0 c1 c2 c3 c4 c5
    refine (HA.out _ (HPA.out.later HB.out.2)).mono ?_
    rintro e w2 ⟨rfl, hb⟩
    replace HB := Lib.hid (HB.out.later hb)
    clear hb
    obtain ⟨c0, c1, c2, c3, c4, c5⟩ := ROWS.out _ HB.out.2
    go_wp2_with fail
    clear c0 c1 c2 c3 c4 c5
    refine (HA'.out _ (HPA.out.later HB.out.2)).mono ?_
    rintro e w3 ⟨rfl, hb⟩
    replace HB := Lib.hid (HB.out.later hb)
    clear hb
    obtain ⟨c0, c1, c2, c3, c4, c5⟩ := ROWS.out _ HB.out.2
    go_wp2_with fail
    clear c0 c1 c2 c3 c4 c5
    refine (HD.out _ (HPA.out.later HB.out.2)).mono ?_
    rintro e w4 ⟨rfl, hb⟩
    replace HB := Lib.hid (HB.out.later hb)
    clear hb
    obtain ⟨c0, c1, c2, c3, c4, c5⟩ := ROWS.out _ HB.out.2
    go_wp2_with fail
    clear c0 c1 c2 c3 c4 c5
    refine (HD'.out _ (HPA.out.later HB.out.2)).mono ?_
    rintro e w5 ⟨rfl, hb⟩
    replace HB := Lib.hid (HB.out.later hb)
    clear hb
    go_wp2_with fail
    refine (alive_any _).mono ?_
    rintro e w6 ⟨rfl, hb⟩
    replace HB := Lib.hid (HB.out.later hb)
    clear hb
    go_wp2
    go_ret
    exact ⟨rfl, HB0.out.trans (HB.out.2.mono (by omega))⟩

end Go.Proofs.Ytlgeggekmdoceaa

/- PairTells and PairSets: whatever the pair, block, other block and minute: what package pair tells is what the reference tells: the laws return true. No conditions. -/
namespace Go.Proofs.Ytlgeggekmdoceaa
set_option linter.unusedVariables false
set_option linter.unusedSimpArgs false
open Go.ChangeShapes Go.WideShapes Go.ChangeAt Go.RowKit

set_option maxRecDepth 100000 in
theorem tells_lifted (os : Os) (started : os.Started) (H : Type) (enc : TypeId × Value → H) :
    ReturnsInHanded {} Try.checked os 3 .any (Rows.pairTellsSpec.pre6 enc Try.prog Try.f3 Rows.pairTellsRow.domain false) (Rows.pairTellsSpec.post enc Try.prog Try.f3 false true false false) := by
  refine returnsInHanded_of_change (C := Try.checked) own_knob started (by kernel_rfl) Try.func3
    (ChangeSpec.witness6 (enc := enc) (C := Try.checked) false ⟨#[], #[.agg #[.slice none 0 0, .int .i64 0, .int .i64 0, .int .i64 0, .int .i64 0, .slice none 0 0], .int .i64 0, .int .i64 0, .int .i64 0], []⟩ 8 (by kernel_rfl) (by kernel_rfl) (by kernel_rfl) (by kernel_rfl)) ?_
  intro W base args ds gs before hval0 hW hcnd _
  have hval : ∀ (j : Nat) t v, Try.f3.params[j]? = some t → args[j]? = some v → Value.okWide Try.prog W .any base t v := hval0
  have hW' := hW
  obtain ⟨p, q, hA0, hV, rfl, hfz, hnd⟩ := hW
  have hA : DataW.TrodAll enc Try.prog W 0 (fun _ => true) true Try.f3.params.toList args.toList ds p := hA0
  rw [Try.params3] at hA hval
  obtain ⟨rfl, rfl⟩ := trodVars_none hV
  clear hA0 hval0
  simp only [List.append_nil] at hW'
  have hst := hA
  obtain ⟨v0, v1, v2, v3, d0, d1, d2, d3, p0, p1, p2, p3, rfl, rfl, rfl, h0, h1, h2, h3⟩ := trodAll_four hA
  obtain ⟨pd, bs, rs, rfl, hpa⟩ := open_pair (hval 0 _ _ rfl rfl) h0
  obtain ⟨x, rfl⟩ := okWide_int under3 (hval 1 _ _ rfl rfl)
  obtain ⟨y, rfl⟩ := okWide_int under3 (hval 2 _ _ rfl rfl)
  obtain ⟨m, rfl⟩ := okWide_int under3 (hval 3 _ _ rfl rfl)
  refine (tells_any pd bs rs x y m W hpa).mono fun e W' ⟨he, hb⟩ => ?_
  subst he
  exact ⟨_, rfl, lawEnd hW' rfl hst rfl (by decide +kernel) rfl rfl hb⟩
theorem tells_over : Rows.pairTellsRow.holds Try.pinned (OpenSpec.ofChange Rows.pairTellsSpec) :=
  OpenClaim.holds_of_wide 3 Try.f3 rfl rfl rfl rfl rfl rfl rfl ⟨rfl, rfl, rfl, rfl, rfl⟩ rfl rfl rfl rfl rfl (by kernel_rfl) Try.func3 (by kernel_rfl)
    (of_decide_eq_true (by kernel_rfl)) (by unfold Func.isWrapper; first | (rw [if_pos (by decide +kernel)]; kernel_rfl) | (rw [if_neg (by decide +kernel)]; exact ⟨rfl, rfl⟩))
    (fun os started H enc _ => tells_lifted os started H enc)
/-- The statement. -/
theorem pair_tells : Rows.PairTellsSaid := tells_over

set_option maxRecDepth 100000 in
theorem sets_lifted (os : Os) (started : os.Started) (H : Type) (enc : TypeId × Value → H) :
    ReturnsInHanded {} Try.checked os 4 .any (Rows.pairSetsSpec.pre6 enc Try.prog Try.f4 Rows.pairSetsRow.domain false) (Rows.pairSetsSpec.post enc Try.prog Try.f4 false true false false) := by
  refine returnsInHanded_of_change (C := Try.checked) own_knob started (by kernel_rfl) Try.func4
    (ChangeSpec.witness6 (enc := enc) (C := Try.checked) false ⟨#[], #[.agg #[.slice none 0 0, .int .i64 0, .int .i64 0, .int .i64 0, .int .i64 0, .slice none 0 0]], []⟩ 8 (by kernel_rfl) (by kernel_rfl) (by kernel_rfl) (by kernel_rfl)) ?_
  intro W base args ds gs before hval0 hW hcnd _
  have hval : ∀ (j : Nat) t v, Try.f4.params[j]? = some t → args[j]? = some v → Value.okWide Try.prog W .any base t v := hval0
  have hW' := hW
  obtain ⟨p, q, hA0, hV, rfl, hfz, hnd⟩ := hW
  have hA : DataW.TrodAll enc Try.prog W 0 (fun _ => true) true Try.f4.params.toList args.toList ds p := hA0
  rw [Try.params4] at hA hval
  obtain ⟨rfl, rfl⟩ := trodVars_none hV
  clear hA0 hval0
  simp only [List.append_nil] at hW'
  have hst := hA
  obtain ⟨v0, d0, rfl, rfl, h0⟩ := trodAll_one hA
  obtain ⟨pd, bs, rs, rfl, hpa⟩ := open_pair (hval 0 _ _ rfl rfl) h0
  refine (sets_any pd bs rs W hpa).mono fun e W' ⟨he, hb⟩ => ?_
  subst he
  exact ⟨_, rfl, lawEnd hW' rfl hst rfl (by decide +kernel) rfl rfl hb⟩
theorem sets_over : Rows.pairSetsRow.holds Try.pinned (OpenSpec.ofChange Rows.pairSetsSpec) :=
  OpenClaim.holds_of_wide 4 Try.f4 rfl rfl rfl rfl rfl rfl rfl ⟨rfl, rfl, rfl, rfl, rfl⟩ rfl rfl rfl rfl rfl (by kernel_rfl) Try.func4 (by kernel_rfl)
    (of_decide_eq_true (by kernel_rfl)) (by unfold Func.isWrapper; first | (rw [if_pos (by decide +kernel)]; kernel_rfl) | (rw [if_neg (by decide +kernel)]; exact ⟨rfl, rfl⟩))
    (fun os started H enc _ => sets_lifted os started H enc)
/-- The statement. -/
theorem pair_sets : Rows.PairSetsSaid := sets_over

end Go.Proofs.Ytlgeggekmdoceaa
