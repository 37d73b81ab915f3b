/- Texts Tw, Tx in one file; each begins with a word on what it proves. -/
import Derived.Test.YtlgeggekmdoceaaKt
import Derived.Test.YtlgeggekmdoceaaKr
import Derived.Test.YtlgeggekmdoceaaKk

/- PairTrue: the walk. -/
namespace Go.Proofs.Ytlgeggekmdoceaa
set_option linter.unusedVariables false
set_option linter.unusedSimpArgs false
open Go.RowKit Go.Shelf
attribute [local go_sem] Oper.semAt_some

theorem SpansAt.elems {W0 : World} {ao : Option Addr} {cap : Nat} {bs : List (Int × Int)} {Rd : Nat → Prop} (h : SpansAt W0 (.slice ao bs.length cap) bs Rd) (h0 : 0 < bs.length) :
    ∃ bb off, ao = some ⟨bb, off, none⟩ ∧ ∀ W', Below W0.heap.size W0 W' → ∀ i (hi : i < bs.length), W'.cell? ⟨bb, off + i * 2, none⟩ = some (.int .i64 bs[i].1) ∧ W'.cell? ⟨bb, off + i * 2 + 1, none⟩ = some (.int .i64 bs[i].2) := by
  obtain ⟨ao', cap', e1, _, _, h4⟩ := h
  have e3 : ao = ao' := by injection e1
  obtain ⟨bb, off, e2, _, hb, _⟩ := h4 0 h0
  refine ⟨bb, off, e3.trans e2, fun W' hbw i hi => ?_⟩
  obtain ⟨b2, o2, f2, _, hb2, f3, f4⟩ := h4 i hi
  have f7 := Option.some.inj (e2.symm.trans f2)
  have fb : b2 = bb := (congrArg Addr.block f7).symm
  have fo : o2 = off := (congrArg (fun x : Addr => x.off) f7).symm
  subst fb fo
  exact ⟨(World.cell?_of_block (w := W0) (a := ⟨b2, o2 + i * 2, none⟩) (hbw.block _ hb2)).trans f3, (World.cell?_of_block (w := W0) (a := ⟨b2, o2 + i * 2 + 1, none⟩) (hbw.block _ hb2)).trans f4⟩
set_option maxRecDepth 100000 in
set_option maxHeartbeats 8000000 in
theorem truel_any (l : List Int) (v : Value) (w : World) (hus : UsAt w v l (fun k => k < w.heap.size)) :
    Calls Try.prog 6 #[v] w fun e w' => e = .returned (.bool true) ∧ Below w.heap.size w w' := by
  have eg1 := enters_of Try.func88 (by kernel_rfl) rfl
  have HU := Lib.hid hus
  clear hus
  go_enter Try.func6, Try.ntmps6
  go_wp2_with fail
  refine (draws_any l v _ HU.out).mono ?_
  rintro e w1 ⟨rfl, hd1, hb1⟩
  have hs1 : w.heap.size + 2 ≤ w1.heap.size := by have := lt_of_block hd1.at1.choose_spec.2; omega
  have HD1 := Lib.hid hd1
  have HB1 := Lib.hid hb1
  clear hd1 hb1
  go_wp2_with fail
  have hm := made_any l (w.heap.size + 1) w.heap.size (w.heap.size + 2) v w1 hs1 HD1.out
  unfold drawV at hm
  refine hm.mono ?_
  rintro e w2 ⟨u, rfl, pl, zl, zh, rl, rh, zz, rr, rs, bsv, rsv, gD, cD, rfl, hv, htr, ⟨hsp, hrd⟩, ⟨hz1, hz2, hr1, hr2⟩, hints, hds, hk2⟩
  clear hm
  obtain ⟨D, hD⟩ : ∃ D, D = pl.map Prod.snd := ⟨_, rfl⟩
  obtain ⟨p, hp0⟩ : ∃ p, p = madeD pl zl zh rl rh rs := ⟨_, rfl⟩
  have hl : pl.length = p.bs.length := by rw [hp0]; simp [madeD]
  rw [← hD] at htr hints
  rw [← hp0] at hv htr hsp hrd ⊢
  rw [hl] at hints ⊢
  clear hl hD hp0
  obtain ⟨ao, cap, hbse, _⟩ := id hsp
  subst hbse
  obtain ⟨ao2, cap2, hrse, _⟩ := id hrd
  subst hrse
  have hp := OkP.of p hv
  have hne : truA p ≠ [] := List.ne_nil_of_mem htr
  have hn1 := hp.n1
  have hn5 := hp.n5
  have hs2 := hk2.size
  have hDl := true_len hp htr
  have HPA2 : PairAt w2 p (.slice ao p.bs.length cap) (.slice ao2 p.rs.length cap2) := PairAt.of hsp hrd
  obtain ⟨W0, hW0⟩ : ∃ W0, W0 = w2.alloc (.cells (pairRow p (.slice ao p.bs.length cap) (.slice ao2 p.rs.length cap2)) 27 (0, 0)) := ⟨_, rfl⟩
  have hb0 : Below w2.heap.size w2 W0 := by rw [hW0]; exact (Below.refl _ _).alloc (Nat.le_refl _) _
  have hr0 : W0.heap[w2.heap.size]? = some (pairObj p (.slice ao p.bs.length cap) (.slice ao2 p.rs.length cap2)) := by rw [hW0]; exact heap_alloc_at _ _ _ rfl
  have hsw : W0.heap.size = w2.heap.size + 1 := by rw [hW0]; simp
  have HPA := Lib.hid (HPA2.later hb0)
  have rows : ∀ W', Below W0.heap.size W0 W' → (W'.cell? ⟨w2.heap.size, 0, none⟩ = some (.slice ao p.bs.length cap) ∧ W'.cell? ⟨w2.heap.size, 1, none⟩ = some (.int .i64 p.zl) ∧ W'.cell? ⟨w2.heap.size, 2, none⟩ = some (.int .i64 p.zh) ∧
        W'.cell? ⟨w2.heap.size, 3, none⟩ = some (.int .i64 p.rl) ∧ W'.cell? ⟨w2.heap.size, 4, none⟩ = some (.int .i64 p.rh) ∧ W'.cell? ⟨w2.heap.size, 5, none⟩ = some (.slice ao2 p.rs.length cap2)) := fun W' hb => by
    have q1 := (hb.block w2.heap.size (by omega)).trans hr0
    unfold pairObj pairRow at q1
    refine ⟨?_, ?_, ?_, ?_, ?_, ?_⟩ <;> (rw [cell_of_row _ _ _ _ _ _ q1]; rfl)
  have ROWS := Lib.hid rows
  have HR0 := Lib.hid hr0
  have HB0 := Lib.hid hb0
  have HB := Lib.hid (BoxL.nil W0)
  have HSP := Lib.hid hsp
  have HRD := Lib.hid hrd
  have HINTS := Lib.hid hints
  have HDS := Lib.hid hds
  have HK2 := Lib.hid hk2
  have HW := Lib.hid (gives_wrong_none (bs := .slice ao p.bs.length cap) (rs := .slice ao2 p.rs.length cap2) hv hne)
  have HC := Lib.hid (gives_clash_no (bs := .slice ao p.bs.length cap) (rs := .slice ao2 p.rs.length cap2) hv hne)
  have HL := Lib.hid (gives_longest_yes (bs := .slice ao p.bs.length cap) (rs := .slice ao2 p.rs.length cap2) hv hne)
  have HS : Hid (∀ m : Int, 0 ≤ m → m < 61 → ∃ lo hi : Int, insB (showsC zz rr m) lo hi = true ∧ Gives p (.slice ao p.bs.length cap) (.slice ao2 p.rs.length cap2) 19 [.int .i64 m] (.tuple #[.agg #[.int .i64 lo, .int .i64 hi], .int .i64 0])) := fun m h1 h2 =>
    ⟨_, _, true_shows htr m, gives_shows_yes hv hne m ⟨h1, by omega⟩⟩
  have HK : Hid (∀ a (ha : a < p.bs.length), ∃ lo hi : Int, insB (D.getD a 0) lo hi = true ∧ p.bs[a].1 ≤ lo ∧ hi ≤ p.bs[a].2 ∧ Gives p (.slice ao p.bs.length cap) (.slice ao2 p.rs.length cap2) 15 [.int .i64 a] (.tuple #[.agg #[.int .i64 lo, .int .i64 hi], .int .i64 0])) := fun a ha =>
    ⟨_, _, (true_known hp htr a ha).1, (true_known hp htr a ha).2.1, (true_known hp htr a ha).2.2, gives_known_yes hv hne a ha⟩
  have HD : Hid (∀ a b : Nat, a < p.bs.length → b < p.bs.length → ∃ lo hi : Int, insB (D.getD a 0 - D.getD b 0) lo hi = true ∧ Gives p (.slice ao p.bs.length cap) (.slice ao2 p.rs.length cap2) 17 [.int .i64 a, .int .i64 b] (.tuple #[.agg #[.int .i64 lo, .int .i64 hi], .int .i64 0])) := fun a b ha hb =>
    ⟨_, _, true_differ htr a b, gives_differ_yes hv hne a b ha hb⟩
  have HD20 := Lib.hid (true_20 hp htr)
  have han := long_andNot hp hne
  have hsh := set_shift (canF p) p.bs.length
  have hS32 := setN_32 (sureF p) p.bs.length hn5
  have hC32 := setN_32 (canF p) p.bs.length hn5
  have HBS : Hid (∀ a, a < p.bs.length → lonK D a p.bs.length = false → (bits BinOp.and IntKind.i64 (((setN (sureF p) p.bs.length : Nat) : Int) / 2 ^ a) 1 == 1) = false) := fun a ha h => by rw [set_bit_i64 _ _ a hn5 ha]; exact true_sure htr a h
  have HBC : Hid (∀ a, a < p.bs.length → lonK D a p.bs.length = true → (bits BinOp.and IntKind.i64 (((setN (canF p) p.bs.length : Nat) : Int) / 2 ^ a) 1 == 0) = false) := fun a ha h => by rw [set_bit0_i64 _ _ a hn5 ha, true_can htr a h]; rfl
  unfold Gives at HW HC HL HS HK HD
  unfold pairRow at HW HC HL HS HK HD hW0 ⊢
  generalize setN (sureF p) p.bs.length = S at *
  generalize setN (canF p) p.bs.length = C at *
  clear hv hp hne hsp hrd hints hds hk2 hr0 rows HPA2 hb0 htr
  obtain ⟨c0, c1, c2, c3, c4, c5⟩ := ROWS.out _ HB.out.2
  go_wp2_with fail
  rw [← hW0]
  clear hW0 c0 c1 c2 c3 c4 c5
  refine (HW.out _ (HPA.out.later HB.out.2)).mono ?_
  rintro e w3 ⟨rfl, hb⟩
  replace HB := Lib.hid (HB.out.later hb)
  clear hb
  obtain ⟨c0, c1, c2, c3, c4, c5⟩ := ROWS.out _ HB.out.2
  go_wp2_with fail
  clear c0 c1 c2 c3 c4 c5
  refine (HC.out _ (HPA.out.later HB.out.2)).mono ?_
  rintro e w4 ⟨rfl, hb⟩
  replace HB := Lib.hid (HB.out.later hb)
  clear hb
  obtain ⟨c0, c1, c2, c3, c4, c5⟩ := ROWS.out _ HB.out.2
  go_wp2_with fail
  clear c0 c1 c2 c3 c4 c5
  refine (HL.out _ (HPA.out.later HB.out.2)).mono ?_
  rintro e w5 ⟨rfl, hb⟩
  replace HB := Lib.hid (HB.out.later hb)
  clear hb
  obtain ⟨c0, c1, c2, c3, c4, c5⟩ := ROWS.out _ HB.out.2
  go_wp2_with fail
  clear c0 c1 c2 c3 c4 c5
  have hk05 : Keeps (fun k => k = w.heap.size + 1) w2 w5 := (Keeps.of_below HB0.out (fun k h1 h2 => by omega)).trans (Keeps.of_below HB.out.2 (fun k h1 h2 => by omega))
  have hd5 := HDS.out.later ((Keeps.of_below HB0.out (fun k h1 h2 => by omega)).trans (Keeps.of_below HB.out.2 (fun k h1 h2 => by omega)))
  refine (draw_any l _ _ _ 100 v 61 ⟨by omega, by omega⟩ (by omega) _ hd5).mono ?_
  rintro e w6 ⟨m, hm1, hm2, rfl, hd6, hk6⟩
  have hk26 := hk05.trans hk6
  have hs5 := HB.out.2.size
  have hs6 := hk6.size
  have hr6 : w6.heap[w2.heap.size]? = some (pairObj p (.slice ao p.bs.length cap) (.slice ao2 p.rs.length cap2)) := (hk6.block _ (by omega) (by omega)).trans ((HB.out.2.block _ (by omega)).trans HR0.out)
  have hsp6 := HSP.out.later hk26.size (fun k h1 h2 => hk26.block k h1 (by omega))
  have hrd6 := HRD.out.later hk26.size (fun k h1 h2 => hk26.block k h1 (by omega))
  have hin6 := own_thru HINTS.out hk26 (by omega)
  have hw6 : Below w.heap.size w w6 := HB1.out.trans ((HK2.out.trans hk26).below (by omega) (fun k h => by omega))
  have HW6 := Lib.hid hw6
  have HINT : Hid (∀ W', Below w6.heap.size w6 W' → ∀ j, j < p.bs.length → W'.cell? ⟨gD, j, none⟩ = some (.int .i64 (D.getD j 0))) := fun W' hb j hj => ints_cell (own_keepT hin6 hb) hDl j hj
  clear HPA ROWS HB HB0 HR0 HDS hk05 hd5 hk26 hk6 hd6 hin6 HSP HRD HINTS HK2 hw6
  obtain ⟨bb, off, rfl, hel⟩ := SpansAt.elems hsp6 (by omega)
  have HEL := Lib.hid hel
  have HPA : Hid (PairAt w6 p (.slice (some ⟨bb, off, none⟩) p.bs.length cap) (.slice ao2 p.rs.length cap2)) := PairAt.of hsp6 hrd6
  have rows : ∀ W', Below w6.heap.size w6 W' → (W'.cell? ⟨w2.heap.size, 0, none⟩ = some (.slice (some ⟨bb, off, none⟩) p.bs.length cap) ∧ W'.cell? ⟨w2.heap.size, 1, none⟩ = some (.int .i64 p.zl) ∧ W'.cell? ⟨w2.heap.size, 2, none⟩ = some (.int .i64 p.zh) ∧
        W'.cell? ⟨w2.heap.size, 3, none⟩ = some (.int .i64 p.rl) ∧ W'.cell? ⟨w2.heap.size, 4, none⟩ = some (.int .i64 p.rh) ∧ W'.cell? ⟨w2.heap.size, 5, none⟩ = some (.slice ao2 p.rs.length cap2)) := fun W' hb => by
    have q1 := (hb.block w2.heap.size (by omega)).trans hr6
    unfold pairObj pairRow at q1
    refine ⟨?_, ?_, ?_, ?_, ?_, ?_⟩ <;> (rw [cell_of_row _ _ _ _ _ _ q1]; rfl)
  have ROWS := Lib.hid rows
  have HB := Lib.hid (BoxL.nil w6)
  clear rows hel hsp6 hrd6 hr6
  obtain ⟨slo, shi, hin, hg⟩ := HS.out m hm1 hm2
  have HG := Lib.hid hg
  have hrm := mul_300T (r := rr) (m := m) ⟨hr1, hr2⟩ ⟨hm1, by omega⟩
  have HLS := Lib.hid (fun W => lshows_any zz rr m ⟨by omega, by omega⟩ ⟨by omega, by omega⟩ W)
  generalize showsC zz rr m = sh at *
  have HIN := Lib.hid hin
  clear hin hg hrm HS
  obtain ⟨c0, c1, c2, c3, c4, c5⟩ := ROWS.out _ HB.out.2
  go_wp2_with fail
  clear c0 c1 c2 c3 c4 c5
  refine (HG.out _ (HPA.out.later HB.out.2)).mono ?_
  rintro e w7 ⟨rfl, hb⟩
  replace HB := Lib.hid (HB.out.later hb)
  clear hb
  replace HB := Lib.hid (HB.out.alloc slo shi)
  go_wp2_with fail
  obtain ⟨A7, hA⟩ : ∃ A, A = w7.alloc (.cells #[.int .i64 slo, .int .i64 shi] 24) := ⟨_, rfl⟩
  rw [← hA] at HB ⊢
  clear hA
  have s0 : BoxL _ w6 A7.drew := HB.out.later (Below.refl _ _).drew
  clear HB
  go_region_held3 (fun w' => w'.cell? ⟨w7.heap.size, 0, none⟩ = some (.int .i64 slo) ∧ w'.cell? ⟨w7.heap.size, 1, none⟩ = some (.int .i64 shi))
    (first | exact s1.cell (by simp) | exact s0.cell (by simp))
    (first
      | (go_at_call 37; refine (HLS.out _).mono ?_; rintro e w31 ⟨rfl, rfl⟩)
      | (go_at_call 36; refine (inside_any sh slo shi _).mono ?_; rintro e w32 ⟨rfl, hb32⟩; rw [HIN.out]; have s1 := s0.later hb32))
  have HB4 := Lib.hid s1.2
  clear s0 s1 HLS HIN HG han hsh
  go_wp2_with fail
  go_loopw [106] (fun i wr => ∃ k : Nat, k ≤ p.bs.length ∧ i = .int .i64 k ∧ Below w6.heap.size w6 wr) (fun i _ => p.bs.length - (intOf i).toNat)
  case atStart => exact ⟨0, by omega, rfl, HB4.out⟩
  case round =>
    clear HB4
    obtain ⟨a, ha, rfl, hb⟩ := hrel
    have HB := Lib.hid (show BoxL [] w6 wr from ⟨by simp, hb⟩)
    clear hb
    by_cases hla : a < p.bs.length
    case neg =>
      have hd : decide ((a : Int) < (p.bs.length : Int)) = false := by simp; omega
      go_wp2_with fail
      refine (alive_any _).mono ?_
      rintro e wz ⟨rfl, hb⟩
      replace HB := Lib.hid (HB.out.later hb)
      clear hb
      go_wp2
      go_ret
      exact ⟨rfl, HW6.out.trans (HB.out.2.mono (by have := HW6.out.size; omega))⟩
    have hd : decide ((a : Int) < (p.bs.length : Int)) = true := by simp; omega
    have hwa : IntKind.i64.wrap ((a : Int) + 1) = ((a + 1 : Nat) : Int) := by rw [IntWalk.i64_in _ (by omega)]; omega
    obtain ⟨lo, hi, hin, hlo, hhi, hg⟩ := HK.out a hla
    obtain ⟨sl, sh, hsv⟩ : ∃ sl sh, p.bs[a] = (sl, sh) := ⟨_, _, rfl⟩
    rw [hsv] at hlo hhi
    dsimp only at hlo hhi
    have hE : ∀ W', Below w6.heap.size w6 W' → W'.cell? ⟨bb, off + a * 2, none⟩ = some (.int .i64 sl) ∧ W'.cell? ⟨bb, off + a * 2 + 1, none⟩ = some (.int .i64 sh) := fun W' hb => by
      have := HEL.out W' hb a hla
      rw [hsv] at this
      exact this
    obtain ⟨da, hda⟩ : ∃ da, D.getD a 0 = da := ⟨_, rfl⟩
    have hda20 := HD20.out a
    rw [hda] at hin hda20
    obtain ⟨hdaA, hdaB⟩ := hda20
    have hI : ∀ W', Below w6.heap.size w6 W' → W'.cell? ⟨gD, a, none⟩ = some (.int .i64 da) := fun W' hb => by rw [← hda]; exact HINT.out W' hb a hla
    have HDA := Lib.hid hda
    have HIA := Lib.hid hI
    have HG := Lib.hid hg
    have HIN := Lib.hid hin
    clear hda hin hg hsv
    obtain ⟨c0, c1, c2, c3, c4, c5⟩ := ROWS.out _ HB.out.2
    go_wp2_with fail
    clear c0 c1 c2 c3 c4 c5
    refine (HG.out _ (HPA.out.later HB.out.2)).mono ?_
    rintro e w10 ⟨rfl, hb⟩
    replace HB := Lib.hid (HB.out.later hb)
    clear hb
    replace HB := Lib.hid (HB.out.alloc lo hi)
    go_wp2_with fail
    obtain ⟨A10, hA⟩ : ∃ A, A = w10.alloc (.cells #[.int .i64 lo, .int .i64 hi] 24) := ⟨_, rfl⟩
    rw [← hA] at HB ⊢
    clear hA
    have s0 : BoxL _ w6 A10.drew := HB.out.later (Below.refl _ _).drew
    clear HB
    have HX : Hid (∀ W', BoxL [(w10.heap.size, lo, hi)] w6 W' → (W'.cell? ⟨w10.heap.size, 0, none⟩ = some (.int .i64 lo) ∧ W'.cell? ⟨w10.heap.size, 1, none⟩ = some (.int .i64 hi)) ∧ W'.cell? ⟨gD, a, none⟩ = some (.int .i64 da) ∧ W'.cell? ⟨w2.heap.size, 0, none⟩ = some (.slice (some ⟨bb, off, none⟩) p.bs.length cap) ∧
        (W'.cell? ⟨bb, off + a * 2, none⟩ = some (.int .i64 sl) ∧ W'.cell? ⟨bb, off + a * 2 + 1, none⟩ = some (.int .i64 sh))) := fun W' h => ⟨h.cell (by simp), hI W' h.2, (ROWS.out W' h.2).1, hE W' h.2⟩
    have g1 : decide (lo < sl) = false := by simp; omega
    have g2 : decide (sh < hi) = false := by simp; omega
    clear hE hI
    go_region_held3 (fun W' => (W'.cell? ⟨w10.heap.size, 0, none⟩ = some (.int .i64 lo) ∧ W'.cell? ⟨w10.heap.size, 1, none⟩ = some (.int .i64 hi)) ∧ W'.cell? ⟨gD, a, none⟩ = some (.int .i64 da) ∧ W'.cell? ⟨w2.heap.size, 0, none⟩ = some (.slice (some ⟨bb, off, none⟩) p.bs.length cap) ∧
        (W'.cell? ⟨bb, off + a * 2, none⟩ = some (.int .i64 sl) ∧ W'.cell? ⟨bb, off + a * 2 + 1, none⟩ = some (.int .i64 sh)))
      (first | exact HX.out _ s1 | exact HX.out _ s0)
      (first | (go_at_call 36; refine (inside_any da lo hi _).mono ?_; rintro e w11 ⟨rfl, hb11⟩; rw [HIN.out]; have s1 := s0.later hb11))
    have HB5 := Lib.hid s1.2
    clear s0 s1 HX HIN HG g1 g2 hlo hhi
    go_wp2_with fail
    obtain ⟨wo, rfl⟩ : ∃ wo, wo = wr := ⟨_, rfl⟩
    go_loopw [20, 150] (fun s j wq => ∃ k : Nat, k ≤ p.bs.length ∧ j = .int .i64 k ∧ s = .bool (lonK D a k) ∧ Below w6.heap.size w6 wq) (fun _ j _ => p.bs.length - (intOf j).toNat)
    case atStart => exact ⟨0, by omega, rfl, rfl, HB5.out⟩
    case round =>
      clear HB5
      obtain ⟨k, hk, rfl, rfl, hb⟩ := hrel
      have HB := Lib.hid (show BoxL [] w6 wr from ⟨by simp, hb⟩)
      clear hb
      by_cases hlk : k < p.bs.length
      case neg =>
        have hkn : k = p.bs.length := by omega
        have hdk : decide ((k : Int) < (p.bs.length : Int)) = false := by simp; omega
        have hcan := HBC.out a hla
        have hsure := HBS.out a hla
        rw [← hkn] at hcan hsure
        clear hkn
        generalize lonK D a k = lg at *
        cases lg
        · have hz := hsure rfl
          clear hcan hsure
          go_wp2
          exact ⟨⟨a + 1, by omega, by first | rfl | (congr 1; omega), HB.out.2⟩, by simp [intOf]; omega⟩
        · have hz := hcan rfl
          clear hcan hsure
          go_wp2
          exact ⟨⟨a + 1, by omega, by first | rfl | (congr 1; omega), HB.out.2⟩, by simp [intOf]; omega⟩
      have hdk : decide ((k : Int) < (p.bs.length : Int)) = true := by simp; omega
      have hwk : IntKind.i64.wrap ((k : Int) + 1) = ((k + 1 : Nat) : Int) := by rw [IntWalk.i64_in _ (by omega)]; omega
      obtain ⟨lo2, hi2, hin, hg⟩ := HD.out a k hla hlk
      have hln := lonK_next D a k
      obtain ⟨db, hdb⟩ : ∃ db, D.getD k 0 = db := ⟨_, rfl⟩
      have hdb20 := HD20.out k
      have hI : ∀ W', Below w6.heap.size w6 W' → W'.cell? ⟨gD, k, none⟩ = some (.int .i64 db) := fun W' hb => by rw [← hdb]; exact HINT.out W' hb k hlk
      rw [hdb, HDA.out] at hin hln
      rw [hdb] at hdb20
      obtain ⟨hdbA, hdbB⟩ := hdb20
      obtain ⟨bo, hbo⟩ : ∃ bo, decide (db ≤ da) = bo := ⟨_, rfl⟩
      rw [hbo] at hln
      have HIK := Lib.hid hI
      have HLN := Lib.hid hln
      have HIN := Lib.hid hin
      have HG := Lib.hid hg
      have hws : IntKind.i64.wrap (da - db) = da - db := IntWalk.i64_in _ (by omega)
      clear hin hln hdb hg hI
      generalize lonK D a k = sk at *
      have t1 := HIK.out _ HB.out.2
      have t2 := HIA.out _ HB.out.2
      go_wp2_with fail
      cases sk
      all_goals
        go_quiet (fail)
        obtain ⟨wv, hwv⟩ : ∃ wv, wv = wr.drewN nq := ⟨_, rfl⟩
        have hbq : Below wr.heap.size wr wv := by rw [hwv]; exact ⟨rfl, rfl, rfl, Nat.le_refl _, fun _ _ => rfl⟩
        rw [← hwv]
        replace HB := Lib.hid (HB.out.later hbq)
        clear hwv hbq t1 t2
        obtain ⟨c0, c1, c2, c3, c4, c5⟩ := ROWS.out _ HB.out.2
        go_wp2_with fail
        clear c0 c1 c2 c3 c4 c5
        refine (HG.out _ (HPA.out.later HB.out.2)).mono ?_
        rintro e w20 ⟨rfl, hb⟩
        replace HB := Lib.hid (HB.out.later hb)
        clear hb
        replace HB := Lib.hid (HB.out.alloc lo2 hi2)
        go_wp2_with fail
        obtain ⟨A20, hA⟩ : ∃ A, A = w20.alloc (.cells #[.int .i64 lo2, .int .i64 hi2] 24) := ⟨_, rfl⟩
        rw [← hA] at HB ⊢
        clear hA
        have s0 : BoxL _ w6 A20.drew := HB.out.later (Below.refl _ _).drew
        clear HB
        have HX : Hid (∀ W', BoxL [(w20.heap.size, lo2, hi2)] w6 W' → (W'.cell? ⟨w20.heap.size, 0, none⟩ = some (.int .i64 lo2) ∧ W'.cell? ⟨w20.heap.size, 1, none⟩ = some (.int .i64 hi2)) ∧ W'.cell? ⟨gD, a, none⟩ = some (.int .i64 da) ∧ W'.cell? ⟨gD, k, none⟩ = some (.int .i64 db)) := fun W' h => ⟨h.cell (by simp), HIA.out W' h.2, HIK.out W' h.2⟩
        go_region_held3 (fun W' => (W'.cell? ⟨w20.heap.size, 0, none⟩ = some (.int .i64 lo2) ∧ W'.cell? ⟨w20.heap.size, 1, none⟩ = some (.int .i64 hi2)) ∧ W'.cell? ⟨gD, a, none⟩ = some (.int .i64 da) ∧ W'.cell? ⟨gD, k, none⟩ = some (.int .i64 db))
          (first | exact HX.out _ s1 | exact HX.out _ s0)
          (first | (go_at_call 36; refine (inside_any (da - db) lo2 hi2 _).mono ?_; rintro e w21 ⟨rfl, hb21⟩; rw [HIN.out]; have s1 := s0.later hb21))
        clear HX HIN HG hws
        go_wp2
        exact ⟨⟨k + 1, by omega, by first | rfl | (congr 1; omega), by rw [HLN.out]; rfl, s1.2⟩, by simp [intOf]; omega⟩

end Go.Proofs.Ytlgeggekmdoceaa

/- PairTrue: whatever the numbers: the law returns true. No conditions. -/
namespace Go.Proofs.Ytlgeggekmdoceaa
set_option linter.unusedVariables false
set_option linter.unusedSimpArgs false
open Go.ChangeShapes Go.WideShapes Go.ChangeAt Go.RowKit Go.Deep

section
variable {H : Type} {enc : TypeId × Value → H} {w : World} {base : Nat} {spare : Nat → Bool} {held : Bool}
theorem under_u16 : Try.prog.underlying 108 = some (.int .u16) := by kernel_rfl
theorem cells_u16 : Try.prog.cellsOf 108 = 1 := by kernel_rfl
theorem u16_range {n : Int} (h : (Lit.int .u16 n).wf = true) : 0 ≤ n ∧ n < 65536 := by
  have h1 : (decide (IntKind.u16.min ≤ n) && decide (n ≤ IntKind.u16.max)) = true := h
  rw [Bool.and_eq_true, decide_eq_true_eq, decide_eq_true_eq, show IntKind.u16.min = 0 by decide, show IntKind.u16.max = 65535 by decide] at h1
  omega
set_option maxRecDepth 100000 in
theorem open_u16sV {n : Nat} {v : Value} {x : DataW H × List MemPlace} (h : DataW.trod enc Try.prog w base spare held n 47 [v] = some x) : ∃ l, UsAt w v l (fun k => k < w.heap.size) := by
  rcases open_slice Try.underlying47 h with ⟨h1, _⟩ | ⟨a, len, cap, m, k, D, Pl, h1, _, h2, h3, h4, _, h5⟩
  · exact ⟨[], none, 0, by simpa using h1, by simp, by simp, fun i hi => absurd hi (by simp)⟩
  · have hv : v = .slice (some a) len cap := by simpa using h1
    have hlm : len ≤ m := by rw [h4]; split <;> omega
    by_cases h0 : len = 0
    · subst h0
      exact ⟨[], some a, cap, hv, by simp, h3, fun i hi => absurd hi (by simp)⟩
    have hcells : ∀ i, i < len → ∃ s : Int, (0 ≤ s ∧ s < 65536) ∧ w.cell? (a.add i) = some (.int .u16 s) := fun i hi => by
      obtain ⟨cs', hc, ht⟩ := h5 i (by omega)
      rw [cells_u16] at hc
      obtain ⟨s, rfl, _, hwf⟩ := DataW.trod_int under_u16 ht
      obtain ⟨_, _, hat⟩ := World.cells?_some hc
      have a0 := hat 0 (by omega)
      rw [Go.Deep.add_add, Nat.mul_one, Nat.add_zero] at a0
      exact ⟨s, u16_range hwf, a0⟩
    obtain ⟨s0, _, hs0⟩ := hcells 0 (by omega)
    obtain ⟨hae, hab⟩ := addr_of_cell (a := a) (w := w) hs0
    obtain ⟨l, hl, hq⟩ := choose_list (Q := fun i (s : Int) => (0 ≤ s ∧ s < 65536) ∧ w.cell? ⟨a.block, a.off + i, none⟩ = some (.int .u16 s)) len (fun i hi => by
      obtain ⟨s, e0, e1⟩ := hcells i hi
      rw [hae, Addr.add_mid] at e1
      exact ⟨s, e0, e1⟩)
    refine ⟨l, some a, cap, by rw [hv, hl], by omega, h3, fun i hi => ?_⟩
    obtain ⟨e0, e1⟩ := hq i hi
    exact ⟨e0, a.block, a.off, by rw [← hae], hab, hab, e1⟩
end
set_option maxRecDepth 100000 in
theorem pairTrue_lifted (os : Os) (started : os.Started) (H : Type) (enc : TypeId × Value → H) :
    ReturnsInHanded {} Try.checked os 6 .any (Rows.pairTrueSpec.pre6 enc Try.prog Try.f6 Rows.pairTrueRow.domain false) (Rows.pairTrueSpec.post enc Try.prog Try.f6 false true false false) := by
  refine returnsInHanded_of_change (C := Try.checked) own_knob started (by kernel_rfl) Try.func6
    (ChangeSpec.witness6 (enc := enc) (C := Try.checked) false ⟨#[], #[.slice none 0 0], []⟩ 8 (by kernel_rfl) (by kernel_rfl) (by kernel_rfl) (by kernel_rfl)) ?_
  intro W base args ds gs before hval0 hW hcnd _
  have hval : ∀ (j : Nat) t v, Try.f6.params[j]? = some t → args[j]? = some v → Value.okWide Try.prog W .any base t v := hval0
  have hW' := hW
  obtain ⟨p, q, hA0, hV, rfl, hfz, hnd⟩ := hW
  have hA : DataW.TrodAll enc Try.prog W 0 (fun _ => true) true Try.f6.params.toList args.toList ds p := hA0
  rw [Try.params6] at hA hval
  obtain ⟨rfl, rfl⟩ := trodVars_none hV
  clear hA0 hval0
  simp only [List.append_nil] at hW'
  have hst := hA
  obtain ⟨v0, d0, rfl, rfl, h0⟩ := trodAll_one hA
  obtain ⟨fuel, hf⟩ := h0
  obtain ⟨ao, len, cap, rfl⟩ := okWide_slice Try.underlying47 (hval 0 _ _ rfl rfl)
  obtain ⟨l, hus⟩ := open_u16sV (v := .slice ao len cap) hf
  refine (truel_any l _ W hus).mono fun e W' ⟨he, hb⟩ => ?_
  subst he
  exact ⟨_, rfl, lawEnd hW' rfl hst rfl (by decide +kernel) rfl rfl hb⟩
theorem pairTrue_over : Rows.pairTrueRow.holds Try.pinned (OpenSpec.ofChange Rows.pairTrueSpec) :=
  OpenClaim.holds_of_wide 6 Try.f6 rfl rfl rfl rfl rfl rfl rfl ⟨rfl, rfl, rfl, rfl, rfl⟩ rfl rfl rfl rfl rfl (by kernel_rfl) Try.func6 (by kernel_rfl)
    (of_decide_eq_true (by kernel_rfl)) (by unfold Func.isWrapper; first | (rw [if_pos (by decide +kernel)]; kernel_rfl) | (rw [if_neg (by decide +kernel)]; exact ⟨rfl, rfl⟩))
    (fun os started H enc _ => pairTrue_lifted os started H enc)
/-- The statement. -/
theorem pair_true : Rows.PairTrueSaid := pairTrue_over

end Go.Proofs.Ytlgeggekmdoceaa
