/- Texts Ti, Tr in one file; each begins with a word on what it proves. -/
import Derived.Test.YtlgeggekmdoceaaKm
import Derived.Test.YtlgeggekmdoceaaKk

/- PairEnds: the walk. -/
namespace Go.Proofs.Ytlgeggekmdoceaa
set_option linter.unusedVariables false
set_option linter.unusedSimpArgs false
open Go.RowKit Go.Shelf
attribute [local go_sem] Oper.semAt_some

theorem if_minE (a b : Int) : (if b < a then b else a) = min a b := by split <;> omega
theorem if_maxE (a b : Int) : (if a < b then b else a) = max a b := by split <;> omega
set_option maxRecDepth 100000 in
set_option maxHeartbeats 8000000 in
theorem endsl_any (p : PairD) (bs rs : Value) (x y : Int) (hx : 0 ≤ x ∧ x < 256) (hy : 0 ≤ y ∧ y < 256) (w : World) (hpa : PairAt w p bs rs) :
    Calls Try.prog 7 #[.agg (pairRow p bs rs), .int .u8 x, .int .u8 y] w fun e w' => e = .returned (.bool true) ∧ Below w.heap.size w w' := by
  obtain ⟨ao, cap, hbse, _⟩ := id hpa.b
  subst hbse
  obtain ⟨ao2, cap2, hrse, _⟩ := id hpa.r
  subst hrse
  obtain ⟨W0, hW0⟩ : ∃ W0, W0 = w.alloc (.cells (pairRow p (.slice ao p.bs.length cap) (.slice ao2 p.rs.length cap2)) 27 (0, 0)) := ⟨_, rfl⟩
  have hb0 : Below w.heap.size w W0 := by rw [hW0]; exact (Below.refl _ _).alloc (Nat.le_refl _) _
  have hr1 : W0.heap[w.heap.size]? = some (pairObj p (.slice ao p.bs.length cap) (.slice ao2 p.rs.length cap2)) := by rw [hW0]; exact heap_alloc_at _ _ _ rfl
  have hsw : W0.heap.size = w.heap.size + 1 := by rw [hW0]; simp
  have HB0 := Lib.hid hb0
  have HR1 := Lib.hid hr1
  have HPA := Lib.hid (hpa.later hb0)
  have rows : ∀ W', Below W0.heap.size W0 W' → (W'.cell? ⟨w.heap.size, 0, none⟩ = some (.slice ao p.bs.length cap) ∧ W'.cell? ⟨w.heap.size, 1, none⟩ = some (.int .i64 p.zl) ∧ W'.cell? ⟨w.heap.size, 2, none⟩ = some (.int .i64 p.zh) ∧
        W'.cell? ⟨w.heap.size, 3, none⟩ = some (.int .i64 p.rl) ∧ W'.cell? ⟨w.heap.size, 4, none⟩ = some (.int .i64 p.rh) ∧ W'.cell? ⟨w.heap.size, 5, none⟩ = some (.slice ao2 p.rs.length cap2)) := fun W' hb => by
    have q1 := (hb.block w.heap.size (by omega)).trans hr1
    unfold pairObj pairRow at q1
    refine ⟨?_, ?_, ?_, ?_, ?_, ?_⟩ <;> (rw [cell_of_row _ _ _ _ _ _ q1]; rfl)
  have ROWS := Lib.hid rows
  have HLG := Lib.hid (long_any p p.bs.length cap p.rs.length cap2 ao ao2 W0)
  have HRP : Hid (∀ W, PairAt W p (.slice ao p.bs.length cap) (.slice ao2 p.rs.length cap2) → Calls Try.prog 39 #[.agg (pairRow p (.slice ao p.bs.length cap) (.slice ao2 p.rs.length cap2))] W fun e w' => e = .returned (.bool (validB p)) ∧ Below W.heap.size W w') := fun W h => rpair_any h
  have HB := Lib.hid (BoxL.nil W0)
  rw [show decide (40 < max p.bs.length p.rs.length) = farP p from rfl] at HLG
  clear rows hb0 hr1 hpa
  cases hfar : farP p with
  | true =>
    rw [hfar] at HLG
    clear hfar
    unfold pairRow at hW0 HLG HRP ⊢
    go_enter Try.func7, Try.ntmps7
    obtain ⟨c0, c1, c2, c3, c4, c5⟩ := ROWS.out _ HB.out.2
    go_wp2_with fail
    rw [← hW0]
    clear hW0 c0 c1 c2 c3 c4 c5
    refine HLG.out.mono ?_
    rintro e w1 ⟨rfl, hb⟩
    replace HB := Lib.hid (HB.out.later hb)
    clear hb
    go_wp2_with fail
    refine (alive_any _).mono ?_
    rintro e wz ⟨rfl, hb⟩
    replace HB := Lib.hid (HB.out.later hb)
    clear hb
    go_wp2
    go_ret
    exact ⟨rfl, HB0.out.trans (HB.out.2.mono (by omega))⟩
  | false =>
  rw [hfar] at HLG
  clear hfar
  cases hv : validB p with
  | false =>
    rw [hv] at HRP
    clear hv
    unfold pairRow at hW0 HLG HRP ⊢
    go_enter Try.func7, Try.ntmps7
    obtain ⟨c0, c1, c2, c3, c4, c5⟩ := ROWS.out _ HB.out.2
    go_wp2_with fail
    rw [← hW0]
    clear hW0 c0 c1 c2 c3 c4 c5
    refine HLG.out.mono ?_
    rintro e w1 ⟨rfl, hb⟩
    replace HB := Lib.hid (HB.out.later hb)
    clear hb
    obtain ⟨c0, c1, c2, c3, c4, c5⟩ := ROWS.out _ HB.out.2
    go_wp2_with fail
    clear c0 c1 c2 c3 c4 c5
    refine (HRP.out _ (HPA.out.later HB.out.2)).mono ?_
    rintro e w2 ⟨rfl, hb⟩
    replace HB := Lib.hid (HB.out.later hb)
    clear hb
    go_wp2_with fail
    refine (alive_any _).mono ?_
    rintro e wz ⟨rfl, hb⟩
    replace HB := Lib.hid (HB.out.later hb)
    clear hb
    go_wp2
    go_ret
    exact ⟨rfl, HB0.out.trans (HB.out.2.mono (by omega))⟩
  | true =>
  rw [hv] at HRP
  have hp := OkP.of p hv
  have hn1 := hp.n1
  have hn5 := hp.n5
  have hz0 : ((p.bs.length : Int) == 0) = false := by rw [beq_eq_false_iff_ne]; omega
  obtain ⟨an, han⟩ : ∃ n : Nat, x % (p.bs.length : Int) = n := ⟨(x % (p.bs.length : Int)).toNat, by have := Int.emod_nonneg x (b := (p.bs.length : Int)) (by omega); omega⟩
  obtain ⟨bn, hbn⟩ : ∃ n : Nat, y % (p.bs.length : Int) = n := ⟨(y % (p.bs.length : Int)).toNat, by have := Int.emod_nonneg y (b := (p.bs.length : Int)) (by omega); omega⟩
  have hal : an < p.bs.length := by have := Int.emod_lt_of_pos x (b := (p.bs.length : Int)) (by omega); omega
  have hbl : bn < p.bs.length := by have := Int.emod_lt_of_pos y (b := (p.bs.length : Int)) (by omega); omega
  by_cases hne : truA p = []
  · have HK := Lib.hid (gives_known_no (bs := .slice ao p.bs.length cap) (rs := .slice ao2 p.rs.length cap2) hv hne an hal)
    have HD := Lib.hid (gives_differ_no (bs := .slice ao p.bs.length cap) (rs := .slice ao2 p.rs.length cap2) hv hne an bn hal hbl)
    have HE := Lib.hid (gives_differ_no (bs := .slice ao p.bs.length cap) (rs := .slice ao2 p.rs.length cap2) hv hne bn an hbl hal)
    have HO := Lib.hid (gives_differ_no (bs := .slice ao p.bs.length cap) (rs := .slice ao2 p.rs.length cap2) hv hne an an hal hal)
    have HC := Lib.hid (gives_clash_yes (bs := .slice ao p.bs.length cap) (rs := .slice ao2 p.rs.length cap2) hv hne)
    unfold Gives at HK HD HE HO HC
    unfold pairRow at HK HD HE HO HC
    clear hv hp hne
    unfold pairRow at hW0 HLG HRP ⊢
    go_enter Try.func7, Try.ntmps7
    obtain ⟨c0, c1, c2, c3, c4, c5⟩ := ROWS.out _ HB.out.2
    go_wp2_with fail
    rw [← hW0]
    clear hW0 c0 c1 c2 c3 c4 c5
    refine HLG.out.mono ?_
    rintro e w1 ⟨rfl, hb⟩
    replace HB := Lib.hid (HB.out.later hb)
    clear hb
    obtain ⟨c0, c1, c2, c3, c4, c5⟩ := ROWS.out _ HB.out.2
    go_wp2_with fail
    clear c0 c1 c2 c3 c4 c5
    refine (HRP.out _ (HPA.out.later HB.out.2)).mono ?_
    rintro e w2 ⟨rfl, hb⟩
    replace HB := Lib.hid (HB.out.later hb)
    clear hb
    obtain ⟨c0, c1, c2, c3, c4, c5⟩ := ROWS.out _ HB.out.2
    go_wp2_with fail
    clear c0 c1 c2 c3 c4 c5
    go_quiet (fail)
    obtain ⟨w2b, hwv⟩ : ∃ wv, wv = w2.drewN nq := ⟨_, rfl⟩
    have hbq : Below w2.heap.size w2 w2b := by rw [hwv]; exact ⟨rfl, rfl, rfl, Nat.le_refl _, fun _ _ => rfl⟩
    rw [← hwv]
    replace HB := Lib.hid (HB.out.later hbq)
    clear hwv hbq
    obtain ⟨c0, c1, c2, c3, c4, c5⟩ := ROWS.out _ HB.out.2
    go_wp2_with fail
    clear c0 c1 c2 c3 c4 c5
    refine (HK.out _ (HPA.out.later HB.out.2)).mono ?_
    rintro e w3 ⟨rfl, hb⟩
    replace HB := Lib.hid (HB.out.later hb)
    clear hb
    replace HB := Lib.hid (HB.out.alloc (0) (0))
    obtain ⟨c0, c1, c2, c3, c4, c5⟩ := ROWS.out _ HB.out.2
    go_wp2_with fail
    clear c0 c1 c2 c3 c4 c5
    obtain ⟨A1, hA⟩ : ∃ A, A = w3.alloc (.cells #[.int .i64 (0), .int .i64 (0)] 24) := ⟨_, rfl⟩
    rw [← hA] at HB ⊢
    clear hA
    refine (HD.out _ (HPA.out.later HB.out.2)).mono ?_
    rintro e w4 ⟨rfl, hb⟩
    replace HB := Lib.hid (HB.out.later hb)
    clear hb
    replace HB := Lib.hid (HB.out.alloc (0) (0))
    obtain ⟨c0, c1, c2, c3, c4, c5⟩ := ROWS.out _ HB.out.2
    go_wp2_with fail
    clear c0 c1 c2 c3 c4 c5
    obtain ⟨A2, hA⟩ : ∃ A, A = w4.alloc (.cells #[.int .i64 (0), .int .i64 (0)] 24) := ⟨_, rfl⟩
    rw [← hA] at HB ⊢
    clear hA
    refine (HE.out _ (HPA.out.later HB.out.2)).mono ?_
    rintro e w5 ⟨rfl, hb⟩
    replace HB := Lib.hid (HB.out.later hb)
    clear hb
    replace HB := Lib.hid (HB.out.alloc (0) (0))
    obtain ⟨c0, c1, c2, c3, c4, c5⟩ := ROWS.out _ HB.out.2
    go_wp2_with fail
    clear c0 c1 c2 c3 c4 c5
    obtain ⟨A3, hA⟩ : ∃ A, A = w5.alloc (.cells #[.int .i64 (0), .int .i64 (0)] 24) := ⟨_, rfl⟩
    rw [← hA] at HB ⊢
    clear hA
    refine (HO.out _ (HPA.out.later HB.out.2)).mono ?_
    rintro e w6 ⟨rfl, hb⟩
    replace HB := Lib.hid (HB.out.later hb)
    clear hb
    replace HB := Lib.hid (HB.out.alloc (0) (0))
    obtain ⟨c0, c1, c2, c3, c4, c5⟩ := ROWS.out _ HB.out.2
    go_wp2_with fail
    clear c0 c1 c2 c3 c4 c5
    obtain ⟨A4, hA⟩ : ∃ A, A = w6.alloc (.cells #[.int .i64 (0), .int .i64 (0)] 24) := ⟨_, rfl⟩
    rw [← hA] at HB ⊢
    clear hA
    refine (HC.out _ (HPA.out.later HB.out.2)).mono ?_
    rintro e w7 ⟨rfl, hb⟩
    replace HB := Lib.hid (HB.out.later hb)
    clear hb
    have d0 := (HB.out.cell (b := w3.heap.size) (x := 0) (y := 0) (by simp)).1
    have d1 := (HB.out.cell (b := w3.heap.size) (x := 0) (y := 0) (by simp)).2
    have d2 := (HB.out.cell (b := w4.heap.size) (x := 0) (y := 0) (by simp)).1
    have d3 := (HB.out.cell (b := w4.heap.size) (x := 0) (y := 0) (by simp)).2
    have d4 := (HB.out.cell (b := w6.heap.size) (x := 0) (y := 0) (by simp)).1
    have d5 := (HB.out.cell (b := w6.heap.size) (x := 0) (y := 0) (by simp)).2
    go_wp2_with fail
    refine (alive_any _).mono ?_
    rintro e wz ⟨rfl, hb⟩
    replace HB := Lib.hid (HB.out.later hb)
    clear hb
    go_wp2
    go_ret
    exact ⟨rfl, HB0.out.trans (HB.out.2.mono (by omega))⟩
  obtain ⟨l1, l2, hl⟩ : ∃ l1 l2, p.bs[an] = (l1, l2) := ⟨_, _, rfl⟩
  obtain ⟨lo, hi, hs⟩ : ∃ lo hi, hullD p an 5 = (lo, hi) := ⟨_, _, rfl⟩
  obtain ⟨lo2, hi2, ht⟩ : ∃ lo2 hi2, hullD p an bn = (lo2, hi2) := ⟨_, _, rfl⟩
  have hbk := hullD_back hne an bn
  have how := hullD_self hne an
  rw [ht] at hbk
  dsimp only at hbk
  have hl20 := hp.bs _ (List.getElem_mem hal)
  rw [hl] at hl20
  dsimp only at hl20
  have hs40 := hullD_40 hp hne an 5
  rw [hs] at hs40
  dsimp only at hs40
  have ht40 := hullD_40 hp hne an bn
  rw [ht] at ht40
  dsimp only at ht40
  obtain ⟨hlA, hlB, hlC⟩ := hl20
  obtain ⟨hsA, hsB, hsC⟩ := hs40
  obtain ⟨htA, htB, htC⟩ := ht40
  have hK := gives_known_yes (bs := .slice ao p.bs.length cap) (rs := .slice ao2 p.rs.length cap2) hv hne an hal
  have hD := gives_differ_yes (bs := .slice ao p.bs.length cap) (rs := .slice ao2 p.rs.length cap2) hv hne an bn hal hbl
  have hE := gives_differ_yes (bs := .slice ao p.bs.length cap) (rs := .slice ao2 p.rs.length cap2) hv hne bn an hbl hal
  have hO := gives_differ_yes (bs := .slice ao p.bs.length cap) (rs := .slice ao2 p.rs.length cap2) hv hne an an hal hal
  rw [hs] at hK
  rw [ht] at hD
  rw [hbk] at hE
  rw [how] at hO
  dsimp only at hK hD hE hO
  have HK := Lib.hid hK
  have HD := Lib.hid hD
  have HE := Lib.hid hE
  have HO := Lib.hid hO
  have HC := Lib.hid (gives_clash_no (bs := .slice ao p.bs.length cap) (rs := .slice ao2 p.rs.length cap2) hv hne)
  have HK2 := Lib.hid (gives_known_range (bs := .slice ao p.bs.length cap) (rs := .slice ao2 p.rs.length cap2) hv (p.bs.length : Int) (by rw [okBl_nat]; simp))
  have HD2 := Lib.hid (gives_differ_range (bs := .slice ao p.bs.length cap) (rs := .slice ao2 p.rs.length cap2) hv (-1) (an : Int) (by unfold okBl inB; simp))
  have HS2 := Lib.hid (gives_shows_range (bs := .slice ao p.bs.length cap) (rs := .slice ao2 p.rs.length cap2) hv 61 (by unfold inB; simp))
  have hX : ∀ kk, l1 ≤ kk → kk ≤ l2 → ∃ k1 k2 er : Int, (∀ W bs', PairAt W (atB p an kk) bs' (.slice ao2 p.rs.length cap2) → Calls Try.prog 15 #[.agg #[bs', .int .i64 p.zl, .int .i64 p.zh, .int .i64 p.rl, .int .i64 p.rh, .slice ao2 p.rs.length cap2], .int .i64 bn] W fun e w' => e = .returned (.tuple #[.agg #[.int .i64 k1, .int .i64 k2], .int .i64 er]) ∧ Below W.heap.size W w') ∧
      ((er = 10 ∧ kk ≠ lo ∧ kk ≠ hi ∧ ∀ lo' hi', EnI p an bn kk lo' hi' → EnI p an bn (kk + 1) lo' hi') ∨ (er = 0 ∧ insB kk lo hi = true ∧ (-40 ≤ k1 ∧ k1 ≤ 40) ∧ (-40 ≤ k2 ∧ k2 ≤ 40) ∧ ∀ lo' hi', EnI p an bn kk lo' hi' → EnI p an bn (kk + 1) (min lo' (kk - k2)) (max hi' (kk - k1)))) := by
    intro kk h1 h2
    have hk : p.bs[an].1 ≤ kk ∧ kk ≤ p.bs[an].2 := by rw [hl]; exact ⟨h1, h2⟩
    have hvb := atB_valid hv hal hk
    have hbb : bn < (atB p an kk).bs.length := by unfold atB; dsimp only; rw [List.length_set]; exact hbl
    by_cases hn : truA (atB p an kk) = []
    · refine ⟨0, 0, 10, fun W bs' h => gives_known_no hvb hn bn hbb W h, .inl ⟨rfl, ?_⟩⟩
      have h3 := ends_no hv hal hk hne hn
      rw [hs] at h3
      exact ⟨h3.1, h3.2, fun lo' hi' h => h.skip hv hal hk hn⟩
    · refine ⟨_, _, 0, fun W bs' h => gives_known_yes hvb hn bn hbb W h, .inr ⟨rfl, ?_⟩⟩
      have h3 := ends_yes hv hal hk hn
      rw [hs] at h3
      have h4 := hullD_40 (OkP.of _ hvb) hn bn 5
      refine ⟨?_, by omega, by omega, fun lo' hi' h => h.take hv hal hk hn⟩
      unfold insB
      rw [decide_eq_true h3.1, decide_eq_true h3.2]; rfl
  have hend : ∀ kk lo' hi', l2 < kk → EnI p an bn kk lo' hi' → lo' = lo2 ∧ hi' = hi2 := by
    intro kk lo' hi' h1 h2
    have h3 := h2.ends hv hne hal (by rw [hl]; exact h1)
    rw [ht, Prod.mk.injEq] at h3
    exact ⟨h3.1.symm, h3.2.symm⟩
  have hst := EnI.start hv hal bn
  rw [hl] at hst
  dsimp only at hst
  have hel : ∃ bb off, ao = some ⟨bb, off, none⟩ ∧ ∀ W', Below W0.heap.size W0 W' → W'.cell? ⟨bb, off + an * 2, none⟩ = some (.int .i64 l1) ∧ W'.cell? ⟨bb, off + an * 2 + 1, none⟩ = some (.int .i64 l2) := by
    obtain ⟨ao', cap', e1, _, _, h4⟩ := HPA.out.b
    obtain ⟨bb, off, e2, _⟩ := h4 an hal
    have e3 : ao = ao' := by injection e1
    refine ⟨bb, off, e3.trans e2, fun W' hb => ?_⟩
    obtain ⟨ao'', cap'', f1, _, _, h5⟩ := (HPA.out.later hb).b
    obtain ⟨bb2, off2, f2, _, _, f3, f4⟩ := h5 an hal
    have f5 : ao = ao'' := by injection f1
    have f6 := (f5.trans f2).symm.trans (e3.trans e2)
    have f7 := Option.some.inj f6
    have fb : bb2 = bb := congrArg Addr.block f7
    have fo : off2 = off := congrArg (fun x : Addr => x.off) f7
    subst fb fo
    rw [hl] at f3 f4
    exact ⟨f3, f4⟩
  obtain ⟨bb, off, rfl, hel⟩ := hel
  have HEL := Lib.hid hel
  have HX := Lib.hid hX
  have HEND := Lib.hid hend
  have HST := Lib.hid hst
  have HATA : Hid (∀ kk W, PairAt W p (.slice (some ⟨bb, off, none⟩) p.bs.length cap) (.slice ao2 p.rs.length cap2) → Calls Try.prog 40 #[.agg (pairRow p (.slice (some ⟨bb, off, none⟩) p.bs.length cap) (.slice ao2 p.rs.length cap2)), .int .i64 an, .int .i64 kk] W fun e w' => (∃ ao3 cap3, e = .returned (.agg (pairRow p (.slice ao3 p.bs.length cap3) (.slice ao2 p.rs.length cap2))) ∧ PairAt w' (atB p an kk) (.slice ao3 p.bs.length cap3) (.slice ao2 p.rs.length cap2)) ∧ Below W.heap.size W w') := fun kk W h => at_any p _ _ an hal hn5 kk W h
  have g1 : IntKind.i64.wrap (-hi2) = -hi2 := IntWalk.i64_in _ (by omega)
  have g2 : IntKind.i64.wrap (-lo2) = -lo2 := IntWalk.i64_in _ (by omega)
  have g3 : decide (hi < lo) = false := by simp; omega
  have g4 : decide (hi2 < lo2) = false := by simp; omega
  clear hK hD hE hO hX hend hst hel hv hp hne hbk how hs ht hl
  unfold Gives at HK HD HE HO HC HK2 HD2 HS2
  unfold pairRow at HK HD HE HO HC HK2 HD2 HS2 HATA
  unfold pairRow at hW0 HLG HRP ⊢
  go_enter Try.func7, Try.ntmps7
  obtain ⟨c0, c1, c2, c3, c4, c5⟩ := ROWS.out _ HB.out.2
  go_wp2_with fail
  rw [← hW0]
  clear hW0 c0 c1 c2 c3 c4 c5
  refine HLG.out.mono ?_
  rintro e w1 ⟨rfl, hb⟩
  replace HB := Lib.hid (HB.out.later hb)
  clear hb
  obtain ⟨c0, c1, c2, c3, c4, c5⟩ := ROWS.out _ HB.out.2
  go_wp2_with fail
  clear c0 c1 c2 c3 c4 c5
  refine (HRP.out _ (HPA.out.later HB.out.2)).mono ?_
  rintro e w2 ⟨rfl, hb⟩
  replace HB := Lib.hid (HB.out.later hb)
  clear hb
  obtain ⟨c0, c1, c2, c3, c4, c5⟩ := ROWS.out _ HB.out.2
  go_wp2_with fail
  clear c0 c1 c2 c3 c4 c5
  go_quiet (fail)
  obtain ⟨w2b, hwv⟩ : ∃ wv, wv = w2.drewN nq := ⟨_, rfl⟩
  have hbq : Below w2.heap.size w2 w2b := by rw [hwv]; exact ⟨rfl, rfl, rfl, Nat.le_refl _, fun _ _ => rfl⟩
  rw [← hwv]
  replace HB := Lib.hid (HB.out.later hbq)
  clear hwv hbq
  obtain ⟨c0, c1, c2, c3, c4, c5⟩ := ROWS.out _ HB.out.2
  go_wp2_with fail
  clear c0 c1 c2 c3 c4 c5
  refine (HK.out _ (HPA.out.later HB.out.2)).mono ?_
  rintro e w3 ⟨rfl, hb⟩
  replace HB := Lib.hid (HB.out.later hb)
  clear hb
  replace HB := Lib.hid (HB.out.alloc (lo) (hi))
  obtain ⟨c0, c1, c2, c3, c4, c5⟩ := ROWS.out _ HB.out.2
  go_wp2_with fail
  clear c0 c1 c2 c3 c4 c5
  obtain ⟨A1, hA⟩ : ∃ A, A = w3.alloc (.cells #[.int .i64 (lo), .int .i64 (hi)] 24) := ⟨_, rfl⟩
  rw [← hA] at HB ⊢
  clear hA
  refine (HD.out _ (HPA.out.later HB.out.2)).mono ?_
  rintro e w4 ⟨rfl, hb⟩
  replace HB := Lib.hid (HB.out.later hb)
  clear hb
  replace HB := Lib.hid (HB.out.alloc (lo2) (hi2))
  obtain ⟨c0, c1, c2, c3, c4, c5⟩ := ROWS.out _ HB.out.2
  go_wp2_with fail
  clear c0 c1 c2 c3 c4 c5
  obtain ⟨A2, hA⟩ : ∃ A, A = w4.alloc (.cells #[.int .i64 (lo2), .int .i64 (hi2)] 24) := ⟨_, rfl⟩
  rw [← hA] at HB ⊢
  clear hA
  refine (HE.out _ (HPA.out.later HB.out.2)).mono ?_
  rintro e w5 ⟨rfl, hb⟩
  replace HB := Lib.hid (HB.out.later hb)
  clear hb
  replace HB := Lib.hid (HB.out.alloc (-hi2) (-lo2))
  obtain ⟨c0, c1, c2, c3, c4, c5⟩ := ROWS.out _ HB.out.2
  go_wp2_with fail
  clear c0 c1 c2 c3 c4 c5
  obtain ⟨A3, hA⟩ : ∃ A, A = w5.alloc (.cells #[.int .i64 (-hi2), .int .i64 (-lo2)] 24) := ⟨_, rfl⟩
  rw [← hA] at HB ⊢
  clear hA
  refine (HO.out _ (HPA.out.later HB.out.2)).mono ?_
  rintro e w6 ⟨rfl, hb⟩
  replace HB := Lib.hid (HB.out.later hb)
  clear hb
  replace HB := Lib.hid (HB.out.alloc (0) (0))
  obtain ⟨c0, c1, c2, c3, c4, c5⟩ := ROWS.out _ HB.out.2
  go_wp2_with fail
  clear c0 c1 c2 c3 c4 c5
  obtain ⟨A4, hA⟩ : ∃ A, A = w6.alloc (.cells #[.int .i64 (0), .int .i64 (0)] 24) := ⟨_, rfl⟩
  rw [← hA] at HB ⊢
  clear hA
  refine (HC.out _ (HPA.out.later HB.out.2)).mono ?_
  rintro e w7 ⟨rfl, hb⟩
  replace HB := Lib.hid (HB.out.later hb)
  clear hb
  go_wp2_with fail
  have s0 : BoxL _ W0 w7.drew := HB.out.later (Below.refl _ _).drew
  clear HB
  go_region_held3 (fun w' => (w'.cell? ⟨w3.heap.size, 0, none⟩ = some (.int .i64 lo) ∧ w'.cell? ⟨w3.heap.size, 1, none⟩ = some (.int .i64 hi)) ∧ (w'.cell? ⟨w4.heap.size, 0, none⟩ = some (.int .i64 lo2) ∧ w'.cell? ⟨w4.heap.size, 1, none⟩ = some (.int .i64 hi2)) ∧ (w'.cell? ⟨w5.heap.size, 0, none⟩ = some (.int .i64 (-hi2)) ∧ w'.cell? ⟨w5.heap.size, 1, none⟩ = some (.int .i64 (-lo2))) ∧ (w'.cell? ⟨w6.heap.size, 0, none⟩ = some (.int .i64 0) ∧ w'.cell? ⟨w6.heap.size, 1, none⟩ = some (.int .i64 0)))
    (first | exact ⟨s1.cell (by simp), s1.cell (by simp), s1.cell (by simp), s1.cell (by simp)⟩ | exact ⟨s0.cell (by simp), s0.cell (by simp), s0.cell (by simp), s0.cell (by simp)⟩)
    (first | (go_at_call 33; refine (lspan_any _ _ _).mono ?_; rintro e w31 ⟨rfl, hb31⟩; (first | have s1 := s1.later hb31 | have s1 := s0.later hb31); unfold spanV))
  have HB := Lib.hid s1
  clear s0 s1
  obtain ⟨c0, c1, c2, c3, c4, c5⟩ := ROWS.out _ HB.out.2
  obtain ⟨q1, q2⟩ := HEL.out _ HB.out.2
  go_wp2_with fail
  clear c0 c1 c2 c3 c4 c5 q1 q2
  go_loopw [20, 21, 22] (fun u v k wr => ∃ a b kk : Int, u = .int .i64 a ∧ v = .int .i64 b ∧ k = .int .i64 kk ∧ (l1 ≤ kk ∧ kk ≤ l2 + 1) ∧ EnI p an bn kk a b ∧ BoxL [(w6.heap.size, 0, 0), (w5.heap.size, -hi2, -lo2), (w4.heap.size, lo2, hi2), (w3.heap.size, lo, hi)] W0 wr) (fun _ _ k _ => (l2 + 1 - intOf k).toNat)
  case atStart => exact ⟨80, -80, l1, rfl, rfl, rfl, ⟨by omega, by omega⟩, HST.out, HB.out⟩
  case round =>
    clear HB
    obtain ⟨a, b, kk, rfl, rfl, rfl, ⟨hk1, hk2⟩, hI, hb⟩ := hrel
    have HB := Lib.hid hb
    have HI := Lib.hid hI
    clear hb hI
    obtain ⟨q1, q2⟩ := HEL.out _ HB.out.2
    by_cases hlk : kk ≤ l2
    case neg =>
      have hd : decide (kk ≤ l2) = false := by simp; omega
      obtain ⟨ha1, hb1⟩ := HEND.out kk a b (by omega) HI.out
      subst ha1 hb1
      obtain ⟨c0, c1, c2, c3, c4, c5⟩ := ROWS.out _ HB.out.2
      go_wp2_with fail
      clear c0 c1 c2 c3 c4 c5
      refine (HK2.out _ (HPA.out.later HB.out.2)).mono ?_
      rintro e w20 ⟨rfl, hb⟩
      replace HB := Lib.hid (HB.out.later hb)
      clear hb
      clear q1 q2
      replace HB := Lib.hid (HB.out.alloc (0) (0))
      obtain ⟨c0, c1, c2, c3, c4, c5⟩ := ROWS.out _ HB.out.2
      go_wp2_with fail
      clear c0 c1 c2 c3 c4 c5
      obtain ⟨A20, hA⟩ : ∃ A, A = w20.alloc (.cells #[.int .i64 (0), .int .i64 (0)] 24) := ⟨_, rfl⟩
      rw [← hA] at HB ⊢
      clear hA
      refine (HD2.out _ (HPA.out.later HB.out.2)).mono ?_
      rintro e w21 ⟨rfl, hb⟩
      replace HB := Lib.hid (HB.out.later hb)
      clear hb
      replace HB := Lib.hid (HB.out.alloc (0) (0))
      obtain ⟨c0, c1, c2, c3, c4, c5⟩ := ROWS.out _ HB.out.2
      go_wp2_with fail
      clear c0 c1 c2 c3 c4 c5
      obtain ⟨A21, hA⟩ : ∃ A, A = w21.alloc (.cells #[.int .i64 (0), .int .i64 (0)] 24) := ⟨_, rfl⟩
      rw [← hA] at HB ⊢
      clear hA
      refine (HS2.out _ (HPA.out.later HB.out.2)).mono ?_
      rintro e w22 ⟨rfl, hb⟩
      replace HB := Lib.hid (HB.out.later hb)
      clear hb
      replace HB := Lib.hid (HB.out.alloc 0 0)
      go_wp2_with fail
      obtain ⟨A22, hA⟩ : ∃ A, A = w22.alloc (.cells #[.int .i64 0, .int .i64 0] 24) := ⟨_, rfl⟩
      rw [← hA] at HB ⊢
      clear hA
      have s0 : BoxL _ W0 A22.drew := HB.out.later (Below.refl _ _).drew
      clear HB
      go_region_held3 (fun w' => w'.cell? ⟨w4.heap.size, 0, none⟩ = some (.int .i64 a) ∧ w'.cell? ⟨w4.heap.size, 1, none⟩ = some (.int .i64 b))
        (first | exact s1.cell (by simp) | exact s0.cell (by simp))
        (first | (go_at_call 14; refine (alive_any _).mono ?_; rintro e w30 ⟨rfl, hb30⟩; have s1 := s1.later hb30) | (go_at_call 33; refine (lspan_any _ _ _).mono ?_; rintro e w31 ⟨rfl, hb31⟩; have s1 := s0.later hb31; unfold spanV))
      go_wp2
      go_ret
      exact ⟨rfl, HB0.out.trans (s1.2.mono (by omega))⟩
    have hd : decide (kk ≤ l2) = true := by simp; omega
    have hwk : IntKind.i64.wrap (kk + 1) = kk + 1 := IntWalk.i64_in _ (by omega)
    obtain ⟨k1, k2, er, hg, hcase⟩ := HX.out kk (by omega) hlk
    have HG := Lib.hid hg
    have HCS := Lib.hid hcase
    clear hg hcase
    obtain ⟨c0, c1, c2, c3, c4, c5⟩ := ROWS.out _ HB.out.2
    go_wp2_with fail
    clear c0 c1 c2 c3 c4 c5 q1 q2
    refine (HATA.out kk _ (HPA.out.later HB.out.2)).mono ?_
    rintro e w10 ⟨⟨ao3, cap3, rfl, hpx⟩, hb⟩
    replace HB := Lib.hid (HB.out.later (hb.trans (((Below.refl _ _).alloc (Nat.le_refl _) (.cells #[.slice ao3 p.bs.length cap3, .int .i64 p.zl, .int .i64 p.zh, .int .i64 p.rl, .int .i64 p.rh, .slice ao2 p.rs.length cap2] 27 (0, 0))).mono hb.size)))
    have HPX := Lib.hid (hpx.later ((Below.refl _ _).alloc (Nat.le_refl _) (.cells #[.slice ao3 p.bs.length cap3, .int .i64 p.zl, .int .i64 p.zh, .int .i64 p.rl, .int .i64 p.rh, .slice ao2 p.rs.length cap2] 27 (0, 0))))
    clear hb hpx
    go_wp2_with fail
    refine (HG.out _ _ HPX.out).mono ?_
    rintro e w11 ⟨rfl, hb⟩
    replace HB := Lib.hid ((HB.out.later hb).alloc k1 k2)
    obtain ⟨t1, t2⟩ := HB.out.cell (b := w3.heap.size) (x := lo) (y := hi) (by simp)
    clear hb HPX HG
    rcases HCS.out with ⟨rfl, hne1, hne2, hstep⟩ | ⟨rfl, hin, ⟨hk11, hk12⟩, ⟨hk21, hk22⟩, hstep⟩
    · have n1 : (kk == lo) = false := by rw [beq_eq_false_iff_ne]; exact hne1
      have n2 : (kk == hi) = false := by rw [beq_eq_false_iff_ne]; exact hne2
      have HSTEP := Lib.hid hstep
      clear hstep HCS hne1 hne2
      go_wp2
      exact ⟨⟨a, b, kk + 1, rfl, rfl, rfl, ⟨by omega, by omega⟩, HSTEP.out _ _ HI.out, HB.out.mono (by simp)⟩, by simp [intOf]; omega⟩
    · have HSTEP := Lib.hid hstep
      have HIN := Lib.hid hin
      clear hstep HCS hin
      go_wp2_with fail
      refine (inside_any kk lo hi _).mono ?_
      rintro e w12 ⟨rfl, hb⟩
      rw [HIN.out]
      replace HB := Lib.hid (HB.out.later hb)
      obtain ⟨t3, t4⟩ := HB.out.cell (b := w11.heap.size) (x := k1) (y := k2) (by simp)
      have hw1 : IntKind.i64.wrap (kk - k2) = kk - k2 := IntWalk.i64_in _ (by omega)
      have hw2 : IntKind.i64.wrap (kk - k1) = kk - k1 := IntWalk.i64_in _ (by omega)
      clear hb t1 t2
      go_wp2_with fail
      go_quiet (fail)
      obtain ⟨wv, hwv⟩ : ∃ wv, wv = w12.drewN nq := ⟨_, rfl⟩
      have hbq : Below w12.heap.size w12 wv := by rw [hwv]; exact ⟨rfl, rfl, rfl, Nat.le_refl _, fun _ _ => rfl⟩
      rw [← hwv]
      replace HB := Lib.hid (HB.out.later hbq)
      clear hwv hbq hw1 hw2 t3 t4
      go_wp2
      exact ⟨⟨_, _, kk + 1, rfl, rfl, rfl, ⟨by omega, by omega⟩, by rw [if_minE, if_maxE]; exact HSTEP.out _ _ HI.out, HB.out.mono (by simp)⟩, by simp [intOf]; omega⟩

end Go.Proofs.Ytlgeggekmdoceaa

/- PairEnds: whatever the pair and the two numbers: the law returns true. No conditions. -/
namespace Go.Proofs.Ytlgeggekmdoceaa
set_option linter.unusedVariables false
set_option linter.unusedSimpArgs false
open Go.ChangeShapes Go.WideShapes Go.ChangeAt Go.RowKit

set_option maxRecDepth 100000 in
theorem pairEnds_lifted (os : Os) (started : os.Started) (H : Type) (enc : TypeId × Value → H) :
    ReturnsInHanded {} Try.checked os 7 .any (Rows.pairEndsSpec.pre6 enc Try.prog Try.f7 Rows.pairEndsRow.domain false) (Rows.pairEndsSpec.post enc Try.prog Try.f7 false true false false) := by
  refine returnsInHanded_of_change (C := Try.checked) own_knob started (by kernel_rfl) Try.func7
    (ChangeSpec.witness6 (enc := enc) (C := Try.checked) false ⟨#[], #[.agg #[.slice none 0 0, .int .i64 0, .int .i64 0, .int .i64 0, .int .i64 0, .slice none 0 0], .int .u8 0, .int .u8 0], []⟩ 8 (by kernel_rfl) (by kernel_rfl) (by kernel_rfl) (by kernel_rfl)) ?_
  intro W base args ds gs before hval0 hW hcnd _
  have hval : ∀ (j : Nat) t v, Try.f7.params[j]? = some t → args[j]? = some v → Value.okWide Try.prog W .any base t v := hval0
  have hW' := hW
  obtain ⟨p, q, hA0, hV, rfl, hfz, hnd⟩ := hW
  have hA : DataW.TrodAll enc Try.prog W 0 (fun _ => true) true Try.f7.params.toList args.toList ds p := hA0
  rw [Try.params7] at hA hval
  obtain ⟨rfl, rfl⟩ := trodVars_none hV
  clear hA0 hval0
  simp only [List.append_nil] at hW'
  have hst := hA
  obtain ⟨v0, v1, v2, d0, d1, d2, p0, p1, p2, rfl, rfl, rfl, h0, h1, h2⟩ := trodAll_three hA
  obtain ⟨pd, bs, rs, rfl, hpa⟩ := open_pair (hval 0 _ _ rfl rfl) h0
  obtain ⟨x, rfl, _, _, hx⟩ := Go.ChangeShapes.open_int under_u8 (hval 1 _ _ rfl rfl) h1
  obtain ⟨y, rfl, _, _, hy⟩ := Go.ChangeShapes.open_int under_u8 (hval 2 _ _ rfl rfl) h2
  refine (endsl_any pd bs rs x y (u8_range hx) (u8_range hy) W hpa).mono fun e W' ⟨he, hb⟩ => ?_
  subst he
  exact ⟨_, rfl, lawEnd hW' rfl hst rfl (by decide +kernel) rfl rfl hb⟩
theorem pairEnds_over : Rows.pairEndsRow.holds Try.pinned (OpenSpec.ofChange Rows.pairEndsSpec) :=
  OpenClaim.holds_of_wide 7 Try.f7 rfl rfl rfl rfl rfl rfl rfl ⟨rfl, rfl, rfl, rfl, rfl⟩ rfl rfl rfl rfl rfl (by kernel_rfl) Try.func7 (by kernel_rfl)
    (of_decide_eq_true (by kernel_rfl)) (by unfold Func.isWrapper; first | (rw [if_pos (by decide +kernel)]; kernel_rfl) | (rw [if_neg (by decide +kernel)]; exact ⟨rfl, rfl⟩))
    (fun os started H enc _ => pairEnds_lifted os started H enc)
/-- The statement. -/
theorem pair_ends : Rows.PairEndsSaid := pairEnds_over

end Go.Proofs.Ytlgeggekmdoceaa
