/- Texts Tg, Tp in one file; each begins with a word on what it proves. -/
import Derived.Test.YtlgeggekmdoceaaKk

/- PairShows: the walk. -/
namespace Go.Proofs.Ytlgeggekmdoceaa
set_option linter.unusedVariables false
set_option linter.unusedSimpArgs false
open Go.RowKit Go.Shelf
attribute [local go_sem] Oper.semAt_some

theorem PairAt.atC {W : World} {p : PairD} {bs rs : Value} (h : PairAt W p bs rs) (z r : Int) : PairAt W (atC p z r) bs rs := ⟨h.b, h.r⟩
theorem mul_300 {r m : Int} (hr : -5 ≤ r ∧ r ≤ 5) (hm : 0 ≤ m ∧ m ≤ 60) : -300 ≤ r * m ∧ r * m ≤ 300 := by
  have h1 : -5 * m ≤ r * m := Int.mul_le_mul_of_nonneg_right hr.1 hm.1
  have h2 : r * m ≤ 5 * m := Int.mul_le_mul_of_nonneg_right hr.2 hm.1
  omega
theorem if_min (a b : Int) : (if b < a then b else a) = min a b := by split <;> omega
theorem if_max (a b : Int) : (if a < b then b else a) = max a b := by split <;> omega
theorem sh_next {c : Int × Int} {zz rr : Int} (h : c.1 < zz ∨ c.1 = zz ∧ c.2 < rr + 1) : (c.1 < zz ∨ c.1 = zz ∧ c.2 < rr) ∨ c = (zz, rr) := by
  by_cases e : c.1 = zz ∧ c.2 = rr
  · exact .inr (Prod.ext e.1 e.2)
  · exact .inl (by omega)
set_option maxRecDepth 100000 in
set_option maxHeartbeats 8000000 in
theorem showsl_any (p : PairD) (bs rs : Value) (x : Int) (hx : 0 ≤ x ∧ x < 256) (w : World) (hpa : PairAt w p bs rs) :
    Calls Try.prog 8 #[.agg (pairRow p bs rs), .int .u8 x] w fun e w' => e = .returned (.bool true) ∧ Below w.heap.size w w' := by
  obtain ⟨ao, cap, hbse, _⟩ := id hpa.b
  subst hbse
  obtain ⟨ao2, cap2, hrse, _⟩ := id hpa.r
  subst hrse
  obtain ⟨W0, hW0⟩ : ∃ W0, W0 = w.alloc (.cells (pairRow p (.slice ao p.bs.length cap) (.slice ao2 p.rs.length cap2)) 27 (0, 0)) := ⟨_, rfl⟩
  have hb0 : Below w.heap.size w W0 := by rw [hW0]; exact (Below.refl _ _).alloc (Nat.le_refl _) _
  have hr1 : W0.heap[w.heap.size]? = some (pairObj p (.slice ao p.bs.length cap) (.slice ao2 p.rs.length cap2)) := by rw [hW0]; exact heap_alloc_at _ _ _ rfl
  have hsw : W0.heap.size = w.heap.size + 1 := by rw [hW0]; simp
  have HB0 := Lib.hid hb0
  have HR1 := Lib.hid hr1
  have HPA := Lib.hid (hpa.later hb0)
  have rows : ∀ W', Below W0.heap.size W0 W' → (W'.cell? ⟨w.heap.size, 0, none⟩ = some (.slice ao p.bs.length cap) ∧ W'.cell? ⟨w.heap.size, 1, none⟩ = some (.int .i64 p.zl) ∧ W'.cell? ⟨w.heap.size, 2, none⟩ = some (.int .i64 p.zh) ∧
        W'.cell? ⟨w.heap.size, 3, none⟩ = some (.int .i64 p.rl) ∧ W'.cell? ⟨w.heap.size, 4, none⟩ = some (.int .i64 p.rh) ∧ W'.cell? ⟨w.heap.size, 5, none⟩ = some (.slice ao2 p.rs.length cap2)) := fun W' hb => by
    have q1 := (hb.block w.heap.size (by omega)).trans hr1
    unfold pairObj pairRow at q1
    refine ⟨?_, ?_, ?_, ?_, ?_, ?_⟩ <;> (rw [cell_of_row _ _ _ _ _ _ q1]; rfl)
  have ROWS := Lib.hid rows
  have HLG := Lib.hid (long_any p p.bs.length cap p.rs.length cap2 ao ao2 W0)
  have HRP : Hid (∀ W, PairAt W p (.slice ao p.bs.length cap) (.slice ao2 p.rs.length cap2) → Calls Try.prog 39 #[.agg (pairRow p (.slice ao p.bs.length cap) (.slice ao2 p.rs.length cap2))] W fun e w' => e = .returned (.bool (validB p)) ∧ Below W.heap.size W w') := fun W h => rpair_any h
  have HB := Lib.hid (BoxL.nil W0)
  rw [show decide (40 < max p.bs.length p.rs.length) = farP p from rfl] at HLG
  clear rows hb0 hr1 hpa
  cases hfar : farP p with
  | true =>
    rw [hfar] at HLG
    clear hfar
    unfold pairRow at hW0 HLG HRP ⊢
    go_enter Try.func8, Try.ntmps8
    obtain ⟨c0, c1, c2, c3, c4, c5⟩ := ROWS.out _ HB.out.2
    go_wp2_with fail
    rw [← hW0]
    clear hW0 c0 c1 c2 c3 c4 c5
    refine HLG.out.mono ?_
    rintro e w1 ⟨rfl, hb⟩
    replace HB := Lib.hid (HB.out.later hb)
    clear hb
    go_wp2_with fail
    refine (alive_any _).mono ?_
    rintro e wz ⟨rfl, hb⟩
    replace HB := Lib.hid (HB.out.later hb)
    clear hb
    go_wp2
    go_ret
    exact ⟨rfl, HB0.out.trans (HB.out.2.mono (by omega))⟩
  | false =>
  rw [hfar] at HLG
  clear hfar
  cases hv : validB p with
  | false =>
    rw [hv] at HRP
    clear hv
    unfold pairRow at hW0 HLG HRP ⊢
    go_enter Try.func8, Try.ntmps8
    obtain ⟨c0, c1, c2, c3, c4, c5⟩ := ROWS.out _ HB.out.2
    go_wp2_with fail
    rw [← hW0]
    clear hW0 c0 c1 c2 c3 c4 c5
    refine HLG.out.mono ?_
    rintro e w1 ⟨rfl, hb⟩
    replace HB := Lib.hid (HB.out.later hb)
    clear hb
    obtain ⟨c0, c1, c2, c3, c4, c5⟩ := ROWS.out _ HB.out.2
    go_wp2_with fail
    clear c0 c1 c2 c3 c4 c5
    refine (HRP.out _ (HPA.out.later HB.out.2)).mono ?_
    rintro e w2 ⟨rfl, hb⟩
    replace HB := Lib.hid (HB.out.later hb)
    clear hb
    go_wp2_with fail
    refine (alive_any _).mono ?_
    rintro e wz ⟨rfl, hb⟩
    replace HB := Lib.hid (HB.out.later hb)
    clear hb
    go_wp2
    go_ret
    exact ⟨rfl, HB0.out.trans (HB.out.2.mono (by omega))⟩
  | true =>
  rw [hv] at HRP
  obtain ⟨m, hm⟩ : ∃ m, m = x % 61 := ⟨_, rfl⟩
  have hm0 : 0 ≤ m := by omega
  have hm60 : m ≤ 60 := by omega
  have hp := OkP.of p hv
  obtain ⟨kz1, kz2, kz3⟩ := hp.zz
  obtain ⟨kr1, kr2, kr3⟩ := hp.rr
  obtain ⟨lo, hi, le, mo, er, hS, hF, hend⟩ : ∃ lo hi le mo er : Int, Gives p (.slice ao p.bs.length cap) (.slice ao2 p.rs.length cap2) 19 [.int .i64 m] (.tuple #[.agg #[.int .i64 lo, .int .i64 hi], .int .i64 er]) ∧
      Gives p (.slice ao p.bs.length cap) (.slice ao2 p.rs.length cap2) 19 [.int .i64 0] (.tuple #[.agg #[.int .i64 le, .int .i64 mo], .int .i64 er]) ∧
      ((truA p = [] ∧ lo = 0 ∧ hi = 0 ∧ le = 0 ∧ mo = 0 ∧ er = 10) ∨ (truA p ≠ [] ∧ hullS p m = (lo, hi) ∧ hullS p 0 = (le, mo) ∧ er = 0)) := by
    by_cases hn : truA p = []
    · exact ⟨0, 0, 0, 0, 10, gives_shows_no hv hn m ⟨hm0, hm60⟩, gives_shows_no hv hn 0 (by omega), .inl ⟨hn, rfl, rfl, rfl, rfl, rfl⟩⟩
    · exact ⟨_, _, _, _, 0, gives_shows_yes hv hn m ⟨hm0, hm60⟩, gives_shows_yes hv hn 0 (by omega), .inr ⟨hn, rfl, rfl, rfl⟩⟩
  have hX : ∀ z r : Int, p.zl ≤ z ∧ z ≤ p.zh → p.rl ≤ r ∧ r ≤ p.rh → ∃ a er : Int, (∀ W, PairAt W (atC p z r) (.slice ao p.bs.length cap) (.slice ao2 p.rs.length cap2) → Calls Try.prog 19 #[.agg #[.slice ao p.bs.length cap, .int .i64 z, .int .i64 z, .int .i64 r, .int .i64 r, .slice ao2 p.rs.length cap2], .int .i64 m] W fun e w' => e = .returned (.tuple #[.agg #[.int .i64 a, .int .i64 a], .int .i64 er]) ∧ Below W.heap.size W w') ∧
      ((a = 0 ∧ er = 10 ∧ ∀ (D : Int × Int → Prop) (s : Bool) (lo hi le mo : Int), ShI p m D s lo hi le mo → ShI p m (fun c => D c ∨ c = (z, r)) s lo hi le mo) ∨
        (a = showsC z r m ∧ er = 0 ∧ ∀ (D : Int × Int → Prop) (s : Bool) (lo hi le mo : Int), ShI p m D s lo hi le mo → (s = false → showsC z r m ≤ lo ∧ hi ≤ showsC z r m ∧ z ≤ le ∧ mo ≤ z) →
          ShI p m (fun c => D c ∨ c = (z, r)) true (if showsC z r m < lo then showsC z r m else lo) (if hi < showsC z r m then showsC z r m else hi) (if z < le then z else le) (if mo < z then z else mo))) := fun z r hz hr => by
    have h1 := showsV_atC hv hz hr m ⟨hm0, hm60⟩
    by_cases hn : truA (atC p z r) = []
    · rw [if_pos hn] at h1
      refine ⟨0, 10, fun W h => ?_, .inl ⟨rfl, rfl, fun D s lo hi le mo h => h.skip hv hz hr hn⟩⟩
      have := showsV_any h m; rw [h1] at this; exact this
    · rw [if_neg hn] at h1
      refine ⟨showsC z r m, 0, fun W h => ?_, .inr ⟨rfl, rfl, fun D s lo hi le mo h h0 => by rw [if_min, if_min, if_max, if_max]; exact h.take hv hz hr hn h0⟩⟩
      have := showsV_any h m; rw [h1] at this; exact this
  have HST := Lib.hid (fun D => ShI.start p m D)
  have HC : ∀ t ∈ truA p, p.zl ≤ t.2.1 ∧ t.2.1 ≤ p.zh ∧ p.rl ≤ t.2.2 ∧ t.2.2 ≤ p.rh := fun t ht => (mem_comps _ _ _ _ _).1 ((mem_truA hp t).1 ht).1
  have HC := Lib.hid HC
  have HL := Lib.hid hS
  have HE := Lib.hid hF
  have HX := Lib.hid hX
  have hend2 : ∀ (sb : Bool) (lo' hi' le' mo' zz : Int), p.zh < zz → ShI p m (fun c => c.1 < zz) sb lo' hi' le' mo' → (sb = false → lo = 0 ∧ hi = 0 ∧ le = 0 ∧ mo = 0 ∧ er = 10) ∧ (sb = true → lo' = lo ∧ hi' = hi ∧ le' = le ∧ mo' = mo ∧ er = 0) := by
    intro sb lo' hi' le' mo' zz hzz h
    have h2 := h.ends (fun t ht => by have := HC.out t ht; omega)
    refine ⟨fun hs => ?_, fun hs => ?_⟩
    · have hn := h2.1 hs
      rcases hend with ⟨_, h3⟩ | ⟨hne, _⟩
      · exact h3
      · exact absurd hn hne
    · obtain ⟨hne, e1, e2⟩ := h2.2 hs
      rcases hend with ⟨hn, _⟩ | ⟨_, f1, f2, f3⟩
      · exact absurd hn hne
      · rw [e1, Prod.mk.injEq] at f1
        rw [e2, Prod.mk.injEq] at f2
        exact ⟨f1.1, f1.2, f2.1, f2.2, f3⟩
  have HEND := Lib.hid hend2
  clear hS hF hX hend hend2 hv hp
  unfold Gives at HL HE
  unfold pairRow at hW0 HLG HRP ⊢
  go_enter Try.func8, Try.ntmps8
  obtain ⟨c0, c1, c2, c3, c4, c5⟩ := ROWS.out _ HB.out.2
  go_wp2_with fail
  rw [← hW0]
  clear hW0 c0 c1 c2 c3 c4 c5
  refine HLG.out.mono ?_
  rintro e w1 ⟨rfl, hb⟩
  replace HB := Lib.hid (HB.out.later hb)
  clear hb
  obtain ⟨c0, c1, c2, c3, c4, c5⟩ := ROWS.out _ HB.out.2
  go_wp2_with fail
  clear c0 c1 c2 c3 c4 c5
  refine (HRP.out _ (HPA.out.later HB.out.2)).mono ?_
  rintro e w2 ⟨rfl, hb⟩
  replace HB := Lib.hid (HB.out.later hb)
  clear hb
  obtain ⟨c0, c1, c2, c3, c4, c5⟩ := ROWS.out _ HB.out.2
  go_wp2_with fail
  clear c0 c1 c2 c3 c4 c5
  rw [← hm]
  refine (HL.out _ (HPA.out.later HB.out.2)).mono ?_
  rintro e w3 ⟨rfl, hb⟩
  replace HB := Lib.hid (HB.out.later hb)
  clear hb
  replace HB := Lib.hid (HB.out.alloc (lo) (hi))
  obtain ⟨c0, c1, c2, c3, c4, c5⟩ := ROWS.out _ HB.out.2
  go_wp2_with fail
  clear c0 c1 c2 c3 c4 c5
  obtain ⟨A1, hA⟩ : ∃ A, A = w3.alloc (.cells #[.int .i64 (lo), .int .i64 (hi)] 24) := ⟨_, rfl⟩
  rw [← hA] at HB ⊢
  clear hA
  refine (HE.out _ (HPA.out.later HB.out.2)).mono ?_
  rintro e w4 ⟨rfl, hb⟩
  replace HB := Lib.hid (HB.out.later hb)
  clear hb
  replace HB := Lib.hid (HB.out.alloc le mo)
  obtain ⟨c0, c1, c2, c3, c4, c5⟩ := ROWS.out _ HB.out.2
  go_wp2_with fail
  clear c0 c1 c2 c3 c4 c5
  obtain ⟨A2, hA⟩ : ∃ A, A = w4.alloc (.cells #[.int .i64 le, .int .i64 mo] 24) := ⟨_, rfl⟩
  rw [← hA] at HB ⊢
  clear hA
  go_loopw [10, 11, 12, 13, 14, 15] (fun a b c d s z wr => ∃ (lo' hi' le' mo' zz : Int) (sb : Bool), a = .int .i64 lo' ∧ b = .int .i64 hi' ∧ c = .int .i64 le' ∧ d = .int .i64 mo' ∧ s = .bool sb ∧ z = .int .i64 zz ∧ (p.zl ≤ zz ∧ zz ≤ p.zh + 1) ∧ (sb = false → lo' = 99 ∧ hi' = -99 ∧ le' = 99 ∧ mo' = -99) ∧ ShI p m (fun c => c.1 < zz) sb lo' hi' le' mo' ∧ BoxL [(w4.heap.size, le, mo), (w3.heap.size, lo, hi)] W0 wr) (fun _ _ _ _ _ z _ => (p.zh + 1 - intOf z).toNat)
  case atStart => exact ⟨99, -99, 99, -99, p.zl, false, rfl, rfl, rfl, rfl, rfl, rfl, ⟨by omega, by omega⟩, fun _ => ⟨rfl, rfl, rfl, rfl⟩, HST.out _ (fun t ht hd => by have := HC.out t ht; omega), HB.out⟩
  case round =>
    obtain ⟨lo', hi', le', mo', zz, sb, rfl, rfl, rfl, rfl, rfl, rfl, ⟨hz1, hz2⟩, h0, hI, hb⟩ := hrel
    clear HB
    have HB := Lib.hid hb
    have HI := Lib.hid hI
    have H0 := Lib.hid h0
    clear hb hI h0
    obtain ⟨c0, c1, c2, c3, c4, c5⟩ := ROWS.out _ HB.out.2
    by_cases hlz : zz ≤ p.zh
    case neg =>
      have hd : decide (zz ≤ p.zh) = false := by simp; omega
      obtain ⟨hEF, hET⟩ := HEND.out _ _ _ _ _ _ (by omega) HI.out
      cases sb with
      | false =>
        obtain ⟨rfl, rfl, rfl, rfl, rfl⟩ := hEF rfl
        clear hEF hET
        have d0 := (HB.out.cell (b := w3.heap.size) (x := 0) (y := 0) (by simp)).1
        have d1 := (HB.out.cell (b := w3.heap.size) (x := 0) (y := 0) (by simp)).2
        go_wp2_with fail
        refine (alive_any _).mono ?_
        rintro e wz ⟨rfl, hb⟩
        replace HB := Lib.hid (HB.out.later hb)
        clear hb
        go_wp2
        go_ret
        exact ⟨rfl, HB0.out.trans (HB.out.2.mono (by omega))⟩
      | true =>
        obtain ⟨rfl, rfl, rfl, rfl, rfl⟩ := hET rfl
        clear hEF hET
        go_wp2_with fail
        have s0 : BoxL _ W0 wr.drew := HB.out.later (Below.refl _ _).drew
        go_region_held3 (fun w' => (w'.cell? ⟨w3.heap.size, 0, none⟩ = some (.int .i64 lo') ∧ w'.cell? ⟨w3.heap.size, 1, none⟩ = some (.int .i64 hi')) ∧ (w'.cell? ⟨w4.heap.size, 0, none⟩ = some (.int .i64 le') ∧ w'.cell? ⟨w4.heap.size, 1, none⟩ = some (.int .i64 mo')))
          (first | exact ⟨s1.cell (by simp), s1.cell (by simp)⟩ | exact ⟨s0.cell (by simp), s0.cell (by simp)⟩)
          (first | (go_at_call 14; refine (alive_any _).mono ?_; rintro e w30 ⟨rfl, hb30⟩; first | have s1 := s1.later hb30 | have s1 := s0.later hb30) | (go_at_call 33; refine (lspan_any _ _ _).mono ?_; rintro e w31 ⟨rfl, hb31⟩; (first | have s1 := s1.later hb31 | have s1 := s0.later hb31); unfold spanV))
        all_goals
          go_wp2
          go_ret
          exact ⟨rfl, HB0.out.trans (s1.2.mono (by omega))⟩
    have hd : decide (zz ≤ p.zh) = true := by simp; omega
    have hwz : IntKind.i64.wrap (zz + 1) = zz + 1 := IntWalk.i64_in _ (by omega)
    go_wp2_with fail
    clear c0 c1 c2 c3 c4 c5
    obtain ⟨wo, rfl⟩ : ∃ wo, wo = wr := ⟨_, rfl⟩
    go_loopw [10, 11, 12, 13, 14, 16] (fun a b c d s r wr => ∃ (lo' hi' le' mo' rr : Int) (sb : Bool), a = .int .i64 lo' ∧ b = .int .i64 hi' ∧ c = .int .i64 le' ∧ d = .int .i64 mo' ∧ s = .bool sb ∧ r = .int .i64 rr ∧ (p.rl ≤ rr ∧ rr ≤ p.rh + 1) ∧ (sb = false → lo' = 99 ∧ hi' = -99 ∧ le' = 99 ∧ mo' = -99) ∧ ShI p m (fun c => c.1 < zz ∨ c.1 = zz ∧ c.2 < rr) sb lo' hi' le' mo' ∧ BoxL [(w4.heap.size, le, mo), (w3.heap.size, lo, hi)] W0 wr) (fun _ _ _ _ _ r _ => (p.rh + 1 - intOf r).toNat)
    case atStart => exact ⟨_, _, _, _, p.rl, _, rfl, rfl, rfl, rfl, rfl, rfl, ⟨by omega, by omega⟩, H0.out, HI.out.congr (fun t ht hd => by have := HC.out t ht; omega), HB.out⟩
    case round =>
      clear HI H0 HB
      obtain ⟨lo', hi', le', mo', rr, sb, rfl, rfl, rfl, rfl, rfl, rfl, ⟨hr1, hr2⟩, h0, hI, hb⟩ := hrel
      have HB := Lib.hid hb
      have HI := Lib.hid hI
      have H0 := Lib.hid h0
      have hgw := hb.2.size
      clear hb hI h0
      obtain ⟨c0, c1, c2, c3, c4, c5⟩ := ROWS.out _ HB.out.2
      by_cases hlr : rr ≤ p.rh
      case neg =>
        have hd : decide (rr ≤ p.rh) = false := by simp; omega
        go_wp2
        exact ⟨⟨_, _, _, _, zz + 1, _, rfl, rfl, rfl, rfl, rfl, rfl, ⟨by omega, by omega⟩, H0.out, HI.out.congr (fun t ht hd => by have := HC.out t ht; omega), HB.out⟩, by simp [intOf]; omega⟩
      have hd : decide (rr ≤ p.rh) = true := by simp; omega
      have hwr : IntKind.i64.wrap (rr + 1) = rr + 1 := IntWalk.i64_in _ (by omega)
      obtain ⟨a, er2, hg, hcase⟩ := HX.out zz rr ⟨by omega, by omega⟩ ⟨by omega, by omega⟩
      have HG := Lib.hid hg
      have HCS := Lib.hid hcase
      clear hg hcase
      go_wp2_with (first | (refine wpList_storeA rfl 27 _ _ rfl wr.heap.size #[.slice ao p.bs.length cap, .int .i64 p.zl, .int .i64 p.zh, .int .i64 p.rl, .int .i64 p.rh, .slice ao2 p.rs.length cap2] rfl rfl 27 _ (heap_alloc_at _ _ _ rfl) rfl rfl (by simp [Value.oneCell']) ?_; intro wy hyr hyk hys; have HYR := Lib.hid hyr; have HYK := Lib.hid hyk; clear hyr hyk))
      clear c0 c1 c2 c3 c4 c5
      refine (lspan_any zz zz _).mono ?_
      rintro e wy1 ⟨rfl, hy1⟩
      have HY1 := Lib.hid hy1
      clear hy1
      unfold spanV
      go_wp2_with fail
      refine (lspan_any rr rr _).mono ?_
      rintro e wy2 ⟨rfl, hy2⟩
      have hyl := lt_of_block HYR.out
      have hyl1 := Nat.lt_of_lt_of_le hyl HY1.out.size
      have hyl2 := Nat.lt_of_lt_of_le hyl1 hy2.size
      have hrow := (hy2.block _ hyl1).trans ((HY1.out.block _ hyl).trans HYR.out)
      have y1 := cell_of_row _ _ 1 _ _ _ hrow
      have y2 := cell_of_row _ _ 2 _ _ _ hrow
      have y3 := cell_of_row _ _ 3 _ _ _ hrow
      have y4 := cell_of_row _ _ 4 _ _ _ hrow
      have y0 := cell_of_row _ _ 0 _ _ _ hrow
      have y5 := cell_of_row _ _ 5 _ _ _ hrow
      have y6 : ∀ k, wy2.frozen? ⟨wr.heap.size, k, none⟩ = false := fun k => frozen_of_row _ _ _ _ _ hrow
      obtain ⟨W5, hW5⟩ : ∃ W, W = (((wy2.setCell ⟨wr.heap.size, 1, none⟩ (.int .i64 zz)).setCell ⟨wr.heap.size, 2, none⟩ (.int .i64 zz)).setCell ⟨wr.heap.size, 3, none⟩ (.int .i64 rr)).setCell ⟨wr.heap.size, 4, none⟩ (.int .i64 rr) := ⟨_, rfl⟩
      have hb5 : Below wr.heap.size wr W5 := by
        rw [hW5]
        exact ((((((((Below.refl _ _).alloc (Nat.le_refl _) _).trans (HYK.out.below (by simp) (fun k h => by omega))).trans (HY1.out.mono (by omega))).trans (hy2.mono (by omega))).setCell (by simp) _).setCell (by simp) _).setCell (by simp) _).setCell (by simp) _
      have HB5 := Lib.hid hb5
      have HC5 := Lib.hid hW5
      clear hy2 hrow hb5 hW5
      unfold spanV
      go_wp2_with fail
      clear y0 y1 y2 y3 y4 y5 y6
      rw [← HC5.out, ← hm]
      replace HB := Lib.hid (HB.out.later HB5.out)
      refine (HG.out _ ((HPA.out.later HB.out.2).atC zz rr)).mono ?_
      rintro e w6 ⟨rfl, hb6⟩
      replace HB := Lib.hid ((HB.out.later hb6).alloc a a)
      clear hb6
      have hrm := mul_300 (r := rr) (m := m) ⟨by omega, by omega⟩ ⟨hm0, hm60⟩
      obtain ⟨hrm1, hrm2⟩ := hrm
      go_wp2_with fail
      rw [← hm]
      refine (lshows_any zz rr m ⟨by omega, by omega⟩ ⟨by omega, by omega⟩ _).mono ?_
      rintro e w7 ⟨rfl, rfl⟩
      obtain ⟨A3, hA⟩ : ∃ A, A = w6.alloc (.cells #[.int .i64 a, .int .i64 a] 24) := ⟨_, rfl⟩
      rw [← hA] at HB ⊢
      clear hA
      have hN := showsC_99 (z := zz) (r := rr) (m := m) ⟨by omega, by omega⟩ ⟨by omega, by omega⟩ ⟨hm0, hm60⟩
      have HN := Lib.hid hN
      clear hN
      rcases HCS.out with ⟨rfl, rfl, hstep⟩ | ⟨rfl, rfl, hstep⟩
      · have HSTEP := Lib.hid hstep
        clear hstep HCS HG
        go_wp2_with fail
        go_quiet (fail)
        obtain ⟨wv, hwv⟩ : ∃ wv, wv = A3.drewN nq := ⟨_, rfl⟩
        have hbq : Below A3.heap.size A3 wv := by rw [hwv]; exact ⟨rfl, rfl, rfl, Nat.le_refl _, fun _ _ => rfl⟩
        rw [← hwv]
        replace HB := Lib.hid (HB.out.later hbq)
        clear hwv hbq
        go_wp2
        exact ⟨⟨_, _, _, _, rr + 1, sb, rfl, rfl, rfl, rfl, rfl, rfl, ⟨by omega, by omega⟩, H0.out, (HSTEP.out _ _ _ _ _ _ HI.out).congr (fun t ht hd => sh_next hd), HB.out.mono (by simp)⟩, by simp [intOf]; omega⟩
      · have HSTEP := Lib.hid hstep
        clear hstep HCS HG
        generalize showsC zz rr m = N at *
        go_wp2_with fail
        have s0 : BoxL _ W0 A3.drew := HB.out.later (Below.refl _ _).drew
        clear HB
        obtain ⟨z2, z3⟩ := s0.cell (b := w6.heap.size) (x := N) (y := N) (by simp)
        first | (go_region_with (go_at_call 33; refine (lspan_any _ _ _).mono ?_; rintro e w31 ⟨rfl, hb31⟩; have s1 := s0.later hb31; obtain ⟨z0, z1⟩ := s1.cell (b := w6.heap.size) (x := N) (y := N) (by simp); unfold spanV)) | fail
        all_goals
          go_wp2
          exact ⟨⟨_, _, _, _, rr + 1, true, rfl, rfl, rfl, rfl, rfl, rfl, ⟨by omega, by omega⟩, (fun h => by cases h), (HSTEP.out _ _ _ _ _ _ HI.out (fun h => by have h1 := H0.out h; have h2 := HN.out; omega)).congr (fun t ht hd => sh_next hd), s1.mono (by simp)⟩, by simp [intOf]; omega⟩

end Go.Proofs.Ytlgeggekmdoceaa

/- PairShows: whatever the pair and the number: the law returns true. No conditions. -/
namespace Go.Proofs.Ytlgeggekmdoceaa
set_option linter.unusedVariables false
set_option linter.unusedSimpArgs false
open Go.ChangeShapes Go.WideShapes Go.ChangeAt Go.RowKit

set_option maxRecDepth 100000 in
theorem pairShows_lifted (os : Os) (started : os.Started) (H : Type) (enc : TypeId × Value → H) :
    ReturnsInHanded {} Try.checked os 8 .any (Rows.pairShowsSpec.pre6 enc Try.prog Try.f8 Rows.pairShowsRow.domain false) (Rows.pairShowsSpec.post enc Try.prog Try.f8 false true false false) := by
  refine returnsInHanded_of_change (C := Try.checked) own_knob started (by kernel_rfl) Try.func8
    (ChangeSpec.witness6 (enc := enc) (C := Try.checked) false ⟨#[], #[.agg #[.slice none 0 0, .int .i64 0, .int .i64 0, .int .i64 0, .int .i64 0, .slice none 0 0], .int .u8 0], []⟩ 8 (by kernel_rfl) (by kernel_rfl) (by kernel_rfl) (by kernel_rfl)) ?_
  intro W base args ds gs before hval0 hW hcnd _
  have hval : ∀ (j : Nat) t v, Try.f8.params[j]? = some t → args[j]? = some v → Value.okWide Try.prog W .any base t v := hval0
  have hW' := hW
  obtain ⟨p, q, hA0, hV, rfl, hfz, hnd⟩ := hW
  have hA : DataW.TrodAll enc Try.prog W 0 (fun _ => true) true Try.f8.params.toList args.toList ds p := hA0
  rw [Try.params8] at hA hval
  obtain ⟨rfl, rfl⟩ := trodVars_none hV
  clear hA0 hval0
  simp only [List.append_nil] at hW'
  have hst := hA
  obtain ⟨v0, v1, d0, d1, p0, p1, rfl, rfl, rfl, h0, h1⟩ := trodAll_two hA
  obtain ⟨pd, bs, rs, rfl, hpa⟩ := open_pair (hval 0 _ _ rfl rfl) h0
  obtain ⟨x, rfl, _, _, hx⟩ := Go.ChangeShapes.open_int under_u8 (hval 1 _ _ rfl rfl) h1
  refine (showsl_any pd bs rs x (u8_range hx) W hpa).mono fun e W' ⟨he, hb⟩ => ?_
  subst he
  exact ⟨_, rfl, lawEnd hW' rfl hst rfl (by decide +kernel) rfl rfl hb⟩
theorem pairShows_over : Rows.pairShowsRow.holds Try.pinned (OpenSpec.ofChange Rows.pairShowsSpec) :=
  OpenClaim.holds_of_wide 8 Try.f8 rfl rfl rfl rfl rfl rfl rfl ⟨rfl, rfl, rfl, rfl, rfl⟩ rfl rfl rfl rfl rfl (by kernel_rfl) Try.func8 (by kernel_rfl)
    (of_decide_eq_true (by kernel_rfl)) (by unfold Func.isWrapper; first | (rw [if_pos (by decide +kernel)]; kernel_rfl) | (rw [if_neg (by decide +kernel)]; exact ⟨rfl, rfl⟩))
    (fun os started H enc _ => pairShows_lifted os started H enc)
/-- The statement. -/
theorem pair_shows : Rows.PairShowsSaid := pairShows_over

end Go.Proofs.Ytlgeggekmdoceaa
