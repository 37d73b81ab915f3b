/- Texts Rj, Rk, Rl, Rm, Rn, Ro, Rp, Rq, Rr, Rs, Rt, Ru, Rv in one file; each begins with a word on what it proves. -/
import Derived.Test.YtlgeggekmdoceaaKh

/- The reference: Known. -/
namespace Go.Proofs.Ytlgeggekmdoceaa
set_option linter.unusedVariables false
set_option linter.unusedSimpArgs false
open Go.RowKit Go.Shelf
attribute [local go_sem] Oper.semAt_some

theorem trC_get : ∀ (TL : List TruT) (k j : Nat) (hk : k < TL.length), j < 3 → (TL.flatMap trC)[k * 3 + j]? = (trC TL[k])[j]?
  | [], k, j, hk, _ => by simp at hk
  | t :: TL, 0, j, _, hj => by
    rw [List.flatMap_cons, List.getElem?_append_left (by show 0 * 3 + j < 3; omega)]
    simp
  | t :: TL, k + 1, j, hk, hj => by
    rw [List.flatMap_cons, List.getElem?_append_right (by show 3 ≤ _; omega)]
    have := trC_get TL k j (by simpa using hk) hj
    rw [show (k + 1) * 3 + j - (trC t).length = k * 3 + j by show _ - 3 = _; omega, this]
    rfl
/-- What of a slice of truths is read. -/
theorem truths_cells {w : World} {B : Nat} {vl : Value} {L : List (List Int × (Int × Int))} {TL : List TruT} (h : TruthsAt w B vl L TL) (hne : L ≠ []) :
    ∃ g cap, vl = .slice (some ⟨g, 0, none⟩) L.length cap ∧ g < w.heap.size ∧ ∀ k (hk : k < L.length), ∃ tv, w.cell? ⟨g, k * 3, none⟩ = some tv ∧ w.cell? ⟨g, k * 3 + 1, none⟩ = some (.int .i64 L[k].2.1) ∧ w.cell? ⟨g, k * 3 + 2, none⟩ = some (.int .i64 L[k].2.2) ∧
      ListAt w tv (L[k].1.map (Value.int .i64)) (RdI w) := by
  have hl : TL.length = L.length := by rw [← h.map]; simp
  rcases own_cases h.own with ⟨_, h2⟩ | ⟨g, cap, h1, h2, h3, h4, h5, h6⟩
  · exact absurd (List.length_eq_zero_iff.1 (hl.symm.trans h2)) hne
  · refine ⟨g, cap, by rw [h1, hl], h3, fun k hk => ?_⟩
    have hk' : k < TL.length := by omega
    have e : L[k] = TL[k].2 := by
      have : L[k]? = (TL.map (·.2))[k]? := by rw [h.map]
      simpa [hk, hk'] using this
    have key : ∀ j, j < 3 → w.cell? ⟨g, k * 3 + j, none⟩ = (trC TL[k])[j]? := fun j hj => by
      rw [h6 (k * 3 + j) (by omega), trC_get TL k j hk' hj]
    refine ⟨TL[k].1, key 0 (by omega), ?_, ?_, ?_⟩
    · rw [e]; exact key 1 (by omega)
    · rw [e]; exact key 2 (by omega)
    · rw [e]; exact h.at' _ (List.getElem_mem hk')
theorem toldR_fail {w : World} {B : Nat} {p : PairD} {ok : Bool} {vl : Value} {er : Int} (h : ToldR w B p ok vl er) (hn : er ≠ 0) (S : Int × Int) : toldV p ok S = ((0, 0), er) := by
  unfold toldV
  unfold ToldR checkV at h
  rcases h with ⟨h1, _, h3⟩ | ⟨h1, h2, _, h3⟩ | ⟨_, _, h3, _⟩
  · cases hv : validB p <;> cases hk : ok <;> rw [hv, hk] at h1 h3 <;> simp_all
  · cases hv : validB p <;> cases hk : ok <;> rw [hv, hk] at h1 <;> simp_all
  · exact absurd h3 hn
theorem toldR_ok {w : World} {B : Nat} {p : PairD} {ok : Bool} {vl : Value} {er : Int} (h : ToldR w B p ok vl er) (hn : er = 0) : (∀ S, toldV p ok S = (S, 0)) ∧ validB p = true ∧ ok = true ∧ truA p ≠ [] ∧ ∃ TL, TruthsAt w B vl (truA p) TL := by
  unfold ToldR checkV at h
  rcases h with ⟨h1, _, h3⟩ | ⟨h1, h2, _, h3⟩ | ⟨h1, h2, h3, h4⟩
  · exact absurd (h3.symm.trans hn) h1
  · rw [h3] at hn; exact absurd hn (by decide)
  · have hv : validB p = true := by cases hv : validB p <;> simp_all
    have ho : ok = true := by cases ho : ok <;> simp_all
    refine ⟨fun S => ?_, hv, ho, h2, h4⟩
    unfold toldV
    rw [if_neg (by simp [hv]), if_neg (by simp [ho]), if_neg h2]
set_option maxRecDepth 100000 in
set_option maxHeartbeats 4000000 in
theorem rknown_any (p : PairD) (bs rs : Value) (x : Int) (hlb : p.bs.length ≤ 1000) (hcnt : validB p = true → (truA p).length ≤ 1000000) (w : World) (hpa : PairAt w p bs rs) :
    Calls Try.prog 16 #[.agg (pairRow p bs rs), .int .i64 x] w fun e w' => e = .returned (.tuple #[spanV (knownV p x).1, .int .i64 (knownV p x).2]) ∧ Below w.heap.size w w' := by
  obtain ⟨ao, cap, hbse, _⟩ := id hpa.b
  subst hbse
  obtain ⟨ao2, cap2, hrse, _⟩ := id hpa.r
  subst hrse
  obtain ⟨W0, hW0⟩ : ∃ W0, W0 = (w.alloc (.cells (pairRow p (.slice ao p.bs.length cap) (.slice ao2 p.rs.length cap2)) 27 (0, 0))).alloc (.cells #[.int .i64 0, .int .i64 0] 24) := ⟨_, rfl⟩
  have hb0 : Below w.heap.size w W0 := by rw [hW0]; exact ((Below.refl _ _).alloc (Nat.le_refl _) _).alloc (by simp) _
  have hr1 : W0.heap[w.heap.size]? = some (pairObj p (.slice ao p.bs.length cap) (.slice ao2 p.rs.length cap2)) := by rw [hW0]; exact (hget_old _ _ _ (by simp)).trans (heap_alloc_at _ _ _ rfl)
  have hz0 : W0.heap[w.heap.size + 1]? = some (.cells #[.int .i64 0, .int .i64 0] 24 (0, 0)) := by rw [hW0]; exact heap_alloc_at _ _ _ (by simp)
  have hsw : W0.heap.size = w.heap.size + 2 := by rw [hW0]; simp
  have HB0 := Lib.hid hb0
  have HZ0 := Lib.hid hz0
  have HPA := Lib.hid (hpa.later hb0)
  have HC := Lib.hid hcnt
  have rows : ∀ W', Below W0.heap.size W0 W' → (W'.cell? ⟨w.heap.size, 0, none⟩ = some (.slice ao p.bs.length cap) ∧ W'.cell? ⟨w.heap.size, 1, none⟩ = some (.int .i64 p.zl) ∧ W'.cell? ⟨w.heap.size, 2, none⟩ = some (.int .i64 p.zh) ∧
        W'.cell? ⟨w.heap.size, 3, none⟩ = some (.int .i64 p.rl) ∧ W'.cell? ⟨w.heap.size, 4, none⟩ = some (.int .i64 p.rh) ∧ W'.cell? ⟨w.heap.size, 5, none⟩ = some (.slice ao2 p.rs.length cap2)) := fun W' hb => by
    have q1 := (hb.block w.heap.size (by omega)).trans hr1
    unfold pairObj pairRow at q1
    refine ⟨?_, ?_, ?_, ?_, ?_, ?_⟩ <;> (rw [cell_of_row _ _ _ _ _ _ q1]; rfl)
  have ROWS := Lib.hid rows
  clear rows hb0 hz0 hr1 hpa hcnt
  unfold pairRow at hW0 ⊢
  go_enter Try.func16, Try.ntmps16
  go_wp2_with fail
  rw [← hW0]
  clear hW0
  go_region_held3 (fun W' => W'.cell? ⟨w.heap.size, 0, none⟩ = some (.slice ao p.bs.length cap) ∧ W'.cell? ⟨w.heap.size, 1, none⟩ = some (.int .i64 p.zl) ∧ W'.cell? ⟨w.heap.size, 2, none⟩ = some (.int .i64 p.zh) ∧
        W'.cell? ⟨w.heap.size, 3, none⟩ = some (.int .i64 p.rl) ∧ W'.cell? ⟨w.heap.size, 4, none⟩ = some (.int .i64 p.rh) ∧ W'.cell? ⟨w.heap.size, 5, none⟩ = some (.slice ao2 p.rs.length cap2))
    (first | exact ROWS.out _ hb3 | exact ROWS.out _ hb2 | exact ROWS.out _ (Below.refl _ _).drew)
    (first
      | ((go_at_call 53; refine (rblock_any p p.bs.length cap ao _ hlb x _).mono ?_; rintro e w2 ⟨rfl, hb2'⟩; have hb2 : Below W0.heap.size W0 w2 := (Below.refl _ _).drew.trans hb2'))
      | ((go_at_call 52; refine (rtold_any p _ _ (okBl p x) HC.out w2 (HPA.out.later hb2)).mono ?_; rintro e w3 ⟨⟨vl, er, rfl, ht⟩, hb3'⟩; have hb3 : Below W0.heap.size W0 w3 := hb2.trans (hb3'.mono hb2.size))))
  have hge3 : w.heap.size + 2 ≤ w3.heap.size := by have := hb3.size; omega
  have HB3 := Lib.hid (HB0.out.trans (hb3.mono (by omega)))
  have HZ3 := Lib.hid ((hb3.block (w.heap.size + 1) (by omega)).trans HZ0.out)
  have HT := Lib.hid ht
  clear ht hb3 hb3' hb2 hb2'
  by_cases her : er = 0
  case neg =>
    have hd : (er != 0) = true := by simpa using her
    have HER := Lib.hid her
    clear her
    go_wp2_with (refine wpList_store_row rfl 24 _ _ rfl (w.heap.size + 1) (spanCs (0, 0)) rfl rfl 24 _ HZ3.out (infoSpan _) rfl (spanCs_one _) ?_)
    refine bodyPost_ret (v := .tuple #[.agg (spanCs (0, 0)), .int .i64 er]) (results_row_tmp (fn := Try.f16) (p := 4) (u := 5) rfl _ _ (w.heap.size + 1) 24 (spanCs (0, 0)) (0, 0) _ rfl (setRow_heap _ _ _ _ _ _ HZ3.out) underSpan rfl (infoSpan _)) rfl ⟨?_, below_setRow HB3.out (by omega) _⟩
    rw [show knownV p x = _ from toldR_fail HT.out HER.out _]
    rfl
  have HER := Lib.hid her
  subst her
  obtain ⟨HV, hv, hok, hne, TL, hta⟩ := toldR_ok HT.out rfl
  have hpb := okBl_lt hok
  obtain ⟨n, rfl⟩ : ∃ n : Nat, x = n := ⟨x.toNat, by unfold okBl inB at hok; rw [decide_eq_true_eq] at hok; omega⟩
  rw [Int.toNat_natCast] at hpb
  have hlen : ∀ t ∈ truA p, t.1.length = p.bs.length := fun t ht => ((mem_truthsL p (OkP.of p hv) (allR p) t.1 t.2).1 ht).2.1
  have hcl := HC.out hv
  obtain ⟨g, capt, rfl, hg, hcells⟩ := truths_cells hta hne
  have hpos := List.length_pos_iff.2 hne
  have hn5 := (OkP.of p hv).n5
  have hhull : hullOf (((truA p).map fun t => t.1.getD n 0).map dupI) = hullD p n 5 := by
    unfold hullD
    rw [List.map_map]
    congr 1
    refine List.map_congr_left fun t ht => ?_
    have h5 : t.1.getD 5 0 = 0 := by rw [List.getD_eq_getElem?_getD, List.getElem?_eq_none (by have := hlen t ht; omega)]; rfl
    show dupI (t.1.getD n 0) = _
    rw [h5, Int.sub_zero]
    rfl
  have hhead : ((truA p).map fun t => t.1.getD n 0).head? = some ((truA p)[0].1.getD n 0) := by rw [List.head?_map, List.head?_eq_getElem?, List.getElem?_eq_getElem hpos]; rfl
  have HHU := Lib.hid hhull
  have HHE := Lib.hid hhead
  have HVH := Lib.hid (HV (hullD p n 5))
  have HLEN := Lib.hid hlen
  have HCE := Lib.hid hcells
  clear HV hta hcells hlen hne hhull hhead
  go_wp2_with fail
  go_loopw [8, 9] (fun o i wr => ∃ k : Nat, k ≤ (truA p).length ∧ i = .int .i64 k ∧ wr.ownsRow w3.heap.size 3 1 o k ((((truA p).take k).map fun t => t.1.getD n 0).map (Value.int .i64)) ∧ Below w3.heap.size w3 wr) (fun _ i _ => (truA p).length - (intOf i).toNat)
  case atStart => exact ⟨0, by omega, rfl, World.ownsRow_nil _ _ _ _, Below.refl _ _⟩
  case round =>
    obtain ⟨k, hk, rfl, hown, hb⟩ := hrel
    have HO := Lib.hid hown
    have HB := Lib.hid hb
    have hgew := hb.size
    clear hown hb
    by_cases hlk : k < (truA p).length
    case neg =>
      have hkl : k = (truA p).length := by omega
      have hd : decide ((k : Int) < ((truA p).length : Int)) = false := by simp; omega
      have hxs : IntsAt wr u8 ((truA p).map fun t => t.1.getD n 0) := by
        refine intsAt_own (B := w3.heap.size) (by intro h; rw [List.map_eq_nil_iff] at h; rw [h] at hpos; simp at hpos) ?_
        have := HO.out
        rw [hkl, List.take_length] at this
        simpa using this
      have HXS := Lib.hid hxs
      clear hxs hkl
      go_wp2_with fail
      refine (rhull_any _ _ HHE.out (by rw [List.length_map]; exact hcl) u8 _ (HXS.out.later (Below.refl _ _))).mono ?_
      rintro e w5 ⟨he, hb5⟩
      rw [HHU.out] at he
      subst he
      have HB5 := Lib.hid (HB3.out.trans (((HB.out.trans (hb5.mono hgew))).mono (by omega)))
      have HZ5 := Lib.hid ((((HB.out.trans (hb5.mono hgew))).block (w.heap.size + 1) (by omega)).trans HZ3.out)
      clear hb5
      go_wp2_with (refine wpList_store_row rfl 24 _ _ rfl (w.heap.size + 1) (spanCs (hullD p n 5)) rfl rfl 24 _ HZ5.out (infoSpan _) rfl (spanCs_one _) ?_)
      refine bodyPost_ret (v := .tuple #[.agg (spanCs (hullD p n 5)), .int .i64 0]) (results_row_tmp (fn := Try.f16) (p := 4) (u := 5) rfl _ _ (w.heap.size + 1) 24 (spanCs (hullD p n 5)) (0, 0) _ rfl (setRow_heap _ _ _ _ _ _ HZ5.out) underSpan rfl (infoSpan _)) rfl ⟨?_, below_setRow HB5.out (by omega) _⟩
      rw [show knownV p n = _ from HVH.out]
      rfl
    obtain ⟨tv, e1, _, _, ⟨aot, capx, htv, hl1, hel⟩⟩ := HCE.out k hlk
    have hl2 := HLEN.out _ (List.getElem_mem hlk)
    rw [List.length_map, hl2] at htv
    subst htv
    obtain ⟨bt, off, rfl, _, hbt, e2⟩ := hel n (by rw [List.length_map]; omega)
    have ex : ((truA p)[k].1.map (Value.int .i64))[n]'(by rw [List.length_map]; omega) = .int .i64 ((truA p)[k].1.getD n 0) := by
      rw [List.getElem_map, List.getD_eq_getElem?_getD, List.getElem?_eq_getElem (by omega)]; rfl
    rw [ex] at e2
    have HNX := Lib.hid (show (((truA p).take (k + 1)).map fun t => t.1.getD n 0) = (((truA p).take k).map fun t => t.1.getD n 0) ++ [(truA p)[k].1.getD n 0] by rw [List.take_succ_eq_append_getElem hlk, List.map_append]; rfl)
    generalize (truA p)[k].1.getD n 0 = y at *
    clear ex hel hl2 hl1
    have d1 := (HB.out.cell (p := ⟨g, k * 3, none⟩) hg).trans e1
    have d2 := (HB.out.cell (p := ⟨bt, off + n, none⟩) hbt).trans e2
    clear e1 e2
    have hd : decide ((k : Int) < ((truA p).length : Int)) = true := by simp; omega
    have hd2 : decide ((n : Int) < (p.bs.length : Int)) = true := by simp; omega
    have hwk : IntKind.i64.wrap ((k : Int) + 1) = ((k + 1 : Nat) : Int) := by rw [IntWalk.i64_in _ (by omega)]; omega
    go_wp2_with (at_builtin; refine wpList_append1 rfl _ _ 50 rfl w3.heap.size 3 1 8 (.int .i64 0) underInts infoInt rfl (by decide) _ k _ rfl (HO.out.alloc _) wr.heap.size 1 #[.int .i64 y] 3 (0, 0) rfl (heap_alloc_at _ _ _ rfl) rfl (by simp [Value.oneCell']) (by omega) (by decide) (by simp; omega) ?_; intro v' w1 hown' hgrow' hbel'; have HO1 := Lib.hid hown'; have HB1 := Lib.hid (((HB.out).alloc hgew _).trans hbel'); clear hown' hgrow' hbel')
    go_roundw
    case rel => exact ⟨k + 1, by omega, by go_num, by rw [HNX.out, List.map_append]; exact HO1.out, HB1.out⟩
    case measure => simp [intOf]; omega

end Go.Proofs.Ytlgeggekmdoceaa

/- The reference: Shows. -/
namespace Go.Proofs.Ytlgeggekmdoceaa
set_option linter.unusedVariables false
set_option linter.unusedSimpArgs false
open Go.RowKit Go.Shelf
attribute [local go_sem] Oper.semAt_some

theorem comps_b {p : PairD} (hp : OkP p) (c : Int × Int) (h : c ∈ comps p.zl p.zh p.rl p.rh) : (-1000 ≤ c.1 ∧ c.1 ≤ 1000) ∧ (-1000 ≤ c.2 ∧ c.2 ≤ 1000) := by
  have h1 := hp.zz
  have h2 := hp.rr
  obtain ⟨z, r⟩ := c
  have := comps_mem h
  dsimp only
  omega
set_option maxRecDepth 100000 in
set_option maxHeartbeats 4000000 in
theorem rshows_any (p : PairD) (bs rs : Value) (m : Int) (hlb : p.bs.length ≤ 1000) (hcnt : validB p = true → (truA p).length ≤ 1000000) (w : World) (hpa : PairAt w p bs rs) :
    Calls Try.prog 20 #[.agg (pairRow p bs rs), .int .i64 m] w fun e w' => e = .returned (.tuple #[spanV (showsV p m).1, .int .i64 (showsV p m).2]) ∧ Below w.heap.size w w' := by
  obtain ⟨ao, cap, hbse, _⟩ := id hpa.b
  subst hbse
  obtain ⟨ao2, cap2, hrse, _⟩ := id hpa.r
  subst hrse
  obtain ⟨W0, hW0⟩ : ∃ W0, W0 = (w.alloc (.cells (pairRow p (.slice ao p.bs.length cap) (.slice ao2 p.rs.length cap2)) 27 (0, 0))).alloc (.cells #[.int .i64 0, .int .i64 0] 24) := ⟨_, rfl⟩
  have hb0 : Below w.heap.size w W0 := by rw [hW0]; exact ((Below.refl _ _).alloc (Nat.le_refl _) _).alloc (by simp) _
  have hr1 : W0.heap[w.heap.size]? = some (pairObj p (.slice ao p.bs.length cap) (.slice ao2 p.rs.length cap2)) := by rw [hW0]; exact (hget_old _ _ _ (by simp)).trans (heap_alloc_at _ _ _ rfl)
  have hz0 : W0.heap[w.heap.size + 1]? = some (.cells #[.int .i64 0, .int .i64 0] 24 (0, 0)) := by rw [hW0]; exact heap_alloc_at _ _ _ (by simp)
  have hsw : W0.heap.size = w.heap.size + 2 := by rw [hW0]; simp
  have HB0 := Lib.hid hb0
  have HZ0 := Lib.hid hz0
  have HPA := Lib.hid (hpa.later hb0)
  have HC := Lib.hid hcnt
  have rows : ∀ W', Below W0.heap.size W0 W' → (W'.cell? ⟨w.heap.size, 0, none⟩ = some (.slice ao p.bs.length cap) ∧ W'.cell? ⟨w.heap.size, 1, none⟩ = some (.int .i64 p.zl) ∧ W'.cell? ⟨w.heap.size, 2, none⟩ = some (.int .i64 p.zh) ∧
        W'.cell? ⟨w.heap.size, 3, none⟩ = some (.int .i64 p.rl) ∧ W'.cell? ⟨w.heap.size, 4, none⟩ = some (.int .i64 p.rh) ∧ W'.cell? ⟨w.heap.size, 5, none⟩ = some (.slice ao2 p.rs.length cap2)) := fun W' hb => by
    have q1 := (hb.block w.heap.size (by omega)).trans hr1
    unfold pairObj pairRow at q1
    refine ⟨?_, ?_, ?_, ?_, ?_, ?_⟩ <;> (rw [cell_of_row _ _ _ _ _ _ q1]; rfl)
  have ROWS := Lib.hid rows
  clear rows hb0 hz0 hr1 hpa hcnt
  unfold pairRow at hW0 ⊢
  go_enter Try.func20, Try.ntmps20
  go_wp2_with fail
  rw [← hW0]
  clear hW0
  go_region_held3 (fun W' => W'.cell? ⟨w.heap.size, 0, none⟩ = some (.slice ao p.bs.length cap) ∧ W'.cell? ⟨w.heap.size, 1, none⟩ = some (.int .i64 p.zl) ∧ W'.cell? ⟨w.heap.size, 2, none⟩ = some (.int .i64 p.zh) ∧
        W'.cell? ⟨w.heap.size, 3, none⟩ = some (.int .i64 p.rl) ∧ W'.cell? ⟨w.heap.size, 4, none⟩ = some (.int .i64 p.rh) ∧ W'.cell? ⟨w.heap.size, 5, none⟩ = some (.slice ao2 p.rs.length cap2))
    (first | exact ROWS.out _ hb3 | exact ROWS.out _ hb2 | exact ROWS.out _ (Below.refl _ _).drew)
    (first
      | ((go_at_call 64; refine (rminute_any m _).mono ?_; rintro e w2 ⟨rfl, rfl⟩; have hb2 : Below W0.heap.size W0 W0.drew := (Below.refl _ _).drew))
      | ((go_at_call 52; refine (rtold_any p _ _ (inB m 0 60) HC.out W0.drew (HPA.out.later hb2)).mono ?_; rintro e w3 ⟨⟨vl, er, rfl, ht⟩, hb3'⟩; have hb3 : Below W0.heap.size W0 w3 := hb2.trans (hb3'.mono hb2.size))))
  have hge3 : w.heap.size + 2 ≤ w3.heap.size := by have := hb3.size; omega
  have HB3 := Lib.hid (HB0.out.trans (hb3.mono (by omega)))
  have HZ3 := Lib.hid ((hb3.block (w.heap.size + 1) (by omega)).trans HZ0.out)
  have HT := Lib.hid ht
  clear ht hb3 hb3' hb2
  by_cases her : er = 0
  case neg =>
    have hd : (er != 0) = true := by simpa using her
    have HER := Lib.hid her
    clear her
    go_wp2_with (refine wpList_store_row rfl 24 _ _ rfl (w.heap.size + 1) (spanCs (0, 0)) rfl rfl 24 _ HZ3.out (infoSpan _) rfl (spanCs_one _) ?_)
    refine bodyPost_ret (v := .tuple #[.agg (spanCs (0, 0)), .int .i64 er]) (results_row_tmp (fn := Try.f20) (p := 4) (u := 5) rfl _ _ (w.heap.size + 1) 24 (spanCs (0, 0)) (0, 0) _ rfl (setRow_heap _ _ _ _ _ _ HZ3.out) underSpan rfl (infoSpan _)) rfl ⟨?_, below_setRow HB3.out (by omega) _⟩
    rw [show showsV p m = _ from toldR_fail HT.out HER.out _]
    rfl
  have HER := Lib.hid her
  subst her
  obtain ⟨HV, hv, hok, hne, TL, hta⟩ := toldR_ok HT.out rfl
  have hmb : 0 ≤ m ∧ m ≤ 60 := by unfold inB at hok; rw [decide_eq_true_eq] at hok; exact hok
  have hp := OkP.of p hv
  have hcb : ∀ t ∈ truA p, (-1000 ≤ t.2.1 ∧ t.2.1 ≤ 1000) ∧ (-1000 ≤ t.2.2 ∧ t.2.2 ≤ 1000) := fun t ht => comps_b hp t.2 ((mem_truthsL p hp (allR p) t.1 t.2).1 ht).1
  have hcl := HC.out hv
  obtain ⟨g, capt, rfl, hg, hcells⟩ := truths_cells hta hne
  have hpos := List.length_pos_iff.2 hne
  have hhull : hullOf (((truA p).map fun t => showsC t.2.1 t.2.2 m).map dupI) = hullS p m := by
    unfold hullS
    rw [List.map_map]
    rfl
  have hhead : ((truA p).map fun t => showsC t.2.1 t.2.2 m).head? = some (showsC (truA p)[0].2.1 (truA p)[0].2.2 m) := by rw [List.head?_map, List.head?_eq_getElem?, List.getElem?_eq_getElem hpos]; rfl
  have HHU := Lib.hid hhull
  have HHE := Lib.hid hhead
  have HVH := Lib.hid (HV (hullS p m))
  have HCB := Lib.hid hcb
  have HCE := Lib.hid hcells
  clear HV hta hcells hcb hne hhull hhead
  go_wp2_with fail
  go_loopw [8, 9] (fun o i wr => ∃ k : Nat, k ≤ (truA p).length ∧ i = .int .i64 k ∧ wr.ownsRow w3.heap.size 3 1 o k ((((truA p).take k).map fun t => showsC t.2.1 t.2.2 m).map (Value.int .i64)) ∧ Below w3.heap.size w3 wr) (fun _ i _ => (truA p).length - (intOf i).toNat)
  case atStart => exact ⟨0, by omega, rfl, World.ownsRow_nil _ _ _ _, Below.refl _ _⟩
  case round =>
    obtain ⟨k, hk, rfl, hown, hb⟩ := hrel
    have HO := Lib.hid hown
    have HB := Lib.hid hb
    have hgew := hb.size
    clear hown hb
    by_cases hlk : k < (truA p).length
    case neg =>
      have hkl : k = (truA p).length := by omega
      have hd : decide ((k : Int) < ((truA p).length : Int)) = false := by simp; omega
      have hxs : IntsAt wr u8 ((truA p).map fun t => showsC t.2.1 t.2.2 m) := by
        refine intsAt_own (B := w3.heap.size) (by intro h; rw [List.map_eq_nil_iff] at h; rw [h] at hpos; simp at hpos) ?_
        have := HO.out
        rw [hkl, List.take_length] at this
        simpa using this
      have HXS := Lib.hid hxs
      clear hxs hkl
      go_wp2_with fail
      refine (rhull_any _ _ HHE.out (by rw [List.length_map]; exact hcl) u8 _ (HXS.out.later (Below.refl _ _))).mono ?_
      rintro e w5 ⟨he, hb5⟩
      rw [HHU.out] at he
      subst he
      have HB5 := Lib.hid (HB3.out.trans (((HB.out.trans (hb5.mono hgew))).mono (by omega)))
      have HZ5 := Lib.hid ((((HB.out.trans (hb5.mono hgew))).block (w.heap.size + 1) (by omega)).trans HZ3.out)
      clear hb5
      go_wp2_with (refine wpList_store_row rfl 24 _ _ rfl (w.heap.size + 1) (spanCs (hullS p m)) rfl rfl 24 _ HZ5.out (infoSpan _) rfl (spanCs_one _) ?_)
      refine bodyPost_ret (v := .tuple #[.agg (spanCs (hullS p m)), .int .i64 0]) (results_row_tmp (fn := Try.f20) (p := 4) (u := 5) rfl _ _ (w.heap.size + 1) 24 (spanCs (hullS p m)) (0, 0) _ rfl (setRow_heap _ _ _ _ _ _ HZ5.out) underSpan rfl (infoSpan _)) rfl ⟨?_, below_setRow HB5.out (by omega) _⟩
      rw [show showsV p m = _ from HVH.out]
      rfl
    obtain ⟨tv, e1, e2, e3, hli⟩ := HCE.out k hlk
    obtain ⟨hz, hr⟩ := HCB.out _ (List.getElem_mem hlk)
    have HNX := Lib.hid (show (((truA p).take (k + 1)).map fun t => showsC t.2.1 t.2.2 m) = (((truA p).take k).map fun t => showsC t.2.1 t.2.2 m) ++ [showsC (truA p)[k].2.1 (truA p)[k].2.2 m] by rw [List.take_succ_eq_append_getElem hlk, List.map_append]; rfl)
    have htv : tv.oneCell' = true := by obtain ⟨_, _, h, _⟩ := hli; rw [h]; rfl
    generalize (truA p)[k].2.1 = z at *
    generalize (truA p)[k].2.2 = r at *
    clear hli
    have d1 := (HB.out.cell (p := ⟨g, k * 3, none⟩) hg).trans e1
    have d2 := (HB.out.cell (p := ⟨g, k * 3 + 1, none⟩) hg).trans e2
    have d3 := (HB.out.cell (p := ⟨g, k * 3 + 2, none⟩) hg).trans e3
    clear e1 e2 e3
    have hd : decide ((k : Int) < ((truA p).length : Int)) = true := by simp; omega
    have hwk : IntKind.i64.wrap ((k : Int) + 1) = ((k + 1 : Nat) : Int) := by rw [IntWalk.i64_in _ (by omega)]; omega
    go_wp2_with fail
    refine (equal_any tv htv (z, r) m hz hr hmb _).mono ?_
    rintro e w4 ⟨rfl, hb4⟩
    have HO4 := Lib.hid (own_below HO.out hb4)
    have HB4 := Lib.hid (HB.out.trans (hb4.mono hgew))
    have hge4 : w3.heap.size ≤ w4.heap.size := by have := hb4.size; omega
    clear hb4 d1 d2 d3
    dsimp only
    generalize showsC z r m = y at *
    go_wp2_with (at_builtin; refine wpList_append1 rfl _ _ 50 rfl w3.heap.size 3 1 8 (.int .i64 0) underInts infoInt rfl (by decide) _ k _ rfl (HO4.out.alloc _) w4.heap.size 1 #[.int .i64 y] 3 (0, 0) rfl (heap_alloc_at _ _ _ rfl) rfl (by simp [Value.oneCell']) (by omega) (by decide) (by simp; omega) ?_; intro v' w1 hown' hgrow' hbel'; have HO1 := Lib.hid hown'; have HB1 := Lib.hid (((HB4.out).alloc hge4 _).trans hbel'); clear hown' hgrow' hbel')
    go_roundw
    case rel => exact ⟨k + 1, by omega, by go_num, by rw [HNX.out, List.map_append]; exact HO1.out, HB1.out⟩
    case measure => simp [intOf]; omega

end Go.Proofs.Ytlgeggekmdoceaa

/- The reference: differ. -/
namespace Go.Proofs.Ytlgeggekmdoceaa
set_option linter.unusedVariables false
set_option linter.unusedSimpArgs false
open Go.RowKit Go.Shelf
attribute [local go_sem] Oper.semAt_some

def difT (a b : Nat) (t : List Int × (Int × Int)) : Int := t.1.getD a 0 - t.1.getD b 0
set_option maxRecDepth 100000 in
set_option maxHeartbeats 4000000 in
theorem rdiffer_any (L : List (List Int × (Int × Int))) (hne : L ≠ []) (n : Nat) (hlen : ∀ t ∈ L, t.1.length = n) (hbd : ∀ t ∈ L, ∀ i, -1000 ≤ t.1.getD i 0 ∧ t.1.getD i 0 ≤ 1000) (hcl : L.length ≤ 1000000) (a b : Nat) (ha : a < n) (hb : b < n) (B : Nat) (vl : Value) (TL : List TruT) (w : World) (hta : TruthsAt w B vl L TL) :
    Calls Try.prog 57 #[vl, .int .i64 a, .int .i64 b] w fun e w' => e = .returned (spanV (hullOf ((L.map (difT a b)).map dupI))) ∧ Below w.heap.size w w' := by
  obtain ⟨g, capt, rfl, hg, hcells⟩ := truths_cells hta hne
  have hpos := List.length_pos_iff.2 hne
  obtain ⟨W0, hW0⟩ : ∃ W0, W0 = w.alloc (.cells #[.int .i64 0, .int .i64 0] 24) := ⟨_, rfl⟩
  have hb0 : Below w.heap.size w W0 := by rw [hW0]; exact (Below.refl _ _).alloc (Nat.le_refl _) _
  have hz0 : W0.heap[w.heap.size]? = some (.cells #[.int .i64 0, .int .i64 0] 24 (0, 0)) := by rw [hW0]; exact heap_alloc_at _ _ _ rfl
  have hsw : W0.heap.size = w.heap.size + 1 := by rw [hW0]; simp
  have HB0 := Lib.hid hb0
  have HZ0 := Lib.hid hz0
  have hhead : (L.map (difT a b)).head? = some (difT a b L[0]) := by rw [List.head?_map, List.head?_eq_getElem?, List.getElem?_eq_getElem hpos]; rfl
  have HHE := Lib.hid hhead
  have HLEN := Lib.hid hlen
  have HBD := Lib.hid hbd
  have HCE := Lib.hid hcells
  obtain ⟨S, hS⟩ : ∃ S : Int × Int, S = hullOf ((L.map (difT a b)).map dupI) := ⟨_, rfl⟩
  rw [← hS]
  have HS := Lib.hid hS
  clear hS hb0 hz0 hlen hbd hcells hta hhead hne
  go_enter Try.func57, Try.ntmps57
  go_wp2_with fail
  rw [← hW0]
  clear hW0
  go_loopw [7, 8] (fun o i wr => ∃ k : Nat, k ≤ L.length ∧ i = .int .i64 k ∧ wr.ownsRow W0.heap.size 3 1 o k (((L.take k).map (difT a b)).map (Value.int .i64)) ∧ Below W0.heap.size W0 wr) (fun _ i _ => L.length - (intOf i).toNat)
  case atStart => exact ⟨0, by omega, rfl, World.ownsRow_nil _ _ _ _, Below.refl _ _⟩
  case round =>
    obtain ⟨k, hk, rfl, hown, hb'⟩ := hrel
    have HO := Lib.hid hown
    have HB := Lib.hid hb'
    have hgew := hb'.size
    clear hown hb'
    by_cases hlk : k < L.length
    case neg =>
      have hkl : k = L.length := by omega
      have hd : decide ((k : Int) < (L.length : Int)) = false := by simp; omega
      have hxs : IntsAt wr u7 (L.map (difT a b)) := by
        refine intsAt_own (B := W0.heap.size) (by intro h; rw [List.map_eq_nil_iff] at h; rw [h] at hpos; simp at hpos) ?_
        have := HO.out
        rw [hkl, List.take_length] at this
        simpa using this
      have HXS := Lib.hid hxs
      clear hxs hkl
      go_wp2_with fail
      refine (rhull_any _ _ HHE.out (by rw [List.length_map]; exact hcl) u7 _ (HXS.out.later (Below.refl _ _))).mono ?_
      rintro e w5 ⟨he, hb5⟩
      rw [← HS.out] at he
      subst he
      have HB5 := Lib.hid (HB0.out.trans (((HB.out.trans (hb5.mono hgew))).mono (by omega)))
      have HZ5 := Lib.hid ((((HB.out.trans (hb5.mono hgew))).block w.heap.size (by omega)).trans HZ0.out)
      clear hb5
      go_wp2_with (refine wpList_store_row rfl 24 _ _ rfl w.heap.size (spanCs S) rfl rfl 24 _ HZ5.out (infoSpan _) rfl (spanCs_one _) ?_)
      exact bodyPost_ret (v := .agg (spanCs S)) (results_cell_row (fn := Try.f57) (p := 6) rfl _ _ w.heap.size 24 (spanCs S) (0, 0) _ rfl (setRow_heap _ _ _ _ _ _ HZ5.out) underSpan rfl (infoSpan _)) rfl ⟨rfl, below_setRow HB5.out (Nat.le_refl _) _⟩
    obtain ⟨tv, e1, _, _, ⟨aot, capx, htv, hl1, hel⟩⟩ := HCE.out k hlk
    have hl2 := HLEN.out _ (List.getElem_mem hlk)
    have hba := HBD.out _ (List.getElem_mem hlk) a
    have hbb := HBD.out _ (List.getElem_mem hlk) b
    rw [List.length_map, hl2] at htv
    subst htv
    obtain ⟨bt, off, rfl, _, hbt, e2⟩ := hel a (by rw [List.length_map]; omega)
    obtain ⟨bt', off', hbo, _, _, e3⟩ := hel b (by rw [List.length_map]; omega)
    cases hbo
    have ex : ∀ (i : Nat) (hi : i < n), (L[k].1.map (Value.int .i64))[i]'(by rw [List.length_map]; omega) = .int .i64 (L[k].1.getD i 0) := fun i hi => by
      rw [List.getElem_map, List.getD_eq_getElem?_getD, List.getElem?_eq_getElem (by omega)]; rfl
    rw [ex a ha] at e2
    rw [ex b hb] at e3
    have HNX := Lib.hid (show ((L.take (k + 1)).map (difT a b)) = ((L.take k).map (difT a b)) ++ [L[k].1.getD a 0 - L[k].1.getD b 0] by rw [List.take_succ_eq_append_getElem hlk, List.map_append]; rfl)
    generalize L[k].1.getD a 0 = ya at *
    generalize L[k].1.getD b 0 = yb at *
    clear ex hel hl2 hl1
    have sx : ∀ W', Below W0.heap.size W0 W' → W'.cell? ⟨g, k * 3, none⟩ = some (.slice (some ⟨bt, off, none⟩) n capx) ∧ W'.cell? ⟨bt, off + a, none⟩ = some (.int .i64 ya) ∧ W'.cell? ⟨bt, off + b, none⟩ = some (.int .i64 yb) := fun W' hb' => by
      have h := HB0.out.trans (hb'.mono (by omega))
      exact ⟨(h.cell (p := ⟨g, k * 3, none⟩) hg).trans e1, (h.cell (p := ⟨bt, off + a, none⟩) hbt).trans e2, (h.cell (p := ⟨bt, off + b, none⟩) hbt).trans e3⟩
    have SX := Lib.hid sx
    obtain ⟨d1, d2, d3⟩ := sx wr HB.out
    clear e1 e2 e3 sx
    have hd : decide ((k : Int) < (L.length : Int)) = true := by simp; omega
    have hda : decide ((a : Int) < (n : Int)) = true := by simp; omega
    have hdb : decide ((b : Int) < (n : Int)) = true := by simp; omega
    have hwk : IntKind.i64.wrap ((k : Int) + 1) = ((k + 1 : Nat) : Int) := by rw [IntWalk.i64_in _ (by omega)]; omega
    have hws : IntKind.i64.wrap (ya - yb) = ya - yb := IntWalk.i64_in _ (by omega)
    go_wp2_with fail
    go_region_held3 (fun W' => W'.cell? ⟨g, k * 3, none⟩ = some (.slice (some ⟨bt, off, none⟩) n capx) ∧ W'.cell? ⟨bt, off + a, none⟩ = some (.int .i64 ya) ∧ W'.cell? ⟨bt, off + b, none⟩ = some (.int .i64 yb))
      (first | exact SX.out _ hb4 | exact SX.out _ HB.out.drew | exact SX.out _ (HB.out.drew.alloc (by simpa using hgew) _))
      (first
        | ((rw [if_pos (by rfl)]; refine wp_append_at (.tmp 15) (.tmp 33) 50 rfl W0.heap.size 3 1 8 (.int .i64 0) underInts infoInt rfl (by decide) u7 k _ rfl (by first | exact HO.out.alloc _ | exact World.ownsRow.alloc (w := wr.drew) HO.out _) _ 1 1 [.int .i64 (ya - yb)] rfl rfl (news_block (cs := #[.int .i64 (ya - yb)]) (heap_alloc_at _ _ _ rfl)) (by simp [Value.oneCell']) (by omega) (by decide) (by simp; omega) ?_; intro v1 w4 hown4 hgrow4 hv4; have hb4 : Below W0.heap.size W0 w4 := ((HB.out.drew.alloc (by simpa using hgew) _).grown hgrow4 (by simp; omega) (own_base HO.out)))))
    have HO4 := Lib.hid hown4
    have HB4 := Lib.hid hb4
    clear hown4 hb4 hgrow4 hv4
    go_wp2
    exact ⟨⟨k + 1, by omega, rfl, by rw [HNX.out, List.map_append]; exact HO4.out, HB4.out⟩, by simp [intOf]; omega⟩

end Go.Proofs.Ytlgeggekmdoceaa

/- The reference: Differ. -/
namespace Go.Proofs.Ytlgeggekmdoceaa
set_option linter.unusedVariables false
set_option linter.unusedSimpArgs false
open Go.RowKit Go.Shelf
attribute [local go_sem] Oper.semAt_some

theorem truA_b (p : PairD) (hp : OkP p) (t : List Int × (Int × Int)) (ht : t ∈ truA p) (i : Nat) : -1000 ≤ t.1.getD i 0 ∧ t.1.getD i 0 ≤ 1000 := by
  obtain ⟨_, h2, h3⟩ := (mem_truthsL p hp (allR p) t.1 t.2).1 ht
  by_cases hi : i < p.bs.length
  · have := h3.bs i hi
    have hb := hp.bs _ (List.getElem_mem hi)
    omega
  · rw [List.getD_eq_getElem?_getD, List.getElem?_eq_none (by omega)]
    decide
set_option maxRecDepth 100000 in
set_option maxHeartbeats 4000000 in
theorem rdifferb_any (p : PairD) (bs rs : Value) (x y : Int) (hlb : p.bs.length ≤ 1000) (hcnt : validB p = true → (truA p).length ≤ 1000000) (w : World) (hpa : PairAt w p bs rs) :
    Calls Try.prog 18 #[.agg (pairRow p bs rs), .int .i64 x, .int .i64 y] w fun e w' => e = .returned (.tuple #[spanV (differV p x y).1, .int .i64 (differV p x y).2]) ∧ Below w.heap.size w w' := by
  obtain ⟨ao, cap, hbse, _⟩ := id hpa.b
  subst hbse
  obtain ⟨ao2, cap2, hrse, _⟩ := id hpa.r
  subst hrse
  obtain ⟨W0, hW0⟩ : ∃ W0, W0 = (w.alloc (.cells (pairRow p (.slice ao p.bs.length cap) (.slice ao2 p.rs.length cap2)) 27 (0, 0))).alloc (.cells #[.int .i64 0, .int .i64 0] 24) := ⟨_, rfl⟩
  have hb0 : Below w.heap.size w W0 := by rw [hW0]; exact ((Below.refl _ _).alloc (Nat.le_refl _) _).alloc (by simp) _
  have hr1 : W0.heap[w.heap.size]? = some (pairObj p (.slice ao p.bs.length cap) (.slice ao2 p.rs.length cap2)) := by rw [hW0]; exact (hget_old _ _ _ (by simp)).trans (heap_alloc_at _ _ _ rfl)
  have hz0 : W0.heap[w.heap.size + 1]? = some (.cells #[.int .i64 0, .int .i64 0] 24 (0, 0)) := by rw [hW0]; exact heap_alloc_at _ _ _ (by simp)
  have hsw : W0.heap.size = w.heap.size + 2 := by rw [hW0]; simp
  have HB0 := Lib.hid hb0
  have HZ0 := Lib.hid hz0
  have HR1 := Lib.hid hr1
  have HPA := Lib.hid (hpa.later hb0)
  have HC := Lib.hid hcnt
  have rows : ∀ W', Below W0.heap.size W0 W' → (W'.cell? ⟨w.heap.size, 0, none⟩ = some (.slice ao p.bs.length cap) ∧ W'.cell? ⟨w.heap.size, 1, none⟩ = some (.int .i64 p.zl) ∧ W'.cell? ⟨w.heap.size, 2, none⟩ = some (.int .i64 p.zh) ∧
        W'.cell? ⟨w.heap.size, 3, none⟩ = some (.int .i64 p.rl) ∧ W'.cell? ⟨w.heap.size, 4, none⟩ = some (.int .i64 p.rh) ∧ W'.cell? ⟨w.heap.size, 5, none⟩ = some (.slice ao2 p.rs.length cap2)) := fun W' hb => by
    have q1 := (hb.block w.heap.size (by omega)).trans hr1
    unfold pairObj pairRow at q1
    refine ⟨?_, ?_, ?_, ?_, ?_, ?_⟩ <;> (rw [cell_of_row _ _ _ _ _ _ q1]; rfl)
  have ROWS := Lib.hid rows
  clear rows hb0 hz0 hr1 hpa hcnt
  unfold pairRow at hW0 ⊢
  go_enter Try.func18, Try.ntmps18
  go_wp2_with fail
  rw [← hW0]
  clear hW0
  have hso : (okBl p x = true ∧ (inB x 0 ((p.bs.length : Int) - 1) = true)) ∨ (okBl p x = false ∧ inB x 0 ((p.bs.length : Int) - 1) = false) := by
    unfold okBl
    cases inB x 0 ((p.bs.length : Int) - 1)
    · exact .inr ⟨rfl, rfl⟩
    · exact .inl ⟨rfl, rfl⟩
  rcases hso with ⟨hox, hbx⟩ | ⟨hox, hbx⟩
  · go_region_held3 (fun W' => W'.cell? ⟨w.heap.size, 0, none⟩ = some (.slice ao p.bs.length cap) ∧ W'.cell? ⟨w.heap.size, 1, none⟩ = some (.int .i64 p.zl) ∧ W'.cell? ⟨w.heap.size, 2, none⟩ = some (.int .i64 p.zh) ∧
        W'.cell? ⟨w.heap.size, 3, none⟩ = some (.int .i64 p.rl) ∧ W'.cell? ⟨w.heap.size, 4, none⟩ = some (.int .i64 p.rh) ∧ W'.cell? ⟨w.heap.size, 5, none⟩ = some (.slice ao2 p.rs.length cap2))
      (first | exact ROWS.out _ hb3 | exact ROWS.out _ hb2b | exact ROWS.out _ hb2 | exact ROWS.out _ (Below.refl _ _).drew)
      (first
      | ((go_at_call 53; (first | (refine (rblock_any p p.bs.length cap ao _ hlb y w2).mono ?_; rintro e w2b ⟨rfl, hb2b'⟩; have hb2b : Below W0.heap.size W0 w2b := hb2.trans (hb2b'.mono hb2.size)) | (refine (rblock_any p p.bs.length cap ao _ hlb x _).mono ?_; rintro e w2 ⟨he, hb2'⟩; rw [hbx] at he; subst he; have hb2 : Below W0.heap.size W0 w2 := (Below.refl _ _).drew.trans hb2'))))
      | ((go_at_call 52; refine (rtold_any p _ _ (okBl p y) HC.out w2b (HPA.out.later hb2b)).mono ?_; rintro e w3 ⟨⟨vl, er, rfl, ht⟩, hb3'⟩; have hb3 : Below W0.heap.size W0 w3 := hb2b.trans (hb3'.mono hb2b.size))))
    have hge3 : w.heap.size + 2 ≤ w3.heap.size := by have := hb3.size; omega
    have HB3 := Lib.hid (HB0.out.trans (hb3.mono (by omega)))
    have HZ3 := Lib.hid ((hb3.block (w.heap.size + 1) (by omega)).trans HZ0.out)
    have HT := Lib.hid ht
    clear ht hb3
    by_cases her : er = 0
    case neg =>
      have hd : (er != 0) = true := by simpa using her
      have HER := Lib.hid her
      clear her
      go_wp2_with (refine wpList_store_row rfl 24 _ _ rfl (w.heap.size + 1) (spanCs (0, 0)) rfl rfl 24 _ HZ3.out (infoSpan _) rfl (spanCs_one _) ?_)
      refine bodyPost_ret (v := .tuple #[.agg (spanCs (0, 0)), .int .i64 er]) (results_row_tmp (fn := Try.f18) (p := 6) (u := 7) rfl _ _ (w.heap.size + 1) 24 (spanCs (0, 0)) (0, 0) _ rfl (setRow_heap _ _ _ _ _ _ HZ3.out) underSpan rfl (infoSpan _)) rfl ⟨?_, below_setRow HB3.out (by omega) _⟩
      have hv : differV p x y = ((0, 0), er) := by
        unfold differV
        rw [hox]
        exact toldR_fail HT.out HER.out _
      rw [hv]
      rfl
    have HER := Lib.hid her
    subst her
    obtain ⟨HV, hv, hok, hne, TL, hta⟩ := toldR_ok HT.out rfl
    have hpx := okBl_lt hox
    have hpy := okBl_lt hok
    have hp := OkP.of p hv
    have hv2 : differV p x y = (hullD p x.toNat y.toNat, 0) := by
      unfold differV
      rw [hox]
      rw [show (true && okBl p y) = okBl p y from Bool.true_and _]
      exact HV _
    obtain ⟨na, hna⟩ : ∃ n : Nat, x = n := ⟨x.toNat, by unfold okBl inB at hox; rw [decide_eq_true_eq] at hox; omega⟩
    obtain ⟨nb, hnb⟩ : ∃ n : Nat, y = n := ⟨y.toNat, by unfold okBl inB at hok; rw [decide_eq_true_eq] at hok; omega⟩
    subst hna
    subst hnb
    rw [Int.toNat_natCast] at hpx hpy hv2
    rw [Int.toNat_natCast] at hv2
    have hlen : ∀ t ∈ truA p, t.1.length = p.bs.length := fun t ht => ((mem_truthsL p hp (allR p) t.1 t.2).1 ht).2.1
    have hbd : ∀ t ∈ truA p, ∀ i, -1000 ≤ t.1.getD i 0 ∧ t.1.getD i 0 ≤ 1000 := fun t ht i => truA_b p hp t ht i
    have hcl := HC.out hv
    obtain ⟨aot, capt, rfl⟩ := truths_form hta
    have HTA := Lib.hid hta
    have HV2 := Lib.hid hv2
    have HLEN := Lib.hid hlen
    have HBD := Lib.hid hbd
    have HNE := Lib.hid hne
    clear hta hv2 hlen hbd hne HV
    go_wp2_with fail
    refine (rdiffer_any (truA p) HNE.out p.bs.length HLEN.out HBD.out hcl na nb hpx hpy _ _ TL w3 HTA.out).mono ?_
    rintro e w5 ⟨he, hb5⟩
    rw [show hullOf (((truA p).map (difT na nb)).map dupI) = hullD p na nb by unfold hullD; rw [List.map_map]; rfl] at he
    subst he
    have HB5 := Lib.hid (HB3.out.trans (hb5.mono (by omega)))
    have HZ5 := Lib.hid ((hb5.block (w.heap.size + 1) (by omega)).trans HZ3.out)
    clear hb5
    go_wp2_with (refine wpList_store_row rfl 24 _ _ rfl (w.heap.size + 1) (spanCs (hullD p na nb)) rfl rfl 24 _ HZ5.out (infoSpan _) rfl (spanCs_one _) ?_)
    refine bodyPost_ret (v := .tuple #[.agg (spanCs (hullD p na nb)), .int .i64 0]) (results_row_tmp (fn := Try.f18) (p := 6) (u := 7) rfl _ _ (w.heap.size + 1) 24 (spanCs (hullD p na nb)) (0, 0) _ rfl (setRow_heap _ _ _ _ _ _ HZ5.out) underSpan rfl (infoSpan _)) rfl ⟨?_, below_setRow HB5.out (by omega) _⟩
    rw [HV2.out]
    rfl
  · have hs0 : W0.drew.heap[w.heap.size]? = some (.cells (pairRow p (.slice ao p.bs.length cap) (.slice ao2 p.rs.length cap2)) 27 (0, 0)) := HR1.out
    refine wp_region_held_drew (S := fun w' => w'.heap[w.heap.size]? = some (.cells (pairRow p (.slice ao p.bs.length cap) (.slice ao2 p.rs.length cap2)) 27 (0, 0))) (by kernel_rfl) hs0 fun hS0 => ?_
    refine wpAnyH_take (i := 0) (v := .agg (pairRow p (.slice ao p.bs.length cap) (.slice ao2 p.rs.length cap2))) rfl (by kernel_rfl) (by kernel_rfl) (by kernel_rfl) (fun _ _ _ h => h) (yields_value rfl fun W hS => run_load_row 27 _ rfl w.heap.size rfl 27 (pairRow p (.slice ao p.bs.length cap) (.slice ao2 p.rs.length cap2)) (0, 0) _ hS underPair rfl rfl) hS0 ?_
    refine wpAnyH_take (i := 1) (v := .agg (pairRow p (.slice ao p.bs.length cap) (.slice ao2 p.rs.length cap2))) rfl (by kernel_rfl) (by kernel_rfl) (by kernel_rfl) (fun _ _ _ h => h) (yields_value rfl fun W hS => run_load_row 27 _ rfl w.heap.size rfl 27 (pairRow p (.slice ao p.bs.length cap) (.slice ao2 p.rs.length cap2)) (0, 0) _ hS underPair rfl rfl) hS0 ?_
    refine wpAnyH_take (i := 2) (v := .int .i64 x) rfl (by kernel_rfl) (by kernel_rfl) (by kernel_rfl) (fun _ _ _ h => h) (yields_value rfl fun W hS => by simp [execOp, go_sem, Act.eval, Act.put]) hS0 ?_
    refine wpAnyH_call (k := 3) (by kernel_rfl) rfl rfl (f := 53) (args := #[.agg (pairRow p (.slice ao p.bs.length cap) (.slice ao2 p.rs.length cap2)), .int .i64 x]) (by simp [execOp, go_sem, Act.eval, Act.put]) ?_
    refine (rblock_any p p.bs.length cap ao _ hlb x _).mono ?_
    rintro e w2 ⟨he, hb2'⟩
    rw [hbx] at he
    subst he
    have hb2 : Below W0.heap.size W0 w2 := (Below.refl _ _).drew.trans hb2'
    have hS2 : w2.heap[w.heap.size]? = some (.cells (pairRow p (.slice ao p.bs.length cap) (.slice ao2 p.rs.length cap2)) 27 (0, 0)) := (hb2.block _ (by omega)).trans HR1.out
    refine ⟨hS2, ?_⟩
    refine wpAnyH_take (i := 4) (v := .bool false) rfl (by kernel_rfl) (by kernel_rfl) (by kernel_rfl) (fun _ _ _ h => h) (yields_value rfl fun W hS => by simp [execOp, go_sem, Act.eval, Act.put]) hS2 ?_
    refine wpAnyH_take (i := 5) (v := undef) rfl (by kernel_rfl) (by kernel_rfl) (by kernel_rfl) (fun _ _ _ h => h) (.inr ⟨rfl, rfl⟩) hS2 ?_
    refine wpAnyH_take (i := 6) (v := undef) rfl (by kernel_rfl) (by kernel_rfl) (by kernel_rfl) (fun _ _ _ h => h) (.inr ⟨rfl, rfl⟩) hS2 ?_
    refine wpAnyH_take (i := 7) (v := undef) rfl (by kernel_rfl) (by kernel_rfl) (by kernel_rfl) (fun _ _ _ h => h) (.inr ⟨rfl, rfl⟩) hS2 ?_
    refine wpAnyH_take (i := 8) (v := .bool false) rfl (by kernel_rfl) (by kernel_rfl) (by kernel_rfl) (fun _ _ _ h => h) (yields_value rfl fun W hS => by simp [execOp, go_sem, Act.eval, Act.put]) hS2 ?_
    refine wpAnyH_call (k := 9) (by kernel_rfl) rfl rfl (f := 52) (args := #[.agg (pairRow p (.slice ao p.bs.length cap) (.slice ao2 p.rs.length cap2)), .bool false]) (by simp [execOp, go_sem, Act.eval, Act.put]) ?_
    refine (rtold_any p _ _ false HC.out w2 (HPA.out.later hb2)).mono ?_
    rintro e w3 ⟨⟨vl, er, rfl, ht⟩, hb3'⟩
    have hb3 : Below W0.heap.size W0 w3 := hb2.trans (hb3'.mono hb2.size)
    have hS3 : w3.heap[w.heap.size]? = some (.cells (pairRow p (.slice ao p.bs.length cap) (.slice ao2 p.rs.length cap2)) 27 (0, 0)) := (hb3.block _ (by omega)).trans HR1.out
    refine ⟨hS3, ?_⟩
    refine wpAnyH_take (i := 10) (v := .tuple #[vl, .int .i64 er]) rfl (by kernel_rfl) (by kernel_rfl) (by kernel_rfl) (fun _ _ _ h => h) (yields_value rfl fun W hS => by simp [execOp, go_sem, Act.eval, Act.put]) hS3 ?_
    refine wpAnyH_take (i := 11) (v := vl) rfl (by kernel_rfl) (by kernel_rfl) (by kernel_rfl) (fun _ _ _ h => h) (yields_value rfl fun W hS => by simp [execOp, go_sem, Act.eval, Act.put]) hS3 ?_
    refine wpAnyH_take (i := 12) (v := .int .i64 er) rfl (by kernel_rfl) (by kernel_rfl) (by kernel_rfl) (fun _ _ _ h => h) (yields_value rfl fun W hS => by simp [execOp, go_sem, Act.eval, Act.put]) hS3 ?_
    refine wpAnyH_take (i := 13) (v := vl) rfl (by kernel_rfl) (by kernel_rfl) (by kernel_rfl) (fun _ _ _ h => h) (yields_value rfl fun W hS => by simp [execOp, go_sem, Act.eval, Act.put]) hS3 ?_
    refine wpAnyH_take (i := 14) (v := .int .i64 er) rfl (by kernel_rfl) (by kernel_rfl) (by kernel_rfl) (fun _ _ _ h => h) (yields_value rfl fun W hS => by simp [execOp, go_sem, Act.eval, Act.put]) hS3 ?_
    refine wpAnyH_done (by kernel_rfl) ?_ _
    simp only [Act.put, List.setIfInBounds_toArray, List.set_cons_zero, List.set_cons_succ]
    all_goals (
      have hge3 : w.heap.size + 2 ≤ w3.heap.size := by have := hb3.size; omega
      have HB3 := Lib.hid (HB0.out.trans (hb3.mono (by omega)))
      have HZ3 := Lib.hid ((hb3.block (w.heap.size + 1) (by omega)).trans HZ0.out)
      have HT := Lib.hid ht
      clear ht hb3
      by_cases her : er = 0
      case neg =>
        have hd : (er != 0) = true := by simpa using her
        have HER := Lib.hid her
        clear her
        go_wp2_with (refine wpList_store_row rfl 24 _ _ rfl (w.heap.size + 1) (spanCs (0, 0)) rfl rfl 24 _ HZ3.out (infoSpan _) rfl (spanCs_one _) ?_)
        refine bodyPost_ret (v := .tuple #[.agg (spanCs (0, 0)), .int .i64 er]) (results_row_tmp (fn := Try.f18) (p := 6) (u := 7) rfl _ _ (w.heap.size + 1) 24 (spanCs (0, 0)) (0, 0) _ rfl (setRow_heap _ _ _ _ _ _ HZ3.out) underSpan rfl (infoSpan _)) rfl ⟨?_, below_setRow HB3.out (by omega) _⟩
        have hv : differV p x y = ((0, 0), er) := by
          unfold differV
          rw [hox]
          exact toldR_fail HT.out HER.out _
        rw [hv]
        rfl
      subst her
      exact absurd (toldR_ok HT.out rfl).2.2.1 (by simp)
    )

end Go.Proofs.Ytlgeggekmdoceaa

/- The reference: longest. -/
namespace Go.Proofs.Ytlgeggekmdoceaa
set_option linter.unusedVariables false
set_option linter.unusedSimpArgs false
open Go.RowKit Go.Shelf
attribute [local go_sem] Oper.semAt_some

def leAll (x : List Int) (y : Int) (k : Nat) : Bool := (x.take k).all fun z => decide (z ≤ y)
set_option maxRecDepth 100000 in
set_option maxHeartbeats 4000000 in
theorem rlongest_any (x : List Int) (v : Value) (c : Int × Int) (i : Nat) (hi : i < x.length) (Rd : Nat → Prop) (w : World) (hv : ListAt w v (x.map (Value.int .i64)) Rd) :
    Calls Try.prog 71 #[.agg (truthRow v c), .int .i64 i] w fun e w' => e = .returned (.bool (leAll x (x.getD i 0) x.length)) ∧ Below w.heap.size w w' := by
  obtain ⟨z, q⟩ := c
  obtain ⟨ao, cap, rfl, hlen, hel⟩ := hv
  rw [List.length_map] at hlen ⊢
  have hel' : ∀ j, j < x.length → ∃ b off, ao = some ⟨b, off, none⟩ ∧ b < w.heap.size ∧ w.cell? ⟨b, off + j, none⟩ = some (.int .i64 (x.getD j 0)) := fun j hj => by
    obtain ⟨b, off, e1, _, e3, e4⟩ := hel j (by rw [List.length_map]; exact hj)
    refine ⟨b, off, e1, e3, ?_⟩
    rw [e4, List.getElem_map, List.getD_eq_getElem?_getD, List.getElem?_eq_getElem hj]
    rfl
  obtain ⟨blk, off, rfl, hlt, hci⟩ := hel' i hi
  have hall : ∀ j, j < x.length → w.cell? ⟨blk, off + j, none⟩ = some (.int .i64 (x.getD j 0)) := fun j hj => by
    obtain ⟨_, _, e, _, h⟩ := hel' j hj
    cases e
    exact h
  obtain ⟨W0, hW0⟩ : ∃ W0, W0 = w.alloc (.cells #[.slice (some ⟨blk, off, none⟩) x.length cap, .int .i64 z, .int .i64 q] 76) := ⟨_, rfl⟩
  have hb0 : Below w.heap.size w W0 := by rw [hW0]; exact (Below.refl _ _).alloc (Nat.le_refl _) _
  have hr0 : W0.heap[w.heap.size]? = some (.cells #[.slice (some ⟨blk, off, none⟩) x.length cap, .int .i64 z, .int .i64 q] 76 (0, 0)) := by rw [hW0]; exact heap_alloc_at _ _ _ rfl
  have hsw : W0.heap.size = w.heap.size + 1 := by rw [hW0]; simp
  have sx : ∀ j, j < x.length → ∀ W', Below W0.heap.size W0 W' → W'.cell? ⟨w.heap.size, 0, none⟩ = some (.slice (some ⟨blk, off, none⟩) x.length cap) ∧ W'.cell? ⟨blk, off + j, none⟩ = some (.int .i64 (x.getD j 0)) ∧ W'.cell? ⟨blk, off + i, none⟩ = some (.int .i64 (x.getD i 0)) := fun j hj W' hb' => by
    have h := hb0.trans (hb'.mono (by omega))
    have q1 := (hb'.block w.heap.size (by omega)).trans hr0
    exact ⟨by rw [cell_of_row _ _ _ _ _ _ q1]; rfl, (h.cell (p := ⟨blk, off + j, none⟩) hlt).trans (hall j hj), (h.cell (p := ⟨blk, off + i, none⟩) hlt).trans (hall i hi)⟩
  have SX := Lib.hid sx
  have HB0 := Lib.hid hb0
  have hi' : decide ((i : Int) < (x.length : Int)) = true := by simp; omega
  have hnx : ∀ k (hk : k < x.length), leAll x (x.getD i 0) (k + 1) = (leAll x (x.getD i 0) k && decide (x.getD k 0 ≤ x.getD i 0)) := fun k hk => by
    unfold leAll
    rw [List.take_succ_eq_append_getElem hk, List.all_append]
    simp [List.getD_eq_getElem?_getD, hk]
  have HNX := Lib.hid hnx
  have hno : ∀ k, k < x.length → ¬ (x.getD k 0 ≤ x.getD i 0) → leAll x (x.getD i 0) x.length = false := fun k hk h => by
    unfold leAll
    rw [List.take_length, List.all_eq_false]
    refine ⟨x[k], List.getElem_mem hk, ?_⟩
    rw [List.getD_eq_getElem?_getD (l := x) (i := k), List.getElem?_eq_getElem hk] at h
    simpa using h
  have HNO := Lib.hid hno
  clear hel hel' hall hci hb0 hr0 sx hnx hno
  unfold truthRow
  go_enter Try.func71, Try.ntmps71
  go_wp2_with fail
  rw [← hW0]
  clear hW0
  go_loopw [5] (fun ii wr => ∃ k : Nat, k ≤ x.length ∧ ii = .int .i64 k ∧ leAll x (x.getD i 0) k = true ∧ Below W0.heap.size W0 wr) (fun ii _ => x.length - (intOf ii).toNat)
  case atStart => exact ⟨0, by omega, rfl, rfl, Below.refl _ _⟩
  case round =>
    obtain ⟨k, hk, rfl, hle, hb⟩ := hrel
    have HB := Lib.hid hb
    have HLE := Lib.hid hle
    clear hb hle
    obtain ⟨d1, _, _⟩ := SX.out i hi wr HB.out
    by_cases hlk : k < x.length
    case neg =>
      have hkl : k = x.length := by omega
      have hd : decide ((k : Int) < (x.length : Int)) = false := by simp; omega
      have HRES := Lib.hid (show leAll x (x.getD i 0) x.length = true by rw [← hkl]; exact HLE.out)
      clear hkl
      go_wp2
      go_ret
      refine ⟨?_, HB0.out.trans (HB.out.mono (by omega))⟩
      rw [HRES.out]
      rfl
    have hd : decide ((k : Int) < (x.length : Int)) = true := by simp; omega
    have hwk : IntKind.i64.wrap ((k : Int) + 1) = ((k + 1 : Nat) : Int) := by rw [IntWalk.i64_in _ (by omega)]; omega
    have HX := Lib.hid (SX.out k hlk)
    have HN := Lib.hid (HNX.out k hlk)
    have HO := Lib.hid (HNO.out k hlk)
    generalize hyk : x.getD k 0 = yk at *
    generalize hyi : x.getD i 0 = yi at *
    go_wp2_with fail
    go_region_held3 (fun W' => W'.cell? ⟨w.heap.size, 0, none⟩ = some (.slice (some ⟨blk, off, none⟩) x.length cap) ∧ W'.cell? ⟨blk, off + k, none⟩ = some (.int .i64 yk) ∧ W'.cell? ⟨blk, off + i, none⟩ = some (.int .i64 yi))
      (first | exact HX.out _ HB.out.drew)
      (first | (fail))
    by_cases hcmp : yi < yk
    case pos =>
      have hd2 : decide (yi < yk) = true := by simpa using hcmp
      go_wp2
      go_ret
      refine ⟨?_, HB0.out.trans (HB.out.drew.mono (by omega))⟩
      rw [hyi, HO.out (by omega)]
      rfl
    have hd2 : decide (yi < yk) = false := by simpa using hcmp
    go_wp2
    exact ⟨⟨k + 1, by omega, rfl, by rw [HN.out, HLE.out, Bool.true_and, decide_eq_true_eq]; omega, HB.out.drew⟩, by simp [intOf]; omega⟩

end Go.Proofs.Ytlgeggekmdoceaa

/- The reference: Longest. -/
namespace Go.Proofs.Ytlgeggekmdoceaa
set_option linter.unusedVariables false
set_option linter.unusedSimpArgs false
open Go.RowKit Go.Shelf
attribute [local go_sem] Oper.semAt_some

theorem leAll_long (x : List Int) (i : Nat) : leAll x (x.getD i 0) x.length = longT x.length x i := by
  unfold leAll
  rw [List.take_length, Bool.eq_iff_iff, longT_iff, List.all_eq_true]
  constructor
  · intro h k hk
    have := h _ (List.getElem_mem hk)
    rw [decide_eq_true_eq] at this
    rw [List.getD_eq_getElem?_getD (l := x) (i := k), List.getElem?_eq_getElem hk]
    exact this
  · intro h y hy
    obtain ⟨k, hk, rfl⟩ := List.mem_iff_getElem.1 hy
    have := h k hk
    rw [List.getD_eq_getElem?_getD (l := x) (i := k), List.getElem?_eq_getElem hk] at this
    rw [decide_eq_true_eq]
    exact this
def sureF (p : PairD) (i : Nat) : Bool := (truA p).all fun t => longT p.bs.length t.1 i
def canF (p : PairD) (i : Nat) : Bool := (truA p).any fun t => longT p.bs.length t.1 i
def manyK (p : PairD) (i j : Nat) : Nat := ((truA p).take j).countP fun t => longT p.bs.length t.1 i
theorem longV_told (p : PairD) : longV p = toldV p true (((setN (sureF p) p.bs.length : Nat) : Int), ((setN (canF p) p.bs.length : Nat) : Int)) := by
  unfold longV toldV
  simp only [Bool.true_eq_false, if_false]
  rfl
theorem many_next (p : PairD) (i j : Nat) (h : j < (truA p).length) : manyK p i (j + 1) = manyK p i j + (if longT p.bs.length (truA p)[j].1 i then 1 else 0) := by
  unfold manyK
  rw [List.take_succ_eq_append_getElem h, List.countP_append]
  simp [List.countP_cons]
theorem many_le (p : PairD) (i j : Nat) : manyK p i j ≤ (truA p).length := Nat.le_trans List.countP_le_length (by rw [List.length_take]; omega)
theorem many_all (p : PairD) (i : Nat) : (manyK p i (truA p).length = (truA p).length) ↔ sureF p i = true := by
  unfold manyK sureF
  rw [List.take_length, List.countP_eq_length, List.all_eq_true]
theorem many_any (p : PairD) (i : Nat) : 0 < manyK p i (truA p).length ↔ canF p i = true := by
  unfold manyK canF
  rw [List.take_length, List.countP_pos_iff, List.any_eq_true]
set_option maxRecDepth 100000 in
set_option maxHeartbeats 4000000 in
theorem rlongestp_any (p : PairD) (bs rs : Value) (hcnt : validB p = true → (truA p).length ≤ 1000000) (w : World) (hpa : PairAt w p bs rs) :
    Calls Try.prog 22 #[.agg (pairRow p bs rs)] w fun e w' => e = .returned (.tuple #[.int .i64 (longV p).1.1, .int .i64 (longV p).1.2, .int .i64 (longV p).2]) ∧ Below w.heap.size w w' := by
  rw [longV_told]
  obtain ⟨ao, cap, hbse, _⟩ := id hpa.b
  subst hbse
  obtain ⟨ao2, cap2, hrse, _⟩ := id hpa.r
  subst hrse
  obtain ⟨W0, hW0⟩ : ∃ W0, W0 = w.alloc (.cells (pairRow p (.slice ao p.bs.length cap) (.slice ao2 p.rs.length cap2)) 27 (0, 0)) := ⟨_, rfl⟩
  have hb0 : Below w.heap.size w W0 := by rw [hW0]; exact (Below.refl _ _).alloc (Nat.le_refl _) _
  have hr1 : W0.heap[w.heap.size]? = some (pairObj p (.slice ao p.bs.length cap) (.slice ao2 p.rs.length cap2)) := by rw [hW0]; exact heap_alloc_at _ _ _ rfl
  have hsw : W0.heap.size = w.heap.size + 1 := by rw [hW0]; simp
  have HB0 := Lib.hid hb0
  have HR1 := Lib.hid hr1
  have HPA := Lib.hid (hpa.later hb0)
  have HC := Lib.hid hcnt
  have rows : ∀ W', Below W0.heap.size W0 W' → (W'.cell? ⟨w.heap.size, 0, none⟩ = some (.slice ao p.bs.length cap) ∧ W'.cell? ⟨w.heap.size, 1, none⟩ = some (.int .i64 p.zl) ∧ W'.cell? ⟨w.heap.size, 2, none⟩ = some (.int .i64 p.zh) ∧
        W'.cell? ⟨w.heap.size, 3, none⟩ = some (.int .i64 p.rl) ∧ W'.cell? ⟨w.heap.size, 4, none⟩ = some (.int .i64 p.rh) ∧ W'.cell? ⟨w.heap.size, 5, none⟩ = some (.slice ao2 p.rs.length cap2)) := fun W' hb => by
    have q1 := (hb.block w.heap.size (by omega)).trans hr1
    unfold pairObj pairRow at q1
    refine ⟨?_, ?_, ?_, ?_, ?_, ?_⟩ <;> (rw [cell_of_row _ _ _ _ _ _ q1]; rfl)
  have ROWS := Lib.hid rows
  clear rows hb0 hr1 hpa hcnt
  unfold pairRow at hW0 ⊢
  obtain ⟨c0, c1, c2, c3, c4, c5⟩ := ROWS.out W0 (Below.refl _ _)
  go_enter Try.func22, Try.ntmps22
  go_wp2_with fail
  rw [← hW0]
  clear hW0
  refine (rtold_any p _ _ true HC.out W0 (by exact HPA.out)).mono ?_
  rintro e w3 ⟨⟨vl, er, rfl, ht⟩, hb3⟩
  have hge3 : w.heap.size + 1 ≤ w3.heap.size := by have := hb3.size; omega
  have HB3 := Lib.hid (HB0.out.trans (hb3.mono (by omega)))
  have HBW := Lib.hid hb3
  have HT := Lib.hid ht
  clear ht hb3 c0 c1 c2 c3 c4 c5
  by_cases her : er = 0
  case neg =>
    have hd : (er != 0) = true := by simpa using her
    have HER := Lib.hid her
    clear her
    go_wp2
    refine bodyPost_ret (v := .tuple #[.int .i64 0, .int .i64 0, .int .i64 er]) (by simp [results, Try.results22, go_sem]) rfl ⟨?_, HB3.out⟩
    rw [toldR_fail HT.out HER.out _]
  have HER := Lib.hid her
  subst her
  obtain ⟨HV, hv, hok, hne, TL, hta⟩ := toldR_ok HT.out rfl
  have HVH := Lib.hid (HV (((setN (sureF p) p.bs.length : Nat) : Int), ((setN (canF p) p.bs.length : Nat) : Int)))
  have hp := OkP.of p hv
  have hn5 := hp.n5
  have hlen : ∀ t ∈ truA p, t.1.length = p.bs.length := fun t ht => ((mem_truthsL p hp (allR p) t.1 t.2).1 ht).2.1
  have hcl := HC.out hv
  obtain ⟨g, capt, rfl, hg, hcells⟩ := truths_cells hta hne
  have HLEN := Lib.hid hlen
  have HCE := Lib.hid hcells
  clear HV hta hcells hlen hne
  go_wp2_with fail
  go_loopw [7, 8, 9] (fun s c i wr => ∃ k : Nat, k ≤ p.bs.length ∧ i = .int .i64 k ∧ s = .int .i64 (setN (sureF p) k : Nat) ∧ c = .int .i64 (setN (canF p) k : Nat) ∧ Below w3.heap.size w3 wr) (fun _ _ i _ => p.bs.length - (intOf i).toNat)
  case atStart => exact ⟨0, by omega, rfl, rfl, rfl, Below.refl _ _⟩
  case round =>
    obtain ⟨k, hk, rfl, rfl, rfl, hb⟩ := hrel
    have HB := Lib.hid hb
    have hgew := hb.size
    obtain ⟨c0, _, _, _, _, _⟩ := ROWS.out wr (HBW.out.trans (hb.mono (by have := HBW.out.size; omega)))
    clear hb
    have hs1 := setN_lt (sureF p) k
    have hs2 := setN_lt (canF p) k
    have hpw : 2 ^ k ≤ 32 := Nat.le_trans (Nat.pow_le_pow_right (by decide) (by omega : k ≤ 5)) (by decide)
    by_cases hlk : k < p.bs.length
    case neg =>
      have hkl : k = p.bs.length := by omega
      have HKL := Lib.hid hkl
      have hd : decide ((k : Int) < (p.bs.length : Int)) = false := by simp; omega
      clear hkl hs1 hs2 hpw
      go_wp2
      refine bodyPost_ret (v := .tuple #[.int .i64 (setN (sureF p) k : Nat), .int .i64 (setN (canF p) k : Nat), .int .i64 0]) (by simp [results, Try.results22, go_sem]) rfl ⟨?_, HB3.out.trans (HB.out.mono (by omega))⟩
      rw [HVH.out, HKL.out]
    have hd : decide ((k : Int) < (p.bs.length : Int)) = true := by simp; omega
    go_wp2_with fail
    clear c0
    obtain ⟨wa, rfl⟩ : ∃ wa, wa = wr := ⟨_, rfl⟩
    go_loopw [10, 11] (fun m i wq => ∃ j : Nat, j ≤ (truA p).length ∧ i = .int .i64 j ∧ m = .int .i64 (manyK p k j : Nat) ∧ Below w3.heap.size w3 wq) (fun _ i _ => (truA p).length - (intOf i).toNat)
    case atStart => exact ⟨0, by omega, rfl, rfl, HB.out⟩
    case round =>
      obtain ⟨j, hj, rfl, rfl, hbq⟩ := hrel
      have HBQ := Lib.hid hbq
      have hgeq := hbq.size
      clear hbq
      have hml := many_le p k j
      by_cases hlj : j < (truA p).length
      case neg =>
        have hjl : j = (truA p).length := by omega
        have hd2 : decide ((j : Int) < ((truA p).length : Int)) = false := by simp; omega
        have HN1 := Lib.hid (show setN (sureF p) (k + 1) = if sureF p k then setN (sureF p) k + 2 ^ k else setN (sureF p) k from rfl)
        have HN2 := Lib.hid (show setN (canF p) (k + 1) = if canF p k then setN (canF p) k + 2 ^ k else setN (canF p) k from rfl)
        have hwk : IntKind.i64.wrap ((k : Int) + 1) = ((k + 1 : Nat) : Int) := by rw [IntWalk.i64_in _ (by omega)]; omega
        have hw1 : IntKind.i64.wrap (((setN (sureF p) k : Nat) : Int) + ((2 ^ k : Nat) : Int)) = ((setN (sureF p) k + 2 ^ k : Nat) : Int) := by rw [IntWalk.i64_in _ (by omega)]; omega
        have hw2 : IntKind.i64.wrap (((setN (canF p) k : Nat) : Int) + ((2 ^ k : Nat) : Int)) = ((setN (canF p) k + 2 ^ k : Nat) : Int) := by rw [IntWalk.i64_in _ (by omega)]; omega
        have hma := many_all p k
        have hmy := many_any p k
        rw [← hjl] at hma hmy
        have he1 : (((manyK p k j : Nat) : Int) == ((truA p).length : Int)) = sureF p k := by
          rw [Bool.eq_iff_iff, beq_iff_eq, ← hma, hjl]; omega
        have he2 : decide ((0 : Int) < ((manyK p k j : Nat) : Int)) = canF p k := by
          rw [Bool.eq_iff_iff, decide_eq_true_eq, ← hmy]; omega
        have he3 : decide (0 < manyK p k j) = canF p k := by rw [Bool.eq_iff_iff, decide_eq_true_eq, ← hmy]
        have he4 : (0 < manyK p k j) ↔ (canF p k = true) := hmy
        clear hma hmy hs1 hs2 hpw hjl hml
        generalize setN (sureF p) k = s1 at *
        generalize setN (canF p) k = s2 at *
        generalize sureF p k = f1 at *
        generalize canF p k = f2 at *
        obtain ⟨pk, hpk⟩ : ∃ pk, pk = 2 ^ k := ⟨_, rfl⟩
        have HPK := Lib.hid hpk
        rw [← hpk] at hw1 hw2 HN1 HN2
        clear hpk
        have hpow : ∀ W, Calls Try.prog 72 #[.int .i64 k] W fun e w' => e = .returned (.int .i64 (pk : Nat)) ∧ W = w' := fun W => by
          rw [HPK.out]; exact power_any k (by omega) W
        have HPOW := Lib.hid hpow
        clear hpow
        cases f1 <;> cases f2
        all_goals (
          go_wp2_with fail
          repeat (refine (HPOW.out _).mono ?_; rintro e w6 ⟨rfl, rfl⟩; go_wp2_with fail)
          )
        all_goals exact ⟨⟨k + 1, by omega, rfl, by rw [HN1.out]; rfl, by rw [HN2.out]; rfl, HBQ.out⟩, by simp [intOf]; omega⟩
      obtain ⟨tv, e1, e2, e3, hli⟩ := HCE.out j hlj
      have hl2 := HLEN.out _ (List.getElem_mem hlj)
      have d1 := (HBQ.out.cell (p := ⟨g, j * 3, none⟩) hg).trans e1
      have d2 := (HBQ.out.cell (p := ⟨g, j * 3 + 1, none⟩) hg).trans e2
      have d3 := (HBQ.out.cell (p := ⟨g, j * 3 + 2, none⟩) hg).trans e3
      have hli' : ListAt wr tv ((truA p)[j].1.map (Value.int .i64)) (RdI w3) := by
        obtain ⟨ao', cap', q1, q2, q3⟩ := hli
        refine ⟨ao', cap', q1, q2, fun i hi => ?_⟩
        obtain ⟨b, off, r1, r2, r3, r4⟩ := q3 i hi
        exact ⟨b, off, r1, r2, Nat.lt_of_lt_of_le r3 hgeq, (HBQ.out.cell (p := ⟨b, off + i, none⟩) r3).trans r4⟩
      have HLI := Lib.hid hli'
      have hd2 : decide ((j : Int) < ((truA p).length : Int)) = true := by simp; omega
      have HNX := Lib.hid (many_next p k j hlj)
      have hll := leAll_long (truA p)[j].1 k
      rw [hl2] at hll
      have HLL := Lib.hid hll
      have hwj : IntKind.i64.wrap ((j : Int) + 1) = ((j + 1 : Nat) : Int) := by rw [IntWalk.i64_in _ (by omega)]; omega
      have hwm : IntKind.i64.wrap (((manyK p k j : Nat) : Int) + 1) = ((manyK p k j + 1 : Nat) : Int) := by rw [IntWalk.i64_in _ (by omega)]; omega
      clear hli hli' e1 e2 e3 hll hs1 hs2 hpw
      go_wp2_with fail
      have hlong := rlongest_any (truA p)[j].1 tv (truA p)[j].2 k (by omega) (RdI w3) wr HLI.out
      rw [hl2, HLL.out] at hlong
      refine hlong.mono ?_
      clear hlong d1 d2 d3
      rintro e w6 ⟨rfl, hb6⟩
      have HB6 := Lib.hid (HBQ.out.trans (hb6.mono hgeq))
      clear hb6
      cases hf : longT p.bs.length (truA p)[j].1 k
      all_goals have HF := Lib.hid hf
      all_goals clear hf
      all_goals go_wp2
      all_goals exact ⟨⟨j + 1, by omega, rfl, by rw [HNX.out, HF.out]; rfl, HB6.out⟩, by simp [intOf]; omega⟩

end Go.Proofs.Ytlgeggekmdoceaa

/- Least: the two orders of the search give the same. -/
namespace Go.Proofs.Ytlgeggekmdoceaa
set_option linter.unusedVariables false
set_option linter.unusedSimpArgs false
open Go.RowKit Go.Shelf

/-- The first greatest pair of a set, in the order of (a, b). -/
def Best (wid : Nat → Nat → Int) (S : Nat → Nat → Prop) (acc : Int × Int × Int) : Prop :=
  ((∀ c d, ¬ S c d) ∧ acc = (0, 0, -1)) ∨ ∃ a b : Nat, S a b ∧ acc = ((a : Int), (b : Int), wid a b) ∧ ∀ c d, S c d → wid c d < wid a b ∨ (wid c d = wid a b ∧ (a < c ∨ (a = c ∧ b ≤ d)))
theorem Best.uniq {wid : Nat → Nat → Int} {S : Nat → Nat → Prop} {x y : Int × Int × Int} (hx : Best wid S x) (hy : Best wid S y) : x = y := by
  rcases hx with ⟨h1, rfl⟩ | ⟨a, b, h1, rfl, h2⟩ <;> rcases hy with ⟨k1, rfl⟩ | ⟨c, d, k1, rfl, k2⟩
  · rfl
  · exact absurd k1 (h1 c d)
  · exact absurd h1 (k1 a b)
  · have e1 := h2 c d k1
    have e2 := k2 a b h1
    have ea : a = c := by omega
    subst ea
    have eb : b = d := by omega
    subst eb
    rfl
theorem Best.congr {wid : Nat → Nat → Int} {S T : Nat → Nat → Prop} {x : Int × Int × Int} (hx : Best wid S x) (h : ∀ c d, S c d ↔ T c d) : Best wid T x := by
  rcases hx with ⟨h1, rfl⟩ | ⟨a, b, h1, rfl, h2⟩
  · exact .inl ⟨fun c d k => h1 c d ((h c d).2 k), rfl⟩
  · exact .inr ⟨a, b, (h a b).1 h1, rfl, fun c d k => h2 c d ((h c d).2 k)⟩
/-- The reference's step: a later pair wins only if it is greater. -/
def stepR (wid : Nat → Nat → Int) (acc : Int × Int × Int) (a b : Nat) : Int × Int × Int := if acc.2.2 < wid a b then ((a : Int), (b : Int), wid a b) else acc
theorem best_stepR {wid : Nat → Nat → Int} {S : Nat → Nat → Prop} {acc : Int × Int × Int} (h : Best wid S acc) (a b : Nat) (hw : 0 ≤ wid a b) (hS : ∀ c d, S c d → c < a ∨ (c = a ∧ d < b)) :
    Best wid (fun c d => S c d ∨ (c = a ∧ d = b)) (stepR wid acc a b) := by
  unfold stepR
  rcases h with ⟨h1, rfl⟩ | ⟨x, y, h1, rfl, h2⟩
  · rw [if_pos (by show (-1 : Int) < _; omega)]
    refine .inr ⟨a, b, .inr ⟨rfl, rfl⟩, rfl, fun c d k => ?_⟩
    rcases k with k | ⟨rfl, rfl⟩
    · exact absurd k (h1 c d)
    · omega
  · dsimp only
    by_cases hlt : wid x y < wid a b
    · rw [if_pos hlt]
      refine .inr ⟨a, b, .inr ⟨rfl, rfl⟩, rfl, fun c d k => ?_⟩
      rcases k with k | ⟨rfl, rfl⟩
      · have := h2 c d k; omega
      · omega
    · rw [if_neg hlt]
      refine .inr ⟨x, y, .inl h1, rfl, fun c d k => ?_⟩
      rcases k with k | ⟨rfl, rfl⟩
      · exact h2 c d k
      · have := hS x y h1; omega
theorem best_stepT (p : PairD) {S : Nat → Nat → Prop} {acc : Int × Int × Int} (h : Best (widT p) S acc) (k i : Nat) (hw : 0 ≤ widT p k i) (hS : ∀ c d, S c d → d < i ∨ (d = i ∧ c < k)) :
    Best (widT p) (fun c d => S c d ∨ (c = k ∧ d = i)) (stepT p acc k i) := by
  unfold stepT
  rcases h with ⟨h1, rfl⟩ | ⟨x, y, h1, rfl, h2⟩
  · rw [if_pos (.inl (by show (-1 : Int) < _; omega))]
    refine .inr ⟨k, i, .inr ⟨rfl, rfl⟩, rfl, fun c d q => ?_⟩
    rcases q with q | ⟨rfl, rfl⟩
    · exact absurd q (h1 c d)
    · omega
  · dsimp only
    have hxy := hS x y h1
    by_cases hlt : widT p x y < widT p k i ∨ (widT p k i = widT p x y ∧ (k : Int) < (x : Int))
    · rw [if_pos hlt]
      refine .inr ⟨k, i, .inr ⟨rfl, rfl⟩, rfl, fun c d q => ?_⟩
      rcases q with q | ⟨rfl, rfl⟩
      · have := h2 c d q; omega
      · omega
    · rw [if_neg hlt]
      refine .inr ⟨x, y, .inl h1, rfl, fun c d q => ?_⟩
      rcases q with q | ⟨rfl, rfl⟩
      · exact h2 c d q
      · omega
theorem best_rowT (p : PairD) (hw : ∀ c d, 0 ≤ widT p c d) (i : Nat) (acc : Int × Int × Int) (h : Best (widT p) (fun c d => c < d ∧ d < i) acc) : ∀ k, k ≤ i → Best (widT p) (fun c d => c < d ∧ (d < i ∨ (d = i ∧ c < k))) (rowT p i acc k)
  | 0, _ => h.congr fun c d => by omega
  | k + 1, hk => (best_stepT p (best_rowT p hw i acc h k (by omega)) k i (hw k i) (fun c d q => q.2)).congr fun c d => by omega
theorem best_allT (p : PairD) (hw : ∀ c d, 0 ≤ widT p c d) : ∀ n, Best (widT p) (fun c d => c < d ∧ d < n) (allT p n)
  | 0 => .inl ⟨fun c d h => by omega, rfl⟩
  | i + 1 => (best_rowT p hw i (allT p i) (best_allT p hw i) i (Nat.le_refl _)).congr fun c d => by omega
/-- The reference's loops. -/
def rowR (p : PairD) (a : Nat) (acc : Int × Int × Int) : Nat → Int × Int × Int
  | 0 => acc
  | j + 1 => stepR (widT p) (rowR p a acc j) a (a + 1 + j)
def allR2 (p : PairD) (n : Nat) : Nat → Int × Int × Int
  | 0 => (0, 0, -1)
  | a + 1 => rowR p a (allR2 p n a) (n - (a + 1))
theorem best_rowR (p : PairD) (hw : ∀ c d, 0 ≤ widT p c d) (n a : Nat) (acc : Int × Int × Int) (h : Best (widT p) (fun c d => c < d ∧ d < n ∧ c < a) acc) : ∀ j, a + 1 + j ≤ n → Best (widT p) (fun c d => c < d ∧ d < n ∧ (c < a ∨ (c = a ∧ d < a + 1 + j))) (rowR p a acc j)
  | 0, _ => h.congr fun c d => by omega
  | j + 1, hj => (best_stepR (best_rowR p hw n a acc h j (by omega)) a (a + 1 + j) (hw _ _) (fun c d q => by omega)).congr fun c d => by omega
theorem best_allR (p : PairD) (hw : ∀ c d, 0 ≤ widT p c d) (n : Nat) : ∀ a, a ≤ n → Best (widT p) (fun c d => c < d ∧ d < n ∧ c < a) (allR2 p n a)
  | 0, _ => .inl ⟨fun c d h => by omega, rfl⟩
  | a + 1, ha => (best_rowR p hw n a (allR2 p n a) (best_allR p hw n a (by omega)) (n - (a + 1)) (by omega)).congr fun c d => by omega
theorem allT_eq (p : PairD) (hw : ∀ c d, 0 ≤ widT p c d) (n : Nat) : allR2 p n n = allT p n :=
  ((best_allR p hw n n (Nat.le_refl _)).congr fun c d => by omega).uniq (best_allT p hw n)
theorem hull_width : ∀ (l : List (Int × Int)) (s : Int × Int), s.1 ≤ s.2 → (l.foldl (fun s x => (min s.1 x.1, max s.2 x.2)) s).1 ≤ (l.foldl (fun s x => (min s.1 x.1, max s.2 x.2)) s).2
  | [], s, h => h
  | x :: l, s, h => hull_width l _ (by dsimp only; omega)
theorem widT_nonneg (p : PairD) (c d : Nat) : 0 ≤ widT p c d := by
  have : (hullD p c d).1 ≤ (hullD p c d).2 := by
    unfold hullD
    cases h : truA p with
    | nil => exact Int.le_refl _
    | cons t l => exact hull_width _ _ (Int.le_refl _)
  show 0 ≤ (hullD p c d).2 - (hullD p c d).1
  omega
end Go.Proofs.Ytlgeggekmdoceaa

/- The reference: Least. -/
namespace Go.Proofs.Ytlgeggekmdoceaa
set_option linter.unusedVariables false
set_option linter.unusedSimpArgs false
open Go.RowKit Go.Shelf
attribute [local go_sem] Oper.semAt_some

theorem hullD_b (p : PairD) (hp : OkP p) (hne : truA p ≠ []) (c d : Nat) : -2000 ≤ (hullD p c d).1 ∧ (hullD p c d).1 ≤ 2000 ∧ -2000 ≤ (hullD p c d).2 ∧ (hullD p c d).2 ≤ 2000 := by
  obtain ⟨⟨a, ha, ha1⟩, ⟨b, hb, hb1⟩, _⟩ := hullOf_is ((truA p).map fun t => (t.1.getD c 0 - t.1.getD d 0, t.1.getD c 0 - t.1.getD d 0)) (by simpa using hne)
  obtain ⟨t, ht, rfl⟩ := List.mem_map.1 ha
  obtain ⟨u, hu, rfl⟩ := List.mem_map.1 hb
  have h1 := truA_b p hp t ht c
  have h2 := truA_b p hp t ht d
  have h3 := truA_b p hp u hu c
  have h4 := truA_b p hp u hu d
  unfold hullD
  rw [← ha1, ← hb1]
  dsimp only
  omega
theorem leastV_fail (p : PairD) (er : Int) (h : ∀ S, toldV p true S = ((0, 0), er)) : leastV p = ((0, 0, 0), er) := by
  have h := h (1, 0)
  unfold toldV at h
  unfold leastV
  by_cases hv : validB p = false
  · rw [if_pos hv] at h ⊢
    rw [← (Prod.mk.inj h).2]
  · rw [if_neg hv] at h ⊢
    rw [if_neg (by decide)] at h
    by_cases ht : truA p = []
    · rw [if_pos ht] at h ⊢
      rw [← (Prod.mk.inj h).2]
    · rw [if_neg ht] at h
      exact absurd (Prod.mk.inj (Prod.mk.inj h).1).1 (by decide)
theorem leastV_ok (p : PairD) (hv : validB p = true) (ht : truA p ≠ []) : leastV p = if p.bs.length ≤ 1 then ((0, 0, 0), 4) else (allR2 p p.bs.length p.bs.length, 0) := by
  unfold leastV
  rw [if_neg (by simp [hv]), if_neg ht, allT_eq p (widT_nonneg p)]
def acc3 (x : Int × Int × Int) (a b c : Value) : Prop := a = .int .i64 x.1 ∧ b = .int .i64 x.2.1 ∧ c = .int .i64 x.2.2
set_option maxRecDepth 100000 in
set_option maxHeartbeats 800000 in
theorem rleastp_any (p : PairD) (bs rs : Value) (hcnt : validB p = true → (truA p).length ≤ 1000000) (w : World) (hpa : PairAt w p bs rs) :
    Calls Try.prog 24 #[.agg (pairRow p bs rs)] w fun e w' => e = .returned (.tuple #[.int .i64 (leastV p).1.1, .int .i64 (leastV p).1.2.1, .int .i64 (leastV p).1.2.2, .int .i64 (leastV p).2]) ∧ Below w.heap.size w w' := by
  obtain ⟨ao, cap, hbse, _⟩ := id hpa.b
  subst hbse
  obtain ⟨ao2, cap2, hrse, _⟩ := id hpa.r
  subst hrse
  obtain ⟨W0, hW0⟩ : ∃ W0, W0 = w.alloc (.cells (pairRow p (.slice ao p.bs.length cap) (.slice ao2 p.rs.length cap2)) 27 (0, 0)) := ⟨_, rfl⟩
  have hb0 : Below w.heap.size w W0 := by rw [hW0]; exact (Below.refl _ _).alloc (Nat.le_refl _) _
  have hr1 : W0.heap[w.heap.size]? = some (pairObj p (.slice ao p.bs.length cap) (.slice ao2 p.rs.length cap2)) := by rw [hW0]; exact heap_alloc_at _ _ _ rfl
  have hsw : W0.heap.size = w.heap.size + 1 := by rw [hW0]; simp
  have HB0 := Lib.hid hb0
  have HR1 := Lib.hid hr1
  have HPA := Lib.hid (hpa.later hb0)
  have HC := Lib.hid hcnt
  have rows : ∀ W', Below W0.heap.size W0 W' → (W'.cell? ⟨w.heap.size, 0, none⟩ = some (.slice ao p.bs.length cap) ∧ W'.cell? ⟨w.heap.size, 1, none⟩ = some (.int .i64 p.zl) ∧ W'.cell? ⟨w.heap.size, 2, none⟩ = some (.int .i64 p.zh) ∧
        W'.cell? ⟨w.heap.size, 3, none⟩ = some (.int .i64 p.rl) ∧ W'.cell? ⟨w.heap.size, 4, none⟩ = some (.int .i64 p.rh) ∧ W'.cell? ⟨w.heap.size, 5, none⟩ = some (.slice ao2 p.rs.length cap2)) := fun W' hb => by
    have q1 := (hb.block w.heap.size (by omega)).trans hr1
    unfold pairObj pairRow at q1
    refine ⟨?_, ?_, ?_, ?_, ?_, ?_⟩ <;> (rw [cell_of_row _ _ _ _ _ _ q1]; rfl)
  have ROWS := Lib.hid rows
  clear rows hb0 hr1 hpa hcnt
  unfold pairRow at hW0 ⊢
  obtain ⟨c0, c1, c2, c3, c4, c5⟩ := ROWS.out W0 (Below.refl _ _)
  go_enter Try.func24, Try.ntmps24
  go_wp2_with fail
  rw [← hW0]
  clear hW0
  refine (rtold_any p _ _ true HC.out W0 (by exact HPA.out)).mono ?_
  rintro e w3 ⟨⟨vl, er, rfl, ht⟩, hb3⟩
  have hge3 : w.heap.size + 1 ≤ w3.heap.size := by have := hb3.size; omega
  have HB3 := Lib.hid (HB0.out.trans (hb3.mono (by omega)))
  have HBW := Lib.hid hb3
  have HT := Lib.hid ht
  clear ht hb3 c0 c1 c2 c3 c4 c5
  by_cases her : er = 0
  case neg =>
    have hd : (er != 0) = true := by simpa using her
    have HER := Lib.hid her
    clear her
    go_wp2
    refine bodyPost_ret (v := .tuple #[.int .i64 0, .int .i64 0, .int .i64 0, .int .i64 er]) (by simp [results, Try.results24, go_sem]) rfl ⟨?_, HB3.out⟩
    rw [leastV_fail p er (fun S => toldR_fail HT.out HER.out S)]
  have HER := Lib.hid her
  subst her
  obtain ⟨HV, hv, hok, hne, TL, hta⟩ := toldR_ok HT.out rfl
  have hp := OkP.of p hv
  have hn5 := hp.n5
  have hn1 := hp.n1
  have HLV := Lib.hid (leastV_ok p hv hne)
  have HDB := Lib.hid (hullD_b p hp hne)
  have hlen : ∀ t ∈ truA p, t.1.length = p.bs.length := fun t ht => ((mem_truthsL p hp (allR p) t.1 t.2).1 ht).2.1
  have hbd : ∀ t ∈ truA p, ∀ i, -1000 ≤ t.1.getD i 0 ∧ t.1.getD i 0 ≤ 1000 := fun t ht i => truA_b p hp t ht i
  have hcl := HC.out hv
  obtain ⟨aot, capt, rfl⟩ := truths_form hta
  have HTA := Lib.hid hta
  have HLEN := Lib.hid hlen
  have HBD := Lib.hid hbd
  have HNE := Lib.hid hne
  obtain ⟨c0, _, _, _, _, _⟩ := ROWS.out w3 HBW.out
  clear HV hta hlen hbd hne
  by_cases hone : p.bs.length = 1
  · have hd : ((p.bs.length : Int) == 1) = true := by rw [hone]; rfl
    have HONE := Lib.hid hone
    clear hone
    go_wp2
    refine bodyPost_ret (v := .tuple #[.int .i64 0, .int .i64 0, .int .i64 0, .int .i64 4]) (by simp [results, Try.results24, go_sem]) rfl ⟨?_, HB3.out⟩
    rw [HLV.out, if_pos (by rw [HONE.out]; exact Nat.le_refl _)]
  have hd : ((p.bs.length : Int) == 1) = false := by simp; omega
  go_wp2_with fail
  clear c0
  go_loopw [8, 9, 10, 11] (fun a b c i wr => ∃ k : Nat, k ≤ p.bs.length ∧ i = .int .i64 k ∧ acc3 (allR2 p p.bs.length k) a b c ∧ Below w3.heap.size w3 wr) (fun _ _ _ i _ => p.bs.length - (intOf i).toNat)
  case atStart => exact ⟨0, by omega, rfl, ⟨rfl, rfl, rfl⟩, Below.refl _ _⟩
  case round =>
    obtain ⟨k, hk, rfl, ⟨rfl, rfl, rfl⟩, hb⟩ := hrel
    have HB := Lib.hid hb
    have hgew := hb.size
    obtain ⟨c0, _, _, _, _, _⟩ := ROWS.out wr (HBW.out.trans (hb.mono (by have := HBW.out.size; omega)))
    clear hb
    by_cases hlk : k < p.bs.length
    case neg =>
      have hkl : k = p.bs.length := by omega
      have hd2 : decide ((k : Int) < (p.bs.length : Int)) = false := by simp; omega
      have HRES := Lib.hid (show leastV p = (allR2 p p.bs.length k, 0) by rw [HLV.out, if_neg (by omega), hkl])
      clear hkl
      go_wp2
      refine bodyPost_ret (v := .tuple #[.int .i64 (allR2 p p.bs.length k).1, .int .i64 (allR2 p p.bs.length k).2.1, .int .i64 (allR2 p p.bs.length k).2.2, .int .i64 0]) (by simp [results, Try.results24, go_sem]) rfl ⟨?_, HB3.out.trans (HB.out.mono (by omega))⟩
      rw [HRES.out]
    have hd2 : decide ((k : Int) < (p.bs.length : Int)) = true := by simp; omega
    have hwk : IntKind.i64.wrap ((k : Int) + 1) = ((k + 1 : Nat) : Int) := by rw [IntWalk.i64_in _ (by omega)]; omega
    have HAN := Lib.hid (show allR2 p p.bs.length (k + 1) = rowR p k (allR2 p p.bs.length k) (p.bs.length - (k + 1)) from rfl)
    go_wp2_with fail
    clear c0
    obtain ⟨wa, rfl⟩ : ∃ wa, wa = wr := ⟨_, rfl⟩
    go_loopw [8, 9, 10, 12] (fun a b c i wq => ∃ j : Nat, j ≤ p.bs.length - (k + 1) ∧ i = .int .i64 ((k + 1 + j : Nat) : Int) ∧ acc3 (rowR p k (allR2 p p.bs.length k) j) a b c ∧ Below w3.heap.size w3 wq) (fun _ _ _ i _ => p.bs.length - (intOf i).toNat)
    case atStart => exact ⟨0, by omega, rfl, ⟨rfl, rfl, rfl⟩, HB.out⟩
    case round =>
      obtain ⟨j, hj, rfl, ⟨rfl, rfl, rfl⟩, hbq⟩ := hrel
      have HBQ := Lib.hid hbq
      have hgeq := hbq.size
      obtain ⟨c0, _, _, _, _, _⟩ := ROWS.out wr (HBW.out.trans (hbq.mono (by have := HBW.out.size; omega)))
      clear hbq
      obtain ⟨i2, hi2⟩ : ∃ i2, i2 = k + 1 + j := ⟨_, rfl⟩
      rw [← hi2]
      by_cases hlj : i2 < p.bs.length
      case neg =>
        have hjl : j = p.bs.length - (k + 1) := by omega
        have HJL := Lib.hid hjl
        have hd3 : decide ((i2 : Int) < (p.bs.length : Int)) = false := by simp; omega
        clear hjl
        go_wp2
        exact ⟨⟨k + 1, by omega, rfl, by rw [HAN.out, ← HJL.out]; exact ⟨rfl, rfl, rfl⟩, HBQ.out⟩, by simp [intOf]; omega⟩
      have hd3 : decide ((i2 : Int) < (p.bs.length : Int)) = true := by simp; omega
      have hwi : IntKind.i64.wrap ((i2 : Int) + 1) = ((k + 1 + (j + 1) : Nat) : Int) := by rw [IntWalk.i64_in _ (by omega)]; omega
      have HRN := Lib.hid (show rowR p k (allR2 p p.bs.length k) (j + 1) = stepR (widT p) (rowR p k (allR2 p p.bs.length k) j) k i2 by rw [hi2]; rfl)
      have HI2 := Lib.hid hi2
      have hjn : j + 1 ≤ p.bs.length - (k + 1) := by omega
      clear hi2
      go_wp2_with fail
      clear c0
      refine (rdiffer_any (truA p) HNE.out p.bs.length HLEN.out HBD.out hcl k i2 hlk hlj _ _ TL wr (HTA.out.later HBQ.out)).mono ?_
      rintro e w5 ⟨he, hb5⟩
      rw [show hullOf (((truA p).map (difT k i2)).map dupI) = hullD p k i2 by unfold hullD; rw [List.map_map]; rfl] at he
      have HB5 := Lib.hid (HBQ.out.trans (hb5.mono hgeq))
      have hge5 : w3.heap.size ≤ w5.heap.size := by have := hb5.size; omega
      have hdb := HDB.out k i2
      have HW := Lib.hid (show widT p k i2 = (hullD p k i2).2 - (hullD p k i2).1 from rfl)
      generalize hullD p k i2 = S at *
      obtain ⟨lo, hi⟩ := S
      dsimp only at hdb
      subst he
      have hws : IntKind.i64.wrap (hi - lo) = hi - lo := IntWalk.i64_in _ (by omega)
      clear hb5 hdb
      unfold spanV
      dsimp only
      have hacc : Hid (stepR (widT p) (rowR p k (allR2 p p.bs.length k) j) k i2 = if (rowR p k (allR2 p p.bs.length k) j).2.2 < hi - lo then ((k : Int), (i2 : Int), hi - lo) else rowR p k (allR2 p p.bs.length k) j) := by
        show _ = _
        unfold stepR
        rw [HW.out]
      obtain ⟨x, hx⟩ : ∃ x, x = rowR p k (allR2 p p.bs.length k) j := ⟨_, rfl⟩
      rw [← hx] at hacc ⊢
      have HX := Lib.hid hx
      clear hx
      by_cases hlt : x.2.2 < hi - lo
      · have hd4 : decide (x.2.2 < hi - lo) = true := by simpa using hlt
        have HST := Lib.hid (show rowR p k (allR2 p p.bs.length k) (j + 1) = ((k : Int), (i2 : Int), hi - lo) by rw [HRN.out, ← HX.out, hacc.out, if_pos hlt])
        clear hlt
        go_wp2_with fail
        go_region_held3 (fun W' => W'.cell? ⟨w5.heap.size, 0, none⟩ = some (.int .i64 lo) ∧ W'.cell? ⟨w5.heap.size, 1, none⟩ = some (.int .i64 hi))
          (first | exact ⟨by rw [cell_of_row _ _ _ _ _ _ (show (w5.alloc (.cells #[.int .i64 lo, .int .i64 hi] 24)).drew.heap[w5.heap.size]? = _ from heap_alloc_at _ _ _ rfl)]; rfl, by rw [cell_of_row _ _ _ _ _ _ (show (w5.alloc (.cells #[.int .i64 lo, .int .i64 hi] 24)).drew.heap[w5.heap.size]? = _ from heap_alloc_at _ _ _ rfl)]; rfl⟩)
          (first | (fail))
        all_goals go_wp2
        all_goals exact ⟨⟨j + 1, hjn, by first | rfl | (congr 1; omega), by rw [HST.out]; exact ⟨rfl, rfl, rfl⟩, (HB5.out.alloc hge5 _).drew⟩, by have := HI2.out; simp [intOf]; omega⟩
      · have hd4 : decide (x.2.2 < hi - lo) = false := by simpa using hlt
        have HST := Lib.hid (show rowR p k (allR2 p p.bs.length k) (j + 1) = x by rw [HRN.out, ← HX.out, hacc.out, if_neg hlt])
        clear hlt
        go_wp2_with fail
        exact ⟨⟨j + 1, hjn, by first | rfl | (congr 1; omega), by rw [HST.out]; exact ⟨rfl, rfl, rfl⟩, HB5.out.alloc hge5 _⟩, by have := HI2.out; simp [intOf]; omega⟩

end Go.Proofs.Ytlgeggekmdoceaa

/- The law's own heavy. -/
namespace Go.Proofs.Ytlgeggekmdoceaa
set_option linter.unusedVariables false
set_option linter.unusedSimpArgs false
open Go.RowKit Go.Shelf
attribute [local go_sem] Oper.semAt_some

def prodK (p : PairD) : Nat → Int
  | 0 => (p.zh - p.zl + 1) * (p.rh - p.rl + 1)
  | k + 1 => prodK p k * ((p.bs.getD k (0, 0)).2 - (p.bs.getD k (0, 0)).1 + 1)
theorem mul_le_le {a b A B : Int} (h1 : 0 ≤ a) (h2 : a ≤ A) (h3 : 0 ≤ b) (h4 : b ≤ B) : 0 ≤ a * b ∧ a * b ≤ A * B :=
  ⟨Int.mul_nonneg h1 h3, Int.mul_le_mul h2 h4 h3 (by omega)⟩
theorem prodK_b (p : PairD) (hp : OkP p) : ∀ k, k ≤ p.bs.length → 0 ≤ prodK p k ∧ prodK p k ≤ 231 * ((41 ^ k : Nat) : Int)
  | 0, _ => by
    have h1 := hp.zz
    have h2 := hp.rr
    have := mul_le_le (a := p.zh - p.zl + 1) (A := 21) (b := p.rh - p.rl + 1) (B := 11) (by omega) (by omega) (by omega) (by omega)
    unfold prodK
    simpa using this
  | k + 1, hk => by
    have ih := prodK_b p hp k (by omega)
    have hlk : k < p.bs.length := by omega
    have hb := hp.bs _ (List.getElem_mem hlk)
    have e : p.bs.getD k (0, 0) = p.bs[k] := by rw [List.getD_eq_getElem?_getD, List.getElem?_eq_getElem hlk]; rfl
    have := mul_le_le (a := prodK p k) (A := 231 * ((41 ^ k : Nat) : Int)) (b := p.bs[k].2 - p.bs[k].1 + 1) (B := 41) ih.1 ih.2 (by omega) (by omega)
    unfold prodK
    rw [e]
    refine ⟨this.1, Int.le_trans this.2 ?_⟩
    rw [Nat.pow_succ]
    push_cast
    rw [Int.mul_assoc]
    exact Int.le_refl _
theorem prodK_small (p : PairD) (hp : OkP p) (k : Nat) (hk : k ≤ p.bs.length) : 0 ≤ prodK p k ∧ prodK p k ≤ 1000000000000 := by
  have h := prodK_b p hp k hk
  have h5 := hp.n5
  have : 41 ^ k ≤ 41 ^ 5 := Nat.pow_le_pow_right (by decide) (by omega)
  have e : (41 : Nat) ^ 5 = 115856201 := by decide
  omega
def farP (p : PairD) : Bool := decide (40 < max p.bs.length p.rs.length)
def heavyV (p : PairD) (ways : Int) : Bool := if farP p = true then true else if validB p = false then false else decide (ways < prodK p p.bs.length)
set_option maxRecDepth 100000 in
set_option maxHeartbeats 2000000 in
theorem heavy_any (p : PairD) (bs rs : Value) (ways : Int) (w : World) (hpa : PairAt w p bs rs) :
    Calls Try.prog 13 #[.agg (pairRow p bs rs), .int .i64 ways] w fun e w' => e = .returned (.bool (heavyV p ways)) ∧ Below w.heap.size w w' := by
  obtain ⟨ao, cap, hbse, _⟩ := id hpa.b
  subst hbse
  obtain ⟨ao2, cap2, hrse, _⟩ := id hpa.r
  subst hrse
  obtain ⟨W0, hW0⟩ : ∃ W0, W0 = w.alloc (.cells (pairRow p (.slice ao p.bs.length cap) (.slice ao2 p.rs.length cap2)) 27 (0, 0)) := ⟨_, rfl⟩
  have hb0 : Below w.heap.size w W0 := by rw [hW0]; exact (Below.refl _ _).alloc (Nat.le_refl _) _
  have hr1 : W0.heap[w.heap.size]? = some (pairObj p (.slice ao p.bs.length cap) (.slice ao2 p.rs.length cap2)) := by rw [hW0]; exact heap_alloc_at _ _ _ rfl
  have hsw : W0.heap.size = w.heap.size + 1 := by rw [hW0]; simp
  have HB0 := Lib.hid hb0
  have HR1 := Lib.hid hr1
  have HPA := Lib.hid (hpa.later hb0)
  have rows : ∀ W', Below W0.heap.size W0 W' → (W'.cell? ⟨w.heap.size, 0, none⟩ = some (.slice ao p.bs.length cap) ∧ W'.cell? ⟨w.heap.size, 1, none⟩ = some (.int .i64 p.zl) ∧ W'.cell? ⟨w.heap.size, 2, none⟩ = some (.int .i64 p.zh) ∧
        W'.cell? ⟨w.heap.size, 3, none⟩ = some (.int .i64 p.rl) ∧ W'.cell? ⟨w.heap.size, 4, none⟩ = some (.int .i64 p.rh) ∧ W'.cell? ⟨w.heap.size, 5, none⟩ = some (.slice ao2 p.rs.length cap2)) := fun W' hb => by
    have q1 := (hb.block w.heap.size (by omega)).trans hr1
    unfold pairObj pairRow at q1
    refine ⟨?_, ?_, ?_, ?_, ?_, ?_⟩ <;> (rw [cell_of_row _ _ _ _ _ _ q1]; rfl)
  have ROWS := Lib.hid rows
  clear rows hb0 hr1 hpa
  unfold pairRow at hW0 ⊢
  obtain ⟨ao', cap', hae, _, _, hel⟩ := id HPA.out.b
  obtain ⟨rfl, _, rfl⟩ := Value.slice.inj hae
  clear hae
  have HEL := Lib.hid hel
  clear hel
  obtain ⟨c0, c1, c2, c3, c4, c5⟩ := ROWS.out W0 (Below.refl _ _)
  go_enter Try.func13, Try.ntmps13
  go_wp2_with fail
  rw [← hW0]
  clear hW0
  refine (long_any p p.bs.length cap p.rs.length cap2 ao ao2 W0).mono ?_
  rintro e w1 ⟨he, hb1⟩
  rw [show decide (40 < max p.bs.length p.rs.length) = farP p from rfl] at he
  subst he
  have HB1 := Lib.hid (HB0.out.trans (hb1.mono (by omega)))
  have HBW := Lib.hid hb1
  have HPA1 := Lib.hid (HPA.out.later hb1)
  have hge1 := hb1.size
  clear hb1 c0 c1 c2 c3 c4 c5
  obtain ⟨c0, c1, c2, c3, c4, c5⟩ := ROWS.out w1 HBW.out
  cases hl : farP p with
  | true =>
    have HL := Lib.hid hl
    clear hl
    go_wp2_with fail
    clear c0 c1 c2 c3 c4 c5
    refine (long_any p p.bs.length cap p.rs.length cap2 ao ao2 w1).mono ?_
    rintro e w2 ⟨he, hb2⟩
    rw [show decide (40 < max p.bs.length p.rs.length) = farP p from rfl, HL.out] at he
    subst he
    have HB2 := Lib.hid (HB1.out.trans (hb2.mono (by omega)))
    clear hb2
    go_wp2
    go_ret
    refine ⟨?_, HB2.out⟩
    unfold heavyV
    rw [if_pos HL.out]
    rfl
  | false =>
    have HL := Lib.hid hl
    clear hl
    go_wp2_with fail
    clear c0 c1 c2 c3 c4 c5
    refine (rpair_any (p := p) HPA1.out).mono ?_
    rintro e w2 ⟨rfl, hb2⟩
    have hb2' : Below W0.heap.size W0 w2 := HBW.out.trans (hb2.mono hge1)
    have HB2 := Lib.hid (HB0.out.trans (hb2'.mono (by omega)))
    have HBW2 := Lib.hid hb2'
    obtain ⟨c0, c1, c2, c3, c4, c5⟩ := ROWS.out w2 hb2'
    have hge2 := hb2'.size
    clear hb2 hb2'
    cases hv : validB p with
    | false =>
      have HV := Lib.hid hv
      clear hv
      go_wp2_with fail
      clear c0 c1 c2 c3 c4 c5
      refine (long_any p p.bs.length cap p.rs.length cap2 ao ao2 w2).mono ?_
      rintro e w3 ⟨he, hb3⟩
      rw [show decide (40 < max p.bs.length p.rs.length) = farP p from rfl, HL.out] at he
      subst he
      have HB3 := Lib.hid (HB2.out.trans (hb3.mono (by omega)))
      clear hb3
      go_wp2
      go_ret
      refine ⟨?_, HB3.out⟩
      unfold heavyV
      rw [if_neg (by rw [HL.out]; decide), if_pos HV.out]
      rfl
    | true =>
      have hp := OkP.of p hv
      have h1 := hp.zz
      have h2 := hp.rr
      have HV := Lib.hid hv
      clear hv
      have hw1 : IntKind.i64.wrap (p.zh - p.zl) = p.zh - p.zl := IntWalk.i64_in _ (by omega)
      have hw2 : IntKind.i64.wrap (p.zh - p.zl + 1) = p.zh - p.zl + 1 := IntWalk.i64_in _ (by omega)
      have hw3 : IntKind.i64.wrap (p.rh - p.rl) = p.rh - p.rl := IntWalk.i64_in _ (by omega)
      have hw4 : IntKind.i64.wrap (p.rh - p.rl + 1) = p.rh - p.rl + 1 := IntWalk.i64_in _ (by omega)
      have hps := prodK_small p hp 0 (Nat.zero_le _)
      have hw5 : IntKind.i64.wrap ((p.zh - p.zl + 1) * (p.rh - p.rl + 1)) = prodK p 0 := by rw [show (p.zh - p.zl + 1) * (p.rh - p.rl + 1) = prodK p 0 from rfl]; exact IntWalk.i64_in _ (by omega)
      clear hps h1 h2
      go_wp2_with fail
      clear c0 c1 c2 c3 c4 c5
      go_loopw [5, 37] (fun m i wr => ∃ k : Nat, k ≤ p.bs.length ∧ i = .int .i64 k ∧ m = .int .i64 (prodK p k) ∧ Below W0.heap.size W0 wr) (fun _ i _ => p.bs.length - (intOf i).toNat)
      case atStart => exact ⟨0, by omega, rfl, rfl, HBW2.out⟩
      case round =>
        obtain ⟨k, hk, rfl, rfl, hb⟩ := hrel
        have HB := Lib.hid hb
        have hgew := hb.size
        clear hb
        have hn5 := hp.n5
        by_cases hlk : k < p.bs.length
        case neg =>
          have hkl : k = p.bs.length := by omega
          have HKL := Lib.hid hkl
          have hd : decide ((k : Int) < (p.bs.length : Int)) = false := by simp; omega
          clear hkl
          go_wp2
          go_ret
          refine ⟨?_, HB0.out.trans (HB.out.mono (by omega))⟩
          unfold heavyV
          rw [if_neg (by rw [HL.out]; decide), if_neg (by rw [HV.out]; decide), ← HKL.out]
          rfl
        have hd : decide ((k : Int) < (p.bs.length : Int)) = true := by simp; omega
        obtain ⟨b, off, rfl, _, hbl, e1, e2⟩ := HEL.out k hlk
        have f1 := (HB.out.cell (p := ⟨b, off + k * 2, none⟩) hbl).trans e1
        have f2 := (HB.out.cell (p := ⟨b, off + k * 2 + 1, none⟩) hbl).trans e2
        have hb := hp.bs _ (List.getElem_mem hlk)
        have e : p.bs.getD k (0, 0) = p.bs[k] := by rw [List.getD_eq_getElem?_getD, List.getElem?_eq_getElem hlk]; rfl
        have hps := prodK_small p hp (k + 1) hlk
        have hpk := show prodK p (k + 1) = prodK p k * (p.bs[k].2 - p.bs[k].1 + 1) by rw [← e]; rfl
        have HPK := Lib.hid hpk
        have hwp : IntKind.i64.wrap (prodK p k * (p.bs[k].2 - p.bs[k].1 + 1)) = prodK p (k + 1) := by rw [← hpk]; exact IntWalk.i64_in _ (by omega)
        have hwa : IntKind.i64.wrap (p.bs[k].2 - p.bs[k].1) = p.bs[k].2 - p.bs[k].1 := IntWalk.i64_in _ (by omega)
        have hwb : IntKind.i64.wrap (p.bs[k].2 - p.bs[k].1 + 1) = p.bs[k].2 - p.bs[k].1 + 1 := IntWalk.i64_in _ (by omega)
        have hwk : IntKind.i64.wrap ((k : Int) + 1) = ((k + 1 : Nat) : Int) := by rw [IntWalk.i64_in _ (by omega)]; omega
        clear e1 e2 hb e hps hpk
        go_wp2
        exact ⟨⟨k + 1, by omega, by first | rfl | (congr 1; omega), rfl, HB.out.alloc hgew _⟩, by simp [intOf]; omega⟩

end Go.Proofs.Ytlgeggekmdoceaa

/- How many truths there are, at most (plain). -/
namespace Go.Proofs.Ytlgeggekmdoceaa
set_option linter.unusedVariables false
set_option linter.unusedSimpArgs false

def widB (p : PairD) (i : Nat) : Nat := ((p.bs.getD i (0, 0)).2 - (p.bs.getD i (0, 0)).1 + 1).toNat
def tailP (p : PairD) : Nat → Nat → Nat
  | 0, _ => 1
  | n + 1, i => widB p i * tailP p n (i + 1)
theorem sum_le_of {α : Type} (f : α → Nat) (b : Nat) : ∀ l : List α, (∀ x ∈ l, f x ≤ b) → (l.map f).sum ≤ l.length * b
  | [], _ => by simp
  | x :: l, h => by
    have h1 := h x List.mem_cons_self
    have h2 := sum_le_of f b l (fun y hy => h y (List.mem_cons_of_mem _ hy))
    rw [List.map_cons, List.sum_cons, List.length_cons, Nat.add_mul]
    omega
theorem fromL_le (p : PairD) (s : Nat) (c : Int × Int) : ∀ (n : Nat) (x : List Int), (fromL p s c n x).length ≤ tailP p n x.length
  | 0, x => by unfold fromL tailP; split <;> simp
  | n + 1, x => by
    unfold fromL tailP
    split
    · rw [List.length_flatMap]
      refine Nat.le_trans (sum_le_of _ (tailP p n (x.length + 1)) _ fun k _ => ?_) ?_
      · have := fromL_le p s c n (x ++ [k])
        rwa [List.length_append, List.length_singleton] at this
      · refine Nat.le_of_eq ?_
        congr 1
        simp [spanL, widB]
    · simp
theorem truthsL_le (p : PairD) (s : Nat) : (truthsL p s).length ≤ (wideN p.zl p.zh * wideN p.rl p.rh) * tailP p p.bs.length 0 := by
  unfold truthsL
  rw [List.length_flatMap]
  refine Nat.le_trans (sum_le_of _ (tailP p p.bs.length 0) _ fun c _ => ?_) (Nat.le_of_eq (by rw [comps_length]))
  rw [List.length_map]
  exact fromL_le p s c _ []
theorem prod_tail (p : PairD) (hp : OkP p) : ∀ n i, i + n = p.bs.length → prodK p (i + n) = prodK p i * (tailP p n i : Nat)
  | 0, i, _ => by simp [tailP]
  | n + 1, i, h => by
    have ih := prod_tail p hp n (i + 1) (by omega)
    have hlk : i < p.bs.length := by omega
    have hb := hp.bs _ (List.getElem_mem hlk)
    have e : p.bs.getD i (0, 0) = p.bs[i] := by rw [List.getD_eq_getElem?_getD, List.getElem?_eq_getElem hlk]; rfl
    rw [show i + (n + 1) = i + 1 + n by omega, ih]
    show prodK p i * ((p.bs.getD i (0, 0)).2 - (p.bs.getD i (0, 0)).1 + 1) * ((tailP p n (i + 1) : Nat) : Int) = prodK p i * ((widB p i * tailP p n (i + 1) : Nat) : Int)
    have hw : ((widB p i : Nat) : Int) = (p.bs.getD i (0, 0)).2 - (p.bs.getD i (0, 0)).1 + 1 := by
      unfold widB
      rw [e]
      omega
    rw [← hw, Int.natCast_mul, Int.mul_assoc]
theorem truths_count (p : PairD) (s : Nat) (ways : Int) (h : heavyV p ways = false) (hv : validB p = true) : ((truthsL p s).length : Int) ≤ ways := by
  have hp := OkP.of p hv
  unfold heavyV at h
  rw [hv] at h
  cases hf : farP p with
  | true => rw [hf] at h; simp at h
  | false =>
    rw [hf] at h
    simp only [Bool.false_eq_true, if_false, Bool.true_eq_false, decide_eq_false_iff_not] at h
    have h1 := truthsL_le p s
    have h2 := prod_tail p hp p.bs.length 0 (by omega)
    rw [Nat.zero_add] at h2
    have h0 : prodK p 0 = ((wideN p.zl p.zh * wideN p.rl p.rh : Nat) : Int) := by
      have := hp.zz
      have := hp.rr
      unfold prodK wideN
      rw [Int.natCast_mul, Int.toNat_of_nonneg (by omega), Int.toNat_of_nonneg (by omega)]
    rw [h0, ← Int.natCast_mul] at h2
    omega
theorem heavy_far {p : PairD} {ways : Int} (h : heavyV p ways = false) : p.bs.length ≤ 40 ∧ p.rs.length ≤ 40 := by
  unfold heavyV at h
  split at h
  · cases h
  · rename_i hf
    unfold farP at hf
    rw [decide_eq_true_eq] at hf
    omega

end Go.Proofs.Ytlgeggekmdoceaa

/- The reference: Groups. -/
namespace Go.Proofs.Ytlgeggekmdoceaa
set_option linter.unusedVariables false
set_option linter.unusedSimpArgs false
open Go.RowKit Go.Shelf
attribute [local go_sem] Oper.semAt_some

/-- A row of ints that is the call's own. -/
def labO (l : List Int) : Obj := .cells ((l.map (Value.int .i64)).toArray) 3 (0, 0)
theorem infoInt3 : (Try.prog.info? 3).map (fun i => (i.zero, i.size, i.bytes)) = some (some (.int .i64 0), 1, 8) := by kernel_rfl
theorem lab_cell {W : World} {b : Nat} {l : List Int} (h : W.heap[b]? = some (labO l)) (i : Nat) (hi : i < l.length) : W.cell? ⟨b, i, none⟩ = some (.int .i64 l[i]) := by
  rw [cell_of_row W b i _ _ _ h]
  simp [hi]
theorem lab_frozen {W : World} {b : Nat} {l : List Int} (h : W.heap[b]? = some (labO l)) (i : Nat) : W.frozen? ⟨b, i, none⟩ = false := frozen_of_row W b i _ _ h
theorem lab_set {W : World} {b : Nat} {l : List Int} (h : W.heap[b]? = some (labO l)) (i : Nat) (v : Int) : (W.setCell ⟨b, i, none⟩ (.int .i64 v)).heap[b]? = some (labO (l.set i v)) := by
  unfold labO at *
  simp [World.setCell, Array.getElem?_modify, h, List.map_set]
theorem lab_made (n : Nat) : madeCells #[.int .i64 0] n = ((List.replicate n (0 : Int)).map (Value.int .i64)).toArray := by
  apply Array.toList_inj.1
  rw [toList_madeCells_one]
  simp
def initK (n k : Nat) : List Int := (List.range n).map fun i : Nat => if i < k then (i : Int) else 0
theorem initK_zero (n : Nat) : initK n 0 = List.replicate n 0 := by
  unfold initK
  apply List.ext_getElem <;> simp
theorem initK_all (p : PairD) : initK p.bs.length p.bs.length = labelsK p 0 := by
  unfold initK labelsK
  apply List.map_congr_left
  intro i hi
  rw [if_pos (List.mem_range.1 hi)]
theorem initK_next (n k : Nat) (h : k < n) : (initK n k).set k (k : Int) = initK n (k + 1) := by
  unfold initK
  apply List.ext_getElem
  · simp
  · intro i h1 h2
    rw [List.getElem_set]
    simp only [List.getElem_map, List.getElem_range]
    by_cases hik : k = i
    · subst hik; simp
    · rw [if_neg hik]
      by_cases h3 : i < k
      · rw [if_pos h3, if_pos (by omega)]
      · rw [if_neg h3, if_neg (by omega)]
theorem initK_length (n k : Nat) : (initK n k).length = n := by simp [initK]
theorem fold_length : ∀ (rs : List RdD) (l : List Int), (rs.foldl relaxR l).length = l.length
  | [], _ => rfl
  | r :: rs, l => by rw [List.foldl_cons, fold_length rs, relax_length]
theorem labels_length (p : PairD) : ∀ k, (labelsK p k).length = p.bs.length
  | 0 => by simp [labelsK]
  | k + 1 => by show (p.rs.foldl relaxR (labelsK p k)).length = _; rw [fold_length, labels_length p k]
def sweepK (p : PairD) (k j : Nat) : List Int := (p.rs.take j).foldl relaxR (labelsK p k)
theorem sweepK_next (p : PairD) (k j : Nat) (h : j < p.rs.length) : sweepK p k (j + 1) = relaxR (sweepK p k j) p.rs[j] := by
  unfold sweepK
  rw [List.take_succ_eq_append_getElem h, List.foldl_append]
  rfl
theorem sweepK_all (p : PairD) (k : Nat) : sweepK p k p.rs.length = labelsK p (k + 1) := by
  unfold sweepK
  rw [List.take_length]
  rfl
theorem sweepK_length (p : PairD) (k j : Nat) : (sweepK p k j).length = p.bs.length := by unfold sweepK; rw [fold_length, labels_length]
def ownK (p : PairD) (k : Nat) : Nat := ((List.range k).filter (ownL p)).length
theorem ownK_next (p : PairD) (k : Nat) : ownK p (k + 1) = ownK p k + (if ownL p k then 1 else 0) := by
  unfold ownK
  rw [List.range_succ, List.filter_append, List.length_append]
  congr 1
  cases h : ownL p k <;> simp [h]
theorem ownK_le (p : PairD) (k : Nat) : ownK p k ≤ k := by
  unfold ownK
  refine Nat.le_trans (List.length_filter_le _ _) ?_
  simp
set_option maxRecDepth 100000 in
set_option maxHeartbeats 4000000 in
theorem rgroups_any (p : PairD) (bs rs : Value) (w : World) (hpa : PairAt w p bs rs) :
    Calls Try.prog 26 #[.agg (pairRow p bs rs)] w fun e w' => e = .returned (.tuple #[.int .i64 (groupsV p).1, .int .i64 (groupsV p).2]) ∧ Below w.heap.size w w' := by
  obtain ⟨ao, cap, hbse, _⟩ := id hpa.b
  subst hbse
  obtain ⟨ao2, cap2, hrse, _⟩ := id hpa.r
  subst hrse
  obtain ⟨W0, hW0⟩ : ∃ W0, W0 = w.alloc (.cells (pairRow p (.slice ao p.bs.length cap) (.slice ao2 p.rs.length cap2)) 27 (0, 0)) := ⟨_, rfl⟩
  have hb0 : Below w.heap.size w W0 := by rw [hW0]; exact (Below.refl _ _).alloc (Nat.le_refl _) _
  have hr1 : W0.heap[w.heap.size]? = some (pairObj p (.slice ao p.bs.length cap) (.slice ao2 p.rs.length cap2)) := by rw [hW0]; exact heap_alloc_at _ _ _ rfl
  have hsw : W0.heap.size = w.heap.size + 1 := by rw [hW0]; simp
  have HB0 := Lib.hid hb0
  have HR1 := Lib.hid hr1
  have HPA := Lib.hid (hpa.later hb0)
  have rows : ∀ W', Below W0.heap.size W0 W' → (W'.cell? ⟨w.heap.size, 0, none⟩ = some (.slice ao p.bs.length cap) ∧ W'.cell? ⟨w.heap.size, 1, none⟩ = some (.int .i64 p.zl) ∧ W'.cell? ⟨w.heap.size, 2, none⟩ = some (.int .i64 p.zh) ∧
        W'.cell? ⟨w.heap.size, 3, none⟩ = some (.int .i64 p.rl) ∧ W'.cell? ⟨w.heap.size, 4, none⟩ = some (.int .i64 p.rh) ∧ W'.cell? ⟨w.heap.size, 5, none⟩ = some (.slice ao2 p.rs.length cap2)) := fun W' hb => by
    have q1 := (hb.block w.heap.size (by omega)).trans hr1
    unfold pairObj pairRow at q1
    refine ⟨?_, ?_, ?_, ?_, ?_, ?_⟩ <;> (rw [cell_of_row _ _ _ _ _ _ q1]; rfl)
  have ROWS := Lib.hid rows
  clear rows hb0 hr1 hpa
  unfold pairRow at hW0 ⊢
  obtain ⟨ao', cap', hae, _, _, hel⟩ := id HPA.out.r
  obtain ⟨rfl, _, rfl⟩ := Value.slice.inj hae
  clear hae
  have HE2 := Lib.hid hel
  clear hel
  obtain ⟨c0, c1, c2, c3, c4, c5⟩ := ROWS.out W0 (Below.refl _ _)
  go_enter Try.func26, Try.ntmps26
  go_wp2_with fail
  rw [← hW0]
  clear hW0
  refine (check_any p _ _ true W0 (by exact HPA.out)).mono ?_
  rintro e w2 ⟨rfl, hb2⟩
  have hge2 := hb2.size
  have HB2 := Lib.hid hb2
  clear hb2 c0 c1 c2 c3 c4 c5
  obtain ⟨c0, _, _, _, _, c5⟩ := ROWS.out w2 HB2.out
  cases hv : validB p with
  | false =>
    have hck : checkV p true = 1 := by unfold checkV; rw [hv]; rfl
    have HG := Lib.hid (show groupsV p = (0, 1) by unfold groupsV; rw [hv]; rfl)
    rw [hck]
    clear hck hv
    go_wp2
    refine bodyPost_ret (v := .tuple #[.int .i64 0, .int .i64 1]) (by simp [results, Try.results26, go_sem]) rfl ⟨?_, HB0.out.trans (HB2.out.mono (by omega))⟩
    rw [HG.out]
  | true =>
    have hck : checkV p true = 0 := by unfold checkV; rw [hv]; rfl
    have HG := Lib.hid (show groupsV p = (((ownK p p.bs.length : Nat) : Int), 0) by unfold groupsV; rw [hv]; rfl)
    rw [hck]
    have hp := OkP.of p hv
    have HP := Lib.hid hp
    have hn1 := hp.n1
    have hn5 := hp.n5
    have hm8 := hp.m8
    have hmk : (Instr.makeSlice 50 (.int .i64 p.bs.length) (.int .i64 p.bs.length)).run Try.prog w2 = .ok (.slice (some ⟨w2.heap.size, 0, none⟩) p.bs.length p.bs.length) (w2.alloc (labO (initK p.bs.length 0))) := by
      obtain ⟨i0, hi0, hz0, hz1, hz2⟩ := info_parts infoInt3
      have := run_makeSlice (P := Try.prog) (w := w2) 50 3 i0 _ (by kernel_rfl) hi0 hz0 .i64 .i64 p.bs.length p.bs.length (by omega) (by omega) (by rw [hz1]; simp; omega) (by rw [hz2]; omega) (by omega)
      rw [hz1] at this
      simp only [Value.cells, Nat.mul_one] at this
      rw [lab_made] at this
      rw [initK_zero]
      exact this
    have HMK := Lib.hid hmk
    clear hck hv hp hmk
    go_wp2_with fail
    rw [HMK.out]
    go_wp2_with fail
    obtain ⟨W3, hW3⟩ : ∃ W3, W3 = w2.alloc (labO (initK p.bs.length 0)) := ⟨_, rfl⟩
    have hb3 : Below W0.heap.size W0 W3 := by rw [hW3]; exact HB2.out.alloc hge2 _
    have hl3 : W3.heap[w2.heap.size]? = some (labO (initK p.bs.length 0)) := by rw [hW3]; exact heap_alloc_at _ _ _ rfl
    rw [← hW3]
    obtain ⟨L, hL⟩ : ∃ L, L = w2.heap.size := ⟨_, rfl⟩
    rw [← hL] at hl3 ⊢
    have hLge : W0.heap.size ≤ L := by omega
    have HB3 := Lib.hid hb3
    have HL3 := Lib.hid hl3
    clear hW3 hb3 hl3 hL c0 c5 HMK HB2 hge2
    go_loopw [6] (fun i wr => ∃ k : Nat, k ≤ p.bs.length ∧ i = .int .i64 k ∧ wr.heap[L]? = some (labO (initK p.bs.length k)) ∧ Below W0.heap.size W0 wr) (fun i _ => p.bs.length - (intOf i).toNat)
    case atStart => exact ⟨0, by omega, rfl, HL3.out, HB3.out⟩
    case round =>
      obtain ⟨k, hk, rfl, hl, hb⟩ := hrel
      have HL := Lib.hid hl
      have HB := Lib.hid hb
      have hgew := hb.size
      clear hl hb
      by_cases hlk : k < p.bs.length
      · have hd : decide ((k : Int) < (p.bs.length : Int)) = true := by simp; omega
        have q1 := lab_cell HL.out k (by rw [initK_length]; exact hlk)
        have q2 := lab_frozen HL.out k
        have HN := Lib.hid (initK_next p.bs.length k hlk)
        have hwk : IntKind.i64.wrap ((k : Int) + 1) = ((k + 1 : Nat) : Int) := by rw [IntWalk.i64_in _ (by omega)]; omega
        go_wp2
        exact ⟨⟨k + 1, by omega, by first | rfl | (congr 1; omega), by rw [← HN.out]; exact lab_set HL.out k _, HB.out.setCell (by exact hLge) _⟩, by simp [intOf]; omega⟩
      obtain rfl : k = p.bs.length := by omega
      have hd : decide ((p.bs.length : Int) < (p.bs.length : Int)) = false := by simp
      have HL0 := Lib.hid (show wr.heap[L]? = some (labO (labelsK p 0)) by rw [← initK_all]; exact HL.out)
      go_wp2_with fail
      obtain ⟨W4, hW4⟩ : ∃ W4, W4 = wr := ⟨_, rfl⟩
      subst hW4
      go_loopw [7] (fun i wr => ∃ k : Nat, k ≤ p.bs.length ∧ i = .int .i64 k ∧ wr.heap[L]? = some (labO (labelsK p k)) ∧ Below W0.heap.size W0 wr) (fun i _ => p.bs.length - (intOf i).toNat)
      case atStart => exact ⟨0, by omega, rfl, HL0.out, HB.out⟩
      case round =>
        obtain ⟨k, hk, rfl, hl, hb⟩ := hrel
        have HL := Lib.hid hl
        have HB := Lib.hid hb
        have hgew := hb.size
        clear hl hb
        by_cases hlk : k < p.bs.length
        · have hd : decide ((k : Int) < (p.bs.length : Int)) = true := by simp; omega
          have hwk : IntKind.i64.wrap ((k : Int) + 1) = ((k + 1 : Nat) : Int) := by rw [IntWalk.i64_in _ (by omega)]; omega
          go_wp2_with fail
          obtain ⟨W5, hW5⟩ : ∃ W5, W5 = wr := ⟨_, rfl⟩
          subst hW5
          go_loopw [8] (fun i wr => ∃ j : Nat, j ≤ p.rs.length ∧ i = .int .i64 j ∧ wr.heap[L]? = some (labO (sweepK p k j)) ∧ Below W0.heap.size W0 wr) (fun i _ => p.rs.length - (intOf i).toNat)
          case atStart => exact ⟨0, by omega, rfl, HL.out, HB.out⟩
          case round =>
            obtain ⟨j, hj, rfl, hl, hb⟩ := hrel
            have HL := Lib.hid hl
            have HB := Lib.hid hb
            have hgew := hb.size
            clear hl hb
            obtain ⟨_, _, _, _, _, c5⟩ := ROWS.out wr HB.out
            by_cases hlj : j < p.rs.length
            · have hd : decide ((j : Int) < (p.rs.length : Int)) = true := by simp; omega
              have hwj : IntKind.i64.wrap ((j : Int) + 1) = ((j + 1 : Nat) : Int) := by rw [IntWalk.i64_in _ (by omega)]; omega
              go_wp2_with fail
              have hp := HP.out
              have hrd := hp.rs _ (List.getElem_mem hlj)
              obtain ⟨b, off, rfl, _, hbl, e1, e2, _, _, _⟩ := HE2.out j hlj
              have f1 := (HB.out.cell (p := ⟨b, off + j * 5, none⟩) hbl).trans e1
              have f2 := (HB.out.cell (p := ⟨b, off + j * 5 + 1, none⟩) hbl).trans e2
              have hnx := sweepK_next p k j hlj
              unfold relaxR labA at hnx
              obtain ⟨na, hna⟩ : ∃ n : Nat, p.rs[j].a = n := ⟨p.rs[j].a.toNat, by omega⟩
              obtain ⟨nb, hnb⟩ : ∃ n : Nat, p.rs[j].b = n := ⟨p.rs[j].b.toNat, by omega⟩
              rw [hna] at f1 hrd hnx
              rw [hnb] at f2 hrd hnx
              simp only [Int.toNat_natCast] at hnx
              have hna1 : na < p.bs.length := by omega
              have hnb1 : nb < p.bs.length := by omega
              have r1 := lab_cell HL.out na (by rw [sweepK_length]; exact hna1)
              have r2 := lab_cell HL.out nb (by rw [sweepK_length]; exact hnb1)
              have g1 := lab_frozen HL.out na
              have g2 := lab_frozen HL.out nb
              rw [List.getD_eq_getElem?_getD, List.getD_eq_getElem?_getD, List.getElem?_eq_getElem (by rw [sweepK_length]; exact hna1), List.getElem?_eq_getElem (by rw [sweepK_length]; exact hnb1)] at hnx
              simp only [Option.getD_some] at hnx
              obtain ⟨la, hla⟩ : ∃ x, x = (sweepK p k j)[na]'(by rw [sweepK_length]; exact hna1) := ⟨_, rfl⟩
              obtain ⟨lb, hlb⟩ : ∃ x, x = (sweepK p k j)[nb]'(by rw [sweepK_length]; exact hnb1) := ⟨_, rfl⟩
              rw [← hla] at r1 hnx
              rw [← hlb] at r2 hnx
              obtain ⟨mn, hmn⟩ : ∃ x, x = min la lb := ⟨_, rfl⟩
              rw [← hmn] at hnx
              have hset1 : ∀ n, ((wr.drewN n).setCell ⟨L, na, none⟩ (.int .i64 mn)).heap[L]? = some (labO ((sweepK p k j).set na mn)) := fun n => lab_set (W := wr.drewN n) HL.out na mn
              have r3 := fun n => lab_cell (hset1 n) nb (by rw [List.length_set, sweepK_length]; exact hnb1)
              have g3 := fun n => lab_frozen (hset1 n) nb
              have HF := Lib.hid (fun n => lab_set (hset1 n) nb mn)
              have HBF : Hid (∀ n, Below W0.heap.size W0 (((wr.drewN n).setCell ⟨L, na, none⟩ (.int .i64 mn)).setCell ⟨L, nb, none⟩ (.int .i64 mn))) := fun n => ((show Below W0.heap.size W0 (wr.drewN n) from ⟨HB.out.os, HB.out.tape, HB.out.output, HB.out.size, HB.out.block⟩).setCell (by exact hLge) _).setCell (by exact hLge) _
              have HNX := Lib.hid hnx
              have HMN := Lib.hid hmn
              clear hp hna hnb e1 e2 hnx hla hlb hset1 hmn
              go_quiet (fail)
              go_wp2_with fail
              go_quiet (fail)
              have hm2 : (if lb < la then lb else la) = mn := by rw [HMN.out]; omega
              rw [hm2]
              clear hm2
              go_wp2
              exact ⟨⟨j + 1, by omega, by first | rfl | (congr 1; omega), by rw [HNX.out]; exact HF.out _, HBF.out _⟩, by simp [intOf]; omega⟩
            obtain rfl : j = p.rs.length := by omega
            have hd : decide ((p.rs.length : Int) < (p.rs.length : Int)) = false := by simp
            have HLN := Lib.hid (show wr.heap[L]? = some (labO (labelsK p (k + 1))) by rw [← sweepK_all]; exact HL.out)
            go_wp2
            exact ⟨⟨k + 1, by omega, by first | rfl | (congr 1; omega), HLN.out, HB.out⟩, by simp [intOf]; omega⟩
        obtain rfl : k = p.bs.length := by omega
        have hd : decide ((p.bs.length : Int) < (p.bs.length : Int)) = false := by simp
        go_wp2_with fail
        obtain ⟨W5, hW5⟩ : ∃ W5, W5 = wr := ⟨_, rfl⟩
        subst hW5
        go_loopw [12, 13] (fun m i wr => ∃ k : Nat, k ≤ p.bs.length ∧ i = .int .i64 k ∧ m = .int .i64 (ownK p k : Nat) ∧ wr = W5) (fun _ i _ => p.bs.length - (intOf i).toNat)
        case atStart => exact ⟨0, by omega, rfl, rfl, rfl⟩
        case round =>
          obtain ⟨k, hk, rfl, rfl, rfl⟩ := hrel
          by_cases hlk : k < p.bs.length
          · have hd : decide ((k : Int) < (p.bs.length : Int)) = true := by simp; omega
            have q1 := lab_cell HL.out k (by rw [labels_length]; exact hlk)
            have hle := ownK_le p k
            have HN := Lib.hid (ownK_next p k)
            have ho : ((labelsK p p.bs.length)[k]'(by rw [labels_length]; exact hlk) == (k : Int)) = ownL p k := by
              unfold ownL labA
              rw [Int.toNat_natCast, List.getD_eq_getElem?_getD, List.getElem?_eq_getElem (by rw [labels_length]; exact hlk)]
              rfl
            have hwk : IntKind.i64.wrap ((k : Int) + 1) = ((k + 1 : Nat) : Int) := by rw [IntWalk.i64_in _ (by omega)]; omega
            have hwm : IntKind.i64.wrap (((ownK p k : Nat) : Int) + 1) = ((ownK p k + 1 : Nat) : Int) := by rw [IntWalk.i64_in _ (by omega)]; omega
            generalize (labelsK p p.bs.length)[k]'(by rw [labels_length]; exact hlk) = x at *
            cases hb : ownL p k
            all_goals
              rw [hb] at ho
              have HO := Lib.hid hb
              clear hb
              go_wp2
              exact ⟨⟨k + 1, by omega, by first | rfl | (congr 1; omega), by rw [HN.out, HO.out]; rfl, by first | rfl | trivial⟩, by simp [intOf]; omega⟩
          obtain rfl : k = p.bs.length := by omega
          have hd : decide ((p.bs.length : Int) < (p.bs.length : Int)) = false := by simp
          go_wp2
          refine bodyPost_ret (v := .tuple #[.int .i64 (ownK p p.bs.length : Nat), .int .i64 0]) (by simp [results, Try.results26, go_sem]) rfl ⟨?_, HB0.out.trans (HB.out.mono (by omega))⟩
          rw [HG.out]

end Go.Proofs.Ytlgeggekmdoceaa

/- The reference: how many numbers a set has. -/
namespace Go.Proofs.Ytlgeggekmdoceaa
set_option linter.unusedVariables false
set_option linter.unusedSimpArgs false
open Go.RowKit Go.Shelf
attribute [local go_sem] Oper.semAt_some

theorem ones_half : ∀ t : Fin 256, t.val % 2 + ones (t.val / 2) = ones t.val := by decide +kernel
theorem ones_8 : ∀ t : Fin 256, ones t.val ≤ 8 := by decide +kernel
set_option maxHeartbeats 1000000 in
theorem size_any (s : Nat) (hs : s < 256) (w : World) : Calls Try.prog 43 #[.int .i64 s] w fun e w' => e = .returned (.int .i64 (ones s : Nat)) ∧ w = w' := by
  go_enter Try.func43, Try.ntmps43
  go_wp2
  go_loop [0, 3] (fun a b => ∃ c m : Nat, c < 256 ∧ m + ones c = ones s ∧ a = .int .i64 c ∧ b = .int .i64 m) (fun a _ => (intOf a).toNat)
  case atStart => exact ⟨s, 0, hs, by omega, rfl, rfl⟩
  case round =>
    obtain ⟨c, m, hc, hm, rfl, rfl⟩ := hrel
    have h8 := ones_8 ⟨s, hs⟩
    have hh := ones_half ⟨c, hc⟩
    dsimp only at h8 hh
    have HM := Lib.hid hm
    have HH := Lib.hid hh
    have hm8 : m ≤ 8 := by omega
    clear hm hh h8
    by_cases h0 : 0 < c
    · have hd : decide ((0 : Int) < (c : Int)) = true := by simp; omega
      go_wp2
      exact ⟨⟨c / 2, m + c % 2, by omega, by have := HM.out; have := HH.out; omega, by go_num, by go_num⟩, by simp [intOf]; omega⟩
    · have hd : decide ((0 : Int) < (c : Int)) = false := by simp; omega
      have HE : Hid (m = ones s) := by
        show _ = _
        have h1 := HM.out
        have e : ones 0 = 0 := by decide
        obtain rfl : c = 0 := by omega
        omega
      go_wp2
      go_ret
      exact ⟨by rw [HE.out]; rfl, rfl⟩

end Go.Proofs.Ytlgeggekmdoceaa

/- The reference: Wrong and Clash. -/
namespace Go.Proofs.Ytlgeggekmdoceaa
set_option linter.unusedVariables false
set_option linter.unusedSimpArgs false
open Go.RowKit Go.Shelf
attribute [local go_sem] Oper.semAt_some

theorem bestL_le (f : Nat → Bool) (e : Nat) : ∀ j, j ≤ e + 1 → bestL f e j ≤ e
  | 0, _ => Nat.le_refl _
  | j + 1, h => by
    unfold bestL
    split
    · omega
    · exact bestL_le f e j (by omega)
theorem bestL_yes (f : Nat → Bool) (e j : Nat) (h1 : ones j < ones (bestL f e j)) (h2 : f j = true) : bestL f e (j + 1) = j := by
  show (if ones j < ones (bestL f e j) && f j then j else bestL f e j) = j
  rw [if_pos (by simp [h1, h2])]
theorem bestL_no (f : Nat → Bool) (e j : Nat) (h2 : f j = false) : bestL f e (j + 1) = bestL f e j := by
  show (if ones j < ones (bestL f e j) && f j then j else bestL f e j) = _
  rw [if_neg (by simp [h2])]
theorem bestL_no' (f : Nat → Bool) (e j : Nat) (h1 : ¬ ones j < ones (bestL f e j)) : bestL f e (j + 1) = bestL f e j := by
  show (if ones j < ones (bestL f e j) && f j then j else bestL f e j) = _
  rw [if_neg (by simp [h1])]
set_option maxRecDepth 100000 in
set_option maxHeartbeats 4000000 in
theorem rwrong_any (p : PairD) (bs rs : Value) (hcnt : validB p = true → ∀ s, (truthsL p s).length ≤ 1000000) (w : World) (hpa : PairAt w p bs rs) :
    Calls Try.prog 28 #[.agg (pairRow p bs rs)] w fun e w' => e = .returned (.tuple #[.int .i64 (wrongV p).1.1, .int .i64 (wrongV p).1.2, .int .i64 (wrongV p).2]) ∧ Below w.heap.size w w' := by
  have HC := Lib.hid hcnt
  clear hcnt
  obtain ⟨ao, cap, hbse, _⟩ := id hpa.b
  subst hbse
  obtain ⟨ao2, cap2, hrse, _⟩ := id hpa.r
  subst hrse
  obtain ⟨W0, hW0⟩ : ∃ W0, W0 = w.alloc (.cells (pairRow p (.slice ao p.bs.length cap) (.slice ao2 p.rs.length cap2)) 27 (0, 0)) := ⟨_, rfl⟩
  have hb0 : Below w.heap.size w W0 := by rw [hW0]; exact (Below.refl _ _).alloc (Nat.le_refl _) _
  have hr1 : W0.heap[w.heap.size]? = some (pairObj p (.slice ao p.bs.length cap) (.slice ao2 p.rs.length cap2)) := by rw [hW0]; exact heap_alloc_at _ _ _ rfl
  have hsw : W0.heap.size = w.heap.size + 1 := by rw [hW0]; simp
  have HB0 := Lib.hid hb0
  have HR1 := Lib.hid hr1
  have HPA := Lib.hid (hpa.later hb0)
  have rows : ∀ W', Below W0.heap.size W0 W' → (W'.cell? ⟨w.heap.size, 0, none⟩ = some (.slice ao p.bs.length cap) ∧ W'.cell? ⟨w.heap.size, 1, none⟩ = some (.int .i64 p.zl) ∧ W'.cell? ⟨w.heap.size, 2, none⟩ = some (.int .i64 p.zh) ∧
        W'.cell? ⟨w.heap.size, 3, none⟩ = some (.int .i64 p.rl) ∧ W'.cell? ⟨w.heap.size, 4, none⟩ = some (.int .i64 p.rh) ∧ W'.cell? ⟨w.heap.size, 5, none⟩ = some (.slice ao2 p.rs.length cap2)) := fun W' hb => by
    have q1 := (hb.block w.heap.size (by omega)).trans hr1
    unfold pairObj pairRow at q1
    refine ⟨?_, ?_, ?_, ?_, ?_, ?_⟩ <;> (rw [cell_of_row _ _ _ _ _ _ q1]; rfl)
  have ROWS := Lib.hid rows
  clear rows hb0 hr1 hpa
  unfold pairRow at hW0 ⊢
  obtain ⟨c0, c1, c2, c3, c4, c5⟩ := ROWS.out W0 (Below.refl _ _)
  go_enter Try.func28, Try.ntmps28
  go_wp2_with fail
  rw [← hW0]
  clear hW0
  refine (check_any p _ _ true W0 (by exact HPA.out)).mono ?_
  rintro e w2 ⟨rfl, hb2⟩
  have hge2 := hb2.size
  have HB2 := Lib.hid hb2
  clear hb2 c0 c1 c2 c3 c4 c5
  obtain ⟨c0, c1, c2, c3, c4, c5⟩ := ROWS.out w2 HB2.out
  cases hv : validB p with
  | false =>
    have hck : checkV p true = 1 := by unfold checkV; rw [hv]; rfl
    have HG := Lib.hid (show wrongV p = ((0, 0), 1) by unfold wrongV; rw [hv]; rfl)
    rw [hck]
    clear hck hv
    go_wp2
    refine bodyPost_ret (v := .tuple #[.int .i64 0, .int .i64 0, .int .i64 1]) (by simp [results, Try.results28, go_sem]) rfl ⟨?_, HB0.out.trans (HB2.out.mono (by omega))⟩
    rw [HG.out]
  | true =>
    have hck : checkV p true = 0 := by unfold checkV; rw [hv]; rfl
    obtain ⟨f, hf⟩ : ∃ f : Nat → Bool, f = fun s => someT p (allR p - s) := ⟨_, rfl⟩
    obtain ⟨E, hE⟩ : ∃ E, E = allR p := ⟨_, rfl⟩
    have hp := OkP.of p hv
    have hm8 := hp.m8
    have hE2 : 2 ^ p.rs.length = E + 1 := by
      rw [hE]; unfold allR
      have := Nat.one_le_two_pow (n := p.rs.length)
      omega
    have hE255 : E < 256 := by rw [hE]; exact allR_lt p hm8
    have hG : wrongV p = ((((ones (bestL f E (E + 1)) : Nat) : Int), ((bestL f E (E + 1) : Nat) : Int)), 0) := by unfold wrongV; rw [hv, hE2, ← hE, hf, ← hE]; rfl
    have hev : ∀ (W : World), Calls Try.prog 83 #[.agg (pairRow p (.slice ao p.bs.length cap) (.slice ao2 p.rs.length cap2))] W fun e w' => e = .returned (.int .i64 (E : Nat)) ∧ Below W.heap.size W w' := fun W => by
      rw [hE]; exact revery_any p p.rs.length cap2 ao2 _ hm8 W
    have htr : ∀ (k : Nat), k ≤ E → ∀ (W : World), Below W0.heap.size W0 W → Calls Try.prog 84 #[.agg (pairRow p (.slice ao p.bs.length cap) (.slice ao2 p.rs.length cap2)), .int .i64 ((E - k : Nat) : Int)] W fun e w' => (∃ aot capt, e = .returned (.slice aot (truthsL p (E - k)).length capt)) ∧ Below W.heap.size W w' := fun k hk W hb =>
      (truths_any p hv _ _ (E - k) (by omega) (HC.out hv _) W (HPA.out.later hb)).mono fun e w' ⟨⟨vl, TL, he, ht⟩, hb'⟩ => by
        obtain ⟨aot, capt, rfl⟩ := truths_form ht
        exact ⟨⟨aot, capt, he⟩, hb'⟩
    have hfk : ∀ k, f k = decide (0 < (truthsL p (E - k)).length) := fun k => by
      rw [hf, hE]
      show (!(truthsL p (allR p - k)).isEmpty) = _
      cases truthsL p (allR p - k) <;> simp
    rw [hck]
    have HG := Lib.hid hG
    have HEV := Lib.hid hev
    have HTR := Lib.hid htr
    have HFK := Lib.hid hfk
    clear hf hE hE2 hG hev htr hck hv hp hfk
    unfold pairRow at HEV HTR
    go_wp2_with fail
    refine (HEV.out _).mono ?_
    rintro e w3 ⟨rfl, hb3⟩
    have hge3 := hb3.size
    have HB3 := Lib.hid (HB2.out.trans (hb3.mono hge2))
    clear hb3 c0 c1 c2 c3 c4 c5
    go_wp2_with fail
    go_loopw [6, 7] (fun b i wr => ∃ k : Nat, k ≤ E + 1 ∧ i = .int .i64 k ∧ b = .int .i64 (bestL f E k : Nat) ∧ Below W0.heap.size W0 wr) (fun _ i _ => E + 1 - (intOf i).toNat)
    case atStart => exact ⟨0, by omega, rfl, rfl, HB3.out⟩
    case round =>
      obtain ⟨k, hk, rfl, rfl, hb⟩ := hrel
      have hgew := hb.size
      have HB := Lib.hid hb
      clear hb
      obtain ⟨c0, c1, c2, c3, c4, c5⟩ := ROWS.out wr HB.out
      have hble := bestL_le f E k hk
      have HBY := Lib.hid (bestL_yes f E k)
      have HBN := Lib.hid (bestL_no f E k)
      have HBN' := Lib.hid (bestL_no' f E k)
      by_cases hke : k ≤ E
      case neg =>
        have hkE : k = E + 1 := by omega
        have HKE := Lib.hid hkE
        have hd : decide ((k : Int) ≤ (E : Int)) = false := by simp; omega
        clear hkE
        obtain ⟨b, hbe⟩ : ∃ b, b = bestL f E k := ⟨_, rfl⟩
        rw [← hbe] at hble ⊢
        have HBE := Lib.hid hbe
        clear hbe
        go_wp2_with fail
        refine (HEV.out _).mono ?_
        rintro e w4 ⟨rfl, hb4⟩
        have HB4 := Lib.hid (HB.out.trans (hb4.mono hgew))
        clear hb4 c0 c1 c2 c3 c4 c5
        go_wp2_with fail
        refine (size_any b (by omega) _).mono ?_
        rintro e w5 ⟨rfl, rfl⟩
        go_wp2
        refine bodyPost_ret (v := .tuple #[.int .i64 (ones b : Nat), .int .i64 (b : Nat), .int .i64 0]) (by simp [results, Try.results28, go_sem]) rfl ⟨?_, HB0.out.trans (HB4.out.mono (by omega))⟩
        rw [HG.out, HBE.out, HKE.out]
      have hd : decide ((k : Int) ≤ (E : Int)) = true := by simp; omega
      have hwk : IntKind.i64.wrap ((k : Int) + 1) = ((k + 1 : Nat) : Int) := by rw [IntWalk.i64_in _ (by omega)]; omega
      obtain ⟨b, hbe⟩ : ∃ b, b = bestL f E k := ⟨_, rfl⟩
      rw [← hbe] at hble HBY HBN HBN' ⊢
      have HBE := Lib.hid hbe
      clear hbe
      go_wp2_with fail
      refine (HEV.out _).mono ?_
      rintro e w4 ⟨rfl, hb4⟩
      have hge4 := hb4.size
      have hb4' := HB.out.trans (hb4.mono hgew)
      have HB4 := Lib.hid hb4'
      clear hb4 c0 c1 c2 c3 c4 c5
      obtain ⟨c0, c1, c2, c3, c4, c5⟩ := ROWS.out w4 hb4'
      clear hb4'
      by_cases hg : ones k < ones b
      · have hg1 : decide (((ones k : Nat) : Int) < ((ones b : Nat) : Int)) = true := by simp; omega
        have hws : IntKind.i64.wrap ((E : Int) - (k : Int)) = ((E - k : Nat) : Int) := by rw [IntWalk.i64_in _ (by omega)]; omega
        have hfk := HFK.out k
        have HNXT : Hid (bestL f E (k + 1) = if f k then k else b) := by
          show _ = _
          cases hf : f k with
          | true => exact HBY.out hg hf
          | false => exact (HBN.out hf)
        have HGE := Lib.hid (show (allR p = allR p) from rfl)
        obtain ⟨cf, hcf⟩ : ∃ c, c = f k := ⟨_, rfl⟩
        rw [← hcf] at hfk HNXT
        have hd1 : decide ((0 : Int) < ((truthsL p (E - k)).length : Int)) = cf := by rw [hfk, decide_eq_decide]; omega
        have hd2 : decide (0 < (truthsL p (E - k)).length) = cf := hfk.symm
        have hd3 : (0 < (truthsL p (E - k)).length) ↔ cf = true := by rw [hfk, decide_eq_true_eq]
        clear hfk hcf
        go_wp2_with fail
        cases cf
        all_goals
          go_region_held3 (fun W' => W'.cell? ⟨w.heap.size, 0, none⟩ = some (.slice ao p.bs.length cap) ∧ W'.cell? ⟨w.heap.size, 1, none⟩ = some (.int .i64 p.zl) ∧ W'.cell? ⟨w.heap.size, 2, none⟩ = some (.int .i64 p.zh) ∧
                W'.cell? ⟨w.heap.size, 3, none⟩ = some (.int .i64 p.rl) ∧ W'.cell? ⟨w.heap.size, 4, none⟩ = some (.int .i64 p.rh) ∧ W'.cell? ⟨w.heap.size, 5, none⟩ = some (.slice ao2 p.rs.length cap2))
            (first | exact ROWS.out _ hb7 | exact ROWS.out _ hb6 | exact ROWS.out _ HB4.out.drew)
            (first
              | ((go_at_call 43; refine (size_any _ (by omega) _).mono ?_; rintro e w5 ⟨rfl, rfl⟩))
              | ((go_at_call 83; refine (HEV.out _).mono ?_; rintro e w6 ⟨rfl, hb6'⟩; have hb6 : Below W0.heap.size W0 w6 := HB4.out.drew.trans (hb6'.mono (by simp; omega))))
              | ((go_at_call 84; refine (HTR.out k hke w6 hb6).mono ?_; rintro e w7 ⟨⟨aot, capt, rfl⟩, hb7'⟩; have hb7 : Below W0.heap.size W0 w7 := hb6.trans (hb7'.mono hb6.size))))
          clear c0 c1 c2 c3 c4 c5
          go_wp2
          exact ⟨⟨k + 1, by omega, by first | rfl | (congr 1; omega), by rw [HNXT.out]; rfl, hb7⟩, by simp [intOf]; omega⟩
      · have hg1 : decide (((ones k : Nat) : Int) < ((ones b : Nat) : Int)) = false := by simp; omega
        have HNXT : Hid (bestL f E (k + 1) = b) := by show _ = _; exact HBN'.out hg
        go_wp2_with fail
        go_quiet ((go_at_call 43; exact Calls.quiet_of_same ((size_any _ (by omega) _).mono fun _ _ ⟨h1, h2⟩ => ⟨h1, h2.symm⟩)))
        clear c0 c1 c2 c3 c4 c5
        go_wp2
        exact ⟨⟨k + 1, by omega, by first | rfl | (congr 1; omega), by rw [HNXT.out], ⟨HB4.out.os, HB4.out.tape, HB4.out.output, HB4.out.size, HB4.out.block⟩⟩, by simp [intOf]; omega⟩
set_option maxRecDepth 100000 in
set_option maxHeartbeats 4000000 in
theorem rclash_any (p : PairD) (bs rs : Value) (hcnt : validB p = true → ∀ s, (truthsL p s).length ≤ 1000000) (w : World) (hpa : PairAt w p bs rs) :
    Calls Try.prog 30 #[.agg (pairRow p bs rs)] w fun e w' => e = .returned (.tuple #[.int .i64 (clashV p).1, .int .i64 (clashV p).2]) ∧ Below w.heap.size w w' := by
  have HC := Lib.hid hcnt
  clear hcnt
  obtain ⟨ao, cap, hbse, _⟩ := id hpa.b
  subst hbse
  obtain ⟨ao2, cap2, hrse, _⟩ := id hpa.r
  subst hrse
  obtain ⟨W0, hW0⟩ : ∃ W0, W0 = w.alloc (.cells (pairRow p (.slice ao p.bs.length cap) (.slice ao2 p.rs.length cap2)) 27 (0, 0)) := ⟨_, rfl⟩
  have hb0 : Below w.heap.size w W0 := by rw [hW0]; exact (Below.refl _ _).alloc (Nat.le_refl _) _
  have hr1 : W0.heap[w.heap.size]? = some (pairObj p (.slice ao p.bs.length cap) (.slice ao2 p.rs.length cap2)) := by rw [hW0]; exact heap_alloc_at _ _ _ rfl
  have hsw : W0.heap.size = w.heap.size + 1 := by rw [hW0]; simp
  have HB0 := Lib.hid hb0
  have HR1 := Lib.hid hr1
  have HPA := Lib.hid (hpa.later hb0)
  have rows : ∀ W', Below W0.heap.size W0 W' → (W'.cell? ⟨w.heap.size, 0, none⟩ = some (.slice ao p.bs.length cap) ∧ W'.cell? ⟨w.heap.size, 1, none⟩ = some (.int .i64 p.zl) ∧ W'.cell? ⟨w.heap.size, 2, none⟩ = some (.int .i64 p.zh) ∧
        W'.cell? ⟨w.heap.size, 3, none⟩ = some (.int .i64 p.rl) ∧ W'.cell? ⟨w.heap.size, 4, none⟩ = some (.int .i64 p.rh) ∧ W'.cell? ⟨w.heap.size, 5, none⟩ = some (.slice ao2 p.rs.length cap2)) := fun W' hb => by
    have q1 := (hb.block w.heap.size (by omega)).trans hr1
    unfold pairObj pairRow at q1
    refine ⟨?_, ?_, ?_, ?_, ?_, ?_⟩ <;> (rw [cell_of_row _ _ _ _ _ _ q1]; rfl)
  have ROWS := Lib.hid rows
  clear rows hb0 hr1 hpa
  unfold pairRow at hW0 ⊢
  obtain ⟨c0, c1, c2, c3, c4, c5⟩ := ROWS.out W0 (Below.refl _ _)
  go_enter Try.func30, Try.ntmps30
  go_wp2_with fail
  rw [← hW0]
  clear hW0
  refine (check_any p _ _ true W0 (by exact HPA.out)).mono ?_
  rintro e w2 ⟨rfl, hb2⟩
  have hge2 := hb2.size
  have HB2 := Lib.hid hb2
  clear hb2 c0 c1 c2 c3 c4 c5
  obtain ⟨c0, c1, c2, c3, c4, c5⟩ := ROWS.out w2 HB2.out
  cases hv : validB p with
  | false =>
    have hck : checkV p true = 1 := by unfold checkV; rw [hv]; rfl
    have HG := Lib.hid (show clashV p = (0, 1) by unfold clashV; rw [hv]; rfl)
    rw [hck]
    clear hck hv
    go_wp2
    refine bodyPost_ret (v := .tuple #[.int .i64 0, .int .i64 1]) (by simp [results, Try.results30, go_sem]) rfl ⟨?_, HB0.out.trans (HB2.out.mono (by omega))⟩
    rw [HG.out]
  | true =>
    have hck : checkV p true = 0 := by unfold checkV; rw [hv]; rfl
    obtain ⟨f, hf⟩ : ∃ f : Nat → Bool, f = fun s => !someT p s := ⟨_, rfl⟩
    obtain ⟨E, hE⟩ : ∃ E, E = allR p := ⟨_, rfl⟩
    have hp := OkP.of p hv
    have hm8 := hp.m8
    have hE2 : 2 ^ p.rs.length = E + 1 := by
      rw [hE]; unfold allR
      have := Nat.one_le_two_pow (n := p.rs.length)
      omega
    have hE255 : E < 256 := by rw [hE]; exact allR_lt p hm8
    have hev : ∀ (W : World), Calls Try.prog 83 #[.agg (pairRow p (.slice ao p.bs.length cap) (.slice ao2 p.rs.length cap2))] W fun e w' => e = .returned (.int .i64 (E : Nat)) ∧ Below W.heap.size W w' := fun W => by
      rw [hE]; exact revery_any p p.rs.length cap2 ao2 _ hm8 W
    have htr : ∀ (k : Nat), k ≤ E → ∀ (W : World), Below W0.heap.size W0 W → Calls Try.prog 84 #[.agg (pairRow p (.slice ao p.bs.length cap) (.slice ao2 p.rs.length cap2)), .int .i64 (k : Int)] W fun e w' => (∃ aot capt, e = .returned (.slice aot (truthsL p k).length capt)) ∧ Below W.heap.size W w' := fun k hk W hb =>
      (truths_any p hv _ _ k (by omega) (HC.out hv _) W (HPA.out.later hb)).mono fun e w' ⟨⟨vl, TL, he, ht⟩, hb'⟩ => by
        obtain ⟨aot, capt, rfl⟩ := truths_form ht
        exact ⟨⟨aot, capt, he⟩, hb'⟩
    have hat : ∀ (W : World), Below W0.heap.size W0 W → Calls Try.prog 87 #[.agg (pairRow p (.slice ao p.bs.length cap) (.slice ao2 p.rs.length cap2))] W fun e w' => (∃ aot capt, e = .returned (.slice aot (truthsL p E).length capt)) ∧ Below W.heap.size W w' := fun W hb =>
      (alltruths_any p hv _ _ (HC.out hv _) W (HPA.out.later hb)).mono fun e w' ⟨⟨vl, TL, he, ht⟩, hb'⟩ => by
        obtain ⟨aot, capt, rfl⟩ := truths_form ht
        rw [hE]
        exact ⟨⟨aot, capt, he⟩, hb'⟩
    have hfk : ∀ k, f k = !decide (0 < (truthsL p k).length) := fun k => by
      rw [hf]
      show (!(!(truthsL p k).isEmpty)) = _
      cases truthsL p k <;> simp
    rw [hck]
    have HEV := Lib.hid hev
    have HTR := Lib.hid htr
    have HAT := Lib.hid hat
    have HFK := Lib.hid hfk
    have hG : clashV p = if f E = false then (0, 4) else (((bestL f E (E + 1) : Nat) : Int), 0) := by
      unfold clashV
      rw [if_neg (by rw [hv]; decide), hE2, ← hE, hf]
      cases hs : someT p E <;> simp [hs]
    have HG := Lib.hid hG
    clear hf hE hE2 hG hev htr hck hv hp hfk hat
    unfold pairRow at HEV HTR HAT
    go_wp2_with fail
    refine (HAT.out _ HB2.out).mono ?_
    rintro e w3 ⟨⟨aot, capt, rfl⟩, hb3⟩
    have hge3 := hb3.size
    have HB3 := Lib.hid (HB2.out.trans (hb3.mono hge2))
    clear hb3 c0 c1 c2 c3 c4 c5
    obtain ⟨c0, c1, c2, c3, c4, c5⟩ := ROWS.out w3 HB3.out
    cases hfe : f E with
    | false =>
      have hd2 : 0 < (truthsL p E).length := by
        have := HFK.out E
        rw [hfe] at this
        simpa using this.symm
      have HFE := Lib.hid hfe
      clear hfe
      go_wp2
      refine bodyPost_ret (v := .tuple #[.int .i64 0, .int .i64 4]) (by simp [results, Try.results30, go_sem]) rfl ⟨?_, HB0.out.trans (HB3.out.mono (by omega))⟩
      rw [HG.out, if_pos HFE.out]
    | true =>
    have hd2 : ¬ 0 < (truthsL p E).length := by
      have := HFK.out E
      rw [hfe] at this
      simpa using this.symm
    have hd3 : decide ((0 : Int) < ((truthsL p E).length : Int)) = false := decide_eq_false (by omega)
    have HFE := Lib.hid hfe
    clear hfe
    go_wp2_with fail
    refine (HEV.out _).mono ?_
    rintro e w4 ⟨rfl, hb4⟩
    have hge4 := hb4.size
    have HB4 := Lib.hid (HB3.out.trans (hb4.mono HB3.out.size))
    clear hb4 c0 c1 c2 c3 c4 c5
    go_wp2_with fail
    clear hd2 hd3
    go_loopw [5, 6] (fun b i wr => ∃ k : Nat, k ≤ E + 1 ∧ i = .int .i64 k ∧ b = .int .i64 (bestL f E k : Nat) ∧ Below W0.heap.size W0 wr) (fun _ i _ => E + 1 - (intOf i).toNat)
    case atStart => exact ⟨0, by omega, rfl, rfl, HB4.out⟩
    case round =>
      obtain ⟨k, hk, rfl, rfl, hb⟩ := hrel
      have hgew := hb.size
      have HB := Lib.hid hb
      clear hb
      obtain ⟨c0, c1, c2, c3, c4, c5⟩ := ROWS.out wr HB.out
      have hble := bestL_le f E k hk
      have HBY := Lib.hid (bestL_yes f E k)
      have HBN := Lib.hid (bestL_no f E k)
      have HBN' := Lib.hid (bestL_no' f E k)
      by_cases hke : k ≤ E
      case neg =>
        have hkE : k = E + 1 := by omega
        have HKE := Lib.hid hkE
        have hd : decide ((k : Int) ≤ (E : Int)) = false := by simp; omega
        clear hkE
        obtain ⟨b, hbe⟩ : ∃ b, b = bestL f E k := ⟨_, rfl⟩
        rw [← hbe] at hble ⊢
        have HBE := Lib.hid hbe
        clear hbe
        go_wp2_with fail
        refine (HEV.out _).mono ?_
        rintro e w5 ⟨rfl, hb5⟩
        have HB5 := Lib.hid (HB.out.trans (hb5.mono hgew))
        clear hb5 c0 c1 c2 c3 c4 c5
        go_wp2
        refine bodyPost_ret (v := .tuple #[.int .i64 (b : Nat), .int .i64 0]) (by simp [results, Try.results30, go_sem]) rfl ⟨?_, HB0.out.trans (HB5.out.mono (by omega))⟩
        rw [HG.out, if_neg (by rw [HFE.out]; decide), HBE.out, HKE.out]
      have hd : decide ((k : Int) ≤ (E : Int)) = true := by simp; omega
      have hwk : IntKind.i64.wrap ((k : Int) + 1) = ((k + 1 : Nat) : Int) := by rw [IntWalk.i64_in _ (by omega)]; omega
      obtain ⟨b, hbe⟩ : ∃ b, b = bestL f E k := ⟨_, rfl⟩
      rw [← hbe] at hble HBY HBN HBN' ⊢
      have HBE := Lib.hid hbe
      clear hbe
      go_wp2_with fail
      refine (HEV.out _).mono ?_
      rintro e w5 ⟨rfl, hb5⟩
      have hge5 := hb5.size
      have hb5' := HB.out.trans (hb5.mono hgew)
      have HB5 := Lib.hid hb5'
      clear hb5 c0 c1 c2 c3 c4 c5
      obtain ⟨c0, c1, c2, c3, c4, c5⟩ := ROWS.out w5 hb5'
      clear hb5'
      go_wp2_with fail
      refine (size_any _ (by omega) _).mono ?_
      rintro e w6 ⟨rfl, rfl⟩
      go_wp2_with fail
      refine (size_any _ (by omega) _).mono ?_
      rintro e w6 ⟨rfl, rfl⟩
      by_cases hg : ones k < ones b
      · have hg1 : decide (((ones k : Nat) : Int) < ((ones b : Nat) : Int)) = true := by simp; omega
        have hfk := HFK.out k
        have HNXT : Hid (bestL f E (k + 1) = if f k then k else b) := by
          show _ = _
          cases hf : f k with
          | true => exact HBY.out hg hf
          | false => exact HBN.out hf
        obtain ⟨cf, hcf⟩ : ∃ c, c = f k := ⟨_, rfl⟩
        rw [← hcf] at hfk HNXT
        have hd1 : (((truthsL p k).length : Int) == 0) = cf := by
          rw [hfk, Bool.eq_iff_iff]; simp
        clear hfk hcf
        go_wp2_with fail
        refine (HTR.out k hke _ HB5.out).mono ?_
        rintro e w7 ⟨⟨aot, capt, rfl⟩, hb7⟩
        have HB7 := Lib.hid (HB5.out.trans (hb7.mono HB5.out.size))
        clear hb7 c0 c1 c2 c3 c4 c5
        cases cf
        all_goals
          go_wp2
          exact ⟨⟨k + 1, by omega, by first | rfl | (congr 1; omega), by rw [HNXT.out]; rfl, HB7.out⟩, by simp [intOf]; omega⟩
      · have hg1 : decide (((ones k : Nat) : Int) < ((ones b : Nat) : Int)) = false := by simp; omega
        have HNXT : Hid (bestL f E (k + 1) = b) := by show _ = _; exact HBN'.out hg
        clear c0 c1 c2 c3 c4 c5
        go_wp2
        exact ⟨⟨k + 1, by omega, by first | rfl | (congr 1; omega), by rw [HNXT.out], HB5.out⟩, by simp [intOf]; omega⟩

end Go.Proofs.Ytlgeggekmdoceaa
