/- Texts By, Bza, Bzb in one file; each begins with a word on what it proves. -/
import Derived.Test.YtagjepclobobjaaVe

/- Package grade: the levels; is a limit kept at a level? -/
namespace Go.Proofs.Ytagjepclobobjaa
set_option linter.unusedVariables false
set_option linter.unusedSimpArgs false
open Go.RowKit Go.Shelf
attribute [local go_sem] Oper.semAt_some

theorem levels_get (n : Nat) (h : n < 41) : levelsG[n]'(by simp [levelsG]; omega) = 20 - (n : Int) := by simp [levelsG]
theorem levels_take (n : Nat) (h : n < 41) : levelsG.take (n + 1) = levelsG.take n ++ [20 - (n : Int)] := by
  have hl : n < levelsG.length := by simp [levelsG]; omega
  rw [List.take_succ_eq_append_getElem hl, levels_get n h]
theorem levels_split (n : Nat) (h : n < 41) : levelsG = levelsG.take n ++ (20 - (n : Int)) :: levelsG.drop (n + 1) := by
  have hl : n < levelsG.length := by simp [levelsG]; omega
  have := List.take_append_drop n levelsG
  rw [List.drop_eq_getElem_cons hl, levels_get n h] at this
  exact this.symm
theorem levels_mem {n : Int} (h : n ∈ levelsG) : -20 ≤ n ∧ n ≤ 20 := by
  unfold levelsG at h
  obtain ⟨i, hi, rfl⟩ := List.mem_map.1 h
  rw [List.mem_range] at hi
  omega
set_option maxRecDepth 100000 in
set_option maxHeartbeats 2000000 in
theorem levels_seq (W : World) : SeqAt Try.prog 65 #[] (fun n : Int => #[.int .i64 n]) levelsG (fun _ => False) W := by
  intro l Mut J Jx hM hJ hJx hY h0
  have HY := Lib.hid hY
  clear hM hJ hJx hY
  refine callsIn_wide.1 (callsIn_of_wp (F := Fence.wide) (n := 0) Try.func65 rfl trivial ?_ rfl)
  simp only [Try.ntmps65, List.size_toArray, List.length_cons, List.length_nil, Nat.reduceAdd, Nat.reduceSub, Array.replicate_succ, Array.replicate_zero, List.push_toArray, List.append_toArray, List.nil_append, List.cons_append]
  gi_wp2
  gi_loopw [2] (fun z wr => ∃ (n : Nat) (G : Nat → Prop), n ≤ 41 ∧ z = .int .i64 (20 - (n : Int)) ∧ J (levelsG.take n) G wr ∧ Keeps Mut W wr) (fun z _ => (intOf z + 21).toNat)
  case atStart => exact ⟨0, fun _ => False, by omega, rfl, by simpa using h0, Keeps.refl _ _⟩
  case round =>
    obtain ⟨n, G, hn, rfl, hj, hk⟩ := hrel
    have HK := Lib.hid hk
    have HJJ := Lib.hid hj
    clear hj hk
    by_cases hn41 : n = 41
    · have hge : ¬ (-20 : Int) ≤ 20 - (n : Int) := by omega
      gi_wp2
      go_end0
      refine ⟨⟨_, rfl⟩, HK.out, G, .inl ?_⟩
      have := HJJ.out
      rw [hn41, List.take_of_length_le (by simp [levelsG])] at this
      exact this
    · have hn4 : n < 41 := by omega
      have hge : (-20 : Int) ≤ 20 - (n : Int) := by omega
      have hw : IntKind.i64.wrap ((20 - (n : Int)) - 1) = 20 - ((n + 1 : Nat) : Int) := by rw [IntWalk.i64_in _ (by omega)]; omega
      obtain ⟨fn, tmps, assign, body, hy, hR⟩ := HY.out _ _ _ G wr (levels_split n hn4) HJJ.out HK.out.size
      rw [← levels_take n hn4] at hR
      gi_wp2
      refine ⟨rfl, hR.mono ?_⟩
      rintro e W3 ⟨hk3, hjj⟩
      rcases hjj with ⟨rfl, hj3⟩ | ⟨rfl, hj3⟩
      · gi_wp2
        go_roundw
        case rel => exact ⟨n + 1, _, by omega, rfl, hj3, HK.out.trans hk3⟩
        case measure => simp [intOf]; omega
      · gi_wp2
        refine bodyPost_ret (results_none rfl _ _ _) rfl ?_
        have hj4 : Jx (levelsG.take n ++ [20 - (n : Int)]) (Grow G wr W3) W3 := by rw [← levels_take n hn4]; exact hj3
        exact ⟨⟨_, rfl⟩, HK.out.trans hk3, Grow G wr W3, .inr ⟨_, _, _, levels_split n hn4, hj4⟩⟩

/-! ### is a limit kept at a level? -/
def keepsAll (g : GradeD) (n : Nat) (level : Int) : Bool := (truthsG g).all fun x => keepsG (g.lim.getD n (0, 0)) (lapG level x)
theorem two_cells {W : World} {b : Nat} {x y : Value} {t : TypeId} {fr : Nat × Nat} (h : W.heap[b]? = some (.cells #[x, y] t fr)) : W.cell? ⟨b, 0, none⟩ = some x ∧ W.cell? ⟨b, 1, none⟩ = some y := by
  constructor <;> (rw [cell_of_row _ _ _ _ _ _ h]; rfl)
set_option maxRecDepth 100000 in
set_option maxHeartbeats 4000000 in
theorem glap2_any (g : GradeD) (hp : g.pts.length = 5) (hv : validG g = true) (lv l2 : Value) (bp b1 b2 b3 n : Nat) (hn : n < g.lim.length) (level : Int) (hlev : -20 ≤ level ∧ level ≤ 20) (w : World)
    (hbp : w.heap[bp]? = some (.cells (benchC lv g.pts g.step l2).toArray 154 (0, 0))) (hb1 : w.heap[b1]? = some (.cells #[.pointer (some ⟨bp, 0, none⟩)] 118 (0, 0)))
    (hb2 : w.heap[b2]? = some (rowGr lv g)) (hb3 : w.heap[b3]? = some (.cells #[.int .i64 (n : Int)] 3 (0, 0))) (hl : SpansAt w lv g.lim (fun k => k < w.heap.size)) :
    Calls Try.prog 66 #[.int .i64 level, .pointer (some ⟨b1, 0, none⟩), .pointer (some ⟨b2, 0, none⟩), .pointer (some ⟨b3, 0, none⟩)] w fun e w' => e = .returned (.bool (keepsAll g n level)) ∧ Below w.heap.size w w' := by
  have hl1 := lt_of_block hb1
  have hl2 := lt_of_block hb2
  have hl3 := lt_of_block hb3
  have hlp := lt_of_block hbp
  have hlim4 := lim4 hv
  obtain ⟨ao, cap, rfl, hc1, hc2, hel⟩ := id hl
  obtain ⟨lb, lo, rfl, hlbl, _, e1, e2⟩ := hel n hn
  obtain ⟨nl, hnl⟩ : ∃ k, k = g.lim.length := ⟨_, rfl⟩
  rw [← hnl] at hb2 hbp
  obtain ⟨mo, mv, hmo⟩ : ∃ a b, (a, b) = g.lim.getD n (0, 0) := ⟨_, _, rfl⟩
  have hgn : g.lim[n] = (mo, mv) := by rw [hmo, List.getD_eq_getElem?_getD, List.getElem?_eq_getElem hn]; rfl
  rw [hgn] at e1 e2
  have hll : ∀ W' : World, W'.heap[lb]? = w.heap[lb]? → W'.cell? ⟨lb, lo + n * 2, none⟩ = some (.int .i64 mo) ∧ W'.cell? ⟨lb, lo + n * 2 + 1, none⟩ = some (.int .i64 mv) := fun W' he =>
    ⟨(World.cell?_of_block (w := w) (a := ⟨lb, lo + n * 2, none⟩) he).trans e1, (World.cell?_of_block (w := w) (a := ⟨lb, lo + n * 2 + 1, none⟩) he).trans e2⟩
  have HLL := Lib.hid hll
  have H1 := Lib.hid hb1
  have H2 := Lib.hid hb2
  have H3 := Lib.hid hb3
  have HP := Lib.hid hbp
  have HV := Lib.hid hv
  have HPL := Lib.hid hp
  have HMO := Lib.hid hmo
  have c1 : w.cell? ⟨b1, 0, none⟩ = some (.pointer (some ⟨bp, 0, none⟩)) := by rw [cell_of_row _ _ _ _ _ _ hb1]; rfl
  rw [← hnl] at hn hlim4
  have hlb9 := hlbl
  clear hb1 hb2 hb3 hbp hv hp hl hel hll e1 e2 hgn hmo hc1 hc2
  go_enter Try.func66, Try.ntmps66
  go_wp2_with fail
  refine (faces_lapped g HPL.out HV.out _ l2 level (by omega) bp w HP.out).mono ?_
  rintro e w1 ⟨⟨mb, rfl, hmb, hfa⟩, hb1⟩
  dsimp only
  obtain ⟨L, clock, hrow, htk⟩ := hfa
  have hr1 := run_range_map (P := Try.prog) w1 125 _ _ mb _ clock under_fmap hrow
  have hml := (Array.getElem?_eq_some_iff.1 hrow).1
  have HB := Lib.hid hb1
  have HROW := Lib.hid hrow
  have HTK := Lib.hid htk
  have hszb := hb1.size
  clear hb1 hrow htk c1
  go_wp2_with fail
  clear hr1
  go_loopw [] (fun wr => ∃ (seen : Array Nat), (∀ y ∈ L, seen.contains y.2.2 = true → (decide (y.1.1 ≤ mo) && decide (y.1.2 ≤ mv)) = true) ∧
      wr.heap[w1.heap.size]? = some (.mapIter (some mb) clock seen clock) ∧ wr.heap[mb]? = some (mapK encF L clock) ∧ Below w.heap.size w wr ∧ w1.heap.size < wr.heap.size)
    (fun wr => leftK wr mb w1.heap.size)
  case atStart =>
    refine ⟨#[], fun y _ h => by simp at h, heap_alloc_at _ _ _ rfl, (hget_old _ _ _ (by omega)).trans HROW.out, HB.out.alloc (by omega) _, by simp⟩
  case round =>
    obtain ⟨seen, hseen, hit, hmw, hb, hsz⟩ := hrel
    have hnk := next_K (P := Try.prog) HTK.out (Nat.le_refl clock) hit (Nat.le_refl clock) hmw (by omega)
    have HIT := Lib.hid hit
    have HMW := Lib.hid hmw
    have HBW := Lib.hid hb
    have HSEEN := Lib.hid hseen
    clear hit hmw hb hseen
    rcases hnk with ⟨hall, hrun⟩ | ⟨y, hy, hsn, W2, hkW, hsW, hiW, hrun, hent, hmeas⟩
    · have hfin : keepsAll g n level = true := by
        unfold keepsAll
        rw [← HMO.out, List.all_eq_true]
        intro x hx
        have hk : faceOf (lapG level x) ∈ (truthsG g).map fun x => faceOf (lapG level x) := List.mem_map.2 ⟨x, hx, rfl⟩
        obtain ⟨b, hb⟩ := (HTK.out.mem (faceOf (lapG level x)) (.bool true)).1 (by unfold inF; rw [if_pos hk])
        exact HSEEN.out _ hb (hall _ hb)
      have HFIN := Lib.hid hfin
      clear hall hfin
      go_wp2
      go_ret
      exact ⟨by rw [HFIN.out]; rfl, HBW.out⟩
    · have HKW := Lib.hid hkW
      have HSW := Lib.hid hsW
      have HIW := Lib.hid hiW
      have HMEAS := Lib.hid hmeas
      have HSN := Lib.hid hsn
      clear hkW hsW hiW hmeas hsn
      obtain ⟨⟨o, v⟩, val, born⟩ := y
      have HYL := Lib.hid hy
      clear hy
      unfold encF pairV at hrun hent
      dsimp only at hrun hent
      go_wp2_with fail
      obtain ⟨W4, hW4⟩ : ∃ W4, W4 = W2.alloc (.cells #[.int .i64 o, .int .i64 v] 132) := ⟨_, rfl⟩
      rw [← hW4]
      have hs4 : W4.heap.size = wr.heap.size + 1 := by rw [hW4]; simp [HSW.out]
      have hx4 : W4.heap[wr.heap.size]? = some (.cells #[.int .i64 o, .int .i64 v] 132 (0, 0)) := by rw [hW4]; exact heap_alloc_at _ _ _ HSW.out.symm
      have hk4 : Keeps (fun k => k = w1.heap.size) wr W4 := by rw [hW4]; exact HKW.out.trans (Keeps.alloc _ _ _)
      have hi4 : W4.heap[w1.heap.size]? = some (.mapIter (some mb) clock (seen.push born) clock) := by rw [hW4]; exact (hget_old _ _ _ (by rw [HSW.out]; omega)).trans HIW.out
      clear hW4
      have hb4 : Below w.heap.size w W4 := HBW.out.trans (hk4.below (by have := HBW.out.size; omega) (fun k h => by omega))
      have hm4 := (hk4.block mb (by omega) (by omega)).trans HMW.out
      have HS4 := Lib.hid hs4
      have HI9 := Lib.hid hi4
      have HX4 := Lib.hid hx4
      have HB4 := Lib.hid hb4
      have HM4 := Lib.hid hm4
      have HG4 := Lib.hid ((hb4.block b2 hl2).trans H2.out)
      have HI4 := Lib.hid ((hb4.block b3 hl3).trans H3.out)
      have HLB := Lib.hid (hb4.block lb hlb9)
      have hsz4 := hb4.size
      clear hs4 hx4 hk4 hi4 hb4 hm4 hrun hent
      have hsw := HSW.out
      rw [hsw]
      clear hsw
      refine region_fix 7 (fun W' => Below W4.heap.size W4 W') (by kernel_rfl) (by kernel_rfl) (Below.refl _ _).drew ?_
      simp only [List.take_succ_cons, List.take_zero, List.drop_succ_cons, List.drop_zero]
      refine WF_step ?_ (fun W' hC => ?_) rfl ?_
      rotate_left
      · obtain ⟨d0, d1⟩ := two_cells ((hC.block _ (by have := HS4.out; omega)).trans HX4.out)
        have d2 : W'.cell? ⟨b2, 0, none⟩ = some (.slice (some ⟨lb, lo, none⟩) nl cap) := by rw [cell_of_row _ _ _ _ _ _ ((hC.block _ (by omega)).trans HG4.out)]; rfl
        have d3 : W'.cell? ⟨b3, 0, none⟩ = some (.int .i64 (n : Int)) := by rw [cell_of_row _ _ _ _ _ _ ((hC.block _ (by omega)).trans HI4.out)]; rfl
        obtain ⟨l0, l1⟩ := HLL.out W' ((hC.block _ (by omega)).trans HLB.out)
        go_simp
        first
          | exact fix_value hC
          | exact fix_enter ((keeps_any _ _ _ _ W').mono fun e w'' h => ⟨h.1, hC.trans (h.2.mono hC.size)⟩)
      simp only [Act.put, List.setIfInBounds_toArray, List.set_cons_zero, List.set_cons_succ]
      refine WF_step ?_ (fun W' hC => ?_) rfl ?_
      rotate_left
      · obtain ⟨d0, d1⟩ := two_cells ((hC.block _ (by have := HS4.out; omega)).trans HX4.out)
        have d2 : W'.cell? ⟨b2, 0, none⟩ = some (.slice (some ⟨lb, lo, none⟩) nl cap) := by rw [cell_of_row _ _ _ _ _ _ ((hC.block _ (by omega)).trans HG4.out)]; rfl
        have d3 : W'.cell? ⟨b3, 0, none⟩ = some (.int .i64 (n : Int)) := by rw [cell_of_row _ _ _ _ _ _ ((hC.block _ (by omega)).trans HI4.out)]; rfl
        obtain ⟨l0, l1⟩ := HLL.out W' ((hC.block _ (by omega)).trans HLB.out)
        go_simp
        first
          | exact fix_value hC
          | exact fix_enter ((keeps_any _ _ _ _ W').mono fun e w'' h => ⟨h.1, hC.trans (h.2.mono hC.size)⟩)
      simp only [Act.put, List.setIfInBounds_toArray, List.set_cons_zero, List.set_cons_succ]
      refine WF_step ?_ (fun W' hC => ?_) rfl ?_
      rotate_left
      · obtain ⟨d0, d1⟩ := two_cells ((hC.block _ (by have := HS4.out; omega)).trans HX4.out)
        have d2 : W'.cell? ⟨b2, 0, none⟩ = some (.slice (some ⟨lb, lo, none⟩) nl cap) := by rw [cell_of_row _ _ _ _ _ _ ((hC.block _ (by omega)).trans HG4.out)]; rfl
        have d3 : W'.cell? ⟨b3, 0, none⟩ = some (.int .i64 (n : Int)) := by rw [cell_of_row _ _ _ _ _ _ ((hC.block _ (by omega)).trans HI4.out)]; rfl
        obtain ⟨l0, l1⟩ := HLL.out W' ((hC.block _ (by omega)).trans HLB.out)
        go_simp
        first
          | exact fix_value hC
          | exact fix_enter ((keeps_any _ _ _ _ W').mono fun e w'' h => ⟨h.1, hC.trans (h.2.mono hC.size)⟩)
      simp only [Act.put, List.setIfInBounds_toArray, List.set_cons_zero, List.set_cons_succ]
      refine WF_step ?_ (fun W' hC => ?_) rfl ?_
      rotate_left
      · obtain ⟨d0, d1⟩ := two_cells ((hC.block _ (by have := HS4.out; omega)).trans HX4.out)
        have d2 : W'.cell? ⟨b2, 0, none⟩ = some (.slice (some ⟨lb, lo, none⟩) nl cap) := by rw [cell_of_row _ _ _ _ _ _ ((hC.block _ (by omega)).trans HG4.out)]; rfl
        have d3 : W'.cell? ⟨b3, 0, none⟩ = some (.int .i64 (n : Int)) := by rw [cell_of_row _ _ _ _ _ _ ((hC.block _ (by omega)).trans HI4.out)]; rfl
        obtain ⟨l0, l1⟩ := HLL.out W' ((hC.block _ (by omega)).trans HLB.out)
        go_simp
        first
          | exact fix_value hC
          | exact fix_enter ((keeps_any _ _ _ _ W').mono fun e w'' h => ⟨h.1, hC.trans (h.2.mono hC.size)⟩)
      simp only [Act.put, List.setIfInBounds_toArray, List.set_cons_zero, List.set_cons_succ]
      refine WF_step ?_ (fun W' hC => ?_) rfl ?_
      rotate_left
      · obtain ⟨d0, d1⟩ := two_cells ((hC.block _ (by have := HS4.out; omega)).trans HX4.out)
        have d2 : W'.cell? ⟨b2, 0, none⟩ = some (.slice (some ⟨lb, lo, none⟩) nl cap) := by rw [cell_of_row _ _ _ _ _ _ ((hC.block _ (by omega)).trans HG4.out)]; rfl
        have d3 : W'.cell? ⟨b3, 0, none⟩ = some (.int .i64 (n : Int)) := by rw [cell_of_row _ _ _ _ _ _ ((hC.block _ (by omega)).trans HI4.out)]; rfl
        obtain ⟨l0, l1⟩ := HLL.out W' ((hC.block _ (by omega)).trans HLB.out)
        go_simp
        first
          | exact fix_value hC
          | exact fix_enter ((keeps_any _ _ _ _ W').mono fun e w'' h => ⟨h.1, hC.trans (h.2.mono hC.size)⟩)
      simp only [Act.put, List.setIfInBounds_toArray, List.set_cons_zero, List.set_cons_succ]
      refine WF_step ?_ (fun W' hC => ?_) rfl ?_
      rotate_left
      · obtain ⟨d0, d1⟩ := two_cells ((hC.block _ (by have := HS4.out; omega)).trans HX4.out)
        have d2 : W'.cell? ⟨b2, 0, none⟩ = some (.slice (some ⟨lb, lo, none⟩) nl cap) := by rw [cell_of_row _ _ _ _ _ _ ((hC.block _ (by omega)).trans HG4.out)]; rfl
        have d3 : W'.cell? ⟨b3, 0, none⟩ = some (.int .i64 (n : Int)) := by rw [cell_of_row _ _ _ _ _ _ ((hC.block _ (by omega)).trans HI4.out)]; rfl
        obtain ⟨l0, l1⟩ := HLL.out W' ((hC.block _ (by omega)).trans HLB.out)
        go_simp
        first
          | exact fix_value hC
          | exact fix_enter ((keeps_any _ _ _ _ W').mono fun e w'' h => ⟨h.1, hC.trans (h.2.mono hC.size)⟩)
      simp only [Act.put, List.setIfInBounds_toArray, List.set_cons_zero, List.set_cons_succ]
      refine WF_step (.bool (decide (o ≤ mo) && decide (v ≤ mv))) (fun W' hC => ?_) rfl ?_
      · go_simp
        exact fix_enter ((keeps_any _ _ _ _ W').mono fun e w'' h => ⟨h.1, hC.trans (h.2.mono hC.size)⟩)
      simp only [Act.put, List.setIfInBounds_toArray, List.set_cons_zero, List.set_cons_succ]
      refine WF_nil ?_
      intro W5 hC5
      cases hkp : (decide (o ≤ mo) && decide (v ≤ mv)) with
      | true =>
        have HKP := Lib.hid hkp
        have HC5 := Lib.hid hC5
        clear hkp hC5
        go_wp2_with fail
        go_roundw
        case measure => exact HMEAS.out W5 ((HC5.out.block _ (by have := HS4.out; omega)).trans HM4.out) ((HC5.out.block _ (by have := HS4.out; omega)).trans HI9.out)
        refine ⟨seen.push born, fun y hy hc => ?_, (HC5.out.block _ (by have := HS4.out; omega)).trans HI9.out, (HC5.out.block _ (by have := HS4.out; omega)).trans HM4.out, HB4.out.trans (HC5.out.mono HB4.out.size), by have := HC5.out.size; have := HS4.out; omega⟩
        simp at hc
        rcases hc with hc | hc
        · exact HSEEN.out y hy (by simpa using hc)
        · obtain ⟨i, hi, rfl⟩ := List.getElem_of_mem hy
          obtain ⟨j, hj, hje⟩ := List.getElem_of_mem HYL.out
          have hb := HTK.out.borns
          have : i = j := (List.getElem_inj (xs := L.map (·.2.2)) (h₀ := by simpa using hi) (h₁ := by simpa using hj) hb).1 (by simp [hje, hc])
          subst this
          rw [hje]
          exact HKP.out
      | false =>
        have hfin : keepsAll g n level = false := by
          have hin := (HTK.out.mem (o, v) val).2 ⟨born, HYL.out⟩
          unfold inF at hin
          split at hin
          · rename_i hk
            obtain ⟨x, hx, hf⟩ := List.mem_map.1 hk
            unfold keepsAll
            rw [← HMO.out, Bool.eq_false_iff]
            intro ha
            have := List.all_eq_true.1 ha x hx
            unfold faceOf at hf
            unfold keepsG at this
            obtain ⟨rfl, rfl⟩ := Prod.mk.inj hf
            rw [hkp] at this
            cases this
          · cases hin
        have HFIN := Lib.hid hfin
        have HC5 := Lib.hid hC5
        clear hkp hC5 hfin
        go_wp2_with fail
        go_ret
        exact ⟨by rw [HFIN.out]; rfl, HB4.out.trans (HC5.out.mono HB4.out.size)⟩
end Go.Proofs.Ytagjepclobobjaa

/- Package grade: the first level at which a limit is kept. -/
namespace Go.Proofs.Ytagjepclobobjaa
set_option linter.unusedVariables false
set_option linter.unusedSimpArgs false
open Go.RowKit Go.Shelf
attribute [local go_sem] Oper.semAt_some

set_option maxRecDepth 100000 in
set_option maxHeartbeats 4000000 in
theorem gfirstI_any (b1 b2 b3 : Nat) (p : Int → Bool) (w : World)
    (hf : ∀ n ∈ levelsG, ∀ W, Below w.heap.size w W → Calls Try.prog 66 #[.int .i64 n, .pointer (some ⟨b1, 0, none⟩), .pointer (some ⟨b2, 0, none⟩), .pointer (some ⟨b3, 0, none⟩)] W fun e W' => e = .returned (.bool (p n)) ∧ Below W.heap.size W W') :
    Calls Try.prog 64 #[.func (.func 65) #[] #[], .agg #[.func (.func 66) #[] #[.pointer (some ⟨b1, 0, none⟩), .pointer (some ⟨b2, 0, none⟩), .pointer (some ⟨b3, 0, none⟩)]]] w
      fun e w' => e = .returned (.tuple #[.int .i64 ((levelsG.find? p).getD 0), .bool (levelsG.find? p).isSome]) ∧ Below w.heap.size w w' := by
  have HF := Lib.hid hf
  clear hf
  refine calls_of_wp_marks Try.func64 rfl ?_
  simp only [Try.ntmps64, List.size_toArray, List.length_cons, List.length_nil, Nat.reduceAdd, Nat.reduceSub, Array.replicate_succ, Array.replicate_zero, List.push_toArray, List.append_toArray, List.nil_append, List.cons_append]
  go_wp2_with fail
  obtain ⟨FV, hFV⟩ : ∃ v, v = Value.func (.func 66) #[] #[.pointer (some ⟨b1, 0, none⟩), .pointer (some ⟨b2, 0, none⟩), .pointer (some ⟨b3, 0, none⟩)] := ⟨_, rfl⟩
  rw [← hFV]
  obtain ⟨WZ, hWZ⟩ : ∃ WZ, WZ = (((w.alloc (.cells #[FV] 136)).alloc (.cells #[.int .i64 0] 3)).alloc (.cells #[.bool false] 4)) := ⟨_, rfl⟩
  rw [← hWZ]
  have hzz : WZ.heap.size = w.heap.size + 3 := by rw [hWZ]; simp
  have y0 : WZ.heap[w.heap.size]? = some (.cells #[FV] 136 (0, 0)) := by rw [hWZ]; exact (by repeat (first | (refine heap_alloc_at _ _ _ ?_; (simp <;> omega); done) | (refine (hget_old _ _ _ ?_).trans ?_; · (simp <;> omega))))
  have y1 : WZ.heap[w.heap.size + 1]? = some (.cells #[.int .i64 0] 3 (0, 0)) := by rw [hWZ]; exact (by repeat (first | (refine heap_alloc_at _ _ _ ?_; (simp <;> omega); done) | (refine (hget_old _ _ _ ?_).trans ?_; · (simp <;> omega))))
  have y2 : WZ.heap[w.heap.size + 1 + 1]? = some (.cells #[.bool false] 4 (0, 0)) := by rw [hWZ]; exact (by repeat (first | (refine heap_alloc_at _ _ _ ?_; (simp <;> omega); done) | (refine (hget_old _ _ _ ?_).trans ?_; · (simp <;> omega))))
  have hbz : Below w.heap.size w WZ := by rw [hWZ]; exact (((Below.refl _ _).alloc (Nat.le_refl _) _).alloc (by simp) _).alloc (by simp <;> omega) _
  have Y0 := Lib.hid y0
  have Y1 := Lib.hid y1
  have Y2 := Lib.hid y2
  have HBZ := Lib.hid hbz
  clear hWZ y0 y1 y2 hbz
  refine wp_range (gf := 65) (lb := #[]) rfl (enters_of Try.func65 (by kernel_rfl) rfl) (encs := fun n : Int => #[.int .i64 n]) (fun _ => rfl)
    (fun _ => False) (fun k => k = w.heap.size + 1 ∨ k = w.heap.size + 1 + 1) ?hRd ?hM levelsG ?hseq
    (fun pre G Wr => (∀ n ∈ pre, p n = false) ∧ Wr.heap[w.heap.size]? = some (.cells #[FV] 136 (0, 0)) ∧ Wr.heap[w.heap.size + 1]? = some (.cells #[.int .i64 0] 3 (0, 0)) ∧ Wr.heap[w.heap.size + 1 + 1]? = some (.cells #[.bool false] 4 (0, 0)) ∧ Below w.heap.size w Wr)
    (fun c s G Wr => c = .ret ∧ (∃ init n, s = init ++ [n] ∧ p n = true ∧ (∀ m ∈ init, p m = false) ∧ Wr.heap[w.heap.size + 1]? = some (.cells #[.int .i64 n] 3 (0, 0))) ∧ Wr.heap[w.heap.size + 1 + 1]? = some (.cells #[.bool true] 4 (0, 0)) ∧ Below w.heap.size w Wr)
    ?hI ?hIx ?h0 ?hround ?hdone ?hstop
  case hRd => intro k hk; exact hk.elim
  case hM => intro k hk; exact ⟨by omega, fun h => h⟩
  case hseq =>
    intro W' hb
    exact levels_seq W'
  case hI =>
    rintro s G A B ⟨h1, h2, h3, h4, h5⟩ hk
    exact ⟨h1, (hk.block _ (lt_of_block h2) (by omega)).trans h2, (hk.block _ (lt_of_block h3) (by omega)).trans h3, (hk.block _ (lt_of_block h4) (by omega)).trans h4, h5.trans (hk.below (by have := h5.size; omega) (fun k h => by omega))⟩
  case hIx =>
    rintro c s G A B ⟨h1, ⟨i, n, e1, e2, e3, h3⟩, h4, h5⟩ hk
    exact ⟨h1, ⟨i, n, e1, e2, e3, (hk.block _ (lt_of_block h3) (by omega)).trans h3⟩, (hk.block _ (lt_of_block h4) (by omega)).trans h4, h5.trans (hk.below (by have := h5.size; omega) (fun k h => by omega))⟩
  case h0 => exact ⟨fun n h => (by cases h), Y0.out, Y1.out, Y2.out, HBZ.out⟩
  case hround =>
    rintro l pre x rest G Wr hxs ⟨h1, h2, h3, h4, h5⟩ hl1 hl2 hGl
    have hcall := HF.out x (by rw [hxs]; simp)
    have HC := Lib.hid hcall
    have H1 := Lib.hid h1
    have H2 := Lib.hid h2
    have H3 := Lib.hid h3
    have H4 := Lib.hid h4
    have H5 := Lib.hid h5
    clear h1 h2 h3 h4 h5 hGl hxs hcall
    gi_wp2
    refine ⟨Keeps.refl _ _, ?_⟩
    intro W3 hk3 hs3
    have hW3 : ∀ k, k < Wr.heap.size → k ≠ l → W3.heap[k]? = Wr.heap[k]? := fun k hk hne => hk3.block k hk hne
    have hl5 := H5.out.size
    have hl4 := lt_of_block H4.out
    have z0 := (hW3 _ (by omega) (by omega)).trans H2.out
    have z1 := (hW3 _ (by omega) (by omega)).trans H3.out
    have z2 := (hW3 _ (by omega) (by omega)).trans H4.out
    have hb3 : Below w.heap.size w W3 := H5.out.trans (hk3.below (by omega) (fun k h => by omega))
    have d0 : W3.cell? ⟨w.heap.size, 0, none⟩ = some FV := by rw [cell_of_row W3 _ _ _ _ _ z0]; rfl
    have Z1 := Lib.hid z1
    have Z2 := Lib.hid z2
    have HB3 := Lib.hid hb3
    have HK3 := Lib.hid hk3
    have HS3 := Lib.hid hs3
    clear z0 z1 z2 hb3 hk3 hW3 hs3
    rw [hFV] at d0
    gi_wp2_with fail
    refine ⟨trivial, rfl, callsIn_wide.2 ((HC.out W3 HB3.out).mono ?_)⟩
    rintro e w4 ⟨rfl, hb4⟩
    dsimp only
    have hs4 := hb4.size
    have hs3 := HS3.out
    have z14 := (hb4.block _ (by omega)).trans Z1.out
    have z24 := (hb4.block _ (by omega)).trans Z2.out
    have p1 : w4.cell? ⟨w.heap.size + 1, 0, none⟩ = some (.int .i64 0) := by rw [cell_of_row _ _ _ _ _ _ z14]; rfl
    have p5 : w4.cell? ⟨w.heap.size + 1 + 1, 0, none⟩ = some (.bool false) := by rw [cell_of_row _ _ _ _ _ _ z24]; rfl
    have f1 : ∀ k, w4.frozen? ⟨w.heap.size + 1, k, none⟩ = false := fun k => frozen_of_row _ _ _ _ _ z14
    have f2 : ∀ k, w4.frozen? ⟨w.heap.size + 1 + 1, k, none⟩ = false := fun k => frozen_of_row _ _ _ _ _ z24
    have Z14 := Lib.hid z14
    have Z24 := Lib.hid z24
    have hk4 : Keeps (fun k => k = w.heap.size + 1 ∨ k = w.heap.size + 1 + 1) W3 w4 := Keeps.of_below hb4 (fun k h1 h2 => absurd h2 (by omega))
    have HK4 := Lib.hid hk4
    have Z04 := Lib.hid ((hb4.block w.heap.size (by omega)).trans ((HK3.out.block _ (by omega) (by omega)).trans H2.out))
    clear z14 z24 hb4 hk4 d0
    cases hpx : p x with
    | true =>
      have HPX := Lib.hid hpx
      clear hpx hs3
      gi_wp2
      have hk6 : Keeps (fun k => k = w.heap.size + 1 ∨ k = w.heap.size + 1 + 1) W3 ((w4.setCell ⟨w.heap.size + 1, 0, none⟩ (.int .i64 x)).setCell ⟨w.heap.size + 1 + 1, 0, none⟩ (.bool true)) :=
        HK4.out.trans ((Keeps.setCell _ _ _ (.inl rfl)).trans (Keeps.setCell _ _ _ (.inr rfl)))
      exact ⟨hk6, rfl, ⟨pre, x, rfl, HPX.out, H1.out, (other_setG _ _ _ _ (by simp)).trans (one_setG Z14.out)⟩, one_setG ((other_setG _ _ _ _ (by simp)).trans Z24.out), HB3.out.trans (hk6.below (by have := HS3.out; omega) (fun k h => by omega))⟩
    | false =>
      have HPX := Lib.hid hpx
      clear hpx hs3
      gi_wp2
      refine ⟨HK4.out, fun n hn => ?_, Z04.out, Z14.out, Z24.out, HB3.out.trans (HK4.out.below (by have := HS3.out; omega) (fun k h => by omega))⟩
      rcases List.mem_append.1 hn with hn | hn
      · exact H1.out n hn
      · rw [List.mem_singleton.1 hn]; exact HPX.out
  case hdone =>
    rintro D G W' ⟨h1, h2, h3, h4, h5⟩ hGD hkk hD hDs
    have p0 : W'.cell? ⟨w.heap.size + 1, 0, none⟩ = some (.int .i64 0) := by rw [cell_of_row _ _ _ _ _ _ h3]; rfl
    have p5 : W'.cell? ⟨w.heap.size + 1 + 1, 0, none⟩ = some (.bool false) := by rw [cell_of_row _ _ _ _ _ _ h4]; rfl
    have f1 : ∀ k, W'.frozen? ⟨w.heap.size + 1, k, none⟩ = false := fun k => frozen_of_row _ _ _ _ _ h3
    have f2 : ∀ k, W'.frozen? ⟨w.heap.size + 1 + 1, k, none⟩ = false := fun k => frozen_of_row _ _ _ _ _ h4
    have hnone : levelsG.find? p = none := List.find?_eq_none.2 fun n hn => by rw [h1 n hn]; decide
    have HN := Lib.hid hnone
    have H3 := Lib.hid h3
    have H4 := Lib.hid h4
    have H5 := Lib.hid h5
    have HD := Lib.hid hD
    clear h1 h2 h3 h4 h5 hD hGD hkk hnone
    go_wp2
    have rD2 : ((W'.setCell ⟨w.heap.size + 1, 0, none⟩ (.int .i64 0)).setCell ⟨w.heap.size + 1 + 1, 0, none⟩ (.bool false)).heap[D]? = some (.deferred (some [])) := (other_setG _ _ _ _ (by simp; omega)).trans ((other_setG _ _ _ _ (by simp; omega)).trans HD.out)
    refine ⟨by simp, .inl ⟨_, _, rfl, run_takeDeferred rD2, ?_⟩⟩
    obtain ⟨W6, hW6⟩ : ∃ W6, W6 = ((W'.setCell ⟨w.heap.size + 1, 0, none⟩ (.int .i64 0)).setCell ⟨w.heap.size + 1 + 1, 0, none⟩ (.bool false)).putObj D (.deferred none) := ⟨_, rfl⟩
    rw [← hW6]
    have s1 : W6.heap[w.heap.size + 1]? = some (.cells #[.int .i64 0] 3 (0, 0)) := by rw [hW6]; exact (World.putObj_heap_other (by omega)).trans ((other_setG _ _ _ _ (by simp)).trans (one_setG H3.out))
    have s2 : W6.heap[w.heap.size + 1 + 1]? = some (.cells #[.bool false] 4 (0, 0)) := by rw [hW6]; exact (World.putObj_heap_other (by omega)).trans (one_setG ((other_setG _ _ _ _ (by simp)).trans H4.out))
    have hk6 : Keeps (fun k => w.heap.size ≤ k) W' W6 := by
      rw [hW6]
      exact (Keeps.setCell _ _ _ (by simp)).trans ((Keeps.setCell _ _ _ (by simp; omega)).trans (Keeps.putObj _ _ _ (show w.heap.size ≤ D by omega)))
    have u4 : W6.cell? ⟨w.heap.size + 1, 0, none⟩ = some (.int .i64 0) := by rw [cell_of_row _ _ _ _ _ _ s1]; rfl
    have u5 : W6.cell? ⟨w.heap.size + 1 + 1, 0, none⟩ = some (.bool false) := by rw [cell_of_row _ _ _ _ _ _ s2]; rfl
    refine ⟨.tuple #[.int .i64 0, .bool false], ?_, by rw [HN.out]; rfl, H5.out.trans (hk6.below (by have := H5.out.size; omega) (fun k h => by omega))⟩
    simp [results, Try.results64, go_sem, u4, u5]
  case hstop =>
    rintro D c pre x rest G W' hxs ⟨rfl, ⟨init, n, e1, e2, e3, h3⟩, h4, h5⟩ hGD hkk hD hDs
    obtain ⟨rfl, rfl⟩ : pre = init ∧ x = n := by
      have := List.append_inj' e1 rfl
      exact ⟨this.1, by simpa using this.2⟩
    have hsome : levelsG.find? p = some x := by
      rw [hxs, List.find?_append, List.find?_eq_none.2 (fun m hm => by rw [e3 m hm]; decide)]
      simp [List.find?_cons, e2]
    have HN := Lib.hid hsome
    have H3 := Lib.hid h3
    have H4 := Lib.hid h4
    have H5 := Lib.hid h5
    have HD := Lib.hid hD
    clear h3 h4 h5 hD hxs hGD hkk hsome e1 e2 e3
    go_wp2
    refine ⟨by simp, .inl ⟨_, _, rfl, run_takeDeferred HD.out, ?_⟩⟩
    have s1 := (World.putObj_heap_other (o := .deferred none) (w := W') (show w.heap.size + 1 ≠ D by omega)).trans H3.out
    have s2 := (World.putObj_heap_other (o := .deferred none) (w := W') (show w.heap.size + 1 + 1 ≠ D by omega)).trans H4.out
    have u4 : (W'.putObj D (.deferred none)).cell? ⟨w.heap.size + 1, 0, none⟩ = some (.int .i64 x) := by rw [cell_of_row _ _ _ _ _ _ s1]; rfl
    have u5 : (W'.putObj D (.deferred none)).cell? ⟨w.heap.size + 1 + 1, 0, none⟩ = some (.bool true) := by rw [cell_of_row _ _ _ _ _ _ s2]; rfl
    refine ⟨.tuple #[.int .i64 x, .bool true], ?_, by rw [HN.out]; rfl, H5.out.trans ((Keeps.putObj (Mut := fun k => k = D) _ _ _ rfl).below (by have := H5.out.size; omega) (fun k h => by omega))⟩
    simp [results, Try.results64, go_sem, u4, u5]
end Go.Proofs.Ytagjepclobobjaa

/- Package grade: Lap. -/
namespace Go.Proofs.Ytagjepclobobjaa
set_option linter.unusedVariables false
set_option linter.unusedSimpArgs false
open Go.RowKit Go.Shelf
attribute [local go_sem] Oper.semAt_some

section
variable {P : Program} {ops : Array Oper} {md : Region.Mode} {S : World → Prop}
theorem wpOp_call {Q : Exit → Act → World → Prop} {K : Act → World → Prop} {k : Nat} {o : Oper} {f : FuncId} {args : Array Value} {a : Act} {w : World} (ho : ops[k]? = some o) (hg : Region.wanted o (yielded ops a.tmps) = true)
    (hrun : (execOp a.eval o).run P w = .ok (.enter f args) w)
    (h : Calls P f args w fun
      | .returned v, w' => K (a.put o.dst v) w'
      | .panicked c, w' => Q (.panic c) a w'
      | .outgrown, _ => LetsOut Q) : wpOp P ops Q k K a w := by
  unfold wpOp
  rw [ho]
  simp only [hg, if_true]
  left
  unfold Oper.wp
  rw [hrun]
  simp only [Oper.upon]
  refine h.mono fun e w'' he => ?_
  cases e <;> exact he
theorem wpOp_value {Q : Exit → Act → World → Prop} {K : Act → World → Prop} {k : Nat} {o : Oper} {v : Value} {a : Act} {w w' : World} (ho : ops[k]? = some o) (hg : Region.wanted o (yielded ops a.tmps) = true)
    (hrun : (execOp a.eval o).run P w = .ok (.value v) w') (h : K (a.put o.dst v) w') : wpOp P ops Q k K a w := by
  unfold wpOp
  rw [ho]
  simp only [hg, if_true]
  left
  unfold Oper.wp
  rw [hrun]
  exact h
theorem wpAnyH_two {Q : Exit → Act → World → Prop} {i j fuel : Nat} {listed : Array Bool} {a : Act} {w : World} (hr : Region.ready md ops listed = [i, j])
    (h1 : wpOp P ops Q i (fun a' w' => S w' ∧ wpAnyH P md ops Q S fuel (listed.setIfInBounds i true) a' w') a w)
    (h2 : wpOp P ops Q j (fun a' w' => S w' ∧ wpAnyH P md ops Q S fuel (listed.setIfInBounds j true) a' w') a w) : wpAnyH P md ops Q S (fuel + 1) listed a w := by
  refine wpAnyH_all hr (by simp) fun k hk => ?_
  rcases List.mem_cons.1 hk with rfl | hk
  · exact h1
  · rw [List.mem_singleton] at hk
    subst hk
    exact h2
end
/-- What Lap answers. -/
def lapD (g : GradeD) (n : Int) : Int × Int :=
  let e := errG g (inN n 0 ((g.lim.length : Int) - 1))
  if e = 0 then (match lapsG g n.toNat with | some v => (v, 0) | none => (0, 4)) else (0, e)
def GoodL (w : World) (g : GradeD) (lv : Value) (n : Int) (W : World) : Prop :=
  W.heap[w.heap.size]? = some (rowGr lv g) ∧ W.heap[w.heap.size + 1]? = some (.cells #[.int .i64 n] 3 (0, 0)) ∧ W.heap[w.heap.size + 2]? = some (.cells #[.int .i64 0] 24 (0, 0)) ∧ Below w.heap.size w W
theorem GoodL.later {w : World} {g : GradeD} {lv : Value} {n : Int} {W W' : World} (h : GoodL w g lv n W) (hb : Below W.heap.size W W') : GoodL w g lv n W' :=
  ⟨(hb.block _ (lt_of_block h.1)).trans h.1, (hb.block _ (lt_of_block h.2.1)).trans h.2.1, (hb.block _ (lt_of_block h.2.2.1)).trans h.2.2.1, h.2.2.2.trans (hb.mono h.2.2.2.size)⟩
theorem cells_ne {W : World} {a b : Nat} {cs ds : Array Value} {t u : TypeId} {fr fs : Nat × Nat} (h : W.heap[a]? = some (.cells cs t fr)) (k : W.heap[b]? = some (.cells ds u fs)) (hn : t ≠ u) : a ≠ b := by
  rintro rfl
  rw [h] at k
  injection k with k
  injection k with _ k _
  exact hn k
theorem goodL_set {w : World} {g : GradeD} {lv : Value} {n : Int} {W : World} {ab : Nat} {x y : Value} (h : GoodL w g lv n W) (hab : W.heap[ab]? = some (.cells #[x] 118 (0, 0))) (hlt : w.heap.size ≤ ab) : GoodL w g lv n (W.setCell ⟨ab, 0, none⟩ y) := by
  obtain ⟨h1, h2, h3, h4⟩ := h
  refine ⟨(other_setG _ _ _ _ ?_).trans h1, (other_setG _ _ _ _ ?_).trans h2, (other_setG _ _ _ _ ?_).trans h3, h4.setCell hlt _⟩
  · exact cells_ne h1 hab (by decide)
  · intro e
    have e : w.heap.size + 1 = ab := e
    rw [← e, h2] at hab; cases hab
  · intro e
    have e : w.heap.size + 2 = ab := e
    rw [← e, h3] at hab; cases hab
set_option maxRecDepth 100000 in
set_option maxHeartbeats 16000000 in
theorem gLap_any (g : GradeD) (hp : g.pts.length = 5) (lv : Value) (n : Int) (w : World) (hl : SpansAt w lv g.lim (fun k => k < w.heap.size)) (hl9 : g.lim.length ≤ 1000) :
    Calls Try.prog 27 #[gradeV lv g.pts g.step, .int .i64 n] w fun e w' => e = .returned (.tuple #[.int .i64 (lapD g n).1, .int .i64 (lapD g n).2]) ∧ Below w.heap.size w w' := by
  have HL := Lib.hid hl
  have HP := Lib.hid hp
  clear hl hp
  have hmf : ∀ fn first cap w, (Instr.makeFunc fn first cap).run Try.prog w = .ok (.func fn first cap) w := fun _ _ _ _ => rfl
  obtain ⟨W0, hW0⟩ : ∃ W0, W0 = ((w.alloc (rowGr lv g)).alloc (.cells #[.int .i64 n] 3)).alloc (.cells #[.int .i64 0] 24) := ⟨_, rfl⟩
  have hg0 : GoodL w g lv n W0 := by
    refine ⟨by rw [hW0]; exact (by repeat (first | (refine heap_alloc_at _ _ _ ?_; (simp <;> omega); done) | (refine (hget_old _ _ _ ?_).trans ?_; · (simp <;> omega)))), by rw [hW0]; exact (by repeat (first | (refine heap_alloc_at _ _ _ ?_; (simp <;> omega); done) | (refine (hget_old _ _ _ ?_).trans ?_; · (simp <;> omega)))), by rw [hW0]; exact (by repeat (first | (refine heap_alloc_at _ _ _ ?_; (simp <;> omega); done) | (refine (hget_old _ _ _ ?_).trans ?_; · (simp <;> omega)))), by rw [hW0]; exact (((Below.refl _ _).alloc (Nat.le_refl _) _).alloc (by simp <;> omega) _).alloc (by simp <;> omega) _⟩
  have hs0 : W0.heap.size = w.heap.size + 3 := by rw [hW0]; simp
  have HG0 := Lib.hid hg0
  clear hg0
  unfold rowGr at hW0
  unfold gradeV
  go_enter_defers Try.func27, Try.ntmps27
  go_upto_region 2 with fail
  rename_i KK hK
  rw [← hW0]
  clear hW0
  obtain ⟨ok, hok⟩ : ∃ b, b = inN n 0 ((g.lim.length : Int) - 1) := ⟨_, rfl⟩
  have HOK := Lib.hid hok
  refine wp_region_held_drew (S := GoodL w g lv n) (by kernel_rfl) (HG0.out.later (Below.refl _ _).drew) fun hS0 => ?_
  refine wpAnyH_take (i := 0) (v := .agg (gradeC lv g.pts g.step).toArray) rfl (by kernel_rfl) (by kernel_rfl) (by kernel_rfl) (fun c a w h => glap_put (by decide) (by decide) h) (yields_value rfl fun W hS => by first | exact run_load_row 53 _ rfl w.heap.size rfl 53 (gradeC lv g.pts g.step).toArray (0, 0) _ hS.1 underGrade rfl (sizeGrade lv g.pts HP.out g.step) | simp [execOp, go_sem, Act.eval, Act.put, cell_of_row W _ _ _ _ _ hS.2.1]) hS0 ?_
  simp only [Act.put, List.setIfInBounds_toArray, List.set_cons_zero, List.set_cons_succ]
  refine wpAnyH_take (i := 1) (v := .agg (gradeC lv g.pts g.step).toArray) rfl (by kernel_rfl) (by kernel_rfl) (by kernel_rfl) (fun c a w h => glap_put (by decide) (by decide) h) (yields_value rfl fun W hS => by first | exact run_load_row 53 _ rfl w.heap.size rfl 53 (gradeC lv g.pts g.step).toArray (0, 0) _ hS.1 underGrade rfl (sizeGrade lv g.pts HP.out g.step) | simp [execOp, go_sem, Act.eval, Act.put, cell_of_row W _ _ _ _ _ hS.2.1]) hS0 ?_
  simp only [Act.put, List.setIfInBounds_toArray, List.set_cons_zero, List.set_cons_succ]
  refine wpAnyH_take (i := 2) (v := .int .i64 n) rfl (by kernel_rfl) (by kernel_rfl) (by kernel_rfl) (fun c a w h => glap_put (by decide) (by decide) h) (yields_value rfl fun W hS => by first | exact run_load_row 53 _ rfl w.heap.size rfl 53 (gradeC lv g.pts g.step).toArray (0, 0) _ hS.1 underGrade rfl (sizeGrade lv g.pts HP.out g.step) | simp [execOp, go_sem, Act.eval, Act.put, cell_of_row W _ _ _ _ _ hS.2.1]) hS0 ?_
  simp only [Act.put, List.setIfInBounds_toArray, List.set_cons_zero, List.set_cons_succ]
  clear hok
  have c3 : ∀ W, GoodL w g lv n W → Calls Try.prog 62 #[gradeV lv g.pts g.step, .int .i64 n] W fun e W' => e = .returned (.bool ok) ∧ GoodL w g lv n W' ∧ Below W.heap.size W W' := fun W hW => by
    refine (gisGrade_any g lv n W (HL.out.later hW.2.2.2.size (fun k h1 h2 => hW.2.2.2.block k h2)).low hl9).mono ?_
    rintro e W' ⟨rfl, hb⟩
    exact ⟨by rw [← HOK.out], hW.later hb, hb⟩
  have c4 : ∀ W, GoodL w g lv n W → Calls Try.prog 58 #[gradeV lv g.pts g.step, .bool ok] W fun e W' => GoodL w g lv n W' ∧ Below W.heap.size W W' ∧ ((∃ m, lapD g n = (0, m) ∧ e = .panicked [{ v := gstopV m, recovered := false }]) ∨
      (validG g = true ∧ ok = true ∧ ∃ bp l2, e = .returned (.pointer (some ⟨bp, 0, none⟩)) ∧ W'.heap[bp]? = some (.cells (benchC lv g.pts g.step l2).toArray 154 (0, 0)))) := fun W hW => by
    refine (gopen_any g HP.out lv ok W (HL.out.later hW.2.2.2.size (fun k h1 h2 => hW.2.2.2.block k h2)).low hl9).mono ?_
    rintro e W' ⟨hb, hres⟩
    refine ⟨hW.later hb, hb, ?_⟩
    cases hv : validG g with
    | false =>
      rw [hv] at hres
      exact .inl ⟨1, by unfold lapD errG; rw [hv]; rfl, hres⟩
    | true =>
      rw [hv] at hres
      simp only [if_true] at hres
      cases hok2 : ok with
      | false =>
        rw [hok2] at hres
        exact .inl ⟨2, by unfold lapD errG; rw [hv, ← HOK.out, hok2]; rfl, hres⟩
      | true =>
        rw [hok2] at hres
        simp only [if_true] at hres
        obtain ⟨bp, l2, h1, _, h2, _⟩ := hres
        exact .inr ⟨rfl, rfl, bp, l2, h1, h2⟩
  have c5 : ∀ W bp l2, GoodL w g lv n W → validG g = true → ok = true → W.heap[bp]? = some (.cells (benchC lv g.pts g.step l2).toArray 154 (0, 0)) →
      Calls Try.prog 59 #[.pointer (some ⟨bp, 0, none⟩)] W fun e W' => GoodL w g lv n W' ∧ Below W.heap.size W W' ∧ ((∃ m, lapD g n = (0, m) ∧ e = .panicked [{ v := gstopV m, recovered := false }]) ∨
      (truthsG g ≠ [] ∧ e = .returned (.pointer (some ⟨bp, 0, none⟩)))) := fun W bp l2 hW hv hok2 hbp => by
    refine (gtold_any g HP.out hv lv l2 bp W hbp).mono ?_
    rintro e W' ⟨hres, hb⟩
    refine ⟨hW.later hb, hb, ?_⟩
    by_cases ht : truthsG g = []
    · rw [if_pos ht] at hres
      exact .inl ⟨10, by unfold lapD errG; rw [hv, ← HOK.out, hok2, ht]; rfl, hres⟩
    · rw [if_neg ht] at hres
      exact .inr ⟨ht, hres⟩
  have stop : ∀ (m : Int) (tmps : Array Value) (w6 : World), GoodL w g lv n w6 → lapD g n = (0, m) → (tmps.getD 4 undef = .int .i64 0) → (tmps.getD 5 undef = .pointer (some ⟨w.heap.size + 2, 0, none⟩)) →
      Leaves Try.prog Try.f27 tmps (fun e w' => e = .returned (.tuple #[.int .i64 (lapD g n).1, .int .i64 (lapD g n).2]) ∧ Below w.heap.size w w') [{ target := .fn (.func 63) #[.pointer (some ⟨w.heap.size + 2, 0, none⟩)], args := #[] }] (.panicking [{ v := gstopV m, recovered := false }]) w6 := by
    intro m tmps w6 hG hn ht2 ht3
    refine leaf_stop_gLap m (w.heap.size + 2) 0 tmps w6 hG.2.2.1 (fun W' hk he => ?_)
    have e0 : W'.cell? ⟨w.heap.size + 2, 0, none⟩ = some (.int .i64 m) := by rw [cell_of_row _ _ _ _ _ _ he]; rfl
    have ht2' : tmps[4]?.getD undef = .int .i64 0 := by simpa [Array.getD_eq_getD_getElem?] using ht2
    have ht3' : tmps[5]?.getD undef = .pointer (some ⟨w.heap.size + 2, 0, none⟩) := by simpa [Array.getD_eq_getD_getElem?] using ht3
    refine ⟨.tuple #[.int .i64 0, .int .i64 m], by simp [results, Try.results27, go_sem, ht2', ht3', e0], by rw [hn], hG.2.2.2.trans (hk.below (by have := hG.2.2.2.size; omega) (fun k h e => by omega))⟩
  have fin : ∀ (ab bp : Nat) (l2 : Value) (W : World), GoodL w g lv n W → validG g = true → ok = true → truthsG g ≠ [] → W.heap[bp]? = some (.cells (benchC lv g.pts g.step l2).toArray 154 (0, 0)) →
      W.heap[ab]? = some (.cells #[.pointer (some ⟨bp, 0, none⟩)] 118 (0, 0)) →
      KK { tmps := #[.agg (gradeC lv g.pts g.step).toArray, .int .i64 n, .pointer (some ⟨w.heap.size, 0, none⟩), .pointer (some ⟨w.heap.size + 1, 0, none⟩), .int .i64 0, .pointer (some ⟨w.heap.size + 2, 0, none⟩), .pointer (some ⟨ab, 0, none⟩), undef, undef,
        .func (.func 63) #[] #[.pointer (some ⟨w.heap.size + 2, 0, none⟩)], .agg (gradeC lv g.pts g.step).toArray, .agg (gradeC lv g.pts g.step).toArray, .int .i64 n, .bool ok, .pointer (some ⟨bp, 0, none⟩), .pointer (some ⟨bp, 0, none⟩), undef, undef, undef, undef, undef, undef, undef, undef, undef], defers := [{ target := .fn (.func 63) #[.pointer (some ⟨w.heap.size + 2, 0, none⟩)], args := #[] }] } W := by
    intro ab bp l2 W hG hv hok2 ht hbp hab
    have hn0 : 0 ≤ n ∧ n < g.lim.length := by
      have h1 := HOK.out
      rw [hok2] at h1
      have h2 := of_decide_eq_true h1.symm
      omega
    have hnn : ((n.toNat : Nat) : Int) = n := by omega
    have hld : lapD g n = match lapsG g n.toNat with | some v => (v, 0) | none => (0, 4) := by
      have he : errG g (inN n 0 ((g.lim.length : Int) - 1)) = 0 := by unfold errG; rw [hv, ← HOK.out, hok2]; simp [ht]
      unfold lapD; simp only [he, if_true]
    have hfind : lapsG g n.toNat = levelsG.find? (keepsAll g n.toNat) := rfl
    rw [hfind] at hld
    have HLD := Lib.hid hld
    have HGW := Lib.hid hG
    have HV := Lib.hid hv
    have HBP := Lib.hid hbp
    have HAB := Lib.hid hab
    have HNN := Lib.hid hnn
    clear hld hG hv hbp hab hnn hfind ht hok2
    refine hK _ _ ?_
    go_wp2_with fail
    refine (gfirstI_any ab w.heap.size (w.heap.size + 1) (keepsAll g n.toNat) W ?_).mono ?_
    · intro level hlev W' hb
      have hGW := HGW.out.later hb
      exact glap2_any g HP.out HV.out lv l2 bp ab w.heap.size (w.heap.size + 1) n.toNat (by omega) level (levels_mem hlev) W' ((hb.block _ (lt_of_block HBP.out)).trans HBP.out) ((hb.block _ (lt_of_block HAB.out)).trans HAB.out) hGW.1 (by rw [HNN.out]; exact hGW.2.1)
        (HL.out.later hGW.2.2.2.size (fun k h1 h2 => hGW.2.2.2.block k h2)).low
    rintro e w6 ⟨rfl, hb6⟩
    have HG6 := Lib.hid (HGW.out.later hb6)
    clear hb6
    cases hfd : levelsG.find? (keepsAll g n.toNat) with
    | none =>
      have hstop := stop 4
      have HST := Lib.hid hstop
      have HLN := Lib.hid (show lapD g n = (0, 4) by rw [HLD.out, hfd])
      simp only [Option.getD_none, Option.isSome_none]
      clear hfd hstop stop
      go_wp2_with fail
      refine (gmust_no 4 _).mono ?_
      rintro e w7 ⟨rfl, rfl⟩
      exact HST.out _ w6 HG6.out HLN.out rfl rfl
    | some v =>
      have HLN := Lib.hid (show lapD g n = (v, 0) by rw [HLD.out, hfd])
      simp only [Option.getD_some, Option.isSome_some]
      clear hfd stop
      go_wp2_with fail
      refine (gmust_ok 4 _).mono ?_
      rintro e w7 ⟨rfl, rfl⟩
      dsimp only
      have c0 : w6.cell? ⟨w.heap.size + 2, 0, none⟩ = some (.int .i64 0) := by rw [cell_of_row _ _ _ _ _ _ HG6.out.2.2.1]; rfl
      have f0 : w6.frozen? ⟨w.heap.size + 2, 0, none⟩ = false := frozen_of_row _ _ _ _ _ HG6.out.2.2.1
      go_wp2
      refine leaf_ret_gLap (w.heap.size + 2) _ _ ?_
      have he8 : (w6.setCell ⟨w.heap.size + 2, 0, none⟩ (.int .i64 0)).heap[w.heap.size + 2]? = some (.cells #[.int .i64 0] 24 (0, 0)) := one_setG HG6.out.2.2.1
      have e0 : (w6.setCell ⟨w.heap.size + 2, 0, none⟩ (.int .i64 0)).cell? ⟨w.heap.size + 2, 0, none⟩ = some (.int .i64 0) := by rw [cell_of_row _ _ _ _ _ _ he8]; rfl
      refine ⟨.tuple #[.int .i64 v, .int .i64 0], ?_, by rw [HLN.out], HG6.out.2.2.2.setCell (by simp) _⟩
      simp [results, Try.results27, go_sem, e0]
  refine wpAnyH_two (i := 3) (j := 6) (by kernel_rfl) ?_ ?_
  · skip
    refine wpOp_call rfl rfl (f := 62) (args := #[gradeV lv g.pts g.step, .int .i64 n]) (by simp [execOp, go_sem, Act.eval, Act.put]; rfl) ?_
    refine (c3 _ hS0).mono ?_
    rintro e w1 ⟨rfl, hS1, hb1⟩
    refine ⟨hS1, ?_⟩
    refine wpAnyH_two (i := 4) (j := 6) (by kernel_rfl) ?_ ?_
    · skip
      refine wpOp_call rfl rfl (f := 58) (args := #[gradeV lv g.pts g.step, .bool ok]) (by simp [execOp, go_sem, Act.eval, Act.put]; rfl) ?_
      refine (c4 _ hS1).mono ?_
      rintro e w2 ⟨hS2, hb2, ⟨m, hm, rfl⟩ | ⟨hv, hok2, bp, l2, rfl, hbp2⟩⟩
      · exact stop m _ w2 hS2 hm rfl rfl
      refine ⟨hS2, ?_⟩
      refine wpAnyH_two (i := 5) (j := 6) (by kernel_rfl) ?_ ?_
      · skip
        refine wpOp_call rfl rfl (f := 59) (args := #[.pointer (some ⟨bp, 0, none⟩)]) (by simp [execOp, go_sem, Act.eval, Act.put]) ?_
        refine (c5 _ bp l2 hS2 hv hok2 hbp2).mono ?_
        rintro e w3 ⟨hS3, hb3, ⟨m, hm, rfl⟩ | ⟨ht, rfl⟩⟩
        · exact stop m _ w3 hS3 hm rfl rfl
        have hbp3 := (hb3.block _ (lt_of_block hbp2)).trans hbp2
        refine ⟨hS3, ?_⟩
        refine wpAnyH_value (k := 6) (v := .pointer (some ⟨w3.heap.size, 0, none⟩)) (w' := w3.alloc (.cells #[.pointer none] 118)) (by kernel_rfl) rfl rfl (by simp [execOp, go_sem, Act.eval, Act.put]) (hS3.later (below_allocG _ _)) ?_
        obtain ⟨ab, hab⟩ : ∃ k, k = w3.heap.size := ⟨_, rfl⟩
        obtain ⟨w4, hn4⟩ : ∃ W, W = w3.alloc (.cells #[.pointer none] 118) := ⟨_, rfl⟩
        have hS4 : GoodL w g lv n w4 := by rw [hn4]; exact hS3.later (below_allocG _ _)
        have hb4 : Below w3.heap.size w3 w4 := by rw [hn4]; exact below_allocG _ _
        have hab4 : w4.heap[ab]? = some (.cells #[.pointer none] 118 (0, 0)) := by rw [hn4]; exact heap_alloc_at _ _ _ hab
        have hlab : w.heap.size ≤ ab := by rw [hab]; exact hS3.2.2.2.size
        rw [← hn4, ← hab]
        clear hn4 hab
        have hbp4 := (hb4.block _ (lt_of_block hbp3)).trans hbp3
        have e0 : w4.cell? ⟨ab, 0, none⟩ = some (.pointer none) := by rw [cell_of_row _ _ _ _ _ _ hab4]; rfl
        have e1 : w4.frozen? ⟨ab, 0, none⟩ = false := frozen_of_row _ _ _ _ _ hab4
        refine wpAnyH_skip (k := 7) (w' := w4.setCell ⟨ab, 0, none⟩ (.pointer (some ⟨bp, 0, none⟩))) (by kernel_rfl) rfl rfl (by simp [execOp, go_sem, Act.eval, Act.put, e0, e1]) (goodL_set hS4 hab4 hlab) ?_
        refine wpAnyH_done (by kernel_rfl) ?_ _
        exact fin ab bp l2 _ (goodL_set hS4 hab4 hlab) hv hok2 ht ((other_setG _ _ _ _ (cells_ne hbp4 hab4 (by decide))).trans hbp4) (one_setG hab4)
      · skip
        refine wpOp_value (v := .pointer (some ⟨w2.heap.size, 0, none⟩)) (w' := w2.alloc (.cells #[.pointer none] 118)) rfl rfl (by simp [execOp, go_sem, Act.eval, Act.put]) ?_
        obtain ⟨ab, hab⟩ : ∃ k, k = w2.heap.size := ⟨_, rfl⟩
        obtain ⟨w3, hn3⟩ : ∃ W, W = w2.alloc (.cells #[.pointer none] 118) := ⟨_, rfl⟩
        have hS3 : GoodL w g lv n w3 := by rw [hn3]; exact hS2.later (below_allocG _ _)
        have hb3 : Below w2.heap.size w2 w3 := by rw [hn3]; exact below_allocG _ _
        have hab3 : w3.heap[ab]? = some (.cells #[.pointer none] 118 (0, 0)) := by rw [hn3]; exact heap_alloc_at _ _ _ hab
        have hlab : w.heap.size ≤ ab := by rw [hab]; exact hS2.2.2.2.size
        rw [← hn3, ← hab]
        clear hn3 hab
        have hbp3 := (hb3.block _ (lt_of_block hbp2)).trans hbp2
        refine ⟨hS3, ?_⟩
        refine wpAnyH_call (k := 5) (by kernel_rfl) rfl rfl (f := 59) (args := #[.pointer (some ⟨bp, 0, none⟩)]) (by simp [execOp, go_sem, Act.eval, Act.put]) ?_
        refine (c5 _ bp l2 hS3 hv hok2 hbp3).mono ?_
        rintro e w4 ⟨hS4, hb4, ⟨m, hm, rfl⟩ | ⟨ht, rfl⟩⟩
        · exact stop m _ w4 hS4 hm rfl rfl
        have hab4 := (hb4.block _ (lt_of_block hab3)).trans hab3
        have hbp4 := (hb4.block _ (lt_of_block hbp3)).trans hbp3
        refine ⟨hS4, ?_⟩
        have e0 : w4.cell? ⟨ab, 0, none⟩ = some (.pointer none) := by rw [cell_of_row _ _ _ _ _ _ hab4]; rfl
        have e1 : w4.frozen? ⟨ab, 0, none⟩ = false := frozen_of_row _ _ _ _ _ hab4
        refine wpAnyH_skip (k := 7) (w' := w4.setCell ⟨ab, 0, none⟩ (.pointer (some ⟨bp, 0, none⟩))) (by kernel_rfl) rfl rfl (by simp [execOp, go_sem, Act.eval, Act.put, e0, e1]) (goodL_set hS4 hab4 hlab) ?_
        refine wpAnyH_done (by kernel_rfl) ?_ _
        exact fin ab bp l2 _ (goodL_set hS4 hab4 hlab) hv hok2 ht ((other_setG _ _ _ _ (cells_ne hbp4 hab4 (by decide))).trans hbp4) (one_setG hab4)
    · skip
      refine wpOp_value (v := .pointer (some ⟨w1.heap.size, 0, none⟩)) (w' := w1.alloc (.cells #[.pointer none] 118)) rfl rfl (by simp [execOp, go_sem, Act.eval, Act.put]) ?_
      obtain ⟨ab, hab⟩ : ∃ k, k = w1.heap.size := ⟨_, rfl⟩
      obtain ⟨w2, hn2⟩ : ∃ W, W = w1.alloc (.cells #[.pointer none] 118) := ⟨_, rfl⟩
      have hS2 : GoodL w g lv n w2 := by rw [hn2]; exact hS1.later (below_allocG _ _)
      have hb2 : Below w1.heap.size w1 w2 := by rw [hn2]; exact below_allocG _ _
      have hab2 : w2.heap[ab]? = some (.cells #[.pointer none] 118 (0, 0)) := by rw [hn2]; exact heap_alloc_at _ _ _ hab
      have hlab : w.heap.size ≤ ab := by rw [hab]; exact hS1.2.2.2.size
      rw [← hn2, ← hab]
      clear hn2 hab
      refine ⟨hS2, ?_⟩
      refine wpAnyH_call (k := 4) (by kernel_rfl) rfl rfl (f := 58) (args := #[gradeV lv g.pts g.step, .bool ok]) (by simp [execOp, go_sem, Act.eval, Act.put]; rfl) ?_
      refine (c4 _ hS2).mono ?_
      rintro e w3 ⟨hS3, hb3, ⟨m, hm, rfl⟩ | ⟨hv, hok2, bp, l2, rfl, hbp3⟩⟩
      · exact stop m _ w3 hS3 hm rfl rfl
      have hab3 := (hb3.block _ (lt_of_block hab2)).trans hab2
      refine ⟨hS3, ?_⟩
      refine wpAnyH_call (k := 5) (by kernel_rfl) rfl rfl (f := 59) (args := #[.pointer (some ⟨bp, 0, none⟩)]) (by simp [execOp, go_sem, Act.eval, Act.put]) ?_
      refine (c5 _ bp l2 hS3 hv hok2 hbp3).mono ?_
      rintro e w4 ⟨hS4, hb4, ⟨m, hm, rfl⟩ | ⟨ht, rfl⟩⟩
      · exact stop m _ w4 hS4 hm rfl rfl
      have hab4 := (hb4.block _ (lt_of_block hab3)).trans hab3
      have hbp4 := (hb4.block _ (lt_of_block hbp3)).trans hbp3
      refine ⟨hS4, ?_⟩
      have e0 : w4.cell? ⟨ab, 0, none⟩ = some (.pointer none) := by rw [cell_of_row _ _ _ _ _ _ hab4]; rfl
      have e1 : w4.frozen? ⟨ab, 0, none⟩ = false := frozen_of_row _ _ _ _ _ hab4
      refine wpAnyH_skip (k := 7) (w' := w4.setCell ⟨ab, 0, none⟩ (.pointer (some ⟨bp, 0, none⟩))) (by kernel_rfl) rfl rfl (by simp [execOp, go_sem, Act.eval, Act.put, e0, e1]) (goodL_set hS4 hab4 hlab) ?_
      refine wpAnyH_done (by kernel_rfl) ?_ _
      exact fin ab bp l2 _ (goodL_set hS4 hab4 hlab) hv hok2 ht ((other_setG _ _ _ _ (cells_ne hbp4 hab4 (by decide))).trans hbp4) (one_setG hab4)
  · skip
    refine wpOp_value (v := .pointer (some ⟨W0.drew.heap.size, 0, none⟩)) (w' := W0.drew.alloc (.cells #[.pointer none] 118)) rfl rfl (by simp [execOp, go_sem, Act.eval, Act.put]) ?_
    obtain ⟨ab, hab⟩ : ∃ k, k = W0.drew.heap.size := ⟨_, rfl⟩
    obtain ⟨w1, hn1⟩ : ∃ W, W = W0.drew.alloc (.cells #[.pointer none] 118) := ⟨_, rfl⟩
    have hS1 : GoodL w g lv n w1 := by rw [hn1]; exact hS0.later (below_allocG _ _)
    have hb1 : Below W0.drew.heap.size W0.drew w1 := by rw [hn1]; exact below_allocG _ _
    have hab1 : w1.heap[ab]? = some (.cells #[.pointer none] 118 (0, 0)) := by rw [hn1]; exact heap_alloc_at _ _ _ hab
    have hlab : w.heap.size ≤ ab := by rw [hab]; exact hS0.2.2.2.size
    rw [← hn1, ← hab]
    clear hn1 hab
    refine ⟨hS1, ?_⟩
    refine wpAnyH_call (k := 3) (by kernel_rfl) rfl rfl (f := 62) (args := #[gradeV lv g.pts g.step, .int .i64 n]) (by simp [execOp, go_sem, Act.eval, Act.put]; rfl) ?_
    refine (c3 _ hS1).mono ?_
    rintro e w2 ⟨rfl, hS2, hb2⟩
    have hab2 := (hb2.block _ (lt_of_block hab1)).trans hab1
    refine ⟨hS2, ?_⟩
    refine wpAnyH_call (k := 4) (by kernel_rfl) rfl rfl (f := 58) (args := #[gradeV lv g.pts g.step, .bool ok]) (by simp [execOp, go_sem, Act.eval, Act.put]; rfl) ?_
    refine (c4 _ hS2).mono ?_
    rintro e w3 ⟨hS3, hb3, ⟨m, hm, rfl⟩ | ⟨hv, hok2, bp, l2, rfl, hbp3⟩⟩
    · exact stop m _ w3 hS3 hm rfl rfl
    have hab3 := (hb3.block _ (lt_of_block hab2)).trans hab2
    refine ⟨hS3, ?_⟩
    refine wpAnyH_call (k := 5) (by kernel_rfl) rfl rfl (f := 59) (args := #[.pointer (some ⟨bp, 0, none⟩)]) (by simp [execOp, go_sem, Act.eval, Act.put]) ?_
    refine (c5 _ bp l2 hS3 hv hok2 hbp3).mono ?_
    rintro e w4 ⟨hS4, hb4, ⟨m, hm, rfl⟩ | ⟨ht, rfl⟩⟩
    · exact stop m _ w4 hS4 hm rfl rfl
    have hab4 := (hb4.block _ (lt_of_block hab3)).trans hab3
    have hbp4 := (hb4.block _ (lt_of_block hbp3)).trans hbp3
    refine ⟨hS4, ?_⟩
    have e0 : w4.cell? ⟨ab, 0, none⟩ = some (.pointer none) := by rw [cell_of_row _ _ _ _ _ _ hab4]; rfl
    have e1 : w4.frozen? ⟨ab, 0, none⟩ = false := frozen_of_row _ _ _ _ _ hab4
    refine wpAnyH_skip (k := 7) (w' := w4.setCell ⟨ab, 0, none⟩ (.pointer (some ⟨bp, 0, none⟩))) (by kernel_rfl) rfl rfl (by simp [execOp, go_sem, Act.eval, Act.put, e0, e1]) (goodL_set hS4 hab4 hlab) ?_
    refine wpAnyH_done (by kernel_rfl) ?_ _
    exact fin ab bp l2 _ (goodL_set hS4 hab4 hlab) hv hok2 ht ((other_setG _ _ _ _ (cells_ne hbp4 hab4 (by decide))).trans hbp4) (one_setG hab4)
end Go.Proofs.Ytagjepclobobjaa
