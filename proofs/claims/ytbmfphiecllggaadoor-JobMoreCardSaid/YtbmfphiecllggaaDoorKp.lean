/- Texts Ch, Cj in one file; each begins with a word on what it proves. -/
import Derived.Test.YtbmfphiecllggaaDoorTie
import Derived.Test.YtbmfphiecllggaaDoorCards
import Derived.SevenTiedAt
import Derived.Test.YtbmfphiecllggaaDoorKo
import Derived.Test.YtbmfphiecllggaaDoorKg
import Derived.Test.YtbmfphiecllggaaDoorKh

/- JobMore, walked: from the start on. -/
namespace Go.Proofs.YtbmfphiecllggaaDoor
set_option linter.unusedVariables false
set_option linter.unusedSimpArgs false
open Go.RowKit Go.Shelf
attribute [local go_sem] Oper.semAt_some

set_option maxRecDepth 100000 in
set_option maxHeartbeats 8000000 in
theorem lmore_any (j : JobD) (bs ws : Value) (e : Int × Int) (x y : Int) (hx : 0 ≤ x ∧ x < 256) (hy : 0 ≤ y ∧ y < 256) (w : World) (hbs : SpansAt w bs j.st.bs (fun k => k < w.heap.size)) (hws : SpansAt w ws j.ws (fun k => k < w.heap.size)) (htz : TabZ w) :
    Calls Tryd.prog 10 #[jobV j bs ws, .agg #[.int .i64 e.1, .int .i64 e.2], .int .u8 x, .int .u8 y] w fun e w' => e = .returned (.bool true) ∧ Below w.heap.size w w' := by
  have HBS := Lib.hid hbs
  have HWS := Lib.hid hws
  have HTZ := Lib.hid htz
  have h1z := htz.lt
  obtain ⟨ao, cap, hv1, _⟩ := id hbs
  obtain ⟨ao2, cap2, hv2, _⟩ := id hws
  subst hv1 hv2
  obtain ⟨nb, hnb⟩ : ∃ n, n = j.st.bs.length := ⟨_, rfl⟩
  obtain ⟨nw, hnw⟩ : ∃ n, n = j.ws.length := ⟨_, rfl⟩
  rw [← hnb] at HBS
  rw [← hnw] at HWS
  unfold jobV
  rw [← hnb, ← hnw]
  have HNB := Lib.hid hnb
  have HNW := Lib.hid hnw
  clear hbs hws htz hnb hnw
  obtain ⟨fl, hfl⟩ : ∃ x, x = j.st.film.1 := ⟨_, rfl⟩
  obtain ⟨fh, hfh⟩ : ∃ x, x = j.st.film.2 := ⟨_, rfl⟩
  rw [← hfl, ← hfh]
  have HFL := Lib.hid (And.intro hfl hfh)
  clear hfl hfh
  obtain ⟨e1, e2⟩ := e
  have HJV := Lib.hid (show jobV j (.slice ao nb cap) (.slice ao2 nw cap2) = .agg #[.slice ao nb cap, .int .i64 fl, .int .i64 fh, .slice ao2 nw cap2] by unfold jobV; rw [← HFL.out.1, ← HFL.out.2])
  obtain ⟨W0, hW0⟩ : ∃ W0, W0 = (w.alloc (.cells #[.slice ao nb cap, .int .i64 fl, .int .i64 fh, .slice ao2 nw cap2] 28)).alloc (.cells #[.int .i64 e1, .int .i64 e2] 24) := ⟨_, rfl⟩
  have hb0 : Below w.heap.size w W0 := by rw [hW0]; exact ((Below.refl _ _).alloc (Nat.le_refl _) _).alloc (by simp) _
  have hr1 : W0.heap[w.heap.size]? = some (.cells #[.slice ao nb cap, .int .i64 fl, .int .i64 fh, .slice ao2 nw cap2] 28 (0, 0)) := by
    rw [hW0, ((Below.refl (w.heap.size + 1) _).alloc (by simp) _).block _ (by omega)]
    exact heap_alloc_at _ _ _ rfl
  have hr2 : W0.heap[w.heap.size + 1]? = some (.cells #[.int .i64 e1, .int .i64 e2] 24 (0, 0)) := by rw [hW0]; exact heap_alloc_at _ _ _ (by simp)
  have HBW0 := Lib.hid hb0
  have HXW0 := Lib.hid hr1
  have HEW0 := Lib.hid hr2
  clear hb0 hr1 hr2
  go_enter Tryd.func10, Tryd.ntmps10
  refine wp_cutM 5 (t := moreM 5) (by kernel_rfl) ?_
  simp only [cutM]
  go_wp2_with fail
  rw [← hW0]
  clear hW0
  have hc := fine_any j (.slice ao nb cap) (.slice ao2 nw cap2) W0 (HBS.out.later HBW0.out.size (fun k h1 _ => HBW0.out.block k h1)).low9 (HWS.out.later HBW0.out.size (fun k h1 _ => HBW0.out.block k h1)).low9
  rw [HJV.out] at hc
  refine hc.mono ?_
  rintro e w1 ⟨rfl, hb⟩
  clear hc
  dsimp only
  have HEw1 := Lib.hid ((hb.block _ (lt_of_block HEW0.out)).trans HEW0.out)
  have HXw1 := Lib.hid ((hb.block _ (lt_of_block HXW0.out)).trans HXW0.out)
  have HBw1 := Lib.hid (HBW0.out.trans (hb.mono HBW0.out.size))
  clear hb
  cases hv : validJb j with
  | false =>
    clear hv
    go_wp2_with fail
    refine (lawake_any _ (HTZ.out.below HBw1.out h1z)).mono ?_
    rintro e w9 ⟨rfl, hb9⟩
    dsimp only
    have HB9 := Lib.hid (HBw1.out.trans (hb9.mono HBw1.out.size))
    clear hb9
    go_wp2_with fail
    go_ret
    exact ⟨rfl, HB9.out⟩
  | true =>
    have HV := Lib.hid hv
    have hnw4 : nw ≤ 4 := by rw [HNW.out]; exact (validJb_parts hv).2.1
    have hnb8 : nb ≤ 8 := by rw [HNB.out]; exact (validSt_parts (validJb_parts hv).1).1
    clear hv
    have c0 : w1.cell? ⟨w.heap.size, 0, none⟩ = some (.slice ao nb cap) := by rw [cell_of_row _ _ _ _ _ _ HXw1.out]; rfl
    have c1 : w1.cell? ⟨w.heap.size, 1, none⟩ = some (.int .i64 fl) := by rw [cell_of_row _ _ _ _ _ _ HXw1.out]; rfl
    have c2 : w1.cell? ⟨w.heap.size, 2, none⟩ = some (.int .i64 fh) := by rw [cell_of_row _ _ _ _ _ _ HXw1.out]; rfl
    have c3 : w1.cell? ⟨w.heap.size, 3, none⟩ = some (.slice ao2 nw cap2) := by rw [cell_of_row _ _ _ _ _ _ HXw1.out]; rfl
    go_wp2_with fail
    clear c0 c1 c2 c3
    have HSX : Hid (∀ Y, Below w1.heap.size w1 Y → SMM w.heap.size (.slice ao nb cap) (.slice ao2 nw cap2) fl fh Y) := Lib.hid fun Y hb => by
      have hx := (hb.block _ (lt_of_block HXw1.out)).trans HXw1.out
      exact ⟨by rw [cell_of_row _ _ _ _ _ _ hx]; rfl, by rw [cell_of_row _ _ _ _ _ _ hx]; rfl, by rw [cell_of_row _ _ _ _ _ _ hx]; rfl, by rw [cell_of_row _ _ _ _ _ _ hx]; rfl⟩
    refine region_cut [some 51, some 52, some 10, some 11] (fun xs Y => ∃ gx gy, xs = [.agg #[.slice ao nb cap, .int .i64 fl, .int .i64 fh, .slice ao2 nw cap2], .agg #[.slice ao nb cap, .int .i64 fl, .int .i64 fh, .slice ao2 nw cap2], .pointer (some ⟨gx, 0, none⟩), .pointer (some ⟨gy, 0, none⟩)] ∧ w1.heap.size ≤ gx ∧ w1.heap.size ≤ gy ∧ gy ≠ gx ∧ Y.heap[gx]? = some (.cells #[.slice ao nb cap, .int .i64 fl, .int .i64 fh, .slice ao2 nw cap2] 28 (0, 0)) ∧ Y.heap[gy]? = some (.cells #[.slice ao nb cap, .int .i64 fl, .int .i64 fh, .slice ao2 nw cap2] 28 (0, 0)) ∧ Below w1.heap.size w1 Y) ?_ ?_
    · skip
      refine wp_region_held_drew (S := SMM w.heap.size (.slice ao nb cap) (.slice ao2 nw cap2) fl fh) (by kernel_rfl) (HSX.out _ (Below.refl _ _).drew) fun hS => ?_
      obtain ⟨D, hD⟩ : ∃ D, D = World.drew w1 := ⟨_, rfl⟩
      have HB1D : Hid (Below w1.heap.size w1 D) := Lib.hid (by rw [hD]; exact (Below.refl _ _).drew)
      rw [← hD] at hS ⊢
      clear hD
      refine wpAnyH_take (i := 0) (v := ?_) rfl (by kernel_rfl) (by kernel_rfl) (by kernel_rfl) (fun _ _ _ h => nomatch h.1) (Or.inl ⟨by rfl, ?_⟩) hS ?_
      rotate_left
      · (intro W hSw; obtain ⟨q0, q1, q2, q3⟩ := hSw; go_simp; try with_reducible rfl)
      try simp only [List.getElem_toArray, List.getElem_cons_succ, List.getElem_cons_zero, Act.put, List.setIfInBounds_toArray, List.set_cons_zero, List.set_cons_succ]
      refine wpAnyH_take (i := 1) (v := ?_) rfl (by kernel_rfl) (by kernel_rfl) (by kernel_rfl) (fun _ _ _ h => nomatch h.1) (Or.inl ⟨by rfl, ?_⟩) hS ?_
      rotate_left
      · (intro W hSw; obtain ⟨q0, q1, q2, q3⟩ := hSw; go_simp; try with_reducible rfl)
      try simp only [List.getElem_toArray, List.getElem_cons_succ, List.getElem_cons_zero, Act.put, List.setIfInBounds_toArray, List.set_cons_zero, List.set_cons_succ]
      refine wpAnyH_all (rs := [2, 3]) (by kernel_rfl) (by simp) fun i hi => ?_
      rcases (show i = 2 ∨ i = 3 by simpa using hi) with rfl | rfl <;> clear hi <;> refine wpOp_of rfl (by kernel_rfl) ?_
      · skip
        obtain ⟨gx, hg⟩ : ∃ g, g = D.heap.size := ⟨_, rfl⟩
        refine oper_value (v := .pointer (some ⟨gx, 0, none⟩)) (w' := D.alloc (.cells #[.slice none 0 0, .int .i64 0, .int .i64 0, .slice none 0 0] 28)) (by rw [hg]; simp [execOp, go_sem, Act.eval, Act.put]) ?_
        have hb := Below.alloc' D (.cells #[.slice none 0 0, .int .i64 0, .int .i64 0, .slice none 0 0] 28)
        have hc : (D.alloc (.cells #[.slice none 0 0, .int .i64 0, .int .i64 0, .slice none 0 0] 28)).heap[gx]? = some (.cells #[.slice none 0 0, .int .i64 0, .int .i64 0, .slice none 0 0] 28 (0, 0)) := heap_alloc_at _ _ _ hg
        obtain ⟨Y1, hZ⟩ : ∃ W, W = D.alloc (.cells #[.slice none 0 0, .int .i64 0, .int .i64 0, .slice none 0 0] 28) := ⟨_, rfl⟩
        rw [← hZ] at hb hc ⊢
        first
          | have HNE := Lib.hid (show gy ≠ gx by have := lt_of_block HGX.out.1; omega)
          | have HNE := Lib.hid (show gy ≠ gx by have := lt_of_block HGY.out.1; omega)
          | skip
        have HGX := Lib.hid (And.intro hc (show w1.heap.size ≤ gx by rw [hg]; exact HB1D.out.size))
        have HB1Y1 := Lib.hid (HB1D.out.trans (hb.mono HB1D.out.size))
        have HBB := Lib.hid hb
        refine ⟨HSX.out _ HB1Y1.out, ?_⟩
        clear hZ hc hg hb hS
        have hS := HSX.out _ HB1Y1.out
        try simp only [List.getElem_toArray, List.getElem_cons_succ, List.getElem_cons_zero, Act.put, List.setIfInBounds_toArray, List.set_cons_zero, List.set_cons_succ]
        refine wpAnyH_all (rs := [3]) (by kernel_rfl) (by simp) fun i hi => ?_
        obtain rfl : i = 3 := by simpa using hi
        clear hi
        refine wpOp_of rfl (by kernel_rfl) ?_
        obtain ⟨gy, hg⟩ : ∃ g, g = Y1.heap.size := ⟨_, rfl⟩
        refine oper_value (v := .pointer (some ⟨gy, 0, none⟩)) (w' := Y1.alloc (.cells #[.slice none 0 0, .int .i64 0, .int .i64 0, .slice none 0 0] 28)) (by rw [hg]; simp [execOp, go_sem, Act.eval, Act.put]) ?_
        have hb := Below.alloc' Y1 (.cells #[.slice none 0 0, .int .i64 0, .int .i64 0, .slice none 0 0] 28)
        have hc : (Y1.alloc (.cells #[.slice none 0 0, .int .i64 0, .int .i64 0, .slice none 0 0] 28)).heap[gy]? = some (.cells #[.slice none 0 0, .int .i64 0, .int .i64 0, .slice none 0 0] 28 (0, 0)) := heap_alloc_at _ _ _ hg
        obtain ⟨Y2, hZ⟩ : ∃ W, W = Y1.alloc (.cells #[.slice none 0 0, .int .i64 0, .int .i64 0, .slice none 0 0] 28) := ⟨_, rfl⟩
        rw [← hZ] at hb hc ⊢
        first
          | have HNE := Lib.hid (show gy ≠ gx by have := lt_of_block HGX.out.1; omega)
          | have HNE := Lib.hid (show gy ≠ gx by have := lt_of_block HGY.out.1; omega)
          | skip
        have HGY := Lib.hid (And.intro hc (show w1.heap.size ≤ gy by rw [hg]; exact HB1Y1.out.size))
        have HB1Y2 := Lib.hid (HB1Y1.out.trans (hb.mono HB1Y1.out.size))
        have HBB := Lib.hid hb
        refine ⟨HSX.out _ HB1Y2.out, ?_⟩
        clear hZ hc hg hb hS
        have hS := HSX.out _ HB1Y2.out
        try simp only [List.getElem_toArray, List.getElem_cons_succ, List.getElem_cons_zero, Act.put, List.setIfInBounds_toArray, List.set_cons_zero, List.set_cons_succ]
        replace HGX := Lib.hid (And.intro ((HBB.out.block _ (lt_of_block HGX.out.1)).trans HGX.out.1) HGX.out.2)
        refine wpAnyH_all (rs := [4]) (by kernel_rfl) (by simp) fun i hi => ?_
        obtain rfl : i = 4 := by simpa using hi
        clear hi
        refine wpOp_of rfl (by kernel_rfl) ?_
        refine wp_store_row 28 (.tmp 10) (.tmp 51) rfl gx #[.slice ao nb cap, .int .i64 fl, .int .i64 fh, .slice ao2 nw cap2] rfl rfl 28 _ HGX.out.1 (by kernel_rfl) rfl (by simp [Value.oneCell']) ?_
        obtain ⟨Y8, hZ⟩ : ∃ W, W = Y2.setRow gx #[.slice ao nb cap, .int .i64 fl, .int .i64 fh, .slice ao2 nw cap2] := ⟨_, rfl⟩
        have hk : Keeps (fun k => k = gx) Y2 Y8 := by rw [hZ]; exact keeps_setRow _ _ _
        have hr : Y8.heap[gx]? = some (.cells #[.slice ao nb cap, .int .i64 fl, .int .i64 fh, .slice ao2 nw cap2] 28 (0, 0)) := by rw [hZ]; exact setRow_heap _ _ _ _ _ _ HGX.out.1
        rw [← hZ]
        have HGY := Lib.hid (And.intro ((hk.block _ (lt_of_block HGY.out.1) (fun e => by have := HNE.out; omega)).trans HGY.out.1) HGY.out.2)
        have HGX := Lib.hid (And.intro hr HGX.out.2)
        have HB1Y8 := Lib.hid (HB1Y2.out.trans (hk.below HB1Y2.out.size (fun k h e => by have := HGX.out.2; omega)))
        refine ⟨HSX.out _ HB1Y8.out, ?_⟩
        clear hZ hk hr hS
        have hS := HSX.out _ HB1Y8.out
        try simp only [List.getElem_toArray, List.getElem_cons_succ, List.getElem_cons_zero, Act.put, List.setIfInBounds_toArray, List.set_cons_zero, List.set_cons_succ]
        refine wpAnyH_all (rs := [5]) (by kernel_rfl) (by simp) fun i hi => ?_
        obtain rfl : i = 5 := by simpa using hi
        clear hi
        refine wpOp_of rfl (by kernel_rfl) ?_
        refine wp_store_row 28 (.tmp 11) (.tmp 52) rfl gy #[.slice ao nb cap, .int .i64 fl, .int .i64 fh, .slice ao2 nw cap2] rfl rfl 28 _ HGY.out.1 (by kernel_rfl) rfl (by simp [Value.oneCell']) ?_
        obtain ⟨Y9, hZ⟩ : ∃ W, W = Y8.setRow gy #[.slice ao nb cap, .int .i64 fl, .int .i64 fh, .slice ao2 nw cap2] := ⟨_, rfl⟩
        have hk : Keeps (fun k => k = gy) Y8 Y9 := by rw [hZ]; exact keeps_setRow _ _ _
        have hr : Y9.heap[gy]? = some (.cells #[.slice ao nb cap, .int .i64 fl, .int .i64 fh, .slice ao2 nw cap2] 28 (0, 0)) := by rw [hZ]; exact setRow_heap _ _ _ _ _ _ HGY.out.1
        rw [← hZ]
        have HGX := Lib.hid (And.intro ((hk.block _ (lt_of_block HGX.out.1) (fun e => by have := HNE.out; omega)).trans HGX.out.1) HGX.out.2)
        have HGY := Lib.hid (And.intro hr HGY.out.2)
        have HB1Y9 := Lib.hid (HB1Y8.out.trans (hk.below HB1Y8.out.size (fun k h e => by have := HGY.out.2; omega)))
        refine ⟨HSX.out _ HB1Y9.out, ?_⟩
        clear hZ hk hr hS
        have hS := HSX.out _ HB1Y9.out
        try simp only [List.getElem_toArray, List.getElem_cons_succ, List.getElem_cons_zero, Act.put, List.setIfInBounds_toArray, List.set_cons_zero, List.set_cons_succ]
        refine wpAnyH_done (by kernel_rfl) ?_ _
        try simp only [List.getElem_toArray, List.getElem_cons_succ, List.getElem_cons_zero, Act.put, List.setIfInBounds_toArray, List.set_cons_zero, List.set_cons_succ]
        refine ⟨rfl, _, ?_, ⟨gx, gy, rfl, HGX.out.2, HGY.out.2, HNE.out, HGX.out.1, HGY.out.1, HB1Y9.out⟩⟩
        simp only [PutAll, Act.put, List.setIfInBounds_toArray, List.set_cons_zero, List.set_cons_succ]
      · skip
        obtain ⟨gy, hg⟩ : ∃ g, g = D.heap.size := ⟨_, rfl⟩
        refine oper_value (v := .pointer (some ⟨gy, 0, none⟩)) (w' := D.alloc (.cells #[.slice none 0 0, .int .i64 0, .int .i64 0, .slice none 0 0] 28)) (by rw [hg]; simp [execOp, go_sem, Act.eval, Act.put]) ?_
        have hb := Below.alloc' D (.cells #[.slice none 0 0, .int .i64 0, .int .i64 0, .slice none 0 0] 28)
        have hc : (D.alloc (.cells #[.slice none 0 0, .int .i64 0, .int .i64 0, .slice none 0 0] 28)).heap[gy]? = some (.cells #[.slice none 0 0, .int .i64 0, .int .i64 0, .slice none 0 0] 28 (0, 0)) := heap_alloc_at _ _ _ hg
        obtain ⟨Y1, hZ⟩ : ∃ W, W = D.alloc (.cells #[.slice none 0 0, .int .i64 0, .int .i64 0, .slice none 0 0] 28) := ⟨_, rfl⟩
        rw [← hZ] at hb hc ⊢
        first
          | have HNE := Lib.hid (show gy ≠ gx by have := lt_of_block HGX.out.1; omega)
          | have HNE := Lib.hid (show gy ≠ gx by have := lt_of_block HGY.out.1; omega)
          | skip
        have HGY := Lib.hid (And.intro hc (show w1.heap.size ≤ gy by rw [hg]; exact HB1D.out.size))
        have HB1Y1 := Lib.hid (HB1D.out.trans (hb.mono HB1D.out.size))
        have HBB := Lib.hid hb
        refine ⟨HSX.out _ HB1Y1.out, ?_⟩
        clear hZ hc hg hb hS
        have hS := HSX.out _ HB1Y1.out
        try simp only [List.getElem_toArray, List.getElem_cons_succ, List.getElem_cons_zero, Act.put, List.setIfInBounds_toArray, List.set_cons_zero, List.set_cons_succ]
        refine wpAnyH_all (rs := [2]) (by kernel_rfl) (by simp) fun i hi => ?_
        obtain rfl : i = 2 := by simpa using hi
        clear hi
        refine wpOp_of rfl (by kernel_rfl) ?_
        obtain ⟨gx, hg⟩ : ∃ g, g = Y1.heap.size := ⟨_, rfl⟩
        refine oper_value (v := .pointer (some ⟨gx, 0, none⟩)) (w' := Y1.alloc (.cells #[.slice none 0 0, .int .i64 0, .int .i64 0, .slice none 0 0] 28)) (by rw [hg]; simp [execOp, go_sem, Act.eval, Act.put]) ?_
        have hb := Below.alloc' Y1 (.cells #[.slice none 0 0, .int .i64 0, .int .i64 0, .slice none 0 0] 28)
        have hc : (Y1.alloc (.cells #[.slice none 0 0, .int .i64 0, .int .i64 0, .slice none 0 0] 28)).heap[gx]? = some (.cells #[.slice none 0 0, .int .i64 0, .int .i64 0, .slice none 0 0] 28 (0, 0)) := heap_alloc_at _ _ _ hg
        obtain ⟨Y2, hZ⟩ : ∃ W, W = Y1.alloc (.cells #[.slice none 0 0, .int .i64 0, .int .i64 0, .slice none 0 0] 28) := ⟨_, rfl⟩
        rw [← hZ] at hb hc ⊢
        first
          | have HNE := Lib.hid (show gy ≠ gx by have := lt_of_block HGX.out.1; omega)
          | have HNE := Lib.hid (show gy ≠ gx by have := lt_of_block HGY.out.1; omega)
          | skip
        have HGX := Lib.hid (And.intro hc (show w1.heap.size ≤ gx by rw [hg]; exact HB1Y1.out.size))
        have HB1Y2 := Lib.hid (HB1Y1.out.trans (hb.mono HB1Y1.out.size))
        have HBB := Lib.hid hb
        refine ⟨HSX.out _ HB1Y2.out, ?_⟩
        clear hZ hc hg hb hS
        have hS := HSX.out _ HB1Y2.out
        try simp only [List.getElem_toArray, List.getElem_cons_succ, List.getElem_cons_zero, Act.put, List.setIfInBounds_toArray, List.set_cons_zero, List.set_cons_succ]
        replace HGY := Lib.hid (And.intro ((HBB.out.block _ (lt_of_block HGY.out.1)).trans HGY.out.1) HGY.out.2)
        refine wpAnyH_all (rs := [4]) (by kernel_rfl) (by simp) fun i hi => ?_
        obtain rfl : i = 4 := by simpa using hi
        clear hi
        refine wpOp_of rfl (by kernel_rfl) ?_
        refine wp_store_row 28 (.tmp 10) (.tmp 51) rfl gx #[.slice ao nb cap, .int .i64 fl, .int .i64 fh, .slice ao2 nw cap2] rfl rfl 28 _ HGX.out.1 (by kernel_rfl) rfl (by simp [Value.oneCell']) ?_
        obtain ⟨Y8, hZ⟩ : ∃ W, W = Y2.setRow gx #[.slice ao nb cap, .int .i64 fl, .int .i64 fh, .slice ao2 nw cap2] := ⟨_, rfl⟩
        have hk : Keeps (fun k => k = gx) Y2 Y8 := by rw [hZ]; exact keeps_setRow _ _ _
        have hr : Y8.heap[gx]? = some (.cells #[.slice ao nb cap, .int .i64 fl, .int .i64 fh, .slice ao2 nw cap2] 28 (0, 0)) := by rw [hZ]; exact setRow_heap _ _ _ _ _ _ HGX.out.1
        rw [← hZ]
        have HGY := Lib.hid (And.intro ((hk.block _ (lt_of_block HGY.out.1) (fun e => by have := HNE.out; omega)).trans HGY.out.1) HGY.out.2)
        have HGX := Lib.hid (And.intro hr HGX.out.2)
        have HB1Y8 := Lib.hid (HB1Y2.out.trans (hk.below HB1Y2.out.size (fun k h e => by have := HGX.out.2; omega)))
        refine ⟨HSX.out _ HB1Y8.out, ?_⟩
        clear hZ hk hr hS
        have hS := HSX.out _ HB1Y8.out
        try simp only [List.getElem_toArray, List.getElem_cons_succ, List.getElem_cons_zero, Act.put, List.setIfInBounds_toArray, List.set_cons_zero, List.set_cons_succ]
        refine wpAnyH_all (rs := [5]) (by kernel_rfl) (by simp) fun i hi => ?_
        obtain rfl : i = 5 := by simpa using hi
        clear hi
        refine wpOp_of rfl (by kernel_rfl) ?_
        refine wp_store_row 28 (.tmp 11) (.tmp 52) rfl gy #[.slice ao nb cap, .int .i64 fl, .int .i64 fh, .slice ao2 nw cap2] rfl rfl 28 _ HGY.out.1 (by kernel_rfl) rfl (by simp [Value.oneCell']) ?_
        obtain ⟨Y9, hZ⟩ : ∃ W, W = Y8.setRow gy #[.slice ao nb cap, .int .i64 fl, .int .i64 fh, .slice ao2 nw cap2] := ⟨_, rfl⟩
        have hk : Keeps (fun k => k = gy) Y8 Y9 := by rw [hZ]; exact keeps_setRow _ _ _
        have hr : Y9.heap[gy]? = some (.cells #[.slice ao nb cap, .int .i64 fl, .int .i64 fh, .slice ao2 nw cap2] 28 (0, 0)) := by rw [hZ]; exact setRow_heap _ _ _ _ _ _ HGY.out.1
        rw [← hZ]
        have HGX := Lib.hid (And.intro ((hk.block _ (lt_of_block HGX.out.1) (fun e => by have := HNE.out; omega)).trans HGX.out.1) HGX.out.2)
        have HGY := Lib.hid (And.intro hr HGY.out.2)
        have HB1Y9 := Lib.hid (HB1Y8.out.trans (hk.below HB1Y8.out.size (fun k h e => by have := HGY.out.2; omega)))
        refine ⟨HSX.out _ HB1Y9.out, ?_⟩
        clear hZ hk hr hS
        have hS := HSX.out _ HB1Y9.out
        try simp only [List.getElem_toArray, List.getElem_cons_succ, List.getElem_cons_zero, Act.put, List.setIfInBounds_toArray, List.set_cons_zero, List.set_cons_succ]
        refine wpAnyH_done (by kernel_rfl) ?_ _
        try simp only [List.getElem_toArray, List.getElem_cons_succ, List.getElem_cons_zero, Act.put, List.setIfInBounds_toArray, List.set_cons_zero, List.set_cons_succ]
        refine ⟨rfl, _, ?_, ⟨gx, gy, rfl, HGX.out.2, HGY.out.2, HNE.out, HGX.out.1, HGY.out.1, HB1Y9.out⟩⟩
        simp only [PutAll, Act.put, List.setIfInBounds_toArray, List.set_cons_zero, List.set_cons_succ]
    · rintro xs w2 ⟨gx, gy, rfl, hgx, hgy, hne, hX, hY, hb⟩
      simp only [PutAll, Act.put, List.setIfInBounds_toArray, List.set_cons_zero, List.set_cons_succ]
      have HXX := Lib.hid hX
      have HYY := Lib.hid hY
      have HGG := Lib.hid (And.intro hgx (And.intro hgy hne))
      have HB12 := Lib.hid hb
      have HXw2 := Lib.hid ((hb.block _ (lt_of_block HXw1.out)).trans HXw1.out)
      have HBw2 := Lib.hid (HBw1.out.trans (hb.mono HBw1.out.size))
      clear hb
      clear hX hY hgx hgy hne
      go_upto_region 5 with fail
      refine region_cut [some 53, some 54, some 55, some 56, some 57, some 58, some 59, some 60, some 61, some 62, some 63, some 64, some 65] (fun xs Y => ∃ g1 g2 a1 k1 a2 k2, xs = [.slice (some ⟨g1, 0, none⟩) 0 0, .pointer (some ⟨w.heap.size, 0, none⟩), .pointer (some ⟨w.heap.size, 0, none⟩), .slice ao nb cap, .slice a1 nb k1, .slice (some ⟨g2, 0, none⟩) 0 0, .pointer (some ⟨w.heap.size, 3, none⟩), .slice ao2 nw cap2, .slice a2 nw k2, .pointer (some ⟨gx, 0, none⟩), .pointer (some ⟨gx, 0, none⟩), .pointer (some ⟨gx, 3, none⟩), .pointer (some ⟨gy, 3, none⟩)] ∧
          Y.ownsRow w2.heap.size 24 2 (.slice a1 nb k1) nb (j.st.bs.flatMap spM) ∧ Y.ownsRow w2.heap.size 24 2 (.slice a2 nw k2) nw (j.ws.flatMap spM) ∧ (.slice a2 nw k2 : Value).ownBlock ≠ (.slice a1 nb k1 : Value).ownBlock ∧ Y.heap[gx]? = some (.cells #[.slice a1 nb k1, .int .i64 fl, .int .i64 fh, .slice a2 nw k2] 28 (0, 0)) ∧ Y.heap[gy]? = some (.cells #[.slice ao nb cap, .int .i64 fl, .int .i64 fh, .slice none 0 0] 28 (0, 0)) ∧ w2.heap.size ≤ Y.heap.size ∧ Below w1.heap.size w1 Y) ?_ ?_
      · skip
        refine wp_region_held_drew (S := SMM w.heap.size (.slice ao nb cap) (.slice ao2 nw cap2) fl fh) (by kernel_rfl) (HSX.out _ HB12.out.drew) fun hS => ?_
        obtain ⟨D, hD⟩ : ∃ D, D = World.drew w2 := ⟨_, rfl⟩
        have HB2D : Hid (Below w2.heap.size w2 D) := Lib.hid (by rw [hD]; exact (Below.refl _ _).drew)
        have HB1D := Lib.hid (HB12.out.trans (HB2D.out.mono HB12.out.size))
        rw [← hD] at hS ⊢
        clear hD
        refine wpAnyH_take (i := 1) (v := ?_) rfl (by kernel_rfl) (by kernel_rfl) (by kernel_rfl) (fun _ _ _ h => nomatch h.1) (Or.inl ⟨by rfl, ?_⟩) hS ?_
        rotate_left
        · (intro W hSw; obtain ⟨q0, q1, q2, q3⟩ := hSw; go_simp; try with_reducible rfl)
        try simp only [List.getElem_toArray, List.getElem_cons_succ, List.getElem_cons_zero, Act.put, List.setIfInBounds_toArray, List.set_cons_zero, List.set_cons_succ]
        refine wpAnyH_take (i := 2) (v := ?_) rfl (by kernel_rfl) (by kernel_rfl) (by kernel_rfl) (fun _ _ _ h => nomatch h.1) (Or.inl ⟨by rfl, ?_⟩) hS ?_
        rotate_left
        · (intro W hSw; obtain ⟨q0, q1, q2, q3⟩ := hSw; go_simp; try with_reducible rfl)
        try simp only [List.getElem_toArray, List.getElem_cons_succ, List.getElem_cons_zero, Act.put, List.setIfInBounds_toArray, List.set_cons_zero, List.set_cons_succ]
        refine wpAnyH_take (i := 3) (v := ?_) rfl (by kernel_rfl) (by kernel_rfl) (by kernel_rfl) (fun _ _ _ h => nomatch h.1) (Or.inl ⟨by rfl, ?_⟩) hS ?_
        rotate_left
        · (intro W hSw; obtain ⟨q0, q1, q2, q3⟩ := hSw; go_simp; try with_reducible rfl)
        try simp only [List.getElem_toArray, List.getElem_cons_succ, List.getElem_cons_zero, Act.put, List.setIfInBounds_toArray, List.set_cons_zero, List.set_cons_succ]
        refine wpAnyH_take (i := 6) (v := ?_) rfl (by kernel_rfl) (by kernel_rfl) (by kernel_rfl) (fun _ _ _ h => nomatch h.1) (Or.inl ⟨by rfl, ?_⟩) hS ?_
        rotate_left
        · (intro W hSw; obtain ⟨q0, q1, q2, q3⟩ := hSw; go_simp; try with_reducible rfl)
        try simp only [List.getElem_toArray, List.getElem_cons_succ, List.getElem_cons_zero, Act.put, List.setIfInBounds_toArray, List.set_cons_zero, List.set_cons_succ]
        refine wpAnyH_take (i := 7) (v := ?_) rfl (by kernel_rfl) (by kernel_rfl) (by kernel_rfl) (fun _ _ _ h => nomatch h.1) (Or.inl ⟨by rfl, ?_⟩) hS ?_
        rotate_left
        · (intro W hSw; obtain ⟨q0, q1, q2, q3⟩ := hSw; go_simp; try with_reducible rfl)
        try simp only [List.getElem_toArray, List.getElem_cons_succ, List.getElem_cons_zero, Act.put, List.setIfInBounds_toArray, List.set_cons_zero, List.set_cons_succ]
        refine wpAnyH_all (rs := [0, 5]) (by kernel_rfl) (by simp) fun i hi => ?_
        rcases (show i = 0 ∨ i = 5 by simpa using hi) with rfl | rfl <;> clear hi <;> refine wpOp_of rfl (by kernel_rfl) ?_
        · skip
          obtain ⟨g1, hg⟩ : ∃ g, g = D.heap.size := ⟨_, rfl⟩
          refine oper_value (v := .slice (some ⟨g1, 0, none⟩) 0 0) (w' := D.alloc (.cells #[] 24)) (by rw [hg]; simp [execOp, go_sem, Act.eval, Act.put]) ?_
          have hb := Below.alloc' D (.cells #[] 24)
          have hc : (D.alloc (.cells #[] 24)).heap[g1]? = some (.cells #[] 24 (0, 0)) := heap_alloc_at _ _ _ hg
          obtain ⟨Y1, hZ⟩ : ∃ W, W = D.alloc (.cells #[] 24) := ⟨_, rfl⟩
          rw [← hZ] at hb hc ⊢
          first
            | have HNV := Lib.hid (show (.slice a1 nb k1 : Value).ownBlock ≠ some g1 by intro e; have := (HO1.out.lt _ e).2; omega)
            | skip
          first
            | have HNG := Lib.hid (show g2 ≠ g1 by have := lt_of_block HG1.out.1; omega)
            | have HNG := Lib.hid (show g2 ≠ g1 by have := lt_of_block HG2.out.1; omega)
            | skip
          first | (replace HO1 := Lib.hid (own_below HO1.out hb)) | skip
          first | (replace HG1 := Lib.hid (And.intro ((hb.block _ (lt_of_block HG1.out.1)).trans HG1.out.1) HG1.out.2)) | skip
          first | (replace HG2 := Lib.hid (And.intro ((hb.block _ (lt_of_block HG2.out.1)).trans HG2.out.1) HG2.out.2)) | skip
          have HG1 := Lib.hid (And.intro hc (show w2.heap.size ≤ g1 by rw [hg]; exact HB2D.out.size))
          have HB2Y1 := Lib.hid (HB2D.out.trans (hb.mono HB2D.out.size))
          have HB1Y1 := Lib.hid (HB12.out.trans (HB2Y1.out.mono HB12.out.size))
          clear hZ hc hg hb
          refine ⟨HSX.out _ HB1Y1.out, ?_⟩
          clear hS
          have hS := HSX.out _ HB1Y1.out
          try simp only [List.getElem_toArray, List.getElem_cons_succ, List.getElem_cons_zero, Act.put, List.setIfInBounds_toArray, List.set_cons_zero, List.set_cons_succ]
          refine wpAnyH_all (rs := [4, 5]) (by kernel_rfl) (by simp) fun i hi => ?_
          rcases (show i = 4 ∨ i = 5 by simpa using hi) with rfl | rfl <;> clear hi <;> refine wpOp_of rfl (by kernel_rfl) ?_
          · skip
            refine wp_copy_spM (.tmp 53) (.tmp 56) rfl w2.heap.size g1 rfl HG1.out.1 HG1.out.2 ao cap nb j.st.bs HNB.out rfl _ (HBS.out.later (HBw1.out.trans (HB1Y1.out.mono HBw1.out.size)).size (fun k h1 _ => (HBw1.out.trans (HB1Y1.out.mono HBw1.out.size)).block k h1)) (by omega) HB2Y1.out.size ?_
            intro v Y2 hown hgrow hob
            obtain ⟨a1, k1, hv, _⟩ := id (spans_of_ownM HNB.out hown)
            rw [← HNB.out] at hv
            subst hv
            first
              | have HNV := Lib.hid (show (.slice a1 nb k1 : Value).ownBlock ≠ some g2 by intro e; have := lt_of_block HG2.out.1; have := HNG.out; rw [e] at hob; simp only [Option.some.injEq] at hob; omega)
              | skip
            first | (replace HG2 := Lib.hid (And.intro (((keeps_grown hgrow).block _ (lt_of_block HG2.out.1) (fun e => by have := HNG.out; simp only [Option.some.injEq] at e; omega)).trans HG2.out.1) HG2.out.2)) | skip
            have HB2Y2 := Lib.hid (HB2Y1.out.trans ((keeps_grown hgrow).below HB2Y1.out.size (fun k h e => by have := HG1.out.2; simp only [Option.some.injEq] at e; omega)))
            have HB1Y2 := Lib.hid (HB12.out.trans (HB2Y2.out.mono HB12.out.size))
            have HO1 := Lib.hid hown
            clear hown hgrow hob HG1
            refine ⟨HSX.out _ HB1Y2.out, ?_⟩
            clear hS
            have hS := HSX.out _ HB1Y2.out
            try simp only [List.getElem_toArray, List.getElem_cons_succ, List.getElem_cons_zero, Act.put, List.setIfInBounds_toArray, List.set_cons_zero, List.set_cons_succ]
            refine wpAnyH_take (i := 9) (v := ?_) rfl (by kernel_rfl) (by kernel_rfl) (by kernel_rfl) (fun _ _ _ h => nomatch h.1) (Or.inl ⟨by rfl, ?_⟩) hS ?_
            rotate_left
            · (intro W hSw; obtain ⟨q0, q1, q2, q3⟩ := hSw; go_simp; try with_reducible rfl)
            try simp only [List.getElem_toArray, List.getElem_cons_succ, List.getElem_cons_zero, Act.put, List.setIfInBounds_toArray, List.set_cons_zero, List.set_cons_succ]
            refine wpAnyH_take (i := 10) (v := ?_) rfl (by kernel_rfl) (by kernel_rfl) (by kernel_rfl) (fun _ _ _ h => nomatch h.1) (Or.inl ⟨by rfl, ?_⟩) hS ?_
            rotate_left
            · (intro W hSw; obtain ⟨q0, q1, q2, q3⟩ := hSw; go_simp; try with_reducible rfl)
            try simp only [List.getElem_toArray, List.getElem_cons_succ, List.getElem_cons_zero, Act.put, List.setIfInBounds_toArray, List.set_cons_zero, List.set_cons_succ]
            refine wpAnyH_all (rs := [5]) (by kernel_rfl) (by simp) fun i hi => ?_
            obtain rfl : i = 5 := by simpa using hi
            clear hi
            refine wpOp_of rfl (by kernel_rfl) ?_
            obtain ⟨g2, hg⟩ : ∃ g, g = Y2.heap.size := ⟨_, rfl⟩
            refine oper_value (v := .slice (some ⟨g2, 0, none⟩) 0 0) (w' := Y2.alloc (.cells #[] 24)) (by rw [hg]; simp [execOp, go_sem, Act.eval, Act.put]) ?_
            have hb := Below.alloc' Y2 (.cells #[] 24)
            have hc : (Y2.alloc (.cells #[] 24)).heap[g2]? = some (.cells #[] 24 (0, 0)) := heap_alloc_at _ _ _ hg
            obtain ⟨Y3, hZ⟩ : ∃ W, W = Y2.alloc (.cells #[] 24) := ⟨_, rfl⟩
            rw [← hZ] at hb hc ⊢
            first
              | have HNV := Lib.hid (show (.slice a1 nb k1 : Value).ownBlock ≠ some g2 by intro e; have := (HO1.out.lt _ e).2; omega)
              | skip
            first
              | have HNG := Lib.hid (show g2 ≠ g1 by have := lt_of_block HG1.out.1; omega)
              | have HNG := Lib.hid (show g2 ≠ g1 by have := lt_of_block HG2.out.1; omega)
              | skip
            first | (replace HO1 := Lib.hid (own_below HO1.out hb)) | skip
            first | (replace HG1 := Lib.hid (And.intro ((hb.block _ (lt_of_block HG1.out.1)).trans HG1.out.1) HG1.out.2)) | skip
            first | (replace HG2 := Lib.hid (And.intro ((hb.block _ (lt_of_block HG2.out.1)).trans HG2.out.1) HG2.out.2)) | skip
            have HG2 := Lib.hid (And.intro hc (show w2.heap.size ≤ g2 by rw [hg]; exact HB2Y2.out.size))
            have HB2Y3 := Lib.hid (HB2Y2.out.trans (hb.mono HB2Y2.out.size))
            have HB1Y3 := Lib.hid (HB12.out.trans (HB2Y3.out.mono HB12.out.size))
            clear hZ hc hg hb
            refine ⟨HSX.out _ HB1Y3.out, ?_⟩
            clear hS
            have hS := HSX.out _ HB1Y3.out
            try simp only [List.getElem_toArray, List.getElem_cons_succ, List.getElem_cons_zero, Act.put, List.setIfInBounds_toArray, List.set_cons_zero, List.set_cons_succ]
            refine wpAnyH_all (rs := [8]) (by kernel_rfl) (by simp) fun i hi => ?_
            obtain rfl : i = 8 := by simpa using hi
            clear hi
            refine wpOp_of rfl (by kernel_rfl) ?_
            refine wp_copy_spM (.tmp 58) (.tmp 60) rfl w2.heap.size g2 rfl HG2.out.1 HG2.out.2 ao2 cap2 nw j.ws HNW.out rfl _ (HWS.out.later (HBw1.out.trans (HB1Y3.out.mono HBw1.out.size)).size (fun k h1 _ => (HBw1.out.trans (HB1Y3.out.mono HBw1.out.size)).block k h1)) (by omega) HB2Y3.out.size ?_
            intro v Y4 hown hgrow hob
            obtain ⟨a2, k2, hv, _⟩ := id (spans_of_ownM HNW.out hown)
            rw [← HNW.out] at hv
            subst hv
            have HNE2 := Lib.hid (show (.slice a2 nw k2 : Value).ownBlock ≠ (.slice a1 nb k1 : Value).ownBlock by
              intro e
              rcases hob with hob | hob <;> rw [hob] at e
              · exact HNV.out e.symm
              · have := (HO1.out.lt _ e.symm).2
                omega)
            replace HO1 := Lib.hid (HO1.out.kept hgrow (Or.inr HNV.out))
            have HB2Y4 := Lib.hid (HB2Y3.out.trans ((keeps_grown hgrow).below HB2Y3.out.size (fun k h e => by have := HG2.out.2; simp only [Option.some.injEq] at e; omega)))
            have HB1Y4 := Lib.hid (HB12.out.trans (HB2Y4.out.mono HB12.out.size))
            have HO2 := Lib.hid hown
            clear hown hgrow hob
            refine ⟨HSX.out _ HB1Y4.out, ?_⟩
            clear hS
            have hS := HSX.out _ HB1Y4.out
            try simp only [List.getElem_toArray, List.getElem_cons_succ, List.getElem_cons_zero, Act.put, List.setIfInBounds_toArray, List.set_cons_zero, List.set_cons_succ]
            have HRX := Lib.hid ((HB2Y4.out.block _ (lt_of_block HXX.out)).trans HXX.out)
            have HRY := Lib.hid ((HB2Y4.out.block _ (lt_of_block HYY.out)).trans HYY.out)
            refine wpAnyH_all (rs := [11]) (by kernel_rfl) (by simp) fun i hi => ?_
            obtain rfl : i = 11 := by simpa using hi
            clear hi
            refine wpOp_of rfl (by kernel_rfl) ?_
            have hf : Y4.frozen? ⟨gx, 0, none⟩ = false := frozen_of_row _ _ _ _ _ HRX.out
            have hc : Y4.cell? ⟨gx, 0, none⟩ = some (.slice ao nb cap) := by rw [cell_of_row _ _ _ _ _ _ HRX.out]; rfl
            refine oper_store 22 (.tmp 63) (.tmp 57) rfl (.pointer (some ⟨gx, 0, none⟩)) (.slice a1 nb k1) rfl rfl (w' := Y4.setCell ⟨gx, 0, none⟩ (.slice a1 nb k1)) (by simp [go_sem, hf, hc]) ?_
            clear hc
            obtain ⟨Y5, hZ⟩ : ∃ W, W = Y4.setCell ⟨gx, 0, none⟩ (.slice a1 nb k1) := ⟨_, rfl⟩
            have hr := (cells_setM (k := 0) (v := (.slice a1 nb k1)) HRX.out)
            have ho1 := ownsRow_setCell_below HO1.out (a := ⟨gx, 0, none⟩) (by have := lt_of_block HXX.out; have := lt_of_block HYY.out; dsimp only; omega) (.slice a1 nb k1)
            have ho2 := ownsRow_setCell_below HO2.out (a := ⟨gx, 0, none⟩) (by have := lt_of_block HXX.out; have := lt_of_block HYY.out; dsimp only; omega) (.slice a1 nb k1)
            have hq : (Y4.setCell ⟨gx, 0, none⟩ (.slice a1 nb k1)).heap[_]? = _ := (Below.heap_setCell _ _ _ _ (by have := HGG.out.2.2; dsimp only; omega)).trans HRY.out
            have hb1 : Below w1.heap.size w1 (Y4.setCell ⟨gx, 0, none⟩ (.slice a1 nb k1)) := HB1Y4.out.setCell (by have := HGG.out.1; have := HGG.out.2.1; dsimp only; omega) _
            rw [← hZ] at hr ho1 ho2 hq hb1 ⊢
            simp only [List.setIfInBounds_toArray, List.set_cons_zero, List.set_cons_succ] at hr
            replace HRX := Lib.hid hr
            replace HRY := Lib.hid hq
            replace HO1 := Lib.hid ho1
            replace HO2 := Lib.hid ho2
            have HB1Y5 := Lib.hid hb1
            have HZSY5 := Lib.hid (show Y5.heap.size = Y4.heap.size by rw [hZ]; simp [World.setCell])
            clear hZ hr ho1 ho2 hq hb1 hf
            refine ⟨HSX.out _ HB1Y5.out, ?_⟩
            clear hS
            have hS := HSX.out _ HB1Y5.out
            try simp only [List.getElem_toArray, List.getElem_cons_succ, List.getElem_cons_zero, Act.put, List.setIfInBounds_toArray, List.set_cons_zero, List.set_cons_succ]
            refine wpAnyH_take (i := 12) (v := ?_) rfl (by kernel_rfl) (by kernel_rfl) (by kernel_rfl) (fun _ _ _ h => nomatch h.1) (Or.inl ⟨by rfl, ?_⟩) hS ?_
            rotate_left
            · (intro W hSw; obtain ⟨q0, q1, q2, q3⟩ := hSw; go_simp; try with_reducible rfl)
            try simp only [List.getElem_toArray, List.getElem_cons_succ, List.getElem_cons_zero, Act.put, List.setIfInBounds_toArray, List.set_cons_zero, List.set_cons_succ]
            refine wpAnyH_all (rs := [13]) (by kernel_rfl) (by simp) fun i hi => ?_
            obtain rfl : i = 13 := by simpa using hi
            clear hi
            refine wpOp_of rfl (by kernel_rfl) ?_
            have hf : Y5.frozen? ⟨gx, 3, none⟩ = false := frozen_of_row _ _ _ _ _ HRX.out
            have hc : Y5.cell? ⟨gx, 3, none⟩ = some (.slice ao2 nw cap2) := by rw [cell_of_row _ _ _ _ _ _ HRX.out]; rfl
            refine oper_store 22 (.tmp 64) (.tmp 61) rfl (.pointer (some ⟨gx, 3, none⟩)) (.slice a2 nw k2) rfl rfl (w' := Y5.setCell ⟨gx, 3, none⟩ (.slice a2 nw k2)) (by simp [go_sem, hf, hc]) ?_
            clear hc
            obtain ⟨Y6, hZ⟩ : ∃ W, W = Y5.setCell ⟨gx, 3, none⟩ (.slice a2 nw k2) := ⟨_, rfl⟩
            have hr := (cells_setM (k := 3) (v := (.slice a2 nw k2)) HRX.out)
            have ho1 := ownsRow_setCell_below HO1.out (a := ⟨gx, 3, none⟩) (by have := lt_of_block HXX.out; have := lt_of_block HYY.out; dsimp only; omega) (.slice a2 nw k2)
            have ho2 := ownsRow_setCell_below HO2.out (a := ⟨gx, 3, none⟩) (by have := lt_of_block HXX.out; have := lt_of_block HYY.out; dsimp only; omega) (.slice a2 nw k2)
            have hq : (Y5.setCell ⟨gx, 3, none⟩ (.slice a2 nw k2)).heap[_]? = _ := (Below.heap_setCell _ _ _ _ (by have := HGG.out.2.2; dsimp only; omega)).trans HRY.out
            have hb1 : Below w1.heap.size w1 (Y5.setCell ⟨gx, 3, none⟩ (.slice a2 nw k2)) := HB1Y5.out.setCell (by have := HGG.out.1; have := HGG.out.2.1; dsimp only; omega) _
            rw [← hZ] at hr ho1 ho2 hq hb1 ⊢
            simp only [List.setIfInBounds_toArray, List.set_cons_zero, List.set_cons_succ] at hr
            replace HRX := Lib.hid hr
            replace HRY := Lib.hid hq
            replace HO1 := Lib.hid ho1
            replace HO2 := Lib.hid ho2
            have HB1Y6 := Lib.hid hb1
            have HZSY6 := Lib.hid (show Y6.heap.size = Y5.heap.size by rw [hZ]; simp [World.setCell])
            clear hZ hr ho1 ho2 hq hb1 hf
            refine ⟨HSX.out _ HB1Y6.out, ?_⟩
            clear hS
            have hS := HSX.out _ HB1Y6.out
            try simp only [List.getElem_toArray, List.getElem_cons_succ, List.getElem_cons_zero, Act.put, List.setIfInBounds_toArray, List.set_cons_zero, List.set_cons_succ]
            refine wpAnyH_take (i := 14) (v := ?_) rfl (by kernel_rfl) (by kernel_rfl) (by kernel_rfl) (fun _ _ _ h => nomatch h.1) (Or.inl ⟨by rfl, ?_⟩) hS ?_
            rotate_left
            · (intro W hSw; obtain ⟨q0, q1, q2, q3⟩ := hSw; go_simp; try with_reducible rfl)
            try simp only [List.getElem_toArray, List.getElem_cons_succ, List.getElem_cons_zero, Act.put, List.setIfInBounds_toArray, List.set_cons_zero, List.set_cons_succ]
            refine wpAnyH_all (rs := [15]) (by kernel_rfl) (by simp) fun i hi => ?_
            obtain rfl : i = 15 := by simpa using hi
            clear hi
            refine wpOp_of rfl (by kernel_rfl) ?_
            have hf : Y6.frozen? ⟨gy, 3, none⟩ = false := frozen_of_row _ _ _ _ _ HRY.out
            have hc : Y6.cell? ⟨gy, 3, none⟩ = some (.slice ao2 nw cap2) := by rw [cell_of_row _ _ _ _ _ _ HRY.out]; rfl
            refine oper_store 22 (.tmp 65) (.const (.slice none 0 0)) rfl (.pointer (some ⟨gy, 3, none⟩)) (.slice none 0 0) rfl rfl (w' := Y6.setCell ⟨gy, 3, none⟩ (.slice none 0 0)) (by simp [go_sem, hf, hc]) ?_
            clear hc
            obtain ⟨Y7, hZ⟩ : ∃ W, W = Y6.setCell ⟨gy, 3, none⟩ (.slice none 0 0) := ⟨_, rfl⟩
            have hr := (cells_setM (k := 3) (v := (.slice none 0 0)) HRY.out)
            have ho1 := ownsRow_setCell_below HO1.out (a := ⟨gy, 3, none⟩) (by have := lt_of_block HXX.out; have := lt_of_block HYY.out; dsimp only; omega) (.slice none 0 0)
            have ho2 := ownsRow_setCell_below HO2.out (a := ⟨gy, 3, none⟩) (by have := lt_of_block HXX.out; have := lt_of_block HYY.out; dsimp only; omega) (.slice none 0 0)
            have hq : (Y6.setCell ⟨gy, 3, none⟩ (.slice none 0 0)).heap[_]? = _ := (Below.heap_setCell _ _ _ _ (by have := HGG.out.2.2; dsimp only; omega)).trans HRX.out
            have hb1 : Below w1.heap.size w1 (Y6.setCell ⟨gy, 3, none⟩ (.slice none 0 0)) := HB1Y6.out.setCell (by have := HGG.out.1; have := HGG.out.2.1; dsimp only; omega) _
            rw [← hZ] at hr ho1 ho2 hq hb1 ⊢
            simp only [List.setIfInBounds_toArray, List.set_cons_zero, List.set_cons_succ] at hr
            replace HRY := Lib.hid hr
            replace HRX := Lib.hid hq
            replace HO1 := Lib.hid ho1
            replace HO2 := Lib.hid ho2
            have HB1Y7 := Lib.hid hb1
            have HZSY7 := Lib.hid (show Y7.heap.size = Y6.heap.size by rw [hZ]; simp [World.setCell])
            clear hZ hr ho1 ho2 hq hb1 hf
            refine ⟨HSX.out _ HB1Y7.out, ?_⟩
            clear hS
            have hS := HSX.out _ HB1Y7.out
            try simp only [List.getElem_toArray, List.getElem_cons_succ, List.getElem_cons_zero, Act.put, List.setIfInBounds_toArray, List.set_cons_zero, List.set_cons_succ]
            refine wpAnyH_done (by kernel_rfl) ?_ _
            try simp only [List.getElem_toArray, List.getElem_cons_succ, List.getElem_cons_zero, Act.put, List.setIfInBounds_toArray, List.set_cons_zero, List.set_cons_succ]
            refine ⟨rfl, _, ?_, ⟨g1, g2, a1, k1, a2, k2, rfl, HO1.out, HO2.out, HNE2.out, HRX.out, HRY.out, (by have := HB2Y4.out.size; have := HZSY5.out; have := HZSY6.out; have := HZSY7.out; omega), HB1Y7.out⟩⟩
            simp only [PutAll, Act.put, List.setIfInBounds_toArray, List.set_cons_zero, List.set_cons_succ]
          · skip
            obtain ⟨g2, hg⟩ : ∃ g, g = Y1.heap.size := ⟨_, rfl⟩
            refine oper_value (v := .slice (some ⟨g2, 0, none⟩) 0 0) (w' := Y1.alloc (.cells #[] 24)) (by rw [hg]; simp [execOp, go_sem, Act.eval, Act.put]) ?_
            have hb := Below.alloc' Y1 (.cells #[] 24)
            have hc : (Y1.alloc (.cells #[] 24)).heap[g2]? = some (.cells #[] 24 (0, 0)) := heap_alloc_at _ _ _ hg
            obtain ⟨Y2, hZ⟩ : ∃ W, W = Y1.alloc (.cells #[] 24) := ⟨_, rfl⟩
            rw [← hZ] at hb hc ⊢
            first
              | have HNV := Lib.hid (show (.slice a1 nb k1 : Value).ownBlock ≠ some g2 by intro e; have := (HO1.out.lt _ e).2; omega)
              | skip
            first
              | have HNG := Lib.hid (show g2 ≠ g1 by have := lt_of_block HG1.out.1; omega)
              | have HNG := Lib.hid (show g2 ≠ g1 by have := lt_of_block HG2.out.1; omega)
              | skip
            first | (replace HO1 := Lib.hid (own_below HO1.out hb)) | skip
            first | (replace HG1 := Lib.hid (And.intro ((hb.block _ (lt_of_block HG1.out.1)).trans HG1.out.1) HG1.out.2)) | skip
            first | (replace HG2 := Lib.hid (And.intro ((hb.block _ (lt_of_block HG2.out.1)).trans HG2.out.1) HG2.out.2)) | skip
            have HG2 := Lib.hid (And.intro hc (show w2.heap.size ≤ g2 by rw [hg]; exact HB2Y1.out.size))
            have HB2Y2 := Lib.hid (HB2Y1.out.trans (hb.mono HB2Y1.out.size))
            have HB1Y2 := Lib.hid (HB12.out.trans (HB2Y2.out.mono HB12.out.size))
            clear hZ hc hg hb
            refine ⟨HSX.out _ HB1Y2.out, ?_⟩
            clear hS
            have hS := HSX.out _ HB1Y2.out
            try simp only [List.getElem_toArray, List.getElem_cons_succ, List.getElem_cons_zero, Act.put, List.setIfInBounds_toArray, List.set_cons_zero, List.set_cons_succ]
            refine wpAnyH_all (rs := [4]) (by kernel_rfl) (by simp) fun i hi => ?_
            obtain rfl : i = 4 := by simpa using hi
            clear hi
            refine wpOp_of rfl (by kernel_rfl) ?_
            refine wp_copy_spM (.tmp 53) (.tmp 56) rfl w2.heap.size g1 rfl HG1.out.1 HG1.out.2 ao cap nb j.st.bs HNB.out rfl _ (HBS.out.later (HBw1.out.trans (HB1Y2.out.mono HBw1.out.size)).size (fun k h1 _ => (HBw1.out.trans (HB1Y2.out.mono HBw1.out.size)).block k h1)) (by omega) HB2Y2.out.size ?_
            intro v Y3 hown hgrow hob
            obtain ⟨a1, k1, hv, _⟩ := id (spans_of_ownM HNB.out hown)
            rw [← HNB.out] at hv
            subst hv
            first
              | have HNV := Lib.hid (show (.slice a1 nb k1 : Value).ownBlock ≠ some g2 by intro e; have := lt_of_block HG2.out.1; have := HNG.out; rw [e] at hob; simp only [Option.some.injEq] at hob; omega)
              | skip
            first | (replace HG2 := Lib.hid (And.intro (((keeps_grown hgrow).block _ (lt_of_block HG2.out.1) (fun e => by have := HNG.out; simp only [Option.some.injEq] at e; omega)).trans HG2.out.1) HG2.out.2)) | skip
            have HB2Y3 := Lib.hid (HB2Y2.out.trans ((keeps_grown hgrow).below HB2Y2.out.size (fun k h e => by have := HG1.out.2; simp only [Option.some.injEq] at e; omega)))
            have HB1Y3 := Lib.hid (HB12.out.trans (HB2Y3.out.mono HB12.out.size))
            have HO1 := Lib.hid hown
            clear hown hgrow hob HG1
            refine ⟨HSX.out _ HB1Y3.out, ?_⟩
            clear hS
            have hS := HSX.out _ HB1Y3.out
            try simp only [List.getElem_toArray, List.getElem_cons_succ, List.getElem_cons_zero, Act.put, List.setIfInBounds_toArray, List.set_cons_zero, List.set_cons_succ]
            refine wpAnyH_take (i := 9) (v := ?_) rfl (by kernel_rfl) (by kernel_rfl) (by kernel_rfl) (fun _ _ _ h => nomatch h.1) (Or.inl ⟨by rfl, ?_⟩) hS ?_
            rotate_left
            · (intro W hSw; obtain ⟨q0, q1, q2, q3⟩ := hSw; go_simp; try with_reducible rfl)
            try simp only [List.getElem_toArray, List.getElem_cons_succ, List.getElem_cons_zero, Act.put, List.setIfInBounds_toArray, List.set_cons_zero, List.set_cons_succ]
            refine wpAnyH_take (i := 10) (v := ?_) rfl (by kernel_rfl) (by kernel_rfl) (by kernel_rfl) (fun _ _ _ h => nomatch h.1) (Or.inl ⟨by rfl, ?_⟩) hS ?_
            rotate_left
            · (intro W hSw; obtain ⟨q0, q1, q2, q3⟩ := hSw; go_simp; try with_reducible rfl)
            try simp only [List.getElem_toArray, List.getElem_cons_succ, List.getElem_cons_zero, Act.put, List.setIfInBounds_toArray, List.set_cons_zero, List.set_cons_succ]
            refine wpAnyH_all (rs := [8]) (by kernel_rfl) (by simp) fun i hi => ?_
            obtain rfl : i = 8 := by simpa using hi
            clear hi
            refine wpOp_of rfl (by kernel_rfl) ?_
            refine wp_copy_spM (.tmp 58) (.tmp 60) rfl w2.heap.size g2 rfl HG2.out.1 HG2.out.2 ao2 cap2 nw j.ws HNW.out rfl _ (HWS.out.later (HBw1.out.trans (HB1Y3.out.mono HBw1.out.size)).size (fun k h1 _ => (HBw1.out.trans (HB1Y3.out.mono HBw1.out.size)).block k h1)) (by omega) HB2Y3.out.size ?_
            intro v Y4 hown hgrow hob
            obtain ⟨a2, k2, hv, _⟩ := id (spans_of_ownM HNW.out hown)
            rw [← HNW.out] at hv
            subst hv
            have HNE2 := Lib.hid (show (.slice a2 nw k2 : Value).ownBlock ≠ (.slice a1 nb k1 : Value).ownBlock by
              intro e
              rcases hob with hob | hob <;> rw [hob] at e
              · exact HNV.out e.symm
              · have := (HO1.out.lt _ e.symm).2
                omega)
            replace HO1 := Lib.hid (HO1.out.kept hgrow (Or.inr HNV.out))
            have HB2Y4 := Lib.hid (HB2Y3.out.trans ((keeps_grown hgrow).below HB2Y3.out.size (fun k h e => by have := HG2.out.2; simp only [Option.some.injEq] at e; omega)))
            have HB1Y4 := Lib.hid (HB12.out.trans (HB2Y4.out.mono HB12.out.size))
            have HO2 := Lib.hid hown
            clear hown hgrow hob
            refine ⟨HSX.out _ HB1Y4.out, ?_⟩
            clear hS
            have hS := HSX.out _ HB1Y4.out
            try simp only [List.getElem_toArray, List.getElem_cons_succ, List.getElem_cons_zero, Act.put, List.setIfInBounds_toArray, List.set_cons_zero, List.set_cons_succ]
            have HRX := Lib.hid ((HB2Y4.out.block _ (lt_of_block HXX.out)).trans HXX.out)
            have HRY := Lib.hid ((HB2Y4.out.block _ (lt_of_block HYY.out)).trans HYY.out)
            refine wpAnyH_all (rs := [11]) (by kernel_rfl) (by simp) fun i hi => ?_
            obtain rfl : i = 11 := by simpa using hi
            clear hi
            refine wpOp_of rfl (by kernel_rfl) ?_
            have hf : Y4.frozen? ⟨gx, 0, none⟩ = false := frozen_of_row _ _ _ _ _ HRX.out
            have hc : Y4.cell? ⟨gx, 0, none⟩ = some (.slice ao nb cap) := by rw [cell_of_row _ _ _ _ _ _ HRX.out]; rfl
            refine oper_store 22 (.tmp 63) (.tmp 57) rfl (.pointer (some ⟨gx, 0, none⟩)) (.slice a1 nb k1) rfl rfl (w' := Y4.setCell ⟨gx, 0, none⟩ (.slice a1 nb k1)) (by simp [go_sem, hf, hc]) ?_
            clear hc
            obtain ⟨Y5, hZ⟩ : ∃ W, W = Y4.setCell ⟨gx, 0, none⟩ (.slice a1 nb k1) := ⟨_, rfl⟩
            have hr := (cells_setM (k := 0) (v := (.slice a1 nb k1)) HRX.out)
            have ho1 := ownsRow_setCell_below HO1.out (a := ⟨gx, 0, none⟩) (by have := lt_of_block HXX.out; have := lt_of_block HYY.out; dsimp only; omega) (.slice a1 nb k1)
            have ho2 := ownsRow_setCell_below HO2.out (a := ⟨gx, 0, none⟩) (by have := lt_of_block HXX.out; have := lt_of_block HYY.out; dsimp only; omega) (.slice a1 nb k1)
            have hq : (Y4.setCell ⟨gx, 0, none⟩ (.slice a1 nb k1)).heap[_]? = _ := (Below.heap_setCell _ _ _ _ (by have := HGG.out.2.2; dsimp only; omega)).trans HRY.out
            have hb1 : Below w1.heap.size w1 (Y4.setCell ⟨gx, 0, none⟩ (.slice a1 nb k1)) := HB1Y4.out.setCell (by have := HGG.out.1; have := HGG.out.2.1; dsimp only; omega) _
            rw [← hZ] at hr ho1 ho2 hq hb1 ⊢
            simp only [List.setIfInBounds_toArray, List.set_cons_zero, List.set_cons_succ] at hr
            replace HRX := Lib.hid hr
            replace HRY := Lib.hid hq
            replace HO1 := Lib.hid ho1
            replace HO2 := Lib.hid ho2
            have HB1Y5 := Lib.hid hb1
            have HZSY5 := Lib.hid (show Y5.heap.size = Y4.heap.size by rw [hZ]; simp [World.setCell])
            clear hZ hr ho1 ho2 hq hb1 hf
            refine ⟨HSX.out _ HB1Y5.out, ?_⟩
            clear hS
            have hS := HSX.out _ HB1Y5.out
            try simp only [List.getElem_toArray, List.getElem_cons_succ, List.getElem_cons_zero, Act.put, List.setIfInBounds_toArray, List.set_cons_zero, List.set_cons_succ]
            refine wpAnyH_take (i := 12) (v := ?_) rfl (by kernel_rfl) (by kernel_rfl) (by kernel_rfl) (fun _ _ _ h => nomatch h.1) (Or.inl ⟨by rfl, ?_⟩) hS ?_
            rotate_left
            · (intro W hSw; obtain ⟨q0, q1, q2, q3⟩ := hSw; go_simp; try with_reducible rfl)
            try simp only [List.getElem_toArray, List.getElem_cons_succ, List.getElem_cons_zero, Act.put, List.setIfInBounds_toArray, List.set_cons_zero, List.set_cons_succ]
            refine wpAnyH_all (rs := [13]) (by kernel_rfl) (by simp) fun i hi => ?_
            obtain rfl : i = 13 := by simpa using hi
            clear hi
            refine wpOp_of rfl (by kernel_rfl) ?_
            have hf : Y5.frozen? ⟨gx, 3, none⟩ = false := frozen_of_row _ _ _ _ _ HRX.out
            have hc : Y5.cell? ⟨gx, 3, none⟩ = some (.slice ao2 nw cap2) := by rw [cell_of_row _ _ _ _ _ _ HRX.out]; rfl
            refine oper_store 22 (.tmp 64) (.tmp 61) rfl (.pointer (some ⟨gx, 3, none⟩)) (.slice a2 nw k2) rfl rfl (w' := Y5.setCell ⟨gx, 3, none⟩ (.slice a2 nw k2)) (by simp [go_sem, hf, hc]) ?_
            clear hc
            obtain ⟨Y6, hZ⟩ : ∃ W, W = Y5.setCell ⟨gx, 3, none⟩ (.slice a2 nw k2) := ⟨_, rfl⟩
            have hr := (cells_setM (k := 3) (v := (.slice a2 nw k2)) HRX.out)
            have ho1 := ownsRow_setCell_below HO1.out (a := ⟨gx, 3, none⟩) (by have := lt_of_block HXX.out; have := lt_of_block HYY.out; dsimp only; omega) (.slice a2 nw k2)
            have ho2 := ownsRow_setCell_below HO2.out (a := ⟨gx, 3, none⟩) (by have := lt_of_block HXX.out; have := lt_of_block HYY.out; dsimp only; omega) (.slice a2 nw k2)
            have hq : (Y5.setCell ⟨gx, 3, none⟩ (.slice a2 nw k2)).heap[_]? = _ := (Below.heap_setCell _ _ _ _ (by have := HGG.out.2.2; dsimp only; omega)).trans HRY.out
            have hb1 : Below w1.heap.size w1 (Y5.setCell ⟨gx, 3, none⟩ (.slice a2 nw k2)) := HB1Y5.out.setCell (by have := HGG.out.1; have := HGG.out.2.1; dsimp only; omega) _
            rw [← hZ] at hr ho1 ho2 hq hb1 ⊢
            simp only [List.setIfInBounds_toArray, List.set_cons_zero, List.set_cons_succ] at hr
            replace HRX := Lib.hid hr
            replace HRY := Lib.hid hq
            replace HO1 := Lib.hid ho1
            replace HO2 := Lib.hid ho2
            have HB1Y6 := Lib.hid hb1
            have HZSY6 := Lib.hid (show Y6.heap.size = Y5.heap.size by rw [hZ]; simp [World.setCell])
            clear hZ hr ho1 ho2 hq hb1 hf
            refine ⟨HSX.out _ HB1Y6.out, ?_⟩
            clear hS
            have hS := HSX.out _ HB1Y6.out
            try simp only [List.getElem_toArray, List.getElem_cons_succ, List.getElem_cons_zero, Act.put, List.setIfInBounds_toArray, List.set_cons_zero, List.set_cons_succ]
            refine wpAnyH_take (i := 14) (v := ?_) rfl (by kernel_rfl) (by kernel_rfl) (by kernel_rfl) (fun _ _ _ h => nomatch h.1) (Or.inl ⟨by rfl, ?_⟩) hS ?_
            rotate_left
            · (intro W hSw; obtain ⟨q0, q1, q2, q3⟩ := hSw; go_simp; try with_reducible rfl)
            try simp only [List.getElem_toArray, List.getElem_cons_succ, List.getElem_cons_zero, Act.put, List.setIfInBounds_toArray, List.set_cons_zero, List.set_cons_succ]
            refine wpAnyH_all (rs := [15]) (by kernel_rfl) (by simp) fun i hi => ?_
            obtain rfl : i = 15 := by simpa using hi
            clear hi
            refine wpOp_of rfl (by kernel_rfl) ?_
            have hf : Y6.frozen? ⟨gy, 3, none⟩ = false := frozen_of_row _ _ _ _ _ HRY.out
            have hc : Y6.cell? ⟨gy, 3, none⟩ = some (.slice ao2 nw cap2) := by rw [cell_of_row _ _ _ _ _ _ HRY.out]; rfl
            refine oper_store 22 (.tmp 65) (.const (.slice none 0 0)) rfl (.pointer (some ⟨gy, 3, none⟩)) (.slice none 0 0) rfl rfl (w' := Y6.setCell ⟨gy, 3, none⟩ (.slice none 0 0)) (by simp [go_sem, hf, hc]) ?_
            clear hc
            obtain ⟨Y7, hZ⟩ : ∃ W, W = Y6.setCell ⟨gy, 3, none⟩ (.slice none 0 0) := ⟨_, rfl⟩
            have hr := (cells_setM (k := 3) (v := (.slice none 0 0)) HRY.out)
            have ho1 := ownsRow_setCell_below HO1.out (a := ⟨gy, 3, none⟩) (by have := lt_of_block HXX.out; have := lt_of_block HYY.out; dsimp only; omega) (.slice none 0 0)
            have ho2 := ownsRow_setCell_below HO2.out (a := ⟨gy, 3, none⟩) (by have := lt_of_block HXX.out; have := lt_of_block HYY.out; dsimp only; omega) (.slice none 0 0)
            have hq : (Y6.setCell ⟨gy, 3, none⟩ (.slice none 0 0)).heap[_]? = _ := (Below.heap_setCell _ _ _ _ (by have := HGG.out.2.2; dsimp only; omega)).trans HRX.out
            have hb1 : Below w1.heap.size w1 (Y6.setCell ⟨gy, 3, none⟩ (.slice none 0 0)) := HB1Y6.out.setCell (by have := HGG.out.1; have := HGG.out.2.1; dsimp only; omega) _
            rw [← hZ] at hr ho1 ho2 hq hb1 ⊢
            simp only [List.setIfInBounds_toArray, List.set_cons_zero, List.set_cons_succ] at hr
            replace HRY := Lib.hid hr
            replace HRX := Lib.hid hq
            replace HO1 := Lib.hid ho1
            replace HO2 := Lib.hid ho2
            have HB1Y7 := Lib.hid hb1
            have HZSY7 := Lib.hid (show Y7.heap.size = Y6.heap.size by rw [hZ]; simp [World.setCell])
            clear hZ hr ho1 ho2 hq hb1 hf
            refine ⟨HSX.out _ HB1Y7.out, ?_⟩
            clear hS
            have hS := HSX.out _ HB1Y7.out
            try simp only [List.getElem_toArray, List.getElem_cons_succ, List.getElem_cons_zero, Act.put, List.setIfInBounds_toArray, List.set_cons_zero, List.set_cons_succ]
            refine wpAnyH_done (by kernel_rfl) ?_ _
            try simp only [List.getElem_toArray, List.getElem_cons_succ, List.getElem_cons_zero, Act.put, List.setIfInBounds_toArray, List.set_cons_zero, List.set_cons_succ]
            refine ⟨rfl, _, ?_, ⟨g1, g2, a1, k1, a2, k2, rfl, HO1.out, HO2.out, HNE2.out, HRX.out, HRY.out, (by have := HB2Y4.out.size; have := HZSY5.out; have := HZSY6.out; have := HZSY7.out; omega), HB1Y7.out⟩⟩
            simp only [PutAll, Act.put, List.setIfInBounds_toArray, List.set_cons_zero, List.set_cons_succ]
        · skip
          obtain ⟨g2, hg⟩ : ∃ g, g = D.heap.size := ⟨_, rfl⟩
          refine oper_value (v := .slice (some ⟨g2, 0, none⟩) 0 0) (w' := D.alloc (.cells #[] 24)) (by rw [hg]; simp [execOp, go_sem, Act.eval, Act.put]) ?_
          have hb := Below.alloc' D (.cells #[] 24)
          have hc : (D.alloc (.cells #[] 24)).heap[g2]? = some (.cells #[] 24 (0, 0)) := heap_alloc_at _ _ _ hg
          obtain ⟨Y1, hZ⟩ : ∃ W, W = D.alloc (.cells #[] 24) := ⟨_, rfl⟩
          rw [← hZ] at hb hc ⊢
          first
            | have HNV := Lib.hid (show (.slice a1 nb k1 : Value).ownBlock ≠ some g2 by intro e; have := (HO1.out.lt _ e).2; omega)
            | skip
          first
            | have HNG := Lib.hid (show g2 ≠ g1 by have := lt_of_block HG1.out.1; omega)
            | have HNG := Lib.hid (show g2 ≠ g1 by have := lt_of_block HG2.out.1; omega)
            | skip
          first | (replace HO1 := Lib.hid (own_below HO1.out hb)) | skip
          first | (replace HG1 := Lib.hid (And.intro ((hb.block _ (lt_of_block HG1.out.1)).trans HG1.out.1) HG1.out.2)) | skip
          first | (replace HG2 := Lib.hid (And.intro ((hb.block _ (lt_of_block HG2.out.1)).trans HG2.out.1) HG2.out.2)) | skip
          have HG2 := Lib.hid (And.intro hc (show w2.heap.size ≤ g2 by rw [hg]; exact HB2D.out.size))
          have HB2Y1 := Lib.hid (HB2D.out.trans (hb.mono HB2D.out.size))
          have HB1Y1 := Lib.hid (HB12.out.trans (HB2Y1.out.mono HB12.out.size))
          clear hZ hc hg hb
          refine ⟨HSX.out _ HB1Y1.out, ?_⟩
          clear hS
          have hS := HSX.out _ HB1Y1.out
          try simp only [List.getElem_toArray, List.getElem_cons_succ, List.getElem_cons_zero, Act.put, List.setIfInBounds_toArray, List.set_cons_zero, List.set_cons_succ]
          refine wpAnyH_all (rs := [0]) (by kernel_rfl) (by simp) fun i hi => ?_
          obtain rfl : i = 0 := by simpa using hi
          clear hi
          refine wpOp_of rfl (by kernel_rfl) ?_
          obtain ⟨g1, hg⟩ : ∃ g, g = Y1.heap.size := ⟨_, rfl⟩
          refine oper_value (v := .slice (some ⟨g1, 0, none⟩) 0 0) (w' := Y1.alloc (.cells #[] 24)) (by rw [hg]; simp [execOp, go_sem, Act.eval, Act.put]) ?_
          have hb := Below.alloc' Y1 (.cells #[] 24)
          have hc : (Y1.alloc (.cells #[] 24)).heap[g1]? = some (.cells #[] 24 (0, 0)) := heap_alloc_at _ _ _ hg
          obtain ⟨Y2, hZ⟩ : ∃ W, W = Y1.alloc (.cells #[] 24) := ⟨_, rfl⟩
          rw [← hZ] at hb hc ⊢
          first
            | have HNV := Lib.hid (show (.slice a1 nb k1 : Value).ownBlock ≠ some g1 by intro e; have := (HO1.out.lt _ e).2; omega)
            | skip
          first
            | have HNG := Lib.hid (show g2 ≠ g1 by have := lt_of_block HG1.out.1; omega)
            | have HNG := Lib.hid (show g2 ≠ g1 by have := lt_of_block HG2.out.1; omega)
            | skip
          first | (replace HO1 := Lib.hid (own_below HO1.out hb)) | skip
          first | (replace HG1 := Lib.hid (And.intro ((hb.block _ (lt_of_block HG1.out.1)).trans HG1.out.1) HG1.out.2)) | skip
          first | (replace HG2 := Lib.hid (And.intro ((hb.block _ (lt_of_block HG2.out.1)).trans HG2.out.1) HG2.out.2)) | skip
          have HG1 := Lib.hid (And.intro hc (show w2.heap.size ≤ g1 by rw [hg]; exact HB2Y1.out.size))
          have HB2Y2 := Lib.hid (HB2Y1.out.trans (hb.mono HB2Y1.out.size))
          have HB1Y2 := Lib.hid (HB12.out.trans (HB2Y2.out.mono HB12.out.size))
          clear hZ hc hg hb
          refine ⟨HSX.out _ HB1Y2.out, ?_⟩
          clear hS
          have hS := HSX.out _ HB1Y2.out
          try simp only [List.getElem_toArray, List.getElem_cons_succ, List.getElem_cons_zero, Act.put, List.setIfInBounds_toArray, List.set_cons_zero, List.set_cons_succ]
          refine wpAnyH_all (rs := [4]) (by kernel_rfl) (by simp) fun i hi => ?_
          obtain rfl : i = 4 := by simpa using hi
          clear hi
          refine wpOp_of rfl (by kernel_rfl) ?_
          refine wp_copy_spM (.tmp 53) (.tmp 56) rfl w2.heap.size g1 rfl HG1.out.1 HG1.out.2 ao cap nb j.st.bs HNB.out rfl _ (HBS.out.later (HBw1.out.trans (HB1Y2.out.mono HBw1.out.size)).size (fun k h1 _ => (HBw1.out.trans (HB1Y2.out.mono HBw1.out.size)).block k h1)) (by omega) HB2Y2.out.size ?_
          intro v Y3 hown hgrow hob
          obtain ⟨a1, k1, hv, _⟩ := id (spans_of_ownM HNB.out hown)
          rw [← HNB.out] at hv
          subst hv
          first
            | have HNV := Lib.hid (show (.slice a1 nb k1 : Value).ownBlock ≠ some g2 by intro e; have := lt_of_block HG2.out.1; have := HNG.out; rw [e] at hob; simp only [Option.some.injEq] at hob; omega)
            | skip
          first | (replace HG2 := Lib.hid (And.intro (((keeps_grown hgrow).block _ (lt_of_block HG2.out.1) (fun e => by have := HNG.out; simp only [Option.some.injEq] at e; omega)).trans HG2.out.1) HG2.out.2)) | skip
          have HB2Y3 := Lib.hid (HB2Y2.out.trans ((keeps_grown hgrow).below HB2Y2.out.size (fun k h e => by have := HG1.out.2; simp only [Option.some.injEq] at e; omega)))
          have HB1Y3 := Lib.hid (HB12.out.trans (HB2Y3.out.mono HB12.out.size))
          have HO1 := Lib.hid hown
          clear hown hgrow hob HG1
          refine ⟨HSX.out _ HB1Y3.out, ?_⟩
          clear hS
          have hS := HSX.out _ HB1Y3.out
          try simp only [List.getElem_toArray, List.getElem_cons_succ, List.getElem_cons_zero, Act.put, List.setIfInBounds_toArray, List.set_cons_zero, List.set_cons_succ]
          refine wpAnyH_take (i := 9) (v := ?_) rfl (by kernel_rfl) (by kernel_rfl) (by kernel_rfl) (fun _ _ _ h => nomatch h.1) (Or.inl ⟨by rfl, ?_⟩) hS ?_
          rotate_left
          · (intro W hSw; obtain ⟨q0, q1, q2, q3⟩ := hSw; go_simp; try with_reducible rfl)
          try simp only [List.getElem_toArray, List.getElem_cons_succ, List.getElem_cons_zero, Act.put, List.setIfInBounds_toArray, List.set_cons_zero, List.set_cons_succ]
          refine wpAnyH_take (i := 10) (v := ?_) rfl (by kernel_rfl) (by kernel_rfl) (by kernel_rfl) (fun _ _ _ h => nomatch h.1) (Or.inl ⟨by rfl, ?_⟩) hS ?_
          rotate_left
          · (intro W hSw; obtain ⟨q0, q1, q2, q3⟩ := hSw; go_simp; try with_reducible rfl)
          try simp only [List.getElem_toArray, List.getElem_cons_succ, List.getElem_cons_zero, Act.put, List.setIfInBounds_toArray, List.set_cons_zero, List.set_cons_succ]
          refine wpAnyH_all (rs := [8]) (by kernel_rfl) (by simp) fun i hi => ?_
          obtain rfl : i = 8 := by simpa using hi
          clear hi
          refine wpOp_of rfl (by kernel_rfl) ?_
          refine wp_copy_spM (.tmp 58) (.tmp 60) rfl w2.heap.size g2 rfl HG2.out.1 HG2.out.2 ao2 cap2 nw j.ws HNW.out rfl _ (HWS.out.later (HBw1.out.trans (HB1Y3.out.mono HBw1.out.size)).size (fun k h1 _ => (HBw1.out.trans (HB1Y3.out.mono HBw1.out.size)).block k h1)) (by omega) HB2Y3.out.size ?_
          intro v Y4 hown hgrow hob
          obtain ⟨a2, k2, hv, _⟩ := id (spans_of_ownM HNW.out hown)
          rw [← HNW.out] at hv
          subst hv
          have HNE2 := Lib.hid (show (.slice a2 nw k2 : Value).ownBlock ≠ (.slice a1 nb k1 : Value).ownBlock by
            intro e
            rcases hob with hob | hob <;> rw [hob] at e
            · exact HNV.out e.symm
            · have := (HO1.out.lt _ e.symm).2
              omega)
          replace HO1 := Lib.hid (HO1.out.kept hgrow (Or.inr HNV.out))
          have HB2Y4 := Lib.hid (HB2Y3.out.trans ((keeps_grown hgrow).below HB2Y3.out.size (fun k h e => by have := HG2.out.2; simp only [Option.some.injEq] at e; omega)))
          have HB1Y4 := Lib.hid (HB12.out.trans (HB2Y4.out.mono HB12.out.size))
          have HO2 := Lib.hid hown
          clear hown hgrow hob
          refine ⟨HSX.out _ HB1Y4.out, ?_⟩
          clear hS
          have hS := HSX.out _ HB1Y4.out
          try simp only [List.getElem_toArray, List.getElem_cons_succ, List.getElem_cons_zero, Act.put, List.setIfInBounds_toArray, List.set_cons_zero, List.set_cons_succ]
          have HRX := Lib.hid ((HB2Y4.out.block _ (lt_of_block HXX.out)).trans HXX.out)
          have HRY := Lib.hid ((HB2Y4.out.block _ (lt_of_block HYY.out)).trans HYY.out)
          refine wpAnyH_all (rs := [11]) (by kernel_rfl) (by simp) fun i hi => ?_
          obtain rfl : i = 11 := by simpa using hi
          clear hi
          refine wpOp_of rfl (by kernel_rfl) ?_
          have hf : Y4.frozen? ⟨gx, 0, none⟩ = false := frozen_of_row _ _ _ _ _ HRX.out
          have hc : Y4.cell? ⟨gx, 0, none⟩ = some (.slice ao nb cap) := by rw [cell_of_row _ _ _ _ _ _ HRX.out]; rfl
          refine oper_store 22 (.tmp 63) (.tmp 57) rfl (.pointer (some ⟨gx, 0, none⟩)) (.slice a1 nb k1) rfl rfl (w' := Y4.setCell ⟨gx, 0, none⟩ (.slice a1 nb k1)) (by simp [go_sem, hf, hc]) ?_
          clear hc
          obtain ⟨Y5, hZ⟩ : ∃ W, W = Y4.setCell ⟨gx, 0, none⟩ (.slice a1 nb k1) := ⟨_, rfl⟩
          have hr := (cells_setM (k := 0) (v := (.slice a1 nb k1)) HRX.out)
          have ho1 := ownsRow_setCell_below HO1.out (a := ⟨gx, 0, none⟩) (by have := lt_of_block HXX.out; have := lt_of_block HYY.out; dsimp only; omega) (.slice a1 nb k1)
          have ho2 := ownsRow_setCell_below HO2.out (a := ⟨gx, 0, none⟩) (by have := lt_of_block HXX.out; have := lt_of_block HYY.out; dsimp only; omega) (.slice a1 nb k1)
          have hq : (Y4.setCell ⟨gx, 0, none⟩ (.slice a1 nb k1)).heap[_]? = _ := (Below.heap_setCell _ _ _ _ (by have := HGG.out.2.2; dsimp only; omega)).trans HRY.out
          have hb1 : Below w1.heap.size w1 (Y4.setCell ⟨gx, 0, none⟩ (.slice a1 nb k1)) := HB1Y4.out.setCell (by have := HGG.out.1; have := HGG.out.2.1; dsimp only; omega) _
          rw [← hZ] at hr ho1 ho2 hq hb1 ⊢
          simp only [List.setIfInBounds_toArray, List.set_cons_zero, List.set_cons_succ] at hr
          replace HRX := Lib.hid hr
          replace HRY := Lib.hid hq
          replace HO1 := Lib.hid ho1
          replace HO2 := Lib.hid ho2
          have HB1Y5 := Lib.hid hb1
          have HZSY5 := Lib.hid (show Y5.heap.size = Y4.heap.size by rw [hZ]; simp [World.setCell])
          clear hZ hr ho1 ho2 hq hb1 hf
          refine ⟨HSX.out _ HB1Y5.out, ?_⟩
          clear hS
          have hS := HSX.out _ HB1Y5.out
          try simp only [List.getElem_toArray, List.getElem_cons_succ, List.getElem_cons_zero, Act.put, List.setIfInBounds_toArray, List.set_cons_zero, List.set_cons_succ]
          refine wpAnyH_take (i := 12) (v := ?_) rfl (by kernel_rfl) (by kernel_rfl) (by kernel_rfl) (fun _ _ _ h => nomatch h.1) (Or.inl ⟨by rfl, ?_⟩) hS ?_
          rotate_left
          · (intro W hSw; obtain ⟨q0, q1, q2, q3⟩ := hSw; go_simp; try with_reducible rfl)
          try simp only [List.getElem_toArray, List.getElem_cons_succ, List.getElem_cons_zero, Act.put, List.setIfInBounds_toArray, List.set_cons_zero, List.set_cons_succ]
          refine wpAnyH_all (rs := [13]) (by kernel_rfl) (by simp) fun i hi => ?_
          obtain rfl : i = 13 := by simpa using hi
          clear hi
          refine wpOp_of rfl (by kernel_rfl) ?_
          have hf : Y5.frozen? ⟨gx, 3, none⟩ = false := frozen_of_row _ _ _ _ _ HRX.out
          have hc : Y5.cell? ⟨gx, 3, none⟩ = some (.slice ao2 nw cap2) := by rw [cell_of_row _ _ _ _ _ _ HRX.out]; rfl
          refine oper_store 22 (.tmp 64) (.tmp 61) rfl (.pointer (some ⟨gx, 3, none⟩)) (.slice a2 nw k2) rfl rfl (w' := Y5.setCell ⟨gx, 3, none⟩ (.slice a2 nw k2)) (by simp [go_sem, hf, hc]) ?_
          clear hc
          obtain ⟨Y6, hZ⟩ : ∃ W, W = Y5.setCell ⟨gx, 3, none⟩ (.slice a2 nw k2) := ⟨_, rfl⟩
          have hr := (cells_setM (k := 3) (v := (.slice a2 nw k2)) HRX.out)
          have ho1 := ownsRow_setCell_below HO1.out (a := ⟨gx, 3, none⟩) (by have := lt_of_block HXX.out; have := lt_of_block HYY.out; dsimp only; omega) (.slice a2 nw k2)
          have ho2 := ownsRow_setCell_below HO2.out (a := ⟨gx, 3, none⟩) (by have := lt_of_block HXX.out; have := lt_of_block HYY.out; dsimp only; omega) (.slice a2 nw k2)
          have hq : (Y5.setCell ⟨gx, 3, none⟩ (.slice a2 nw k2)).heap[_]? = _ := (Below.heap_setCell _ _ _ _ (by have := HGG.out.2.2; dsimp only; omega)).trans HRY.out
          have hb1 : Below w1.heap.size w1 (Y5.setCell ⟨gx, 3, none⟩ (.slice a2 nw k2)) := HB1Y5.out.setCell (by have := HGG.out.1; have := HGG.out.2.1; dsimp only; omega) _
          rw [← hZ] at hr ho1 ho2 hq hb1 ⊢
          simp only [List.setIfInBounds_toArray, List.set_cons_zero, List.set_cons_succ] at hr
          replace HRX := Lib.hid hr
          replace HRY := Lib.hid hq
          replace HO1 := Lib.hid ho1
          replace HO2 := Lib.hid ho2
          have HB1Y6 := Lib.hid hb1
          have HZSY6 := Lib.hid (show Y6.heap.size = Y5.heap.size by rw [hZ]; simp [World.setCell])
          clear hZ hr ho1 ho2 hq hb1 hf
          refine ⟨HSX.out _ HB1Y6.out, ?_⟩
          clear hS
          have hS := HSX.out _ HB1Y6.out
          try simp only [List.getElem_toArray, List.getElem_cons_succ, List.getElem_cons_zero, Act.put, List.setIfInBounds_toArray, List.set_cons_zero, List.set_cons_succ]
          refine wpAnyH_take (i := 14) (v := ?_) rfl (by kernel_rfl) (by kernel_rfl) (by kernel_rfl) (fun _ _ _ h => nomatch h.1) (Or.inl ⟨by rfl, ?_⟩) hS ?_
          rotate_left
          · (intro W hSw; obtain ⟨q0, q1, q2, q3⟩ := hSw; go_simp; try with_reducible rfl)
          try simp only [List.getElem_toArray, List.getElem_cons_succ, List.getElem_cons_zero, Act.put, List.setIfInBounds_toArray, List.set_cons_zero, List.set_cons_succ]
          refine wpAnyH_all (rs := [15]) (by kernel_rfl) (by simp) fun i hi => ?_
          obtain rfl : i = 15 := by simpa using hi
          clear hi
          refine wpOp_of rfl (by kernel_rfl) ?_
          have hf : Y6.frozen? ⟨gy, 3, none⟩ = false := frozen_of_row _ _ _ _ _ HRY.out
          have hc : Y6.cell? ⟨gy, 3, none⟩ = some (.slice ao2 nw cap2) := by rw [cell_of_row _ _ _ _ _ _ HRY.out]; rfl
          refine oper_store 22 (.tmp 65) (.const (.slice none 0 0)) rfl (.pointer (some ⟨gy, 3, none⟩)) (.slice none 0 0) rfl rfl (w' := Y6.setCell ⟨gy, 3, none⟩ (.slice none 0 0)) (by simp [go_sem, hf, hc]) ?_
          clear hc
          obtain ⟨Y7, hZ⟩ : ∃ W, W = Y6.setCell ⟨gy, 3, none⟩ (.slice none 0 0) := ⟨_, rfl⟩
          have hr := (cells_setM (k := 3) (v := (.slice none 0 0)) HRY.out)
          have ho1 := ownsRow_setCell_below HO1.out (a := ⟨gy, 3, none⟩) (by have := lt_of_block HXX.out; have := lt_of_block HYY.out; dsimp only; omega) (.slice none 0 0)
          have ho2 := ownsRow_setCell_below HO2.out (a := ⟨gy, 3, none⟩) (by have := lt_of_block HXX.out; have := lt_of_block HYY.out; dsimp only; omega) (.slice none 0 0)
          have hq : (Y6.setCell ⟨gy, 3, none⟩ (.slice none 0 0)).heap[_]? = _ := (Below.heap_setCell _ _ _ _ (by have := HGG.out.2.2; dsimp only; omega)).trans HRX.out
          have hb1 : Below w1.heap.size w1 (Y6.setCell ⟨gy, 3, none⟩ (.slice none 0 0)) := HB1Y6.out.setCell (by have := HGG.out.1; have := HGG.out.2.1; dsimp only; omega) _
          rw [← hZ] at hr ho1 ho2 hq hb1 ⊢
          simp only [List.setIfInBounds_toArray, List.set_cons_zero, List.set_cons_succ] at hr
          replace HRY := Lib.hid hr
          replace HRX := Lib.hid hq
          replace HO1 := Lib.hid ho1
          replace HO2 := Lib.hid ho2
          have HB1Y7 := Lib.hid hb1
          have HZSY7 := Lib.hid (show Y7.heap.size = Y6.heap.size by rw [hZ]; simp [World.setCell])
          clear hZ hr ho1 ho2 hq hb1 hf
          refine ⟨HSX.out _ HB1Y7.out, ?_⟩
          clear hS
          have hS := HSX.out _ HB1Y7.out
          try simp only [List.getElem_toArray, List.getElem_cons_succ, List.getElem_cons_zero, Act.put, List.setIfInBounds_toArray, List.set_cons_zero, List.set_cons_succ]
          refine wpAnyH_done (by kernel_rfl) ?_ _
          try simp only [List.getElem_toArray, List.getElem_cons_succ, List.getElem_cons_zero, Act.put, List.setIfInBounds_toArray, List.set_cons_zero, List.set_cons_succ]
          refine ⟨rfl, _, ?_, ⟨g1, g2, a1, k1, a2, k2, rfl, HO1.out, HO2.out, HNE2.out, HRX.out, HRY.out, (by have := HB2Y4.out.size; have := HZSY5.out; have := HZSY6.out; have := HZSY7.out; omega), HB1Y7.out⟩⟩
          simp only [PutAll, Act.put, List.setIfInBounds_toArray, List.set_cons_zero, List.set_cons_succ]
      · rintro xs w3 ⟨f1, f2, a1, k1, a2, k2, rfl, ho1, ho2, hne2, hX, hY, hbw, hb⟩
        simp only [PutAll, Act.put, List.setIfInBounds_toArray, List.set_cons_zero, List.set_cons_succ]
        go_wp2_with fail
        have hb3 := HBw1.out.trans (hb.mono HBw1.out.size)
        have hsz1 := HBw1.out.size
        exact jm_b j w.heap.size (w.heap.size + 1) gx gy nb nw cap cap2 k1 k2 w1.heap.size w2.heap.size ao ao2 a1 a2 fl fh e1 e2 x y w1 w3 HV.out hx hy ((hb.block _ (lt_of_block HXw1.out)).trans HXw1.out) hX hY ((hb.block _ (lt_of_block HEw1.out)).trans HEw1.out)
          hb (by omega) (lt_of_block HXw1.out) HGG.out.1 HGG.out.2.1 HGG.out.2.2 (lt_of_block HXX.out) (lt_of_block HYY.out) hbw ho1 ho2 hne2 HNB.out HNW.out (Prod.ext HFL.out.1.symm HFL.out.2.symm)
          ((HBS.out.later hb3.size (fun k h1 _ => hb3.block k h1)).mono9 (fun k _ h => by omega)) ((HWS.out.later hb3.size (fun k h1 _ => hb3.block k h1)).mono9 (fun k _ h => by omega)) (HTZ.out.below hb3 h1z) _ (fun w' h => ⟨rfl, HBw1.out.trans (h.mono HBw1.out.size)⟩) _ _ _ _ _ _ _ _ _ _ _ _ _ _ _ _ _ _ _ _ _ _ _ _ _
end Go.Proofs.YtbmfphiecllggaaDoor

/- JobMore: the law returns true, and its arguments read as they did. -/
namespace Go.Proofs.YtbmfphiecllggaaDoor
set_option linter.unusedVariables false
set_option linter.unusedSimpArgs false
open Go.ChangeShapes Go.WideShapes Go.ChangeAt Go.RowKit Go.Deep
section
variable {H : Type} {enc : TypeId × Value → H} {w : World} {base : Nat} {spare : Nat → Bool} {held : Bool}
theorem trodAll_fourM {P : Program} {t t' t'' t3 : TypeId} {args : Array Value} {ds : List (DataW H)} {ps : List MemPlace} (h : DataW.TrodAll enc P w base spare held [t, t', t'', t3] args.toList ds ps) :
    ∃ v v' v'' v3 d d' d'' d3 p p' p'' p3, args = #[v, v', v'', v3] ∧ ds = [d, d', d'', d3] ∧ ps = p ++ p' ++ p'' ++ p3 ∧ DataW.Trod enc P w base spare held t v d p ∧ DataW.Trod enc P w base spare held t' v' d' p' ∧ DataW.Trod enc P w base spare held t'' v'' d'' p'' ∧ DataW.Trod enc P w base spare held t3 v3 d3 p3 := by
  obtain ⟨v, vs, d, ds', p, q, hargs, rfl, rfl, hd, hrest⟩ := trodAll_cons h
  obtain ⟨v', vs', d', ds'', p', q', rfl, rfl, rfl, hd', hrest'⟩ := trodAll_cons hrest
  obtain ⟨v'', vs'', d'', ds''', p'', q'', rfl, rfl, rfl, hd'', hrest''⟩ := trodAll_cons hrest'
  obtain ⟨v3, vs3, d3, ds3, p3, q3, rfl, rfl, rfl, hd3, hrest3⟩ := trodAll_cons hrest''
  obtain ⟨rfl, rfl, rfl⟩ := trodAll_nil hrest3
  exact ⟨v, v', v'', v3, d, d', d'', d3, p, p', p'', p3, by cases args; simp_all, rfl, by simp, hd, hd', hd'', hd3⟩
set_option maxRecDepth 100000 in
theorem open_spanM {r : Reach} {b0 : Nat} {v : Value} {d : DataW H} {ps : List MemPlace} (hv : Value.okWide Tryd.prog w r b0 24 v) (h : DataW.Trod enc Tryd.prog w base spare held 24 v d ps) : ∃ x : Int × Int, v = .agg #[.int .i64 x.1, .int .i64 x.2] := by
  obtain ⟨cs, rfl, hsz⟩ := okWide_struct Tryd.underlying24 hv
  obtain ⟨l⟩ := cs
  obtain ⟨fuel, hf⟩ := h
  obtain ⟨a, b, hx⟩ := open_spanV hf
  refine ⟨(a, b), ?_⟩
  have h1 : l = [.int .i64 a, .int .i64 b] := by simpa [Value.cells] using hx
  rw [h1]
end
set_option maxRecDepth 100000 in
theorem jobMore_lifted (os : Os) (started : os.Started) (H : Type) (enc : TypeId × Value → H) :
    ReturnsInHanded {} Tryd.checked os 10 .any (fun w args => (Rows.jobMoreSpec.pre enc Tryd.prog Tryd.f10 [] false w args ∧ laidMetH Tryd.prog laidB w) ∧ sizedMet enc Tryd.prog Tryd.f10 (OpenSpec.ofChange Rows.jobMoreSpec) false w args)
      (Rows.jobMoreSpec.post enc Tryd.prog Tryd.f10 false true false false) := by
  refine returnsInHanded_of_change_and (C := Tryd.checked) (X := fun w _ => laidMetH Tryd.prog laidB w) (fun _ _ _ hh h => h.of_heap hh) own_knob started (by kernel_rfl) Tryd.func10
    (ChangeSpec.witness_shaped (enc := enc) (C := Tryd.checked) (os := os) (X := fun w _ => laidMetH Tryd.prog laidB w) false (World.doorLaid Tryd.prog 400 os) #[.agg #[.slice none 0 0, .int .i64 0, .int .i64 0, .slice none 0 0], .agg #[.int .i64 0, .int .i64 0], .int .u8 0, .int .u8 0] 8 rfl (World.shaped_of_RefB (by kernel_rfl) (by kernel_rfl)) (by kernel_rfl) (by kernel_rfl) (by kernel_rfl) (door_met os _)) ?_
  intro W base args ds gs before hval0 hW _ _ hL _
  have hval : ∀ (j : Nat) t v, Tryd.f10.params[j]? = some t → args[j]? = some v → Value.okWide Tryd.prog W .any base t v := hval0
  have hW' := hW
  obtain ⟨p, q, hA0, hV, rfl, hfz, hnd⟩ := hW
  have hA : DataW.TrodAll enc Tryd.prog W 0 (fun _ => true) true Tryd.f10.params.toList args.toList ds p := hA0
  rw [Tryd.params10] at hA hval
  obtain ⟨rfl, rfl⟩ := trodVars_none hV
  clear hA0 hval0
  simp only [List.append_nil] at hW'
  have hst := hA
  have htz := of_laid hL
  obtain ⟨v0, v1, v2, v3, d0, d1, d2, d3, p0, p1, p2, p3, rfl, rfl, rfl, h0, h1, h2, h3⟩ := trodAll_fourM hA
  obtain ⟨j, bs, ws, rfl, hbs, hws⟩ := open_jobV (hval 0 _ _ rfl rfl) h0
  obtain ⟨sp, rfl⟩ := open_spanM (hval 1 _ _ rfl rfl) h1
  obtain ⟨x, rfl, _, _, hx⟩ := Go.ChangeShapes.open_int under_u8 (hval 2 _ _ rfl rfl) h2
  obtain ⟨y, rfl, _, _, hy⟩ := Go.ChangeShapes.open_int under_u8 (hval 3 _ _ rfl rfl) h3
  refine (lmore_any j bs ws sp x y (u8_range hx) (u8_range hy) W hbs hws htz).mono fun e W' ⟨he, hb⟩ => ?_
  subst he
  exact ⟨_, rfl, lawEnd hW' rfl hst rfl (by decide +kernel) rfl rfl hb⟩
theorem jobMore_over : Rows.jobMoreRow.holds Tryd.pinned (OpenSpec.ofChange Rows.jobMoreSpec) :=
  OpenClaim.holds_of_wide 10 Tryd.f10 rfl rfl rfl rfl rfl rfl rfl ⟨rfl, rfl, rfl, rfl, rfl⟩ rfl rfl rfl rfl rfl (by kernel_rfl) Tryd.func10 (by kernel_rfl)
    (of_decide_eq_true (by kernel_rfl)) (by unfold Func.isWrapper; first | (rw [if_pos (by decide +kernel)]; kernel_rfl) | (rw [if_neg (by decide +kernel)]; exact ⟨rfl, rfl⟩))
    (fun os started H enc _ => jobMore_lifted os started H enc)
theorem job_more : Rows.JobMoreCardSaid :=
  Claim7.holds_tied_plain_at .later [] [.data, .data] true (true, "0142e81380ab833cdd0b1d3ff1be0aee862e67f2dcc1be2b06267f938ad4868f") true
    jobMore_over (fun _ h => by cases h) (by kernel_rfl) (fun _ h => by cases h) jobMore_row_tie rfl ⟨rfl, rfl⟩ (by kernel_rfl) rfl
    (fun f fn hf hfn => by
      obtain rfl : f = 10 := Option.some.inj ((show Tryd.prog.funcNamed "blockworks/blockworkslaw12.JobMore" = some 10 by kernel_rfl).symm.trans hf) |>.symm
      obtain rfl : fn = Tryd.f10 := (Option.some.inj (Tryd.func10.symm.trans hfn)).symm
      exact ⟨by kernel_rfl, fun j t ht => by
        rw [Tryd.params10] at ht
        have hm : t ∈ [28, 24, 5, 5] := by simpa using Array.mem_of_getElem? ht
        have hall : ([28, 24, 5, 5].all fun u => !Tryd.prog.wantsStandIn u) = true := by kernel_rfl
        exact (show Tryd.prog.wantsStandIn t = false by simpa using List.all_eq_true.1 hall t hm)⟩)
    (by kernel_rfl)
#print axioms job_more
end Go.Proofs.YtbmfphiecllggaaDoor
