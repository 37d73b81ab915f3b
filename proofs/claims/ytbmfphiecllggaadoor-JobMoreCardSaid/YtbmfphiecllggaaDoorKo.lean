/- Texts Cp, Cq, Cf in one file; each begins with a word on what it proves. -/
import Derived.Test.YtbmfphiecllggaaDoorKn

/- JobMore, walked: the copies that are compared at the end. -/
namespace Go.Proofs.YtbmfphiecllggaaDoor
set_option linter.unusedVariables false
set_option linter.unusedSimpArgs false
open Go.RowKit Go.Shelf
attribute [local go_sem] Oper.semAt_some
set_option maxRecDepth 100000 in
set_option maxHeartbeats 8000000 in
theorem jm_f (j z : JobD) (B gx gy nb nw nx mx cap cap2 kx kw ky : Nat) (ao ao2 ax aw ay : Option Addr) (fl fh : Int) (w w1 w2 : World) (hw1 : w1 = w) (hw2 : w2 = w) (hv : validJb j = true)
    (hB : w.heap[B]? = some (.cells #[.slice ao nb cap, .int .i64 fl, .int .i64 fh, .slice ao2 nw cap2] 28 (0, 0)))
    (hX : w.heap[gx]? = some (.cells #[.slice ax nx kx, .int .i64 fl, .int .i64 fh, .slice aw mx kw] 28 (0, 0)))
    (hY : w.heap[gy]? = some (.cells #[.slice ao nb cap, .int .i64 fl, .int .i64 fh, .slice ay nw ky] 28 (0, 0)))
    (hnb : nb = j.st.bs.length) (hnw : nw = j.ws.length) (hnx : nx = z.st.bs.length) (hmx : mx = z.ws.length) (hfl : j.st.film = (fl, fh)) (hfz : z.st.film = (fl, fh))
    (hbs : SpansAt w (.slice ao nb cap) j.st.bs (fun k => k < w.heap.size)) (hws : SpansAt w (.slice ao2 nw cap2) j.ws (fun k => k < w.heap.size))
    (hxb : SpansAt w (.slice ax nx kx) z.st.bs (fun k => k < w.heap.size)) (hxw : SpansAt w (.slice aw mx kw) z.ws (fun k => k < w.heap.size)) (hyw : SpansAt w (.slice ay nw ky) j.ws.reverse (fun k => k < w.heap.size))
    (hto : ToJ j z) (htz : TabZ w) (R : Ending → World → Prop) (hR : ∀ w', Below w.heap.size w w' → R (.returned (.bool true)) w') (u0 u1 u2 u3 u5 u12 u13 u44 u45 u46 u47 u48 u49 u50 u51 u52 u53 u54 u55 u56 u57 u58 u59 u60 u61 u62 u63 u64 u65 u66 u67 u68 u69 u70 u71 u72 u73 u74 u75 u76 u77 u78 u79 u80 u81 u82 u83 u84 u85 u86 u87 u88 u89 u90 u91 u92 u93 u94 u95 u96 u97 u98 u99 u100 u101 u102 u103 u104 u105 u106 u107 u108 u109 u110 u111 u112 u113 u114 u115 u116 u117 u118 u119 u120 u121 u122 u123 u124 u125 u126 u127 u128 : Value) :
    Code.wp Tryd.prog (moreM 7) (bodyPost Tryd.prog Tryd.f10 R) ⟨#[u0, u1, u2, u3, .pointer (some ⟨B, 0, none⟩), u5, undef, undef, .bool false, .int .i64 nw, .pointer (some ⟨gx, 0, none⟩), .pointer (some ⟨gy, 0, none⟩), u12, u13, undef, undef, undef, undef, undef, undef, undef, undef, undef, undef, undef, undef, undef, undef, undef, undef, undef, undef, undef, undef, undef, undef, undef, undef, undef, undef, undef, undef, undef, undef, u44, u45, u46, u47, u48, u49, u50, u51, u52, u53, u54, u55, u56, u57, u58, u59, u60, u61, u62, u63, u64, u65, u66, u67, u68, u69, u70, u71, u72, u73, u74, u75, u76, u77, u78, u79, u80, u81, u82, u83, u84, u85, u86, u87, u88, u89, u90, u91, u92, u93, u94, u95, u96, u97, u98, u99, u100, u101, u102, u103, u104, u105, u106, u107, u108, u109, u110, u111, u112, u113, u114, u115, u116, u117, u118, u119, u120, u121, u122, u123, u124, u125, u126, u127, u128, undef, undef, undef, undef, undef, undef, undef, undef, undef, undef, undef, undef, undef, undef, undef, undef, undef, undef, undef, undef, undef, undef, undef, undef, undef, undef, undef, undef, undef, undef, undef, undef, undef, undef, undef, undef, undef, undef, undef, undef, undef, undef, undef, undef, undef, undef, undef, undef, undef, undef, undef, undef, undef, undef, undef, undef, undef, undef, undef, undef, undef, undef, undef, undef, undef, undef, undef, undef, undef, undef, undef, undef, undef, undef, undef, undef, undef, undef, undef, undef, undef, undef, undef, undef, undef, undef, undef, undef, undef, undef, undef, undef, undef, undef, undef, undef, undef, undef, undef, undef, undef, undef, undef, undef, undef, undef, undef, undef, undef, undef, undef, undef, undef, undef, undef, undef, undef, undef, undef, undef, undef, undef, undef, undef, undef, undef, undef, undef, undef, undef, undef, undef, undef, undef, undef, undef, undef, undef, undef, undef, undef, undef, undef, undef, undef, undef, undef, undef, undef, undef, undef, undef, undef, undef, undef, undef, undef, undef, undef, undef, undef, undef, undef, undef, undef, undef, undef, undef, undef, undef, undef, undef, undef, undef, undef, undef, undef, undef, undef, undef, undef, undef, undef, undef, undef, undef, undef, undef, undef, undef, undef, undef, undef, undef, undef, undef, undef, undef, undef, undef, undef, undef, undef, undef, undef, undef, undef, undef, undef, undef, undef], []⟩ w2 := by
  conv => arg 2; whnf
  refine wp_cutM 1 (t := moreM 8) (by kernel_rfl) ?_
  simp only [cutM]
  have HBw1 := Lib.hid (show Below w.heap.size w w1 by rw [hw1]; exact Below.refl _ _)
  have HB12 := Lib.hid (show Below w1.heap.size w1 w2 by rw [hw1, hw2]; exact Below.refl _ _)
  have HV := Lib.hid hv
  have HJR := Lib.hid hB
  have HXR := Lib.hid hX
  have HYR := Lib.hid hY
  have HNB := Lib.hid hnb
  have HNW := Lib.hid hnw
  have HNX := Lib.hid (And.intro hnx hmx)
  have HFL := Lib.hid (And.intro hfl hfz)
  have HBS := Lib.hid hbs
  have HWS := Lib.hid hws
  have HXS := Lib.hid (And.intro hxb hxw)
  have HYS := Lib.hid hyw
  have HTO := Lib.hid hto
  have HTZ := Lib.hid htz
  have h1z := htz.lt
  have HRR := Lib.hid hR
  have hnw4 : nw ≤ 4 := by rw [hnw]; exact (validJb_parts hv).2.1
  have hnb8 : nb ≤ 8 := by rw [hnb]; exact (validSt_parts (validJb_parts hv).1).1
  have HSX : Hid (∀ Y, Below w1.heap.size w1 Y → SMM B (.slice ao nb cap) (.slice ao2 nw cap2) fl fh Y) := Lib.hid fun Y hb => by
    have hb2 := HBw1.out.trans (hb.mono HBw1.out.size)
    have hx := (hb2.block _ (lt_of_block HJR.out)).trans HJR.out
    exact ⟨by rw [cell_of_row _ _ _ _ _ _ hx]; rfl, by rw [cell_of_row _ _ _ _ _ _ hx]; rfl, by rw [cell_of_row _ _ _ _ _ _ hx]; rfl, by rw [cell_of_row _ _ _ _ _ _ hx]; rfl⟩
  clear hw1 hw2 hv hB hX hY hnb hnw hnx hmx hfl hfz hbs hws hxb hxw hyw hto htz hR
  go_upto_region 15 with fail
  refine region_cut [some 129, some 130, some 131, some 132, some 133, some 134, some 135, some 136, some 137, some 14, some 15] (fun xs Y => ∃ g1 g2 a1 k1 a2 k2, xs = [.slice (some ⟨g1, 0, none⟩) 0 0, .pointer (some ⟨B, 0, none⟩), .pointer (some ⟨B, 0, none⟩), .slice ao nb cap, .slice a1 nb k1, .slice (some ⟨g2, 0, none⟩) 0 0, .pointer (some ⟨B, 3, none⟩), .slice ao2 nw cap2, .slice a2 nw k2, .slice a1 nb k1, .slice a2 nw k2] ∧
      Y.ownsRow w2.heap.size 24 2 (.slice a1 nb k1) nb (j.st.bs.flatMap spM) ∧ Y.ownsRow w2.heap.size 24 2 (.slice a2 nw k2) nw (j.ws.flatMap spM) ∧ Below w1.heap.size w1 Y) ?_ ?_
  · skip
    refine wp_region_held_drew (S := SMM B (.slice ao nb cap) (.slice ao2 nw cap2) fl fh) (by kernel_rfl) (HSX.out _ HB12.out.drew) fun hS => ?_
    obtain ⟨D, hD⟩ : ∃ D, D = World.drew w2 := ⟨_, rfl⟩
    have HB2D : Hid (Below w2.heap.size w2 D) := Lib.hid (by rw [hD]; exact (Below.refl _ _).drew)
    have HB1D := Lib.hid (HB12.out.trans (HB2D.out.mono HB12.out.size))
    rw [← hD] at hS ⊢
    clear hD
    refine wpAnyH_take (i := 1) (v := ?_) rfl (by kernel_rfl) (by kernel_rfl) (by kernel_rfl) (fun _ _ _ h => nomatch h.1) (Or.inl ⟨by rfl, ?_⟩) hS ?_
    rotate_left
    · (intro W hSw; obtain ⟨q0, q1, q2, q3⟩ := hSw; go_simp; try with_reducible rfl)
    try simp only [List.getElem_toArray, List.getElem_cons_succ, List.getElem_cons_zero, Act.put, List.setIfInBounds_toArray, List.set_cons_zero, List.set_cons_succ]
    refine wpAnyH_take (i := 2) (v := ?_) rfl (by kernel_rfl) (by kernel_rfl) (by kernel_rfl) (fun _ _ _ h => nomatch h.1) (Or.inl ⟨by rfl, ?_⟩) hS ?_
    rotate_left
    · (intro W hSw; obtain ⟨q0, q1, q2, q3⟩ := hSw; go_simp; try with_reducible rfl)
    try simp only [List.getElem_toArray, List.getElem_cons_succ, List.getElem_cons_zero, Act.put, List.setIfInBounds_toArray, List.set_cons_zero, List.set_cons_succ]
    refine wpAnyH_take (i := 3) (v := ?_) rfl (by kernel_rfl) (by kernel_rfl) (by kernel_rfl) (fun _ _ _ h => nomatch h.1) (Or.inl ⟨by rfl, ?_⟩) hS ?_
    rotate_left
    · (intro W hSw; obtain ⟨q0, q1, q2, q3⟩ := hSw; go_simp; try with_reducible rfl)
    try simp only [List.getElem_toArray, List.getElem_cons_succ, List.getElem_cons_zero, Act.put, List.setIfInBounds_toArray, List.set_cons_zero, List.set_cons_succ]
    refine wpAnyH_take (i := 6) (v := ?_) rfl (by kernel_rfl) (by kernel_rfl) (by kernel_rfl) (fun _ _ _ h => nomatch h.1) (Or.inl ⟨by rfl, ?_⟩) hS ?_
    rotate_left
    · (intro W hSw; obtain ⟨q0, q1, q2, q3⟩ := hSw; go_simp; try with_reducible rfl)
    try simp only [List.getElem_toArray, List.getElem_cons_succ, List.getElem_cons_zero, Act.put, List.setIfInBounds_toArray, List.set_cons_zero, List.set_cons_succ]
    refine wpAnyH_take (i := 7) (v := ?_) rfl (by kernel_rfl) (by kernel_rfl) (by kernel_rfl) (fun _ _ _ h => nomatch h.1) (Or.inl ⟨by rfl, ?_⟩) hS ?_
    rotate_left
    · (intro W hSw; obtain ⟨q0, q1, q2, q3⟩ := hSw; go_simp; try with_reducible rfl)
    try simp only [List.getElem_toArray, List.getElem_cons_succ, List.getElem_cons_zero, Act.put, List.setIfInBounds_toArray, List.set_cons_zero, List.set_cons_succ]
    refine wpAnyH_all (rs := [0, 5]) (by kernel_rfl) (by simp) fun i hi => ?_
    rcases (show i = 0 ∨ i = 5 by simpa using hi) with rfl | rfl <;> clear hi <;> refine wpOp_of rfl (by kernel_rfl) ?_
    · skip
      obtain ⟨g1, hg⟩ : ∃ g, g = D.heap.size := ⟨_, rfl⟩
      refine oper_value (v := .slice (some ⟨g1, 0, none⟩) 0 0) (w' := D.alloc (.cells #[] 24)) (by rw [hg]; simp [execOp, go_sem, Act.eval, Act.put]) ?_
      have hb := Below.alloc' D (.cells #[] 24)
      have hc : (D.alloc (.cells #[] 24)).heap[g1]? = some (.cells #[] 24 (0, 0)) := heap_alloc_at _ _ _ hg
      obtain ⟨Y1, hZ⟩ : ∃ W, W = D.alloc (.cells #[] 24) := ⟨_, rfl⟩
      rw [← hZ] at hb hc ⊢
      first
        | have HNV := Lib.hid (show (.slice a1 nb k1 : Value).ownBlock ≠ some g1 by intro e; have := (HO1.out.lt _ e).2; omega)
        | skip
      first
        | have HNG := Lib.hid (show g2 ≠ g1 by have := lt_of_block HG1.out.1; omega)
        | have HNG := Lib.hid (show g2 ≠ g1 by have := lt_of_block HG2.out.1; omega)
        | skip
      first | (replace HO1 := Lib.hid (own_below HO1.out hb)) | skip
      first | (replace HG1 := Lib.hid (And.intro ((hb.block _ (lt_of_block HG1.out.1)).trans HG1.out.1) HG1.out.2)) | skip
      first | (replace HG2 := Lib.hid (And.intro ((hb.block _ (lt_of_block HG2.out.1)).trans HG2.out.1) HG2.out.2)) | skip
      have HG1 := Lib.hid (And.intro hc (show w2.heap.size ≤ g1 by rw [hg]; exact HB2D.out.size))
      have HB2Y1 := Lib.hid (HB2D.out.trans (hb.mono HB2D.out.size))
      have HB1Y1 := Lib.hid (HB12.out.trans (HB2Y1.out.mono HB12.out.size))
      clear hZ hc hg hb
      refine ⟨HSX.out _ HB1Y1.out, ?_⟩
      clear hS
      have hS := HSX.out _ HB1Y1.out
      try simp only [List.getElem_toArray, List.getElem_cons_succ, List.getElem_cons_zero, Act.put, List.setIfInBounds_toArray, List.set_cons_zero, List.set_cons_succ]
      refine wpAnyH_all (rs := [4, 5]) (by kernel_rfl) (by simp) fun i hi => ?_
      rcases (show i = 4 ∨ i = 5 by simpa using hi) with rfl | rfl <;> clear hi <;> refine wpOp_of rfl (by kernel_rfl) ?_
      · skip
        refine wp_copy_spM (.tmp 129) (.tmp 132) rfl w2.heap.size g1 rfl HG1.out.1 HG1.out.2 ao cap nb j.st.bs HNB.out rfl _ (HBS.out.later (HBw1.out.trans (HB1Y1.out.mono HBw1.out.size)).size (fun k h1 _ => (HBw1.out.trans (HB1Y1.out.mono HBw1.out.size)).block k h1)) (by omega) HB2Y1.out.size ?_
        intro v Y2 hown hgrow hob
        obtain ⟨a1, k1, hv, _⟩ := id (spans_of_ownM HNB.out hown)
        rw [← HNB.out] at hv
        subst hv
        first
          | have HNV := Lib.hid (show (.slice a1 nb k1 : Value).ownBlock ≠ some g2 by intro e; have := lt_of_block HG2.out.1; have := HNG.out; rw [e] at hob; simp only [Option.some.injEq] at hob; omega)
          | skip
        first | (replace HG2 := Lib.hid (And.intro (((keeps_grown hgrow).block _ (lt_of_block HG2.out.1) (fun e => by have := HNG.out; simp only [Option.some.injEq] at e; omega)).trans HG2.out.1) HG2.out.2)) | skip
        have HB2Y2 := Lib.hid (HB2Y1.out.trans ((keeps_grown hgrow).below HB2Y1.out.size (fun k h e => by have := HG1.out.2; simp only [Option.some.injEq] at e; omega)))
        have HB1Y2 := Lib.hid (HB12.out.trans (HB2Y2.out.mono HB12.out.size))
        have HO1 := Lib.hid hown
        clear hown hgrow hob HG1
        refine ⟨HSX.out _ HB1Y2.out, ?_⟩
        clear hS
        have hS := HSX.out _ HB1Y2.out
        try simp only [List.getElem_toArray, List.getElem_cons_succ, List.getElem_cons_zero, Act.put, List.setIfInBounds_toArray, List.set_cons_zero, List.set_cons_succ]
        refine wpAnyH_all (rs := [5]) (by kernel_rfl) (by simp) fun i hi => ?_
        obtain rfl : i = 5 := by simpa using hi
        clear hi
        refine wpOp_of rfl (by kernel_rfl) ?_
        obtain ⟨g2, hg⟩ : ∃ g, g = Y2.heap.size := ⟨_, rfl⟩
        refine oper_value (v := .slice (some ⟨g2, 0, none⟩) 0 0) (w' := Y2.alloc (.cells #[] 24)) (by rw [hg]; simp [execOp, go_sem, Act.eval, Act.put]) ?_
        have hb := Below.alloc' Y2 (.cells #[] 24)
        have hc : (Y2.alloc (.cells #[] 24)).heap[g2]? = some (.cells #[] 24 (0, 0)) := heap_alloc_at _ _ _ hg
        obtain ⟨Y3, hZ⟩ : ∃ W, W = Y2.alloc (.cells #[] 24) := ⟨_, rfl⟩
        rw [← hZ] at hb hc ⊢
        first
          | have HNV := Lib.hid (show (.slice a1 nb k1 : Value).ownBlock ≠ some g2 by intro e; have := (HO1.out.lt _ e).2; omega)
          | skip
        first
          | have HNG := Lib.hid (show g2 ≠ g1 by have := lt_of_block HG1.out.1; omega)
          | have HNG := Lib.hid (show g2 ≠ g1 by have := lt_of_block HG2.out.1; omega)
          | skip
        first | (replace HO1 := Lib.hid (own_below HO1.out hb)) | skip
        first | (replace HG1 := Lib.hid (And.intro ((hb.block _ (lt_of_block HG1.out.1)).trans HG1.out.1) HG1.out.2)) | skip
        first | (replace HG2 := Lib.hid (And.intro ((hb.block _ (lt_of_block HG2.out.1)).trans HG2.out.1) HG2.out.2)) | skip
        have HG2 := Lib.hid (And.intro hc (show w2.heap.size ≤ g2 by rw [hg]; exact HB2Y2.out.size))
        have HB2Y3 := Lib.hid (HB2Y2.out.trans (hb.mono HB2Y2.out.size))
        have HB1Y3 := Lib.hid (HB12.out.trans (HB2Y3.out.mono HB12.out.size))
        clear hZ hc hg hb
        refine ⟨HSX.out _ HB1Y3.out, ?_⟩
        clear hS
        have hS := HSX.out _ HB1Y3.out
        try simp only [List.getElem_toArray, List.getElem_cons_succ, List.getElem_cons_zero, Act.put, List.setIfInBounds_toArray, List.set_cons_zero, List.set_cons_succ]
        refine wpAnyH_all (rs := [8]) (by kernel_rfl) (by simp) fun i hi => ?_
        obtain rfl : i = 8 := by simpa using hi
        clear hi
        refine wpOp_of rfl (by kernel_rfl) ?_
        refine wp_copy_spM (.tmp 134) (.tmp 136) rfl w2.heap.size g2 rfl HG2.out.1 HG2.out.2 ao2 cap2 nw j.ws HNW.out rfl _ (HWS.out.later (HBw1.out.trans (HB1Y3.out.mono HBw1.out.size)).size (fun k h1 _ => (HBw1.out.trans (HB1Y3.out.mono HBw1.out.size)).block k h1)) (by omega) HB2Y3.out.size ?_
        intro v Y4 hown hgrow hob
        obtain ⟨a2, k2, hv, _⟩ := id (spans_of_ownM HNW.out hown)
        rw [← HNW.out] at hv
        subst hv
        have HNE2 := Lib.hid (show (.slice a2 nw k2 : Value).ownBlock ≠ (.slice a1 nb k1 : Value).ownBlock by
          intro e
          rcases hob with hob | hob <;> rw [hob] at e
          · exact HNV.out e.symm
          · have := (HO1.out.lt _ e.symm).2
            omega)
        replace HO1 := Lib.hid (HO1.out.kept hgrow (Or.inr HNV.out))
        have HB2Y4 := Lib.hid (HB2Y3.out.trans ((keeps_grown hgrow).below HB2Y3.out.size (fun k h e => by have := HG2.out.2; simp only [Option.some.injEq] at e; omega)))
        have HB1Y4 := Lib.hid (HB12.out.trans (HB2Y4.out.mono HB12.out.size))
        have HO2 := Lib.hid hown
        clear hown hgrow hob
        refine ⟨HSX.out _ HB1Y4.out, ?_⟩
        clear hS
        have hS := HSX.out _ HB1Y4.out
        try simp only [List.getElem_toArray, List.getElem_cons_succ, List.getElem_cons_zero, Act.put, List.setIfInBounds_toArray, List.set_cons_zero, List.set_cons_succ]
        refine wpAnyH_take (i := 9) (v := ?_) rfl (by kernel_rfl) (by kernel_rfl) (by kernel_rfl) (fun _ _ _ h => nomatch h.1) (Or.inl ⟨by rfl, ?_⟩) hS ?_
        rotate_left
        · (intro W hSw; obtain ⟨q0, q1, q2, q3⟩ := hSw; go_simp; try with_reducible rfl)
        try simp only [List.getElem_toArray, List.getElem_cons_succ, List.getElem_cons_zero, Act.put, List.setIfInBounds_toArray, List.set_cons_zero, List.set_cons_succ]
        refine wpAnyH_take (i := 10) (v := ?_) rfl (by kernel_rfl) (by kernel_rfl) (by kernel_rfl) (fun _ _ _ h => nomatch h.1) (Or.inl ⟨by rfl, ?_⟩) hS ?_
        rotate_left
        · (intro W hSw; obtain ⟨q0, q1, q2, q3⟩ := hSw; go_simp; try with_reducible rfl)
        try simp only [List.getElem_toArray, List.getElem_cons_succ, List.getElem_cons_zero, Act.put, List.setIfInBounds_toArray, List.set_cons_zero, List.set_cons_succ]
        refine wpAnyH_done (by kernel_rfl) ?_ _
        try simp only [List.getElem_toArray, List.getElem_cons_succ, List.getElem_cons_zero, Act.put, List.setIfInBounds_toArray, List.set_cons_zero, List.set_cons_succ]
        refine ⟨rfl, _, ?_, ⟨g1, g2, a1, k1, a2, k2, rfl, HO1.out, HO2.out, HB1Y4.out⟩⟩
        simp only [PutAll, Act.put, List.setIfInBounds_toArray, List.set_cons_zero, List.set_cons_succ]
      · skip
        obtain ⟨g2, hg⟩ : ∃ g, g = Y1.heap.size := ⟨_, rfl⟩
        refine oper_value (v := .slice (some ⟨g2, 0, none⟩) 0 0) (w' := Y1.alloc (.cells #[] 24)) (by rw [hg]; simp [execOp, go_sem, Act.eval, Act.put]) ?_
        have hb := Below.alloc' Y1 (.cells #[] 24)
        have hc : (Y1.alloc (.cells #[] 24)).heap[g2]? = some (.cells #[] 24 (0, 0)) := heap_alloc_at _ _ _ hg
        obtain ⟨Y2, hZ⟩ : ∃ W, W = Y1.alloc (.cells #[] 24) := ⟨_, rfl⟩
        rw [← hZ] at hb hc ⊢
        first
          | have HNV := Lib.hid (show (.slice a1 nb k1 : Value).ownBlock ≠ some g2 by intro e; have := (HO1.out.lt _ e).2; omega)
          | skip
        first
          | have HNG := Lib.hid (show g2 ≠ g1 by have := lt_of_block HG1.out.1; omega)
          | have HNG := Lib.hid (show g2 ≠ g1 by have := lt_of_block HG2.out.1; omega)
          | skip
        first | (replace HO1 := Lib.hid (own_below HO1.out hb)) | skip
        first | (replace HG1 := Lib.hid (And.intro ((hb.block _ (lt_of_block HG1.out.1)).trans HG1.out.1) HG1.out.2)) | skip
        first | (replace HG2 := Lib.hid (And.intro ((hb.block _ (lt_of_block HG2.out.1)).trans HG2.out.1) HG2.out.2)) | skip
        have HG2 := Lib.hid (And.intro hc (show w2.heap.size ≤ g2 by rw [hg]; exact HB2Y1.out.size))
        have HB2Y2 := Lib.hid (HB2Y1.out.trans (hb.mono HB2Y1.out.size))
        have HB1Y2 := Lib.hid (HB12.out.trans (HB2Y2.out.mono HB12.out.size))
        clear hZ hc hg hb
        refine ⟨HSX.out _ HB1Y2.out, ?_⟩
        clear hS
        have hS := HSX.out _ HB1Y2.out
        try simp only [List.getElem_toArray, List.getElem_cons_succ, List.getElem_cons_zero, Act.put, List.setIfInBounds_toArray, List.set_cons_zero, List.set_cons_succ]
        refine wpAnyH_all (rs := [4]) (by kernel_rfl) (by simp) fun i hi => ?_
        obtain rfl : i = 4 := by simpa using hi
        clear hi
        refine wpOp_of rfl (by kernel_rfl) ?_
        refine wp_copy_spM (.tmp 129) (.tmp 132) rfl w2.heap.size g1 rfl HG1.out.1 HG1.out.2 ao cap nb j.st.bs HNB.out rfl _ (HBS.out.later (HBw1.out.trans (HB1Y2.out.mono HBw1.out.size)).size (fun k h1 _ => (HBw1.out.trans (HB1Y2.out.mono HBw1.out.size)).block k h1)) (by omega) HB2Y2.out.size ?_
        intro v Y3 hown hgrow hob
        obtain ⟨a1, k1, hv, _⟩ := id (spans_of_ownM HNB.out hown)
        rw [← HNB.out] at hv
        subst hv
        first
          | have HNV := Lib.hid (show (.slice a1 nb k1 : Value).ownBlock ≠ some g2 by intro e; have := lt_of_block HG2.out.1; have := HNG.out; rw [e] at hob; simp only [Option.some.injEq] at hob; omega)
          | skip
        first | (replace HG2 := Lib.hid (And.intro (((keeps_grown hgrow).block _ (lt_of_block HG2.out.1) (fun e => by have := HNG.out; simp only [Option.some.injEq] at e; omega)).trans HG2.out.1) HG2.out.2)) | skip
        have HB2Y3 := Lib.hid (HB2Y2.out.trans ((keeps_grown hgrow).below HB2Y2.out.size (fun k h e => by have := HG1.out.2; simp only [Option.some.injEq] at e; omega)))
        have HB1Y3 := Lib.hid (HB12.out.trans (HB2Y3.out.mono HB12.out.size))
        have HO1 := Lib.hid hown
        clear hown hgrow hob HG1
        refine ⟨HSX.out _ HB1Y3.out, ?_⟩
        clear hS
        have hS := HSX.out _ HB1Y3.out
        try simp only [List.getElem_toArray, List.getElem_cons_succ, List.getElem_cons_zero, Act.put, List.setIfInBounds_toArray, List.set_cons_zero, List.set_cons_succ]
        refine wpAnyH_all (rs := [8]) (by kernel_rfl) (by simp) fun i hi => ?_
        obtain rfl : i = 8 := by simpa using hi
        clear hi
        refine wpOp_of rfl (by kernel_rfl) ?_
        refine wp_copy_spM (.tmp 134) (.tmp 136) rfl w2.heap.size g2 rfl HG2.out.1 HG2.out.2 ao2 cap2 nw j.ws HNW.out rfl _ (HWS.out.later (HBw1.out.trans (HB1Y3.out.mono HBw1.out.size)).size (fun k h1 _ => (HBw1.out.trans (HB1Y3.out.mono HBw1.out.size)).block k h1)) (by omega) HB2Y3.out.size ?_
        intro v Y4 hown hgrow hob
        obtain ⟨a2, k2, hv, _⟩ := id (spans_of_ownM HNW.out hown)
        rw [← HNW.out] at hv
        subst hv
        have HNE2 := Lib.hid (show (.slice a2 nw k2 : Value).ownBlock ≠ (.slice a1 nb k1 : Value).ownBlock by
          intro e
          rcases hob with hob | hob <;> rw [hob] at e
          · exact HNV.out e.symm
          · have := (HO1.out.lt _ e.symm).2
            omega)
        replace HO1 := Lib.hid (HO1.out.kept hgrow (Or.inr HNV.out))
        have HB2Y4 := Lib.hid (HB2Y3.out.trans ((keeps_grown hgrow).below HB2Y3.out.size (fun k h e => by have := HG2.out.2; simp only [Option.some.injEq] at e; omega)))
        have HB1Y4 := Lib.hid (HB12.out.trans (HB2Y4.out.mono HB12.out.size))
        have HO2 := Lib.hid hown
        clear hown hgrow hob
        refine ⟨HSX.out _ HB1Y4.out, ?_⟩
        clear hS
        have hS := HSX.out _ HB1Y4.out
        try simp only [List.getElem_toArray, List.getElem_cons_succ, List.getElem_cons_zero, Act.put, List.setIfInBounds_toArray, List.set_cons_zero, List.set_cons_succ]
        refine wpAnyH_take (i := 9) (v := ?_) rfl (by kernel_rfl) (by kernel_rfl) (by kernel_rfl) (fun _ _ _ h => nomatch h.1) (Or.inl ⟨by rfl, ?_⟩) hS ?_
        rotate_left
        · (intro W hSw; obtain ⟨q0, q1, q2, q3⟩ := hSw; go_simp; try with_reducible rfl)
        try simp only [List.getElem_toArray, List.getElem_cons_succ, List.getElem_cons_zero, Act.put, List.setIfInBounds_toArray, List.set_cons_zero, List.set_cons_succ]
        refine wpAnyH_take (i := 10) (v := ?_) rfl (by kernel_rfl) (by kernel_rfl) (by kernel_rfl) (fun _ _ _ h => nomatch h.1) (Or.inl ⟨by rfl, ?_⟩) hS ?_
        rotate_left
        · (intro W hSw; obtain ⟨q0, q1, q2, q3⟩ := hSw; go_simp; try with_reducible rfl)
        try simp only [List.getElem_toArray, List.getElem_cons_succ, List.getElem_cons_zero, Act.put, List.setIfInBounds_toArray, List.set_cons_zero, List.set_cons_succ]
        refine wpAnyH_done (by kernel_rfl) ?_ _
        try simp only [List.getElem_toArray, List.getElem_cons_succ, List.getElem_cons_zero, Act.put, List.setIfInBounds_toArray, List.set_cons_zero, List.set_cons_succ]
        refine ⟨rfl, _, ?_, ⟨g1, g2, a1, k1, a2, k2, rfl, HO1.out, HO2.out, HB1Y4.out⟩⟩
        simp only [PutAll, Act.put, List.setIfInBounds_toArray, List.set_cons_zero, List.set_cons_succ]
    · skip
      obtain ⟨g2, hg⟩ : ∃ g, g = D.heap.size := ⟨_, rfl⟩
      refine oper_value (v := .slice (some ⟨g2, 0, none⟩) 0 0) (w' := D.alloc (.cells #[] 24)) (by rw [hg]; simp [execOp, go_sem, Act.eval, Act.put]) ?_
      have hb := Below.alloc' D (.cells #[] 24)
      have hc : (D.alloc (.cells #[] 24)).heap[g2]? = some (.cells #[] 24 (0, 0)) := heap_alloc_at _ _ _ hg
      obtain ⟨Y1, hZ⟩ : ∃ W, W = D.alloc (.cells #[] 24) := ⟨_, rfl⟩
      rw [← hZ] at hb hc ⊢
      first
        | have HNV := Lib.hid (show (.slice a1 nb k1 : Value).ownBlock ≠ some g2 by intro e; have := (HO1.out.lt _ e).2; omega)
        | skip
      first
        | have HNG := Lib.hid (show g2 ≠ g1 by have := lt_of_block HG1.out.1; omega)
        | have HNG := Lib.hid (show g2 ≠ g1 by have := lt_of_block HG2.out.1; omega)
        | skip
      first | (replace HO1 := Lib.hid (own_below HO1.out hb)) | skip
      first | (replace HG1 := Lib.hid (And.intro ((hb.block _ (lt_of_block HG1.out.1)).trans HG1.out.1) HG1.out.2)) | skip
      first | (replace HG2 := Lib.hid (And.intro ((hb.block _ (lt_of_block HG2.out.1)).trans HG2.out.1) HG2.out.2)) | skip
      have HG2 := Lib.hid (And.intro hc (show w2.heap.size ≤ g2 by rw [hg]; exact HB2D.out.size))
      have HB2Y1 := Lib.hid (HB2D.out.trans (hb.mono HB2D.out.size))
      have HB1Y1 := Lib.hid (HB12.out.trans (HB2Y1.out.mono HB12.out.size))
      clear hZ hc hg hb
      refine ⟨HSX.out _ HB1Y1.out, ?_⟩
      clear hS
      have hS := HSX.out _ HB1Y1.out
      try simp only [List.getElem_toArray, List.getElem_cons_succ, List.getElem_cons_zero, Act.put, List.setIfInBounds_toArray, List.set_cons_zero, List.set_cons_succ]
      refine wpAnyH_all (rs := [0]) (by kernel_rfl) (by simp) fun i hi => ?_
      obtain rfl : i = 0 := by simpa using hi
      clear hi
      refine wpOp_of rfl (by kernel_rfl) ?_
      obtain ⟨g1, hg⟩ : ∃ g, g = Y1.heap.size := ⟨_, rfl⟩
      refine oper_value (v := .slice (some ⟨g1, 0, none⟩) 0 0) (w' := Y1.alloc (.cells #[] 24)) (by rw [hg]; simp [execOp, go_sem, Act.eval, Act.put]) ?_
      have hb := Below.alloc' Y1 (.cells #[] 24)
      have hc : (Y1.alloc (.cells #[] 24)).heap[g1]? = some (.cells #[] 24 (0, 0)) := heap_alloc_at _ _ _ hg
      obtain ⟨Y2, hZ⟩ : ∃ W, W = Y1.alloc (.cells #[] 24) := ⟨_, rfl⟩
      rw [← hZ] at hb hc ⊢
      first
        | have HNV := Lib.hid (show (.slice a1 nb k1 : Value).ownBlock ≠ some g1 by intro e; have := (HO1.out.lt _ e).2; omega)
        | skip
      first
        | have HNG := Lib.hid (show g2 ≠ g1 by have := lt_of_block HG1.out.1; omega)
        | have HNG := Lib.hid (show g2 ≠ g1 by have := lt_of_block HG2.out.1; omega)
        | skip
      first | (replace HO1 := Lib.hid (own_below HO1.out hb)) | skip
      first | (replace HG1 := Lib.hid (And.intro ((hb.block _ (lt_of_block HG1.out.1)).trans HG1.out.1) HG1.out.2)) | skip
      first | (replace HG2 := Lib.hid (And.intro ((hb.block _ (lt_of_block HG2.out.1)).trans HG2.out.1) HG2.out.2)) | skip
      have HG1 := Lib.hid (And.intro hc (show w2.heap.size ≤ g1 by rw [hg]; exact HB2Y1.out.size))
      have HB2Y2 := Lib.hid (HB2Y1.out.trans (hb.mono HB2Y1.out.size))
      have HB1Y2 := Lib.hid (HB12.out.trans (HB2Y2.out.mono HB12.out.size))
      clear hZ hc hg hb
      refine ⟨HSX.out _ HB1Y2.out, ?_⟩
      clear hS
      have hS := HSX.out _ HB1Y2.out
      try simp only [List.getElem_toArray, List.getElem_cons_succ, List.getElem_cons_zero, Act.put, List.setIfInBounds_toArray, List.set_cons_zero, List.set_cons_succ]
      refine wpAnyH_all (rs := [4]) (by kernel_rfl) (by simp) fun i hi => ?_
      obtain rfl : i = 4 := by simpa using hi
      clear hi
      refine wpOp_of rfl (by kernel_rfl) ?_
      refine wp_copy_spM (.tmp 129) (.tmp 132) rfl w2.heap.size g1 rfl HG1.out.1 HG1.out.2 ao cap nb j.st.bs HNB.out rfl _ (HBS.out.later (HBw1.out.trans (HB1Y2.out.mono HBw1.out.size)).size (fun k h1 _ => (HBw1.out.trans (HB1Y2.out.mono HBw1.out.size)).block k h1)) (by omega) HB2Y2.out.size ?_
      intro v Y3 hown hgrow hob
      obtain ⟨a1, k1, hv, _⟩ := id (spans_of_ownM HNB.out hown)
      rw [← HNB.out] at hv
      subst hv
      first
        | have HNV := Lib.hid (show (.slice a1 nb k1 : Value).ownBlock ≠ some g2 by intro e; have := lt_of_block HG2.out.1; have := HNG.out; rw [e] at hob; simp only [Option.some.injEq] at hob; omega)
        | skip
      first | (replace HG2 := Lib.hid (And.intro (((keeps_grown hgrow).block _ (lt_of_block HG2.out.1) (fun e => by have := HNG.out; simp only [Option.some.injEq] at e; omega)).trans HG2.out.1) HG2.out.2)) | skip
      have HB2Y3 := Lib.hid (HB2Y2.out.trans ((keeps_grown hgrow).below HB2Y2.out.size (fun k h e => by have := HG1.out.2; simp only [Option.some.injEq] at e; omega)))
      have HB1Y3 := Lib.hid (HB12.out.trans (HB2Y3.out.mono HB12.out.size))
      have HO1 := Lib.hid hown
      clear hown hgrow hob HG1
      refine ⟨HSX.out _ HB1Y3.out, ?_⟩
      clear hS
      have hS := HSX.out _ HB1Y3.out
      try simp only [List.getElem_toArray, List.getElem_cons_succ, List.getElem_cons_zero, Act.put, List.setIfInBounds_toArray, List.set_cons_zero, List.set_cons_succ]
      refine wpAnyH_all (rs := [8]) (by kernel_rfl) (by simp) fun i hi => ?_
      obtain rfl : i = 8 := by simpa using hi
      clear hi
      refine wpOp_of rfl (by kernel_rfl) ?_
      refine wp_copy_spM (.tmp 134) (.tmp 136) rfl w2.heap.size g2 rfl HG2.out.1 HG2.out.2 ao2 cap2 nw j.ws HNW.out rfl _ (HWS.out.later (HBw1.out.trans (HB1Y3.out.mono HBw1.out.size)).size (fun k h1 _ => (HBw1.out.trans (HB1Y3.out.mono HBw1.out.size)).block k h1)) (by omega) HB2Y3.out.size ?_
      intro v Y4 hown hgrow hob
      obtain ⟨a2, k2, hv, _⟩ := id (spans_of_ownM HNW.out hown)
      rw [← HNW.out] at hv
      subst hv
      have HNE2 := Lib.hid (show (.slice a2 nw k2 : Value).ownBlock ≠ (.slice a1 nb k1 : Value).ownBlock by
        intro e
        rcases hob with hob | hob <;> rw [hob] at e
        · exact HNV.out e.symm
        · have := (HO1.out.lt _ e.symm).2
          omega)
      replace HO1 := Lib.hid (HO1.out.kept hgrow (Or.inr HNV.out))
      have HB2Y4 := Lib.hid (HB2Y3.out.trans ((keeps_grown hgrow).below HB2Y3.out.size (fun k h e => by have := HG2.out.2; simp only [Option.some.injEq] at e; omega)))
      have HB1Y4 := Lib.hid (HB12.out.trans (HB2Y4.out.mono HB12.out.size))
      have HO2 := Lib.hid hown
      clear hown hgrow hob
      refine ⟨HSX.out _ HB1Y4.out, ?_⟩
      clear hS
      have hS := HSX.out _ HB1Y4.out
      try simp only [List.getElem_toArray, List.getElem_cons_succ, List.getElem_cons_zero, Act.put, List.setIfInBounds_toArray, List.set_cons_zero, List.set_cons_succ]
      refine wpAnyH_take (i := 9) (v := ?_) rfl (by kernel_rfl) (by kernel_rfl) (by kernel_rfl) (fun _ _ _ h => nomatch h.1) (Or.inl ⟨by rfl, ?_⟩) hS ?_
      rotate_left
      · (intro W hSw; obtain ⟨q0, q1, q2, q3⟩ := hSw; go_simp; try with_reducible rfl)
      try simp only [List.getElem_toArray, List.getElem_cons_succ, List.getElem_cons_zero, Act.put, List.setIfInBounds_toArray, List.set_cons_zero, List.set_cons_succ]
      refine wpAnyH_take (i := 10) (v := ?_) rfl (by kernel_rfl) (by kernel_rfl) (by kernel_rfl) (fun _ _ _ h => nomatch h.1) (Or.inl ⟨by rfl, ?_⟩) hS ?_
      rotate_left
      · (intro W hSw; obtain ⟨q0, q1, q2, q3⟩ := hSw; go_simp; try with_reducible rfl)
      try simp only [List.getElem_toArray, List.getElem_cons_succ, List.getElem_cons_zero, Act.put, List.setIfInBounds_toArray, List.set_cons_zero, List.set_cons_succ]
      refine wpAnyH_done (by kernel_rfl) ?_ _
      try simp only [List.getElem_toArray, List.getElem_cons_succ, List.getElem_cons_zero, Act.put, List.setIfInBounds_toArray, List.set_cons_zero, List.set_cons_succ]
      refine ⟨rfl, _, ?_, ⟨g1, g2, a1, k1, a2, k2, rfl, HO1.out, HO2.out, HB1Y4.out⟩⟩
      simp only [PutAll, Act.put, List.setIfInBounds_toArray, List.set_cons_zero, List.set_cons_succ]
  · rintro xs w3 ⟨f1, f2, a14, k14, a15, k15, rfl, ho1, ho2, hb1⟩
    simp only [PutAll, Act.put, List.setIfInBounds_toArray, List.set_cons_zero, List.set_cons_succ]
    go_wp2_with fail
    have hb := HBw1.out.trans (hb1.mono HBw1.out.size)
    exact jm_h j z B gx gy nb nw nx mx cap cap2 kx kw ky k14 k15 ao ao2 ax aw ay a14 a15 fl fh w3 HV.out ((hb.block _ (lt_of_block HJR.out)).trans HJR.out) ((hb.block _ (lt_of_block HXR.out)).trans HXR.out) ((hb.block _ (lt_of_block HYR.out)).trans HYR.out)
      HNB.out HNW.out HNX.out.1 HNX.out.2 HFL.out.1 HFL.out.2 (HBS.out.later hb.size (fun k h1 _ => hb.block k h1)).low9 (HWS.out.later hb.size (fun k h1 _ => hb.block k h1)).low9 (HXS.out.1.later hb.size (fun k h1 _ => hb.block k h1)).low9 (HXS.out.2.later hb.size (fun k h1 _ => hb.block k h1)).low9 (HYS.out.later hb.size (fun k h1 _ => hb.block k h1)).low9
      (spans_of_ownM HNB.out ho1).low9 (spans_of_ownM HNW.out ho2).low9 HTO.out (HTZ.out.below hb h1z) R (fun w' h => HRR.out w' (hb.trans (h.mono hb.size))) _ _ _ _ _ _ _ _ _ _ _ _ _ _ _ _ _ _ _ _ _ _ _ _ _ _ _ _ _ _ _ _ _ _ _ _ _ _ _ _ _ _ _ _ _ _ _ _ _ _ _ _ _ _ _ _ _ _ _ _ _ _ _ _ _ _ _ _ _ _ _ _ _ _ _ _ _ _ _ _ _ _ _ _ _ _ _ _ _ _ _ _ _ _ _ _ _ _ _ _ _
end Go.Proofs.YtbmfphiecllggaaDoor

/- JobMore, walked: the wants the other way round. -/
namespace Go.Proofs.YtbmfphiecllggaaDoor
set_option linter.unusedVariables false
set_option linter.unusedSimpArgs false
open Go.RowKit Go.Shelf
attribute [local go_sem] Oper.semAt_some
def SQM (gy B b o q : Nat) (vy vw : Value) (x1 x2 : Int) (Y : World) : Prop :=
  Y.cell? ⟨gy, 3, none⟩ = some vy ∧ Y.cell? ⟨B, 3, none⟩ = some vw ∧ Y.cell? ⟨b, o + q * 2, none⟩ = some (.int .i64 x1) ∧ Y.cell? ⟨b, o + q * 2 + 1, none⟩ = some (.int .i64 x2)
set_option maxRecDepth 100000 in
set_option maxHeartbeats 8000000 in
theorem jm_g (j z : JobD) (B gx gy nb nw nx mx cap cap2 kx kw b0 : Nat) (ao ao2 ax aw : Option Addr) (fl fh : Int) (w0 w : World) (hv : validJb j = true)
    (hB : w.heap[B]? = some (.cells #[.slice ao nb cap, .int .i64 fl, .int .i64 fh, .slice ao2 nw cap2] 28 (0, 0)))
    (hX : w.heap[gx]? = some (.cells #[.slice ax nx kx, .int .i64 fl, .int .i64 fh, .slice aw mx kw] 28 (0, 0)))
    (hY : w.heap[gy]? = some (.cells #[.slice ao nb cap, .int .i64 fl, .int .i64 fh, .slice none 0 0] 28 (0, 0)))
    (hyb : gy ≠ B) (hyx : gy ≠ gx) (hy1 : 1 < gy) (hby : b0 ≤ gy) (hb0 : Below b0 w0 w)
    (hnb : nb = j.st.bs.length) (hnw : nw = j.ws.length) (hnx : nx = z.st.bs.length) (hmx : mx = z.ws.length) (hfl : j.st.film = (fl, fh)) (hfz : z.st.film = (fl, fh))
    (hbs : SpansAt w (.slice ao nb cap) j.st.bs (fun k => k < w.heap.size ∧ k ≠ gy)) (hws : SpansAt w (.slice ao2 nw cap2) j.ws (fun k => k < w.heap.size ∧ k ≠ gy))
    (hxb : SpansAt w (.slice ax nx kx) z.st.bs (fun k => k < w.heap.size ∧ k ≠ gy)) (hxw : SpansAt w (.slice aw mx kw) z.ws (fun k => k < w.heap.size ∧ k ≠ gy))
    (hto : ToJ j z) (htz : TabZ w) (R : Ending → World → Prop) (hR : ∀ w', Below b0 w0 w' → R (.returned (.bool true)) w') (u0 u1 u2 u3 u5 u12 u44 u45 u46 u47 u48 u49 u50 u51 u52 u53 u54 u55 u56 u57 u58 u59 u60 u61 u62 u63 u64 u65 u66 u67 u68 u69 u70 u71 u72 u73 u74 u75 u76 u77 u78 u79 u80 u81 u82 u83 u84 u85 u86 u87 u88 u89 u90 u91 u92 u93 u94 u95 u96 u97 u98 u99 u100 u101 u102 u103 u104 u105 u106 u107 u108 : Value) :
    Code.wp Tryd.prog (moreM 6) (bodyPost Tryd.prog Tryd.f10 R) ⟨#[u0, u1, u2, u3, .pointer (some ⟨B, 0, none⟩), u5, undef, undef, .bool false, .int .i64 nw, .pointer (some ⟨gx, 0, none⟩), .pointer (some ⟨gy, 0, none⟩), u12, undef, undef, undef, undef, undef, undef, undef, undef, undef, undef, undef, undef, undef, undef, undef, undef, undef, undef, undef, undef, undef, undef, undef, undef, undef, undef, undef, undef, undef, undef, undef, u44, u45, u46, u47, u48, u49, u50, u51, u52, u53, u54, u55, u56, u57, u58, u59, u60, u61, u62, u63, u64, u65, u66, u67, u68, u69, u70, u71, u72, u73, u74, u75, u76, u77, u78, u79, u80, u81, u82, u83, u84, u85, u86, u87, u88, u89, u90, u91, u92, u93, u94, u95, u96, u97, u98, u99, u100, u101, u102, u103, u104, u105, u106, u107, u108, undef, undef, undef, undef, undef, undef, undef, undef, undef, undef, undef, undef, undef, undef, undef, undef, undef, undef, undef, undef, undef, undef, undef, undef, undef, undef, undef, undef, undef, undef, undef, undef, undef, undef, undef, undef, undef, undef, undef, undef, undef, undef, undef, undef, undef, undef, undef, undef, undef, undef, undef, undef, undef, undef, undef, undef, undef, undef, undef, undef, undef, undef, undef, undef, undef, undef, undef, undef, undef, undef, undef, undef, undef, undef, undef, undef, undef, undef, undef, undef, undef, undef, undef, undef, undef, undef, undef, undef, undef, undef, undef, undef, undef, undef, undef, undef, undef, undef, undef, undef, undef, undef, undef, undef, undef, undef, undef, undef, undef, undef, undef, undef, undef, undef, undef, undef, undef, undef, undef, undef, undef, undef, undef, undef, undef, undef, undef, undef, undef, undef, undef, undef, undef, undef, undef, undef, undef, undef, undef, undef, undef, undef, undef, undef, undef, undef, undef, undef, undef, undef, undef, undef, undef, undef, undef, undef, undef, undef, undef, undef, undef, undef, undef, undef, undef, undef, undef, undef, undef, undef, undef, undef, undef, undef, undef, undef, undef, undef, undef, undef, undef, undef, undef, undef, undef, undef, undef, undef, undef, undef, undef, undef, undef, undef, undef, undef, undef, undef, undef, undef, undef, undef, undef, undef, undef, undef, undef, undef, undef, undef, undef, undef, undef, undef, undef, undef, undef, undef, undef, undef, undef, undef, undef, undef, undef, undef, undef, undef, undef, undef, undef], []⟩ w := by
  conv => arg 2; whnf
  refine wp_cutM 1 (t := moreM 7) (by kernel_rfl) ?_
  simp only [cutM]
  have HV := Lib.hid hv
  have HJR := Lib.hid hB
  have HXR := Lib.hid hX
  have HYR := Lib.hid hY
  have HNB := Lib.hid hnb
  have HNW := Lib.hid hnw
  have HNX := Lib.hid (And.intro hnx hmx)
  have HFL := Lib.hid (And.intro hfl hfz)
  have HBS := Lib.hid hbs
  have HWS := Lib.hid hws
  have HXS := Lib.hid (And.intro hxb hxw)
  have HTO := Lib.hid hto
  have HTZ := Lib.hid htz
  have HRR := Lib.hid hR
  have HYY := Lib.hid (And.intro hyb hyx)
  have HB0 := Lib.hid hb0
  have hyl := lt_of_block hY
  have hnw4 : nw ≤ 4 := by rw [hnw]; exact (validJb_parts hv).2.1
  have c3 : w.cell? ⟨B, 3, none⟩ = some (.slice ao2 nw cap2) := by rw [cell_of_row _ _ _ _ _ _ hB]; rfl
  clear hv hB hX hY hyb hyx hb0 hnb hnw hnx hmx hfl hfz hbs hws hxb hxw hto htz hR
  go_wp2_with fail
  clear c3
  go_loopw [112] (fun iv wr => ∃ i : Nat, i ≤ nw ∧ iv = .int .i64 i ∧ Keeps (fun k => k = gy ∨ w.heap.size ≤ k) w wr ∧ ∃ ay ky, wr.heap[gy]? = some (.cells #[.slice ao nb cap, .int .i64 fl, .int .i64 fh, .slice ay i ky] 28 (0, 0)) ∧ wr.ownsRow w.heap.size 24 2 (.slice ay i ky) i ((j.ws.reverse.take i).flatMap spM)) (fun iv _ => nw - (intOf iv).toNat)
  case atStart => exact ⟨0, Nat.zero_le _, rfl, Keeps.refl _ _, none, 0, HYR.out, ⟨by simp, .inl ⟨rfl, by simp⟩⟩⟩
  case round =>
    obtain ⟨i, hi, rfl, hk, ay, ky, hy, ho⟩ := hrel
    have HK := Lib.hid hk
    have HYW := Lib.hid hy
    have HO := Lib.hid ho
    clear hk hy ho
    have hb6 := HK.out.block B (lt_of_block HJR.out) (fun e => by have := HYY.out.1; have := lt_of_block HJR.out; omega)
    by_cases hlt : i < nw
    · have hw : IntKind.i64.wrap ((i : Int) + 1) = ((i + 1 : Nat) : Int) := by rw [IntWalk.i64_in _ (by omega)]; omega
      have hlti : (i : Int) < (nw : Int) := by omega
      obtain ⟨q, hq⟩ : ∃ q, q = nw - 1 - i := ⟨_, rfl⟩
      have hqn : q < nw := by omega
      have hw1 : IntKind.i64.wrap ((nw : Int) - 1) = (nw : Int) - 1 := IntWalk.i64_in _ (by omega)
      have hw2 : IntKind.i64.wrap ((nw : Int) - 1 - (i : Int)) = (q : Int) := by rw [IntWalk.i64_in _ (by omega)]; omega
      have hq0 : 0 ≤ (q : Int) := by omega
      have hqi : (q : Int) < (nw : Int) := by omega
      have hws2 := HWS.out.later HK.out.size (fun k h1 h2 => HK.out.block k h1 (fun e => by rcases e with e | e; exact h2.2 e; omega))
      obtain ⟨ae, ce, e1, _, _, e2⟩ := id hws2
      obtain ⟨b6, o6, e3, hb6l, hb6w, d1, d2⟩ := e2 q (by rw [← HNW.out]; exact hqn)
      injection e1 with e1 e0 e4
      obtain ⟨⟨x1, x2⟩, hx⟩ : ∃ x, x = j.ws[q]'(by rw [← HNW.out]; exact hqn) := ⟨_, rfl⟩
      rw [← hx] at d1 d2
      have hxr : j.ws.reverse[i]'(by rw [List.length_reverse, ← HNW.out]; exact hlt) = (x1, x2) := by
        rw [hx, List.getElem_reverse]
        congr 1
        rw [← HNW.out, hq]
      have HX := Lib.hid hxr
      have hS0 : SQM gy B b6 o6 q (.slice ay i ky) (.slice ao2 nw cap2) x1 x2 wr := ⟨by rw [cell_of_row _ _ _ _ _ _ HYW.out]; rfl, by rw [cell_of_row _ _ _ _ _ _ (hb6.trans HJR.out)]; rfl, d1, d2⟩
      have HSX : Hid (∀ Y, Keeps (fun k => w.heap.size ≤ k) wr Y → SQM gy B b6 o6 q (.slice ay i ky) (.slice ao2 nw cap2) x1 x2 Y) := Lib.hid fun Y h => by
        have hws := HK.out.size
        have h1 := h.block gy (by omega) (by omega)
        have h2 := h.block B (by have := lt_of_block HJR.out; omega) (by have := lt_of_block HJR.out; omega)
        have h3 := h.block b6 hb6w (by have := hb6l.1; omega)
        exact ⟨(World.cell?_of_block (w := wr) (w' := Y) (a := ⟨gy, 3, none⟩) h1).trans hS0.1, (World.cell?_of_block (w := wr) (w' := Y) (a := ⟨B, 3, none⟩) h2).trans hS0.2.1, (World.cell?_of_block (w := wr) (w' := Y) (a := ⟨b6, o6 + q * 2, none⟩) h3).trans hS0.2.2.1, (World.cell?_of_block (w := wr) (w' := Y) (a := ⟨b6, o6 + q * 2 + 1, none⟩) h3).trans hS0.2.2.2⟩
      rw [e1, e3] at HSX
      clear hws2 e2 e0 d1 d2 hx hxr hS0 hb6 hb6l hb6w hq
      go_upto_region 13 with fail
      obtain ⟨D, hD⟩ : ∃ D, D = World.drew wr := ⟨_, rfl⟩
      have HKD : Hid (Keeps (fun k => w.heap.size ≤ k) wr D) := Lib.hid (by rw [hD]; exact ⟨rfl, rfl, rfl, Nat.le_refl _, fun _ _ _ => rfl⟩)
      have HBD : Hid (Below wr.heap.size wr D) := Lib.hid (by rw [hD]; exact (Below.refl _ _).drew)
      refine wp_region_tail 12 #[false, false, false, false, false, false, false, false, false, false, false, false, true, true] (SQM gy B b6 o6 q (.slice ay i ky) (.slice (some ⟨b6, o6, none⟩) nw cap2) x1 x2) (by kernel_rfl) (by kernel_rfl) (by rfl) (by rw [← hD]; exact HSX.out _ HKD.out) fun hS => ?_
      rw [← hD] at hS ⊢
      clear hD
      refine wpAnyH_take (i := 0) (v := ?_) rfl (by kernel_rfl) (by kernel_rfl) (by kernel_rfl) (fun _ _ _ h => h) (Or.inl ⟨by rfl, ?_⟩) hS ?_
      rotate_left
      · (intro W hSw; obtain ⟨q0, q1, q2, q3⟩ := hSw; go_simp; try with_reducible rfl)
      try simp only [List.getElem_toArray, List.getElem_cons_succ, List.getElem_cons_zero, Act.put, List.setIfInBounds_toArray, List.set_cons_zero, List.set_cons_succ]
      refine wpAnyH_take (i := 1) (v := ?_) rfl (by kernel_rfl) (by kernel_rfl) (by kernel_rfl) (fun _ _ _ h => h) (Or.inl ⟨by rfl, ?_⟩) hS ?_
      rotate_left
      · (intro W hSw; obtain ⟨q0, q1, q2, q3⟩ := hSw; go_simp; try with_reducible rfl)
      try simp only [List.getElem_toArray, List.getElem_cons_succ, List.getElem_cons_zero, Act.put, List.setIfInBounds_toArray, List.set_cons_zero, List.set_cons_succ]
      refine wpAnyH_take (i := 2) (v := ?_) rfl (by kernel_rfl) (by kernel_rfl) (by kernel_rfl) (fun _ _ _ h => h) (Or.inl ⟨by rfl, ?_⟩) hS ?_
      rotate_left
      · (intro W hSw; obtain ⟨q0, q1, q2, q3⟩ := hSw; go_simp; try with_reducible rfl)
      try simp only [List.getElem_toArray, List.getElem_cons_succ, List.getElem_cons_zero, Act.put, List.setIfInBounds_toArray, List.set_cons_zero, List.set_cons_succ]
      refine wpAnyH_take (i := 3) (v := ?_) rfl (by kernel_rfl) (by kernel_rfl) (by kernel_rfl) (fun _ _ _ h => h) (Or.inl ⟨by rfl, ?_⟩) hS ?_
      rotate_left
      · (intro W hSw; obtain ⟨q0, q1, q2, q3⟩ := hSw; go_simp; try with_reducible rfl)
      try simp only [List.getElem_toArray, List.getElem_cons_succ, List.getElem_cons_zero, Act.put, List.setIfInBounds_toArray, List.set_cons_zero, List.set_cons_succ]
      refine wpAnyH_take (i := 4) (v := ?_) rfl (by kernel_rfl) (by kernel_rfl) (by kernel_rfl) (fun _ _ _ h => h) (Or.inl ⟨by rfl, ?_⟩) hS ?_
      rotate_left
      · (intro W hSw; obtain ⟨q0, q1, q2, q3⟩ := hSw; go_simp; try with_reducible rfl)
      try simp only [List.getElem_toArray, List.getElem_cons_succ, List.getElem_cons_zero, Act.put, List.setIfInBounds_toArray, List.set_cons_zero, List.set_cons_succ]
      refine wpAnyH_take (i := 5) (v := ?_) rfl (by kernel_rfl) (by kernel_rfl) (by kernel_rfl) (fun _ _ _ h => h) (Or.inl ⟨by rfl, ?_⟩) hS ?_
      rotate_left
      · (intro W hSw; obtain ⟨q0, q1, q2, q3⟩ := hSw; go_simp; try with_reducible rfl)
      try simp only [List.getElem_toArray, List.getElem_cons_succ, List.getElem_cons_zero, Act.put, List.setIfInBounds_toArray, List.set_cons_zero, List.set_cons_succ]
      refine wpAnyH_take (i := 6) (v := ?_) rfl (by kernel_rfl) (by kernel_rfl) (by kernel_rfl) (fun _ _ _ h => h) (Or.inl ⟨by rfl, ?_⟩) hS ?_
      rotate_left
      · (intro W hSw; obtain ⟨q0, q1, q2, q3⟩ := hSw; go_simp; try with_reducible rfl)
      try simp only [List.getElem_toArray, List.getElem_cons_succ, List.getElem_cons_zero, Act.put, List.setIfInBounds_toArray, List.set_cons_zero, List.set_cons_succ]
      refine wpAnyH_take (i := 7) (v := ?_) rfl (by kernel_rfl) (by kernel_rfl) (by kernel_rfl) (fun _ _ _ h => h) (Or.inl ⟨by rfl, ?_⟩) hS ?_
      rotate_left
      · (intro W hSw; obtain ⟨q0, q1, q2, q3⟩ := hSw; go_simp; try with_reducible rfl)
      try simp only [List.getElem_toArray, List.getElem_cons_succ, List.getElem_cons_zero, Act.put, List.setIfInBounds_toArray, List.set_cons_zero, List.set_cons_succ]
      refine wpAnyH_take (i := 8) (v := ?_) rfl (by kernel_rfl) (by kernel_rfl) (by kernel_rfl) (fun _ _ _ h => h) (Or.inl ⟨by rfl, ?_⟩) hS ?_
      rotate_left
      · (intro W hSw; obtain ⟨q0, q1, q2, q3⟩ := hSw; go_simp; try with_reducible rfl)
      try simp only [List.getElem_toArray, List.getElem_cons_succ, List.getElem_cons_zero, Act.put, List.setIfInBounds_toArray, List.set_cons_zero, List.set_cons_succ]
      refine wpAnyH_take (i := 9) (v := ?_) rfl (by kernel_rfl) (by kernel_rfl) (by kernel_rfl) (fun _ _ _ h => h) (Or.inl ⟨by rfl, ?_⟩) hS ?_
      rotate_left
      · (intro W hSw; obtain ⟨q0, q1, q2, q3⟩ := hSw; go_simp; try with_reducible rfl)
      try simp only [List.getElem_toArray, List.getElem_cons_succ, List.getElem_cons_zero, Act.put, List.setIfInBounds_toArray, List.set_cons_zero, List.set_cons_succ]
      refine wpAnyH_all (rs := [10]) (by kernel_rfl) (by simp) fun i hi => ?_
      obtain rfl : i = 10 := by simpa using hi
      clear hi
      refine wpOp_of rfl (by kernel_rfl) ?_
      obtain ⟨g, hg⟩ : ∃ g, g = D.heap.size := ⟨_, rfl⟩
      refine oper_value (v := .slice (some ⟨g, 0, none⟩) 1 1) (w' := D.alloc (.cells #[.int .i64 x1, .int .i64 x2] 24)) (by rw [hg]; simp [execOp, go_sem, Act.eval, Act.put]) ?_
      have hb := Below.alloc' D (.cells #[.int .i64 x1, .int .i64 x2] 24)
      have hk2 := Keeps.alloc (fun k => w.heap.size ≤ k) D (.cells #[.int .i64 x1, .int .i64 x2] 24)
      have hc : (D.alloc (.cells #[.int .i64 x1, .int .i64 x2] 24)).heap[g]? = some (.cells #[.int .i64 x1, .int .i64 x2] 24 (0, 0)) := heap_alloc_at _ _ _ hg
      obtain ⟨Y1, hY1⟩ : ∃ W, W = D.alloc (.cells #[.int .i64 x1, .int .i64 x2] 24) := ⟨_, rfl⟩
      rw [← hY1] at hb hk2 hc ⊢
      have HK1 := Lib.hid (HKD.out.trans hk2)
      have HO1 := Lib.hid (own_below (own_below HO.out HBD.out) hb)
      have HG := Lib.hid hc
      clear hY1 hg hb hk2 hc
      refine ⟨HSX.out _ HK1.out, ?_⟩
      clear hS
      have hS := HSX.out _ HK1.out
      try simp only [List.getElem_toArray, List.getElem_cons_succ, List.getElem_cons_zero, Act.put, List.setIfInBounds_toArray, List.set_cons_zero, List.set_cons_succ]
      refine wpAnyH_all (rs := [11]) (by kernel_rfl) (by simp) fun i hi => ?_
      obtain rfl : i = 11 := by simpa using hi
      clear hi
      refine wpOp_of rfl (by kernel_rfl) ?_
      refine wp_append_here (.tmp 116) (.tmp 125) _ rfl w.heap.size 24 2 16 _ underSpansJ infoSpanM rfl (by decide) (.slice ay i ky) i _ rfl HO1.out ⟨g, 0, none⟩ 1 1 (spM (x1, x2)) rfl rfl (fun jj u hu => by
        rw [Addr.add_lit, Nat.zero_add, cell_of_row _ _ _ _ _ _ HG.out]
        simpa [spM] using hu) (fun u hu => by
        simp [spM] at hu
        rcases hu with rfl | rfl <;> rfl) (by omega) (by decide) (by have := HK.out.size; have := HK1.out.size; omega) ?_
      intro v Y2 hown hgrow _
      have htk : j.ws.reverse.take (i + 1) = j.ws.reverse.take i ++ [(x1, x2)] := by
        rw [List.take_succ_eq_append_getElem (by rw [List.length_reverse, ← HNW.out]; exact hlt), HX.out]
      have hfl2 : (j.ws.reverse.take i).flatMap spM ++ spM (x1, x2) = (j.ws.reverse.take (i + 1)).flatMap spM := by rw [htk, List.flatMap_append]; simp
      have hln : i + 1 = (j.ws.reverse.take (i + 1)).length := by rw [List.length_take, List.length_reverse, ← HNW.out]; omega
      rw [hfl2] at hown
      obtain ⟨a3, k3, hv3, _⟩ := id (spans_of_ownM hln hown)
      rw [← hln] at hv3
      subst hv3
      have HK2 := Lib.hid (HK1.out.trans ((keeps_grown hgrow).mono fun k _ e => (HO1.out.lt _ e).1))
      have HOW := Lib.hid hown
      clear hown hgrow htk hfl2 hln
      refine ⟨HSX.out _ HK2.out, ?_⟩
      clear hS
      have hS := HSX.out _ HK2.out
      try simp only [List.getElem_toArray, List.getElem_cons_succ, List.getElem_cons_zero, Act.put, List.setIfInBounds_toArray, List.set_cons_zero, List.set_cons_succ]
      refine wpAnyH_done (by kernel_rfl) ?_ _
      unfold TailQ
      simp only [List.drop_succ_cons, List.drop_zero]
      try simp only [List.getElem_toArray, List.getElem_cons_succ, List.getElem_cons_zero, Act.put, List.setIfInBounds_toArray, List.set_cons_zero, List.set_cons_succ]
      clear hS
      have HYY2 := Lib.hid ((HK2.out.block gy (by have := HK.out.size; omega) (by omega)).trans HYW.out)
      have c3 : Y2.cell? ⟨gy, 3, none⟩ = some (.slice ay i ky) := by rw [cell_of_row _ _ _ _ _ _ HYY2.out]; rfl
      have f3 : Y2.frozen? ⟨gy, 3, none⟩ = false := frozen_of_row _ _ _ _ _ HYY2.out
      go_wp2_with fail
      exact ⟨⟨i + 1, hlt, by push_cast; rfl, HK.out.trans ((HK2.out.mono fun k _ h => Or.inr h).trans (Keeps.setCell _ _ _ (Or.inl rfl))), a3, k3, cells_setM HYY2.out, ownsRow_setCell_below HOW.out (a := ⟨gy, 3, none⟩) hyl _⟩, by simp [intOf]; omega⟩
    · have hin : nw = i := by omega
      subst hin
      have hlti : ¬ (nw : Int) < (nw : Int) := by omega
      clear hlt hb6
      go_wp2_with fail
      have hk := HK.out
      have hn : ∀ k, k < w.heap.size → (k < w.heap.size ∧ k ≠ gy) → wr.heap[k]? = w.heap[k]? := fun k h1 h2 => hk.block k h1 (fun e => by rcases e with e | e; exact h2.2 e; omega)
      have hBl := lt_of_block HJR.out
      have hXl := lt_of_block HXR.out
      have htk : j.ws.reverse.take nw = j.ws.reverse := by rw [HNW.out, ← List.length_reverse]; exact List.take_length
      have ho := HO.out
      rw [htk] at ho
      exact jm_f j z B gx gy nb nw nx mx cap cap2 kx kw ky ao ao2 ax aw ay fl fh wr wr wr rfl rfl HV.out ((hn B hBl ⟨hBl, fun e => HYY.out.1 e.symm⟩).trans HJR.out) ((hn gx hXl ⟨hXl, fun e => HYY.out.2 e.symm⟩).trans HXR.out) HYW.out
        HNB.out HNW.out HNX.out.1 HNX.out.2 HFL.out.1 HFL.out.2 (HBS.out.later hk.size hn).low9 (HWS.out.later hk.size hn).low9 (HXS.out.1.later hk.size hn).low9 (HXS.out.2.later hk.size hn).low9 (spans_of_ownM (by rw [List.length_reverse]; exact HNW.out) ho).low9
        HTO.out (HTZ.out.below (hk.below (B := 2) (by omega) (fun k h e => by omega)) (by decide)) R (fun w' h => HRR.out w' (HB0.out.trans ((hk.below (B := b0) (by have := HB0.out.size; omega) (fun k h e => by omega)).trans (h.mono (by have := hk.size; omega))))) _ _ _ _ _ _ _ _ _ _ _ _ _ _ _ _ _ _ _ _ _ _ _ _ _ _ _ _ _ _ _ _ _ _ _ _ _ _ _ _ _ _ _ _ _ _ _ _ _ _ _ _ _ _ _ _ _ _ _ _ _ _ _ _ _ _ _ _ _ _ _ _ _ _ _ _ _ _ _ _ _ _ _ _ _ _ _ _ _ _ _ _
end Go.Proofs.YtbmfphiecllggaaDoor

/- JobMore, walked: a block more, or a wider want. -/
namespace Go.Proofs.YtbmfphiecllggaaDoor
set_option linter.unusedVariables false
set_option linter.unusedSimpArgs false
open Go.RowKit Go.Shelf
attribute [local go_sem] Oper.semAt_some
def RcutP (xs : (Nat → Value) → List Value) (Pw : World → Prop) (l : List Value) (Y : World) : Prop := ∃ f : Nat → Value, l = xs f ∧ Pw Y
theorem cutqP {ds : List (Option Nat)} {a a' : Act} {w : World} {Pw : World → Prop} (xs : (Nat → Value) → List Value) (h : a' = PutAll a ds (xs fun i => a'.tmps.getD i undef)) (hw : Pw w) : CutQ ds a (RcutP xs Pw) .normal a' w := ⟨rfl, _, h, _, rfl, hw⟩
def xs9 (f : Nat → Value) : List Value := [f 88, f 89, f 90, f 91, f 92, f 93, f 94, f 95, f 96, f 97, f 98, f 99, f 100, f 101, f 102, f 103, f 104, f 105, f 106, f 107, f 108]
theorem spans_setM {W : World} {g n cap k : Nat} {lo hi : Int} {l : List (Int × Int)} {t : TypeId} {row : Array Value} {Rd : Nat → Prop} (hg : W.heap[g]? = some (.cells row t (0, 0))) (hn : n = l.length) (h : SpansAt W (.slice (some ⟨g, 0, none⟩) n cap) l Rd) :
    SpansAt ((W.setCell ⟨g, k * 2, none⟩ (.int .i64 lo)).setCell ⟨g, k * 2 + 1, none⟩ (.int .i64 hi)) (.slice (some ⟨g, 0, none⟩) n cap) (l.set k (lo, hi)) Rd := by
  obtain ⟨ae, ce, e1, e2, e3, e4⟩ := h
  injection e1 with e1 e5 e6
  subst e1 e6
  have hs : ((W.setCell ⟨g, k * 2, none⟩ (.int .i64 lo)).setCell ⟨g, k * 2 + 1, none⟩ (.int .i64 hi)).heap.size = W.heap.size := by simp [World.setCell]
  have h2 := cells_setM (k := k * 2 + 1) (v := .int .i64 hi) (cells_setM (k := k * 2) (v := .int .i64 lo) hg)
  refine ⟨_, _, by rw [List.length_set, ← hn], by rw [List.length_set]; exact e2, e3, fun i hi2 => ?_⟩
  rw [List.length_set] at hi2
  obtain ⟨b, off, f1, f2, f3, f4, f5⟩ := e4 i hi2
  injection f1 with f1
  injection f1 with f1 f6 _
  subst f1 f6
  rw [cell_of_row _ _ _ _ _ _ hg, Nat.zero_add] at f4 f5
  have q4 := (Array.getElem?_eq_some_iff.1 f4).1
  have q5 := (Array.getElem?_eq_some_iff.1 f5).1
  refine ⟨g, 0, rfl, f2, by rw [hs]; exact f3, ?_, ?_⟩
  · rw [cell_of_row _ _ _ _ _ _ h2, Nat.zero_add, List.getElem_set, Array.getElem?_setIfInBounds_ne (by omega)]
    by_cases hik : k = i
    · subst hik
      rw [if_pos rfl, Array.getElem?_setIfInBounds_self_of_lt q4]
    · rw [if_neg hik, Array.getElem?_setIfInBounds_ne (by omega)]
      exact f4
  · rw [cell_of_row _ _ _ _ _ _ h2, Nat.zero_add, List.getElem_set]
    by_cases hik : k = i
    · subst hik
      rw [if_pos rfl, Array.getElem?_setIfInBounds_self_of_lt (by rw [Array.size_setIfInBounds]; exact q5)]
    · rw [if_neg hik, Array.getElem?_setIfInBounds_ne (by omega), Array.getElem?_setIfInBounds_ne (by omega)]
      exact f5
theorem spans_apartM {w : World} {base g : Nat} {e : TypeId} {v : Value} {l : List (Int × Int)} {n : Nat} (hn : n = l.length) (h : w.ownsRow base e 2 v n (l.flatMap spM)) (hne : v.ownBlock ≠ some g) : SpansAt w v l (fun k => base ≤ k ∧ k ≠ g) := by
  obtain ⟨ao, cap, e1, e2, e3, e4⟩ := spans_of_ownM hn h
  refine ⟨ao, cap, e1, e2, e3, fun i hi => ?_⟩
  obtain ⟨b, off, f1, f2, f3⟩ := e4 i hi
  exact ⟨b, off, f1, ⟨f2, fun e => hne (by rw [e1, f1, e]; rfl)⟩, f3⟩
theorem exec_maxM {o : Oper} {ev : Operand → Value} {W : World} (x y : Operand) (ho : o.op = .call { callee := .builtin .max, args := #[x, y], argTypes := #[3, 3] }) (hty : o.type = 3) (p q : Int) (hx : ev x = .int .i64 p) (hy : ev y = .int .i64 q) :
    (execOp ev o).run Tryd.prog W = .ok (.value (.int .i64 (max p q))) W := by
  unfold execOp
  simp only [ho, resolve, invoke, builtin, Sem.run_bind, Sem.run_pure, Result.andThen_ok, List.map_toArray, List.map_cons, List.map_nil, hx, hy, hty]
  have hr : (Builtin.max_ #[3, 3] 3 #[Value.int IntKind.i64 p, Value.int IntKind.i64 q]).run Tryd.prog W = .ok (.int .i64 (max p q)) W := by
    simp [Builtin.max_, Builtin.max2, go_sem]
    by_cases h : p < q
    · rw [if_pos h]; omega
    · rw [if_neg h]; omega
  rw [hr]
  rfl
theorem exec_minM {o : Oper} {ev : Operand → Value} {W : World} (x y : Operand) (ho : o.op = .call { callee := .builtin .min, args := #[x, y], argTypes := #[3, 3] }) (hty : o.type = 3) (p q : Int) (hx : ev x = .int .i64 p) (hy : ev y = .int .i64 q) :
    (execOp ev o).run Tryd.prog W = .ok (.value (.int .i64 (min p q))) W := by
  unfold execOp
  simp only [ho, resolve, invoke, builtin, Sem.run_bind, Sem.run_pure, Result.andThen_ok, List.map_toArray, List.map_cons, List.map_nil, hx, hy, hty]
  have hr : (Builtin.min_ #[3, 3] 3 #[Value.int IntKind.i64 p, Value.int IntKind.i64 q]).run Tryd.prog W = .ok (.int .i64 (min p q)) W := by
    simp [Builtin.min_, Builtin.min2, go_sem]
    by_cases h : q < p
    · rw [if_pos h]; omega
    · rw [if_neg h]; omega
  rw [hr]
  rfl
set_option maxRecDepth 100000 in
set_option maxHeartbeats 8000000 in
theorem jm_b (j : JobD) (B E gx gy nb nw cap cap2 k1 k2 b0 base : Nat) (ao ao2 a1 a2 : Option Addr) (fl fh e1 e2 x y : Int) (w0 w : World) (hv : validJb j = true) (hx : 0 ≤ x ∧ x < 256) (hy : 0 ≤ y ∧ y < 256)
    (hB : w.heap[B]? = some (.cells #[.slice ao nb cap, .int .i64 fl, .int .i64 fh, .slice ao2 nw cap2] 28 (0, 0)))
    (hX : w.heap[gx]? = some (.cells #[.slice a1 nb k1, .int .i64 fl, .int .i64 fh, .slice a2 nw k2] 28 (0, 0)))
    (hY : w.heap[gy]? = some (.cells #[.slice ao nb cap, .int .i64 fl, .int .i64 fh, .slice none 0 0] 28 (0, 0)))
    (hE : w.heap[E]? = some (.cells #[.int .i64 e1, .int .i64 e2] 24 (0, 0)))
    (hb0 : Below b0 w0 w) (h1b : 1 < b0) (hBb : B < b0) (hgx : b0 ≤ gx) (hgy : b0 ≤ gy) (hne : gy ≠ gx) (hxb : gx < base) (hyb : gy < base) (hbw : base ≤ w.heap.size)
    (ho1 : w.ownsRow base 24 2 (.slice a1 nb k1) nb (j.st.bs.flatMap spM)) (ho2 : w.ownsRow base 24 2 (.slice a2 nw k2) nw (j.ws.flatMap spM)) (hne2 : (.slice a2 nw k2 : Value).ownBlock ≠ (.slice a1 nb k1 : Value).ownBlock)
    (hnb : nb = j.st.bs.length) (hnw : nw = j.ws.length) (hfl : j.st.film = (fl, fh))
    (hbs : SpansAt w (.slice ao nb cap) j.st.bs (fun k => k < b0)) (hws : SpansAt w (.slice ao2 nw cap2) j.ws (fun k => k < b0))
    (htz : TabZ w) (R : Ending → World → Prop) (hR : ∀ w', Below b0 w0 w' → R (.returned (.bool true)) w') (u0 u1 u12 u44 u45 u46 u47 u48 u49 u50 u51 u52 u53 u54 u55 u56 u57 u58 u59 u60 u61 u62 u63 u64 u65 : Value) :
    Code.wp Tryd.prog (moreM 5) (bodyPost Tryd.prog Tryd.f10 R) ⟨#[u0, u1, .int .u8 x, .int .u8 y, .pointer (some ⟨B, 0, none⟩), .pointer (some ⟨E, 0, none⟩), undef, undef, .bool false, .int .i64 nw, .pointer (some ⟨gx, 0, none⟩), .pointer (some ⟨gy, 0, none⟩), u12, undef, undef, undef, undef, undef, undef, undef, undef, undef, undef, undef, undef, undef, undef, undef, undef, undef, undef, undef, undef, undef, undef, undef, undef, undef, undef, undef, undef, undef, undef, undef, u44, u45, u46, u47, u48, u49, u50, u51, u52, u53, u54, u55, u56, u57, u58, u59, u60, u61, u62, u63, u64, u65, undef, undef, undef, undef, undef, undef, undef, undef, undef, undef, undef, undef, undef, undef, undef, undef, undef, undef, undef, undef, undef, undef, undef, undef, undef, undef, undef, undef, undef, undef, undef, undef, undef, undef, undef, undef, undef, undef, undef, undef, undef, undef, undef, undef, undef, undef, undef, undef, undef, undef, undef, undef, undef, undef, undef, undef, undef, undef, undef, undef, undef, undef, undef, undef, undef, undef, undef, undef, undef, undef, undef, undef, undef, undef, undef, undef, undef, undef, undef, undef, undef, undef, undef, undef, undef, undef, undef, undef, undef, undef, undef, undef, undef, undef, undef, undef, undef, undef, undef, undef, undef, undef, undef, undef, undef, undef, undef, undef, undef, undef, undef, undef, undef, undef, undef, undef, undef, undef, undef, undef, undef, undef, undef, undef, undef, undef, undef, undef, undef, undef, undef, undef, undef, undef, undef, undef, undef, undef, undef, undef, undef, undef, undef, undef, undef, undef, undef, undef, undef, undef, undef, undef, undef, undef, undef, undef, undef, undef, undef, undef, undef, undef, undef, undef, undef, undef, undef, undef, undef, undef, undef, undef, undef, undef, undef, undef, undef, undef, undef, undef, undef, undef, undef, undef, undef, undef, undef, undef, undef, undef, undef, undef, undef, undef, undef, undef, undef, undef, undef, undef, undef, undef, undef, undef, undef, undef, undef, undef, undef, undef, undef, undef, undef, undef, undef, undef, undef, undef, undef, undef, undef, undef, undef, undef, undef, undef, undef, undef, undef, undef, undef, undef, undef, undef, undef, undef, undef, undef, undef, undef, undef, undef, undef, undef, undef, undef, undef, undef, undef, undef, undef, undef, undef, undef, undef, undef, undef, undef, undef, undef, undef, undef, undef, undef, undef, undef, undef, undef, undef, undef, undef, undef, undef, undef], []⟩ w := by
  conv => arg 2; whnf
  refine wp_cutM 1 (t := moreM 6) (by kernel_rfl) ?_
  simp only [cutM]
  have HV := Lib.hid hv
  have HJR := Lib.hid hB
  have HXR := Lib.hid hX
  have HYR := Lib.hid hY
  have HER := Lib.hid hE
  have HB0 := Lib.hid hb0
  have HNB := Lib.hid hnb
  have HNW := Lib.hid hnw
  have HFL := Lib.hid hfl
  have HBS := Lib.hid hbs
  have HWS := Lib.hid hws
  have HO1 := Lib.hid ho1
  have HO2 := Lib.hid ho2
  have HNE2 := Lib.hid hne2
  have HNN := Lib.hid hne
  have HTZ := Lib.hid htz
  have HRR := Lib.hid hR
  have hnw4 : nw ≤ 4 := by rw [hnw]; exact (validJb_parts hv).2.1
  have hnb8 : nb ≤ 8 := by rw [hnb]; exact (validSt_parts (validJb_parts hv).1).1
  obtain ⟨hx0, hx1⟩ := hx
  obtain ⟨hy0, hy1⟩ := hy
  have c0 : w.cell? ⟨gx, 0, none⟩ = some (.slice a1 nb k1) := by rw [cell_of_row _ _ _ _ _ _ hX]; rfl
  have c3 : w.cell? ⟨gx, 3, none⟩ = some (.slice a2 nw k2) := by rw [cell_of_row _ _ _ _ _ _ hX]; rfl
  have c4 : w.cell? ⟨E, 0, none⟩ = some (.int .i64 e1) := by rw [cell_of_row _ _ _ _ _ _ hE]; rfl
  have c5 : w.cell? ⟨E, 1, none⟩ = some (.int .i64 e2) := by rw [cell_of_row _ _ _ _ _ _ hE]; rfl
  clear hv hB hX hY hE hb0 hnb hnw hfl hbs hws ho1 ho2 hne2 hne htz hR
  by_cases hq : x % 2 = 0 ∨ nw = 0
  · have hnew : Hid (∀ jj u, (spM (e1, e2))[jj]? = some u → (w.alloc (.cells #[.int .i64 e1, .int .i64 e2] 24)).cell? ((⟨w.heap.size, 0, none⟩ : Addr).add jj) = some u) := Lib.hid fun jj u hu => by
      rw [Addr.add_lit, Nat.zero_add, cell_of_row _ _ _ _ _ _ (heap_alloc_at _ _ _ rfl)]
      simpa [spM] using hu
    have HON := Lib.hid (own_below HO1.out (Below.alloc' w (.cells #[.int .i64 e1, .int .i64 e2] 24)))
    have hcond : Hid (((x % 2 == 0) || ((nw : Int) == 0)) = true) := Lib.hid (by
      rw [Bool.or_eq_true, beq_iff_eq, beq_iff_eq]; omega)
    have hBl := lt_of_block HJR.out
    have hXl := lt_of_block HXR.out
    have hYl := lt_of_block HYR.out
    by_cases hbx : x % 2 = 0
    · clear hq hcond
      go_wp2_with (first | (
        refine wpList_plain rfl fun _ hK => wp_append_here (.tmp 75) (.tmp 77) _ rfl base 24 2 16 _ underSpansJ infoSpanM rfl (by decide) (.slice a1 nb k1) nb _ rfl HON.out ⟨w.heap.size, 0, none⟩ 1 1 (spM (e1, e2)) rfl rfl hnew.out (fun u hu => by
          simp [spM] at hu
          rcases hu with rfl | rfl <;> rfl) (by omega) (by decide) (by simp; omega) ?_
        intro v Y2 hown hgrow hob
        have hln : nb + 1 = (j.st.bs ++ [(e1, e2)]).length := by rw [List.length_append, ← HNB.out]; rfl
        have hfl2 : j.st.bs.flatMap spM ++ spM (e1, e2) = (j.st.bs ++ [(e1, e2)]).flatMap spM := by rw [List.flatMap_append]; simp
        rw [hfl2] at hown
        obtain ⟨a3, k3, hv3, _⟩ := id (spans_of_ownM hln hown)
        rw [← hln] at hv3
        subst hv3
        have hk2 : Keeps (fun k => base ≤ k) w Y2 := ((Keeps.alloc _ _ _).mono (fun k _ h => h)).trans ((keeps_grown hgrow).mono fun k _ e => (HON.out.lt _ e).1)
        have ho2' := (own_below HO2.out (Below.alloc' w (.cells #[.int .i64 e1, .int .i64 e2] 24))).kept hgrow (Or.inr HNE2.out)
        have hxr := (hk2.block gx hXl (by omega)).trans HXR.out
        have c6 : Y2.cell? ⟨gx, 0, none⟩ = some (.slice a1 nb k1) := by rw [cell_of_row _ _ _ _ _ _ hxr]; rfl
        have f6 : Y2.frozen? ⟨gx, 0, none⟩ = false := frozen_of_row _ _ _ _ _ hxr
        have HYW := Lib.hid (And.intro hown (And.intro hk2 (And.intro ho2' (And.intro hxr hln))))
        clear hown hk2 ho2' hxr hgrow hob hfl2 hln
        refine hK _ _ ?_
        clear hK))
      have hk : Keeps (fun k => k = gx ∨ base ≤ k) w (Y2.setCell ⟨gx, 0, none⟩ (.slice a3 (nb + 1) k3)) := (HYW.out.2.1.mono (fun k _ h => Or.inr h)).trans (Keeps.setCell _ _ _ (Or.inl rfl))
      have hsz2 := hk.size
      have hne := HNN.out
      exact jm_g j ⟨⟨j.st.bs ++ [(e1, e2)], j.st.film⟩, j.ws⟩ B gx gy nb nw (nb + 1) nw cap cap2 k3 k2 b0 ao ao2 a3 a2 fl fh w0 _ HV.out ((hk.block B hBl (by omega)).trans HJR.out) (cells_setM HYW.out.2.2.2.1) ((hk.block gy hYl (by omega)).trans HYR.out)
        (by omega) hne (by omega) hgy (HB0.out.trans (hk.below (by omega) (fun k h e => by omega))) HNB.out HNW.out HYW.out.2.2.2.2 HNW.out HFL.out HFL.out
        ((HBS.out.later hk.size (fun k h1 h2 => hk.block k h1 (by omega))).mono9 (fun k h1 h2 => ⟨h1, by omega⟩)) ((HWS.out.later hk.size (fun k h1 h2 => hk.block k h1 (by omega))).mono9 (fun k h1 h2 => ⟨h1, by omega⟩))
        ((spans_of_ownM HYW.out.2.2.2.2 (ownsRow_setCell_below HYW.out.1 (a := ⟨gx, 0, none⟩) hxb _)).mono9 (fun k h1 h2 => ⟨h1, by omega⟩))
        ((spans_of_ownM HNW.out (ownsRow_setCell_below HYW.out.2.2.1 (a := ⟨gx, 0, none⟩) hxb _)).mono9 (fun k h1 h2 => ⟨h1, by omega⟩))
        (more_block j (e1, e2)).to (HTZ.out.below (hk.below (B := 2) (by omega) (fun k h e => by omega)) (by decide)) R HRR.out _ _ _ _ _ _ _ _ _ _ _ _ _ _ _ _ _ _ _ _ _ _ _ _ _ _ _ _ _ _ _ _ _ _ _ _ _ _ _ _ _ _ _ _ _ _ _ _ _ _ _ _ _ _ _ _ _ _ _ _ _ _ _ _ _ _ _ _ _ _ _
    · have hnz : nw = 0 := by omega
      have hbx2 : (x % 2 == 0) = false := by rw [beq_eq_false_iff_ne]; exact hbx
      have hbn : ((nw : Int) == 0) = true := by rw [beq_iff_eq]; omega
      clear hq hcond hbx hnz
      go_wp2_with (first | (
        refine wpList_plain rfl fun _ hK => wp_append_here (.tmp 75) (.tmp 77) _ rfl base 24 2 16 _ underSpansJ infoSpanM rfl (by decide) (.slice a1 nb k1) nb _ rfl HON.out ⟨w.heap.size, 0, none⟩ 1 1 (spM (e1, e2)) rfl rfl hnew.out (fun u hu => by
          simp [spM] at hu
          rcases hu with rfl | rfl <;> rfl) (by omega) (by decide) (by simp; omega) ?_
        intro v Y2 hown hgrow hob
        have hln : nb + 1 = (j.st.bs ++ [(e1, e2)]).length := by rw [List.length_append, ← HNB.out]; rfl
        have hfl2 : j.st.bs.flatMap spM ++ spM (e1, e2) = (j.st.bs ++ [(e1, e2)]).flatMap spM := by rw [List.flatMap_append]; simp
        rw [hfl2] at hown
        obtain ⟨a3, k3, hv3, _⟩ := id (spans_of_ownM hln hown)
        rw [← hln] at hv3
        subst hv3
        have hk2 : Keeps (fun k => base ≤ k) w Y2 := ((Keeps.alloc _ _ _).mono (fun k _ h => h)).trans ((keeps_grown hgrow).mono fun k _ e => (HON.out.lt _ e).1)
        have ho2' := (own_below HO2.out (Below.alloc' w (.cells #[.int .i64 e1, .int .i64 e2] 24))).kept hgrow (Or.inr HNE2.out)
        have hxr := (hk2.block gx hXl (by omega)).trans HXR.out
        have c6 : Y2.cell? ⟨gx, 0, none⟩ = some (.slice a1 nb k1) := by rw [cell_of_row _ _ _ _ _ _ hxr]; rfl
        have f6 : Y2.frozen? ⟨gx, 0, none⟩ = false := frozen_of_row _ _ _ _ _ hxr
        have HYW := Lib.hid (And.intro hown (And.intro hk2 (And.intro ho2' (And.intro hxr hln))))
        clear hown hk2 ho2' hxr hgrow hob hfl2 hln
        refine hK _ _ ?_
        clear hK))
      have hk : Keeps (fun k => k = gx ∨ base ≤ k) w (Y2.setCell ⟨gx, 0, none⟩ (.slice a3 (nb + 1) k3)) := (HYW.out.2.1.mono (fun k _ h => Or.inr h)).trans (Keeps.setCell _ _ _ (Or.inl rfl))
      have hsz2 := hk.size
      have hne := HNN.out
      exact jm_g j ⟨⟨j.st.bs ++ [(e1, e2)], j.st.film⟩, j.ws⟩ B gx gy nb nw (nb + 1) nw cap cap2 k3 k2 b0 ao ao2 a3 a2 fl fh w0 _ HV.out ((hk.block B hBl (by omega)).trans HJR.out) (cells_setM HYW.out.2.2.2.1) ((hk.block gy hYl (by omega)).trans HYR.out)
        (by omega) hne (by omega) hgy (HB0.out.trans (hk.below (by omega) (fun k h e => by omega))) HNB.out HNW.out HYW.out.2.2.2.2 HNW.out HFL.out HFL.out
        ((HBS.out.later hk.size (fun k h1 h2 => hk.block k h1 (by omega))).mono9 (fun k h1 h2 => ⟨h1, by omega⟩)) ((HWS.out.later hk.size (fun k h1 h2 => hk.block k h1 (by omega))).mono9 (fun k h1 h2 => ⟨h1, by omega⟩))
        ((spans_of_ownM HYW.out.2.2.2.2 (ownsRow_setCell_below HYW.out.1 (a := ⟨gx, 0, none⟩) hxb _)).mono9 (fun k h1 h2 => ⟨h1, by omega⟩))
        ((spans_of_ownM HNW.out (ownsRow_setCell_below HYW.out.2.2.1 (a := ⟨gx, 0, none⟩) hxb _)).mono9 (fun k h1 h2 => ⟨h1, by omega⟩))
        (more_block j (e1, e2)).to (HTZ.out.below (hk.below (B := 2) (by omega) (fun k h e => by omega)) (by decide)) R HRR.out _ _ _ _ _ _ _ _ _ _ _ _ _ _ _ _ _ _ _ _ _ _ _ _ _ _ _ _ _ _ _ _ _ _ _ _ _ _ _ _ _ _ _ _ _ _ _ _ _ _ _ _ _ _ _ _ _ _ _ _ _ _ _ _ _ _ _ _ _ _ _
  · have hx2 : x % 2 = 1 := by omega
    have hn0 : (nw : Int) ≠ 0 := by omega
    have hbx : (x % 2 == 0) = false := by rw [beq_eq_false_iff_ne]; omega
    have hbn : ((nw : Int) == 0) = false := by rw [beq_eq_false_iff_ne]; omega
    obtain ⟨q, hyq⟩ : ∃ q : Nat, y % (nw : Int) = (q : Int) := ⟨(y % (nw : Int)).toNat, by have := Int.emod_nonneg y (b := (nw : Int)) (by omega); omega⟩
    have hqn : q < nw := by have := Int.emod_lt_of_pos y (b := (nw : Int)) (by omega); omega
    have hqi : (q : Int) < (nw : Int) := by omega
    have hq0 : 0 ≤ (q : Int) := by omega
    obtain ⟨g, ce, cur, e1', hgb, hgr, _, _, _, _⟩ := HO2.out.2.resolve_left (by rintro ⟨_, h⟩; omega)
    injection e1' with e1' e2' e3'
    subst e1' e3'
    clear e2'
    have hsp := spans_of_ownM HNW.out HO2.out
    obtain ⟨ae, ce, e4, _, _, e5⟩ := id hsp
    obtain ⟨b6, o6, e6, _, _, d1, d2⟩ := e5 q (by rw [← HNW.out]; exact hqn)
    injection e4 with e4 e8 e9
    subst e4
    clear e8 e9
    injection e6 with e6
    injection e6 with e6 e7 _
    subst e6 e7
    obtain ⟨⟨lo, hi⟩, hlh⟩ : ∃ x, x = j.ws[q]'(by rw [← HNW.out]; exact hqn) := ⟨_, rfl⟩
    rw [← hlh, Nat.zero_add] at d1 d2
    have hwo := (validJb_parts HV.out).2.2 _ (List.getElem_mem (by rw [← HNW.out]; exact hqn : q < j.ws.length))
    rw [← hlh] at hwo
    have HLH := Lib.hid (And.intro hlh hwo)
    have HSP := Lib.hid hsp
    have HGR := Lib.hid (And.intro hgr hgb)
    clear hq hx2 hn0 hgr hgb e5 hsp hlh hwo
    have hsz := lt_of_block HGR.out.1
    go_upto_region 8 with fail
    go_quiet (fail)
    go_upto_region 9 with fail
    refine wp_name (fun W => Below w.heap.size w W.drew) ⟨rfl, rfl, rfl, Nat.le_refl _, fun _ _ => rfl⟩ ?_
    rintro W8 hb8
    obtain ⟨D, hD⟩ : ∃ D, D = World.drew W8 := ⟨_, rfl⟩
    rw [← hD] at hb8
    have HBD := Lib.hid hb8
    have HGD := Lib.hid ((hb8.block _ hsz).trans HGR.out.1)
    obtain ⟨m, hm⟩ : ∃ m, y % 4 = m := ⟨_, rfl⟩
    have htm : Int.tmod y 4 = m := by rw [← hm]; exact Int.tmod_eq_emod_of_nonneg hy0
    have hwy : IntKind.i64.wrap y = y := IntWalk.i64_in _ (by omega)
    have HWW := Lib.hid (And.intro hwy htm)
    have hm0 : 0 ≤ m := by omega
    have hm4 : m < 4 := by omega
    have hwo := HLH.out.2
    unfold wantOk at hwo
    simp only [Bool.and_eq_true, decide_eq_true_eq] at hwo
    have hwl : IntKind.i64.wrap (lo - 1) = lo - 1 := IntWalk.i64_in _ (by omega)
    have hwh : IntKind.i64.wrap (hi + m) = hi + m := IntWalk.i64_in _ (by omega)
    have hCC : D.cell? ⟨g, q * 2, none⟩ = some (.int .i64 lo) ∧ D.cell? ⟨g, q * 2 + 1, none⟩ = some (.int .i64 hi) ∧ D.frozen? ⟨g, q * 2, none⟩ = false ∧ D.frozen? ⟨g, q * 2 + 1, none⟩ = false := ⟨(World.cell?_of_block (w := w) (w' := D) (a := ⟨g, q * 2, none⟩) (hb8.block g hsz)).trans d1, (World.cell?_of_block (w := w) (w' := D) (a := ⟨g, q * 2 + 1, none⟩) (hb8.block g hsz)).trans d2, frozen_of_row _ _ _ _ _ HGD.out, frozen_of_row _ _ _ _ _ HGD.out⟩
    have HC := Lib.hid hCC
    have hDD : (D.setCell ⟨g, q * 2, none⟩ (.int .i64 (max 0 (lo - 1)))).cell? ⟨g, q * 2 + 1, none⟩ = some (.int .i64 hi) ∧ (D.setCell ⟨g, q * 2, none⟩ (.int .i64 (max 0 (lo - 1)))).frozen? ⟨g, q * 2 + 1, none⟩ = false := by
      have hr := cells_setM (k := q * 2) (v := .int .i64 (max 0 (lo - 1))) HGD.out
      refine ⟨?_, frozen_of_row _ _ _ _ _ hr⟩
      have h2 := hCC.2.1
      rw [cell_of_row _ _ _ _ _ _ HGD.out] at h2
      rw [cell_of_row _ _ _ _ _ _ hr, Array.getElem?_setIfInBounds_ne (by omega)]
      exact h2
    have HD := Lib.hid hDD
    have HWO := Lib.hid hwo
    have HM4 := Lib.hid (And.intro hm0 (And.intro hm hm4))
    clear htm hwy hm hCC hDD hb8 d1 d2 hwo
    refine region_cut [some 88, some 89, some 90, some 91, some 92, some 93, some 94, some 95, some 96, some 97, some 98, some 99, some 100, some 101, some 102, some 103, some 104, some 105, some 106, some 107, some 108] (RcutP xs9 fun Y => Y = (D.setCell ⟨g, q * 2, none⟩ (.int .i64 (max 0 (lo - 1)))).setCell ⟨g, q * 2 + 1, none⟩ (.int .i64 (min 5000 (hi + m)))) ?_ ?_
    · skip
      refine wp_region_held_drew (S := fun _ => True) (by kernel_rfl) trivial fun hS => ?_
      rw [← hD]
      clear hD
      refine wpAnyH_take (i := 0) (v := ?_) rfl (by kernel_rfl) (by kernel_rfl) (by kernel_rfl) (fun _ _ _ h => nomatch h.1) (Or.inl ⟨by rfl, ?_⟩) hS ?_
      rotate_left
      · (intro W hSw; go_simp; try with_reducible rfl)
      try simp only [List.getElem_toArray, List.getElem_cons_succ, List.getElem_cons_zero, Act.put, List.setIfInBounds_toArray, List.set_cons_zero, List.set_cons_succ]
      refine wpAnyH_take (i := 1) (v := ?_) rfl (by kernel_rfl) (by kernel_rfl) (by kernel_rfl) (fun _ _ _ h => nomatch h.1) (Or.inl ⟨by rfl, ?_⟩) hS ?_
      rotate_left
      · (intro W hSw; go_simp; try with_reducible rfl)
      try simp only [List.getElem_toArray, List.getElem_cons_succ, List.getElem_cons_zero, Act.put, List.setIfInBounds_toArray, List.set_cons_zero, List.set_cons_succ]
      refine wpAnyH_take (i := 2) (v := ?_) rfl (by kernel_rfl) (by kernel_rfl) (by kernel_rfl) (fun _ _ _ h => nomatch h.1) (Or.inl ⟨by rfl, ?_⟩) hS ?_
      rotate_left
      · (intro W hSw; go_simp; try with_reducible rfl)
      try simp only [List.getElem_toArray, List.getElem_cons_succ, List.getElem_cons_zero, Act.put, List.setIfInBounds_toArray, List.set_cons_zero, List.set_cons_succ]
      refine wpAnyH_take (i := 3) (v := ?_) rfl (by kernel_rfl) (by kernel_rfl) (by kernel_rfl) (fun _ _ _ h => nomatch h.1) (Or.inl ⟨by rfl, ?_⟩) hS ?_
      rotate_left
      · (intro W hSw; go_simp; try with_reducible rfl)
      try simp only [List.getElem_toArray, List.getElem_cons_succ, List.getElem_cons_zero, Act.put, List.setIfInBounds_toArray, List.set_cons_zero, List.set_cons_succ]
      refine wpAnyH_take (i := 4) (v := ?_) rfl (by kernel_rfl) (by kernel_rfl) (by kernel_rfl) (fun _ _ _ h => nomatch h.1) (Or.inl ⟨by rfl, ?_⟩) hS ?_
      rotate_left
      · (intro W hSw; go_simp; try with_reducible rfl)
      try simp only [List.getElem_toArray, List.getElem_cons_succ, List.getElem_cons_zero, Act.put, List.setIfInBounds_toArray, List.set_cons_zero, List.set_cons_succ]
      refine wpAnyH_take (i := 8) (v := ?_) rfl (by kernel_rfl) (by kernel_rfl) (by kernel_rfl) (fun _ _ _ h => nomatch h.1) (Or.inl ⟨by rfl, ?_⟩) hS ?_
      rotate_left
      · (intro W hSw; go_simp; try with_reducible rfl)
      try simp only [List.getElem_toArray, List.getElem_cons_succ, List.getElem_cons_zero, Act.put, List.setIfInBounds_toArray, List.set_cons_zero, List.set_cons_succ]
      refine wpAnyH_take (i := 9) (v := ?_) rfl (by kernel_rfl) (by kernel_rfl) (by kernel_rfl) (fun _ _ _ h => nomatch h.1) (Or.inl ⟨by rfl, ?_⟩) hS ?_
      rotate_left
      · (intro W hSw; go_simp; try with_reducible rfl)
      try simp only [List.getElem_toArray, List.getElem_cons_succ, List.getElem_cons_zero, Act.put, List.setIfInBounds_toArray, List.set_cons_zero, List.set_cons_succ]
      refine wpAnyH_take (i := 10) (v := ?_) rfl (by kernel_rfl) (by kernel_rfl) (by kernel_rfl) (fun _ _ _ h => nomatch h.1) (Or.inl ⟨by rfl, ?_⟩) hS ?_
      rotate_left
      · (intro W hSw; go_simp; try with_reducible rfl)
      try simp only [List.getElem_toArray, List.getElem_cons_succ, List.getElem_cons_zero, Act.put, List.setIfInBounds_toArray, List.set_cons_zero, List.set_cons_succ]
      refine wpAnyH_take (i := 12) (v := ?_) rfl (by kernel_rfl) (by kernel_rfl) (by kernel_rfl) (fun _ _ _ h => nomatch h.1) (Or.inl ⟨by rfl, ?_⟩) hS ?_
      rotate_left
      · (intro W hSw; go_simp; try with_reducible rfl)
      try simp only [List.getElem_toArray, List.getElem_cons_succ, List.getElem_cons_zero, Act.put, List.setIfInBounds_toArray, List.set_cons_zero, List.set_cons_succ]
      refine wpAnyH_take (i := 13) (v := .int .i64 y) rfl (by kernel_rfl) (by kernel_rfl) (by kernel_rfl) (fun _ _ _ h => nomatch h.1) (Or.inl ⟨by rfl, ?_⟩) hS ?_
      · (intro W hSw; go_simp; try simp only [HWW.out.1, HWW.out.2])
      try simp only [List.getElem_toArray, List.getElem_cons_succ, List.getElem_cons_zero, Act.put, List.setIfInBounds_toArray, List.set_cons_zero, List.set_cons_succ]
      refine wpAnyH_take (i := 14) (v := .int .i64 m) rfl (by kernel_rfl) (by kernel_rfl) (by kernel_rfl) (fun _ _ _ h => nomatch h.1) (Or.inl ⟨by rfl, ?_⟩) hS ?_
      · (intro W hSw; go_simp; try simp only [HWW.out.1, HWW.out.2])
      try simp only [List.getElem_toArray, List.getElem_cons_succ, List.getElem_cons_zero, Act.put, List.setIfInBounds_toArray, List.set_cons_zero, List.set_cons_succ]
      refine wpAnyH_all (rs := [5, 11]) (by kernel_rfl) (by simp) fun i hi => ?_
      rcases (show i = 5 ∨ i = 11 by simpa using hi) with rfl | rfl <;> clear hi <;> refine wpOp_of rfl (by kernel_rfl) ?_
      · skip
        refine oper_value (v := .int .i64 lo) (w' := D) (by simp [execOp, go_sem, Act.eval, Act.put, HC.out.1]) ?_
        refine ⟨trivial, ?_⟩
        try simp only [List.getElem_toArray, List.getElem_cons_succ, List.getElem_cons_zero, Act.put, List.setIfInBounds_toArray, List.set_cons_zero, List.set_cons_succ]
        refine wpAnyH_take (i := 6) (v := ?_) rfl (by kernel_rfl) (by kernel_rfl) (by kernel_rfl) (fun _ _ _ h => nomatch h.1) (Or.inl ⟨by rfl, ?_⟩) hS ?_
        rotate_left
        · (intro W hSw; go_simp; try with_reducible rfl)
        try simp only [List.getElem_toArray, List.getElem_cons_succ, List.getElem_cons_zero, Act.put, List.setIfInBounds_toArray, List.set_cons_zero, List.set_cons_succ]
        refine wpAnyH_take (i := 7) (v := .int .i64 (max 0 (lo - 1))) rfl (by kernel_rfl) (by kernel_rfl) (by kernel_rfl) (fun _ _ _ h => nomatch h.1) (Or.inl ⟨by rfl, fun W _ => exec_maxM _ _ rfl rfl 0 (lo - 1) rfl rfl⟩) hS ?_
        try simp only [List.getElem_toArray, List.getElem_cons_succ, List.getElem_cons_zero, Act.put, List.setIfInBounds_toArray, List.set_cons_zero, List.set_cons_succ]
        refine wpAnyH_all (rs := [11]) (by kernel_rfl) (by simp) fun i hi => ?_
        obtain rfl : i = 11 := by simpa using hi
        clear hi
        refine wpOp_of rfl (by kernel_rfl) ?_
        refine oper_value (v := .int .i64 hi) (w' := D) (by simp [execOp, go_sem, Act.eval, Act.put, HC.out.2.1]) ?_
        refine ⟨trivial, ?_⟩
        try simp only [List.getElem_toArray, List.getElem_cons_succ, List.getElem_cons_zero, Act.put, List.setIfInBounds_toArray, List.set_cons_zero, List.set_cons_succ]
        refine wpAnyH_take (i := 15) (v := ?_) rfl (by kernel_rfl) (by kernel_rfl) (by kernel_rfl) (fun _ _ _ h => nomatch h.1) (Or.inl ⟨by rfl, ?_⟩) hS ?_
        rotate_left
        · (intro W hSw; go_simp; try with_reducible rfl)
        try simp only [List.getElem_toArray, List.getElem_cons_succ, List.getElem_cons_zero, Act.put, List.setIfInBounds_toArray, List.set_cons_zero, List.set_cons_succ]
        refine wpAnyH_take (i := 16) (v := .int .i64 (min 5000 (hi + m))) rfl (by kernel_rfl) (by kernel_rfl) (by kernel_rfl) (fun _ _ _ h => nomatch h.1) (Or.inl ⟨by rfl, fun W _ => exec_minM _ _ rfl rfl 5000 (hi + m) rfl rfl⟩) hS ?_
        try simp only [List.getElem_toArray, List.getElem_cons_succ, List.getElem_cons_zero, Act.put, List.setIfInBounds_toArray, List.set_cons_zero, List.set_cons_succ]
        refine wpAnyH_take (i := 17) (v := ?_) rfl (by kernel_rfl) (by kernel_rfl) (by kernel_rfl) (fun _ _ _ h => nomatch h.1) (Or.inl ⟨by rfl, ?_⟩) hS ?_
        rotate_left
        · (intro W hSw; go_simp; try with_reducible rfl)
        try simp only [List.getElem_toArray, List.getElem_cons_succ, List.getElem_cons_zero, Act.put, List.setIfInBounds_toArray, List.set_cons_zero, List.set_cons_succ]
        refine wpAnyH_take (i := 18) (v := ?_) rfl (by kernel_rfl) (by kernel_rfl) (by kernel_rfl) (fun _ _ _ h => nomatch h.1) (Or.inl ⟨by rfl, ?_⟩) hS ?_
        rotate_left
        · (intro W hSw; go_simp; try with_reducible rfl)
        try simp only [List.getElem_toArray, List.getElem_cons_succ, List.getElem_cons_zero, Act.put, List.setIfInBounds_toArray, List.set_cons_zero, List.set_cons_succ]
        refine wpAnyH_all (rs := [19]) (by kernel_rfl) (by simp) fun i hi => ?_
        obtain rfl : i = 19 := by simpa using hi
        clear hi
        refine wpOp_of rfl (by kernel_rfl) ?_
        refine oper_store 3 (.tmp 106) (.tmp 95) rfl (.pointer (some ⟨g, q * 2, none⟩)) (.int .i64 (max 0 (lo - 1))) rfl rfl (w' := D.setCell ⟨g, q * 2, none⟩ (.int .i64 (max 0 (lo - 1)))) (by simp [go_sem, HC.out.1, HC.out.2.2.1]) ?_
        refine ⟨trivial, ?_⟩
        try simp only [List.getElem_toArray, List.getElem_cons_succ, List.getElem_cons_zero, Act.put, List.setIfInBounds_toArray, List.set_cons_zero, List.set_cons_succ]
        refine wpAnyH_take (i := 20) (v := ?_) rfl (by kernel_rfl) (by kernel_rfl) (by kernel_rfl) (fun _ _ _ h => nomatch h.1) (Or.inl ⟨by rfl, ?_⟩) hS ?_
        rotate_left
        · (intro W hSw; go_simp; try with_reducible rfl)
        try simp only [List.getElem_toArray, List.getElem_cons_succ, List.getElem_cons_zero, Act.put, List.setIfInBounds_toArray, List.set_cons_zero, List.set_cons_succ]
        refine wpAnyH_take (i := 21) (v := ?_) rfl (by kernel_rfl) (by kernel_rfl) (by kernel_rfl) (fun _ _ _ h => nomatch h.1) (Or.inl ⟨by rfl, ?_⟩) hS ?_
        rotate_left
        · (intro W hSw; go_simp; try with_reducible rfl)
        try simp only [List.getElem_toArray, List.getElem_cons_succ, List.getElem_cons_zero, Act.put, List.setIfInBounds_toArray, List.set_cons_zero, List.set_cons_succ]
        refine wpAnyH_all (rs := [22]) (by kernel_rfl) (by simp) fun i hi => ?_
        obtain rfl : i = 22 := by simpa using hi
        clear hi
        refine wpOp_of rfl (by kernel_rfl) ?_
        refine oper_store 3 (.tmp 108) (.tmp 104) rfl (.pointer (some ⟨g, q * 2 + 1, none⟩)) (.int .i64 (min 5000 (hi + m))) rfl rfl (w' := (D.setCell ⟨g, q * 2, none⟩ (.int .i64 (max 0 (lo - 1)))).setCell ⟨g, q * 2 + 1, none⟩ (.int .i64 (min 5000 (hi + m)))) (by simp [go_sem, HD.out.1, HD.out.2]) ?_
        refine ⟨trivial, ?_⟩
        try simp only [List.getElem_toArray, List.getElem_cons_succ, List.getElem_cons_zero, Act.put, List.setIfInBounds_toArray, List.set_cons_zero, List.set_cons_succ]
        refine wpAnyH_done (by kernel_rfl) ?_ _
        try simp only [List.getElem_toArray, List.getElem_cons_succ, List.getElem_cons_zero, Act.put, List.setIfInBounds_toArray, List.set_cons_zero, List.set_cons_succ]
        exact cutqP _ (by kernel_rfl) rfl
      · skip
        refine oper_value (v := .int .i64 hi) (w' := D) (by simp [execOp, go_sem, Act.eval, Act.put, HC.out.2.1]) ?_
        refine ⟨trivial, ?_⟩
        try simp only [List.getElem_toArray, List.getElem_cons_succ, List.getElem_cons_zero, Act.put, List.setIfInBounds_toArray, List.set_cons_zero, List.set_cons_succ]
        refine wpAnyH_take (i := 15) (v := ?_) rfl (by kernel_rfl) (by kernel_rfl) (by kernel_rfl) (fun _ _ _ h => nomatch h.1) (Or.inl ⟨by rfl, ?_⟩) hS ?_
        rotate_left
        · (intro W hSw; go_simp; try with_reducible rfl)
        try simp only [List.getElem_toArray, List.getElem_cons_succ, List.getElem_cons_zero, Act.put, List.setIfInBounds_toArray, List.set_cons_zero, List.set_cons_succ]
        refine wpAnyH_take (i := 16) (v := .int .i64 (min 5000 (hi + m))) rfl (by kernel_rfl) (by kernel_rfl) (by kernel_rfl) (fun _ _ _ h => nomatch h.1) (Or.inl ⟨by rfl, fun W _ => exec_minM _ _ rfl rfl 5000 (hi + m) rfl rfl⟩) hS ?_
        try simp only [List.getElem_toArray, List.getElem_cons_succ, List.getElem_cons_zero, Act.put, List.setIfInBounds_toArray, List.set_cons_zero, List.set_cons_succ]
        refine wpAnyH_all (rs := [5]) (by kernel_rfl) (by simp) fun i hi => ?_
        obtain rfl : i = 5 := by simpa using hi
        clear hi
        refine wpOp_of rfl (by kernel_rfl) ?_
        refine oper_value (v := .int .i64 lo) (w' := D) (by simp [execOp, go_sem, Act.eval, Act.put, HC.out.1]) ?_
        refine ⟨trivial, ?_⟩
        try simp only [List.getElem_toArray, List.getElem_cons_succ, List.getElem_cons_zero, Act.put, List.setIfInBounds_toArray, List.set_cons_zero, List.set_cons_succ]
        refine wpAnyH_take (i := 6) (v := ?_) rfl (by kernel_rfl) (by kernel_rfl) (by kernel_rfl) (fun _ _ _ h => nomatch h.1) (Or.inl ⟨by rfl, ?_⟩) hS ?_
        rotate_left
        · (intro W hSw; go_simp; try with_reducible rfl)
        try simp only [List.getElem_toArray, List.getElem_cons_succ, List.getElem_cons_zero, Act.put, List.setIfInBounds_toArray, List.set_cons_zero, List.set_cons_succ]
        refine wpAnyH_take (i := 7) (v := .int .i64 (max 0 (lo - 1))) rfl (by kernel_rfl) (by kernel_rfl) (by kernel_rfl) (fun _ _ _ h => nomatch h.1) (Or.inl ⟨by rfl, fun W _ => exec_maxM _ _ rfl rfl 0 (lo - 1) rfl rfl⟩) hS ?_
        try simp only [List.getElem_toArray, List.getElem_cons_succ, List.getElem_cons_zero, Act.put, List.setIfInBounds_toArray, List.set_cons_zero, List.set_cons_succ]
        refine wpAnyH_take (i := 17) (v := ?_) rfl (by kernel_rfl) (by kernel_rfl) (by kernel_rfl) (fun _ _ _ h => nomatch h.1) (Or.inl ⟨by rfl, ?_⟩) hS ?_
        rotate_left
        · (intro W hSw; go_simp; try with_reducible rfl)
        try simp only [List.getElem_toArray, List.getElem_cons_succ, List.getElem_cons_zero, Act.put, List.setIfInBounds_toArray, List.set_cons_zero, List.set_cons_succ]
        refine wpAnyH_take (i := 18) (v := ?_) rfl (by kernel_rfl) (by kernel_rfl) (by kernel_rfl) (fun _ _ _ h => nomatch h.1) (Or.inl ⟨by rfl, ?_⟩) hS ?_
        rotate_left
        · (intro W hSw; go_simp; try with_reducible rfl)
        try simp only [List.getElem_toArray, List.getElem_cons_succ, List.getElem_cons_zero, Act.put, List.setIfInBounds_toArray, List.set_cons_zero, List.set_cons_succ]
        refine wpAnyH_all (rs := [19]) (by kernel_rfl) (by simp) fun i hi => ?_
        obtain rfl : i = 19 := by simpa using hi
        clear hi
        refine wpOp_of rfl (by kernel_rfl) ?_
        refine oper_store 3 (.tmp 106) (.tmp 95) rfl (.pointer (some ⟨g, q * 2, none⟩)) (.int .i64 (max 0 (lo - 1))) rfl rfl (w' := D.setCell ⟨g, q * 2, none⟩ (.int .i64 (max 0 (lo - 1)))) (by simp [go_sem, HC.out.1, HC.out.2.2.1]) ?_
        refine ⟨trivial, ?_⟩
        try simp only [List.getElem_toArray, List.getElem_cons_succ, List.getElem_cons_zero, Act.put, List.setIfInBounds_toArray, List.set_cons_zero, List.set_cons_succ]
        refine wpAnyH_take (i := 20) (v := ?_) rfl (by kernel_rfl) (by kernel_rfl) (by kernel_rfl) (fun _ _ _ h => nomatch h.1) (Or.inl ⟨by rfl, ?_⟩) hS ?_
        rotate_left
        · (intro W hSw; go_simp; try with_reducible rfl)
        try simp only [List.getElem_toArray, List.getElem_cons_succ, List.getElem_cons_zero, Act.put, List.setIfInBounds_toArray, List.set_cons_zero, List.set_cons_succ]
        refine wpAnyH_take (i := 21) (v := ?_) rfl (by kernel_rfl) (by kernel_rfl) (by kernel_rfl) (fun _ _ _ h => nomatch h.1) (Or.inl ⟨by rfl, ?_⟩) hS ?_
        rotate_left
        · (intro W hSw; go_simp; try with_reducible rfl)
        try simp only [List.getElem_toArray, List.getElem_cons_succ, List.getElem_cons_zero, Act.put, List.setIfInBounds_toArray, List.set_cons_zero, List.set_cons_succ]
        refine wpAnyH_all (rs := [22]) (by kernel_rfl) (by simp) fun i hi => ?_
        obtain rfl : i = 22 := by simpa using hi
        clear hi
        refine wpOp_of rfl (by kernel_rfl) ?_
        refine oper_store 3 (.tmp 108) (.tmp 104) rfl (.pointer (some ⟨g, q * 2 + 1, none⟩)) (.int .i64 (min 5000 (hi + m))) rfl rfl (w' := (D.setCell ⟨g, q * 2, none⟩ (.int .i64 (max 0 (lo - 1)))).setCell ⟨g, q * 2 + 1, none⟩ (.int .i64 (min 5000 (hi + m)))) (by simp [go_sem, HD.out.1, HD.out.2]) ?_
        refine ⟨trivial, ?_⟩
        try simp only [List.getElem_toArray, List.getElem_cons_succ, List.getElem_cons_zero, Act.put, List.setIfInBounds_toArray, List.set_cons_zero, List.set_cons_succ]
        refine wpAnyH_done (by kernel_rfl) ?_ _
        try simp only [List.getElem_toArray, List.getElem_cons_succ, List.getElem_cons_zero, Act.put, List.setIfInBounds_toArray, List.set_cons_zero, List.set_cons_succ]
        exact cutqP _ (by kernel_rfl) rfl
    · clear hD
      rintro xs W9 ⟨f, rfl, rfl⟩
      unfold xs9
      simp only [PutAll, Act.put, List.setIfInBounds_toArray, List.set_cons_zero, List.set_cons_succ]
      go_wp2_with fail
      have hkD : Keeps (fun k => base ≤ k) w D := Keeps.of_below HBD.out (fun k h1 h2 => absurd h2 (by omega))
      have hk : Keeps (fun k => base ≤ k) w ((D.setCell ⟨g, q * 2, none⟩ (.int .i64 (max 0 (lo - 1)))).setCell ⟨g, q * 2 + 1, none⟩ (.int .i64 (min 5000 (hi + m)))) := (hkD.trans (Keeps.setCell _ _ _ HGR.out.2)).trans (Keeps.setCell _ _ _ HGR.out.2)
      have hkg : Keeps (fun k => k = g) w ((D.setCell ⟨g, q * 2, none⟩ (.int .i64 (max 0 (lo - 1)))).setCell ⟨g, q * 2 + 1, none⟩ (.int .i64 (min 5000 (hi + m)))) := ((Keeps.of_below HBD.out (fun k h1 h2 => absurd h2 (by omega))).trans (Keeps.setCell (Mut := fun k => k = g) _ _ _ rfl)).trans (Keeps.setCell (Mut := fun k => k = g) _ _ _ rfl)
      have hBl := lt_of_block HJR.out
      have hXl := lt_of_block HXR.out
      have hYl := lt_of_block HYR.out
      have hsz2 := hk.size
      have hwo := HWO.out
      exact jm_g j ⟨j.st, j.ws.set q (max 0 (lo - 1), min 5000 (hi + m))⟩ B gx gy nb nw nb nw cap cap2 k1 k2 b0 ao ao2 a1 (some ⟨g, 0, none⟩) fl fh w0 _ HV.out ((hk.block B hBl (by omega)).trans HJR.out) ((hk.block gx hXl (by omega)).trans HXR.out) ((hk.block gy hYl (by omega)).trans HYR.out)
        (by omega) HNN.out (by omega) hgy (HB0.out.trans (hk.below (by omega) (fun k h e => by omega))) HNB.out HNW.out HNB.out (by rw [List.length_set]; exact HNW.out) HFL.out HFL.out
        ((HBS.out.later hk.size (fun k h1 h2 => hk.block k h1 (by omega))).mono9 (fun k h1 h2 => ⟨h1, by omega⟩)) ((HWS.out.later hk.size (fun k h1 h2 => hk.block k h1 (by omega))).mono9 (fun k h1 h2 => ⟨h1, by omega⟩))
        (((spans_apartM HNB.out HO1.out (fun e => HNE2.out e.symm)).later hkg.size (fun k h1 h2 => hkg.block k h1 h2.2)).mono9 (fun k h1 h2 => ⟨h1, by omega⟩))
        ((spans_setM HGD.out HNW.out (HSP.out.later hkD.size (fun k h1 h2 => HBD.out.block k h1))).mono9 (fun k h1 h2 => ⟨h1, by omega⟩))
        (more_want j q (by rw [← HNW.out]; exact hqn) _ _ (by rw [← HLH.out.1]; dsimp only; omega) (by rw [← HLH.out.1]; have := HM4.out.1; dsimp only; omega)).to (HTZ.out.below (hk.below (B := 2) (by omega) (fun k h e => by omega)) (by decide)) R HRR.out _ _ _ _ _ _ _ _ _ _ _ _ _ _ _ _ _ _ _ _ _ _ _ _ _ _ _ _ _ _ _ _ _ _ _ _ _ _ _ _ _ _ _ _ _ _ _ _ _ _ _ _ _ _ _ _ _ _ _ _ _ _ _ _ _ _ _ _ _ _ _
end Go.Proofs.YtbmfphiecllggaaDoor
