/- Texts Fg, Fh in one file; each begins with a word on what it proves. -/
import Derived.Test.YtagjepclobobjaaVm
import Derived.Test.YtagjepclobobjaaVa

/- LotNames: the walk. -/
namespace Go.Proofs.Ytagjepclobobjaa
set_option linter.unusedVariables false
set_option linter.unusedSimpArgs false
open Go.RowKit Go.Shelf
attribute [local go_sem] Oper.semAt_some

def nameT : List (Int × Int × Bool × Int) := [(1, 0, true, 22), (0, 0, false, 30), (3, 3, false, 0), (2, 0, true, 22)]
theorem n_sells : ∀ i, i < 4 → sellsD sampleL (i : Nat) = ((nameT.getD i (0, 0, false, 0)).1, 0) := by
  have h : ((List.range 4).all fun i => decide (sellsD sampleL (i : Nat) = ((nameT.getD i (0, 0, false, 0)).1, 0))) = true := by kernel_rfl
  intro i hi
  simpa using List.all_eq_true.1 h i (List.mem_range.2 hi)
theorem n_best : ∀ i, i < 4 → bestD sampleL (i : Nat) = ((nameT.getD i (0, 0, false, 0)).2.1, (nameT.getD i (0, 0, false, 0)).2.2.1, (nameT.getD i (0, 0, false, 0)).2.2.2, 0) := by
  have h : ((List.range 4).all fun i => decide (bestD sampleL (i : Nat) = ((nameT.getD i (0, 0, false, 0)).2.1, (nameT.getD i (0, 0, false, 0)).2.2.1, (nameT.getD i (0, 0, false, 0)).2.2.2, 0))) = true := by kernel_rfl
  intro i hi
  simpa using List.all_eq_true.1 h i (List.mem_range.2 hi)
theorem n_worth1 : worthD sampleL 1 = ((30, 30), 0) := by kernel_rfl
theorem n_worth2 : worthD sampleL 2 = ((0, 0), 0) := by kernel_rfl
theorem n_check1 : checkL sampleL [(0, 1, 20), (1, 0, 30)] = (0, 0, 4) := by kernel_rfl
theorem n_check2 : checkL sampleL [(3, 2, 6)] = (0, 3, 0) := by kernel_rfl
theorem n_check3 : checkL sampleL [(1, 1, 20), (1, 0, 30)] = (1, 1, 0) := by kernel_rfl
theorem n_sum : sumD sampleL [(0, 0, 30)] = (0, 11) := by kernel_rfl
def nameC (x : Int × Int × Bool × Int) : List Value := [.int .i64 x.1, .int .i64 x.2.1, .bool x.2.2.1, .int .i64 x.2.2.2]
section
variable {p : PartsL} {w : World} (h : LotAt sampleL p (fun k => k < w.heap.size) w)
include h
theorem nm_sells (i : Nat) (hi : i < 4) : Calls Try.prog 9 #[lotV sampleL p, .int .i64 (i : Int)] w fun e w' => e = .returned (.tuple #[.int .i64 (nameT.getD i (0, 0, false, 0)).1, .int .i64 0]) ∧ Below w.heap.size w w' := by
  have := lSells_any sampleL p i w h s_small; rw [n_sells i hi] at this; exact this
theorem nm_best (i : Nat) (hi : i < 4) : Calls Try.prog 11 #[lotV sampleL p, .int .i64 (i : Int)] w fun e w' => e = .returned (.tuple #[.int .i64 (nameT.getD i (0, 0, false, 0)).2.1, .bool (nameT.getD i (0, 0, false, 0)).2.2.1, .int .i64 (nameT.getD i (0, 0, false, 0)).2.2.2, .int .i64 0]) ∧ Below w.heap.size w w' := by
  have := lBest_any sampleL p i w h s_small; rw [n_best i hi] at this; exact this
theorem nm_worth1 : Calls Try.prog 12 #[lotV sampleL p, .int .i64 1] w fun e w' => e = .returned (.tuple #[.agg #[.int .i64 30, .int .i64 30], .int .i64 0]) ∧ Below w.heap.size w w' := by
  have := lWorth_any sampleL p 1 w h s_small; rw [n_worth1] at this; exact this
theorem nm_worth2 : Calls Try.prog 12 #[lotV sampleL p, .int .i64 2] w fun e w' => e = .returned (.tuple #[.agg #[.int .i64 0, .int .i64 0], .int .i64 0]) ∧ Below w.heap.size w w' := by
  have := lWorth_any sampleL p 2 w h s_small; rw [n_worth2] at this; exact this
variable {ev : Value}
theorem nm_check1 (he : EntsAt w ev (entF [0, 1, 20, 1, 0, 30]) (fun k => k < w.heap.size)) : Calls Try.prog 13 #[lotV sampleL p, ev] w fun e w' => e = .returned (.tuple #[.int .i64 0, .int .i64 0, .int .i64 4]) ∧ Below w.heap.size w w' := by
  have := lCheck_any sampleL p _ ev w h he (by decide) s_small; rw [show entF [0, 1, 20, 1, 0, 30] = [(0, 1, 20), (1, 0, 30)] from rfl, n_check1] at this; exact this
theorem nm_check2 (he : EntsAt w ev (entF [3, 2, 6]) (fun k => k < w.heap.size)) : Calls Try.prog 13 #[lotV sampleL p, ev] w fun e w' => e = .returned (.tuple #[.int .i64 0, .int .i64 3, .int .i64 0]) ∧ Below w.heap.size w w' := by
  have := lCheck_any sampleL p _ ev w h he (by decide) s_small; rw [show entF [3, 2, 6] = [(3, 2, 6)] from rfl, n_check2] at this; exact this
theorem nm_check3 (he : EntsAt w ev (entF [1, 1, 20, 1, 0, 30]) (fun k => k < w.heap.size)) : Calls Try.prog 13 #[lotV sampleL p, ev] w fun e w' => e = .returned (.tuple #[.int .i64 1, .int .i64 1, .int .i64 0]) ∧ Below w.heap.size w w' := by
  have := lCheck_any sampleL p _ ev w h he (by decide) s_small; rw [show entF [1, 1, 20, 1, 0, 30] = [(1, 1, 20), (1, 0, 30)] from rfl, n_check3] at this; exact this
theorem nm_sum (he : EntsAt w ev (entF [0, 0, 30]) (fun k => k < w.heap.size)) : Calls Try.prog 15 #[lotV sampleL p, ev] w fun e w' => e = .returned (.tuple #[.int .i64 0, .int .i64 11]) ∧ Below w.heap.size w w' := by
  have := lSum_any sampleL p _ ev w h he (by decide) s_small; rw [show entF [0, 0, 30] = [(0, 0, 30)] from rfl, n_sum] at this; exact this
end
set_option maxRecDepth 100000 in
set_option maxHeartbeats 8000000 in
theorem names13_any (w : World) : Calls Try.prog 3 #[] w fun e w' => e = .returned (.bool true) ∧ Below w.heap.size w w' := by
  go_enter Try.func3, Try.ntmps3
  go_wp2_with fail
  obtain ⟨t, W0, hW0, hrow0⟩ : ∃ (t : TypeId) (W : World), W = w.alloc (.cells (nameT.flatMap nameC).toArray t) ∧ W.heap[w.heap.size]? = some (.cells (nameT.flatMap nameC).toArray t (0, 0)) := ⟨Try.f3.ntmps - 152, _, rfl, heap_alloc_at _ _ _ rfl⟩
  refine wp_name (fun W => ∃ t, W.heap[w.heap.size]? = some (.cells (nameT.flatMap nameC).toArray t (0, 0)) ∧ Below w.heap.size w W) ⟨_, heap_alloc_at _ _ _ rfl, below_allocG _ _⟩ ?_
  clear hrow0 hW0 W0 t
  rintro W0 ⟨t, hrow, hb0⟩
  have HI0 := Lib.hid (And.intro hrow hb0)
  clear hrow hb0
  go_loopw [30] (fun iv wr => ∃ i : Nat, i ≤ 4 ∧ iv = .int .i64 i ∧ wr.heap[w.heap.size]? = some (.cells (nameT.flatMap nameC).toArray t (0, 0)) ∧ BoxL [] w wr) (fun iv _ => 4 - (intOf iv).toNat)
  case atStart => exact ⟨0, Nat.zero_le _, rfl, HI0.out.1, ⟨by simp, HI0.out.2⟩⟩
  case round =>
    obtain ⟨i, hi, rfl, hrow, hb⟩ := hrel
    have HROW := Lib.hid hrow
    have HB := Lib.hid hb
    have HBR := Lib.hid hb
    clear hrow hb HI0
    by_cases hlt : i < 4
    · have hlti : (i : Int) < 4 := by omega
      have hw : IntKind.i64.wrap ((i : Int) + 1) = ((i + 1 : Nat) : Int) := by rw [IntWalk.i64_in _ (by omega)]; omega
      obtain ⟨a, b, c, d, hx, k0, k1, k2, k3⟩ : ∃ (a b : Int) (c : Bool) (d : Int), nameT.getD i (0, 0, false, 0) = (a, b, c, d) ∧ wr.cell? ⟨w.heap.size, i * 4, none⟩ = some (.int .i64 a) ∧ wr.cell? ⟨w.heap.size, i * 4 + 1, none⟩ = some (.int .i64 b) ∧ wr.cell? ⟨w.heap.size, i * 4 + 2, none⟩ = some (.bool c) ∧ wr.cell? ⟨w.heap.size, i * 4 + 3, none⟩ = some (.int .i64 d) := by
        rw [cell_of_row _ _ _ _ _ _ HROW.out, cell_of_row _ _ _ _ _ _ HROW.out, cell_of_row _ _ _ _ _ _ HROW.out, cell_of_row _ _ _ _ _ _ HROW.out]
        rcases (show i = 0 ∨ i = 1 ∨ i = 2 ∨ i = 3 by omega) with rfl | rfl | rfl | rfl <;> exact ⟨_, _, _, _, rfl, rfl, rfl, rfl, rfl⟩
      have hns := fun p W h => nm_sells (p := p) (w := W) h i hlt
      have hnb := fun p W h => nm_best (p := p) (w := W) h i hlt
      rw [hx] at hns hnb
      have HNS := Lib.hid hns
      have HNB := Lib.hid hnb
      clear hns hnb hx
      go_wp2_with fail
      obtain ⟨W1, hW1⟩ : ∃ W, W = wr.alloc (.cells #[.int .i64 a, .int .i64 b, .bool c, .int .i64 d] 22) := ⟨_, rfl⟩
      rw [← hW1]
      have HX := Lib.hid (show W1.heap[wr.heap.size]? = some (.cells #[.int .i64 a, .int .i64 b, .bool c, .int .i64 d] 22 (0, 0)) by rw [hW1]; exact heap_alloc_at _ _ _ rfl)
      replace HB := Lib.hid (HB.out.later (show Below wr.heap.size wr W1 by rw [hW1]; exact below_allocG _ _))
      have HK := Lib.hid (show Below wr.heap.size wr W1 by rw [hW1]; exact below_allocG _ _)
      clear hW1 k0 k1 k2 k3
      refine (sample13_any _).mono ?_
      rintro e W2 ⟨sp2, rfl, hl, hb⟩
      have HL := Lib.hid hl.low
      replace HK := Lib.hid (HK.out.trans (hb.mono HK.out.size))
      replace HX := Lib.hid ((hb.block _ (lt_of_block HX.out)).trans HX.out)
      clear hl hb
      dsimp only
      go_wp2_with fail
      refine (HNS.out _ _ HL.out).mono ?_
      rintro e W3 ⟨rfl, hb⟩
      replace HK := Lib.hid (HK.out.trans (hb.mono HK.out.size))
      replace HX := Lib.hid ((hb.block _ (lt_of_block HX.out)).trans HX.out)
      clear hb HL
      dsimp only
      go_wp2_with fail
      refine (sample13_any _).mono ?_
      rintro e W4 ⟨sp4, rfl, hl, hb⟩
      have HL := Lib.hid hl.low
      replace HK := Lib.hid (HK.out.trans (hb.mono HK.out.size))
      replace HX := Lib.hid ((hb.block _ (lt_of_block HX.out)).trans HX.out)
      clear hl hb
      dsimp only
      go_wp2_with fail
      refine (HNB.out _ _ HL.out).mono ?_
      rintro e W5 ⟨rfl, hb⟩
      replace HK := Lib.hid (HK.out.trans (hb.mono HK.out.size))
      have c0 : W5.cell? ⟨wr.heap.size, 0, none⟩ = some (.int .i64 a) := by rw [cell_of_row _ _ _ _ _ _ ((hb.block _ (lt_of_block HX.out)).trans HX.out)]; rfl
      have c1 : W5.cell? ⟨wr.heap.size, 1, none⟩ = some (.int .i64 b) := by rw [cell_of_row _ _ _ _ _ _ ((hb.block _ (lt_of_block HX.out)).trans HX.out)]; rfl
      have c2 : W5.cell? ⟨wr.heap.size, 2, none⟩ = some (.bool c) := by rw [cell_of_row _ _ _ _ _ _ ((hb.block _ (lt_of_block HX.out)).trans HX.out)]; rfl
      have c3 : W5.cell? ⟨wr.heap.size, 3, none⟩ = some (.int .i64 d) := by rw [cell_of_row _ _ _ _ _ _ ((hb.block _ (lt_of_block HX.out)).trans HX.out)]; rfl
      clear hb HL
      dsimp only
      go_wp2
      refine ⟨⟨i + 1, hlt, rfl, (HK.out.block _ (lt_of_block HROW.out)).trans HROW.out, HBR.out.later HK.out⟩, by simp [intOf]; omega⟩
    · obtain rfl : i = 4 := by omega
      have hlti : ¬ ((4 : Nat) : Int) < 4 := by omega
      clear HROW
      go_wp2_with fail
      refine (sample13_any _).mono ?_
      rintro e w1 ⟨spw1, rfl, hl, hb⟩
      have HL := Lib.hid hl.low
      replace HB := Lib.hid (HB.out.later hb)
      try replace HX := Lib.hid ((hb.block _ (lt_of_block HX.out)).trans HX.out)
      clear hl hb
      dsimp only
      go_wp2_with fail
      refine (nm_worth1 HL.out).mono ?_
      rintro e w2 ⟨rfl, hb⟩
      replace HB := Lib.hid (HB.out.later hb)
      try replace HX := Lib.hid ((hb.block _ (lt_of_block HX.out)).trans HX.out)
      clear hb HL
      dsimp only
      go_wp2_with fail
      replace HB := Lib.hid (HB.out.alloc (30) (30))
      obtain ⟨A, hA⟩ : ∃ A, A = w2.alloc (.cells #[.int .i64 (30), .int .i64 (30)] 37) := ⟨_, rfl⟩
      rw [← hA] at HB
      go_wp2_with fail
      rw [← hA]
      clear hA
      refine (sample13_any _).mono ?_
      rintro e w3 ⟨spw3, rfl, hl, hb⟩
      have HL := Lib.hid hl.low
      replace HB := Lib.hid (HB.out.later hb)
      try replace HX := Lib.hid ((hb.block _ (lt_of_block HX.out)).trans HX.out)
      clear hl hb
      dsimp only
      go_wp2_with fail
      refine (nm_worth2 HL.out).mono ?_
      rintro e w4 ⟨rfl, hb⟩
      replace HB := Lib.hid (HB.out.later hb)
      try replace HX := Lib.hid ((hb.block _ (lt_of_block HX.out)).trans HX.out)
      clear hb HL
      dsimp only
      go_wp2_with fail
      replace HB := Lib.hid (HB.out.alloc (0) (0))
      obtain ⟨B, hA⟩ : ∃ A, A = w4.alloc (.cells #[.int .i64 (0), .int .i64 (0)] 37) := ⟨_, rfl⟩
      rw [← hA] at HB
      go_wp2_with fail
      rw [← hA]
      clear hA
      refine (sample13_any _).mono ?_
      rintro e w5 ⟨spw5, rfl, hl, hb⟩
      have HL := Lib.hid hl.low
      replace HB := Lib.hid (HB.out.later hb)
      try replace HX := Lib.hid ((hb.block _ (lt_of_block HX.out)).trans HX.out)
      clear hl hb
      dsimp only
      go_wp2_with fail
      refine (ents13 [0, 1, 20, 1, 0, 30] _ _ rfl (by decide) 6 rfl).mono ?_
      rintro e w6 ⟨evw6, rfl, hents, hb⟩
      have HE := Lib.hid hents
      replace HB := Lib.hid (HB.out.later hb)
      replace HL := Lib.hid (HL.out.bel hb)
      clear hents hb
      dsimp only
      go_wp2_with fail
      refine (nm_check1 HL.out HE.out).mono ?_
      rintro e w7 ⟨rfl, hb⟩
      replace HB := Lib.hid (HB.out.later hb)
      try replace HX := Lib.hid ((hb.block _ (lt_of_block HX.out)).trans HX.out)
      clear hb HL
      dsimp only
      clear HE
      go_wp2_with fail
      refine (sample13_any _).mono ?_
      rintro e w8 ⟨spw8, rfl, hl, hb⟩
      have HL := Lib.hid hl.low
      replace HB := Lib.hid (HB.out.later hb)
      try replace HX := Lib.hid ((hb.block _ (lt_of_block HX.out)).trans HX.out)
      clear hl hb
      dsimp only
      go_wp2_with fail
      refine (ents13 [3, 2, 6] _ _ rfl (by decide) 3 rfl).mono ?_
      rintro e w9 ⟨evw9, rfl, hents, hb⟩
      have HE := Lib.hid hents
      replace HB := Lib.hid (HB.out.later hb)
      replace HL := Lib.hid (HL.out.bel hb)
      clear hents hb
      dsimp only
      go_wp2_with fail
      refine (nm_check2 HL.out HE.out).mono ?_
      rintro e w10 ⟨rfl, hb⟩
      replace HB := Lib.hid (HB.out.later hb)
      try replace HX := Lib.hid ((hb.block _ (lt_of_block HX.out)).trans HX.out)
      clear hb HL
      dsimp only
      clear HE
      go_wp2_with fail
      refine (sample13_any _).mono ?_
      rintro e w11 ⟨spw11, rfl, hl, hb⟩
      have HL := Lib.hid hl.low
      replace HB := Lib.hid (HB.out.later hb)
      try replace HX := Lib.hid ((hb.block _ (lt_of_block HX.out)).trans HX.out)
      clear hl hb
      dsimp only
      go_wp2_with fail
      refine (ents13 [1, 1, 20, 1, 0, 30] _ _ rfl (by decide) 6 rfl).mono ?_
      rintro e w12 ⟨evw12, rfl, hents, hb⟩
      have HE := Lib.hid hents
      replace HB := Lib.hid (HB.out.later hb)
      replace HL := Lib.hid (HL.out.bel hb)
      clear hents hb
      dsimp only
      go_wp2_with fail
      refine (nm_check3 HL.out HE.out).mono ?_
      rintro e w13 ⟨rfl, hb⟩
      replace HB := Lib.hid (HB.out.later hb)
      try replace HX := Lib.hid ((hb.block _ (lt_of_block HX.out)).trans HX.out)
      clear hb HL
      dsimp only
      clear HE
      go_wp2_with fail
      refine (sample13_any _).mono ?_
      rintro e w14 ⟨spw14, rfl, hl, hb⟩
      have HL := Lib.hid hl.low
      replace HB := Lib.hid (HB.out.later hb)
      try replace HX := Lib.hid ((hb.block _ (lt_of_block HX.out)).trans HX.out)
      clear hl hb
      dsimp only
      go_wp2_with fail
      refine (ents13 [0, 0, 30] _ _ rfl (by decide) 3 rfl).mono ?_
      rintro e w15 ⟨evw15, rfl, hents, hb⟩
      have HE := Lib.hid hents
      replace HB := Lib.hid (HB.out.later hb)
      replace HL := Lib.hid (HL.out.bel hb)
      clear hents hb
      dsimp only
      go_wp2_with fail
      refine (nm_sum HL.out HE.out).mono ?_
      rintro e w16 ⟨rfl, hb⟩
      replace HB := Lib.hid (HB.out.later hb)
      try replace HX := Lib.hid ((hb.block _ (lt_of_block HX.out)).trans HX.out)
      clear hb HL
      dsimp only
      clear HE
      go_wp2_with fail
      have s0 : BoxL [(w2.heap.size, (30 : Int), (30 : Int)), (w4.heap.size, (0 : Int), (0 : Int))] w w16.drew := by
        have hq := HB.out.later (Below.refl _ _).drew
        exact ⟨fun b hb => hq.1 b ((List.mem_cons.1 hb).elim (fun e => by rw [e]; simp) fun h => by rw [List.mem_singleton.1 h]; simp), hq.2⟩
      clear HB
      go_region_held3 (fun w' => (w'.cell? ⟨w2.heap.size, 0, none⟩ = some (.int .i64 30) ∧ w'.cell? ⟨w2.heap.size, 1, none⟩ = some (.int .i64 30)) ∧ (w'.cell? ⟨w4.heap.size, 0, none⟩ = some (.int .i64 0) ∧ w'.cell? ⟨w4.heap.size, 1, none⟩ = some (.int .i64 0)))
        (first | exact ⟨s1.cell (by simp), s1.cell (by simp)⟩ | exact ⟨s0.cell (by simp), s0.cell (by simp)⟩)
        (first | (go_at_call 16; refine (alive13_any _).mono ?_; rintro e w30 ⟨rfl, hb30⟩; have s1 := s0.later hb30) | (go_at_call 17; refine (span13_any _ _ _).mono ?_; rintro e w31 ⟨rfl, hb31⟩; have s1 := s1.later hb31))
      go_wp2
      exact bodyPost_ret (v := .bool true) (by simp [results, Try.results3, go_sem]) rfl ⟨rfl, s1.2⟩
end Go.Proofs.Ytagjepclobobjaa

/- LotNames: errors and limits have the document's values, and the chapter's examples hold: the law returns true. No conditions. -/
namespace Go.Proofs.Ytagjepclobobjaa
set_option linter.unusedVariables false
set_option linter.unusedSimpArgs false
open Go.ChangeShapes Go.WideShapes Go.ChangeAt Go.RowKit

set_option maxRecDepth 100000 in
theorem names_lifted (os : Os) (started : os.Started) (H : Type) (enc : TypeId × Value → H) :
    ReturnsInHanded {} Try.checked os 3 .any (Rows.lotNamesSpec.pre6 enc Try.prog Try.f3 Rows.lotNamesRow.domain false) (Rows.lotNamesSpec.post enc Try.prog Try.f3 false true false false) := by
  refine returnsInHanded_of_change (C := Try.checked) own_knob started (by kernel_rfl) Try.func3
    (ChangeSpec.witness6 (enc := enc) (C := Try.checked) false ⟨#[], #[], []⟩ 8 (by kernel_rfl) (by kernel_rfl) (by kernel_rfl) (by kernel_rfl)) ?_
  intro W base args ds gs before hval0 hW hcnd _
  have hval : ∀ (j : Nat) t v, Try.f3.params[j]? = some t → args[j]? = some v → Value.okWide Try.prog W .any base t v := hval0
  have hW' := hW
  obtain ⟨p, q, hA0, hV, rfl, hfz, hnd⟩ := hW
  have hA : DataW.TrodAll enc Try.prog W 0 (fun _ => true) true Try.f3.params.toList args.toList ds p := hA0
  rw [Try.params3] at hA hval
  obtain ⟨rfl, rfl, rfl⟩ := trodAll_none hA
  obtain ⟨rfl, rfl⟩ := trodVars_none hV
  clear hA0 hval0
  simp only [List.append_nil] at hW'
  refine (names13_any W).mono fun e W' ⟨he, hb⟩ => ?_
  subst he
  exact ⟨_, rfl, post_of_below (pa := []) (pv := []) hW' (fun _ _ _ => (trodAll_cons_mk (shut_bool Try.underlying4 _) trodAll_mk0)) (fun sp _ => rfl) (fun _ _ => rfl) rfl
    hb (ok_one (by kernel_rfl) rfl (okWide_bool_mk Try.underlying4 _))⟩

theorem names_over : Rows.lotNamesRow.holds Try.pinned (OpenSpec.ofChange Rows.lotNamesSpec) :=
  OpenClaim.holds_of_wide 3 Try.f3 rfl rfl rfl rfl rfl rfl rfl ⟨rfl, rfl, rfl, rfl, rfl⟩ rfl rfl rfl rfl rfl (by kernel_rfl) Try.func3 (by kernel_rfl)
    (of_decide_eq_true (by kernel_rfl)) (by unfold Func.isWrapper; first | (rw [if_pos (by decide +kernel)]; kernel_rfl) | (rw [if_neg (by decide +kernel)]; exact ⟨rfl, rfl⟩))
    (fun os started H enc _ => names_lifted os started H enc)

/-- The statement. -/
theorem lot_names : Rows.LotNamesSaid := names_over

end Go.Proofs.Ytagjepclobobjaa
