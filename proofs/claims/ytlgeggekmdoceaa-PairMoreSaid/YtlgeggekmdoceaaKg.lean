/- Texts Ab, Ac in one file; each begins with a word on what it proves. -/
import Derived.Test.YtlgeggekmdoceaaKf

/- alive: results that the document fixes. -/
namespace Go.Proofs.Ytlgeggekmdoceaa
set_option linter.unusedVariables false
set_option linter.unusedSimpArgs false
open Go.RowKit Go.Shelf
attribute [local go_sem] Oper.semAt_some

theorem al1 {w : World} {bs rs : Value} (h : PairAt w p0 bs rs) : Calls Try.prog 15 #[.agg (pairRow p0 bs rs), .int .i64 1] w fun e w' => e = .returned (.tuple #[.agg #[.int .i64 2, .int .i64 4], .int .i64 0]) ∧ Below w.heap.size w w' := by
  have := knownV_any h 1; rw [val_known] at this; exact this
theorem al2 {w : World} {bs rs : Value} (h : PairAt w p0 bs rs) : Calls Try.prog 17 #[.agg (pairRow p0 bs rs), .int .i64 0, .int .i64 1] w fun e w' => e = .returned (.tuple #[.agg #[.int .i64 (-4), .int .i64 (-2)], .int .i64 0]) ∧ Below w.heap.size w w' := by
  have := differV_any h 0 1; rw [val_differ] at this; exact this
theorem al3 {w : World} {bs rs : Value} (h : PairAt w p0 bs rs) : Calls Try.prog 19 #[.agg (pairRow p0 bs rs), .int .i64 25] w fun e w' => e = .returned (.tuple #[.agg #[.int .i64 5, .int .i64 6], .int .i64 0]) ∧ Below w.heap.size w w' := by
  have := showsV_any h 25; rw [val_shows] at this; exact this
theorem al4 {w : World} {bs rs : Value} (h : PairAt w p0 bs rs) : Calls Try.prog 21 #[.agg (pairRow p0 bs rs)] w fun e w' => e = .returned (.tuple #[.int .i64 2, .int .i64 2, .int .i64 0]) ∧ Below w.heap.size w w' := by
  have := longestV_any h; rw [val_long] at this; exact this
theorem al5 {w : World} {bs rs : Value} (h : PairAt w p0 bs rs) : Calls Try.prog 23 #[.agg (pairRow p0 bs rs)] w fun e w' => e = .returned (.tuple #[.int .i64 0, .int .i64 1, .int .i64 2, .int .i64 0]) ∧ Below w.heap.size w w' := by
  have := leastV_any h; rw [val_least] at this; exact this
theorem al6 {w : World} {bs rs : Value} (h : PairAt w p0 bs rs) : Calls Try.prog 25 #[.agg (pairRow p0 bs rs)] w fun e w' => e = .returned (.tuple #[.int .i64 1, .int .i64 0]) ∧ Below w.heap.size w w' := by
  have := groupsV_any h; rw [val_groups] at this; exact this
theorem al7 {w : World} {bs rs : Value} (h : PairAt w p1 bs rs) : Calls Try.prog 27 #[.agg (pairRow p1 bs rs)] w fun e w' => e = .returned (.tuple #[.int .i64 1, .int .i64 8, .int .i64 0]) ∧ Below w.heap.size w w' := by
  have := wrongV_any h; rw [val_wrong] at this; exact this
theorem al8 {w : World} {bs rs : Value} (h : PairAt w p1 bs rs) : Calls Try.prog 29 #[.agg (pairRow p1 bs rs)] w fun e w' => e = .returned (.tuple #[.int .i64 9, .int .i64 0]) ∧ Below w.heap.size w w' := by
  have := clashV_any h; rw [val_clash] at this; exact this

def Boxes (b1 b2 b3 : Nat) (w0 w : World) : Prop := w.heap[b1]? = some (.cells #[.int .i64 2, .int .i64 4] 24 (0, 0)) ∧ w.heap[b2]? = some (.cells #[.int .i64 (-4), .int .i64 (-2)] 24 (0, 0)) ∧ w.heap[b3]? = some (.cells #[.int .i64 5, .int .i64 6] 24 (0, 0)) ∧ Below w0.heap.size w0 w
theorem cells6 {b1 b2 b3 : Nat} {w0 w : World} (h : Boxes b1 b2 b3 w0 w) : (w.cell? ⟨b1, 0, none⟩ = some (.int .i64 2) ∧ w.cell? ⟨b1, 1, none⟩ = some (.int .i64 4)) ∧ (w.cell? ⟨b2, 0, none⟩ = some (.int .i64 (-4)) ∧ w.cell? ⟨b2, 1, none⟩ = some (.int .i64 (-2))) ∧ (w.cell? ⟨b3, 0, none⟩ = some (.int .i64 5) ∧ w.cell? ⟨b3, 1, none⟩ = some (.int .i64 6)) := by
  obtain ⟨h1, h2, h3, _⟩ := h
  refine ⟨⟨?_, ?_⟩, ⟨?_, ?_⟩, ⟨?_, ?_⟩⟩
  · rw [cell_of_row w _ _ _ _ _ h1]; rfl
  · rw [cell_of_row w _ _ _ _ _ h1]; rfl
  · rw [cell_of_row w _ _ _ _ _ h2]; rfl
  · rw [cell_of_row w _ _ _ _ _ h2]; rfl
  · rw [cell_of_row w _ _ _ _ _ h3]; rfl
  · rw [cell_of_row w _ _ _ _ _ h3]; rfl
theorem keep6 {b1 b2 b3 : Nat} {w0 w W : World} (h : Boxes b1 b2 b3 w0 w) (hb : Below w.heap.size w W) : Boxes b1 b2 b3 w0 W := by
  obtain ⟨h1, h2, h3, h4⟩ := h
  exact ⟨(hb.block _ (lt_of_block h1)).trans h1, (hb.block _ (lt_of_block h2)).trans h2, (hb.block _ (lt_of_block h3)).trans h3, h4.trans (hb.mono h4.size)⟩
set_option maxRecDepth 100000 in
set_option maxHeartbeats 8000000 in
theorem alive_any (w : World) : Calls Try.prog 14 #[] w fun e w' => e = .returned (.bool true) ∧ Below w.heap.size w w' := by
  go_enter Try.func14, Try.ntmps14
  go_wp2_with fail
  refine (sample0_any _).mono ?_
  rintro e w1 ⟨⟨bs, rs, rfl, hbs, hrs⟩, hb⟩
  have HP := Lib.hid (PairAt.of hbs hrs)
  have HS := Lib.hid hb
  clear hbs hrs hb
  go_wp2_with fail
  refine (al1 HP.out).mono ?_
  rintro e w2 ⟨rfl, hb⟩
  have HC := Lib.hid (HS.out.trans (hb.mono HS.out.size))
  clear hb HS HP
  obtain ⟨A, hA⟩ : ∃ A, A = w2.alloc (.cells #[.int .i64 2, .int .i64 4] 24) := ⟨_, rfl⟩
  have HA := Lib.hid (show Below w.heap.size w A by rw [hA]; exact HC.out.alloc HC.out.size _)
  have X1 := Lib.hid (show A.heap[w2.heap.size]? = some (.cells #[.int .i64 2, .int .i64 4] 24 (0, 0)) by rw [hA]; exact heap_alloc_at _ _ _ rfl)
  have sA := HC.out.size
  clear HC
  go_wp2_with fail
  rw [← hA]
  clear hA
  refine (sample0_any _).mono ?_
  rintro e w3 ⟨⟨bs, rs, rfl, hbs, hrs⟩, hb⟩
  have HP := Lib.hid (PairAt.of hbs hrs)
  have HS := Lib.hid hb
  clear hbs hrs hb
  go_wp2_with fail
  refine (al2 HP.out).mono ?_
  rintro e w4 ⟨rfl, hb⟩
  have HC := Lib.hid (HS.out.trans (hb.mono HS.out.size))
  clear hb HS HP
  obtain ⟨B, hB⟩ : ∃ B, B = w4.alloc (.cells #[.int .i64 (-4), .int .i64 (-2)] 24) := ⟨_, rfl⟩
  have HAB := Lib.hid (show Below A.heap.size A B by rw [hB]; exact HC.out.alloc HC.out.size _)
  have X2 := Lib.hid (show B.heap[w4.heap.size]? = some (.cells #[.int .i64 (-4), .int .i64 (-2)] 24 (0, 0)) by rw [hB]; exact heap_alloc_at _ _ _ rfl)
  have sB := HC.out.size
  clear HC
  go_wp2_with fail
  rw [← hB]
  clear hB
  refine (sample0_any _).mono ?_
  rintro e w5 ⟨⟨bs, rs, rfl, hbs, hrs⟩, hb⟩
  have HP := Lib.hid (PairAt.of hbs hrs)
  have HS := Lib.hid hb
  clear hbs hrs hb
  go_wp2_with fail
  refine (al3 HP.out).mono ?_
  rintro e w6 ⟨rfl, hb⟩
  have HC := Lib.hid (HS.out.trans (hb.mono HS.out.size))
  clear hb HS HP
  obtain ⟨C, hC⟩ : ∃ C, C = w6.alloc (.cells #[.int .i64 5, .int .i64 6] 24) := ⟨_, rfl⟩
  have HBC := Lib.hid (show Below B.heap.size B C by rw [hC]; exact HC.out.alloc HC.out.size _)
  have X3 := Lib.hid (show C.heap[w6.heap.size]? = some (.cells #[.int .i64 5, .int .i64 6] 24 (0, 0)) by rw [hC]; exact heap_alloc_at _ _ _ rfl)
  have sC := HC.out.size
  clear HC
  go_wp2_with fail
  rw [← hC]
  clear hC
  refine (sample0_any _).mono ?_
  rintro e w7 ⟨⟨bs, rs, rfl, hbs, hrs⟩, hb⟩
  have HP := Lib.hid (PairAt.of hbs hrs)
  have HS := Lib.hid hb
  clear hbs hrs hb
  go_wp2_with fail
  refine (al4 HP.out).mono ?_
  rintro e w8 ⟨rfl, hb⟩
  have HC := Lib.hid (HS.out.trans (hb.mono HS.out.size))
  clear hb HS HP
  have C4 := Lib.hid HC.out
  go_wp2_with fail
  refine (sample0_any _).mono ?_
  rintro e w9 ⟨⟨bs, rs, rfl, hbs, hrs⟩, hb⟩
  have HP := Lib.hid (PairAt.of hbs hrs)
  have HS := Lib.hid hb
  clear hbs hrs hb
  go_wp2_with fail
  refine (al5 HP.out).mono ?_
  rintro e w10 ⟨rfl, hb⟩
  have HC := Lib.hid (HS.out.trans (hb.mono HS.out.size))
  clear hb HS HP
  have C5 := Lib.hid (C4.out.trans (HC.out.mono C4.out.size))
  go_wp2_with fail
  refine (sample0_any _).mono ?_
  rintro e w11 ⟨⟨bs, rs, rfl, hbs, hrs⟩, hb⟩
  have HP := Lib.hid (PairAt.of hbs hrs)
  have HS := Lib.hid hb
  clear hbs hrs hb
  go_wp2_with fail
  refine (al6 HP.out).mono ?_
  rintro e w12 ⟨rfl, hb⟩
  have HC := Lib.hid (HS.out.trans (hb.mono HS.out.size))
  clear hb HS HP
  have C6 := Lib.hid (C5.out.trans (HC.out.mono C5.out.size))
  clear C4 C5
  go_wp2_with fail
  refine (lread_any ⟨2, 1, 0, 5, 5⟩ _).mono ?_
  rintro e w13 ⟨rfl, hb⟩
  have HR := Lib.hid hb
  clear hb
  unfold readV
  go_wp2_with fail
  refine (sample1_any ⟨2, 1, 0, 5, 5⟩ w13.heap.size 1 _ (heap_alloc_at _ _ _ rfl)).mono ?_
  rintro e w14 ⟨⟨bs, rs, rfl, hbs, hrs⟩, hb⟩
  have HP := Lib.hid (PairAt.of hbs hrs)
  have HS := Lib.hid ((HR.out.alloc HR.out.size _).trans (hb.mono (by have := HR.out.size; simp; omega)))
  clear hbs hrs hb HR
  go_wp2_with fail
  refine (al7 HP.out).mono ?_
  rintro e w15 ⟨rfl, hb⟩
  have HC := Lib.hid (HS.out.trans (hb.mono HS.out.size))
  clear hb HS HP
  have C7 := Lib.hid (C6.out.trans (HC.out.mono C6.out.size))
  clear C6
  go_wp2_with fail
  refine (lread_any ⟨2, 1, 0, 5, 5⟩ _).mono ?_
  rintro e w16 ⟨rfl, hb⟩
  have HR := Lib.hid hb
  clear hb
  unfold readV
  go_wp2_with fail
  refine (sample1_any ⟨2, 1, 0, 5, 5⟩ w16.heap.size 1 _ (heap_alloc_at _ _ _ rfl)).mono ?_
  rintro e w17 ⟨⟨bs, rs, rfl, hbs, hrs⟩, hb⟩
  have HP := Lib.hid (PairAt.of hbs hrs)
  have HS := Lib.hid ((HR.out.alloc HR.out.size _).trans (hb.mono (by have := HR.out.size; simp; omega)))
  clear hbs hrs hb HR
  go_wp2_with fail
  refine (al8 HP.out).mono ?_
  rintro e w18 ⟨rfl, hb⟩
  have HC := Lib.hid (HS.out.trans (hb.mono HS.out.size))
  clear hb HS HP
  have C8 := Lib.hid (C7.out.trans (HC.out.mono C7.out.size))
  clear C7 HC
  have hsA := HA.out.size
  have hsAB := HAB.out.size
  have hsBC := HBC.out.size
  have r1 : w18.heap[w2.heap.size]? = some (.cells #[.int .i64 2, .int .i64 4] 24 (0, 0)) := (C8.out.block _ (by have := lt_of_block X1.out; omega)).trans ((HBC.out.block _ (by have := lt_of_block X1.out; omega)).trans ((HAB.out.block _ (lt_of_block X1.out)).trans X1.out))
  have r2 : w18.heap[w4.heap.size]? = some (.cells #[.int .i64 (-4), .int .i64 (-2)] 24 (0, 0)) := (C8.out.block _ (by have := lt_of_block X2.out; omega)).trans ((HBC.out.block _ (lt_of_block X2.out)).trans X2.out)
  have r3 : w18.heap[w6.heap.size]? = some (.cells #[.int .i64 5, .int .i64 6] 24 (0, 0)) := (C8.out.block _ (lt_of_block X3.out)).trans X3.out
  have HALL := Lib.hid (HA.out.trans ((HAB.out.mono (by omega)).trans ((HBC.out.mono (by omega)).trans (C8.out.mono (by omega)))))
  clear C8 X1 X2 X3 HA HAB HBC
  go_wp2_with fail
  have s0 : Boxes w2.heap.size w4.heap.size w6.heap.size w w18.drew := ⟨r1, r2, r3, HALL.out.trans (Below.refl _ _).drew⟩
  clear r1 r2 r3 HALL
  simp only [List.append_eq, List.cons_append, List.nil_append]
  go_region_held3 (fun w' => (w'.cell? ⟨w2.heap.size, 0, none⟩ = some (.int .i64 2) ∧ w'.cell? ⟨w2.heap.size, 1, none⟩ = some (.int .i64 4)) ∧ (w'.cell? ⟨w4.heap.size, 0, none⟩ = some (.int .i64 (-4)) ∧ w'.cell? ⟨w4.heap.size, 1, none⟩ = some (.int .i64 (-2))) ∧ (w'.cell? ⟨w6.heap.size, 0, none⟩ = some (.int .i64 5) ∧ w'.cell? ⟨w6.heap.size, 1, none⟩ = some (.int .i64 6)))
    (first | exact cells6 s1 | exact cells6 s0)
    (first | (go_at_call 33; refine (lspan_any _ _ _).mono ?_; rintro e w20 ⟨rfl, hb20⟩; have s1 := (by first | exact keep6 s2 hb20 | exact keep6 s1 hb20 | exact keep6 s0 hb20 : Boxes w2.heap.size w4.heap.size w6.heap.size w w20); unfold spanV))
  go_wp2
  exact bodyPost_ret (v := .bool true) (by simp [results, Try.results14, go_sem]) rfl ⟨rfl, s1.2.2.2⟩

end Go.Proofs.Ytlgeggekmdoceaa

/- PairNames: the walk but for its last region; boxes of spans. -/
namespace Go.Proofs.Ytlgeggekmdoceaa
set_option linter.unusedVariables false
set_option linter.unusedSimpArgs false
open Go.RowKit Go.Shelf
attribute [local go_sem] Oper.semAt_some

/-- Boxes that hold spans, made since a world. -/
def BoxL (l : List (Nat × Int × Int)) (w0 w : World) : Prop := (∀ b ∈ l, w.heap[b.1]? = some (.cells #[.int .i64 b.2.1, .int .i64 b.2.2] 24 (0, 0))) ∧ Below w0.heap.size w0 w
theorem BoxL.later {l : List (Nat × Int × Int)} {w0 w W : World} (h : BoxL l w0 w) (hb : Below w.heap.size w W) : BoxL l w0 W :=
  ⟨fun b hbl => (hb.block _ (lt_of_block (h.1 b hbl))).trans (h.1 b hbl), h.2.trans (hb.mono h.2.size)⟩
theorem BoxL.alloc {l : List (Nat × Int × Int)} {w0 w : World} (h : BoxL l w0 w) (x y : Int) : BoxL ((w.heap.size, x, y) :: l) w0 (w.alloc (.cells #[.int .i64 x, .int .i64 y] 24)) := by
  refine ⟨fun b hbl => ?_, h.2.alloc h.2.size _⟩
  rcases List.mem_cons.1 hbl with rfl | hbl
  · exact heap_alloc_at _ _ _ rfl
  · exact (Below.heap_alloc w _ _ (lt_of_block (h.1 b hbl))).trans (h.1 b hbl)
theorem BoxL.cell {l : List (Nat × Int × Int)} {w0 w : World} (h : BoxL l w0 w) {b : Nat} {x y : Int} (hm : (b, x, y) ∈ l) : w.cell? ⟨b, 0, none⟩ = some (.int .i64 x) ∧ w.cell? ⟨b, 1, none⟩ = some (.int .i64 y) := by
  have := h.1 _ hm
  exact ⟨by rw [cell_of_row w _ _ _ _ _ this]; rfl, by rw [cell_of_row w _ _ _ _ _ this]; rfl⟩
theorem BoxL.nil (w : World) : BoxL [] w w := ⟨by simp, Below.refl _ _⟩
theorem BoxL.mono {l l' : List (Nat × Int × Int)} {w0 w : World} (h : BoxL l w0 w) (hl : ∀ b ∈ l', b ∈ l) : BoxL l' w0 w := ⟨fun b hb => h.1 b (hl b hb), h.2⟩

def p2 : PairD := { sampleD [] with rs := [⟨1, 0, 0, 3, 4⟩] }
theorem vn1 : knownV p0 0 = ((0, 0), 0) := by decide +kernel
theorem vn2 : knownV p0 2 = ((0, 1), 0) := by decide +kernel
theorem vn3 : differV p0 1 2 = ((2, 3), 0) := by decide +kernel
theorem vn4 : differV p0 1 1 = ((0, 0), 0) := by decide +kernel
theorem vn5 : showsV p0 0 = ((0, 1), 0) := by decide +kernel
theorem vn6 : showsV p0 59 = ((11, 12), 0) := by decide +kernel
theorem vn7 : groupsV p2 = (2, 0) := by decide +kernel
theorem vn8 : wrongV p0 = ((0, 0), 0) := by decide +kernel
theorem vn9 : clashV p0 = (0, 4) := by decide +kernel
theorem vn10 : knownV p1 0 = ((0, 0), 10) := by decide +kernel
section
variable {w : World} {bs rs : Value}
theorem nm1 (h : PairAt w p0 bs rs) : Calls Try.prog 15 #[.agg (pairRow p0 bs rs), .int .i64 0] w fun e w' => e = .returned (.tuple #[.agg #[.int .i64 0, .int .i64 0], .int .i64 0]) ∧ Below w.heap.size w w' := by
  have := knownV_any h 0; rw [vn1] at this; exact this
theorem nm2 (h : PairAt w p0 bs rs) : Calls Try.prog 15 #[.agg (pairRow p0 bs rs), .int .i64 2] w fun e w' => e = .returned (.tuple #[.agg #[.int .i64 0, .int .i64 1], .int .i64 0]) ∧ Below w.heap.size w w' := by
  have := knownV_any h 2; rw [vn2] at this; exact this
theorem nm3 (h : PairAt w p0 bs rs) : Calls Try.prog 17 #[.agg (pairRow p0 bs rs), .int .i64 1, .int .i64 2] w fun e w' => e = .returned (.tuple #[.agg #[.int .i64 2, .int .i64 3], .int .i64 0]) ∧ Below w.heap.size w w' := by
  have := differV_any h 1 2; rw [vn3] at this; exact this
theorem nm4 (h : PairAt w p0 bs rs) : Calls Try.prog 17 #[.agg (pairRow p0 bs rs), .int .i64 1, .int .i64 1] w fun e w' => e = .returned (.tuple #[.agg #[.int .i64 0, .int .i64 0], .int .i64 0]) ∧ Below w.heap.size w w' := by
  have := differV_any h 1 1; rw [vn4] at this; exact this
theorem nm5 (h : PairAt w p0 bs rs) : Calls Try.prog 19 #[.agg (pairRow p0 bs rs), .int .i64 0] w fun e w' => e = .returned (.tuple #[.agg #[.int .i64 0, .int .i64 1], .int .i64 0]) ∧ Below w.heap.size w w' := by
  have := showsV_any h 0; rw [vn5] at this; exact this
theorem nm6 (h : PairAt w p0 bs rs) : Calls Try.prog 19 #[.agg (pairRow p0 bs rs), .int .i64 59] w fun e w' => e = .returned (.tuple #[.agg #[.int .i64 11, .int .i64 12], .int .i64 0]) ∧ Below w.heap.size w w' := by
  have := showsV_any h 59; rw [vn6] at this; exact this
theorem nm7 (h : PairAt w p2 bs rs) : Calls Try.prog 25 #[.agg (pairRow p2 bs rs)] w fun e w' => e = .returned (.tuple #[.int .i64 2, .int .i64 0]) ∧ Below w.heap.size w w' := by
  have := groupsV_any h; rw [vn7] at this; exact this
theorem nm8 (h : PairAt w p0 bs rs) : Calls Try.prog 27 #[.agg (pairRow p0 bs rs)] w fun e w' => e = .returned (.tuple #[.int .i64 0, .int .i64 0, .int .i64 0]) ∧ Below w.heap.size w w' := by
  have := wrongV_any h; rw [vn8] at this; exact this
theorem nm9 (h : PairAt w p0 bs rs) : Calls Try.prog 29 #[.agg (pairRow p0 bs rs)] w fun e w' => e = .returned (.tuple #[.int .i64 0, .int .i64 4]) ∧ Below w.heap.size w w' := by
  have := clashV_any h; rw [vn9] at this; exact this
theorem nm10 (h : PairAt w p1 bs rs) : Calls Try.prog 15 #[.agg (pairRow p1 bs rs), .int .i64 0] w fun e w' => e = .returned (.tuple #[.agg #[.int .i64 0, .int .i64 0], .int .i64 10]) ∧ Below w.heap.size w w' := by
  have := knownV_any h 0; rw [vn10] at this; exact this
end
theorem PairAt.first {w : World} {bs rs : Value} (h : PairAt w p0 bs rs) : ∃ b off cap, rs = .slice (some ⟨b, off, none⟩) 3 cap ∧ 3 ≤ cap ∧ cap ≤ maxLen ∧ PairAt w p2 bs (.slice (some ⟨b, off, none⟩) 1 cap) := by
  obtain ⟨ao, cap, h1, h2, h3, h4⟩ := h.r
  obtain ⟨b, off, rfl, h5⟩ := h4 0 (by decide)
  refine ⟨b, off, cap, h1, h2, h3, ⟨h.b, ?_⟩⟩
  refine ⟨_, cap, rfl, Nat.le_trans (by decide) h2, h3, fun i hi => ⟨b, off, rfl, ?_⟩⟩
  have hi' : i < 1 := hi
  have : i = 0 := by omega
  subst this
  exact h5

end Go.Proofs.Ytlgeggekmdoceaa
