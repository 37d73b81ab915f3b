/- PairNames: the walk but for its last region; boxes of spans. -/
import Derived.Test.YtlgeggekmdoceaaAb
namespace Go.Proofs.Ytlgeggekmdoceaa
set_option linter.unusedVariables false
set_option linter.unusedSimpArgs false
open Go.RowKit Go.Shelf
attribute [local go_sem] Oper.semAt_some

/-- Boxes that hold spans, made since a world. -/
def BoxL (l : List (Nat × Int × Int)) (w0 w : World) : Prop := (∀ b ∈ l, w.heap[b.1]? = some (.cells #[.int .i64 b.2.1, .int .i64 b.2.2] 24 (0, 0))) ∧ Below w0.heap.size w0 w
theorem BoxL.later {l : List (Nat × Int × Int)} {w0 w W : World} (h : BoxL l w0 w) (hb : Below w.heap.size w W) : BoxL l w0 W :=
  ⟨fun b hbl => (hb.block _ (lt_of_block (h.1 b hbl))).trans (h.1 b hbl), h.2.trans (hb.mono h.2.size)⟩
theorem BoxL.alloc {l : List (Nat × Int × Int)} {w0 w : World} (h : BoxL l w0 w) (x y : Int) : BoxL ((w.heap.size, x, y) :: l) w0 (w.alloc (.cells #[.int .i64 x, .int .i64 y] 24)) := by
  refine ⟨fun b hbl => ?_, h.2.alloc h.2.size _⟩
  rcases List.mem_cons.1 hbl with rfl | hbl
  · exact heap_alloc_at _ _ _ rfl
  · exact (Below.heap_alloc w _ _ (lt_of_block (h.1 b hbl))).trans (h.1 b hbl)
theorem BoxL.cell {l : List (Nat × Int × Int)} {w0 w : World} (h : BoxL l w0 w) {b : Nat} {x y : Int} (hm : (b, x, y) ∈ l) : w.cell? ⟨b, 0, none⟩ = some (.int .i64 x) ∧ w.cell? ⟨b, 1, none⟩ = some (.int .i64 y) := by
  have := h.1 _ hm
  exact ⟨by rw [cell_of_row w _ _ _ _ _ this]; rfl, by rw [cell_of_row w _ _ _ _ _ this]; rfl⟩
theorem BoxL.nil (w : World) : BoxL [] w w := ⟨by simp, Below.refl _ _⟩
theorem BoxL.mono {l l' : List (Nat × Int × Int)} {w0 w : World} (h : BoxL l w0 w) (hl : ∀ b ∈ l', b ∈ l) : BoxL l' w0 w := ⟨fun b hb => h.1 b (hl b hb), h.2⟩

def p2 : PairD := { sampleD [] with rs := [⟨1, 0, 0, 3, 4⟩] }
theorem vn1 : knownV p0 0 = ((0, 0), 0) := by decide +kernel
theorem vn2 : knownV p0 2 = ((0, 1), 0) := by decide +kernel
theorem vn3 : differV p0 1 2 = ((2, 3), 0) := by decide +kernel
theorem vn4 : differV p0 1 1 = ((0, 0), 0) := by decide +kernel
theorem vn5 : showsV p0 0 = ((0, 1), 0) := by decide +kernel
theorem vn6 : showsV p0 59 = ((11, 12), 0) := by decide +kernel
theorem vn7 : groupsV p2 = (2, 0) := by decide +kernel
theorem vn8 : wrongV p0 = ((0, 0), 0) := by decide +kernel
theorem vn9 : clashV p0 = (0, 4) := by decide +kernel
theorem vn10 : knownV p1 0 = ((0, 0), 10) := by decide +kernel
section
variable {w : World} {bs rs : Value}
theorem nm1 (h : PairAt w p0 bs rs) : Calls Try.prog 15 #[.agg (pairRow p0 bs rs), .int .i64 0] w fun e w' => e = .returned (.tuple #[.agg #[.int .i64 0, .int .i64 0], .int .i64 0]) ∧ Below w.heap.size w w' := by
  have := knownV_any h 0; rw [vn1] at this; exact this
theorem nm2 (h : PairAt w p0 bs rs) : Calls Try.prog 15 #[.agg (pairRow p0 bs rs), .int .i64 2] w fun e w' => e = .returned (.tuple #[.agg #[.int .i64 0, .int .i64 1], .int .i64 0]) ∧ Below w.heap.size w w' := by
  have := knownV_any h 2; rw [vn2] at this; exact this
theorem nm3 (h : PairAt w p0 bs rs) : Calls Try.prog 17 #[.agg (pairRow p0 bs rs), .int .i64 1, .int .i64 2] w fun e w' => e = .returned (.tuple #[.agg #[.int .i64 2, .int .i64 3], .int .i64 0]) ∧ Below w.heap.size w w' := by
  have := differV_any h 1 2; rw [vn3] at this; exact this
theorem nm4 (h : PairAt w p0 bs rs) : Calls Try.prog 17 #[.agg (pairRow p0 bs rs), .int .i64 1, .int .i64 1] w fun e w' => e = .returned (.tuple #[.agg #[.int .i64 0, .int .i64 0], .int .i64 0]) ∧ Below w.heap.size w w' := by
  have := differV_any h 1 1; rw [vn4] at this; exact this
theorem nm5 (h : PairAt w p0 bs rs) : Calls Try.prog 19 #[.agg (pairRow p0 bs rs), .int .i64 0] w fun e w' => e = .returned (.tuple #[.agg #[.int .i64 0, .int .i64 1], .int .i64 0]) ∧ Below w.heap.size w w' := by
  have := showsV_any h 0; rw [vn5] at this; exact this
theorem nm6 (h : PairAt w p0 bs rs) : Calls Try.prog 19 #[.agg (pairRow p0 bs rs), .int .i64 59] w fun e w' => e = .returned (.tuple #[.agg #[.int .i64 11, .int .i64 12], .int .i64 0]) ∧ Below w.heap.size w w' := by
  have := showsV_any h 59; rw [vn6] at this; exact this
theorem nm7 (h : PairAt w p2 bs rs) : Calls Try.prog 25 #[.agg (pairRow p2 bs rs)] w fun e w' => e = .returned (.tuple #[.int .i64 2, .int .i64 0]) ∧ Below w.heap.size w w' := by
  have := groupsV_any h; rw [vn7] at this; exact this
theorem nm8 (h : PairAt w p0 bs rs) : Calls Try.prog 27 #[.agg (pairRow p0 bs rs)] w fun e w' => e = .returned (.tuple #[.int .i64 0, .int .i64 0, .int .i64 0]) ∧ Below w.heap.size w w' := by
  have := wrongV_any h; rw [vn8] at this; exact this
theorem nm9 (h : PairAt w p0 bs rs) : Calls Try.prog 29 #[.agg (pairRow p0 bs rs)] w fun e w' => e = .returned (.tuple #[.int .i64 0, .int .i64 4]) ∧ Below w.heap.size w w' := by
  have := clashV_any h; rw [vn9] at this; exact this
theorem nm10 (h : PairAt w p1 bs rs) : Calls Try.prog 15 #[.agg (pairRow p1 bs rs), .int .i64 0] w fun e w' => e = .returned (.tuple #[.agg #[.int .i64 0, .int .i64 0], .int .i64 10]) ∧ Below w.heap.size w w' := by
  have := knownV_any h 0; rw [vn10] at this; exact this
end
theorem PairAt.first {w : World} {bs rs : Value} (h : PairAt w p0 bs rs) : ∃ b off cap, rs = .slice (some ⟨b, off, none⟩) 3 cap ∧ 3 ≤ cap ∧ cap ≤ maxLen ∧ PairAt w p2 bs (.slice (some ⟨b, off, none⟩) 1 cap) := by
  obtain ⟨ao, cap, h1, h2, h3, h4⟩ := h.r
  obtain ⟨b, off, rfl, h5⟩ := h4 0 (by decide)
  refine ⟨b, off, cap, h1, h2, h3, ⟨h.b, ?_⟩⟩
  refine ⟨_, cap, rfl, Nat.le_trans (by decide) h2, h3, fun i hi => ⟨b, off, rfl, ?_⟩⟩
  have hi' : i < 1 := hi
  have : i = 0 := by omega
  subst this
  exact h5

end Go.Proofs.Ytlgeggekmdoceaa
