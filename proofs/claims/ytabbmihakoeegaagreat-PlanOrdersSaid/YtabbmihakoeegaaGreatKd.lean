/- Texts V, W, Y in one file; each begins with a word on what it proves. -/
import Derived.Test.YtabbmihakoeegaaGreatKb

/- Shows. -/
namespace Go.Proofs.YtabbmihakoeegaaGreat
set_option linter.unusedVariables false
set_option linter.unusedSimpArgs false
open Go.RowKit Go.Shelf
attribute [local go_sem] Oper.semAt_some

end Go.Proofs.YtabbmihakoeegaaGreat

/- Least. -/
namespace Go.Proofs.YtabbmihakoeegaaGreat
set_option linter.unusedVariables false
set_option linter.unusedSimpArgs false
open Go.RowKit Go.Shelf
attribute [local go_sem] Oper.semAt_some

/-- The least span that has some spans. -/
def hullOf : List (Int × Int) → Int × Int
  | [] => (0, 0)
  | a :: l => l.foldl (fun s x => (min s.1 x.1, max s.2 x.2)) a
theorem hullOf_fold (l : List (Int × Int)) (S : Int × Int → Prop) (s : Int × Int) (h : IsHull S s) : IsHull (fun x => S x ∨ x ∈ l) (l.foldl (fun s x => (min s.1 x.1, max s.2 x.2)) s) := by
  induction l generalizing S s with
  | nil => exact h.congr (by simp)
  | cons a l ih =>
    refine (ih _ _ (h.add a)).congr fun x => ?_
    simp [or_assoc]
theorem hullOf_is (l : List (Int × Int)) (h : l ≠ []) : IsHull (fun x => x ∈ l) (hullOf l) := by
  obtain ⟨a, l, rfl⟩ := List.exists_cons_of_ne_nil h
  refine (hullOf_fold l _ a (IsHull.one a)).congr fun x => ?_
  simp
theorem IsHull.eq {l : List (Int × Int)} {s : Int × Int} (h : IsHull (fun x => x ∈ l) s) : s = hullOf l := by
  refine h.unique (hullOf_is l ?_)
  obtain ⟨⟨a, ha, _⟩, _⟩ := h
  exact List.ne_nil_of_mem ha
end Go.Proofs.YtabbmihakoeegaaGreat

/- How many are in a set. -/
namespace Go.Proofs.YtabbmihakoeegaaGreat
set_option linter.unusedVariables false
set_option linter.unusedSimpArgs false
open Go.RowKit Go.Shelf
attribute [local go_sem] Oper.semAt_some

/-- How many numbers below 8 are in a set. -/
def ones (x : Nat) : Nat := ((List.range 8).filter x.testBit).length
set_option maxRecDepth 100000 in
set_option maxHeartbeats 8000000 in
theorem ones64_any (x : Nat) (hx : x < 256) (w : World) :
    Calls Tryz.prog 114 #[.int .u64 x] w fun e w' => e = .returned (.int .i64 (ones x)) ∧ w = w' := by
  go_enter Tryz.func114, Tryz.ntmps114
  go_wp2
  go_ret
  refine ⟨?_, rfl⟩
  refine congrArg (fun n => Ending.returned (Value.int .i64 n)) ?_
  obtain ⟨y, rfl⟩ : ∃ y : Fin 256, x = y.val := ⟨⟨x, hx⟩, rfl⟩
  clear hx
  revert y
  decide +kernel
set_option maxRecDepth 100000 in
theorem ones_any (x : Nat) (hx : x < 256) (w : World) :
    Calls Tryz.prog 88 #[.int .u64 x] w fun e w' => e = .returned (.int .i64 (ones x)) ∧ w = w' := by
  go_enter Tryz.func88, Tryz.ntmps88
  go_wp2_with (first | (go_at_call 114; refine (ones64_any x hx _).mono ?_; rintro e w' ⟨rfl, rfl⟩))
  go_ret
  exact ⟨rfl, rfl⟩

end Go.Proofs.YtabbmihakoeegaaGreat
