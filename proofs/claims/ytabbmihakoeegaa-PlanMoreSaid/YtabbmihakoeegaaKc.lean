/- Texts U in one file; each begins with a word on what it proves. -/
import Derived.Test.YtabbmihakoeegaaKb

/- Differ. -/
namespace Go.Proofs.Ytabbmihakoeegaa
set_option linter.unusedVariables false
set_option linter.unusedSimpArgs false
open Go.RowKit Go.Shelf
attribute [local go_sem] Oper.semAt_some

end Go.Proofs.Ytabbmihakoeegaa
