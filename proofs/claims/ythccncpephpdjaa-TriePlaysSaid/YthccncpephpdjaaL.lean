/- The package variables that the rows list: what they hold, as facts on worlds. By a program of this project (laid.py). -/
import Derived.Test.YthccncpephpdjaaG
import Derived.Test.YthccncpephpdjaaRows
set_option linter.unusedVariables false
namespace Go.Proofs.Ythccncpephpdjaa
open E Go.RowKit
end Go.Proofs.Ythccncpephpdjaa
