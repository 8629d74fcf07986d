/- The types of the program as Lean types, how they lie in cells, and what == says of them; by a program of this project (gen.py). -/
import Derived.Test.YtdhkcjddjmgciaaO
import Derived.Test.YtdhkcjddjmgciaaProg
set_option linter.unusedVariables false
set_option linter.unusedSimpArgs false
namespace Go.Proofs.Ytdhkcjddjmgciaa
open E Go.RowKit
theorem infoT5_is : (Try.prog.info? 5).isSome = true := by kernel_rfl
noncomputable def infoT5_v : TypeInfo := (Try.prog.info? 5).get infoT5_is
theorem infoT5 : Try.prog.info? 5 = some infoT5_v := (Option.some_get _).symm
end Go.Proofs.Ytdhkcjddjmgciaa
