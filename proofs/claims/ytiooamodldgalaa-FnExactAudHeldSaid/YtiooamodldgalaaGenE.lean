/-
The plain functions, all of them.
-/
import Derived.Test.YtiooamodldgalaaGen6
set_option maxRecDepth 100000
set_option linter.unusedVariables false
namespace Go.Proofs.Ytiooamodldgalaa.Abs
open Go Go.Proofs.Try
end Go.Proofs.Ytiooamodldgalaa.Abs
