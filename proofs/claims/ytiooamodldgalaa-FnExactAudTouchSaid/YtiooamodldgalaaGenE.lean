/-
The plain functions, all of them.
-/
import Derived.Test.YtiooamodldgalaaGen4
namespace Go.Proofs.Ytiooamodldgalaa.Abs
end Go.Proofs.Ytiooamodldgalaa.Abs
