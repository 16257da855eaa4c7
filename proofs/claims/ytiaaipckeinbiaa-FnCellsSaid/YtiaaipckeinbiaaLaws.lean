/-
  The laws of the helper functions of the statements: copying, counting, comparing. Printed by a program of ours.
-/
import Derived.Test.YtiaaipckeinbiaaLawKit
namespace Gv
open Go Go.Proofs


end Gv
