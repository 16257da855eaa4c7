/-
  The laws of the helper functions of the statements: copying, counting, comparing, marking. Printed by a program of ours.
-/
import Derived.Test.YtnbjfeelokgnlaaDoorLawKit
namespace Gv
open Go Go.Proofs

end Gv
