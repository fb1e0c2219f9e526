/-
  The problems of an example of the typing laws.
-/
import Derived.Test.YtplhjndcokidfaaGreatDoorLa
set_option linter.unusedVariables false
set_option linter.unusedSimpArgs false
set_option maxRecDepth 20000
namespace Go.Ae.Zd
open Go.Proofs
theorem k1_run : acall LE 200 10 [.agg (eX ex1)] [] = some (.sl false [pV 1 2 (-1) 13], []) := by kernel_rfl
end Go.Ae.Zd
