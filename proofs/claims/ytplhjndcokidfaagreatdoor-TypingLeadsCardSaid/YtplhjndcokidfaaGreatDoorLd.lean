/-
  The problems of an example of the typing laws.
-/
import Derived.Test.YtplhjndcokidfaaGreatDoorLa
set_option linter.unusedVariables false
set_option linter.unusedSimpArgs false
set_option maxRecDepth 20000
namespace Go.Ae.Zd
open Go.Proofs
theorem k3_run : acall LE 200 10 [.agg (eX ex3)] [] = some (.sl false [pV 0 1 (-1) 12, pV 0 2 (-1) 12], []) := by kernel_rfl
end Go.Ae.Zd
