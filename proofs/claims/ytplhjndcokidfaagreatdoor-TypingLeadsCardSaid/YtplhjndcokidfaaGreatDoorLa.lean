/-
  The examples of the typing laws.
-/
import Derived.Test.YtplhjndcokidfaaGreatDoorZ4
set_option linter.unusedVariables false
set_option linter.unusedSimpArgs false
set_option maxRecDepth 20000
namespace Go.Ae.Zd
open Go.Proofs

def fS (nm of_ up : Str) (k lo hi : Int) : FieldT := ⟨nm, of_, up, k, lo, hi, .nil, .nil⟩
def xA : KindT := ⟨[97], 0, 9, .mk true [fS [107] [] [] 0 0 0, fS [110] [] [] 2 0 5]⟩
def xB (num : Bool) : KindT := ⟨[98], 0, 9, .mk true [fS [107] [] [] 0 0 0, fS [114] [97] [] 1 0 3, fS [99] (if num then [110] else [107]) [114] 8 0 0]⟩
def ex1 : SchemaT := ⟨0, .mk true [xA, xB false], .nil, .nil⟩
def ex2 : SchemaT := ⟨0, .mk true [xA, xB true], .nil, .nil⟩
def ex3 : SchemaT := ⟨0, .mk true [xB true, xA], .nil, .nil⟩
def pV (a b c d : Int) : List V := [.int .i64 a, .int .i64 b, .int .i64 c, .int .i64 d]
theorem ex1_run : acall LE 200 43 [.bool false, .bool false] [] = some (.agg (eX ex1), []) := by kernel_rfl
end Go.Ae.Zd
