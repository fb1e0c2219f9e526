/-
  No cell of these rows narrows 'for every input' (looked for: loops, veiled, ifaces, maps, wideKeys, modest, calm, conditions, laid).
  DERIVED. THE GIVEN ROWS OF THIS SEAT. 3 by the template 'for every input the law returns true; each argument reads behind the call as it read before'; 0 by the template 'total and deterministic' (their statements: YtobammkdioeknaaTotals.lean).
  GIVEN WITH THE SEED: the statements are not yours to turn. If you find one false, say at which input.
  Laid BY PROGRAM, IN A SANDBOX (cutbox-rows.mjs): the forced cells as the released guide's own fill.sh prints them over the translation dfca02ef5667624f… (all of the seat's roots in one cut). By AI agents, Wed Nov 11 2026. No macro, syntax, notation, axiom, sorry.
-/
import Derived.Test.YtobammkdioeknaaChecked
import GoSem.Claim
import GoSem.ClaimJoined
import GoSem.ClaimMapViews
import Derived.JoinedTies
import Derived.KernelRfl
namespace Go.Proofs.Ytobammkdioeknaa
/- THE CELL 'sum', in the pinned program and in every row, IS THE sha256 OF THE DUMP (.gsa) THAT YtobammkdioeknaaProg.lean LOADS. Nothing in Lean hashes anything: it is a label: what it is worth is what the hold of that sum in a sandbox is worth. -/
noncomputable def Try.pinned : Pinned := { name := "ytobammkdioeknaa", sum := "dfca02ef5667624f76017d629b5206ab4eab7745eea98d48b4974334ea67e616", checked := Try.checked }
namespace Rows
def none {H : Type} : Left H := { results := [], args := [] }

/-- 'dioramalaw27.LearnWeights': WHATEVER THE INPUT: true; the input reads as it did. -/
def learnWeightsSpec : ChangeSpec := { name := "learnWeights", fn := fun _ => fun
  | [d1, d2, d3, d4, d5, d6] => { results := [.lit (.bool true)], args := [d1, d2, d3, d4, d5, d6] }
  | _ => none }
def learnWeightsRow : OpenClaim := { program := "ytobammkdioeknaa", sum := "dfca02ef5667624f76017d629b5206ab4eab7745eea98d48b4974334ea67e616", func := "diorama/dioramalaw27.LearnWeights", spec := "learnWeights", unfollowed := true, recurses := true, apart := false }
def LearnWeightsSaid : Prop := learnWeightsRow.holds Try.pinned (OpenSpec.ofChange learnWeightsSpec)

/-- ITS FALSE NEIGHBOUR: 'it returns false'. Refute it at one input. -/
def learnWeightsWrong : ChangeSpec := { name := "learnWeights", fn := fun _ => fun
  | [d1, d2, d3, d4, d5, d6] => { results := [.lit (.bool false)], args := [d1, d2, d3, d4, d5, d6] }
  | _ => none }
def LearnWeightsWrongFalsely : Prop := learnWeightsRow.holds Try.pinned (OpenSpec.ofChange learnWeightsWrong)

/-- 'dioramalaw27.LearnBlends': WHATEVER THE INPUT: true; the input reads as it did. -/
def learnBlendsSpec : ChangeSpec := { name := "learnBlends", fn := fun _ => fun
  | [d1, d2, d3, d4, d5, d6, d7] => { results := [.lit (.bool true)], args := [d1, d2, d3, d4, d5, d6, d7] }
  | _ => none }
def learnBlendsRow : OpenClaim := { program := "ytobammkdioeknaa", sum := "dfca02ef5667624f76017d629b5206ab4eab7745eea98d48b4974334ea67e616", func := "diorama/dioramalaw27.LearnBlends", spec := "learnBlends", unfollowed := true, recurses := true, apart := false }
def LearnBlendsSaid : Prop := learnBlendsRow.holds Try.pinned (OpenSpec.ofChange learnBlendsSpec)

/-- ITS FALSE NEIGHBOUR: 'it returns false'. Refute it at one input. -/
def learnBlendsWrong : ChangeSpec := { name := "learnBlends", fn := fun _ => fun
  | [d1, d2, d3, d4, d5, d6, d7] => { results := [.lit (.bool false)], args := [d1, d2, d3, d4, d5, d6, d7] }
  | _ => none }
def LearnBlendsWrongFalsely : Prop := learnBlendsRow.holds Try.pinned (OpenSpec.ofChange learnBlendsWrong)

/-- 'dioramalaw27.LearnBetween': WHATEVER THE INPUT: true; the input reads as it did. -/
def learnBetweenSpec : ChangeSpec := { name := "learnBetween", fn := fun _ => fun
  | [d1, d2, d3, d4, d5] => { results := [.lit (.bool true)], args := [d1, d2, d3, d4, d5] }
  | _ => none }
def learnBetweenRow : OpenClaim := { program := "ytobammkdioeknaa", sum := "dfca02ef5667624f76017d629b5206ab4eab7745eea98d48b4974334ea67e616", func := "diorama/dioramalaw27.LearnBetween", spec := "learnBetween", unfollowed := true, recurses := true, apart := false }
def LearnBetweenSaid : Prop := learnBetweenRow.holds Try.pinned (OpenSpec.ofChange learnBetweenSpec)

/-- ITS FALSE NEIGHBOUR: 'it returns false'. Refute it at one input. -/
def learnBetweenWrong : ChangeSpec := { name := "learnBetween", fn := fun _ => fun
  | [d1, d2, d3, d4, d5] => { results := [.lit (.bool false)], args := [d1, d2, d3, d4, d5] }
  | _ => none }
def LearnBetweenWrongFalsely : Prop := learnBetweenRow.holds Try.pinned (OpenSpec.ofChange learnBetweenWrong)

/- THE SECOND FORM. 'bulk': how many values and letters a reading holds, each counted each time it is reached (what is shared counts as often as it is met; a slice's spare places count too). A statement '..UptoSaid' is the law's where the arguments, and the package variables that the reading takes, are together of bulk at most 1048576: NARROWER than '..Said'. Prove '..Said' where nothing that the law and all that it calls make is longer than what came in: it says more and counts as full. Else prove '..UptoSaid'. A law counts once. -/
mutual
def uptoBulk {H : Type} : DataW H → Nat
  | .lit (.string bytes) => bytes.length + 1
  | .lit _ => 1
  | .nil => 1
  | .ptr d => uptoBulk d + 1
  | .slice elems spare => uptoBulkAll elems + uptoBulkAll spare + 1
  | .agg parts => uptoBulkAll parts + 1
  | .iface _ d => uptoBulk d + 1
  | .map entries => uptoBulkEntries entries + 1
  | .held _ => 1
def uptoBulkAll {H : Type} : List (DataW H) → Nat
  | [] => 0
  | d :: r => uptoBulk d + uptoBulkAll r
def uptoBulkEntries {H : Type} : List (Lit × DataW H) → Nat
  | [] => 0
  | x :: r => uptoBulkEntry x + uptoBulkEntries r
def uptoBulkEntry {H : Type} : Lit × DataW H → Nat
  | (.string bytes, d) => bytes.length + uptoBulk d + 1
  | (_, d) => uptoBulk d + 1
 end
def uptoSmall : (H : Type) → List (DataW H) → Bool := fun _ ds => decide (uptoBulkAll ds ≤ 1048576)
def OpenSpec.upto (s : _root_.Go.ChangeSpec) : _root_.Go.OpenSpec := { _root_.Go.OpenSpec.ofChange s with cond := some uptoSmall }

/-- 'dioramalaw27.LearnWeights', WHERE WHAT IT READS IS OF BULK AT MOST 1048576: true; the input reads as it did. -/
def learnWeightsUptoRow : OpenClaim := { program := "ytobammkdioeknaa", sum := "dfca02ef5667624f76017d629b5206ab4eab7745eea98d48b4974334ea67e616", func := "diorama/dioramalaw27.LearnWeights", spec := "learnWeights", unfollowed := true, recurses := true, apart := false, narrowed := true }
def LearnWeightsUptoSaid : Prop := learnWeightsUptoRow.holds Try.pinned (OpenSpec.upto learnWeightsSpec)

/-- 'dioramalaw27.LearnBlends', WHERE WHAT IT READS IS OF BULK AT MOST 1048576: true; the input reads as it did. -/
def learnBlendsUptoRow : OpenClaim := { program := "ytobammkdioeknaa", sum := "dfca02ef5667624f76017d629b5206ab4eab7745eea98d48b4974334ea67e616", func := "diorama/dioramalaw27.LearnBlends", spec := "learnBlends", unfollowed := true, recurses := true, apart := false, narrowed := true }
def LearnBlendsUptoSaid : Prop := learnBlendsUptoRow.holds Try.pinned (OpenSpec.upto learnBlendsSpec)

/-- 'dioramalaw27.LearnBetween', WHERE WHAT IT READS IS OF BULK AT MOST 1048576: true; the input reads as it did. -/
def learnBetweenUptoRow : OpenClaim := { program := "ytobammkdioeknaa", sum := "dfca02ef5667624f76017d629b5206ab4eab7745eea98d48b4974334ea67e616", func := "diorama/dioramalaw27.LearnBetween", spec := "learnBetween", unfollowed := true, recurses := true, apart := false, narrowed := true }
def LearnBetweenUptoSaid : Prop := learnBetweenUptoRow.holds Try.pinned (OpenSpec.upto learnBetweenSpec)

end Rows
end Go.Proofs.Ytobammkdioeknaa
