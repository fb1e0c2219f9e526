/-
  DERIVED. GIVEN WITH THE SEED: THE PROGRAM's TIES (one call each: nine closed facts by the kernel) AND EACH ROW's TIE, after the 31st guide's Derived/Test/Toyas{Tie, Card}.lean. No idea stands in it: it is a product of the set-up. Laid BY PROGRAM, IN A SANDBOX (cutbox-door.mjs). By AI agents, Wed Nov 11 2026. No macro, syntax, notation, axiom, sorry.
-/
import Derived.Test.YtplhjndcokidfaaGreatDoorRows
import Derived.LaidByTextLater
import Derived.SevenTiedAt
import Derived.LaidSub
import Derived.LaidOnce
namespace Go.Proofs.YtplhjndcokidfaaGreatDoor
open Go
set_option maxRecDepth 100000
theorem seatTie1 : Tryz.prog.laidByTextLater [("math/bits.deBruijn32tab", Rows.laid_math_bits_deBruijn32tab), ("math/bits.deBruijn64tab", Rows.laid_math_bits_deBruijn64tab), ("internal/strconv.uint64pow10", Rows.laid_internal_strconv_uint64pow10), ("diorama/schema.words", Rows.laid_diorama_schema_words), ("diorama/typing.checks", Rows.laid_diorama_typing_checks)] [.data, .data, .data, .widerDeep, .funcs] true :=
  Program.laidByTextLater_by_one 76 8 65 (by kernel_rfl) (by kernel_rfl) (by kernel_rfl) (by kernel_rfl) (by kernel_rfl) (by kernel_rfl) (fun _ _ => by kernel_rfl)
theorem noOwnUnsafe : Tryz.pinned.checked.prog.headLifts.contains "ownunsafe" = false := by kernel_rfl
theorem tie : Tryz.prog.laidByTextLater [("math/bits.deBruijn32tab", Rows.laid_math_bits_deBruijn32tab), ("math/bits.deBruijn64tab", Rows.laid_math_bits_deBruijn64tab), ("internal/strconv.uint64pow10", Rows.laid_internal_strconv_uint64pow10), ("diorama/schema.words", Rows.laid_diorama_schema_words), ("diorama/typing.checks", Rows.laid_diorama_typing_checks)] [.data, .data, .data, .widerDeep, .funcs] true :=
  Program.laidByTextLater.sub seatTie1 ["math/bits.deBruijn32tab", "math/bits.deBruijn64tab", "internal/strconv.uint64pow10", "diorama/schema.words", "diorama/typing.checks"] (by kernel_rfl) (by kernel_rfl)
theorem typingFinds_row_tie : Rows.typingFindsRow.laidByTextAt .later Tryz.pinned [.data, .data, .data, .widerDeep, .funcs] true :=
  OpenClaim.laidByTextAt_later rfl rfl tie noOwnUnsafe
theorem typingLeads_row_tie : Rows.typingLeadsRow.laidByTextAt .later Tryz.pinned [.data, .data, .data, .widerDeep, .funcs] true :=
  OpenClaim.laidByTextAt_later rfl rfl tie noOwnUnsafe
theorem typingUp_row_tie : Rows.typingUpRow.laidByTextAt .later Tryz.pinned [.data, .data, .data, .widerDeep, .funcs] true :=
  OpenClaim.laidByTextAt_later rfl rfl tie noOwnUnsafe
theorem learnFits_row_tie : Rows.learnFitsRow.laidByTextAt .later Tryz.pinned [.data, .data, .data, .widerDeep, .funcs] true :=
  OpenClaim.laidByTextAt_later rfl rfl tie noOwnUnsafe
theorem typingFindsUpto_row_tie : Rows.typingFindsUptoRow.laidByTextAt .later Tryz.pinned [.data, .data, .data, .widerDeep, .funcs] true :=
  OpenClaim.laidByTextAt_later rfl rfl tie noOwnUnsafe
theorem typingLeadsUpto_row_tie : Rows.typingLeadsUptoRow.laidByTextAt .later Tryz.pinned [.data, .data, .data, .widerDeep, .funcs] true :=
  OpenClaim.laidByTextAt_later rfl rfl tie noOwnUnsafe
theorem typingUpUpto_row_tie : Rows.typingUpUptoRow.laidByTextAt .later Tryz.pinned [.data, .data, .data, .widerDeep, .funcs] true :=
  OpenClaim.laidByTextAt_later rfl rfl tie noOwnUnsafe
theorem learnFitsUpto_row_tie : Rows.learnFitsUptoRow.laidByTextAt .later Tryz.pinned [.data, .data, .data, .widerDeep, .funcs] true :=
  OpenClaim.laidByTextAt_later rfl rfl tie noOwnUnsafe
end Go.Proofs.YtplhjndcokidfaaGreatDoor
