/-
  DERIVED. GIVEN WITH THE SEED: THE CARDS: each row of YtplhjndcokidfaaGreatDoorRows.lean that lists a variable, with what it lists TIED to the program's text (the seventh form; the later family's looks); each row that meets fmt, with fmt's text TOLD by the authors' own Lean function (tested against real Go, not proved from fmt's source: count such statements apart). THE CARD IS WHAT COUNTS. Prove the row's statement (the work); the ties are given (YtplhjndcokidfaaGreatDoorTie.lean); close each card by the builder's one call (the guide's Derived/Test/ToyasCard.lean, 'card_holds'). Laid BY PROGRAM, IN A SANDBOX (cutbox-door.mjs). By AI agents, Wed Nov 11 2026. No macro, syntax, notation, axiom, sorry.
-/
import Derived.Test.YtplhjndcokidfaaGreatDoorRows
import GoSem.ClaimSeven
namespace Go.Proofs.YtplhjndcokidfaaGreatDoor
namespace Rows

/-- THE TIED CARD OF 'dioramalaw10.TypingFinds'. -/
def typingFindsCard : Claim7 := { stood := { row := typingFindsRow, standIns := [], harness := (true, "fd4f481900eea6966fa7a2574926501d85d889b69bf5b0cbf426c8b791e70a82"), looks := true }, kinds := [], alts := [], laidByText := true, laidKinds := [.data, .data, .data, .widerDeep, .funcs], laidTests := true, laidLooks := .later }
def TypingFindsCardSaid : Prop := Claim7.holds Tryz.pinned (.plain (OpenSpec.ofChange typingFindsSpec)) typingFindsCard

/-- THE TIED CARD OF 'dioramalaw10.TypingLeads'. -/
def typingLeadsCard : Claim7 := { stood := { row := typingLeadsRow, standIns := [], harness := (true, "fd4f481900eea6966fa7a2574926501d85d889b69bf5b0cbf426c8b791e70a82"), looks := true }, kinds := [], alts := [], laidByText := true, laidKinds := [.data, .data, .data, .widerDeep, .funcs], laidTests := true, laidLooks := .later }
def TypingLeadsCardSaid : Prop := Claim7.holds Tryz.pinned (.plain (OpenSpec.ofChange typingLeadsSpec)) typingLeadsCard

/-- THE TIED CARD OF 'dioramalaw10.TypingUp'. -/
def typingUpCard : Claim7 := { stood := { row := typingUpRow, standIns := [], harness := (true, "fd4f481900eea6966fa7a2574926501d85d889b69bf5b0cbf426c8b791e70a82"), looks := true }, kinds := [], alts := [], laidByText := true, laidKinds := [.data, .data, .data, .widerDeep, .funcs], laidTests := true, laidLooks := .later }
def TypingUpCardSaid : Prop := Claim7.holds Tryz.pinned (.plain (OpenSpec.ofChange typingUpSpec)) typingUpCard

/-- THE TIED CARD OF 'dioramalaw27.LearnFits'. -/
def learnFitsCard : Claim7 := { stood := { row := learnFitsRow, standIns := [], harness := (true, "fd4f481900eea6966fa7a2574926501d85d889b69bf5b0cbf426c8b791e70a82"), looks := true }, kinds := [], alts := [], laidByText := true, laidKinds := [.data, .data, .data, .widerDeep, .funcs], laidTests := true, laidLooks := .later }
def LearnFitsCardSaid : Prop := Claim7.holds Tryz.pinned (.plain (OpenSpec.ofChange learnFitsSpec)) learnFitsCard

/-- THE SECOND FORM's CARD OF 'dioramalaw10.TypingFinds'. -/
def typingFindsUptoCard : Claim7 := { stood := { row := typingFindsUptoRow, standIns := [], harness := (true, "fd4f481900eea6966fa7a2574926501d85d889b69bf5b0cbf426c8b791e70a82"), looks := true }, kinds := [], alts := [], laidByText := true, laidKinds := [.data, .data, .data, .widerDeep, .funcs], laidTests := true, laidLooks := .later }
def TypingFindsUptoCardSaid : Prop := Claim7.holds Tryz.pinned (.plain (OpenSpec.upto typingFindsSpec)) typingFindsUptoCard

/-- THE SECOND FORM's CARD OF 'dioramalaw10.TypingLeads'. -/
def typingLeadsUptoCard : Claim7 := { stood := { row := typingLeadsUptoRow, standIns := [], harness := (true, "fd4f481900eea6966fa7a2574926501d85d889b69bf5b0cbf426c8b791e70a82"), looks := true }, kinds := [], alts := [], laidByText := true, laidKinds := [.data, .data, .data, .widerDeep, .funcs], laidTests := true, laidLooks := .later }
def TypingLeadsUptoCardSaid : Prop := Claim7.holds Tryz.pinned (.plain (OpenSpec.upto typingLeadsSpec)) typingLeadsUptoCard

/-- THE SECOND FORM's CARD OF 'dioramalaw10.TypingUp'. -/
def typingUpUptoCard : Claim7 := { stood := { row := typingUpUptoRow, standIns := [], harness := (true, "fd4f481900eea6966fa7a2574926501d85d889b69bf5b0cbf426c8b791e70a82"), looks := true }, kinds := [], alts := [], laidByText := true, laidKinds := [.data, .data, .data, .widerDeep, .funcs], laidTests := true, laidLooks := .later }
def TypingUpUptoCardSaid : Prop := Claim7.holds Tryz.pinned (.plain (OpenSpec.upto typingUpSpec)) typingUpUptoCard

/-- THE SECOND FORM's CARD OF 'dioramalaw27.LearnFits'. -/
def learnFitsUptoCard : Claim7 := { stood := { row := learnFitsUptoRow, standIns := [], harness := (true, "fd4f481900eea6966fa7a2574926501d85d889b69bf5b0cbf426c8b791e70a82"), looks := true }, kinds := [], alts := [], laidByText := true, laidKinds := [.data, .data, .data, .widerDeep, .funcs], laidTests := true, laidLooks := .later }
def LearnFitsUptoCardSaid : Prop := Claim7.holds Tryz.pinned (.plain (OpenSpec.upto learnFitsSpec)) learnFitsUptoCard
end Rows
end Go.Proofs.YtplhjndcokidfaaGreatDoor
