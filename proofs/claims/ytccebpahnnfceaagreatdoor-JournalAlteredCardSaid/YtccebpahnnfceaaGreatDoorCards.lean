/-
  DERIVED. GIVEN WITH THE SEED: THE CARDS: each row of YtccebpahnnfceaaGreatDoorRows.lean that lists a variable, with what it lists TIED to the program's text (the seventh form; the later family's looks); each row that meets fmt, with fmt's text TOLD by the authors' own Lean function (tested against real Go, not proved from fmt's source: count such statements apart). THE CARD IS WHAT COUNTS. Prove the row's statement (the work); the ties are given (YtccebpahnnfceaaGreatDoorTie.lean); close each card by the builder's one call (the guide's Derived/Test/ToyasCard.lean, 'card_holds'). Laid BY PROGRAM, IN A SANDBOX (cutbox-door.mjs). By AI agents, Wed Nov 11 2026. No macro, syntax, notation, axiom, sorry.
-/
import Derived.Test.YtccebpahnnfceaaGreatDoorRows
import GoSem.ClaimSeven
namespace Go.Proofs.YtccebpahnnfceaaGreatDoor
namespace Rows

/-- THE TIED CARD OF 'berthmasterlaw05.JournalAltered'. -/
def journalAlteredCard : Claim7 := { stood := { row := journalAlteredRow, standIns := [], harness := (true, "a2e06069f2f9d75e950d2bc787d9ec6a687bb86a695edf2c1335797221850e15"), looks := true }, kinds := [], alts := [], laidByText := true, laidKinds := [.data, .data, .data, .sentinel, .sentinel], laidTests := true, laidLooks := .later }
def JournalAlteredCardSaid : Prop := Claim7.holds Tryz.pinned (.plain (OpenSpec.ofChange journalAlteredSpec)) journalAlteredCard

/-- THE TIED CARD OF 'berthmasterlaw05.JournalCrash'. -/
def journalCrashCard : Claim7 := { stood := { row := journalCrashRow, standIns := [], harness := (true, "a2e06069f2f9d75e950d2bc787d9ec6a687bb86a695edf2c1335797221850e15"), looks := true }, kinds := [], alts := [], laidByText := true, laidKinds := [.data, .data, .data, .sentinel, .sentinel], laidTests := true, laidLooks := .later }
def JournalCrashCardSaid : Prop := Claim7.holds Tryz.pinned (.plain (OpenSpec.ofChange journalCrashSpec)) journalCrashCard

/-- THE SECOND FORM's CARD OF 'berthmasterlaw05.JournalAltered'. -/
def journalAlteredUptoCard : Claim7 := { stood := { row := journalAlteredUptoRow, standIns := [], harness := (true, "a2e06069f2f9d75e950d2bc787d9ec6a687bb86a695edf2c1335797221850e15"), looks := true }, kinds := [], alts := [], laidByText := true, laidKinds := [.data, .data, .data, .sentinel, .sentinel], laidTests := true, laidLooks := .later }
def JournalAlteredUptoCardSaid : Prop := Claim7.holds Tryz.pinned (.plain (OpenSpec.upto journalAlteredSpec)) journalAlteredUptoCard

/-- THE SECOND FORM's CARD OF 'berthmasterlaw05.JournalCrash'. -/
def journalCrashUptoCard : Claim7 := { stood := { row := journalCrashUptoRow, standIns := [], harness := (true, "a2e06069f2f9d75e950d2bc787d9ec6a687bb86a695edf2c1335797221850e15"), looks := true }, kinds := [], alts := [], laidByText := true, laidKinds := [.data, .data, .data, .sentinel, .sentinel], laidTests := true, laidLooks := .later }
def JournalCrashUptoCardSaid : Prop := Claim7.holds Tryz.pinned (.plain (OpenSpec.upto journalCrashSpec)) journalCrashUptoCard
end Rows
end Go.Proofs.YtccebpahnnfceaaGreatDoor
