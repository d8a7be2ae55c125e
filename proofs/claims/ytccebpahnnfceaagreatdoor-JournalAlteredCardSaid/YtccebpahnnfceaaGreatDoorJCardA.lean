/- THE TIED CARD of JournalAltered: bits turned within 32 side by side of a segment are seen, and what is left is a first part: for every input the law returns true and each argument reads as it did. Conditions: those of the row (the listed package variables start as the program's text lays them: tied here to the text). -/
import Derived.Test.YtccebpahnnfceaaGreatDoorJRowA
import Derived.Test.YtccebpahnnfceaaGreatDoorCards
import Derived.Test.YtccebpahnnfceaaGreatDoorTie
import Derived.SevenTiedAt
namespace Go.Proofs.YtccebpahnnfceaaGreatDoor
open Go
theorem journalAltered_card : Rows.JournalAlteredCardSaid :=
  Claim7.holds_tied_plain_at .later [] [.data, .data, .data, .sentinel, .sentinel] true (true, "a2e06069f2f9d75e950d2bc787d9ec6a687bb86a695edf2c1335797221850e15") true
    journalAltered_row (fun _ h => by cases h) (by kernel_rfl) (fun _ h => by cases h) journalAltered_row_tie rfl ⟨rfl, rfl⟩ (by kernel_rfl) rfl
    (fun f fn hf hfn => by
      obtain rfl : f = 3 := Option.some.inj ((show Tryz.prog.funcNamed "berthmaster/berthmasterlaw05.JournalAltered" = some 3 by kernel_rfl).symm.trans hf) |>.symm
      obtain rfl : fn = Tryz.f3 := (Option.some.inj (Tryz.func3.symm.trans hfn)).symm
      exact ⟨by kernel_rfl, fun j t ht => by
        rw [Tryz.params3] at ht
        have hm : t ∈ [22, 3, 3, 23] := by simpa using Array.mem_of_getElem? ht
        have hall : ([22, 3, 3, 23].all fun u => !Tryz.prog.wantsStandIn u) = true := by kernel_rfl
        exact (show Tryz.prog.wantsStandIn t = false by simpa using List.all_eq_true.1 hall t hm)⟩)
    (by kernel_rfl)
#print axioms journalAltered_card
end Go.Proofs.YtccebpahnnfceaaGreatDoor
