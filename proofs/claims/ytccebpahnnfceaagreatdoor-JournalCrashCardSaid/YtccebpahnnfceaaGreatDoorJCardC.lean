/- THE TIED CARD of JournalCrash: behind a crash at any step every record that was synced is there, whole and in order, and none that was not appended: for every input the law returns true and each argument reads as it did. Conditions: those of the row (the listed package variables start as the program's text lays them: tied here to the text). -/
import Derived.Test.YtccebpahnnfceaaGreatDoorJRowC
import Derived.Test.YtccebpahnnfceaaGreatDoorCards
import Derived.Test.YtccebpahnnfceaaGreatDoorTie
import Derived.SevenTiedAt
namespace Go.Proofs.YtccebpahnnfceaaGreatDoor
open Go
theorem journalCrash_card : Rows.JournalCrashCardSaid :=
  Claim7.holds_tied_plain_at .later [] [.data, .data, .data, .sentinel, .sentinel] true (true, "a2e06069f2f9d75e950d2bc787d9ec6a687bb86a695edf2c1335797221850e15") true
    journalCrash_row (fun _ h => by cases h) (by kernel_rfl) (fun _ h => by cases h) journalCrash_row_tie rfl ⟨rfl, rfl⟩ (by kernel_rfl) rfl
    (fun f fn hf hfn => by
      obtain rfl : f = 4 := Option.some.inj ((show Tryz.prog.funcNamed "berthmaster/berthmasterlaw05.JournalCrash" = some 4 by kernel_rfl).symm.trans hf) |>.symm
      obtain rfl : fn = Tryz.f4 := (Option.some.inj (Tryz.func4.symm.trans hfn)).symm
      exact ⟨by kernel_rfl, fun j t ht => by
        rw [Tryz.params4] at ht
        have hm : t ∈ [22, 47, 3, 48] := by simpa using Array.mem_of_getElem? ht
        have hall : ([22, 47, 3, 48].all fun u => !Tryz.prog.wantsStandIn u) = true := by kernel_rfl
        exact (show Tryz.prog.wantsStandIn t = false by simpa using List.all_eq_true.1 hall t hm)⟩)
    (by kernel_rfl)
#print axioms journalCrash_card
end Go.Proofs.YtccebpahnnfceaaGreatDoor
