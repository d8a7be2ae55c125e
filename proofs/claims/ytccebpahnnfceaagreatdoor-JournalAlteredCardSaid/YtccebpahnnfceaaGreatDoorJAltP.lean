/- What is read back of a damaged journal. No program here. -/
import Derived.Test.YtccebpahnnfceaaGreatDoorJBurst
import Derived.Test.YtccebpahnnfceaaGreatDoorJCrashP
namespace Go.Proofs.YtccebpahnnfceaaGreatDoor
open Go.Vc
set_option linter.unusedVariables false
set_option linter.unusedSimpArgs false
theorem recov_at (n : Nat) (fm : FM) (post : List (Nat × FM)) (h : sizeOfR (recsOf (frScan fm.bytes)) < fm.bytes.length) : recov ((n, fm) :: post) = recsOf (frScan fm.bytes) := by
  rw [recov.eq_def]
  dsimp only
  rw [if_pos h]
theorem recov_stop (fm : FM) (post : List (Nat × FM)) (hst : sizeOfR (recsOf (frScan fm.bytes)) < fm.bytes.length) : ∀ (cs : List Ch) (n f : Nat), Chain n cs → small (recsC cs) → f = n + (recsC cs).length → recov (cs.map fullF ++ (f, fm) :: post) = recsC cs ++ recsOf (frScan fm.bytes) ∧ recNext (cs.map fullF ++ (f, fm) :: post) = n + (recsC cs ++ recsOf (frScan fm.bytes)).length
  | [], n, f, _, _, hf => by
    have e : f = n := by simpa [recsC] using hf
    subst e
    exact ⟨recov_at _ _ _ hst, by show f + (recov ((f, fm) :: post)).length = _; rw [recov_at _ _ _ hst]; rfl⟩
  | (g, qs) :: cs, n, f, h, hs, hf => by
    rw [recsC_cons, List.length_append] at hf
    dsimp only at hf
    have hs1 : small qs := fun q hq => hs q (by rw [recsC_cons]; exact List.mem_append_left _ hq)
    have hs2 : small (recsC cs) := fun q hq => hs q (by rw [recsC_cons]; exact List.mem_append_right _ hq)
    have ih := recov_stop fm post hst cs (n + qs.length) f h.2.2 hs2 (by omega)
    have hfull := recs_full qs hs1
    have hmain : recov ((fullF (g, qs)) :: (cs.map fullF ++ (f, fm) :: post)) = qs ++ recov (cs.map fullF ++ (f, fm) :: post) := by
      cases cs with
      | nil =>
        have hf' : f = g + qs.length := by have := h.1; simp [recsC] at hf; omega
        show recov ((g, ⟨segBytes qs, sizeOfR qs⟩) :: (f, fm) :: post) = _
        rw [recov.eq_def]
        dsimp only
        rw [hfull, segBytes_len, if_neg (by omega), if_pos hf']
        rfl
      | cons c cs =>
        obtain ⟨g2, q2⟩ := c
        have hg2 : g2 = g + qs.length := by have := h.1; have := h.2.2.1; omega
        show recov ((g, ⟨segBytes qs, sizeOfR qs⟩) :: (fullF (g2, q2) :: (cs.map fullF ++ (f, fm) :: post))) = _
        rw [recov.eq_def]
        dsimp only [fullF]
        rw [hfull, segBytes_len, if_neg (by omega), if_pos hg2]
        rfl
    have e1 : recov (((g, qs) :: cs).map fullF ++ (f, fm) :: post) = recsC ((g, qs) :: cs) ++ recsOf (frScan fm.bytes) := by
      rw [List.map_cons, List.cons_append, hmain, ih.1, recsC_cons, List.append_assoc]
    refine ⟨e1, ?_⟩
    show g + (recov (((g, qs) :: cs).map fullF ++ (f, fm) :: post)).length = _
    rw [e1, h.1]
/-- A damaged segment stops the reading. -/
theorem damaged_stops {rs : List (List UInt8)} {x : List UInt8} {p : Nat} (hs : small rs) (hl : x.length = (segBytes rs).length) (hn : Near p (diff (segBytes rs) x)) (hd : true ∈ diff (segBytes rs) x) : ∃ k, k < rs.length ∧ recsOf (frScan x) = rs.take k ∧ sizeOfR (recsOf (frScan x)) < x.length := by
  obtain ⟨k, hk, hr⟩ := scan_damaged rs x p hs hl hn hd
  refine ⟨k, hk, hr, ?_⟩
  rw [hr, hl, segBytes_len]
  have e : sizeOfR rs = sizeOfR (rs.take k) + sizeOfR (rs.drop k) := by rw [← sizeOfR_app, List.take_append_drop]
  have h12 := sizeOfR_len (rs.drop k)
  rw [List.length_drop] at h12
  omega
end Go.Proofs.YtccebpahnnfceaaGreatDoor
