/- What is read back of what was written. No program here. -/
import Derived.Test.YtccebpahnnfceaaGreatDoorJRecov
namespace Go.Proofs.YtccebpahnnfceaaGreatDoor
open Go.Vc
set_option linter.unusedVariables false
set_option linter.unusedSimpArgs false
theorem get4_put4 (s : BitVec 32) (x : List UInt8) : get4 (put4 s ++ x) = s := by
  show ((((s.setWidth 8).setWidth 32 ||| ((s >>> 8).setWidth 8).setWidth 32 <<< 8) ||| ((s >>> 16).setWidth 8).setWidth 32 <<< 16) ||| ((s >>> 24).setWidth 8).setWidth 32 <<< 24) = s
  apply BitVec.eq_of_getLsbD_eq
  intro i hi
  simp only [BitVec.getLsbD_or, BitVec.getLsbD_setWidth, BitVec.getLsbD_shiftLeft, BitVec.getLsbD_ushiftRight]
  by_cases h1 : i < 8
  · simp [h1, hi, show i < 16 by omega, show i < 24 by omega]
  · by_cases h2 : i < 16
    · simp [h1, h2, hi, show i < 24 by omega, show i - 8 < 8 by omega, show 8 + (i - 8) = i by omega, show i - 8 < 32 by omega]
    · by_cases h3 : i < 24
      · simp [h1, h2, h3, hi, show ¬ i - 8 < 8 by omega, show i - 16 < 8 by omega, show 16 + (i - 16) = i by omega, show i - 16 < 32 by omega]
      · simp [h1, h2, h3, hi, show ¬ i - 8 < 8 by omega, show ¬ i - 16 < 8 by omega, show i - 24 < 8 by omega, show 24 + (i - 24) = i by omega, show i - 24 < 32 by omega]
theorem frLen_head (k : UInt8) (n : Nat) (x : List UInt8) (h : n < 16777216) : frLen (encHead k n ++ x) = n := by
  show (UInt8.ofNat n).toNat + (UInt8.ofNat (n / 256)).toNat * 256 + (UInt8.ofNat (n / 65536)).toNat * 65536 = n
  simp only [UInt8.toNat_ofNat']
  omega
def frHead (k : UInt8) (n : Nat) : List UInt8 := encHead k n ++ put4 (crcMore 0 (encHead k n))
def frTail (k : UInt8) (body : List UInt8) : List UInt8 := body ++ put4 (crcMore (crcMore 0 (encHead k body.length)) body)
theorem encFrame_eq (k : UInt8) (body : List UInt8) : encFrame k body = frHead k body.length ++ frTail k body := by
  simp [encFrame, frHead, frTail]
theorem frHead_len (k : UInt8) (n : Nat) : (frHead k n).length = 8 := by simp [frHead, encHead, put4]
/-- What is told by a head that stands whole. -/
theorem head_facts (k : UInt8) (n : Nat) (x : List UInt8) (h : n < 16777216) : get4 ((frHead k n ++ x).drop 4) = crcMore 0 ((frHead k n ++ x).take 4) ∧ frLen (frHead k n ++ x) = n ∧ (frHead k n ++ x).take 4 = encHead k n := by
  have e1 : (frHead k n ++ x).drop 4 = put4 (crcMore 0 (encHead k n)) ++ x := by simp [frHead, encHead]
  have e2 : (frHead k n ++ x).take 4 = encHead k n := by simp [frHead, encHead]
  refine ⟨by rw [e1, e2, get4_put4], ?_, e2⟩
  rw [frHead, List.append_assoc]
  exact frLen_head k n _ h
theorem read_frame (k : UInt8) (body rest : List UInt8) (hb : body.length ≤ 1048576) : frRead (encFrame k body ++ rest) = some (k, body) := by
  rw [encFrame_eq, List.append_assoc]
  obtain ⟨h1, h2, h3⟩ := head_facts k body.length (frTail k body ++ rest) (by omega)
  have hl := frHead_len k body.length
  have hlen : (frHead k body.length ++ (frTail k body ++ rest)).length = 12 + body.length + rest.length := by
    simp [hl, frTail, put4]; omega
  unfold frRead
  rw [if_neg (by omega), if_neg (by simpa using h1), if_neg (by omega), if_neg (by omega)]
  rw [h2, h3]
  have e1 : (frHead k body.length ++ (frTail k body ++ rest)).drop (8 + body.length) = put4 (crcMore (crcMore 0 (encHead k body.length)) body) ++ rest := by
    rw [List.drop_append, hl, List.drop_eq_nil_of_le (by omega), show 8 + body.length - 8 = body.length by omega, frTail, List.append_assoc, List.drop_left]
    rfl
  have e2 : ((frHead k body.length ++ (frTail k body ++ rest)).drop 8).take body.length = body := by
    rw [List.drop_append, hl, List.drop_eq_nil_of_le (by omega), frTail, List.append_assoc]
    simp
  rw [e1, e2, get4_put4, if_neg (by simp)]
  rfl
theorem read_short (k : UInt8) (body : List UInt8) (m : Nat) (hm : m < 12 + body.length) (hb : body.length ≤ 1048576) : frRead ((encFrame k body).take m) = none := by
  have hl := frHead_len k body.length
  unfold frRead
  by_cases h8 : m < 8
  · rw [if_pos (by rw [List.length_take]; omega)]
  · have e : (encFrame k body).take m = frHead k body.length ++ (frTail k body).take (m - 8) := by
      rw [encFrame_eq, List.take_append, hl, List.take_of_length_le (by omega)]
    obtain ⟨h1, h2, h3⟩ := head_facts k body.length ((frTail k body).take (m - 8)) (by omega)
    have hlen : (frHead k body.length ++ (frTail k body).take (m - 8)).length ≤ m := by
      rw [← e, List.length_take]; omega
    have hlen2 : 8 ≤ (frHead k body.length ++ (frTail k body).take (m - 8)).length := by rw [List.length_append, hl]; omega
    rw [e, if_neg (by omega), if_neg (by simpa using h1), if_neg (by omega), if_pos (by omega)]
/-- A segment's bytes. -/
def segBytes (rs : List (List UInt8)) : List UInt8 := rs.flatMap (encFrame 1)
theorem segBytes_len (rs : List (List UInt8)) : (segBytes rs).length = sizeOfR rs := by
  induction rs with
  | nil => rfl
  | cons r rs ih =>
    show (encFrame 1 r ++ segBytes rs).length = _
    rw [List.length_append, encFrame_len, ih]
    simp [sizeOfR]
theorem segBytes_app (a b : List (List UInt8)) : segBytes (a ++ b) = segBytes a ++ segBytes b := List.flatMap_append
theorem segBytes_one (b : List UInt8) : segBytes [b] = encFrame 1 b := by simp [segBytes]
def small (rs : List (List UInt8)) : Prop := ∀ r ∈ rs, r.length ≤ 3000
theorem scan_app (x : List UInt8) : ∀ (rs : List (List UInt8)), small rs → frScan (segBytes rs ++ x) = rs.map (fun r => ((1 : UInt8), r)) ++ frScan x
  | [], _ => rfl
  | r :: rs, h => by
    show frScan ((encFrame 1 r ++ segBytes rs) ++ x) = _
    rw [List.append_assoc, frScan_eq, read_frame 1 r _ (by have := h r (List.mem_cons_self ..); omega)]
    dsimp only
    rw [List.drop_append, List.drop_eq_nil_of_le (by rw [encFrame_len]; omega), encFrame_len, show 12 + r.length - (r.length + 12) = 0 by omega, List.drop_zero, List.nil_append, scan_app x rs (fun q hq => h q (List.mem_cons_of_mem _ hq))]
    rfl
theorem recsOf_map (rs : List (List UInt8)) (fs : List (UInt8 × List UInt8)) : recsOf (rs.map (fun r => ((1 : UInt8), r)) ++ fs) = rs ++ recsOf fs := by
  unfold recsOf
  induction rs with
  | nil => rfl
  | cons r rs ih => simp [List.takeWhile_cons] at ih ⊢; exact ih
theorem scan_nil : frScan [] = [] := rfl
theorem recs_full (rs : List (List UInt8)) (h : small rs) : recsOf (frScan (segBytes rs)) = rs := by
  have := scan_app [] rs h
  rw [List.append_nil, scan_nil] at this
  rw [this, recsOf_map]
  simp [recsOf]
/-- Of a first part of a segment: the records that stand whole in it. -/
theorem recs_part : ∀ (rs : List (List UInt8)) (m : Nat), small rs → ∃ t, t ≤ rs.length ∧ recsOf (frScan ((segBytes rs).take m)) = rs.take t ∧ ∀ s, s ≤ rs.length → sizeOfR (rs.take s) ≤ m → s ≤ t
  | [], m, _ => ⟨0, Nat.le_refl _, by simp [segBytes, scan_nil, recsOf], fun s hs _ => hs⟩
  | r :: rs, m, h => by
    have hr : r.length ≤ 3000 := h r (List.mem_cons_self ..)
    have hseg : segBytes (r :: rs) = encFrame 1 r ++ segBytes rs := rfl
    by_cases hm : m < 12 + r.length
    · refine ⟨0, Nat.zero_le _, ?_, fun s hs hsz => ?_⟩
      · have e : (segBytes (r :: rs)).take m = (encFrame 1 r).take m := by
          rw [hseg, List.take_append_of_le_length (by rw [encFrame_len]; omega)]
        rw [e, frScan_eq, read_short 1 r m hm (by omega)]
        simp [recsOf]
      · cases s with
        | zero => exact Nat.le_refl _
        | succ s => simp [sizeOfR] at hsz; omega
    · obtain ⟨t, ht, he, hmax⟩ := recs_part rs (m - (r.length + 12)) (fun q hq => h q (List.mem_cons_of_mem _ hq))
      refine ⟨t + 1, by simp; omega, ?_, fun s hs hsz => ?_⟩
      · have e : (segBytes (r :: rs)).take m = segBytes [r] ++ (segBytes rs).take (m - (r.length + 12)) := by
          rw [hseg, List.take_append, encFrame_len, List.take_of_length_le (by rw [encFrame_len]; omega), segBytes_one]
        rw [e, scan_app _ [r] (fun q hq => by simp at hq; subst hq; exact hr), recsOf_map, he]
        rfl
      · cases s with
        | zero => omega
        | succ s =>
          have := hmax s (by simpa using hs) (by simp [sizeOfR] at hsz ⊢; omega)
          omega
end Go.Proofs.YtccebpahnnfceaaGreatDoor
