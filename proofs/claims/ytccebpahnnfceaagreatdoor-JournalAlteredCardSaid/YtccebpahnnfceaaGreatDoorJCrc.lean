/- crc: what the checksum's functions come to. -/
import Derived.Test.YtccebpahnnfceaaGreatDoorV0
import Derived.Test.YtccebpahnnfceaaGreatDoorVcInt
namespace Go.Proofs.YtccebpahnnfceaaGreatDoor
open Go.Vc
set_option linter.unusedVariables false
set_option linter.unusedSimpArgs false
/-! ### The checksum -/
def poly : BitVec 32 := 3988292384#32
def crcStep (s : BitVec 32) : BitVec 32 := if s.getLsbD 0 then (s >>> 1) ^^^ poly else s >>> 1
def crcSteps : Nat → BitVec 32 → BitVec 32
  | 0, s => s
  | k + 1, s => crcSteps k (crcStep s)
def crcByte (s : BitVec 32) (c : UInt8) : BitVec 32 := crcSteps 8 (s ^^^ c.toBitVec.setWidth 32)
def crcFold (s : BitVec 32) (l : List UInt8) : BitVec 32 := l.foldl crcByte s
def crcMore (s : BitVec 32) (l : List UInt8) : BitVec 32 := ~~~ crcFold (~~~ s) l
theorem and1_iff (s : BitVec 32) : bits .and .u32 (s.toNat : Int) 1 = 1 ↔ s.getLsbD 0 = true := by
  have : (1 : Int) = ((1#32).toNat : Int) := by decide
  rw [this, bits_and32]
  have h1 : (s &&& 1#32).toNat = s.toNat % 2 := by
    rw [BitVec.toNat_and]; simp [Nat.and_one_is_mod]
  rw [h1, BitVec.getLsbD, Nat.testBit_zero]
  simp
  omega
theorem byByte_ok (s : BitVec 32) (c : UInt8) (w : World) : CallP Tryz.prog n_crc_byByte [.int .u32 s.toNat, .int .u8 c.toNat] w (ret1 (tI .u32) fun r w' => r = (crcByte s c).toNat ∧ w' = w) := by
  refine vc_crc_byByte _ _ _ _ ?_
  unfold F_crc_byByte
  have h0 : bits .xor .u32 (s.toNat : Int) (IntKind.u32.wrap (c.toNat : Int)) = ((s ^^^ c.toBitVec.setWidth 32).toNat : Int) := by
    have hc : (c.toNat : Int) = ((c.toBitVec.setWidth 32).toNat : Int) := by
      rw [BitVec.toNat_setWidth]; have := c.toNat_lt; simp
    rw [hc, wrap_toNat32, bits_xor32]
  rw [h0]
  refine loop_to (fun i (x : Int × Int) w' => x.2 = (i : Int) ∧ w' = w ∧ ∃ t : BitVec 32, x.1 = t.toNat ∧ crcSteps (8 - i) t = crcByte s c) 8 ?_ ?_ (Nat.zero_le _) ⟨rfl, rfl, _, rfl, rfl⟩
  · rintro J i ⟨x, y⟩ w' hi ⟨hy, rfl, t, hx, ht⟩ k
    dsimp only at hx hy
    subst hx; subst hy
    refine ⟨fun _ => ?_, fun h => absurd (show (i : Int) < 8 by omega) h⟩
    refine v_join (fun r v => v = w' ∧ r = (crcStep t).toNat) ?_ ?_
    · rintro r v ⟨rfl, rfl⟩
      refine k _ _ ⟨?_, rfl, crcStep t, rfl, ?_⟩
      · exact IntWalk.i64_in _ (by omega)
      · rw [← ht, show 8 - i = (8 - (i + 1)) + 1 by omega]; rfl
    · have hs := shrV32 t 1 (by omega)
      refine ⟨fun h => ⟨rfl, ?_⟩, fun h => ⟨rfl, ?_⟩⟩
      · have := (and1_iff t).1 h
        rw [show shrV .u32 (t.toNat : Int) 1 = ((t >>> 1).toNat : Int) from hs]
        rw [show (3988292384 : Int) = (poly.toNat : Int) by decide, bits_xor32, crcStep, if_pos this]
      · have : ¬ t.getLsbD 0 = true := fun q => h ((and1_iff t).2 q)
        rw [show shrV .u32 (t.toNat : Int) 1 = ((t >>> 1).toNat : Int) from hs, crcStep, if_neg this]
  · rintro J ⟨x, y⟩ w' ⟨hy, rfl, t, hx, ht⟩
    dsimp only at hx hy
    subst hx; subst hy
    refine ⟨fun h => absurd h (by omega), fun _ => ⟨?_, rfl⟩⟩
    rw [← ht]; rfl
theorem More_ok (s : BitVec 32) (b : Sl) (l : List UInt8) (w : World) (h : RdB (hp w) b l) (hb : b.len ≤ 9223372036854775806) : CallP Tryz.prog n_crc_More [.int .u32 s.toNat, Sl.v b] w (ret1 (tI .u32) fun r w' => r = (crcMore s l).toNat ∧ w' = w) := by
  refine vc_crc_More _ _ _ _ ?_
  unfold F_crc_More
  rw [cpl32]
  refine loop_to (fun i (x : Int × Int) w' => x.2 = (i : Int) ∧ w' = w ∧ x.1 = (crcFold (~~~ s) (l.take i)).toNat) b.len ?_ ?_ (Nat.zero_le _) ⟨rfl, rfl, by simp [crcFold]⟩
  · rintro J i ⟨x, y⟩ w' hi ⟨hy, rfl, hx⟩ k
    dsimp only at hx hy
    subst hx; subst hy
    refine ⟨fun _ => ?_, fun h => absurd (show (i : Int) < b.len by omega) h⟩
    refine RdB.at h (Sub.refl _) (by omega) (by omega) ?_
    refine (byByte_ok _ _ _).mono1 ?_
    rintro r v ⟨rfl, rfl⟩
    refine k _ _ ⟨IntWalk.i64_in _ (by omega), rfl, ?_⟩
    have hl : i < l.length := by rw [h.len]; exact hi
    rw [List.take_succ_eq_append_getElem hl, crcFold, crcFold, List.foldl_append]
    simp [List.getD, hl]
  · rintro J ⟨x, y⟩ w' ⟨hy, rfl, hx⟩
    dsimp only at hx hy
    subst hx; subst hy
    refine ⟨fun h => absurd h (by omega), fun _ => ⟨?_, rfl⟩⟩
    rw [cpl32, List.take_of_length_le (by rw [h.len]; omega)]
    rfl
theorem Sum_ok (b : Sl) (l : List UInt8) (w : World) (h : RdB (hp w) b l) (hb : b.len ≤ 9223372036854775806) : CallP Tryz.prog n_crc_Sum [Sl.v b] w (ret1 (tI .u32) fun r w' => r = (crcMore 0 l).toNat ∧ w' = w) := by
  refine vc_crc_Sum _ _ _ ?_
  unfold F_crc_Sum
  exact More_ok 0 b l w h hb
end Go.Proofs.YtccebpahnnfceaaGreatDoor
