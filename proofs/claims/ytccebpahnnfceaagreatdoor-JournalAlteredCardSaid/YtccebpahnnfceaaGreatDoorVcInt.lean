/- Machine numbers as bit vectors. -/
import Derived.Test.YtccebpahnnfceaaGreatDoorVcSt
import Derived.IntWalk
namespace Go.Vc
theorem wrap_toNat32 (s : BitVec 32) : IntKind.u32.wrap (s.toNat : Int) = s.toNat := IntWalk.u32_in _ (by have := s.isLt; omega)
theorem wrap_toNat8 (s : BitVec 8) : IntKind.u8.wrap (s.toNat : Int) = s.toNat := IntWalk.u8_in _ (by have := s.isLt; omega)
theorem ofInt_toNat {n : Nat} (s : BitVec n) : BitVec.ofInt n (s.toNat : Int) = s := by
  rw [BitVec.ofInt_natCast, BitVec.ofNat_toNat, BitVec.setWidth_eq]
theorem bits_xor32 (s t : BitVec 32) : bits .xor .u32 (s.toNat : Int) (t.toNat : Int) = ((s ^^^ t).toNat : Int) := by
  show IntKind.u32.wrap ((BitVec.ofInt 32 (s.toNat : Int) ^^^ BitVec.ofInt 32 (t.toNat : Int)).toNat : Int) = _
  rw [ofInt_toNat, ofInt_toNat, wrap_toNat32]
theorem bits_or32 (s t : BitVec 32) : bits .or .u32 (s.toNat : Int) (t.toNat : Int) = ((s ||| t).toNat : Int) := by
  show IntKind.u32.wrap ((BitVec.ofInt 32 (s.toNat : Int) ||| BitVec.ofInt 32 (t.toNat : Int)).toNat : Int) = _
  rw [ofInt_toNat, ofInt_toNat, wrap_toNat32]
theorem bits_and32 (s t : BitVec 32) : bits .and .u32 (s.toNat : Int) (t.toNat : Int) = ((s &&& t).toNat : Int) := by
  show IntKind.u32.wrap ((BitVec.ofInt 32 (s.toNat : Int) &&& BitVec.ofInt 32 (t.toNat : Int)).toNat : Int) = _
  rw [ofInt_toNat, ofInt_toNat, wrap_toNat32]
theorem bits_xor8 (s t : BitVec 8) : bits .xor .u8 (s.toNat : Int) (t.toNat : Int) = ((s ^^^ t).toNat : Int) := by
  show IntKind.u8.wrap ((BitVec.ofInt 8 (s.toNat : Int) ^^^ BitVec.ofInt 8 (t.toNat : Int)).toNat : Int) = _
  rw [ofInt_toNat, ofInt_toNat, wrap_toNat8]
theorem shrV32 (s : BitVec 32) (k : Nat) (hk : k ≤ 32) : shrV .u32 (s.toNat : Int) (k : Int) = ((s >>> k).toNat : Int) := by
  unfold shrV
  rw [show min (k : Int).toNat IntKind.u32.bits = k by simp [IntKind.bits]; omega]
  rw [BitVec.toNat_ushiftRight, Nat.shiftRight_eq_div_pow]
  rw [Int.fdiv_eq_ediv_of_nonneg _ (by exact Int.le_of_lt (Int.pow_pos (by omega)))]
  simp
theorem cpl32 (s : BitVec 32) : bits .xor .u32 (if IntKind.u32.signed then -1 else IntKind.u32.max) (s.toNat : Int) = ((~~~ s).toNat : Int) := by
  have : (if IntKind.u32.signed then (-1 : Int) else IntKind.u32.max) = ((4294967295#32).toNat : Int) := by decide
  rw [this, bits_xor32]
  congr 2
theorem wrap8_32 (s : BitVec 32) : IntKind.u8.wrap (s.toNat : Int) = ((s.setWidth 8).toNat : Int) := by
  rw [IntKind.wrap_u8, BitVec.toNat_setWidth]; simp
theorem wrap8_nat (n : Nat) : IntKind.u8.wrap (n : Int) = ((UInt8.ofNat n).toNat : Int) := by
  rw [IntKind.wrap_u8]; simp
theorem shrV_i64 (n k : Nat) (hk : k ≤ 64) : shrV .i64 (n : Int) (k : Int) = ((n / 2 ^ k : Nat) : Int) := by
  unfold shrV
  rw [show min (k : Int).toNat IntKind.i64.bits = k by simp [IntKind.bits]; omega]
  rw [Int.fdiv_eq_ediv_of_nonneg _ (by exact Int.le_of_lt (Int.pow_pos (by omega)))]
  simp
theorem shlV32 (s : BitVec 32) (k : Nat) (hk : k ≤ 32) : shlV .u32 (s.toNat : Int) (k : Int) = ((s <<< k).toNat : Int) := by
  unfold shlV
  rw [show min (k : Int).toNat IntKind.u32.bits = k by simp [IntKind.bits]; omega]
  rw [IntKind.wrap_u32, BitVec.toNat_shiftLeft, Nat.shiftLeft_eq]
  simp
theorem shlV_i64 (n k : Nat) (hk : k ≤ 64) (hn : n * 2 ^ k ≤ 9223372036854775807) : shlV .i64 (n : Int) (k : Int) = ((n * 2 ^ k : Nat) : Int) := by
  unfold shlV
  rw [show min (k : Int).toNat IntKind.i64.bits = k by simp [IntKind.bits]; omega]
  have : ((n : Int) * 2 ^ k) = ((n * 2 ^ k : Nat) : Int) := by simp
  rw [this]
  exact IntWalk.i64_in _ (by omega)
theorem or_i64 (a b k : Nat) (ha : a < 2 ^ k) (hb : b * 2 ^ k + a ≤ 9223372036854775807) : bits .or .i64 (a : Int) ((b * 2 ^ k : Nat) : Int) = ((a + b * 2 ^ k : Nat) : Int) := by
  show IntKind.i64.wrap ((BitVec.ofInt 64 (a : Int) ||| BitVec.ofInt 64 ((b * 2 ^ k : Nat) : Int)).toNat : Int) = _
  rw [BitVec.ofInt_natCast, BitVec.ofInt_natCast, BitVec.toNat_or, BitVec.toNat_ofNat, BitVec.toNat_ofNat, Nat.mod_eq_of_lt (by omega), Nat.mod_eq_of_lt (by omega)]
  have : a ||| b * 2 ^ k = a + b * 2 ^ k := by
    rw [Nat.or_comm, ← Nat.shiftLeft_eq, ← Nat.shiftLeft_add_eq_or_of_lt ha, Nat.add_comm]
  rw [this]
  exact IntWalk.i64_in _ (by omega)
theorem u8_lt (c : UInt8) : c.toNat < 256 := c.toNat_lt
/-- Three bytes, the least one first. -/
theorem le24 (a b c : UInt8) : bits .or .i64 (bits .or .i64 (IntKind.i64.wrap (a.toNat : Int)) (shlV .i64 (IntKind.i64.wrap (b.toNat : Int)) 8)) (shlV .i64 (IntKind.i64.wrap (c.toNat : Int)) 16) = ((a.toNat + b.toNat * 256 + c.toNat * 65536 : Nat) : Int) := by
  have ha := u8_lt a; have hb := u8_lt b; have hc := u8_lt c
  rw [IntWalk.i64_in (a.toNat : Int) (by omega), IntWalk.i64_in (b.toNat : Int) (by omega), IntWalk.i64_in (c.toNat : Int) (by omega)]
  have h1 := shlV_i64 b.toNat 8 (by omega) (by omega)
  have h2 := shlV_i64 c.toNat 16 (by omega) (by omega)
  rw [show shlV .i64 (b.toNat : Int) 8 = _ from h1, show shlV .i64 (c.toNat : Int) 16 = _ from h2]
  rw [or_i64 a.toNat b.toNat 8 (by omega) (by omega), or_i64 _ c.toNat 16 (by omega) (by omega)]
theorem u8_32 (c : UInt8) : (c.toNat : Int) = ((c.toBitVec.setWidth 32).toNat : Int) := by
  rw [BitVec.toNat_setWidth]; have := c.toNat_lt; simp
end Go.Vc
