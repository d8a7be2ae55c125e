/- A checksum of 32 bits sees any bits turned within 32 side by side. No program here. -/
import Derived.Test.YtccebpahnnfceaaGreatDoorJScan
namespace Go.Proofs.YtccebpahnnfceaaGreatDoor
open Go.Vc
set_option linter.unusedVariables false
set_option linter.unusedSimpArgs false
theorem crcStep_xor (a b : BitVec 32) : crcStep (a ^^^ b) = crcStep a ^^^ crcStep b := by
  unfold crcStep
  rw [BitVec.getLsbD_xor]
  have h : (a ^^^ b) >>> 1 = a >>> 1 ^^^ b >>> 1 := by
    apply BitVec.eq_of_getLsbD_eq
    intro i hi
    simp [BitVec.getLsbD_ushiftRight, BitVec.getLsbD_xor]
  rw [h]
  have hx : ∀ x y z : BitVec 32, x ^^^ y ^^^ z = x ^^^ z ^^^ y := fun x y z => by
    rw [BitVec.xor_assoc, BitVec.xor_comm y z, ← BitVec.xor_assoc]
  cases ha : a.getLsbD 0 <;> cases hb : b.getLsbD 0
  · simp
  · simp [BitVec.xor_assoc]
  · simp; rw [hx]
  · simp
    have : (a >>> 1 ^^^ poly) ^^^ (b >>> 1 ^^^ poly) = a >>> 1 ^^^ b >>> 1 ^^^ (poly ^^^ poly) := by
      rw [BitVec.xor_assoc, BitVec.xor_assoc, ← BitVec.xor_assoc poly, BitVec.xor_comm poly (b >>> 1), BitVec.xor_assoc (b >>> 1)]
    rw [this, BitVec.xor_self, BitVec.xor_zero]
theorem crcStep_zero : crcStep 0 = 0 := by decide
/-- No step loses anything. -/
theorem crcStep_ne (s : BitVec 32) (h : s ≠ 0) : crcStep s ≠ 0 := by
  intro hz
  apply h
  unfold crcStep at hz
  by_cases hb : s.getLsbD 0 = true
  · rw [if_pos hb] at hz
    have h31 := congrArg (fun x => x.getLsbD 31) hz
    simp only [BitVec.getLsbD_xor, BitVec.getLsbD_ushiftRight] at h31
    have : s.getLsbD (1 + 31) = false := BitVec.getLsbD_of_ge _ _ (by omega)
    rw [this] at h31
    exact absurd h31 (by decide)
  · rw [if_neg hb] at hz
    apply BitVec.eq_of_getLsbD_eq
    intro i hi
    cases i with
    | zero => simpa using hb
    | succ i =>
      have := congrArg (fun x => x.getLsbD i) hz
      simp only [BitVec.getLsbD_ushiftRight] at this
      rw [Nat.add_comm] at this
      simpa using this
theorem crcSteps_xor : ∀ (k : Nat) (a b : BitVec 32), crcSteps k (a ^^^ b) = crcSteps k a ^^^ crcSteps k b
  | 0, _, _ => rfl
  | k + 1, a, b => by rw [crcSteps, crcStep_xor, crcSteps_xor k]; rfl
theorem crcSteps_ne : ∀ (k : Nat) (s : BitVec 32), s ≠ 0 → crcSteps k s ≠ 0
  | 0, _, h => h
  | k + 1, s, h => crcSteps_ne k _ (crcStep_ne s h)
theorem crcSteps_zero : ∀ k, crcSteps k 0 = 0
  | 0 => rfl
  | k + 1 => by rw [crcSteps, crcStep_zero, crcSteps_zero k]
/-! ### Bit by bit -/
def b32 (b : Bool) : BitVec 32 := if b then 1 else 0
def bitStep (s : BitVec 32) (b : Bool) : BitVec 32 := crcStep (s ^^^ b32 b)
def feed (s : BitVec 32) (l : List Bool) : BitVec 32 := l.foldl bitStep s
def bits8 (c : UInt8) : List Bool := (List.range 8).map fun i => c.toBitVec.getLsbD i
def bitsL (l : List UInt8) : List Bool := l.flatMap bits8
/-- The word of at most 32 bits, the first one lowest. -/
def word : List Bool → BitVec 32
  | [] => 0
  | b :: l => b32 b ^^^ (word l <<< 1)
theorem crcStep_shl (x : BitVec 32) (h : x.getLsbD 31 = false) : crcStep (x <<< 1) = x := by
  unfold crcStep
  have h0 : (x <<< 1).getLsbD 0 = false := by simp [BitVec.getLsbD_shiftLeft]
  rw [if_neg (by rw [h0]; simp)]
  apply BitVec.eq_of_getLsbD_eq
  intro i hi
  rw [BitVec.getLsbD_ushiftRight, BitVec.getLsbD_shiftLeft]
  by_cases h31 : i = 31
  · subst h31
    rw [h]; simp
  · simp [show 1 + i < 32 by omega]
theorem word_top : ∀ (l : List Bool) (i : Nat), l.length ≤ i → (word l).getLsbD i = false
  | [], i, _ => by simp [word]
  | b :: l, i, h => by
    simp only [List.length_cons] at h
    rw [word, BitVec.getLsbD_xor, BitVec.getLsbD_shiftLeft]
    have h1 : (b32 b).getLsbD i = false := by
      unfold b32
      split
      · rw [show (1 : BitVec 32) = 1#32 from rfl, BitVec.getLsbD_one]; simp; omega
      · simp
    rw [h1]
    by_cases hi : i < 32
    · have := word_top l (i - 1) (by omega)
      simp [this]
    · simp [hi]
theorem feed_word : ∀ (l : List Bool) (s : BitVec 32), l.length ≤ 32 → feed s l = crcSteps l.length (s ^^^ word l)
  | [], s, _ => by simp [feed, word, crcSteps]
  | b :: l, s, h => by
    simp only [List.length_cons] at h
    show feed (bitStep s b) l = crcSteps (l.length + 1) _
    rw [feed_word l _ (by omega), crcSteps, word]
    congr 1
    rw [← BitVec.xor_assoc, crcStep_xor, crcStep_shl _ (word_top l 31 (by omega))]
    rfl
theorem feed_app (s : BitVec 32) (a b : List Bool) : feed s (a ++ b) = feed (feed s a) b := List.foldl_append ..
theorem feed_zeros : ∀ (n : Nat) (s : BitVec 32), feed s (List.replicate n false) = crcSteps n s
  | 0, _ => rfl
  | n + 1, s => by
    rw [List.replicate_succ]
    show feed (bitStep s false) _ = _
    rw [feed_zeros n, crcSteps]
    unfold bitStep b32
    simp
theorem word_ne : ∀ (l : List Bool), l.length ≤ 32 → true ∈ l → word l ≠ 0
  | [], _, h => absurd h (by simp)
  | b :: l, hl, h => by
    simp only [List.length_cons] at hl
    intro hz
    have hget : ∀ i, (b32 b ^^^ (word l <<< 1)).getLsbD i = false := fun i => by
      have := congrArg (fun x => x.getLsbD i) hz
      simpa [word] using this
    have h0 := hget 0
    rw [BitVec.getLsbD_xor, BitVec.getLsbD_shiftLeft] at h0
    have hb : b = false := by
      cases b
      · rfl
      · simp [b32] at h0
    subst hb
    have hm : true ∈ l := by simpa using h
    apply word_ne l (by omega) hm
    apply BitVec.eq_of_getLsbD_eq
    intro i hi
    by_cases h31 : i = 31
    · subst h31
      rw [word_top l 31 (by omega)]; simp
    · have := hget (i + 1)
      rw [BitVec.getLsbD_xor, BitVec.getLsbD_shiftLeft] at this
      simpa [b32, show i + 1 < 32 by omega] using this
/-- A burst is seen. -/
theorem burst (a z : Nat) (win : List Bool) (hw : win.length ≤ 32) (hm : true ∈ win) : feed 0 (List.replicate a false ++ win ++ List.replicate z false) ≠ 0 := by
  rw [feed_app, feed_app, feed_zeros z, feed_zeros a, crcSteps_zero, feed_word win 0 hw]
  apply crcSteps_ne
  apply crcSteps_ne
  have e : (0 : BitVec 32) ^^^ word win = word win := by simp
  rw [e]
  exact word_ne win hw hm
/-! ### Bytes are their bits -/
theorem b32_get (b : Bool) (j : Nat) : (b32 b).getLsbD j = (b && decide (j = 0)) := by
  unfold b32
  cases b
  · simp
  · rw [show (1 : BitVec 32) = 1#32 from rfl, if_pos rfl, BitVec.getLsbD_one]; simp
theorem word_get : ∀ (l : List Bool) (i : Nat), i < 32 → (word l).getLsbD i = l.getD i false
  | [], i, _ => by simp [word]
  | b :: l, 0, _ => by
    rw [word, BitVec.getLsbD_xor, BitVec.getLsbD_shiftLeft, b32_get]; simp
  | b :: l, i + 1, h => by
    rw [word, BitVec.getLsbD_xor, BitVec.getLsbD_shiftLeft, b32_get]
    have := word_get l i (by omega)
    simp only [List.getD_cons_succ]
    rw [← this]
    simp [h]
theorem word_bits8 (c : UInt8) : word (bits8 c) = c.toBitVec.setWidth 32 := by
  apply BitVec.eq_of_getLsbD_eq
  intro i hi
  rw [BitVec.getLsbD_setWidth, word_get _ _ hi, bits8, List.getD_eq_getElem?_getD, List.getElem?_map]
  by_cases h8 : i < 8
  · rw [List.getElem?_range h8]; simp [hi]
  · rw [List.getElem?_eq_none (by simp; omega), BitVec.getLsbD_of_ge _ _ (by omega)]; simp
theorem crcByte_feed (s : BitVec 32) (c : UInt8) : crcByte s c = feed s (bits8 c) := by
  rw [feed_word _ _ (by simp [bits8]), word_bits8]
  rfl
theorem crcFold_feed : ∀ (l : List UInt8) (s : BitVec 32), crcFold s l = feed s (bitsL l)
  | [], _ => rfl
  | c :: l, s => by
    show crcFold (crcByte s c) l = feed s (bits8 c ++ bitsL l)
    rw [crcFold_feed l, crcByte_feed, feed_app]
theorem b32_xor (a b : Bool) : b32 (a ^^ b) = b32 a ^^^ b32 b := by cases a <;> cases b <;> decide
theorem feed_xor : ∀ (a b : List Bool) (s t : BitVec 32), a.length = b.length → feed (s ^^^ t) (List.zipWith (· ^^ ·) a b) = feed s a ^^^ feed t b
  | [], [], _, _, _ => rfl
  | x :: a, y :: b, s, t, h => by
    rw [List.zipWith_cons_cons]
    show feed (bitStep (s ^^^ t) (x ^^ y)) _ = feed (bitStep s x) a ^^^ feed (bitStep t y) b
    have : bitStep (s ^^^ t) (x ^^ y) = bitStep s x ^^^ bitStep t y := by
      unfold bitStep
      rw [b32_xor, ← crcStep_xor]
      congr 1
      rw [BitVec.xor_assoc, BitVec.xor_assoc, ← BitVec.xor_assoc t, BitVec.xor_comm t (b32 x), BitVec.xor_assoc (b32 x)]
    rw [this, feed_xor a b _ _ (by simpa using h)]
  | [], y :: b, _, _, h => by simp at h
  | x :: a, [], _, _, h => by simp at h
/-- Four bytes are fed as one word. -/
theorem feed4 (r x : BitVec 32) : crcFold r (put4 x) = crcSteps 32 (r ^^^ x) := by
  have hb : bitsL (put4 x) = (List.range 32).map fun i => x.getLsbD i := by
    have e : ∀ k, k ≤ 24 → bits8 ⟨(x >>> k).setWidth 8⟩ = (List.range 8).map fun i => x.getLsbD (k + i) := fun k hk => by
      unfold bits8
      refine List.map_congr_left fun i hi => ?_
      have := List.mem_range.1 hi
      show ((x >>> k).setWidth 8).getLsbD i = _
      rw [BitVec.getLsbD_setWidth, BitVec.getLsbD_ushiftRight]; simp [this]
    have e0 := e 0 (by omega)
    rw [BitVec.ushiftRight_zero] at e0
    show bits8 _ ++ (bits8 _ ++ (bits8 _ ++ (bits8 _ ++ []))) = _
    rw [e0, e 8 (by omega), e 16 (by omega), e 24 (by omega)]
    rfl
  rw [crcFold_feed, hb, feed_word _ _ (by simp)]
  have hw : word ((List.range 32).map fun i => x.getLsbD i) = x := by
    apply BitVec.eq_of_getLsbD_eq
    intro i hi
    rw [word_get _ _ hi, List.getD_eq_getElem?_getD, List.getElem?_map, List.getElem?_range hi]
    rfl
  rw [hw]
  simp
/-- What stands behind a message and its sum is the same for every message. -/
theorem residue (r : BitVec 32) (m : List UInt8) : crcFold r (m ++ put4 (~~~ crcFold r m)) = crcSteps 32 (BitVec.allOnes 32) := by
  show List.foldl crcByte r (m ++ _) = _
  rw [List.foldl_append]
  show crcFold (crcFold r m) _ = _
  rw [feed4]
  congr 1
  apply BitVec.eq_of_getLsbD_eq
  intro i hi
  rw [BitVec.getLsbD_xor, BitVec.getLsbD_not, BitVec.getLsbD_allOnes]
  cases (crcFold r m).getLsbD i <;> simp [hi]
/-- Two messages with their right sums, of one length: their difference is fed to nothing. -/
theorem codewords {r : BitVec 32} {m m' : List UInt8} (h : m.length = m'.length) : feed 0 (List.zipWith (· ^^ ·) (bitsL (m ++ put4 (~~~ crcFold r m))) (bitsL (m' ++ put4 (~~~ crcFold r m')))) = 0 := by
  have hl : ∀ l : List UInt8, (bitsL l).length = 8 * l.length := fun l => by
    induction l with
    | nil => rfl
    | cons c l ih =>
      show (bits8 c ++ bitsL l).length = _
      rw [List.length_append, ih]
      simp [bits8]; omega
  have := feed_xor (bitsL (m ++ put4 (~~~ crcFold r m))) (bitsL (m' ++ put4 (~~~ crcFold r m'))) r r (by rw [hl, hl]; simp [put4, h])
  rw [BitVec.xor_self, ← crcFold_feed, ← crcFold_feed, residue, residue, BitVec.xor_self] at this
  exact this
theorem all_false : ∀ (l : List Bool), (∀ i : Nat, l[i]? ≠ some true) → l = List.replicate l.length false
  | [], _ => rfl
  | b :: l, h => by
    have hb : b = false := by
      cases b
      · rfl
      · exact absurd rfl (h 0)
    subst hb
    rw [List.length_cons, List.replicate_succ, ← all_false l fun i => h (i + 1)]
/-- All that is true lies within 32 places. -/
def Near (p : Nat) (l : List Bool) : Prop := ∀ i : Nat, l[i]? = some true → p ≤ i ∧ i < p + 32
theorem burst_near {p : Nat} {l : List Bool} (h : Near p l) (hm : true ∈ l) : feed 0 l ≠ 0 := by
  have e : l = l.take p ++ (l.drop p).take 32 ++ (l.drop p).drop 32 := by
    rw [List.append_assoc, List.take_append_drop, List.take_append_drop]
  have e1 : l.take p = List.replicate (l.take p).length false := all_false _ fun i hi => by
    rw [List.getElem?_take] at hi
    split at hi
    · have := h i hi; omega
    · cases hi
  have e2 : (l.drop p).drop 32 = List.replicate ((l.drop p).drop 32).length false := all_false _ fun i hi => by
    rw [List.getElem?_drop, List.getElem?_drop] at hi
    have := h _ hi; omega
  rw [e, e1, e2]
  refine burst _ _ _ (by rw [List.length_take]; omega) ?_
  obtain ⟨i, hi⟩ := List.mem_iff_getElem?.1 hm
  have hp := h i hi
  refine List.mem_iff_getElem?.2 ⟨i - p, ?_⟩
  rw [List.getElem?_take, if_pos (by omega), List.getElem?_drop, show p + (i - p) = i by omega]
  exact hi
/-! ### A damaged frame -/
def diff (a b : List UInt8) : List Bool := List.zipWith (· ^^ ·) (bitsL a) (bitsL b)
theorem bitsL_len (l : List UInt8) : (bitsL l).length = 8 * l.length := by
  induction l with
  | nil => rfl
  | cons c l ih =>
    show (bits8 c ++ bitsL l).length = _
    rw [List.length_append, ih]
    simp [bits8]; omega
theorem bitsL_app (a b : List UInt8) : bitsL (a ++ b) = bitsL a ++ bitsL b := List.flatMap_append
theorem diff_app {a b a' b' : List UInt8} (h : a.length = a'.length) : diff (a ++ b) (a' ++ b') = diff a a' ++ diff b b' := by
  unfold diff
  rw [bitsL_app, bitsL_app, List.zipWith_append (by rw [bitsL_len, bitsL_len, h])]
theorem diff_len {a b : List UInt8} (h : a.length = b.length) : (diff a b).length = 8 * a.length := by
  unfold diff
  rw [List.length_zipWith, bitsL_len, bitsL_len]; omega
theorem bits8_inj {c d : UInt8} (h : bits8 c = bits8 d) : c = d := by
  have h1 := word_bits8 c
  rw [h, word_bits8 d] at h1
  have h2 := congrArg BitVec.toNat h1
  rw [BitVec.toNat_setWidth, BitVec.toNat_setWidth] at h2
  have hc := c.toNat_lt
  have hd := d.toNat_lt
  apply UInt8.toNat_inj.1
  show c.toBitVec.toNat = d.toBitVec.toNat
  have e1 : c.toBitVec.toNat < 256 := hc
  have e2 : d.toBitVec.toNat < 256 := hd
  omega
theorem zip_false : ∀ (a b : List Bool), a.length = b.length → (∀ i : Nat, (List.zipWith (· ^^ ·) a b)[i]? ≠ some true) → a = b
  | [], [], _, _ => rfl
  | x :: a, y :: b, hl, h => by
    have h0 := h 0
    have hxy : x = y := by
      cases x <;> cases y <;> simp at h0 ⊢
    rw [hxy, zip_false a b (by simpa using hl) fun i => by
      have := h (i + 1)
      simpa using this]
  | [], y :: b, hl, _ => by simp at hl
  | x :: a, [], hl, _ => by simp at hl
theorem bitsL_inj : ∀ {a b : List UInt8}, a.length = b.length → bitsL a = bitsL b → a = b
  | [], [], _, _ => rfl
  | c :: a, d :: b, hl, h => by
    have h' : bits8 c ++ bitsL a = bits8 d ++ bitsL b := h
    have := List.append_inj h' (by simp [bits8])
    rw [bits8_inj this.1, bitsL_inj (by simpa using hl) this.2]
  | [], d :: b, hl, _ => by simp at hl
  | c :: a, [], hl, _ => by simp at hl
/-- Bytes that differ in no bit are the same. -/
theorem diff_false {a b : List UInt8} (hl : a.length = b.length) (h : true ∉ diff a b) : a = b :=
  bitsL_inj hl (zip_false _ _ (by rw [bitsL_len, bitsL_len, hl]) fun i hi => h (List.mem_of_getElem? hi))
theorem Near.left {p : Nat} {a b : List Bool} (h : Near p (a ++ b)) : Near p a := fun i hi => h i (by rw [List.getElem?_append_left (List.getElem?_eq_some_iff.1 hi).1]; exact hi)
theorem Near.right {p : Nat} {a b : List Bool} (h : Near p (a ++ b)) : Near (p - a.length) b := fun i hi => by
  have := h (a.length + i) (by rw [List.getElem?_append_right (by omega)]; simpa using hi)
  omega
/-- A sum that stands right behind a message that is not the right one: the bits between are no burst. -/
theorem sum_seen {r : BitVec 32} {m m' s' : List UInt8} {p : Nat} (hl : m.length = m'.length) (h4 : s'.length = 4) (hn : Near p (diff (m ++ put4 (~~~ crcFold r m)) (m' ++ s'))) (hd : true ∈ diff (m ++ put4 (~~~ crcFold r m)) (m' ++ s')) : s' ≠ put4 (~~~ crcFold r m') := fun e => by
  subst e
  exact burst_near hn hd (codewords hl)
theorem put4_get4 (a b c d : UInt8) (x : List UInt8) : put4 (get4 ([a, b, c, d] ++ x)) = [a, b, c, d] := by
  show put4 (((a.toBitVec.setWidth 32 ||| b.toBitVec.setWidth 32 <<< 8) ||| c.toBitVec.setWidth 32 <<< 16) ||| d.toBitVec.setWidth 32 <<< 24) = _
  have key : ∀ (y : BitVec 32) (k : Nat) (e : UInt8), (∀ i, i < 8 → y.getLsbD (k + i) = e.toBitVec.getLsbD i) → (⟨(y >>> k).setWidth 8⟩ : UInt8) = e := fun y k e h => by
    apply UInt8.toNat_inj.1
    show ((y >>> k).setWidth 8).toNat = e.toBitVec.toNat
    congr 1
    apply BitVec.eq_of_getLsbD_eq
    intro i hi
    rw [BitVec.getLsbD_setWidth, BitVec.getLsbD_ushiftRight, h i hi]; simp [hi]
  have hz : ∀ (e : UInt8) (i : Nat), 8 ≤ i → e.toBitVec.getLsbD i = false := fun e i h => BitVec.getLsbD_of_ge _ _ h
  unfold put4
  have k0 := key (((a.toBitVec.setWidth 32 ||| b.toBitVec.setWidth 32 <<< 8) ||| c.toBitVec.setWidth 32 <<< 16) ||| d.toBitVec.setWidth 32 <<< 24) 0 a fun i hi => by
    simp [BitVec.getLsbD_or, BitVec.getLsbD_shiftLeft, show i < 16 by omega, show i < 24 by omega, hi, show i < 32 by omega]
  rw [BitVec.ushiftRight_zero] at k0
  rw [k0, key _ 8 b, key _ 16 c, key _ 24 d]
  · intro i hi
    have := hz a (24 + i) (by omega); have := hz b (16 + i) (by omega); have := hz c (8 + i) (by omega)
    simp [BitVec.getLsbD_or, BitVec.getLsbD_shiftLeft, show 24 + i < 32 by omega, show 24 + i - 8 = 16 + i by omega, show 24 + i - 16 = 8 + i by omega, *]
  · intro i hi
    have := hz a (16 + i) (by omega); have := hz b (8 + i) (by omega)
    simp [BitVec.getLsbD_or, BitVec.getLsbD_shiftLeft, show 16 + i < 24 by omega, show 16 + i < 32 by omega, show 16 + i - 8 = 8 + i by omega, *]
  · intro i hi
    have := hz a (8 + i) (by omega)
    simp [BitVec.getLsbD_or, BitVec.getLsbD_shiftLeft, show 8 + i < 16 by omega, show 8 + i < 24 by omega, show 8 + i < 32 by omega, *]
theorem four {s : List UInt8} (h : s.length = 4) : ∃ a b c d, s = [a, b, c, d] := by
  match s, h with
  | [a, b, c, d], _ => exact ⟨a, b, c, d, rfl⟩
theorem get4_is {s x : List UInt8} {v : BitVec 32} (h : s.length = 4) (he : get4 (s ++ x) = v) : s = put4 v := by
  obtain ⟨a, b, c, d, rfl⟩ := four h
  rw [← he, put4_get4]
/-- A frame of which some bits within 32 side by side were turned reads as none. -/
theorem read_damaged (body g' rest : List UInt8) (p : Nat) (hb : body.length ≤ 1048576) (hl : g'.length = 12 + body.length) (hn : Near p (diff (encFrame 1 body) g')) (hd : true ∈ diff (encFrame 1 body) g') : frRead (g' ++ rest) = none := by
  obtain ⟨M', s', t', rfl, hM, hs⟩ : ∃ M' s' t', g' = M' ++ s' ++ t' ∧ M'.length = 4 ∧ s'.length = 4 :=
    ⟨g'.take 4, (g'.drop 4).take 4, (g'.drop 4).drop 4, by rw [List.append_assoc, List.take_append_drop, List.take_append_drop], by rw [List.length_take]; omega, by rw [List.length_take, List.length_drop]; omega⟩
  obtain ⟨b', s2, rfl, hb', hs2⟩ : ∃ b' s2, t' = b' ++ s2 ∧ b'.length = body.length ∧ s2.length = 4 := by
    simp only [List.length_append] at hl
    exact ⟨t'.take body.length, t'.drop body.length, (List.take_append_drop _ _).symm, by rw [List.length_take]; omega, by rw [List.length_drop]; omega⟩
  have hh : frHead 1 body.length = encHead 1 body.length ++ put4 (~~~ crcFold (~~~ 0) (encHead 1 body.length)) := rfl
  have ht : frTail 1 body = body ++ put4 (~~~ crcFold (~~~ (crcMore 0 (encHead 1 body.length))) body) := rfl
  have hhl : (frHead 1 body.length).length = (M' ++ s').length := by rw [frHead_len, List.length_append, hM, hs]
  rw [encFrame_eq, diff_app hhl] at hn hd
  have hlen : ((M' ++ s') ++ (b' ++ s2) ++ rest).length = 12 + body.length + rest.length := by simp; omega
  have etake : ((M' ++ s') ++ (b' ++ s2) ++ rest).take 4 = M' := by
    rw [List.append_assoc, List.append_assoc, List.take_append_of_le_length (by omega), List.take_of_length_le (by omega)]
  have edrop : ((M' ++ s') ++ (b' ++ s2) ++ rest).drop 4 = s' ++ ((b' ++ s2) ++ rest) := by
    rw [List.append_assoc, List.append_assoc, ← hM, List.drop_left]
  unfold frRead
  rw [if_neg (by omega), etake, edrop]
  by_cases hg : get4 (s' ++ ((b' ++ s2) ++ rest)) = crcMore 0 M'
  · rw [if_neg (by simpa using hg)]
    have hs' := get4_is hs hg
    have hsame : true ∉ diff (frHead 1 body.length) (M' ++ s') := fun q => by
      rw [hh] at q hn
      exact sum_seen (by rw [hM]; rfl) hs hn.left q hs'
    have hheq := diff_false hhl hsame
    rw [← hheq]
    have hMe : encHead 1 body.length = M' := by
      rw [hh] at hheq
      exact (List.append_inj hheq (by rw [hM]; rfl)).1
    obtain ⟨_, h2, _⟩ := head_facts 1 body.length ((b' ++ s2) ++ rest) (by omega)
    have hl8 := frHead_len 1 body.length
    have e1 : frLen (frHead 1 body.length ++ (b' ++ s2) ++ rest) = body.length := by rw [List.append_assoc]; exact h2
    have hlen2 : (frHead 1 body.length ++ (b' ++ s2) ++ rest).length = 12 + body.length + rest.length := by simp; omega
    have e2 : (frHead 1 body.length ++ (b' ++ s2) ++ rest).drop (8 + body.length) = s2 ++ rest := by
      rw [List.append_assoc, List.drop_append, hl8, List.drop_eq_nil_of_le (by omega), show 8 + body.length - 8 = b'.length by omega, List.append_assoc, List.drop_left]
      rfl
    have e3 : ((frHead 1 body.length ++ (b' ++ s2) ++ rest).drop 8).take body.length = b' := by
      rw [List.append_assoc, List.drop_append, hl8, List.drop_eq_nil_of_le (by omega), ← hb', List.append_assoc]
      simp
    rw [e1, if_neg (by omega), if_neg (by omega), e2, e3]
    by_cases hg2 : get4 (s2 ++ rest) = crcMore (crcMore 0 M') b'
    · exfalso
      have hs2' := get4_is hs2 hg2
      have hd2 : true ∈ diff (frTail 1 body) (b' ++ s2) := (List.mem_append.1 hd).resolve_left hsame
      have hn2 := hn.right
      rw [ht] at hd2 hn2
      rw [← hMe] at hs2'
      exact sum_seen hb'.symm hs2 hn2 hd2 hs2'
    · rw [if_pos (by simpa using hg2)]
  · rw [if_pos (by simpa using hg)]
/-- A damaged segment: a first part of its records, not all. -/
theorem scan_damaged : ∀ (rs : List (List UInt8)) (x : List UInt8) (p : Nat), small rs → x.length = (segBytes rs).length → Near p (diff (segBytes rs) x) → true ∈ diff (segBytes rs) x → ∃ k, k < rs.length ∧ recsOf (frScan x) = rs.take k
  | [], x, p, _, hl, _, hd => by
    have : x = [] := List.eq_nil_of_length_eq_zero (by simpa [segBytes] using hl)
    subst this
    simp [diff, bitsL, segBytes] at hd
  | r :: rs, x, p, hs, hl, hn, hd => by
    have hseg : segBytes (r :: rs) = encFrame 1 r ++ segBytes rs := rfl
    have hr : r.length ≤ 3000 := hs r (List.mem_cons_self ..)
    rw [hseg] at hl hn hd
    rw [List.length_append, encFrame_len] at hl
    obtain ⟨g, y, rfl, hg⟩ : ∃ g y, x = g ++ y ∧ g.length = 12 + r.length := ⟨x.take (12 + r.length), x.drop (12 + r.length), (List.take_append_drop _ _).symm, by rw [List.length_take]; omega⟩
    have hgl : (encFrame 1 r).length = g.length := by rw [encFrame_len, hg]; omega
    rw [diff_app hgl] at hn hd
    by_cases hm : true ∈ diff (encFrame 1 r) g
    · refine ⟨0, by simp, ?_⟩
      rw [frScan_eq, read_damaged r g y p (by omega) hg hn.left hm]
      rfl
    · have he := diff_false hgl hm
      subst he
      obtain ⟨k, hk, hrec⟩ := scan_damaged rs y _ (fun q hq => hs q (List.mem_cons_of_mem _ hq)) (by rw [List.length_append, encFrame_len] at hl; omega) hn.right ((List.mem_append.1 hd).resolve_left hm)
      refine ⟨k + 1, by simp; omega, ?_⟩
      have e : encFrame 1 r ++ y = segBytes [r] ++ y := by rw [segBytes_one]
      rw [e, scan_app _ [r] (fun q hq => by simp at hq; subst hq; exact hr), recsOf_map, hrec]
      rfl
end Go.Proofs.YtccebpahnnfceaaGreatDoor
