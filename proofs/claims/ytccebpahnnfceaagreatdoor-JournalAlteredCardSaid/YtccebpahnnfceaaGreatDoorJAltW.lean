/- JournalAltered: what its walk wants besides. -/
import Derived.Test.YtccebpahnnfceaaGreatDoorJAltP
import Derived.Test.YtccebpahnnfceaaGreatDoorJLives
namespace Go.Proofs.YtccebpahnnfceaaGreatDoor
open Go.Vc
set_option linter.unusedVariables false
set_option linter.unusedSimpArgs false
section
variable {B : Bs} {w : World} {S : Hp} {F jow : Own} {j d : Nat} {nm : ByteArray} {J : JM}
theorem JSync0_ok (h : St B w S (jow ++ F)) (hJ : JournO S j d nm J jow) (hjoff : J.off = false) (hs : J.segs = []) :
    CallP Tryz.prog n_journal_Journal_Sync [.pointer (pt j)] w (ret1 (tI .i64) fun e w' => e = 0 ∧ w' = w) := by
  obtain ⟨l, rc, owl, owr, rs, hR, rfl⟩ := hJ
  have hll := hR.lenL
  refine vc_journal_Journal_Sync _ _ _ ?_
  unfold F_journal_Journal_Sync
  refine (jasked_ok h (List.mem_append_left _ (List.mem_cons_self ..))).mono1 ?_
  rintro r w1 ⟨rfl, rfl⟩
  rw [hjoff]
  refine ⟨fun hc => absurd rfl hc, fun _ => v_nz (v_ldo (by exact h.head.1) l ⟨fun _ => ⟨rfl, rfl⟩, fun hc => absurd ?_ hc⟩)⟩
  rw [hs] at hll
  simp only [List.length_nil] at hll
  omega
end
/-- A bit of a byte is turned. -/
def bit8 (i : Nat) : UInt8 := ⟨(1#8) <<< i⟩
theorem bits8_xor (c : UInt8) (k : Nat) (hk : k < 8) : bits8 (c ^^^ bit8 k) = (bits8 c).set k (!(bits8 c).getD k false) := by
  apply List.ext_getElem?
  intro i
  rw [List.getElem?_set]
  unfold bits8
  rw [List.getElem?_map, List.getElem?_map]
  by_cases hi : i < 8
  · rw [List.getElem?_range hi]
    have e : (c ^^^ bit8 k).toBitVec.getLsbD i = (c.toBitVec.getLsbD i ^^ decide (i = k)) := by
      show (c.toBitVec ^^^ (1#8) <<< k).getLsbD i = _
      rw [BitVec.getLsbD_xor, BitVec.getLsbD_shiftLeft]
      congr 1
      by_cases h : i = k
      · subst h; simp [hi]
      · by_cases h2 : i < k
        · simp [h2, h]
        · rw [BitVec.getLsbD_one]; simp [h, h2]; omega
    simp only [Option.map_some, e]
    by_cases h : k = i
    · subst h
      rw [if_pos rfl, if_pos (by simp; omega), List.getD, List.getElem?_map, List.getElem?_range hk]
      simp
    · have h' : ¬ i = k := fun q => h q.symm
      rw [if_neg h]
      simp [h']
  · rw [List.getElem?_eq_none (by simp; omega)]
    by_cases h : k = i
    · omega
    · simp [h]
theorem bits8_len (c : UInt8) : (bits8 c).length = 8 := by simp [bits8]
theorem bitsL_turn (k : Nat) (hk : k < 8) : ∀ (l : List UInt8) (i : Nat), i < l.length → bitsL (l.set i (l.getD i 0 ^^^ bit8 k)) = (bitsL l).set (8 * i + k) (!(bitsL l).getD (8 * i + k) false)
  | [], i, h => absurd h (by simp)
  | c :: l, 0, _ => by
    show bits8 (c ^^^ bit8 k) ++ bitsL l = (bits8 c ++ bitsL l).set (8 * 0 + k) (!(bits8 c ++ bitsL l).getD (8 * 0 + k) false)
    have e : (bits8 c ++ bitsL l).getD (8 * 0 + k) false = (bits8 c).getD k false := by
      rw [Nat.mul_zero, Nat.zero_add, List.getD, List.getElem?_append_left (by rw [bits8_len]; exact hk)]; rfl
    rw [e, bits8_xor c k hk, Nat.mul_zero, Nat.zero_add, List.set_append_left _ _ (by rw [bits8_len]; exact hk)]
  | c :: l, i + 1, h => by
    have ih := bitsL_turn k hk l i (by simpa using h)
    have e : (bits8 c ++ bitsL l).getD (8 * (i + 1) + k) false = (bitsL l).getD (8 * i + k) false := by
      rw [List.getD, List.getElem?_append_right (by rw [bits8_len]; omega), bits8_len, show 8 * (i + 1) + k - 8 = 8 * i + k by omega]; rfl
    show bits8 c ++ bitsL (l.set i (l.getD i 0 ^^^ bit8 k)) = (bits8 c ++ bitsL l).set (8 * (i + 1) + k) (!(bits8 c ++ bitsL l).getD (8 * (i + 1) + k) false)
    rw [e, ih, List.set_append_right _ _ (by rw [bits8_len]; omega), bits8_len, show 8 * (i + 1) + k - 8 = 8 * i + k by omega]
theorem zip_turn : ∀ (a b : List Bool) (P : Nat), a.length = b.length → P < b.length → List.zipWith (· ^^ ·) a (b.set P (!b.getD P false)) = (List.zipWith (· ^^ ·) a b).set P (!(List.zipWith (· ^^ ·) a b).getD P false)
  | [], [], P, _, h => absurd h (by simp)
  | x :: a, y :: b, 0, _, _ => by simp
  | x :: a, y :: b, P + 1, hl, h => by
    have ih := zip_turn a b P (by simpa using hl) (by simpa using h)
    simp only [List.set_cons_succ, List.getD_cons_succ, List.zipWith_cons_cons]
    rw [ih]
  | [], y :: b, _, hl, _ => by simp at hl
  | x :: a, [], _, hl, _ => by simp at hl
theorem diff_turn (o x : List UInt8) (hl : o.length = x.length) (i k : Nat) (hi : i < x.length) (hk : k < 8) : diff o (x.set i (x.getD i 0 ^^^ bit8 k)) = (diff o x).set (8 * i + k) (!(diff o x).getD (8 * i + k) false) := by
  unfold diff
  rw [bitsL_turn k hk x i hi]
  exact zip_turn _ _ _ (by rw [bitsL_len, bitsL_len, hl]) (by rw [bitsL_len]; omega)
theorem zip_self : ∀ (a : List Bool) (i : Nat), (List.zipWith (· ^^ ·) a a)[i]? ≠ some true
  | [], i => by simp
  | x :: a, 0 => by simp
  | x :: a, i + 1 => by
    rw [List.zipWith_cons_cons, List.getElem?_cons_succ]
    exact zip_self a i
theorem diff_self (o : List UInt8) (i : Nat) : (diff o o)[i]? ≠ some true := zip_self _ i
/-- The state of the turning: which bits differ, and whether any does. -/
structure TurnI (o x : List UInt8) (q i : Nat) (bs : Nat → Bool) (t : Bool) : Prop where
  len : o.length = x.length
  at' : ∀ pos : Nat, (diff o x)[pos]? = some true ↔ ∃ k, k < i ∧ pos = q + k ∧ bs k = true
  any : t = true ↔ ∃ k, k < i ∧ bs k = true
theorem TurnI.start (o : List UInt8) (q : Nat) (bs : Nat → Bool) : TurnI o o q 0 bs false :=
  ⟨rfl, fun pos => ⟨fun h => absurd h (diff_self o pos), fun ⟨k, hk, _⟩ => absurd hk (Nat.not_lt_zero k)⟩, ⟨fun h => (by cases h), fun ⟨k, hk, _⟩ => absurd hk (Nat.not_lt_zero k)⟩⟩
theorem TurnI.skip {o x : List UInt8} {q i : Nat} {bs : Nat → Bool} {t : Bool} (h : TurnI o x q i bs t) (hb : bs i = false) : TurnI o x q (i + 1) bs t := by
  have e : ∀ {R : Nat → Prop}, (∃ k, k < i + 1 ∧ R k ∧ bs k = true) ↔ ∃ k, k < i ∧ R k ∧ bs k = true := fun {R} => by
    constructor
    · rintro ⟨k, hk, hR, hbk⟩
      refine ⟨k, ?_, hR, hbk⟩
      rcases Nat.lt_or_ge k i with hlt | hge
      · exact hlt
      · have : k = i := by omega
        subst this; rw [hb] at hbk; cases hbk
    · rintro ⟨k, hk, r⟩; exact ⟨k, by omega, r⟩
  refine ⟨h.len, fun pos => by rw [e (R := fun k => pos = q + k)]; exact h.at' pos, ?_⟩
  have := e (R := fun _ => True)
  simp only [true_and] at this
  rw [this]; exact h.any
theorem TurnI.turn {o x : List UInt8} {q i a k : Nat} {bs : Nat → Bool} {t : Bool} (h : TurnI o x q i bs t) (hb : bs i = true) (hk : k < 8) (ha : a < x.length) (hq : q + i = 8 * a + k) : TurnI o (x.set a (x.getD a 0 ^^^ bit8 k)) q (i + 1) bs true := by
  have hd := diff_turn o x h.len a k ha hk
  have hlen : (diff o x).length = 8 * o.length := diff_len h.len
  have hnot : (diff o x).getD (8 * a + k) false = false := by
    cases hg : (diff o x)[8 * a + k]? with
    | none => simp [List.getD, hg]
    | some v =>
      cases v
      · simp [List.getD, hg]
      · obtain ⟨m, hm, e, _⟩ := (h.at' _).1 hg
        omega
  refine ⟨by rw [List.length_set]; exact h.len, fun pos => ?_, ⟨fun _ => ⟨i, by omega, hb⟩, fun _ => rfl⟩⟩
  rw [hd, hnot, List.getElem?_set]
  by_cases hp : 8 * a + k = pos
  · rw [if_pos hp, if_pos (by rw [hlen, h.len]; omega)]
    exact ⟨fun _ => ⟨i, by omega, by omega, hb⟩, fun _ => rfl⟩
  · rw [if_neg hp, h.at' pos]
    constructor
    · rintro ⟨m, hm, r⟩; exact ⟨m, by omega, r⟩
    · rintro ⟨m, hm, e, hbm⟩
      exact ⟨m, by omega, e, hbm⟩
theorem TurnI.near {o x : List UInt8} {q i : Nat} {bs : Nat → Bool} {t : Bool} (h : TurnI o x q i bs t) (hi : i ≤ 32) : Near q (diff o x) := fun pos hp => by
  obtain ⟨k, hk, e, _⟩ := (h.at' pos).1 hp
  omega
theorem TurnI.none {o x : List UInt8} {q i : Nat} {bs : Nat → Bool} (h : TurnI o x q i bs false) : x = o := by
  refine (diff_false h.len fun hm => ?_).symm
  obtain ⟨pos, hp⟩ := List.mem_iff_getElem?.1 hm
  obtain ⟨k, hk, _, hb⟩ := (h.at' pos).1 hp
  have := h.any.2 ⟨k, hk, hb⟩
  cases this
theorem TurnI.some {o x : List UInt8} {q i : Nat} {bs : Nat → Bool} (h : TurnI o x q i bs true) : true ∈ diff o x := by
  obtain ⟨k, hk, hb⟩ := h.any.1 rfl
  exact List.mem_of_getElem? ((h.at' (q + k)).2 ⟨k, hk, rfl, hb⟩)
end Go.Proofs.YtccebpahnnfceaaGreatDoor
