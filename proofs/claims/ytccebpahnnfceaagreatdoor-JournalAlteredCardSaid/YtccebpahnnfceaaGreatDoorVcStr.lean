/- Strings as bytes. -/
import Derived.Test.YtccebpahnnfceaaGreatDoorVcMap
import Derived.Laws.IdiomStrings
namespace Go.Vc
set_option linter.unusedVariables false
set_option linter.unusedSimpArgs false
abbrev strL (s : ByteArray) : List UInt8 := s.data.toList
theorem v_str2b {P : Program} {B : Bs} {w : World} {S : Hp} {L : Own} {src dst e : TypeId} {s : ByteArray} {K : Sl → World → Prop} (h : St B w S L) (hs : P.underlying src = some .string) (hd : P.underlying dst = some (.slice e)) (he : P.underlying e = some (.int .u8)) (hsz : s.size ≤ maxLen)
    (k : ∀ b cap C fz w', St B w' S ((b, .cells C e fz) :: L) → RdB (hp w') ⟨some ⟨b, 0, none⟩, s.size, cap⟩ (strL s) → K ⟨some ⟨b, 0, none⟩, s.size, cap⟩ w') : RunV P (convert src dst (.string s)) w (ret1 tSl K) := by
  refine ⟨_, _, run_bytes_of_string w src dst e s hs hd he, ⟨some ⟨w.heap.size, 0, none⟩, s.size, grownCap w s.size 0 e⟩, rfl, ?_⟩
  have h' : St B w.drew S L := h.same ⟨rfl, rfl, rfl⟩
  have h2 := h'.alloc (.cells (bytesRow s (grownCap w s.size 0 e)) e ((bytesRow s (grownCap w s.size 0 e)).size, (bytesRow s (grownCap w s.size 0 e)).size + 1))
  refine k _ _ _ _ _ h2 ⟨?_, grownCap_ge w _ _ _, fun hl => ⟨_, 0, rfl, fun j v hj => ?_⟩⟩
  · rw [List.length_map, Array.length_toList, Nat.mul_one]; rfl
  · have hb := h2.head.1
    unfold cellH
    have e1 : w.drew.heap.size = w.heap.size := rfl
    rw [e1] at hb
    rw [hb]
    simp only [List.getElem?_map, Option.map_eq_some_iff, Array.getElem?_toList] at hj
    obtain ⟨c, hc, rfl⟩ := hj
    obtain ⟨hlt, hc'⟩ := Array.getElem?_eq_some_iff.1 hc
    show (bytesRow s _)[0 + j]? = _
    rw [Nat.zero_add, bytesRow_at s _ j hlt, hc']
    rfl
/-- Names of any kind: all bytes in a row of bytes. -/
def allIn (lo hi : Nat) (l : List UInt8) : Bool := l.all fun c => decide (lo ≤ c.toNat ∧ c.toNat ≤ hi)
theorem allIn_take (lo hi : Nat) (l : List UInt8) (i : Nat) (h : i < l.length) : allIn lo hi (l.take (i + 1)) = (allIn lo hi (l.take i) && decide (lo ≤ (l.getD i 0).toNat ∧ (l.getD i 0).toNat ≤ hi)) := by
  unfold allIn
  rw [List.take_succ_eq_append_getElem h, List.all_append]
  simp [List.getD, h]
end Go.Vc
