/- Numbers of twelve digits: they read back, and stand in their order. No program here. -/
import Derived.Test.YtccebpahnnfceaaGreatDoorJName
namespace Go.Proofs.YtccebpahnnfceaaGreatDoor
open Go.Vc
set_option linter.unusedVariables false
set_option linter.unusedSimpArgs false
/-- k digits of n. -/
def pad : Nat → Nat → List UInt8
  | 0, _ => []
  | k + 1, n => pad k (n / 10) ++ [UInt8.ofNat (48 + n % 10)]
theorem pad_len : ∀ (k n : Nat), (pad k n).length = k
  | 0, _ => rfl
  | k + 1, n => by rw [pad, List.length_append, pad_len k]; rfl
theorem u8of (d : Nat) (h : d < 10) : (UInt8.ofNat (48 + d)).toNat = 48 + d := by
  rw [UInt8.toNat_ofNat']; omega
theorem pad_digit : ∀ (k n : Nat), ∀ c ∈ pad k n, 48 ≤ c.toNat ∧ c.toNat ≤ 57
  | 0, _, c, h => absurd h (by simp [pad])
  | k + 1, n, c, h => by
    rw [pad, List.mem_append] at h
    rcases h with h | h
    · exact pad_digit k _ c h
    · rw [List.mem_singleton] at h; subst h
      have := Nat.mod_lt n (show 0 < 10 by omega)
      rw [u8of _ this]; omega
theorem pad_zero : ∀ k, pad k 0 = Lib.repeatL [48] k
  | 0 => rfl
  | k + 1 => by
    rw [pad, Nat.zero_div, pad_zero k]
    have : ∀ c, Lib.repeatL [48] c ++ [(48 : UInt8)] = 48 :: Lib.repeatL [48] c := by
      intro c
      induction c with
      | zero => rfl
      | succ c ih => rw [Lib.repeatL, List.append_assoc, ih]; rfl
    exact this k
theorem repeat_pad : ∀ (n k : Nat), n < 10 ^ k → (Lib.decDigits n).length ≤ k → Lib.repeatL [48] (k - (Lib.decDigits n).length) ++ Lib.decDigits n = pad k n := by
  intro n
  induction n using Nat.strongRecOn with
  | _ n ih =>
    intro k hk hl
    rw [Lib.decDigits] at hl ⊢
    by_cases h10 : n < 10
    · rw [dif_pos h10] at hl ⊢
      obtain ⟨k, rfl⟩ : ∃ m, k = m + 1 := ⟨k - 1, by simp at hl; omega⟩
      rw [pad, Nat.div_eq_of_lt h10, pad_zero, Nat.mod_eq_of_lt h10]
      simp
    · rw [dif_neg h10] at hl ⊢
      simp only [List.length_append, List.length_singleton] at hl ⊢
      obtain ⟨k, rfl⟩ : ∃ m, k = m + 1 := ⟨k - 1, by omega⟩
      rw [pad, ← ih (n / 10) (by omega) k (by rw [Nat.div_lt_iff_lt_mul (by omega)]; rw [Nat.pow_succ] at hk; exact hk) (by omega)]
      rw [← List.append_assoc, show k + 1 - ((Lib.decDigits (n / 10)).length + 1) = k - (Lib.decDigits (n / 10)).length by omega]
theorem dec_len (n k : Nat) (hk : 0 < k) (h : n < 10 ^ k) : (Lib.decDigits n).length ≤ k := by
  induction k generalizing n with
  | zero => omega
  | succ k ih =>
    rw [Lib.decDigits]
    by_cases h10 : n < 10
    · rw [dif_pos h10]; simp
    · rw [dif_neg h10]
      rcases Nat.eq_zero_or_pos k with rfl | hk0
      · simp at h; omega
      · have := ih (n / 10) hk0 (by rw [Nat.div_lt_iff_lt_mul (by omega)]; rw [Nat.pow_succ] at h; exact h)
        simp; omega
/-- They read back. -/
theorem parse_pad (M : Nat) (r : List UInt8) : ∀ (k n : Nat), n < 10 ^ k → k ≤ 12 → 999999999999 ≤ M → Lib.parseUintM M 0 (pad k n ++ r) = Lib.parseUintM M n r
  | 0, n, h, _, _ => by
    have : n = 0 := by simpa using h
    subst this; rfl
  | k + 1, n, h, hk, hM => by
    have hq : n / 10 < 10 ^ k := by rw [Nat.div_lt_iff_lt_mul (by omega)]; rw [Nat.pow_succ] at h; exact h
    rw [pad, List.append_assoc, parse_pad M _ k (n / 10) hq (by omega) hM]
    have hn : n < 1000000000000 := Nat.lt_of_lt_of_le h (Nat.le_trans (Nat.pow_le_pow_right (by omega) hk) (by decide))
    have hm : n % 10 < 10 := Nat.mod_lt _ (by omega)
    show Lib.parseUintM M (n / 10) (UInt8.ofNat (48 + n % 10) :: r) = _
    rw [Lib.parseUintM, u8of _ hm, if_pos (by omega), if_neg (by omega), if_neg (by omega)]
    congr 1
    omega
theorem pad_inj {k a b : Nat} (hk : k ≤ 12) (ha : a < 10 ^ k) (hb : b < 10 ^ k) (h : pad k a = pad k b) : a = b := by
  have h1 := parse_pad 999999999999 [] k a ha hk (Nat.le_refl _)
  have h2 := parse_pad 999999999999 [] k b hb hk (Nat.le_refl _)
  rw [h, h2] at h1
  simpa [Lib.parseUintM] using h1.symm
/-- They stand in their order. -/
theorem lt_snoc {x y : List UInt8} (h : x < y) (hl : x.length = y.length) (p q : List UInt8) : x ++ p < y ++ q := by
  induction x generalizing y with
  | nil =>
    cases y with
    | nil => exact absurd h (by simp)
    | cons b y => simp at hl
  | cons a x ih =>
    cases y with
    | nil => simp at hl
    | cons b y =>
      simp only [List.cons_append, List.cons_lt_cons_iff] at h ⊢
      rcases h with h | ⟨h1, h2⟩
      · exact .inl h
      · exact .inr ⟨h1, ih h2 (by simpa using hl)⟩
theorem lt_app (p : List UInt8) {x y : List UInt8} (h : x < y) : p ++ x < p ++ y := by
  induction p with
  | nil => exact h
  | cons a p ih => exact List.cons_lt_cons_iff.2 (.inr ⟨rfl, ih⟩)
theorem pad_lt : ∀ (k a b : Nat), a < b → b < 10 ^ k → pad k a < pad k b
  | 0, a, b, h, hb => by simp at hb; omega
  | k + 1, a, b, h, hb => by
    have hq : b / 10 < 10 ^ k := by rw [Nat.div_lt_iff_lt_mul (by omega)]; rw [Nat.pow_succ] at hb; exact hb
    rw [pad, pad]
    by_cases hd : a / 10 < b / 10
    · exact lt_snoc (pad_lt k _ _ hd hq) (by rw [pad_len, pad_len]) _ _
    · have e : a / 10 = b / 10 := by omega
      rw [e]
      refine lt_app _ (List.cons_lt_cons_iff.2 (.inl ?_))
      have h1 : a % 10 < 10 := Nat.mod_lt _ (by omega)
      have h2 : b % 10 < 10 := Nat.mod_lt _ (by omega)
      rw [UInt8.lt_iff_toNat_lt, u8of _ h1, u8of _ h2]
      omega
theorem strL_app (a b : ByteArray) : strL (a ++ b) = strL a ++ strL b := by simp [strL]
theorem strL_inj {a b : ByteArray} (h : strL a = strL b) : a = b := by
  cases a; cases b; simpa [strL] using h
theorem fileN_L (nm : ByteArray) {n : Nat} (hn : n < 1000000000000) : strL (fileN nm n) = strL nm ++ 45 :: pad 12 n := by
  unfold fileN
  rw [strL_app, strL_app, strL_app]
  have hl := dec_len n 12 (by omega) (by simpa using hn)
  have := repeat_pad n 12 (by simpa using hn) hl
  show ((strL nm ++ [45]) ++ Lib.repeatL [48] (12 - (Lib.decDigits n).length)) ++ Lib.decDigits n = _
  rw [List.append_assoc, this]
  simp
theorem fileN_inj {nm : ByteArray} {a b : Nat} (ha : a < 1000000000000) (hb : b < 1000000000000) (h : fileN nm a = fileN nm b) : a = b := by
  have := congrArg strL h
  rw [fileN_L nm ha, fileN_L nm hb] at this
  have := List.append_cancel_left this
  exact pad_inj (k := 12) (by omega) (by simpa using ha) (by simpa using hb) (by simpa using this)
theorem sz_L (s : ByteArray) : s.size = (strL s).length := by rw [strL, Array.length_toList]; rfl
theorem fileN_ne_cut {nm : ByteArray} {n : Nat} (hn : n < 1000000000000) : fileN nm n ≠ cutN nm := fun h => by
  have := congrArg strL h
  rw [fileN_L nm hn, cutN, strL_app] at this
  have := congrArg List.length this
  simp [pad_len, strL] at this
theorem fileN_size (nm : ByteArray) {n : Nat} (hn : n < 1000000000000) : (fileN nm n).size = nm.size + 13 := by
  rw [sz_L, fileN_L nm hn, sz_L nm]; simp [pad_len]
/-- What a journal takes as a name. -/
def jNamed (nm : ByteArray) : Prop := 1 ≤ nm.size ∧ nm.size ≤ 8 ∧ allIn 97 122 (strL nm) = true
theorem fileN_named {nm : ByteArray} {n : Nat} (hn : n < 1000000000000) (h : jNamed nm) : dNamed (fileN nm n) = true := by
  unfold dNamed
  rw [fileN_size nm hn, fileN_L nm hn]
  simp only [Bool.and_eq_true, decide_eq_true_eq]
  refine ⟨by have := h.1; have := h.2.1; omega, ?_⟩
  unfold allIn
  rw [List.all_append, Bool.and_eq_true, List.all_eq_true, List.all_eq_true]
  refine ⟨fun c hc => ?_, fun c hc => ?_⟩
  · have := List.all_eq_true.1 h.2.2 c hc
    simp only [decide_eq_true_eq] at this ⊢
    omega
  · rcases List.mem_cons.1 hc with rfl | hc
    · decide
    · have := pad_digit 12 n c hc
      simp only [decide_eq_true_eq]
      omega
theorem cutN_named {nm : ByteArray} (h : jNamed nm) : dNamed (cutN nm) = true := by
  unfold dNamed cutN
  rw [size_app, strL_app]
  simp only [Bool.and_eq_true, decide_eq_true_eq]
  have e : (⟨#[45, 99, 117, 116]⟩ : ByteArray).size = 4 := rfl
  refine ⟨by have := h.1; have := h.2.1; omega, ?_⟩
  unfold allIn
  rw [List.all_append, Bool.and_eq_true, List.all_eq_true]
  refine ⟨fun c hc => ?_, by decide⟩
  have := List.all_eq_true.1 h.2.2 c hc
  simp only [decide_eq_true_eq] at this ⊢
  omega
/-- Files' names in the order of their numbers are sorted. -/
theorem sortN_files (nm : ByteArray) (ns : List Nat) (h : ns.Pairwise (· < ·)) (hb : ∀ n ∈ ns, n < 1000000000000) : sortN (ns.map (fileN nm)) = ns.map (fileN nm) := by
  unfold sortN
  have hs : ((ns.map (fileN nm)).map strL).Pairwise (fun a b => leB a b = true) := by
    rw [List.map_map, List.pairwise_map]
    refine List.Pairwise.imp_of_mem ?_ h
    intro a b ha hb' hab
    simp only [Function.comp, leB, decide_eq_true_eq]
    rw [fileN_L nm (hb a ha), fileN_L nm (hb b hb')]
    have h1 : strL nm ++ 45 :: pad 12 a < strL nm ++ 45 :: pad 12 b := lt_app _ (List.cons_lt_cons_iff.2 (.inr ⟨rfl, pad_lt 12 a b hab (by simpa using hb b hb')⟩))
    exact List.le_of_lt h1
  rw [List.mergeSort_of_pairwise hs, List.map_map, List.map_map]
  refine List.map_congr_left fun n _ => ?_
  simp [Function.comp, strL]
end Go.Proofs.YtccebpahnnfceaaGreatDoor
