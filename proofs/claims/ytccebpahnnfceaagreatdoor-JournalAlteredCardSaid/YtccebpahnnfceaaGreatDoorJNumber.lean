/- The number in a file's name. -/
import Derived.Test.YtccebpahnnfceaaGreatDoorJPad
namespace Go.Proofs.YtccebpahnnfceaaGreatDoor
open Go.Vc
set_option linter.unusedVariables false
set_option linter.unusedSimpArgs false
section
variable {B : Bs} {w : World} {S : Hp} {L F : Own} {j d next : Nat} {nm : ByteArray} {l recs : Sl} {off : Bool}
theorem isPrefix_app (p r : List UInt8) : Lib.hasPrefix (p ++ r) p = true := by
  unfold Lib.hasPrefix
  exact List.isPrefixOf_iff_prefix.2 (List.prefix_append p r)
/-- The call, as a list's first part. -/
theorem cutPrefix_ok (s p : ByteArray) (r : List UInt8) (hs : s.data.toList = p.data.toList ++ r) (w : World) : CallP Tryz.prog n_strings_CutPrefix [.string s, .string p] w (ret2 tS tB fun x ok w' => x = ⟨r.toArray⟩ ∧ ok = true ∧ w' = w) := by
  have hpre : Lib.hasPrefix s.data.toList p.data.toList = true := by
    rw [hs]; exact isPrefix_app _ _
  have htrim : Lib.trimPrefix s.data.toList p.data.toList = r := by
    unfold Lib.trimPrefix
    rw [if_pos hpre, hs]
    exact List.drop_left
  refine Calls.mono (Tryz.strings_CutPrefix s p w) ?_
  rintro e w1 ⟨rfl, rfl⟩
  rw [hpre, htrim]
  exact ⟨_, rfl, ⟨r.toArray⟩, true, rfl, rfl, rfl, rfl⟩
theorem number_ok (n : Nat) (hn : n < 1000000000000) (h : St B w S L) (hj : jCell j d nm l recs next off ∈ L) (hnm : nm.size ≤ 1000) :
    CallP Tryz.prog n_journal_Journal_number [.pointer (pt j), .string (fileN nm n)] w (ret2 (tI .u64) tB fun r ok w' => r = n ∧ ok = true ∧ St B w' S L) := by
  refine vc_journal_Journal_number _ _ _ _ ?_
  unfold F_journal_Journal_number
  have h45 : (⟨#[45]⟩ : ByteArray).size = 1 := rfl
  refine v_nz (v_ldo (h.mem hj) nm ⟨by omega, ?_⟩)
  have hdig := pad_digit 12 n
  have hplen := pad_len 12 n
  have hparse : Lib.parseUintM (2 ^ 64 - 1) 0 (pad 12 n) = .ok n := by
    have := parse_pad (2 ^ 64 - 1) [] 12 n (by simpa using hn) (by omega) (by decide)
    rw [List.append_nil] at this
    rw [this]; rfl
  have hL : (fileN nm n).data.toList = (nm ++ (⟨#[45]⟩ : ByteArray)).data.toList ++ pad 12 n := by
    have := fileN_L nm hn
    have e : (nm ++ (⟨#[45]⟩ : ByteArray)).data.toList = strL nm ++ [45] := strL_app nm ⟨#[45]⟩
    rw [e]
    show strL (fileN nm n) = _
    rw [this]; simp
  generalize pad 12 n = p12 at hdig hplen hparse hL
  have hcp := cutPrefix_ok (fileN nm n) (nm ++ ⟨#[45]⟩) p12 hL w
  refine hcp.mono2 ?_
  rintro x ok w1 ⟨rfl, rfl, rfl⟩
  have hsz : (⟨(p12).toArray⟩ : ByteArray).size = 12 := by
    show (p12).toArray.size = 12
    rw [List.size_toArray, hplen]
  refine v_join (fun r w' => r = false ∧ w' = w1) ?_ ⟨fun hc => absurd hc (by simp), fun _ => ⟨by rw [hsz]; rfl, rfl⟩⟩
  rintro r w' ⟨rfl, rfl⟩
  refine ⟨fun hc => absurd hc (by simp), fun _ => ?_⟩
  refine v_str2b h Tryz.underlying9 Tryz.underlying32 Tryz.underlying5 (by rw [hsz]; decide) fun b cap C fz w2 h2 hr => ?_
  have hstr : strL ⟨(p12).toArray⟩ = p12 := by simp [strL]
  rw [hstr] at hr
  refine loop_to (fun i (x : Int) w' => x = (i : Int) ∧ w' = w2) 12 ?_ ?_ (Nat.zero_le _) ⟨rfl, rfl⟩
  · rintro J i x w' hi ⟨rfl, rfl⟩ k
    refine ⟨fun _ => ?_, fun hc => absurd (show (i : Int) < ((⟨(p12).toArray⟩ : ByteArray).size : Int) by rw [hsz]; omega) hc⟩
    refine RdB.at hr (Sub.refl _) (by omega) (by show (i : Int) < ((⟨(p12).toArray⟩ : ByteArray).size : Int); rw [hsz]; omega) ?_
    have hd : 48 ≤ ((p12).getD i 0).toNat ∧ ((p12).getD i 0).toNat ≤ 57 := by
      have hil : i < (p12).length := by rw [hplen]; exact hi
      refine hdig _ ?_
      simp only [List.getD, List.getElem?_eq_getElem hil, Option.getD_some]
      exact List.getElem_mem hil
    have hii : ((i : Int)).toNat = i := rfl
    rw [hii]
    refine v_join (fun r v => v = w' ∧ r = false) ?_ ⟨fun hc => absurd hc (by omega), fun _ => ⟨rfl, by rw [decide_eq_false_iff_not]; omega⟩⟩
    rintro r v ⟨rfl, rfl⟩
    exact ⟨fun hc => absurd hc (by simp), fun _ => k _ _ ⟨IntWalk.i64_in _ (by omega), rfl⟩⟩
  · rintro J x w' ⟨rfl, rfl⟩
    refine ⟨fun hc => absurd hc (by show ¬ (((12 : Nat) : Int) < ((⟨(p12).toArray⟩ : ByteArray).size : Int)); rw [hsz]; omega), fun _ => ?_⟩
    have hp : Lib.parseUintB 64 (⟨(p12).toArray⟩ : ByteArray).data.toList = .ok n := by
      show Lib.parseUintB 64 (strL ⟨(p12).toArray⟩) = _
      rw [hstr]
      unfold Lib.parseUintB
      have hne : p12 ≠ [] := fun e => by have := congrArg List.length e; rw [hplen] at this; simp at this
      rw [if_neg hne]
      exact hparse
    refine Calls.mono (Tryz.strconv_ParseUint_10_at64_ok _ (by rw [hsz]; decide) n hp w') ?_
    rintro e w3 ⟨rfl, hw⟩
    refine ⟨_, rfl, (n : Int), ⟨.nilIface, rfl⟩, rfl, rfl, rfl, rfl, ?_⟩
    have h3 : St B w3 S L := by
      rcases hw with rfl | rfl
      · exact h2.tail
      · refine h2.tail.grow ?_ ?_ (fun x hx => Lib.bytesWorld_at_old w' 5 _ x hx)
        · rfl
        · rfl
    exact h3.dr
end
end Go.Proofs.YtccebpahnnfceaaGreatDoor
