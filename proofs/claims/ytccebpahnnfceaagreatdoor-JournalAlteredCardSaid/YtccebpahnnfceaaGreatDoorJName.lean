/- The names of a journal's files. -/
import Derived.Test.YtccebpahnnfceaaGreatDoorV3
import Derived.Test.YtccebpahnnfceaaGreatDoorV5
import Derived.Test.YtccebpahnnfceaaGreatDoorJCrashD
import Derived.Test.YtccebpahnnfceaaGreatDoorJShelf
import Derived.Lib.ItoaLen
namespace Go.Proofs.YtccebpahnnfceaaGreatDoor
open Go.Vc
set_option linter.unusedVariables false
set_option linter.unusedSimpArgs false
/-- The table of the powers of ten is laid. -/
def Glob (S : Hp) : Prop := ∀ w : World, Sub S (hp w) → Lib.TabIs Tryz.prog w "internal/strconv.uint64pow10" .u64 Lib.pow10Tab
theorem Glob.mono {S S' : Hp} (h : Glob S) (hs : Sub S S') : Glob S' := fun w hw => h w (hs.trans hw)
def decS (n : Nat) : ByteArray := ⟨(Lib.decDigits n).toArray⟩
section
variable {B : Bs} {w : World} {S : Hp} {L F : Own}
theorem frozen_owned {b q : Nat} {c : Array Value} {e : TypeId} (hb : hp w b = some (.cells c e)) : w.frozen? ⟨b, q, none⟩ = false := by
  unfold World.frozen?
  have hb' : w.heap[b]? = some (.cells c e) := hb
  simp [hb']
theorem hp_putRow (w : World) (b : Nat) (c : Array Value) (e : TypeId) (enc : UInt8 → Value) (dk : Array UInt8) (h : hp w b = some (.cells c e)) (x : Nat) : hp (Sort.putRow enc w b 0 dk) x = if x = b then some (.cells (Sort.putCells enc 0 dk c) e) else hp w x := by
  show (w.heap.modify b _)[x]? = _
  rw [Array.getElem?_modify]
  by_cases hx : x = b
  · subst hx
    have h' : w.heap[x]? = some (.cells c e) := h
    simp [h', Sort.onCells]
  · rw [if_neg (fun q => hx q.symm), if_neg hx]; rfl
theorem FormatUint_ok (n : Nat) (hn : n < 18446744073709551616) (hg : Glob S) (h : St B w S L) : CallP Tryz.prog n_strconv_FormatUint [.int .u64 n, .int .i64 10] w (ret1 tS fun r w' => r = decS n ∧ St B w' S L) := by
  refine vc_strconv_FormatUint _ _ _ _ ?_
  unfold F_strconv_FormatUint
  refine vc_internal_strconv_FormatUint _ _ _ _ ?_
  unfold F_internal_strconv_FormatUint
  refine ⟨fun _ => ⟨fun hlt => ?_, fun hge => ?_⟩, fun hc => absurd rfl hc⟩
  · rw [IntWalk.i64_in _ (by omega)]
    refine Calls.mono (Tryz.internal_strconv_small n (by omega) w) ?_
    rintro e w' ⟨rfl, rfl⟩
    exact ⟨_, rfl, decS n, rfl, rfl, h⟩
  · refine v_al h fun b w1 h1 => ?_
    have htab := hg w1 h1.sh
    refine Calls.mono (Tryz.internal_strconv_numDigits n (by omega) hn w1 htab) ?_
    rintro e w2 ⟨rfl, rfl⟩
    have hnd := Lib.nDigits_le20 n hn
    refine ⟨_, rfl, (Lib.nDigits n : Int), rfl, by omega, by omega, by omega, by omega, ?_⟩
    have hb := h1.head.1
    have hs : Sl.v (slS ⟨some ⟨b, 0, none⟩, 24, 24⟩ 0 (Lib.nDigits n : Int) 24 1) = .slice (some ⟨b, 0, none⟩) (Array.replicate (Lib.nDigits n) (0 : UInt8)).size 24 := by
      simp [slS, Sl.v, Addr.add]
    rw [hs]
    have hH : Sort.Holds (fun (b : UInt8) => Value.int .u8 (b.toNat : Int)) w2 b 0 (Array.replicate (Lib.nDigits n) (0 : UInt8)) := fun j hj => by
      have hj' : j < Lib.nDigits n := by simpa using hj
      refine ⟨?_, frozen_owned hb⟩
      rw [cell_hp]
      unfold cellH
      rw [hb, getElem!_pos _ j hj]
      simp only [Array.getElem_replicate]
      have hj24 : j < 24 := by omega
      show (Lib.zeros24)[0 + j]? = _
      rw [Nat.zero_add, Lib.zeros24_at j hj24]
      rfl
    refine Calls.mono (Tryz.internal_strconv_formatBase10 b 0 24 n _ w2 hH (by rw [Array.size_replicate]; exact Lib.lt_pow_nDigits n) hn (by rw [Array.size_replicate]; omega)) ?_
    rintro e w3 ⟨rfl, nn, v', dk, rfl, hinv⟩
    rw [Array.size_replicate] at hinv
    have h3 : St B ((Sort.putRow (fun (b : UInt8) => Value.int .u8 (b.toNat : Int)) w2 b 0 dk).drewN nn) S ((b, .cells (Sort.putCells (fun (b : UInt8) => Value.int .u8 (b.toNat : Int)) 0 dk Lib.zeros24) T_24_uint8) :: L) :=
      h1.change (i := 0) rfl rfl rfl (hp_putRow w2 b _ _ _ dk hb)
    refine ⟨_, rfl, rfl, by omega, by omega, by omega, by omega, ?_⟩
    have hlen : (Lib.decDigits n).length = Lib.nDigits n := Lib.decDigits_length n
    have hs2 : Value.slice (some ⟨b, 0, none⟩) (Array.replicate (Lib.nDigits n) (0 : UInt8)).size 24 = .slice (some ⟨b, 0, none⟩) (Lib.decDigits n).length 24 := by rw [Array.size_replicate, hlen]
    rw [hs2]
    refine ⟨_, _, run_convert_bytes_back _ _ _ T_uint8 ⟨b, 0, none⟩ 24 (Lib.decDigits n) Tryz.underlying32 Tryz.underlying5 Tryz.underlying9 (fun j hj => ?_), decS n, rfl, rfl, h3.tail⟩
    have hb3 := h3.head.1
    rw [Addr.add_lit, cell_hp]
    unfold cellH
    rw [hb3]
    show (Sort.putCells _ 0 dk Lib.zeros24)[0 + j]? = _
    have hj24 : j < 24 := by omega
    have hdk : dk.size = Lib.nDigits n := hinv.size
    rw [Nat.zero_add, Sort.putCells, Array.getElem?_mapIdx, Lib.zeros24_at j hj24]
    simp only [Option.map_some, Nat.zero_add, Nat.sub_zero]
    rw [if_pos ⟨Nat.zero_le _, by omega⟩, Lib.row_is_numeral hinv j hj]
/-! ### The journal's struct; the name of a file -/
def jC (d : Nat) (nm : ByteArray) (l recs : Sl) (next : Nat) (off : Bool) : Array Value := #[.pointer (pt d), .string nm, .slice l.a l.len l.cap, .slice recs.a recs.len recs.cap, .int .u64 next, .bool off]
def jCell (j d : Nat) (nm : ByteArray) (l recs : Sl) (next : Nat) (off : Bool) : Nat × Obj := (j, .cells (jC d nm l recs next off) T_journal_Journal)
def fileN (nm : ByteArray) (n : Nat) : ByteArray := ((nm ++ ⟨#[45]⟩) ++ ⟨(Lib.repeatL [48] (12 - (Lib.decDigits n).length)).toArray⟩) ++ decS n
def cutN (nm : ByteArray) : ByteArray := nm ++ ⟨#[45, 99, 117, 116]⟩
variable {j d next : Nat} {nm : ByteArray} {l recs : Sl} {off : Bool}
theorem size_app (a b : ByteArray) : (a ++ b).size = a.size + b.size := by simp
theorem rep_len (c : Nat) : (Lib.repeatL ([48] : List UInt8) c).length = c := by
  induction c with
  | zero => rfl
  | succ c ih => simp only [Lib.repeatL, List.length_append, ih]; simp; omega
theorem file_ok (n : Nat) (hn : n < 18446744073709551616) (hg : Glob S) (h : St B w S L) (hj : jCell j d nm l recs next off ∈ L) (hnm : nm.size ≤ 1000) :
    CallP Tryz.prog n_journal_Journal_file [.pointer (pt j), .int .u64 n] w (ret1 tS fun r w' => r = fileN nm n ∧ St B w' S L) := by
  refine vc_journal_Journal_file _ _ _ _ ?_
  unfold F_journal_Journal_file
  refine (FormatUint_ok n hn hg h).mono1 ?_
  rintro r w1 ⟨rfl, h1⟩
  have hds : (decS n).size = (Lib.decDigits n).length := by simp [decS, ByteArray.size]
  have hd20 : (Lib.decDigits n).length ≤ 20 := by rw [Lib.decDigits_length]; exact Lib.nDigits_le20 n hn
  refine v_nz (v_ldo (by exact h1.mem hj) nm ⟨?_, ?_⟩)
  · have : (⟨#[45]⟩ : ByteArray).size = 1 := rfl
    omega
  have hc : (if (IntKind.i64.wrap ((12 : Int) - ((decS n).size : Int))) > (0 : Int) then (IntKind.i64.wrap ((12 : Int) - ((decS n).size : Int))) else (0 : Int)) = ((12 - (Lib.decDigits n).length : Nat) : Int) := by
    rw [hds, IntWalk.i64_in _ (by omega)]
    split <;> omega
  rw [hc]
  refine Calls.mono (Tryz.strings_Repeat ⟨#[48]⟩ (12 - (Lib.decDigits n).length) (dr w1) (by omega) (by show 1 * _ ≤ _; omega)) ?_
  rintro e w2 ⟨rfl, hbel⟩
  have h2 : St B w2 S L := h1.dr.grow hbel.os hbel.output (fun x hx => hbel.block x hx)
  have hrs : (⟨(Lib.repeatL [48] (12 - (Lib.decDigits n).length)).toArray⟩ : ByteArray).size = 12 - (Lib.decDigits n).length := by
    simp only [ByteArray.size, List.size_toArray]
    exact rep_len _
  have h45 : (⟨#[45]⟩ : ByteArray).size = 1 := rfl
  refine ⟨_, rfl, _, rfl, v_at (h2.mem hj), ?_, ?_, rfl, h2⟩
  · rw [size_app]
    show nm.size + (⟨#[45]⟩ : ByteArray).size + (⟨(Lib.repeatL [48] (12 - (Lib.decDigits n).length)).toArray⟩ : ByteArray).size ≤ _
    omega
  · rw [size_app, size_app]
    show nm.size + (⟨#[45]⟩ : ByteArray).size + (⟨(Lib.repeatL [48] (12 - (Lib.decDigits n).length)).toArray⟩ : ByteArray).size + _ ≤ _
    omega
theorem cut_ok (h : St B w S L) (hj : jCell j d nm l recs next off ∈ L) (hnm : nm.size ≤ 1000) :
    CallP Tryz.prog n_journal_Journal_cut [.pointer (pt j)] w (ret1 tS fun r w' => r = cutN nm ∧ w' = w) := by
  refine vc_journal_Journal_cut _ _ _ ?_
  unfold F_journal_Journal_cut
  refine v_nz (v_ldo (h.mem hj) nm ⟨?_, rfl, rfl⟩)
  have : (⟨#[45, 99, 117, 116]⟩ : ByteArray).size = 4 := rfl
  omega
theorem jnone_ok (h : St B w S L) (hj : jCell j d nm l recs next off ∈ L) : CallP Tryz.prog n_journal_Journal_none [.pointer (pt j)] w (ret1 tB fun r w' => r = false ∧ w' = w) := by
  refine vc_journal_Journal_none _ _ _ ?_
  unfold F_journal_Journal_none
  refine v_join (fun r w' => r = false ∧ w' = w) (fun x w' hx => hx) ⟨fun hc => absurd hc (by simp), fun _ => v_nz ?_⟩
  exact v_ldo (h.mem hj) (pt d) ⟨rfl, rfl⟩
theorem jasked_ok (h : St B w S L) (hj : jCell j d nm l recs next off ∈ L) : CallP Tryz.prog n_journal_Journal_asked [.pointer (pt j)] w (ret1 (tI .i64) fun r w' => r = (if off then 10 else 0) ∧ w' = w) := by
  refine vc_journal_Journal_asked _ _ _ ?_
  unfold F_journal_Journal_asked
  refine (jnone_ok h hj).mono1 ?_
  rintro r w1 ⟨rfl, rfl⟩
  refine ⟨fun hc => absurd hc (by simp), fun _ => v_nz (v_ldo (h.mem hj) off ⟨fun ho => ⟨by rw [ho]; rfl, rfl⟩, fun ho => ⟨by rw [ho]; rfl, rfl⟩⟩)⟩
theorem ended_ok {e : Int} (h : St B w S (jCell j d nm l recs next off :: L)) : CallP Tryz.prog n_journal_Journal_ended [.pointer (pt j), .int .i64 e] w (ret1 (tI .i64) fun r w' => r = e ∧ St B w' S (jCell j d nm l recs next (if e = 10 then true else off) :: L)) := by
  refine vc_journal_Journal_ended _ _ _ _ ?_
  unfold F_journal_Journal_ended
  refine v_join (fun _ w' => St B w' S (jCell j d nm l recs next (if e = 10 then true else off) :: L)) (fun _ w' h' => ⟨rfl, h'⟩) ⟨fun he => v_nz (v_sto h fun w' h' => ?_), fun he => ?_⟩
  · rw [if_pos he]; exact h'
  · rw [if_neg he]; exact h
end
end Go.Proofs.YtccebpahnnfceaaGreatDoor
