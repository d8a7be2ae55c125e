/- frame: what its functions come to. -/
import Derived.Test.YtccebpahnnfceaaGreatDoorJCrc
import Derived.Test.YtccebpahnnfceaaGreatDoorVcMore
namespace Go.Proofs.YtccebpahnnfceaaGreatDoor
open Go.Vc
set_option linter.unusedVariables false
set_option linter.unusedSimpArgs false
/-! ### Words -/
def get4 (l : List UInt8) : BitVec 32 :=
  (((l.getD 0 0).toBitVec.setWidth 32 ||| (l.getD 1 0).toBitVec.setWidth 32 <<< 8) ||| (l.getD 2 0).toBitVec.setWidth 32 <<< 16) ||| (l.getD 3 0).toBitVec.setWidth 32 <<< 24
def put4 (s : BitVec 32) : List UInt8 := [⟨s.setWidth 8⟩, ⟨(s >>> 8).setWidth 8⟩, ⟨(s >>> 16).setWidth 8⟩, ⟨(s >>> 24).setWidth 8⟩]
def encHead (k : UInt8) (n : Nat) : List UInt8 := [k, UInt8.ofNat n, UInt8.ofNat (n / 256), UInt8.ofNat (n / 65536)]
def encFrame (k : UInt8) (body : List UInt8) : List UInt8 :=
  encHead k body.length ++ put4 (crcMore 0 (encHead k body.length)) ++ body ++ put4 (crcMore (crcMore 0 (encHead k body.length)) body)
def frLen (l : List UInt8) : Nat := (l.getD 1 0).toNat + (l.getD 2 0).toNat * 256 + (l.getD 3 0).toNat * 65536
def frRead (l : List UInt8) : Option (UInt8 × List UInt8) :=
  if l.length < 8 then none else
  if get4 (l.drop 4) ≠ crcMore 0 (l.take 4) then none else
  if 1048576 < frLen l then none else
  if l.length < 8 + frLen l + 4 then none else
  if get4 (l.drop (8 + frLen l)) ≠ crcMore (crcMore 0 (l.take 4)) ((l.drop 8).take (frLen l)) then none else
  some (l.getD 0 0, (l.drop 8).take (frLen l))
def OwnB (s : Sl) (l : List UInt8) (ow : Own) : Prop := OwnSl T_uint8 1 s (l.map bV) ow
theorem ety_u8 : ETy Tryz.prog T_sl_uint8 T_uint8 1 1 := ETy.of (z := .int .u8 0) Tryz.underlying32 (by kernel_rfl) rfl rfl
theorem bV_one (l : List UInt8) : ∀ v ∈ l.map bV, v.oneCell' = true := by
  intro v hv
  obtain ⟨c, _, rfl⟩ := List.mem_map.1 hv
  rfl
theorem OwnB.rd {B : Bs} {w : World} {S : Hp} {F ow : Own} {s : Sl} {l : List UInt8} (ho : OwnB s l ow) (h : St B w S (ow ++ F)) : RdB (hp w) s l := OwnSl.rd ho h
theorem OwnB.len {s : Sl} {l : List UInt8} {ow : Own} (ho : OwnB s l ow) : l.length = s.len := by have := ho.1; simpa using this

/-! ### get, put -/
theorem get_ok (b : Sl) (l : List UInt8) (w : World) (h : RdB (hp w) b l) (hl : 4 ≤ l.length) : CallP Tryz.prog n_frame_get [Sl.v b] w (ret1 (tI .u32) fun r w' => r = (get4 l).toNat ∧ SameW w w') := by
  refine vc_frame_get _ _ _ ?_
  unfold F_frame_get
  have hb : 4 ≤ b.len := by rw [← h.len]; exact hl
  have h' : RdB (hp (dr w)) b l := h
  refine RdB.at h' (Sub.refl _) (by omega) (by omega) ?_
  refine RdB.at h' (Sub.refl _) (by omega) (by omega) ?_
  refine RdB.at h' (Sub.refl _) (by omega) (by omega) ?_
  refine RdB.at h' (Sub.refl _) (by omega) (by omega) ?_
  refine ⟨?_, SameW.dr w⟩
  have w32 : ∀ c : UInt8, IntKind.u32.wrap (c.toNat : Int) = ((c.toBitVec.setWidth 32).toNat : Int) := fun c => by rw [u8_32, wrap_toNat32]
  have s32 : ∀ (s : BitVec 32) (k : Nat) (q : Int), q = (k : Int) → k ≤ 32 → shlV .u32 (s.toNat : Int) q = ((s <<< k).toNat : Int) := fun s k q e hk => by rw [e]; exact shlV32 s k hk
  rw [w32, w32, w32, w32, s32 _ 8 8 rfl (by omega), s32 _ 16 16 rfl (by omega), s32 _ 24 24 rfl (by omega), bits_or32, bits_or32, bits_or32]
  rfl
theorem put_ok (b : Sl) (l : List UInt8) (s : BitVec 32) {B : Bs} {w : World} {S : Hp} {F ow : Own} (h : St B w S (ow ++ F)) (ho : OwnB b l ow) (hl : l.length ≤ 1000000000) :
    CallP Tryz.prog n_frame_put [Sl.v b, .int .u32 s.toNat] w (ret1 tSl fun r w' => ∃ ow', St B w' S (ow' ++ F) ∧ OwnB r (l ++ put4 s) ow') := by
  refine vc_frame_put _ _ _ _ ?_
  unfold F_frame_put
  have hs : ∀ (k : Nat) (q : Int), q = (k : Int) → k ≤ 32 → IntKind.u8.wrap (shrV .u32 (s.toNat : Int) q) = (((s >>> k).setWidth 8).toNat : Int) := fun k q e hk => by rw [e, shrV32 s k hk, wrap8_32]
  rw [wrap8_32, hs 8 8 rfl (by omega), hs 16 16 rfl (by omega), hs 24 24 rfl (by omega)]
  refine v_al h fun b1 w1 h1 => ?_
  have h1' : St B w1 S (ow ++ ((b1, .cells ((put4 s).map bV).toArray T_uint8) :: F)) := h1.perm (by
    show List.Perm ((b1, _) :: (ow ++ F)) _
    exact List.perm_middle.symm)
  have hx : RdV (hp w1) 1 ⟨some ⟨b1, 0, none⟩, 4, 4⟩ ((put4 s).map bV) := (OwnSl.new T_uint8 1 4 b1 ((put4 s).map bV) rfl (by decide)).rd (F := ow ++ F) h1
  have hlen := ho.len
  refine v_app ety_u8 h1' ho hx (bV_one _) (by show (b.len + 4) * 1 ≤ _; omega) (by show b.len + 4 ≤ maxLen; unfold maxLen; omega) ?_
  intro s' w' ow' h2 ho2 _ _
  refine ⟨ow', h2.sublist ?_, ?_⟩
  · exact (List.Sublist.refl ow').append (List.sublist_cons_self _ _)
  · unfold OwnB; rw [List.map_append]; exact ho2

/-! ### Append -/
theorem RdB.mono_sh {B : Bs} {w : World} {S : Hp} {L : Own} {s : Sl} {l : List UInt8} (hr : RdB S s l) (h : St B w S L) : RdB (hp w) s l := hr.mono h.sh
theorem Append_ok (k : UInt8) (body : Sl) (l : List UInt8) {B : Bs} {w : World} {S : Hp} {F : Own} (h : St B w S F) (hb : RdB S body l) (hl : l.length ≤ 1048576) :
    CallP Tryz.prog n_frame_Append [Sl.v ⟨none, 0, 0⟩, ty_api_Frame.val ⟨k.toNat, body⟩] w (ret2 tSl (tI .i64) fun r e w' => e = 0 ∧ ∃ ow, St B w' S (ow ++ F) ∧ OwnB r (encFrame k l) ow) := by
  refine vc_frame_Append _ _ _ _ ?_
  unfold F_frame_Append
  have hlen := hb.len
  refine v_al h fun b1 w1 h1 => ?_
  refine v_ldo h1.head.1 body ⟨fun hc => absurd hc (by omega), fun _ => ⟨by simp, by simp, by simp, by simp, ?_⟩⟩
  refine v_ldo (by exact h1.head.1) (k.toNat : Int) ?_
  refine v_al h1.dr fun b2 w2 h2 => ?_
  have e1 : IntKind.u8.wrap (body.len : Int) = ((UInt8.ofNat l.length).toNat : Int) := by rw [hlen]; exact wrap8_nat _
  have e2 : IntKind.u8.wrap (shrV .i64 (body.len : Int) 8) = ((UInt8.ofNat (l.length / 256)).toNat : Int) := by rw [hlen, show (8 : Int) = ((8 : Nat) : Int) from rfl, shrV_i64 _ 8 (by omega)]; exact wrap8_nat _
  have e3 : IntKind.u8.wrap (shrV .i64 (body.len : Int) 16) = ((UInt8.ofNat (l.length / 65536)).toNat : Int) := by rw [hlen, show (16 : Int) = ((16 : Nat) : Int) from rfl, shrV_i64 _ 16 (by omega)]; exact wrap8_nat _
  rw [e1, e2, e3] at h2
  have hx : RdV (hp w2) 1 ⟨some ⟨b2, 0, none⟩, 4, 4⟩ ((encHead k l.length).map bV) := (OwnSl.new T_uint8 1 4 b2 ((encHead k l.length).map bV) rfl (by decide)).rd (F := (b1, _) :: F) h2
  refine v_app (ow := []) (xs := []) ety_u8 h2 (OwnSl.nil _ _) hx (bV_one _) (by show (0 + 4) * 1 ≤ _; omega) (by show 0 + 4 ≤ maxLen; decide) fun s3 w3 ow3 h3 ho3 hl3 _ => ?_
  rw [List.nil_append] at ho3
  have ho3' : OwnB s3 (encHead k l.length) ow3 := ho3
  have hs3 : s3.len = 4 := by rw [hl3]; rfl
  refine ⟨by simp, by simp, by have := ho3.cap; omega, by simp, ?_⟩
  have hr3 : RdB (hp w3) (slS s3 0 s3.len s3.cap 1) (encHead k l.length) := by
    have := RdB.slice (i := 0) (j := s3.len) (m := s3.cap) (ho3'.rd h3) (by omega) (by omega) (by omega) (by have := ho3.cap; omega) (by omega)
    simpa [hs3, encHead] using this
  refine (Sum_ok _ _ _ hr3 (by simp [slS, hs3])).mono1 ?_
  rintro r w4 ⟨rfl, rfl⟩
  have hb1 : hp w4 b1 = some (.cells [.int .u8 (k.toNat : Int), .slice body.a body.len body.cap].toArray T_api_Frame) := h3.mem (by simp)
  refine v_ldo (by exact hb1) body ?_
  refine (put_ok _ _ _ h3.dr ho3' (by simp [encHead])).mono1 ?_
  rintro s5 w5 ⟨ow5, h5, ho5⟩
  have hb5 : hp w5 b1 = some (.cells [.int .u8 (k.toNat : Int), .slice body.a body.len body.cap].toArray T_api_Frame) := h5.mem (by simp)
  refine ⟨v_at hb5, ?_⟩
  have hl5 := ho5.len
  simp only [encHead, put4, List.length_append, List.length_cons, List.length_nil] at hl5
  refine v_app ety_u8 h5 ho5 (hb.sh h5) (bV_one _) (by omega) (by unfold maxLen; omega) fun s6 w6 ow6 h6 ho6 hl6 _ => ?_
  have hb6 : hp w6 b1 = some (.cells [.int .u8 (k.toNat : Int), .slice body.a body.len body.cap].toArray T_api_Frame) := h6.mem (by simp)
  refine v_ldo (by exact hb6) body ?_
  refine (More_ok _ _ _ _ (hb.sh h6) (by omega)).mono1 ?_
  rintro r w7 ⟨rfl, rfl⟩
  have ho6' : OwnB s6 ((encHead k l.length ++ put4 (crcMore 0 (encHead k l.length))) ++ l) ow6 := by unfold OwnB; rw [List.map_append]; exact ho6
  refine (put_ok _ _ _ h6 ho6' (by simp [encHead, put4]; omega)).mono1 ?_
  rintro s8 w8 ⟨ow8, h8, ho8⟩
  exact ⟨rfl, ow8, h8.fit (fun a => by simp; omega), ho8⟩

/-! ### Read -/
theorem OwnB.share {B : Bs} {w : World} {S : Hp} {F ow : Own} {s : Sl} {l : List UInt8} (ho : OwnB s l ow) (h : St B w S (ow ++ F)) : ∃ S', Sub S S' ∧ St B w S' F ∧ RdB S' s l := OwnSl.share ho h
/-- What is told of a frame that was read. -/
def FrameIs (S : Hp) (o : Option (UInt8 × List UInt8)) (f : S_api_Frame) (n e : Int) : Prop :=
  match o with
  | none => e ≠ 0
  | some (k, body) => e = 0 ∧ n = (12 + body.length : Nat) ∧ f.f_Kind = k.toNat ∧ RdB S f.f_Body body
theorem Read_ok (b : Sl) (l : List UInt8) {B : Bs} {w : World} {S : Hp} {F : Own} (h : St B w S F) (hb : RdB S b l) (hl : l.length ≤ 1000000000) (hcap : b.cap ≤ maxLen) :
    CallP Tryz.prog n_frame_Read [Sl.v b] w (ret3 ty_api_Frame (tI .i64) (tI .i64) fun f n e w' => ∃ S', Sub S S' ∧ St B w' S' F ∧ FrameIs S' (frRead l) f n e) := by
  refine vc_frame_Read _ _ _ ?_
  unfold F_frame_Read
  have hlen := hb.len
  have hcl := hb.2.1
  have hm : maxLen = 9223372036854775807 := rfl
  refine v_al h fun b1 w1 h1 => ⟨fun hc => ?_, fun hc => ?_⟩
  · refine v_sto h1 fun w2 h2 => v_ldn h2.head.1 (⟨0, ⟨none, 0, 0⟩⟩ : S_api_Frame) ⟨S, Sub.refl S, h2.tail, ?_⟩
    rw [frRead, if_pos (by omega)]
    show (4 : Int) ≠ 0
    omega
  refine ⟨by omega, by omega, by omega, by omega, ?_⟩
  have hr1 : RdB (hp w1) (slS b 0 4 b.cap 1) (l.take 4) := by
    have := RdB.slice (i := 0) (j := 4) (m := b.cap) (hb.sh h1) (by omega) (by omega) (by omega) (by omega) (by omega)
    simpa using this
  refine (Sum_ok _ _ _ hr1 (by simp [slS])).mono1 ?_
  rintro r w2 ⟨rfl, rfl⟩
  have hbw : RdB (hp (dr w2)) b l := hb.sh h1.dr
  refine RdB.at hbw (Sub.refl _) (by omega) (by omega) ?_
  refine RdB.at hbw (Sub.refl _) (by omega) (by omega) ?_
  refine RdB.at hbw (Sub.refl _) (by omega) (by omega) ?_
  rw [le24]
  have hfr : ((l.getD (1 : Int).toNat 0).toNat + (l.getD (2 : Int).toNat 0).toNat * 256 + (l.getD (3 : Int).toNat 0).toNat * 65536) = frLen l := rfl
  rw [hfr]
  have hflt : frLen l < 16777216 := by
    have h1 := (l.getD 1 0).toNat_lt; have h2 := (l.getD 2 0).toNat_lt; have h3 := (l.getD 3 0).toNat_lt
    simp only [frLen]; omega
  have e8 : IntKind.i64.wrap ((8 : Int) + (frLen l : Nat)) = ((8 + frLen l : Nat) : Int) := by rw [IntWalk.i64_in _ (by omega)]; omega
  have e12 : IntKind.i64.wrap (((8 + frLen l : Nat) : Int) + 4) = ((12 + frLen l : Nat) : Int) := by rw [IntWalk.i64_in _ (by omega)]; omega
  rw [e8, e12]
  refine v_join (fun r w' => SameW (dr w2) w' ∧ (r = false ↔ get4 (l.drop 4) = crcMore 0 (l.take 4) ∧ frLen l ≤ 1048576)) ?_ ?_
  · rintro vj w3 ⟨hs3, hvj⟩
    have h3 : St B w3 S ((b1, _) :: F) := h1.dr.same hs3
    refine ⟨fun hj => ?_, fun hj => ⟨fun hc2 => ?_, fun hc2 => ?_⟩⟩
    · refine v_sto h3 fun w4 h4 => v_ldn h4.head.1 (⟨0, ⟨none, 0, 0⟩⟩ : S_api_Frame) ⟨S, Sub.refl S, h4.tail, ?_⟩
      subst hj
      have : ¬ (get4 (l.drop 4) = crcMore 0 (l.take 4) ∧ frLen l ≤ 1048576) := fun q => by simpa using hvj.2 q
      rw [frRead, if_neg (by omega)]
      by_cases hg : get4 (l.drop 4) = crcMore 0 (l.take 4)
      · rw [if_neg (by simpa using hg), if_pos (by have : ¬ frLen l ≤ 1048576 := fun q => this ⟨hg, q⟩
                                                   omega)]
        show (5 : Int) ≠ 0
        omega
      · rw [if_pos hg]; show (5 : Int) ≠ 0; omega
    · refine v_sto h3 fun w4 h4 => v_ldn h4.head.1 (⟨0, ⟨none, 0, 0⟩⟩ : S_api_Frame) ⟨S, Sub.refl S, h4.tail, ?_⟩
      obtain ⟨hg, hn⟩ := hvj.1 hj
      rw [frRead, if_neg (by omega), if_neg (by simpa using hg), if_neg (by omega), if_pos (by omega)]
      show (4 : Int) ≠ 0
      omega
    obtain ⟨hg, hn⟩ := hvj.1 hj
    refine ⟨by omega, by omega, by omega, by omega, by omega, by omega, by omega, by omega, ?_⟩
    have hb3 : RdB (hp w3) b l := hb.sh h3
    have hr2 : RdB (hp w3) (slS b ((8 + frLen l : Nat) : Int) b.len b.cap 1) (l.drop (8 + frLen l)) := by
      have := RdB.slice (i := ((8 + frLen l : Nat) : Int)) (j := b.len) (m := b.cap) hb3 (by omega) (by omega) (by omega) (by omega) (by omega)
      rw [show ((8 + frLen l : Nat) : Int).toNat = 8 + frLen l by omega, List.take_of_length_le (by simp; omega)] at this
      exact this
    refine (get_ok _ _ _ hr2 (by simp; omega)).mono1 ?_
    rintro r4 w4 ⟨rfl, hs4⟩
    have h4 : St B w4 S ((b1, _) :: F) := h3.same hs4
    have hr3 : ∀ w', St B w' S ((b1, .cells [.int .u8 ((0 : Int)), .slice none 0 0].toArray T_api_Frame) :: F) → RdB (hp w') (slS b 8 ((8 + frLen l : Nat) : Int) ((8 + frLen l : Nat) : Int) 1) ((l.drop 8).take (frLen l)) := fun w' hw' => by
      have := RdB.slice (i := 8) (j := ((8 + frLen l : Nat) : Int)) (m := ((8 + frLen l : Nat) : Int)) (hb.sh hw') (by omega) (by omega) (by omega) (by omega) (by omega)
      rw [show ((8 + frLen l : Nat) : Int).toNat - (8 : Int).toNat = frLen l by omega] at this
      exact this
    refine (More_ok _ _ _ _ (hr3 w4 h4) (by simp only [slS]; omega)).mono1 ?_
    rintro r5 w5 ⟨rfl, rfl⟩
    refine ⟨fun hne => ?_, fun heq => ?_⟩
    · refine v_sto h4 fun w6 h6 => v_ldn h6.head.1 (⟨0, ⟨none, 0, 0⟩⟩ : S_api_Frame) ⟨S, Sub.refl S, h6.tail, ?_⟩
      rw [frRead, if_neg (by omega), if_neg (by simpa using hg), if_neg (by omega), if_neg (by omega), if_pos (fun q => hne (by rw [q]))]
      show (5 : Int) ≠ 0
      omega
    have hgg : get4 (l.drop (8 + frLen l)) = crcMore (crcMore 0 (l.take 4)) ((l.drop 8).take (frLen l)) := by
      have : ((get4 (l.drop (8 + frLen l))).toNat : Int) = (crcMore (crcMore 0 (l.take 4)) ((l.drop 8).take (frLen l))).toNat := by simpa using heq
      exact BitVec.eq_of_toNat_eq (by omega)
    refine RdV.ixs hb (by omega) (by omega) fun b5 q5 hc5 => ?_
    have hl0 : 0 < l.length := by omega
    have hc50 : cellH S b5 (q5 + (0 : Int).toNat * 1) = some (bV (l.getD 0 0)) := hc5 0 _ (by simp [List.getD, hl0])
    refine v_ld1 ((l.getD 0 0).toNat : Int) rfl (h4.dr.sh.cell hc50) ?_
    have hbl : ((l.drop 8).take (frLen l)).length = frLen l := by simp; omega
    have hsl : (slS b 8 ((8 + frLen l : Nat) : Int) ((8 + frLen l : Nat) : Int) 1).len = frLen l := by simp only [slS]; omega
    refine v_app (ow := []) (xs := []) ety_u8 h4.dr (OwnSl.nil _ _) (hr3 _ h4.dr) (bV_one _) (by rw [hsl]; simp; omega) (by rw [hsl]; simp; omega) fun s6 w6 ow6 h6 ho6 hl6 _ => ?_
    rw [List.nil_append] at ho6
    have ho6' : OwnB s6 ((l.drop 8).take (frLen l)) ow6 := ho6
    refine ⟨v_at1 (h6.sh.cell hc50), ?_⟩
    have h6' : St B w6 S ((b1, _) :: (ow6 ++ F)) := h6.perm List.perm_middle
    refine v_sto h6' fun w7 h7 => v_ldn h7.head.1 (⟨((l.getD 0 0).toNat : Int), s6⟩ : S_api_Frame) ?_
    obtain ⟨S', hS', h8, hr8⟩ := ho6'.share h7.tail
    refine ⟨S', hS', h8, ?_⟩
    rw [frRead, if_neg (by omega), if_neg (by simpa using hg), if_neg (by omega), if_neg (by omega), if_neg (by simpa using hgg)]
    exact ⟨rfl, by rw [hbl], rfl, hr8⟩
  · refine ⟨by omega, by omega, by omega, by omega, ?_⟩
    have hr2 : RdB (hp (dr w2)) (slS b 4 b.len b.cap 1) (l.drop 4) := by
      have := RdB.slice (i := 4) (j := b.len) (m := b.cap) hbw (by omega) (by omega) (by omega) (by omega) (by omega)
      rw [List.take_of_length_le (by simp; omega)] at this
      exact this
    refine (get_ok _ _ _ hr2 (by simp; omega)).mono1 ?_
    rintro r4 w4 ⟨rfl, hs4⟩
    have hiff : ((get4 (l.drop 4)).toNat : Int) = (crcMore 0 (l.take 4)).toNat ↔ get4 (l.drop 4) = crcMore 0 (l.take 4) :=
      ⟨fun q => BitVec.eq_of_toNat_eq (by omega), fun q => by rw [q]⟩
    refine ⟨fun hne => ⟨hs4, by simp; intro q; exact absurd (hiff.2 q) hne⟩, fun heq => ⟨hs4, ?_⟩⟩
    have := hiff.1 (by simpa using heq)
    simp only [this, decide_eq_false_iff_not, true_and]
    omega
theorem frRead_some {l : List UInt8} {k : UInt8} {body : List UInt8} (h : frRead l = some (k, body)) : 12 + body.length ≤ l.length := by
  unfold frRead at h
  split at h
  · cases h
  split at h
  · cases h
  split at h
  · cases h
  split at h
  · cases h
  split at h
  · cases h
  · simp only [Option.some.injEq, Prod.mk.injEq] at h
    rw [← h.2]
    simp
    omega
/-! ### Scan -/
/-- The frames that stand at the front, as far as they can be read. -/
def frScanN : Nat → List UInt8 → List (UInt8 × List UInt8)
  | 0, _ => []
  | k + 1, l => match frRead l with
    | none => []
    | some f => f :: frScanN k (l.drop (12 + f.2.length))
def frScan (l : List UInt8) : List (UInt8 × List UInt8) := frScanN l.length l
theorem frScanN_eq : ∀ (k m : Nat) (l : List UInt8), l.length ≤ k → l.length ≤ m → frScanN k l = frScanN m l
  | 0, 0, l, _, _ => rfl
  | 0, m + 1, l, h, _ => by
    obtain rfl : l = [] := List.eq_nil_of_length_eq_zero (by omega)
    rfl
  | k + 1, 0, l, _, h => by
    obtain rfl : l = [] := List.eq_nil_of_length_eq_zero (by omega)
    rfl
  | k + 1, m + 1, l, h, h' => by
    unfold frScanN
    cases hr : frRead l with
    | none => rfl
    | some f =>
      have := frRead_some (k := f.1) (body := f.2) (by rw [hr])
      dsimp only
      rw [frScanN_eq k m (l.drop (12 + f.2.length)) (by simp; omega) (by simp; omega)]
theorem frScan_eq (l : List UInt8) : frScan l = match frRead l with | none => [] | some f => f :: frScan (l.drop (12 + f.2.length)) := by
  unfold frScan
  cases hl : l.length with
  | zero =>
    obtain rfl : l = [] := List.eq_nil_of_length_eq_zero hl
    rfl
  | succ n =>
    rw [frScanN]
    cases hr : frRead l with
    | none => rfl
    | some f =>
      have := frRead_some (k := f.1) (body := f.2) (by rw [hr])
      dsimp only
      rw [frScanN_eq n _ _ (by simp; omega) (Nat.le_refl _)]
def FrIs (S : Hp) (f : S_api_Frame) (p : UInt8 × List UInt8) : Prop := f.f_Kind = p.1.toNat ∧ RdB S f.f_Body p.2
theorem FrIs.mono {S S' : Hp} (h : Sub S S') (f : S_api_Frame) (p : UInt8 × List UInt8) (k : FrIs S f p) : FrIs S' f p := ⟨k.1, k.2.mono h⟩
theorem ety_frame : ETy Tryz.prog T_sl_api_Frame T_api_Frame 2 32 := ETy.of (z := .agg #[.int .u8 0, .slice none 0 0]) Tryz.underlying110 (by kernel_rfl) rfl rfl
theorem Scan_ok (b : Sl) (l : List UInt8) {B : Bs} {w : World} {S : Hp} {F : Own} (h : St B w S F) (hb : RdB S b l) (hl : l.length ≤ 1000000000) (hcap : b.cap ≤ maxLen) :
    CallP Tryz.prog n_frame_Scan [Sl.v b] w (ret3 tSl (tI .i64) (tI .i64) fun r n e w' => ∃ S' ss, Sub S S' ∧ St B w' S' F ∧ RdV S' 2 r (ss.flatMap ty_api_Frame.cells) ∧ All2 (FrIs S') ss (frScan l) ∧ r.len = ss.length) := by
  refine vc_frame_Scan _ _ _ ?_
  unfold F_frame_Scan
  have hlen := hb.len
  have hcl := hb.2.1
  have hm : maxLen = 9223372036854775807 := rfl
  refine loop_by (fun (x : Sl × Int) w' => ∃ S' ow ss fs, ∃ n : Nat, Sub S S' ∧ St B w' S' (ow ++ F) ∧ OwnSl T_api_Frame 2 x.1 (ss.flatMap ty_api_Frame.cells) ow ∧ All2 (FrIs S') ss fs ∧ x.2 = n ∧ n ≤ l.length ∧ frScan l = fs ++ frScan (l.drop n) ∧ x.1.len = ss.length ∧ 12 * ss.length ≤ n) (fun x _ => l.length - x.2.toNat) ?_ ⟨S, [], [], [], 0, Sub.refl S, h, OwnSl.nil _ _, trivial, rfl, Nat.zero_le _, rfl, rfl, Nat.zero_le _⟩
  rintro J ⟨x, y⟩ w' ⟨S', ow, ss, fs, n, hS', h', ho, ha, hy, hn, hsc, hx, h12⟩ k
  dsimp only at hy hx ho
  subst hy
  have hcp := ho.cap
  have done : ∀ e : Int, frScan (l.drop n) = [] → ∃ S'' ss', Sub S S'' ∧ St B w' S'' F ∧ RdV S'' 2 x (ss'.flatMap ty_api_Frame.cells) ∧ All2 (FrIs S'') ss' (frScan l) ∧ x.len = ss'.length := fun e hz => by
    obtain ⟨S'', hS'', h'', hr⟩ := ho.share h'
    exact ⟨S'', ss, hS'.trans hS'', h'', hr, by rw [hsc, hz, List.append_nil]; exact ha.mono (FrIs.mono hS''), hx⟩
  refine ⟨fun hc => ⟨by simp, by omega, by omega, by omega, ?_⟩, fun hc => done 0 ?_⟩
  · have hr : RdB S' (slS b (n : Int) b.len b.cap 1) (l.drop n) := by
      have := RdB.slice (i := (n : Int)) (j := b.len) (m := b.cap) (hb.mono hS') (by omega) (by omega) (by omega) (by omega) (by omega)
      rw [show (n : Int).toNat = n by omega, List.take_of_length_le (by simp; omega)] at this
      exact this
    refine (Read_ok _ _ h' hr (by simp; omega) (by simp only [slS]; omega)).mono3 ?_
    rintro r r1 r2 w1 ⟨S1, hS1, h1, hf⟩
    have h1' : St B w1 S1 (ow ++ F) := h1
    refine v_al h1 fun b1 w2 h2 => v_sto h2 fun w3 h3 => ⟨fun he => ?_, fun he => ?_⟩
    · have hz : frScan (l.drop n) = [] := by
        rw [frScan_eq]
        cases hfr : frRead (l.drop n) with
        | none => rfl
        | some f => rw [hfr] at hf; exact absurd hf.1 he
      obtain ⟨S'', hS'', h'', hr'⟩ := ho.share h3.tail
      exact ⟨S'', ss, (hS'.trans hS1).trans hS'', h'', hr', by rw [hsc, hz, List.append_nil]; exact ha.mono (FrIs.mono (hS1.trans hS'')), hx⟩
    · cases hfr : frRead (l.drop n) with
      | none => rw [hfr] at hf; exact absurd hf he
      | some f =>
        obtain ⟨kd, body⟩ := f
        rw [hfr] at hf
        obtain ⟨_, hn1, hk, hbd⟩ := hf
        have hfl := frRead_some hfr
        refine v_ldn h3.head.1 r (v_al h3 fun b2 w4 h4 => ?_)
        have hel : RdV (hp w4) 2 ⟨some ⟨b2, 0, none⟩, 1, 1⟩ (ty_api_Frame.cells r) := (OwnSl.new T_api_Frame 2 1 b2 (ty_api_Frame.cells r) rfl (by decide)).rd (F := (b1, _) :: (ow ++ F)) h4
        have h5 := h4.mid2
        have h12' : 12 * ss.length ≤ 1000000000 := by omega
        refine v_app ety_frame h5 ho hel (by intro v hv; simp [ty_api_Frame] at hv; rcases hv with rfl | rfl <;> rfl) (by show (x.len + 1) * 32 ≤ _; omega) (by show x.len + 1 ≤ maxLen; omega) fun s6 w6 ow6 h6 ho6 hl6 _ => ?_
        have hw : IntKind.i64.wrap ((n : Int) + r1) = ((n + (12 + body.length) : Nat) : Int) := by
          rw [hn1, IntWalk.i64_in _ (by simp at hfl ⊢; omega)]; omega
        simp only [List.length_drop] at hfl
        refine k _ _ ⟨S1, ow6, ss ++ [r], fs ++ [(kd, body)], n + (12 + body.length), hS'.trans hS1, h6.fit (fun a => by simp; omega), ?_, ?_, hw, by omega, ?_, ?_, ?_⟩ ?_
        · rw [List.flatMap_append]; simpa using ho6
        · exact All2.append (show All2 (FrIs S1) [r] [(kd, body)] from ⟨⟨hk, hbd⟩, trivial⟩) (ha.mono (FrIs.mono hS1))
        · rw [hsc, frScan_eq (l.drop n), hfr]
          simp [List.drop_drop]
        · show s6.len = _
          rw [hl6, List.length_append, ← hx]; rfl
        · simp; omega
        · show l.length - _ < l.length - _
          dsimp only
          rw [hw]
          omega
  · have hz : l.drop n = [] := List.drop_eq_nil_of_le (by omega)
    rw [hz]; rfl
/-! ### The records of a segment -/
def recsOf (fs : List (UInt8 × List UInt8)) : List (List UInt8) := (fs.takeWhile (fun f => f.1 == 1)).map Prod.snd
def sizeOfR (rs : List (List UInt8)) : Nat := (rs.map fun r => r.length + 12).sum
def slC (s : Sl) : List Value := [s.v]
theorem sizeOfR_append (rs : List (List UInt8)) (r : List UInt8) : sizeOfR (rs ++ [r]) = sizeOfR rs + (r.length + 12) := by
  simp [sizeOfR]
theorem frScanN_size : ∀ (k : Nat) (l : List UInt8), sizeOfR ((frScanN k l).map Prod.snd) ≤ l.length
  | 0, l => by simp [frScanN, sizeOfR]
  | k + 1, l => by
    rw [frScanN]
    cases hr : frRead l with
    | none => simp [sizeOfR]
    | some f =>
      have h1 := frRead_some (k := f.1) (body := f.2) (by rw [hr])
      have h2 := frScanN_size k (l.drop (12 + f.2.length))
      simp only [sizeOfR, List.map_cons, List.sum_cons, List.length_drop] at h2 ⊢
      omega
theorem sizeOfR_len (rs : List (List UInt8)) : 12 * rs.length ≤ sizeOfR rs := by
  induction rs with
  | nil => simp [sizeOfR]
  | cons r rs ih => simp only [sizeOfR, List.map_cons, List.sum_cons, List.length_cons] at ih ⊢; omega
theorem sizeOfR_recsOf (fs : List (UInt8 × List UInt8)) : sizeOfR (recsOf fs) ≤ sizeOfR (fs.map Prod.snd) := by
  unfold recsOf
  induction fs with
  | nil => simp [sizeOfR]
  | cons f fs ih =>
    rw [List.takeWhile_cons]
    split
    · simp only [sizeOfR, List.map_cons, List.sum_cons] at ih ⊢; omega
    · simp [sizeOfR]
theorem recsOf_step (fs : List (UInt8 × List UInt8)) (i : Nat) (hi : i < fs.length) : recsOf (fs.drop i) = if fs[i].1 = 1 then fs[i].2 :: recsOf (fs.drop (i + 1)) else [] := by
  rw [List.drop_eq_getElem_cons hi]
  unfold recsOf
  rw [List.takeWhile_cons]
  by_cases h : fs[i].1 = 1 <;> simp [h]
theorem ety_sls : ETy Tryz.prog T_sl_sl_uint8 T_sl_uint8 1 24 := ETy.of (z := .slice none 0 0) Tryz.underlying22 (by kernel_rfl) rfl rfl
theorem slv_one (l : List Sl) : ∀ v ∈ l.map Sl.v, v.oneCell' = true := by
  intro v hv
  obtain ⟨c, _, rfl⟩ := List.mem_map.1 hv
  rfl
theorem recordsOf_ok (b : Sl) (l : List UInt8) {B : Bs} {w : World} {S : Hp} {F : Own} (h : St B w S F) (hb : RdB S b l) (hl : l.length ≤ 1000000000) (hcap : b.cap ≤ maxLen) :
    CallP Tryz.prog n_journal_recordsOf [Sl.v b] w (ret2 tSl (tI .i64) fun r n w' => ∃ S' ss, Sub S S' ∧ St B w' S' F ∧ RdV S' 1 r (ss.map Sl.v) ∧ All2 (RdB S') ss (recsOf (frScan l)) ∧ n = (sizeOfR (recsOf (frScan l)) : Nat) ∧ r.len = ss.length) := by
  refine vc_journal_recordsOf _ _ _ ?_
  unfold F_journal_recordsOf
  refine (Scan_ok _ _ h hb hl hcap).mono3 ?_
  rintro r r1 r2 w1 ⟨S1, ss, hS1, h1, hr, ha, hrl⟩
  have hal := ha.len
  have hm : maxLen = 9223372036854775807 := rfl
  have hfs : 12 * (frScan l).length + (sizeOfR (recsOf (frScan l))) ≤ 2 * l.length := by
    have h1 := frScanN_size l.length l
    have h2 := sizeOfR_len ((frScan l).map Prod.snd)
    have h3 := sizeOfR_recsOf (frScan l)
    rw [List.length_map] at h2
    unfold frScan at h2 h3 ⊢
    omega
  refine v_join (fun x w' => ∃ ow rs ts, St B w' S1 (ow ++ F) ∧ OwnSl T_sl_uint8 1 x.1 (rs.map Sl.v) ow ∧ All2 (RdB S1) rs ts ∧ recsOf (frScan l) = ts ∧ x.2 = (sizeOfR ts : Nat) ∧ x.1.len = rs.length) ?_ ?_
  · rintro ⟨x, y⟩ w' ⟨ow, rs, ts, h', ho, ha', ht, hy, hx⟩
    obtain ⟨S2, hS2, h2, hr2⟩ := ho.share h'
    exact ⟨S2, rs, hS1.trans hS2, h2, hr2, by rw [ht]; exact ha'.mono fun a b q => q.mono hS2, by rw [ht]; exact hy, hx⟩
  · refine loop_by (fun (x : Sl × Int × Int) w' => ∃ ow rs ts, ∃ i : Nat, St B w' S1 (ow ++ F) ∧ OwnSl T_sl_uint8 1 x.1 (rs.map Sl.v) ow ∧ All2 (RdB S1) rs ts ∧ recsOf (frScan l) = ts ++ recsOf ((frScan l).drop i) ∧ x.2.1 = (sizeOfR ts : Nat) ∧ x.1.len = rs.length ∧ x.2.2 = i ∧ i ≤ ss.length ∧ rs.length = i) (fun x _ => ss.length - x.2.2.toNat) ?_ ⟨[], [], [], 0, h1, OwnSl.nil _ _, trivial, rfl, rfl, rfl, rfl, Nat.zero_le _, rfl⟩
    rintro J ⟨x, y, z⟩ w' ⟨ow, rs, ts, i, h', ho, ha', ht, hy, hx, hz, hi, hri⟩ k
    dsimp only at ho hy hx hz
    subst hz
    dsimp only
    refine ⟨fun hc => ?_, fun hc => ?_⟩
    · have hil : i < (frScan l).length := by omega
      refine v_ixs (t := ty_api_Frame) (n := 2) (by omega) (fun _ => rfl) (hr.sh h') (Sub.refl _) (by omega) (by omega) fun hl2 => ?_
      have hg := ha.get i (by simpa using hl2) hil
      have hst := recsOf_step (frScan l) i hil
      refine v_al h' fun b2 w2 h2 => v_sto h2 fun w3 h3 => ?_
      refine v_ldo h3.head.1 (ss[(i : Int).toNat]).f_Kind ⟨fun hne => ?_, fun heq => ?_⟩
      · refine ⟨ow, rs, ts, h3.tail, ho, ha', ?_, hy, hx⟩
        rw [ht, hst, if_neg, List.append_nil]
        intro h1'
        apply hne
        have := hg.1
        simp only [Int.toNat_natCast]
        rw [this, h1']
        rfl
      · have hk1 : (frScan l)[i].1 = 1 := by
          have := hg.1
          simp only [Int.toNat_natCast] at heq
          have heq' : ss[i].f_Kind = 1 := by simpa using heq
          rw [heq'] at this
          apply UInt8.toNat_inj.1
          show _ = 1
          omega
        rw [if_pos hk1] at hst
        refine v_ldo h3.head.1 (ss[(i : Int).toNat]).f_Body (v_al h3 fun b4 w4 h4 => ?_)
        have hel : RdV (hp w4) 1 ⟨some ⟨b4, 0, none⟩, 1, 1⟩ [(ss[(i : Int).toNat]).f_Body.v] := (OwnSl.new T_sl_uint8 1 1 b4 [(ss[(i : Int).toNat]).f_Body.v] rfl (by decide)).rd (F := (b2, _) :: (ow ++ F)) h4
        have hbd : RdB S1 (ss[(i : Int).toNat]).f_Body (frScan l)[i].2 := hg.2
        refine v_app ety_sls h4.mid2 ho hel (slv_one [_]) (by show (x.len + 1) * 24 ≤ _; omega) (by show x.len + 1 ≤ maxLen; omega) fun s6 w6 ow6 h6 ho6 hl6 _ => ?_
        refine v_ldo h6.dropL.tail.head.1 (ss[(i : Int).toNat]).f_Body ?_
        have hbl := hbd.len
        have hsz : sizeOfR ts + ((frScan l)[i].2.length + 12) ≤ sizeOfR (recsOf (frScan l)) := by
          rw [ht, hst]
          simp only [sizeOfR, List.map_append, List.map_cons, List.sum_append, List.sum_cons]
          omega
        have hw1 : IntKind.i64.wrap (((ss[(i : Int).toNat]).f_Body.len : Int) + 12) = (((frScan l)[i].2.length + 12 : Nat) : Int) := by rw [IntWalk.i64_in _ (by omega)]; omega
        have hw2 : IntKind.i64.wrap (y + (((frScan l)[i].2.length + 12 : Nat) : Int)) = ((sizeOfR ts + ((frScan l)[i].2.length + 12) : Nat) : Int) := by rw [hy, IntWalk.i64_in _ (by omega)]; omega
        have hw3 : IntKind.i64.wrap ((i : Int) + 1) = ((i + 1 : Nat) : Int) := by rw [IntWalk.i64_in _ (by omega)]; omega
        rw [hw1, hw2, hw3]
        refine k _ _ ⟨ow6, rs ++ [(ss[(i : Int).toNat]).f_Body], ts ++ [(frScan l)[i].2], i + 1, h6.fit (fun a => by simp; omega), ?_, ?_, ?_, ?_, ?_, rfl, by omega, by simp; omega⟩ ?_
        · rw [List.map_append]; exact ho6
        · exact All2.append (show All2 (RdB S1) [_] [_] from ⟨hbd, trivial⟩) ha'
        · rw [ht, hst]; simp
        · rw [sizeOfR_append]
        · show s6.len = _
          rw [hl6, List.length_append, ← hx]; rfl
        · dsimp only; omega
    · refine ⟨ow, rs, ts, h', ho, ha', ?_, hy, hx⟩
      rw [ht, List.drop_eq_nil_of_le (by omega)]
      exact List.append_nil _
end Go.Proofs.YtccebpahnnfceaaGreatDoor
