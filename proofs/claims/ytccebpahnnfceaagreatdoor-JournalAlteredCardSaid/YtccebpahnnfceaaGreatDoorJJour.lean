/- journal: what its functions come to. -/
import Derived.Test.YtccebpahnnfceaaGreatDoorV4
import Derived.Test.YtccebpahnnfceaaGreatDoorJNumber
namespace Go.Vc
theorem OwnSl.cellAt {B : Bs} {w : World} {S : Hp} {F ow : Own} {E : TypeId} {size b : Nat} {s : Sl} {xs : List Value} (ho : OwnSl E size s xs ow) (h : St B w S (ow ++ F)) (ha : s.a = some ⟨b, 0, none⟩) {k : Nat} {v : Value} (hk : xs[k]? = some v) : cellH (hp w) b k = some v := by
  have hpos : 0 < s.len := by
    rcases Nat.eq_zero_or_pos s.len with h0 | h0
    · have := ho.1
      rw [h0, Nat.zero_mul] at this
      rw [List.eq_nil_of_length_eq_zero this] at hk
      simp at hk
    · exact h0
  obtain ⟨b', q', ha', hc⟩ := (ho.rd h).2.2 hpos
  rw [ha] at ha'
  cases ha'
  have := hc k v hk
  rwa [Nat.zero_add] at this
theorem OwnSl.base {E : TypeId} {size : Nat} {s : Sl} {xs : List Value} {ow : Own} (ho : OwnSl E size s xs ow) (hl : 0 < s.len) : ∃ b, s.a = some ⟨b, 0, none⟩ := by
  rcases ho.2 with ⟨rfl, _⟩ | ⟨b, _, ha, _⟩
  · exact absurd hl (by simp)
  · exact ⟨b, ha⟩
end Go.Vc
namespace Go.Proofs.YtccebpahnnfceaaGreatDoor
open Go.Vc
set_option linter.unusedVariables false
set_option linter.unusedSimpArgs false
def segC (p : Nat × Nat) : List Value := [.int .u64 (p.1 : Int), .int .i64 (p.2 : Int)]
structure JM where
  segs : List (Nat × Nat)
  recs : List (List UInt8)
  next : Nat
  off : Bool
structure JournR (S : Hp) (J : JM) (l rc : Sl) (owl owr : Own) (rs : List Sl) : Prop where
  segs : OwnSl T_journal_segment 2 l (J.segs.flatMap segC) owl
  recs : OwnSl T_sl_uint8 1 rc (rs.map Sl.v) owr
  rd : All2 (RdB S) rs J.recs
def JournO (S : Hp) (j d : Nat) (nm : ByteArray) (J : JM) (ow : Own) : Prop := ∃ l rc owl owr rs, JournR S J l rc owl owr rs ∧ ow = jCell j d nm l rc J.next J.off :: (owl ++ owr)
theorem JournO.mono {S S' : Hp} {j d : Nat} {nm : ByteArray} {J : JM} {ow : Own} (h : JournO S j d nm J ow) (hs : Sub S S') : JournO S' j d nm J ow := by
  obtain ⟨l, rc, owl, owr, rs, hR, rfl⟩ := h
  exact ⟨l, rc, owl, owr, rs, ⟨hR.segs, hR.recs, hR.rd.mono fun a b q => q.mono hs⟩, rfl⟩
theorem segC_len (p : Nat × Nat) : (segC p).length = 2 := rfl
theorem JournR.lenL {S : Hp} {J : JM} {l rc : Sl} {owl owr : Own} {rs : List Sl} (h : JournR S J l rc owl owr rs) : l.len = J.segs.length := by
  have := h.segs.1
  rw [flat_len segC_len] at this
  omega
theorem JournR.lenR {S : Hp} {J : JM} {l rc : Sl} {owl owr : Own} {rs : List Sl} (h : JournR S J l rc owl owr rs) : rc.len = J.recs.length := by
  have := h.recs.1
  rw [List.length_map, h.rd.len] at this
  omega
theorem ety_seg : ETy Tryz.prog T_sl_journal_segment T_journal_segment 2 16 := ETy.of (z := .agg #[.int .u64 0, .int .i64 0]) Tryz.underlying60 (by kernel_rfl) rfl rfl
theorem segs_at {init : List (Nat × Nat)} {f z : Nat} : ((init ++ [(f, z)]).flatMap segC)[init.length * 2]? = some (.int .u64 (f : Int)) ∧ ((init ++ [(f, z)]).flatMap segC)[init.length * 2 + 1]? = some (.int .i64 (z : Int)) := by
  have h1 := flat_get (c := segC) (n := 2) segC_len (init ++ [(f, z)]) init.length (by simp) 0 (by omega)
  have h2 := flat_get (c := segC) (n := 2) segC_len (init ++ [(f, z)]) init.length (by simp) 1 (by omega)
  rw [Nat.add_zero] at h1
  simp only [List.getElem_append_right (Nat.le_refl _), Nat.sub_self, List.getElem_cons_zero] at h1 h2
  exact ⟨h1, h2⟩
theorem segs_set {init : List (Nat × Nat)} {f z z' : Nat} : setL ((init ++ [(f, z)]).flatMap segC) (init.length * 2 + 1) [.int .i64 (z' : Int)] = (init ++ [(f, z')]).flatMap segC := by
  have hl : (init.flatMap segC).length = init.length * 2 := flat_len segC_len init
  unfold setL
  rw [List.flatMap_append, List.flatMap_append]
  have e : [(f, z)].flatMap segC = [.int .u64 (f : Int), .int .i64 (z : Int)] := rfl
  have e2 : [(f, z')].flatMap segC = [.int .u64 (f : Int), .int .i64 (z' : Int)] := rfl
  rw [e, e2, List.take_append, List.drop_append, hl]
  simp [List.take_of_length_le, List.drop_eq_nil_of_le, hl]
  omega
section
variable {B : Bs} {w : World} {S : Hp} {F jow ow : Own} {j d : Nat} {nm : ByteArray} {J : JM} {D : DM}
theorem map_fst_split {f1 f2 : Files} {n : ByteArray} {fm fm' : FM} : (f1 ++ (n, fm) :: f2).map Prod.fst = (f1 ++ (n, fm') :: f2).map Prod.fst := by simp
/-- What the files are once the last segment's is synced. -/
def SyncedTo (nm : ByteArray) (J : JM) (D : DM) (Fs : Files) : Prop :=
  (J.segs = [] ∧ Fs = D.files) ∨ ∃ init f z g1 g2 fm, J.segs = init ++ [(f, z)] ∧ f < 1000000000000 ∧ D.files = g1 ++ (fileN nm f, fm) :: g2 ∧ Fs = g1 ++ (fileN nm f, ⟨fm.bytes, fm.bytes.length⟩) :: g2
theorem begin_ok {Fs : Files} (h : St B w S (jow ++ (ow ++ F))) (hJ : JournO S j d nm J jow) (hD : DiskO d D ow) (hoff : D.off = false) (hg : Glob S) (hnm : jNamed nm) (hnx : J.next < 1000000000000) (hsl : J.segs.length ≤ 1000000)
    (hFs : SyncedTo nm J D Fs) (hnew : fileN nm J.next ∉ D.files.map Prod.fst) :
    CallP Tryz.prog n_journal_Journal_begin [.pointer (pt j)] w (ret1 (tI .i64) fun e w' => ∃ D' J' jow' ow', St B w' S (jow' ++ (ow' ++ F)) ∧ JournO S j d nm J' jow' ∧ DiskO d D' ow' ∧ Went D D' e ∧
      ((e = 10 ∧ J' = J ∧ (D'.files = D.files ∨ D'.files = Fs)) ∨ (e = 0 ∧ J' = { J with segs := J.segs ++ [(J.next, 0)] } ∧ D'.files = Fs ++ [(fileN nm J.next, ⟨[], 0⟩)]))) := by
  obtain ⟨l, rc, owl, owr, rs, hR, rfl⟩ := hJ
  have hll := hR.lenL
  have hsz : nm.size ≤ 1000 := by have := hnm.2.1; omega
  refine vc_journal_Journal_begin _ _ _ ?_
  unfold F_journal_Journal_begin
  refine v_join (fun _ w' => ∃ D1 ow1, St B w' S (jCell j d nm l rc J.next J.off :: (owl ++ owr) ++ (ow1 ++ F)) ∧ DiskO d D1 ow1 ∧ D1.off = false ∧ D1.room = D.room ∧ D1.fused = D.fused ∧ D1.files = Fs) ?_ ?_
  · rintro _ w1 ⟨D1, ow1, h1, hD1, ho1, hrm, hfu, hfs⟩
    refine v_nz (v_ldo (by exact h1.head.1) (pt d) (v_nz (v_ldo (by exact h1.head.1) (J.next : Int) ?_)))
    refine (file_ok J.next (by omega) hg h1.dr (List.mem_append_left _ (List.mem_cons_self ..)) hsz).mono1 ?_
    rintro r w2 ⟨rfl, h2⟩
    refine ⟨v_at h2.head.1, ?_⟩
    have hnew1 : fileN nm J.next ∉ D1.files.map Prod.fst := by
      rw [hfs]
      rcases hFs with ⟨_, rfl⟩ | ⟨_, _, _, g1, g2, fm, _, _, hd, rfl⟩
      · exact hnew
      · rw [hd] at hnew
        rwa [map_fst_split (fm' := ⟨fm.bytes, fm.bytes.length⟩)] at hnew
    have h2' : St B w2 S (ow1 ++ ((jCell j d nm l rc J.next J.off :: (owl ++ owr)) ++ F)) := h2.fit (fun a => by simp; omega)
    refine (Make_ok h2' hD1 ho1 (fileN_named hnx hnm) hnew1).mono1 ?_
    rintro e w3 ⟨D2, ow2, h3, hD2, hw, hfl⟩
    have hW : Went D D2 e := ⟨hw.1.trans hrm, hw.2.1.trans hfu, by rw [← hfu]; exact hw.2.2⟩
    refine ⟨fun he => ?_, fun he => ?_⟩
    · rw [if_neg he, hfs] at hfl
      have he10 : e = 10 := by rcases hw.2.2 with q | q; exact absurd q.1 he; exact q.1
      exact ⟨D2, J, _, ow2, h3.fit (L' := jCell j d nm l rc J.next J.off :: (owl ++ owr) ++ (ow2 ++ F)) (fun a => by simp; omega), ⟨l, rc, owl, owr, rs, hR, rfl⟩, hD2, hW, .inl ⟨he10, rfl, .inr hfl⟩⟩
    · have he0 : e = 0 := by simpa using he
      subst he0
      rw [if_pos rfl, hfs] at hfl
      have h4 : St B w3 S (jCell j d nm l rc J.next J.off :: (owl ++ (owr ++ (ow2 ++ F)))) := h3.fit (fun a => by simp; omega)
      refine v_nz (v_ldo (by exact h4.head.1) l (v_nz (v_ldo (by exact h4.head.1) (J.next : Int) ?_)))
      refine v_al h4.dr fun b w5 h5 => ⟨v_at h5.tail.head.1, ?_⟩
      have hel : RdV (hp w5) 2 ⟨some ⟨b, 0, none⟩, 1, 1⟩ (segC (J.next, 0)) := (OwnSl.new T_journal_segment 2 1 b (segC (J.next, 0)) rfl (by decide)).rd (F := jCell j d nm l rc J.next J.off :: (owl ++ (owr ++ (ow2 ++ F)))) h5
      have hm : maxLen = 9223372036854775807 := rfl
      refine v_app ety_seg h5.mid2 hR.segs hel (by intro v hv; simp [segC] at hv; rcases hv with rfl | rfl <;> rfl) (by show (l.len + 1) * 16 ≤ _; omega) (by show l.len + 1 ≤ maxLen; omega) fun s6 w6 ow6 h6 ho6 hl6 _ => ?_
      have h7 : St B w6 S (jCell j d nm l rc J.next J.off :: (ow6 ++ (owr ++ (ow2 ++ F)))) := h6.fit (fun a => by simp; omega)
      refine v_nz (v_sto h7 fun w8 h8 => ?_)
      refine ⟨D2, { J with segs := J.segs ++ [(J.next, 0)] }, jCell j d nm s6 rc J.next J.off :: (ow6 ++ owr), ow2, h8.fit (fun a => ?_), ⟨s6, rc, ow6, owr, rs, ⟨?_, hR.recs, hR.rd⟩, rfl⟩, hD2, hW, .inr ⟨rfl, rfl, hfl⟩⟩
      · have e : setA (jC d nm l rc J.next J.off) (0 + 2) (tSl.cells s6) = jC d nm s6 rc J.next J.off := rfl
        rw [e]
        simp [jCell] <;> omega
      · rw [List.flatMap_append]; exact ho6
  · refine v_nz (v_ldo (by exact h.head.1) l ⟨fun hc => ?_, fun hc => ?_⟩)
    · rcases hFs with ⟨hs, _⟩ | ⟨init, f, z, g1, g2, fm, hs, hf, hd, rfl⟩
      · rw [hs] at hll
        simp only [List.length_nil] at hll
        omega
      have hil : l.len = init.length + 1 := by rw [hll, hs]; simp
      obtain ⟨bl, hbl⟩ := hR.segs.base (by omega)
      have e1 : IntKind.i64.wrap ((l.len : Int) - 1) = (init.length : Int) := by rw [IntWalk.i64_in _ (by omega)]; omega
      refine v_nz (v_ldo (by exact h.head.1) (pt d) (v_nz (v_ldo (by exact h.head.1) l (v_nz (v_ldo (by exact h.head.1) l ?_)))))
      rw [e1]
      refine ⟨by omega, by omega, bl, 0, hbl, ?_⟩
      have hsd := hR.segs
      rw [hs] at hsd
      have hh : St B (dr w) S (owl ++ (jCell j d nm l rc J.next J.off :: (owr ++ (ow ++ F)))) := h.dr.fit (fun a => by simp; omega)
      refine v_ld1 (f : Int) rfl (by
        have := hsd.cellAt hh hbl (segs_at (init := init) (f := f) (z := z)).1
        simpa using this) ?_
      refine (file_ok f (by omega) hg h.dr (List.mem_append_left _ (List.mem_cons_self ..)) hsz).mono1 ?_
      rintro r w2 ⟨rfl, h2⟩
      refine ⟨v_at h2.head.1, ?_⟩
      have h2' : St B w2 S (ow ++ ((jCell j d nm l rc J.next J.off :: (owl ++ owr)) ++ F)) := h2.fit (fun a => by simp; omega)
      refine (Sync_ok h2' hD hoff (fileN_named hf hnm) hd).mono1 ?_
      rintro e w3 ⟨D2, ow2, h3, hD2, hw, hfl⟩
      have h4 : St B w3 S (jCell j d nm l rc J.next J.off :: (owl ++ owr) ++ (ow2 ++ F)) := h3.fit (fun a => by simp; omega)
      refine ⟨fun he => ?_, fun he => ?_⟩
      · rw [if_neg he] at hfl
        have he10 : e = 10 := by rcases hw.2.2 with q | q; exact absurd q.1 he; exact q.1
        exact ⟨D2, J, _, ow2, h4, ⟨l, rc, owl, owr, rs, hR, rfl⟩, hD2, hw, .inl ⟨he10, rfl, .inl hfl⟩⟩
      · have he0 : e = 0 := by simpa using he
        subst he0
        rw [if_pos rfl] at hfl
        have ho2 : D2.off = false := by rcases hw.2.2 with q | q; exact q.2; exact absurd q.1 (by decide)
        exact ⟨D2, ow2, h4, hD2, ho2, hw.1, hw.2.1, hfl⟩
    · rcases hFs with ⟨hs, rfl⟩ | ⟨init, f, z, g1, g2, fm, hs, hf, hd, rfl⟩
      · exact ⟨D, ow, h, hD, hoff, rfl, rfl, rfl⟩
      · rw [hs] at hll
        simp only [List.length_append, List.length_singleton] at hll
        omega
/-- A segment must be begun. -/
def Need (J : JM) : Prop := J.segs = [] ∨ ∃ init f z, J.segs = init ++ [(f, z)] ∧ 4096 ≤ z
/-- The state that a record is put into. -/
def Mid (nm : ByteArray) (J : JM) (D : DM) (Fs : Files) (Jm : JM) (Fm : Files) : Prop :=
  (¬ Need J ∧ Jm = J ∧ Fm = D.files) ∨ (Need J ∧ Jm = { J with segs := J.segs ++ [(J.next, 0)] } ∧ Fm = Fs ++ [(fileN nm J.next, ⟨[], 0⟩)])
theorem encFrame_len (k : UInt8) (l : List UInt8) : (encFrame k l).length = l.length + 12 := by
  simp [encFrame, encHead, put4]
theorem JAppend_ok {Fs Fm g1 g2 : Files} {Jm : JM} {init : List (Nat × Nat)} {f z : Nat} {fm : FM} {b : Sl} {data : List UInt8} (h : St B w S (jow ++ (ow ++ F))) (hJ : JournO S j d nm J jow) (hD : DiskO d D ow) (hoff : D.off = false) (hjoff : J.off = false) (hg : Glob S) (hnm : jNamed nm)
    (hnx : J.next < 1000000000000) (hsl : J.segs.length ≤ 1000000) (hrl : J.recs.length ≤ 1000000) (hFs : SyncedTo nm J D Fs) (hnew : Need J → fileN nm J.next ∉ D.files.map Prod.fst) (hmid : Mid nm J D Fs Jm Fm) (hseg : Jm.segs = init ++ [(f, z)]) (hz : z ≤ 1000000) (hf : f < 1000000000000)
    (hFm : Fm = g1 ++ (fileN nm f, fm) :: g2) (hb : RdB S b data) (hbc : b.cap ≤ maxLen) (hdl : data.length ≤ 65536) (hroom : total Fm + (data.length + 12) ≤ D.room) :
    CallP Tryz.prog n_journal_Journal_Append [.pointer (pt j), Sl.v b] w (ret2 (tI .u64) (tI .i64) fun n e w' => ∃ D' J' S' jow' ow', Sub S S' ∧ St B w' S' (jow' ++ (ow' ++ F)) ∧ JournO S' j d nm J' jow' ∧ DiskO d D' ow' ∧ Went D D' e ∧
      ((e = 10 ∧ (D'.files = D.files ∨ D'.files = Fs ∨ ∃ k, D'.files = g1 ++ (fileN nm f, ⟨fm.bytes ++ (encFrame 1 data).take k, fm.synced⟩) :: g2)) ∨
       (e = 0 ∧ n = J.next ∧ J' = ⟨init ++ [(f, z + (data.length + 12))], J.recs ++ [data], J.next + 1, false⟩ ∧ D'.files = g1 ++ (fileN nm f, ⟨fm.bytes ++ encFrame 1 data, fm.synced⟩) :: g2))) := by
  have hJ0 := hJ
  obtain ⟨l, rc, owl, owr, rs, hR, rfl⟩ := hJ
  have hll := hR.lenL
  have hsz : nm.size ≤ 1000 := by have := hnm.2.1; omega
  have hbl := hb.len
  have hm : maxLen = 9223372036854775807 := rfl
  refine vc_journal_Journal_Append _ _ _ _ ?_
  unfold F_journal_Journal_Append
  refine (jasked_ok h (List.mem_append_left _ (List.mem_cons_self ..))).mono1 ?_
  rintro r w1 ⟨rfl, rfl⟩
  rw [hjoff]
  refine ⟨fun hc => absurd rfl hc, fun _ => ⟨fun hc => absurd hc (by omega), fun _ => ?_⟩⟩
  have hJm : Jm.recs = J.recs ∧ Jm.next = J.next ∧ Jm.off = false := by
    rcases hmid with ⟨_, rfl, _⟩ | ⟨_, rfl, _⟩ <;> exact ⟨rfl, rfl, hjoff⟩
  refine v_join (fun _ w' => ∃ D1 jow1 ow1, St B w' S (jow1 ++ (ow1 ++ F)) ∧ JournO S j d nm Jm jow1 ∧ DiskO d D1 ow1 ∧ D1.off = false ∧ D1.room = D.room ∧ D1.fused = D.fused ∧ D1.files = Fm) ?_ ?_
  · rintro _ w2 ⟨D1, jow1, ow1, h2, hJ1, hD1, ho1, hrm, hfu, hfs⟩
    obtain ⟨l1, rc1, owl1, owr1, rs1, hR1, rfl⟩ := hJ1
    have hll1 := hR1.lenL
    have hlr1 := hR1.lenR
    rw [hseg] at hll1
    rw [hJm.1] at hlr1
    have hil : l1.len = init.length + 1 := by rw [hll1]; simp
    have hinit : init.length ≤ 1000001 := by
      rcases hmid with ⟨_, rfl, _⟩ | ⟨_, rfl, _⟩
      · rw [hseg] at hsl
        simp only [List.length_append, List.length_singleton] at hsl
        omega
      · have := congrArg List.length hseg
        simp at this; omega
    refine (Append_ok 1 b data h2 hb (by omega)).mono2 ?_
    rintro fr e2 w3 ⟨rfl, owf, h3, hof⟩
    obtain ⟨S1, hS1, h4, hfr⟩ := hof.share h3
    have hfcap : fr.cap ≤ maxLen := hof.cap.1
    have hR1' : JournR S1 Jm l1 rc1 owl1 owr1 rs1 := ⟨hR1.segs, hR1.recs, hR1.rd.mono fun a b q => q.mono hS1⟩
    have hg1 := hg.mono hS1
    obtain ⟨bl, hbl1⟩ := hR1.segs.base (by omega)
    have e1 : IntKind.i64.wrap ((l1.len : Int) - 1) = (init.length : Int) := by rw [IntWalk.i64_in _ (by omega)]; omega
    refine v_nz (v_ldo (by exact h4.head.1) l1 (v_nz (v_ldo (by exact h4.head.1) l1 ?_)))
    rw [e1]
    refine ⟨by omega, by omega, bl, 0, hbl1, v_nz (v_ldo (by exact h4.head.1) (pt d) ?_)⟩
    have hsd := hR1.segs
    rw [hseg] at hsd
    have hh : St B (dr (dr w3)) S1 (owl1 ++ (jCell j d nm l1 rc1 Jm.next Jm.off :: (owr1 ++ (ow1 ++ F)))) := h4.dr.dr.fit (fun a => by simp; omega)
    refine v_ld1 (f : Int) rfl (by
      have := hsd.cellAt hh hbl1 (segs_at (init := init) (f := f) (z := z)).1
      simpa using this) ?_
    refine (file_ok f (by omega) hg1 h4.dr.dr (List.mem_append_left _ (List.mem_cons_self ..)) hsz).mono1 ?_
    rintro r w5 ⟨rfl, h5⟩
    refine ⟨v_at h5.head.1, ?_⟩
    have h5' : St B w5 S1 (ow1 ++ ((jCell j d nm l1 rc1 Jm.next Jm.off :: (owl1 ++ owr1)) ++ F)) := h5.fit (fun a => by simp; omega)
    have hflen : (encFrame 1 data).length = data.length + 12 := encFrame_len 1 data
    refine (DAppend_ok h5' hD1 ho1 (fileN_named hf hnm) (by rw [hfs, hFm]) hfr hfcap (by rw [hfs, hrm, hflen]; exact hroom)).mono1 ?_
    rintro e w6 ⟨D2, ow2, k, h6, hD2, hw, hk, hke, hfl⟩
    have hW : Went D D2 e := ⟨hw.1.trans hrm, hw.2.1.trans hfu, by rw [← hfu]; exact hw.2.2⟩
    refine ⟨fun he => ?_, fun he => ?_⟩
    · have he10 : e = 10 := by rcases hw.2.2 with q | q; exact absurd q.1 he; exact q.1
      have h7 : St B w6 S1 (jCell j d nm l1 rc1 Jm.next Jm.off :: (owl1 ++ owr1 ++ (ow2 ++ F))) := h6.fit (fun a => by simp; omega)
      refine (ended_ok h7).mono1 ?_
      rintro r w8 ⟨rfl, h8⟩
      exact ⟨D2, { Jm with off := if r = 10 then true else Jm.off }, S1, _, ow2, hS1, h8, ⟨l1, rc1, owl1, owr1, rs1, ⟨hR1'.segs, hR1'.recs, hR1'.rd⟩, rfl⟩, hD2, hW, .inl ⟨he10, .inr (.inr ⟨k, hfl⟩)⟩⟩
    · have he0 : e = 0 := by simpa using he
      subst he0
      have hkl := hke rfl
      rw [hkl, List.take_length] at hfl
      have h7 : St B w6 S1 (owl1 ++ (jCell j d nm l1 rc1 Jm.next Jm.off :: (owr1 ++ (ow2 ++ F)))) := h6.fit (fun a => by simp; omega)
      have hxl : ((init ++ [(f, z)]).flatMap segC).length = (init.length + 1) * 2 := by rw [flat_len segC_len]; simp
      refine v_ld1 (z : Int) rfl (by
        have := hsd.cellAt h7 hbl1 (segs_at (init := init) (f := f) (z := z)).2
        simpa using this) ?_
      have hfrl := hfr.len
      have hw1 : IntKind.i64.wrap ((z : Int) + (fr.len : Int)) = ((z + (data.length + 12) : Nat) : Int) := by rw [IntWalk.i64_in _ (by omega)]; omega
      rw [hw1]
      have hidx : 0 + ((init.length : Int)).toNat * 2 + 1 = init.length * 2 + 1 := by simp
      rw [hidx]
      refine v_stO hsd h7 hbl1 (by rw [hxl]; show init.length * 2 + 1 + 1 ≤ _; omega) fun w8 owl2 h8 hsd2 => ?_
      have hset : setL ((init ++ [(f, z)]).flatMap segC) (init.length * 2 + 1) ((tI .i64).cells ((z + (data.length + 12) : Nat) : Int)) = (init ++ [(f, z + (data.length + 12))]).flatMap segC := segs_set
      rw [hset] at hsd2
      have h9 : St B w8 S1 (jCell j d nm l1 rc1 Jm.next Jm.off :: (owl2 ++ (owr1 ++ (ow2 ++ F)))) := h8.fit (fun a => by simp; omega)
      refine v_nz (v_ldo (by exact h9.head.1) rc1 ?_)
      refine (Clone_ok h9.dr (fun w' h' => (hb.mono hS1).sh h') (by omega)).mono1 ?_
      rintro cl w10 ⟨S2, hS2, h10, hcl, hclc⟩
      refine ⟨v_at h10.head.1, v_al h10 fun b6 w11 h11 => ⟨v_at h11.tail.head.1, ?_⟩⟩
      have hel : RdV (hp w11) 1 ⟨some ⟨b6, 0, none⟩, 1, 1⟩ [cl.v] := (OwnSl.new T_sl_uint8 1 1 b6 [cl.v] rfl (by decide)).rd (F := jCell j d nm l1 rc1 Jm.next Jm.off :: (owl2 ++ (owr1 ++ (ow2 ++ F)))) h11
      have h12 : St B w11 S2 (owr1 ++ ((b6, .cells [.slice cl.a cl.len cl.cap].toArray T_sl_uint8) :: jCell j d nm l1 rc1 Jm.next Jm.off :: (owl2 ++ (ow2 ++ F)))) := h11.fit (fun a => by simp; omega)
      refine v_app ety_sls h12 hR1.recs hel (slv_one [cl]) (by show (rc1.len + 1) * 24 ≤ _; omega) (by show rc1.len + 1 ≤ maxLen; omega) fun s6 w13 ow6 h13 ho6 hl6 _ => ?_
      have h14 : St B w13 S2 (jCell j d nm l1 rc1 Jm.next Jm.off :: (owl2 ++ (ow6 ++ (ow2 ++ F)))) := h13.fit (fun a => by simp; omega)
      refine v_nz (v_sto h14 fun w15 h15 => v_nz (v_ldo h15.head.1 (Jm.next : Int) (v_nz (v_sto h15 fun w16 h16 => v_nz (v_ldo h16.head.1 (IntKind.u64.wrap ((Jm.next : Int) + 1)) ?_)))))
      have hnx1 : Jm.next = J.next := hJm.2.1
      have hw2 : IntKind.u64.wrap ((Jm.next : Int) + 1) = ((J.next + 1 : Nat) : Int) := by rw [hnx1, IntWalk.u64_in _ (by omega)]; omega
      rw [hw2] at h16 ⊢
      have hw3 : IntKind.u64.wrap (((J.next + 1 : Nat) : Int) - 1) = (J.next : Int) := by rw [IntWalk.u64_in _ (by omega)]; omega
      rw [hw3]
      have hoffm : Jm.off = false := hJm.2.2
      refine ⟨D2, _, S2, jCell j d nm l1 s6 (J.next + 1) false :: (owl2 ++ ow6), ow2, hS1.trans hS2, h16.fit (fun a => ?_), ⟨l1, s6, owl2, ow6, rs1 ++ [cl], ⟨hsd2, ?_, ?_⟩, rfl⟩, hD2, hW, .inr ⟨rfl, rfl, rfl, hfl⟩⟩
      · have e : setA (setA (jC d nm l1 rc1 Jm.next Jm.off) (0 + 3) (tSl.cells s6)) (0 + 4) ((tI .u64).cells ((J.next + 1 : Nat) : Int)) = jC d nm l1 s6 (J.next + 1) false := by rw [hoffm]; rfl
        rw [e]
        simp [jCell] <;> omega
      · rw [List.map_append]; exact ho6
      · rw [← hJm.1]
        exact All2.append (show All2 (RdB S2) [cl] [data] from ⟨hcl, trivial⟩) (hR1.rd.mono fun a b q => (q.mono hS1).mono hS2)
  · refine v_join (fun r w' => w' = dr w1 ∧ (r = true ↔ Need J)) ?_ ?_
    · rintro r w2 ⟨rfl, hrn⟩
      refine ⟨fun hr => ?_, fun hr => ?_⟩
      · have hneed := hrn.1 hr
        rcases hmid with ⟨hn, _, _⟩ | ⟨_, rfl, rfl⟩
        · exact absurd hneed hn
        refine (begin_ok h.dr hJ0 hD hoff hg hnm hnx hsl hFs (hnew hneed)).mono1 ?_
        rintro e w3 ⟨D1, J1, jow1, ow1, h3, hJ1, hD1, hw, hcase⟩
        refine ⟨fun he => ?_, fun he => ?_⟩
        · rcases hcase with ⟨he10, rfl, hfl⟩ | ⟨he0, _⟩
          · obtain ⟨l1, rc1, owl1, owr1, rs1, hR1, rfl⟩ := hJ1
            have h7 : St B w3 S (jCell j d nm l1 rc1 J1.next J1.off :: (owl1 ++ owr1 ++ (ow1 ++ F))) := h3
            refine (ended_ok h7).mono1 ?_
            rintro r w8 ⟨rfl, h8⟩
            exact ⟨D1, { J1 with off := if r = 10 then true else J1.off }, S, _, ow1, Sub.refl S, h8, ⟨l1, rc1, owl1, owr1, rs1, ⟨hR1.segs, hR1.recs, hR1.rd⟩, rfl⟩, hD1, hw, .inl ⟨he10, hfl.elim .inl (fun q => .inr (.inl q))⟩⟩
          · exact absurd he0 he
        · have he0 : e = 0 := by simpa using he
          subst he0
          rcases hcase with ⟨he10, _⟩ | ⟨_, rfl, hfl⟩
          · exact absurd he10 (by decide)
          · have ho1 : D1.off = false := by rcases hw.2.2 with q | q; exact q.2; exact absurd q.1 (by decide)
            exact ⟨D1, jow1, ow1, h3, hJ1, hD1, ho1, hw.1, hw.2.1, hfl⟩
      · have hneed : ¬ Need J := fun q => by rw [hrn.2 q] at hr; cases hr
        rcases hmid with ⟨_, rfl, rfl⟩ | ⟨hn, _, _⟩
        · exact ⟨D, _, ow, h.dr, hJ0, hD, hoff, rfl, rfl, rfl⟩
        · exact absurd hn hneed
    · refine v_nz (v_ldo (by exact h.head.1) l ⟨fun hc => ⟨rfl, ?_⟩, fun hc => ?_⟩)
      · have : J.segs = [] := List.eq_nil_of_length_eq_zero (by omega)
        simp [Need, this]
      · have hne : J.segs ≠ [] := fun q => hc (by rw [q] at hll; simp only [List.length_nil] at hll; omega)
        obtain ⟨i0, ⟨f0, z0⟩, hs0⟩ : ∃ i p, J.segs = i ++ [p] := ⟨_, _, (List.dropLast_concat_getLast hne).symm⟩
        have hil : l.len = i0.length + 1 := by rw [hll, hs0]; simp
        obtain ⟨bl, hbl0⟩ := hR.segs.base (by omega)
        have hi0 : i0.length ≤ 1000000 := by rw [hs0] at hsl; simp only [List.length_append, List.length_singleton] at hsl; omega
        have e1 : IntKind.i64.wrap ((l.len : Int) - 1) = (i0.length : Int) := by rw [IntWalk.i64_in _ (by omega)]; omega
        refine v_nz (v_ldo (by exact h.head.1) l (v_nz (v_ldo (by exact h.head.1) l ?_)))
        rw [e1]
        refine ⟨by omega, by omega, bl, 0, hbl0, ?_⟩
        have hsd := hR.segs
        rw [hs0] at hsd
        have hh : St B (dr w1) S (owl ++ (jCell j d nm l rc J.next J.off :: (owr ++ (ow ++ F)))) := h.dr.fit (fun a => by simp; omega)
        refine v_ld1 (z0 : Int) rfl (by
          have := hsd.cellAt hh hbl0 (segs_at (init := i0) (f := f0) (z := z0)).2
          simpa using this) ⟨rfl, ?_⟩
        rw [decide_eq_true_eq]
        constructor
        · intro q; exact .inr ⟨i0, f0, z0, hs0, by omega⟩
        · rintro (q | ⟨i1, f1, z1, hs1, q⟩)
          · exact absurd q hne
          · rw [hs0] at hs1
            have := (List.append_inj' hs1 rfl).2
            simp only [List.cons.injEq, Prod.mk.injEq] at this
            omega
end
end Go.Proofs.YtccebpahnnfceaaGreatDoor
