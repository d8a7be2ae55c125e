/- journal: Sync, All, First, Next. -/
import Derived.Test.YtccebpahnnfceaaGreatDoorJJour
namespace Go.Proofs.YtccebpahnnfceaaGreatDoor
open Go.Vc
set_option linter.unusedVariables false
set_option linter.unusedSimpArgs false
section
variable {B : Bs} {w : World} {S : Hp} {F jow ow : Own} {j d : Nat} {nm : ByteArray} {J : JM} {D : DM}
theorem JSync_ok {init : List (Nat × Nat)} {f z : Nat} {g1 g2 : Files} {fm : FM} (h : St B w S (jow ++ (ow ++ F))) (hJ : JournO S j d nm J jow) (hD : DiskO d D ow) (hoff : D.off = false) (hjoff : J.off = false) (hg : Glob S) (hnm : jNamed nm)
    (hsl : J.segs.length ≤ 1000000) (hs : J.segs = init ++ [(f, z)]) (hf : f < 1000000000000) (hd : D.files = g1 ++ (fileN nm f, fm) :: g2) :
    CallP Tryz.prog n_journal_Journal_Sync [.pointer (pt j)] w (ret1 (tI .i64) fun e w' => ∃ D' J' jow' ow', St B w' S (jow' ++ (ow' ++ F)) ∧ JournO S j d nm J' jow' ∧ DiskO d D' ow' ∧ Went D D' e ∧ (e = 0 → J' = J) ∧ D'.files = if e = 0 then g1 ++ (fileN nm f, ⟨fm.bytes, fm.bytes.length⟩) :: g2 else D.files) := by
  obtain ⟨l, rc, owl, owr, rs, hR, rfl⟩ := hJ
  have hll := hR.lenL
  have hsz : nm.size ≤ 1000 := by have := hnm.2.1; omega
  refine vc_journal_Journal_Sync _ _ _ ?_
  unfold F_journal_Journal_Sync
  refine (jasked_ok h (List.mem_append_left _ (List.mem_cons_self ..))).mono1 ?_
  rintro r w1 ⟨rfl, rfl⟩
  rw [hjoff]
  have hil : l.len = init.length + 1 := by rw [hll, hs]; simp
  have hi0 : init.length ≤ 1000000 := by rw [hs] at hsl; simp only [List.length_append, List.length_singleton] at hsl; omega
  refine ⟨fun hc => absurd rfl hc, fun _ => v_nz (v_ldo (by exact h.head.1) l ⟨fun hc => absurd hc (by omega), fun _ => ?_⟩)⟩
  obtain ⟨bl, hbl⟩ := hR.segs.base (by omega)
  have e1 : IntKind.i64.wrap ((l.len : Int) - 1) = (init.length : Int) := by rw [IntWalk.i64_in _ (by omega)]; omega
  refine v_nz (v_ldo (by exact h.head.1) (pt d) (v_nz (v_ldo (by exact h.head.1) l (v_nz (v_ldo (by exact h.head.1) l ?_)))))
  rw [e1]
  refine ⟨by omega, by omega, bl, 0, hbl, ?_⟩
  have hsd := hR.segs
  rw [hs] at hsd
  have hh : St B (dr w1) S (owl ++ (jCell j d nm l rc J.next J.off :: (owr ++ (ow ++ F)))) := h.dr.fit (fun a => by simp; omega)
  refine v_ld1 (f : Int) rfl (by
    have := hsd.cellAt hh hbl (segs_at (init := init) (f := f) (z := z)).1
    simpa using this) ?_
  refine (file_ok f (by omega) hg h.dr (List.mem_append_left _ (List.mem_cons_self ..)) hsz).mono1 ?_
  rintro r w2 ⟨rfl, h2⟩
  refine ⟨v_at h2.head.1, ?_⟩
  have h2' : St B w2 S (ow ++ ((jCell j d nm l rc J.next J.off :: (owl ++ owr)) ++ F)) := h2.fit (fun a => by simp; omega)
  refine (Sync_ok h2' hD hoff (fileN_named hf hnm) hd).mono1 ?_
  rintro e w3 ⟨D2, ow2, h3, hD2, hw, hfl⟩
  have h7 : St B w3 S (jCell j d nm l rc J.next J.off :: (owl ++ owr ++ (ow2 ++ F))) := h3.fit (fun a => by simp; omega)
  refine (ended_ok h7).mono1 ?_
  rintro r w8 ⟨rfl, h8⟩
  refine ⟨D2, { J with off := if r = 10 then true else J.off }, _, ow2, h8, ⟨l, rc, owl, owr, rs, ⟨hR.segs, hR.recs, hR.rd⟩, rfl⟩, hD2, hw, fun he => ?_, hfl⟩
  subst he
  rfl
theorem JNext_ok (h : St B w S (jow ++ F)) (hJ : JournO S j d nm J jow) : CallP Tryz.prog n_journal_Journal_Next [.pointer (pt j)] w (ret1 (tI .u64) fun r w' => r = J.next ∧ w' = w) := by
  obtain ⟨l, rc, owl, owr, rs, hR, rfl⟩ := hJ
  refine vc_journal_Journal_Next _ _ _ ?_
  unfold F_journal_Journal_Next
  refine (jnone_ok h (List.mem_append_left _ (List.mem_cons_self ..))).mono1 ?_
  rintro r w1 ⟨rfl, rfl⟩
  exact ⟨fun hc => absurd hc (by simp), fun _ => v_nz (v_ldo (by exact h.head.1) (J.next : Int) ⟨rfl, rfl⟩)⟩
theorem JFirst_ok (h : St B w S (jow ++ F)) (hJ : JournO S j d nm J jow) (hn : J.next < 1000000000000) (hr : J.recs.length ≤ J.next) : CallP Tryz.prog n_journal_Journal_First [.pointer (pt j)] w (ret1 (tI .u64) fun r w' => r = ((J.next - J.recs.length : Nat) : Int) ∧ SameW w w') := by
  obtain ⟨l, rc, owl, owr, rs, hR, rfl⟩ := hJ
  have hrl := hR.lenR
  refine vc_journal_Journal_First _ _ _ ?_
  unfold F_journal_Journal_First
  refine (jnone_ok h (List.mem_append_left _ (List.mem_cons_self ..))).mono1 ?_
  rintro r w1 ⟨rfl, rfl⟩
  refine ⟨fun hc => absurd hc (by simp), fun _ => ?_⟩
  refine vc_journal_Journal_first _ _ _ ?_
  unfold F_journal_Journal_first
  refine v_nz (v_ldo (by exact h.head.1) (J.next : Int) (v_nz (v_ldo (by exact h.head.1) rc ⟨?_, SameW.dr _⟩)))
  rw [IntWalk.u64_in (rc.len : Int) (by omega), IntWalk.u64_in _ (by omega)]
  omega
theorem JAll_ok (h : St B w S (jow ++ F)) (hJ : JournO S j d nm J jow) (hrl : J.recs.length ≤ 1000000) (hbl : ∀ r ∈ J.recs, r.length ≤ 1000000) :
    CallP Tryz.prog n_journal_Journal_All [.pointer (pt j)] w (ret1 tSl fun r w' => ∃ S' ss, Sub S S' ∧ St B w' S' (jow ++ F) ∧ RdV S' 1 r (ss.map Sl.v) ∧ All2 (RdB S') ss J.recs) := by
  obtain ⟨l, rc, owl, owr, rs, hR, rfl⟩ := hJ
  have hlr := hR.lenR
  have hm : maxLen = 9223372036854775807 := rfl
  refine vc_journal_Journal_All _ _ _ ?_
  unfold F_journal_Journal_All
  refine (jnone_ok h (List.mem_append_left _ (List.mem_cons_self ..))).mono1 ?_
  rintro r w1 ⟨rfl, rfl⟩
  refine ⟨fun hc => absurd hc (by simp), fun _ => v_nz (v_ldo (by exact h.head.1) rc ?_)⟩
  refine loop_to (fun i (x : Sl × Int) w' => ∃ S' ow' ss, Sub S S' ∧ St B w' S' (ow' ++ (jCell j d nm l rc J.next J.off :: (owl ++ owr) ++ F)) ∧ OwnSl T_sl_uint8 1 x.1 (ss.map Sl.v) ow' ∧ All2 (RdB S') ss (J.recs.take i) ∧ x.2 = (i : Int)) rc.len ?_ ?_ (Nat.zero_le _) ⟨S, [], [], Sub.refl S, h, OwnSl.nil _ _, trivial, rfl⟩
  · rintro J2 i ⟨x, y⟩ w' hi ⟨S', ow', ss, hS', h', ho, ha, hy⟩ k
    dsimp only at ho hy
    subst hy
    refine ⟨fun _ => ?_, fun hc => absurd (show (i : Int) < rc.len by omega) hc⟩
    have hrr : St B w' S' (owr ++ (jCell j d nm l rc J.next J.off :: (owl ++ (ow' ++ F)))) := h'.fit (fun a => by simp; omega)
    have hrd := hR.recs.rd hrr
    refine v_ixs1 (t := tSl) (f := Sl.v) hrd (Sub.refl _) (by omega) (by omega) fun hl2 => ?_
    have hir : i < rs.length := by simpa using hl2
    have hij : i < J.recs.length := by omega
    have hb : RdB S rs[i] J.recs[i] := hR.rd.get i hir hij
    have e0 : rs[(i : Int).toNat] = rs[i] := rfl
    rw [e0]
    refine (Clone_ok h' (fun w'' h'' => (hb.mono hS').sh h'') (by have := hbl _ (List.getElem_mem hij); omega)).mono1 ?_
    rintro cl w2 ⟨S2, hS2, h2, hcl, hclc⟩
    have hxl : x.len = ss.length := by have := ho.1; simp only [List.length_map] at this; omega
    have hssl : ss.length = i := by rw [ha.len, List.length_take]; omega
    refine v_al h2 fun b6 w3 h3 => ?_
    have hel : RdV (hp w3) 1 ⟨some ⟨b6, 0, none⟩, 1, 1⟩ [cl.v] := (OwnSl.new T_sl_uint8 1 1 b6 [cl.v] rfl (by decide)).rd (F := ow' ++ (jCell j d nm l rc J.next J.off :: (owl ++ owr) ++ F)) h3
    refine v_app ety_sls h3.mid1 ho hel (slv_one [cl]) (by show (x.len + 1) * 24 ≤ _; omega) (by show x.len + 1 ≤ maxLen; omega) fun s6 w4 ow6 h4 ho6 hl6 _ => ?_
    refine k _ _ ⟨S2, ow6, ss ++ [cl], hS'.trans hS2, h4.fit (fun a => by simp <;> omega), by rw [List.map_append]; exact ho6, ?_, IntWalk.i64_in _ (by omega)⟩
    rw [List.take_succ_eq_append_getElem hij]
    exact All2.append (show All2 (RdB S2) [cl] [J.recs[i]] from ⟨hcl, trivial⟩) (ha.mono fun a b q => q.mono hS2)
  · rintro J2 ⟨x, y⟩ w' ⟨S', ow', ss, hS', h', ho, ha, hy⟩
    dsimp only at ho hy
    subst hy
    refine ⟨fun hc => absurd hc (by omega), fun _ => ?_⟩
    obtain ⟨S2, hS2, h2, hr⟩ := ho.share h'
    rw [List.take_of_length_le (by omega)] at ha
    exact ⟨S2, ss, hS'.trans hS2, h2, hr, ha.mono fun a b q => q.mono hS2⟩
/-! ### recut -/
theorem recut_ok {g1 g2 : Files} {n : Nat} {fm0 : FM} {b : Sl} {data : List UInt8} (h : St B w S (jow ++ (ow ++ F))) (hj : ∃ l rc next off rest, jow = jCell j d nm l rc next off :: rest) (hD : DiskO d D ow) (hoff : D.off = false) (hfu : D.fused = false) (hg : Glob S) (hnm : jNamed nm)
    (hn : n < 1000000000000) (hb : RdB S b data) (hbc : b.cap ≤ maxLen) (hf : D.files = g1 ++ (fileN nm n, fm0) :: g2) (hcut : cutN nm ∉ D.files.map Prod.fst) (hroom : total D.files + data.length ≤ D.room) :
    CallP Tryz.prog n_journal_Journal_recut [.pointer (pt j), .int .u64 n, Sl.v b] w (ret1 (tI .i64) fun e w' => e = 0 ∧ ∃ D' ow', St B w' S (jow ++ (ow' ++ F)) ∧ DiskO d D' ow' ∧ D'.off = false ∧ D'.fused = false ∧ D'.room = D.room ∧ D'.files = g1 ++ (fileN nm n, ⟨data, data.length⟩) :: g2) := by
  obtain ⟨l, rc, next, off, rest, rfl⟩ := hj
  have hsz : nm.size ≤ 1000 := by have := hnm.2.1; omega
  have hcn := cutN_named hnm
  have hmem : ∀ {X : Own}, jCell j d nm l rc next off ∈ jCell j d nm l rc next off :: rest ++ X := fun {X} => List.mem_append_left _ (List.mem_cons_self ..)
  have nofail : ∀ {D1 D2 : DM} {e : Int}, D1.fused = false → Went D1 D2 e → e = 0 ∧ D2.off = false ∧ D2.fused = false := fun {D1 D2 e} hf1 hw => by
    rcases hw.2.2 with q | q
    · exact ⟨q.1, q.2, hw.2.1.trans hf1⟩
    · rw [hf1] at q; exact absurd q.2.2 (by simp)
  refine vc_journal_Journal_recut _ _ _ _ _ ?_
  unfold F_journal_Journal_recut
  refine v_nz (v_ldo (by exact h.head.1) (pt d) ?_)
  refine (cut_ok h.dr hmem hsz).mono1 ?_
  rintro r w1 ⟨rfl, rfl⟩
  refine ⟨v_at (by exact h.head.1), ?_⟩
  have h1 : St B (dr w) S (ow ++ (jCell j d nm l rc next off :: rest ++ F)) := h.dr.fit (fun a => by simp; omega)
  refine (Make_ok h1 hD hoff hcn hcut).mono1 ?_
  rintro e w2 ⟨D2, ow2, h2, hD2, hw2, hf2⟩
  obtain ⟨rfl, ho2, hfu2⟩ := nofail hfu hw2
  rw [if_pos rfl] at hf2
  have h2' : St B w2 S (jCell j d nm l rc next off :: rest ++ (ow2 ++ F)) := h2.fit (fun a => by simp; omega)
  refine ⟨fun hc => absurd rfl hc, fun _ => v_nz (v_ldo (by exact h2'.head.1) (pt d) ?_)⟩
  refine (cut_ok h2'.dr hmem hsz).mono1 ?_
  rintro r w3 ⟨rfl, rfl⟩
  refine ⟨v_at (by exact h2'.head.1), ?_⟩
  have htot : total D2.files = total D.files := by rw [hf2]; unfold total; simp
  refine (DAppend_ok h2.dr hD2 ho2 hcn (f1 := D.files) (f2 := []) hf2 hb hbc (by rw [htot, hw2.1]; exact hroom)).mono1 ?_
  rintro e w4 ⟨D4, ow4, k, h4, hD4, hw4, hk, hke, hf4⟩
  obtain ⟨rfl, ho4, hfu4⟩ := nofail hfu2 hw4
  rw [hke rfl, List.take_length, List.nil_append] at hf4
  have h4' : St B w4 S (jCell j d nm l rc next off :: rest ++ (ow4 ++ F)) := h4.fit (fun a => by simp; omega)
  refine ⟨fun hc => absurd rfl hc, fun _ => v_nz (v_ldo (by exact h4'.head.1) (pt d) ?_)⟩
  refine (cut_ok h4'.dr hmem hsz).mono1 ?_
  rintro r w5 ⟨rfl, rfl⟩
  refine ⟨v_at (by exact h4'.head.1), ?_⟩
  refine (Sync_ok h4.dr hD4 ho4 hcn hf4).mono1 ?_
  rintro e w6 ⟨D6, ow6, h6, hD6, hw6, hf6⟩
  obtain ⟨rfl, ho6, hfu6⟩ := nofail hfu4 hw6
  rw [if_pos rfl] at hf6
  have h6' : St B w6 S (jCell j d nm l rc next off :: rest ++ (ow6 ++ F)) := h6.fit (fun a => by simp; omega)
  refine ⟨fun hc => absurd rfl hc, fun _ => v_nz (v_ldo (by exact h6'.head.1) (pt d) ?_)⟩
  refine (cut_ok h6'.dr hmem hsz).mono1 ?_
  rintro r w7 ⟨rfl, rfl⟩
  refine ⟨v_at (by exact h6'.head.1), ?_⟩
  refine (file_ok n (by omega) hg h6'.dr hmem hsz).mono1 ?_
  rintro r w8 ⟨rfl, h8⟩
  refine ⟨v_at h8.head.1, ?_⟩
  have h9 : St B w8 S (ow6 ++ (jCell j d nm l rc next off :: rest ++ F)) := h8.fit (fun a => by simp; omega)
  refine (Rename_ok h9 hD6 ho6 hcn (fileN_named hn hnm) (fun q => fileN_ne_cut hn q.symm) (f1 := D.files) (f2 := []) hf6 (g1 := g1) (g2 := g2) (fm0 := fm0) (by rw [List.append_nil]; exact hf)).mono1 ?_
  rintro e w10 ⟨D10, ow10, h10, hD10, hw10, hf10⟩
  obtain ⟨rfl, ho10, hfu10⟩ := nofail hfu6 hw10
  rw [if_pos rfl] at hf10
  refine ⟨rfl, D10, ow10, h10.fit (fun a => by simp; omega), hD10, ho10, hfu10, ?_, hf10⟩
  rw [hw10.1, hw6.1, hw4.1, hw2.1]
end
end Go.Proofs.YtccebpahnnfceaaGreatDoor
