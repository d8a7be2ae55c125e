/- journal: recover, Open. -/
import Derived.Test.YtccebpahnnfceaaGreatDoorJJour2
import Derived.Test.YtccebpahnnfceaaGreatDoorJSort
namespace Go.Proofs.YtccebpahnnfceaaGreatDoor
open Go.Vc
set_option linter.unusedVariables false
set_option linter.unusedSimpArgs false
/-- The records that a journal opened anew has. -/
def recov : List (Nat × FM) → List (List UInt8)
  | [] => []
  | (n, fm) :: rest =>
    if sizeOfR (recsOf (frScan fm.bytes)) < fm.bytes.length then recsOf (frScan fm.bytes) else
    match rest with
    | [] => recsOf (frScan fm.bytes)
    | (m, g) :: r => if m = n + (recsOf (frScan fm.bytes)).length then recsOf (frScan fm.bytes) ++ recov ((m, g) :: r) else recsOf (frScan fm.bytes)
def recNext : List (Nat × FM) → Nat
  | [] => 1
  | (n, fm) :: rest => n + (recov ((n, fm) :: rest)).length
def fN (nm : ByteArray) (p : Nat × FM) : ByteArray × FM := (fileN nm p.1, p.2)
theorem recsOf_size (b : List UInt8) : sizeOfR (recsOf (frScan b)) ≤ b.length := by
  have h2 := sizeOfR_recsOf (frScan b)
  have h3 := frScanN_size b.length b
  unfold frScan at h2 ⊢
  omega
def sumLen (fl : List (Nat × FM)) : Nat := (fl.map fun p => p.2.bytes.length).sum
theorem recov_len : ∀ (fl : List (Nat × FM)), 12 * (recov fl).length ≤ sumLen fl
  | [] => by simp [recov]
  | (n, fm) :: rest => by
    have h1 := recsOf_size fm.bytes
    have h2 := sizeOfR_len (recsOf (frScan fm.bytes))
    have h3 : sumLen ((n, fm) :: rest) = fm.bytes.length + sumLen rest := by simp [sumLen]
    rw [recov.eq_def]
    dsimp only
    split
    · omega
    · cases rest with
      | nil => dsimp only; omega
      | cons p r =>
        obtain ⟨m, g⟩ := p
        have h4 := recov_len ((m, g) :: r)
        dsimp only
        split
        · rw [List.length_append]; omega
        · omega
theorem ety_u64 : ETy Tryz.prog T_sl_uint64 T_uint64 1 8 := ETy.of (z := .int .u64 0) Tryz.underlying87 (by kernel_rfl) rfl rfl
theorem total_fN (nm : ByteArray) (fl : List (Nat × FM)) : total (fl.map (fN nm)) = sumLen fl := by
  unfold total sumLen; rw [List.map_map]; rfl
section
variable {B : Bs} {w : World} {S : Hp} {F jow ow : Own} {j d : Nat} {nm : ByteArray} {D : DM} {fl : List (Nat × FM)}
/-- The first loop: the numbers of the files. -/
theorem u64_one (l : List Nat) : ∀ v ∈ l.map u64V, v.oneCell' = true := by
  intro v hv
  obtain ⟨c, _, rfl⟩ := List.mem_map.1 hv
  rfl
theorem nofail {D1 D2 : DM} {e : Int} (hf1 : D1.fused = false) (hw : Went D1 D2 e) : e = 0 ∧ D2.off = false ∧ D2.fused = false := by
  rcases hw.2.2 with q | q
  · exact ⟨q.1, q.2, hw.2.1.trans hf1⟩
  · rw [hf1] at q; exact absurd q.2.2 (by simp)
theorem recover_ok (h : St B w S (jow ++ (ow ++ F))) (hJ : JournO S j d nm ⟨[], [], 1, false⟩ jow) (hD : DiskO d D ow) (hoff : D.off = false) (hfu : D.fused = false) (hg : Glob S) (hnm : jNamed nm)
    (hfl : D.files = fl.map (fN nm)) (hsort : (fl.map Prod.fst).Pairwise (· < ·)) (hlt : ∀ p ∈ fl, p.1 < 100000000000) (hlen : fl.length ≤ 100000) (hroom : 2 * total D.files ≤ D.room) (hrm : D.room ≤ 1073741824) :
    CallP Tryz.prog n_journal_Journal_recover [.pointer (pt j)] w (ret1 (tI .i64) fun e w' => e = 0 ∧ ∃ S' J' D' jow' ow', Sub S S' ∧ St B w' S' (jow' ++ (ow' ++ F)) ∧ JournO S' j d nm J' jow' ∧ DiskO d D' ow' ∧ J'.recs = recov fl ∧ J'.next = recNext fl ∧ J'.off = false ∧ D'.off = false ∧ D'.fused = false ∧ D'.room = D.room ∧ (fl = [] → J'.segs = [] ∧ D'.files = [])) := by
  have htot : total D.files = sumLen fl := by rw [hfl, total_fN]
  have hm : maxLen = 9223372036854775807 := rfl
  have hsz : nm.size ≤ 1000 := by have := hnm.2.1; omega
  have hlt' : ∀ n ∈ fl.map Prod.fst, n < 1000000000000 := fun n hn => by
    obtain ⟨p, hp, rfl⟩ := List.mem_map.1 hn
    have := hlt p hp; omega
  have hnames : D.files.map Prod.fst = (fl.map Prod.fst).map (fileN nm) := by rw [hfl, List.map_map, List.map_map]; rfl
  have hdn : ∀ p ∈ D.files, dNamed p.1 = true := fun p hp => by
    rw [hfl] at hp
    obtain ⟨q, hq, rfl⟩ := List.mem_map.1 hp
    exact fileN_named (hlt' _ (List.mem_map.2 ⟨q, hq, rfl⟩)) hnm
  have hcutn : cutN nm ∉ D.files.map Prod.fst := by
    rw [hnames]
    intro hin
    obtain ⟨n, hn, e⟩ := List.mem_map.1 hin
    exact fileN_ne_cut (hlt' n hn) e
  obtain ⟨l, rc, owl, owr, rs, hR, rfl⟩ := hJ
  refine vc_journal_Journal_recover _ _ _ ?_
  unfold F_journal_Journal_recover
  refine v_nz (v_ldo (by exact h.head.1) (pt d) ?_)
  have h0 : St B w S (ow ++ (jCell j d nm l rc 1 false :: (owl ++ owr) ++ F)) := h.fit (fun a => by simp; omega)
  refine (Names_ok h0 hD hoff hdn (by rw [hfl]; simp; omega)).mono1 ?_
  rintro r w1 ⟨S1, hS1, h1, hr, hrc⟩
  rw [hnames, sortN_files nm _ hsort hlt'] at hr
  have hrl : r.len = fl.length := by have := hr.1; simp only [List.length_map] at this; omega
  have hg1 := hg.mono hS1
  refine loop_to (fun i (x : Sl × Int) w' => ∃ own, St B w' S1 (own ++ (ow ++ (jCell j d nm l rc 1 false :: (owl ++ owr) ++ F))) ∧ OwnSl T_uint64 1 x.1 (((fl.map Prod.fst).take i).map u64V) own ∧ x.2 = (i : Int)) r.len ?_ ?_ (Nat.zero_le _) ⟨[], h1, OwnSl.nil _ _, rfl⟩
  · rintro J2 i ⟨x, y⟩ w' hi ⟨own, h', ho, hy⟩ k
    dsimp only at ho hy
    subst hy
    refine ⟨fun _ => ?_, fun hc => absurd (show (i : Int) < r.len by omega) hc⟩
    refine v_join (fun s' w2 => ∃ own, St B w2 S1 (own ++ (ow ++ (jCell j d nm l rc 1 false :: (owl ++ owr) ++ F))) ∧ OwnSl T_uint64 1 s' (((fl.map Prod.fst).take (i + 1)).map u64V) own) ?_ ?_
    · rintro s' w2 ⟨own2, h2, ho2⟩
      exact k _ _ ⟨own2, h2, ho2, IntWalk.i64_in _ (by omega)⟩
    · refine v_ixs1 (t := tS) (f := strV) (hr.sh h') (Sub.refl _) (by omega) (by omega) fun hl2 => ?_
      have hif : i < (fl.map Prod.fst).length := by simp; omega
      have e0 : ((fl.map Prod.fst).map (fileN nm))[(i : Int).toNat] = fileN nm (fl.map Prod.fst)[i] := by simp
      rw [e0]
      have hmem : jCell j d nm l rc 1 false ∈ (own ++ (ow ++ (jCell j d nm l rc 1 false :: (owl ++ owr) ++ F))) := by simp
      have hn := hlt' _ (List.getElem_mem hif)
      refine (cut_ok h' hmem hsz).mono1 ?_
      rintro r1 w2 ⟨rfl, rfl⟩
      refine ⟨fun hc => absurd hc (fileN_ne_cut hn), fun _ => ?_⟩
      refine (number_ok _ hn h' hmem hsz).mono2 ?_
      rintro r3 r4 w3 ⟨rfl, rfl, h3⟩
      refine ⟨fun _ => ?_, fun hc => absurd hc (by simp)⟩
      refine v_al h3 fun b3 w4 h4 => ?_
      have hel : RdV (hp w4) 1 ⟨some ⟨b3, 0, none⟩, 1, 1⟩ [u64V (fl.map Prod.fst)[i]] := (OwnSl.new T_uint64 1 1 b3 [u64V (fl.map Prod.fst)[i]] rfl (by decide)).rd (F := own ++ (ow ++ (jCell j d nm l rc 1 false :: (owl ++ owr) ++ F))) h4
      have hxl : x.len = i := by have := ho.1; simp only [List.length_map, List.length_take] at this; simp only [List.length_map] at hif; omega
      refine v_app ety_u64 h4.mid1 ho hel (u64_one [_]) (by show (x.len + 1) * 8 ≤ _; omega) (by show x.len + 1 ≤ maxLen; omega) fun s6 w5 ow6 h5 ho6 hl6 _ => ?_
      refine ⟨ow6, h5.fit (fun a => by simp <;> omega), ?_⟩
      rw [List.take_succ_eq_append_getElem hif, List.map_append]
      exact ho6
  · rintro J2 ⟨x, y⟩ w' ⟨own, h', ho, hy⟩
    dsimp only at ho hy
    subst hy
    dsimp only
    refine ⟨fun hc => absurd hc (by omega), fun _ => ?_⟩
    rw [List.take_of_length_le (by simp; omega)] at ho
    have hxl : x.len = fl.length := by have := ho.1; simp only [List.length_map] at this; omega
    have hrds : ∀ L', Rds B S1 (L' ++ (own ++ (ow ++ (jCell j d nm l rc 1 false :: (owl ++ owr) ++ F)))) x (fl.map Prod.fst) := fun L' w2 h2 =>
      ho.rd (F := L' ++ (ow ++ (jCell j d nm l rc 1 false :: (owl ++ owr) ++ F))) (h2.fit (fun a => by simp; omega))
    refine (Sort_ok hrds hsort h' (by simp; omega)).mono0 ?_
    intro w2 h2
    obtain ⟨S2, hS2, h3, hnr⟩ := ho.share h2
    have hg2 := hg1.mono hS2
    have hxc := ho.cap
    refine v_join (fun gone w' => ∃ g : Nat, gone = g ∧ g ≤ fl.length ∧ ∃ S3 J' D' jow' ow' A, Sub S2 S3 ∧ St B w' S3 (jow' ++ (ow' ++ F)) ∧ JournO S3 j d nm J' jow' ∧ DiskO d D' ow' ∧ D'.off = false ∧ D'.fused = false ∧ D'.files = A ++ (fl.drop g).map (fN nm) ∧ J'.recs = recov fl ∧ J'.next = recNext fl ∧ J'.off = false ∧ D'.room = D.room ∧ (fl = [] → J'.segs = [] ∧ D'.files = [])) ?_ ?_
    · rintro gone w4 ⟨g, rfl, hgl, S3, J', D', jow', ow', A, hS3, h4, hJ', hD', ho', hf', hfiles, hrecs, hnext, hjo, hrm', hemp⟩
      have hmin : (if (x.len : Int) < (g : Int) then (x.len : Int) else (g : Int)) = (g : Int) := by split <;> omega
      rw [hmin]
      refine ⟨by omega, by omega, by omega, by omega, ?_⟩
      have hcut : RdV S3 1 (slS x (g : Int) x.len x.cap 1) (((fl.map Prod.fst).drop g).map u64V) := by
        have := RdV.slice (i := (g : Int)) (j := (x.len : Int)) (m := (x.cap : Int)) (hnr.mono hS3) (by omega) (by omega) (by omega) (by omega) (by omega)
        rw [← List.map_drop, show (g : Int).toNat * 1 = g by omega, List.take_of_length_le (by simp; omega)] at this
        exact this
      have hcl : (slS x (g : Int) x.len x.cap 1).len = fl.length - g := by simp only [slS]; omega
      obtain ⟨l', rc', owl', owr', rs', hR', rfl⟩ := hJ'
      have hg3 := hg2.mono hS3
      refine loop_to (fun i (y : Int) w5 => y = (i : Int) ∧ ∃ D'' ow'', St B w5 S3 (jCell j d nm l' rc' J'.next J'.off :: (owl' ++ owr') ++ (ow'' ++ F)) ∧ DiskO d D'' ow'' ∧ D''.off = false ∧ D''.fused = false ∧ D''.files = A ++ (fl.drop (g + i)).map (fN nm) ∧ D''.room = D.room ∧ (fl = [] → D''.files = [])) (fl.length - g) ?_ ?_ (Nat.zero_le _) ⟨rfl, D', ow', h4, hD', ho', hf', hfiles, hrm', fun q => (hemp q).2⟩
      · rintro J3 i y w5 hi ⟨rfl, D'', ow'', h5, hD'', ho'', hf'', hfl'', hrm'', hemp''⟩ k
        refine ⟨fun _ => ?_, fun hc => absurd (show (i : Int) < ((slS x (g : Int) x.len x.cap 1).len : Int) by omega) hc⟩
        refine v_ixs1 (t := tI .u64) (l := ((fl.map Prod.fst).drop g).map fun n : Nat => (n : Int)) (f := fun z => .int .u64 z) (by rw [List.map_map]; exact hcut.sh h5) (Sub.refl _) (by omega) (by omega) fun hl2 => ?_
        have hgi : g + i < fl.length := by omega
        have e0 : (((fl.map Prod.fst).drop g).map fun n : Nat => (n : Int))[(i : Int).toNat] = ((fl[g + i].1 : Nat) : Int) := by simp
        rw [e0]
        have hn := hlt' fl[g + i].1 (List.mem_map.2 ⟨_, List.getElem_mem hgi, rfl⟩)
        refine v_nz (v_ldo (by exact h5.head.1) (pt d) ?_)
        refine (file_ok fl[g + i].1 (by omega) hg3 h5.dr (List.mem_append_left _ (List.mem_cons_self ..)) hsz).mono1 ?_
        rintro r w6 ⟨rfl, h6⟩
        refine ⟨v_at h6.head.1, ?_⟩
        have h6' : St B w6 S3 (ow'' ++ (jCell j d nm l' rc' J'.next J'.off :: (owl' ++ owr') ++ F)) := h6.fit (fun a => by simp; omega)
        have hfd : D''.files = A ++ (fileN nm fl[g + i].1, fl[g + i].2) :: (fl.drop (g + i + 1)).map (fN nm) := by
          rw [hfl'', List.drop_eq_getElem_cons hgi, List.map_cons]; rfl
        refine (Remove_ok h6' hD'' ho'' (fileN_named hn hnm) hfd).mono1 ?_
        rintro e w7 ⟨D7, ow7, h7, hD7, hw7, hf7⟩
        obtain ⟨rfl, ho7, hfu7⟩ := nofail hf'' hw7
        rw [if_pos rfl] at hf7
        exact ⟨fun hc => absurd rfl hc, fun _ => k _ _ ⟨IntWalk.i64_in _ (by omega), D7, ow7, h7.fit (fun a => by simp; omega), hD7, ho7, hfu7, hf7, hw7.1.trans hrm'', fun q => by rw [q] at hgi; simp at hgi⟩⟩
      · rintro J3 y w5 ⟨rfl, D'', ow'', h5, hD'', ho'', hf'', hfl'', hrm'', hemp''⟩
        exact ⟨fun hc => absurd hc (by omega), fun _ => ⟨rfl, S3, J', D'', _, ow'', (hS1.trans hS2).trans hS3, h5, ⟨l', rc', owl', owr', rs', hR', rfl⟩, hD'', hrecs, hnext, hjo, ho'', hf'', hrm'', fun q => ⟨(hemp q).1, hemp'' q⟩⟩⟩
    · refine loop_by (fun (y : Int × Int) w' => ∃ i : Nat, y = ((x.len : Int), (i : Int)) ∧ i ≤ fl.length ∧ ∃ S3 J' jow' ow' acc, Sub S2 S3 ∧ St B w' S3 (jow' ++ (ow' ++ F)) ∧ JournO S3 j d nm J' jow' ∧ DiskO d D ow' ∧ J'.recs = acc ∧ J'.off = false ∧ J'.segs.length = i ∧ recov fl = acc ++ recov (fl.drop i) ∧ (i = 0 → J'.next = 1 ∧ acc = []) ∧ (∀ hi : i < fl.length, recNext fl = fl[i].1 + (recov (fl.drop i)).length ∧ (0 < i → J'.next = fl[i].1)) ∧ (0 < i → i < fl.length)) (fun y _ => fl.length - y.2.toNat) ?_ ⟨0, rfl, Nat.zero_le _, S2, ⟨[], [], 1, false⟩, _, ow, [], Sub.refl S2, h3.fit (L' := jCell j d nm l rc 1 false :: (owl ++ owr) ++ (ow ++ F)) (fun a => by simp; omega), ⟨l, rc, owl, owr, rs, ⟨hR.segs, hR.recs, hR.rd.mono fun a b q => (q.mono hS1).mono hS2⟩, rfl⟩, hD, rfl, rfl, rfl, rfl, fun _ => ⟨rfl, rfl⟩, fun hi => ⟨?_, fun q => absurd q (by omega)⟩, fun q => absurd q (by omega)⟩
      · rintro J3 y w5 ⟨i, rfl, hil, S3, J', jow', ow', acc, hS3, h5, hJ', hD', rfl, hjo, hseg, hrec, hz, hnx, hpos⟩ k
        refine ⟨fun hc => ?_, fun hc => ?_⟩
        · have hif : i < fl.length := by omega
          obtain ⟨hrn, hnn⟩ := hnx hif
          have hn := hlt' fl[i].1 (List.mem_map.2 ⟨_, List.getElem_mem hif, rfl⟩)
          have hn2 := hlt fl[i] (List.getElem_mem hif)
          have hg3 := hg2.mono hS3
          obtain ⟨l', rc', owl', owr', rs', hR', rfl⟩ := hJ'
          refine v_ixs1 (t := tI .u64) (l := (fl.map Prod.fst).map fun n : Nat => (n : Int)) (f := fun z => .int .u64 z) (by rw [List.map_map]; exact (hnr.mono hS3).sh h5) (Sub.refl _) (by omega) (by omega) fun hl2 => ?_
          have e0 : ((fl.map Prod.fst).map fun n : Nat => (n : Int))[(i : Int).toNat] = ((fl[i].1 : Nat) : Int) := by simp
          rw [e0]
          refine v_join (fun _ w6 => St B w6 S3 (jCell j d nm l' rc' fl[i].1 J'.off :: (owl' ++ owr') ++ (ow' ++ F))) ?_ ?_
          · rintro _ w6 h6
            refine v_nz (v_ldo (by exact h6.head.1) (pt d) ?_)
            refine (file_ok fl[i].1 (by omega) hg3 h6.dr (List.mem_append_left _ (List.mem_cons_self ..)) hsz).mono1 ?_
            rintro r7 w7 ⟨rfl, h7⟩
            refine ⟨v_at h7.head.1, ?_⟩
            have h7' : St B w7 S3 (ow' ++ (jCell j d nm l' rc' fl[i].1 J'.off :: (owl' ++ owr') ++ F)) := h7.fit (fun a => by simp; omega)
            have hfd : D.files = (fl.take i).map (fN nm) ++ (fileN nm fl[i].1, fl[i].2) :: (fl.drop (i + 1)).map (fN nm) := by
              rw [hfl]
              have : fl = fl.take i ++ fl[i] :: fl.drop (i + 1) := by rw [← List.drop_eq_getElem_cons hif, List.take_append_drop]
              conv => lhs; rw [this]
              rw [List.map_append, List.map_cons]; rfl
            have hbl : fl[i].2.bytes.length ≤ total D.files := by
              rw [hfd]; unfold total; simp; omega
            refine (DRead_ok h7' hD' hoff (fileN_named hn hnm) hfd (by omega)).mono2 ?_
            rintro r8 r9 w8 ⟨rfl, S4, hS4, h8, hrd, hrc8⟩
            refine ⟨fun hc => absurd rfl hc, fun _ => ?_⟩
            refine (recordsOf_ok _ _ h8 hrd (by omega) hrc8).mono2 ?_
            rintro r10 r11 w9 ⟨S5, ss, hS5, h9, hrr, hall, rfl, hrl10⟩
            have h9' : St B w9 S5 (jCell j d nm l' rc' fl[i].1 J'.off :: (owr' ++ (owl' ++ (ow' ++ F)))) := h9.fit (fun a => by simp; omega)
            refine v_nz (v_ldo (by exact h9'.head.1) rc' ?_)
            have hlr' := hR'.lenR
            have hll' := hR'.lenL
            have hdrop := List.drop_eq_getElem_cons hif
            obtain ⟨tl, htl⟩ : ∃ tl, recov (fl.drop i) = recsOf (frScan fl[i].2.bytes) ++ tl := by
              rw [hdrop]
              cases hfi : fl[i] with
              | mk n fm =>
                rw [recov.eq_def]
                dsimp only
                split
                · exact ⟨[], by simp⟩
                · split
                  · exact ⟨[], by simp⟩
                  · split
                    · exact ⟨_, rfl⟩
                    · exact ⟨[], by simp⟩
            have hcount := recov_len fl
            rw [← htot] at hcount
            have hcl : J'.recs.length + (recsOf (frScan fl[i].2.bytes)).length ≤ (recov fl).length := by
              rw [hrec, htl]; simp
            have hssl : ss.length = (recsOf (frScan fl[i].2.bytes)).length := hall.len
            refine v_app ety_sls h9'.mid1 hR'.recs (hrr.sh h9') (slv_one ss) (by omega) (by omega) fun s12 w12 ow12 h12 ho12 hl12 _ => ?_
            have h13 : St B w12 S5 (jCell j d nm l' rc' fl[i].1 J'.off :: (owl' ++ (ow12 ++ (ow' ++ F)))) := h12.fit (fun a => by simp; omega)
            refine v_nz (v_sto h13 fun w14 h14 => v_nz (v_ldo h14.head.1 (fl[i].1 : Int) (v_nz (v_sto h14 fun w15 h15 => v_nz (v_ldo h15.head.1 l' ?_)))))
            have hw1 : IntKind.u64.wrap ((fl[i].1 : Int) + IntKind.u64.wrap (r10.len : Int)) = ((fl[i].1 + (recsOf (frScan fl[i].2.bytes)).length : Nat) : Int) := by
              rw [IntWalk.u64_in (r10.len : Int) (by omega), IntWalk.u64_in _ (by omega)]; omega
            rw [hw1] at h15
            have e15 : setA (setA (jC d nm l' rc' fl[i].1 J'.off) (0 + 3) (tSl.cells s12)) (0 + 4) ((tI .u64).cells ((fl[i].1 + (recsOf (frScan fl[i].2.bytes)).length : Nat) : Int)) = jC d nm l' s12 (fl[i].1 + (recsOf (frScan fl[i].2.bytes)).length) J'.off := rfl
            rw [e15] at h15
            refine v_al h15 fun b13 w16 h16 => ?_
            have hel : RdV (hp w16) 2 ⟨some ⟨b13, 0, none⟩, 1, 1⟩ (segC (fl[i].1, sizeOfR (recsOf (frScan fl[i].2.bytes)))) := (OwnSl.new T_journal_segment 2 1 b13 (segC (fl[i].1, sizeOfR (recsOf (frScan fl[i].2.bytes)))) rfl (by decide)).rd (F := (j, .cells (jC d nm l' s12 (fl[i].1 + (recsOf (frScan fl[i].2.bytes)).length) J'.off) T_journal_Journal) :: (owl' ++ (ow12 ++ (ow' ++ F)))) h16
            refine v_app ety_seg h16.mid2 hR'.segs hel (by intro v hv; simp [segC] at hv; rcases hv with rfl | rfl <;> rfl) (by show (l'.len + 1) * 16 ≤ _; omega) (by show l'.len + 1 ≤ maxLen; omega) fun s17 w17 ow17 h17 ho17 hl17 _ => ?_
            have h18 : St B w17 S5 ((j, .cells (jC d nm l' s12 (fl[i].1 + (recsOf (frScan fl[i].2.bytes)).length) J'.off) T_journal_Journal) :: (ow17 ++ (ow12 ++ (ow' ++ F)))) := h17.fit (fun a => by simp; omega)
            refine v_nz (v_sto h18 fun w19 h19 => ?_)
            have e19 : setA (jC d nm l' s12 (fl[i].1 + (recsOf (frScan fl[i].2.bytes)).length) J'.off) (0 + 2) (tSl.cells s17) = jC d nm s17 s12 (fl[i].1 + (recsOf (frScan fl[i].2.bytes)).length) J'.off := rfl
            rw [e19] at h19
            have h20 : St B w19 S5 (jCell j d nm s17 s12 (fl[i].1 + (recsOf (frScan fl[i].2.bytes)).length) J'.off :: (ow17 ++ ow12) ++ (ow' ++ F)) := h19.fit (fun a => by simp [jCell] <;> omega)
            have hJ20 : JournO S5 j d nm ⟨J'.segs ++ [(fl[i].1, sizeOfR (recsOf (frScan fl[i].2.bytes)))], J'.recs ++ recsOf (frScan fl[i].2.bytes), fl[i].1 + (recsOf (frScan fl[i].2.bytes)).length, J'.off⟩ (jCell j d nm s17 s12 (fl[i].1 + (recsOf (frScan fl[i].2.bytes)).length) J'.off :: (ow17 ++ ow12)) := by
              refine ⟨s17, s12, ow17, ow12, rs' ++ ss, ⟨?_, ?_, ?_⟩, rfl⟩
              · rw [List.flatMap_append]; exact ho17
              · rw [List.map_append]; exact ho12
              · exact All2.append hall (hR'.rd.mono fun a b q => (q.mono hS4).mono hS5)
            have hg5 := (hg3.mono hS4).mono hS5
            have hei : IntKind.i64.wrap ((i : Int) + 1) = ((i + 1 : Nat) : Int) := by rw [IntWalk.i64_in _ (by omega)]; omega
            rw [hei]
            refine v_join (fun _ w21 => ∃ D21 ow21 A, St B w21 S5 (jCell j d nm s17 s12 (fl[i].1 + (recsOf (frScan fl[i].2.bytes)).length) J'.off :: (ow17 ++ ow12) ++ (ow21 ++ F)) ∧ DiskO d D21 ow21 ∧ D21.off = false ∧ D21.fused = false ∧ D21.files = A ++ (fl.drop (i + 1)).map (fN nm) ∧ recov (fl.drop i) = recsOf (frScan fl[i].2.bytes) ∧ D21.room = D.room) ?_ ?_
            · rintro _ w21 ⟨D21, ow21, A, h21, hD21, ho21, hf21, hfl21, hstop, hrm21⟩
              refine ⟨i + 1, rfl, by omega, S5, _, D21, _, ow21, A, (hS3.trans hS4).trans hS5, h21, hJ20, hD21, ho21, hf21, hfl21, ?_, ?_, hjo, hrm21, fun q => by rw [q] at hif; simp at hif⟩
              · show J'.recs ++ _ = _
                rw [hrec, hstop]
              · show fl[i].1 + _ = _
                rw [hrn, hstop]
            · have hrdl := hrd.len
              refine ⟨fun hsh => ?_, fun hsh => ?_⟩
              · have hszc : r8.len ≤ r8.cap := hrd.2.1
                refine ⟨by omega, by omega, by omega, by omega, ?_⟩
                have hcut : RdB S5 (slS r8 0 ((sizeOfR (recsOf (frScan fl[i].2.bytes)) : Nat) : Int) r8.cap 1) (fl[i].2.bytes.take (sizeOfR (recsOf (frScan fl[i].2.bytes)))) := by
                  have := RdB.slice (i := 0) (j := ((sizeOfR (recsOf (frScan fl[i].2.bytes)) : Nat) : Int)) (m := (r8.cap : Int)) (hrd.mono hS5) (by omega) (by omega) (by omega) (by omega) (by omega)
                  simpa using this
                refine (recut_ok h20 ⟨_, _, _, _, _, rfl⟩ hD' hoff hfu hg5 hnm hn hcut (by simp only [slS]; omega) hfd hcutn (by simp; omega)).mono1 ?_
                rintro e w22 ⟨rfl, D22, ow22, h22, hD22, ho22, hf22, hr22, hfl22⟩
                refine ⟨fun hc => absurd rfl hc, fun _ => ⟨D22, ow22, (fl.take i).map (fN nm) ++ [(fileN nm fl[i].1, ⟨fl[i].2.bytes.take (sizeOfR (recsOf (frScan fl[i].2.bytes))), (fl[i].2.bytes.take (sizeOfR (recsOf (frScan fl[i].2.bytes)))).length⟩)], h22, hD22, ho22, hf22, by rw [hfl22]; simp, ?_, hr22⟩⟩
                rw [hdrop]
                cases hfi : fl[i] with
                | mk n fm =>
                  rw [hfi] at hsh hrdl
                  rw [recov.eq_def]
                  dsimp only at hsh hrdl ⊢
                  rw [if_pos (by omega)]
              · have hA : D.files = ((fl.take i).map (fN nm) ++ [(fileN nm fl[i].1, fl[i].2)]) ++ (fl.drop (i + 1)).map (fN nm) := by rw [hfd]; simp
                refine v_join (fun r w23 => St B w23 S5 (jCell j d nm s17 s12 (fl[i].1 + (recsOf (frScan fl[i].2.bytes)).length) J'.off :: (ow17 ++ ow12) ++ (ow' ++ F)) ∧ (r = true ↔ ∃ hi2 : i + 1 < fl.length, fl[i + 1].1 = fl[i].1 + (recsOf (frScan fl[i].2.bytes)).length)) ?_ ?_
                · rintro r w23 ⟨h23, hriff⟩
                  refine ⟨fun hr => ?_, fun hr => ⟨D, ow', _, h23, hD', hoff, hfu, hA, ?_, rfl⟩⟩
                  · obtain ⟨hi2, heq⟩ := hriff.1 hr
                    have hstep : recov (fl.drop i) = recsOf (frScan fl[i].2.bytes) ++ recov (fl.drop (i + 1)) := by
                      rw [hdrop]
                      have hd2 := List.drop_eq_getElem_cons hi2
                      rw [hd2]
                      cases hfi : fl[i] with
                      | mk n fm =>
                        cases hfi2 : fl[i + 1] with
                        | mk n2 fm2 =>
                          rw [hfi, hfi2] at heq
                          rw [hfi] at hsh hrdl
                          conv => lhs; rw [recov.eq_def]
                          dsimp only at heq hsh hrdl ⊢
                          rw [if_neg (by omega), if_pos heq]
                    refine k _ _ ⟨i + 1, rfl, by omega, S5, _, _, ow', _, (hS3.trans hS4).trans hS5, h23, hJ20, hD', rfl, hjo, ?_, ?_, fun q => absurd q (by omega), fun _ => ⟨?_, fun _ => ?_⟩, fun _ => hi2⟩ (by simp only [Int.toNat_natCast]; omega)
                    · simp; omega
                    · show recov fl = (J'.recs ++ _) ++ _
                      rw [hrec, hstep, List.append_assoc]
                    · rw [hrn, hstep, heq, List.length_append]; omega
                    · show fl[i].1 + _ = fl[i + 1].1
                      rw [heq]
                  · rw [hdrop]
                    cases hfi : fl[i] with
                    | mk n fm =>
                      rw [hfi] at hsh hrdl
                      rw [recov.eq_def]
                      dsimp only at hsh hrdl ⊢
                      rw [if_neg (by omega)]
                      cases hd2 : fl.drop (i + 1) with
                      | nil => rfl
                      | cons p rr =>
                        obtain ⟨m, gg⟩ := p
                        dsimp only
                        have hi2 : i + 1 < fl.length := by
                          have := congrArg List.length hd2
                          simp at this; omega
                        have hd3 := List.drop_eq_getElem_cons hi2
                        rw [hd2] at hd3
                        have hm2 : fl[i + 1] = (m, gg) := (List.cons.inj hd3).1.symm
                        rw [if_neg]
                        intro q
                        have : r = true := hriff.2 ⟨hi2, by rw [hm2, hfi]; exact q⟩
                        rw [hr] at this; cases this
                · refine ⟨fun hc2 => ?_, fun hc2 => ⟨h20.dr, ?_⟩⟩
                  · have hi2 : i + 1 < fl.length := by omega
                    refine v_ixs1 (t := tI .u64) (l := (fl.map Prod.fst).map fun n : Nat => (n : Int)) (f := fun z => .int .u64 z) (by rw [List.map_map]; exact (((hnr.mono hS3).mono hS4).mono hS5).sh h20.dr) (Sub.refl _) (by omega) (by omega) fun hl3 => ?_
                    have e3 : ((fl.map Prod.fst).map fun n : Nat => (n : Int))[((i + 1 : Nat) : Int).toNat] = ((fl[i + 1].1 : Nat) : Int) := by simp
                    rw [e3]
                    refine v_nz (v_ldo (by exact h20.head.1) ((fl[i].1 + (recsOf (frScan fl[i].2.bytes)).length : Nat) : Int) ⟨h20.dr, ?_⟩)
                    rw [decide_eq_true_eq]
                    exact ⟨fun q => ⟨hi2, by omega⟩, fun ⟨_, q⟩ => by rw [q]⟩
                  · constructor
                    · intro q; cases q
                    · rintro ⟨q, _⟩; omega
          · refine ⟨fun hc0 => v_nz (v_sto h5 fun w6 h6 => h6), fun hc0 => ?_⟩
            have hi0 : 0 < i := by omega
            have := hnn hi0
            rw [this] at h5
            exact h5
        · have hie : i = fl.length := by omega
          have hi0 : i = 0 := by
            rcases Nat.eq_zero_or_pos i with q | q
            · exact q
            · have := hpos q; omega
          obtain ⟨hn1, hacc⟩ := hz hi0
          have hnil : fl = [] := List.eq_nil_of_length_eq_zero (by omega)
          subst hnil
          exact ⟨0, by rw [hxl]; rfl, Nat.le_refl _, S3, J', D, jow', ow', [], hS3, h5, hJ', hD', hoff, hfu, hfl, by rw [hacc]; rfl, hn1, hjo, rfl, fun _ => ⟨List.eq_nil_of_length_eq_zero (by omega), hfl⟩⟩
      · cases fl with
        | nil => simp at hi
        | cons p r => obtain ⟨n, fm⟩ := p; rfl
end
end Go.Proofs.YtccebpahnnfceaaGreatDoor
