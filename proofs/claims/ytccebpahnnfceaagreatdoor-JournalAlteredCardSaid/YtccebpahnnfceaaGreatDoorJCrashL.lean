/- JournalCrash answers true. -/
import Derived.Test.YtccebpahnnfceaaGreatDoorJLives
namespace Go.Proofs.YtccebpahnnfceaaGreatDoor
open Go.Vc
set_option linter.unusedVariables false
set_option linter.unusedSimpArgs false
section
variable {B : Bs} {w : World} {S : Hp} {L : Own}
def boolV (b : Bool) : Value := .bool b
theorem Went.zero {D1 D2 : DM} {e : Int} (hw : Went D1 D2 e) (he : e = 0) : D2.off = false := by
  rcases hw.2.2 with q | q
  · exact q.2
  · rw [he] at q; exact absurd q.1 (by decide)
theorem JournalCrash_ok {l sync keep : Sl} {sl : List Sl} {ls : List (List UInt8)} {bs : List Bool} {ks : List Int} {fuse : Int} (hg : Glob S) (h : St B w S [])
    (hl : RdV S 1 l (sl.map Sl.v)) (hls : All2 (RdB S) sl ls) (hcaps : ∀ s ∈ sl, s.cap ≤ maxLen) (hsync : RdV S 1 sync (bs.map boolV)) (hf : -9223372036854775808 ≤ fuse ∧ fuse ≤ 9223372036854775807)
    (hkeep : RdV S 1 keep (ks.map intV)) (hkr : ∀ k ∈ ks, k ≤ 9223372036854775807) (hkl : keep.len ≤ 9223372036854775807) :
    CallP Tryz.prog n_berthmasterlaw05_JournalCrash [Sl.v l, Sl.v sync, .int .i64 fuse, Sl.v keep] w (ret1 tB fun r w' => r = true ∧ ∃ S', Sub S S' ∧ St B w' S' []) := by
  have hm : maxLen = 9223372036854775807 := rfl
  have hll : sl.length = l.len := by have := hl.1; simpa using this
  have hsl : bs.length = sync.len := by have := hsync.1; simpa using this
  have hlc : l.len ≤ l.cap := hl.2.1
  have hla := hls.len
  refine vc_berthmasterlaw05_JournalCrash _ _ _ _ _ _ ?_
  unfold F_berthmasterlaw05_JournalCrash
  refine (lives_ok hg h).mono1 ?_
  rintro r w1 ⟨rfl, S1, hS1, h1⟩
  refine ⟨fun hc => absurd hc (by simp), fun _ => ?_⟩
  refine (New_ok (room := 1048576) h1 (by omega)).mono2 ?_
  rintro p e w2 ⟨rfl, d, ow, rfl, h2, hD⟩
  refine v_join (fun r w' => w' = w2 ∧ r = decide (120 < l.len)) ?_ ⟨fun hc => absurd rfl hc, fun _ => ⟨rfl, by congr 1; apply propext; omega⟩⟩
  rintro r w' ⟨rfl, rfl⟩
  refine ⟨fun hc => ⟨rfl, S1, hS1, h2.dropL⟩, fun hlen => ?_⟩
  have hl120 : l.len ≤ 120 := by
    have : ¬ 120 < l.len := by simpa using hlen
    omega
  have hg1 := hg.mono hS1
  refine (Open_ok (fl := []) (nm := logN) h2 hD rfl rfl hg1 log_named rfl List.Pairwise.nil (by simp) (by simp) (by show 2 * 0 ≤ 1048576; omega) (by show 1048576 ≤ _; omega)).mono2 ?_
  rintro p e w3 ⟨rfl, j, S2, J2, D2, jow2, ow2, rfl, hS2, h3, hJ2, hD2, hrec, hnx, hjo, hdo, hfu, hrm, hemp⟩
  obtain ⟨hsg, hfl⟩ := hemp rfl
  have hJ2' : J2 = ⟨[], [], 1, false⟩ := by
    cases J2 with
    | mk a b c o => simp only at hsg hrec hnx hjo; subst hsg; subst hjo; rw [show b = [] from hrec, show c = 1 from hnx]
  subst hJ2'
  have hrm2 : D2.room = 1048576 := hrm
  have hg2 := hg1.mono hS2
  refine v_join (fun r w' => r = false ∧ ∃ ow3, St B w' S2 (jow2 ++ (ow3 ++ [])) ∧ DiskO d { D2 with fused := true } ow3) ?_ ?_
  · rintro r w4 ⟨rfl, ow3, h4, hD3⟩
    refine ⟨fun hc => absurd hc (by simp), fun _ => ?_⟩
    -- what stands when the writing is over
    refine v_join (fun x w5 => ∃ S3 R, ∃ s : Nat, ∃ D5 ow5, Sub S2 S3 ∧ St B w5 S3 (ow5 ++ []) ∧ DiskO d D5 ow5 ∧ D5.room = 1048576 ∧ CrashSt logN R s D5 ∧ R = ls.take R.length ∧ R.length ≤ 120 ∧ small R ∧ x.1 = (s : Int) ∧ (R.length : Int) ≤ x.2) ?_ ?_
    · rintro ⟨x1, x2⟩ w5 ⟨S3, R, s, D5, ow5, hS3, h5, hD5, hr5, hcr, hRl, hR120, hsm, hx1, hx2⟩
      dsimp only at hx1 hx2
      subst hx1
      have hsz := small_size hsm hR120
      have hnames5 : (∀ p ∈ D5.files, dNamed p.1 = true) ∧ D5.files.length ≤ 1000000 ∧ total D5.files ≤ 4000000000 := by
        rcases hcr with ⟨_, _, hf5⟩ | ⟨pre, f, rs, sy, t, m, hR, hch, hff, hf5, _⟩
        · rw [hf5]; exact ⟨by simp, by simp, by simp [total]⟩
        · rw [hf5]
          have hcnt := hch.count
          have hRlen : R.length = (recsC pre).length + rs.length := by rw [hR, List.length_append]
          refine ⟨fun p hp => ?_, by simp; omega, ?_⟩
          · obtain ⟨q, hq, rfl⟩ := List.mem_map.1 hp
            refine fileN_named ?_ log_named
            rcases List.mem_append.1 hq with hq | hq
            · obtain ⟨c, hc, rfl⟩ := List.mem_map.1 hq
              have := hch.bound c hc
              show c.1 < _
              omega
            · simp only [List.mem_singleton] at hq; subst hq; dsimp only; omega
          · rw [total_fN, sumLen_app, total_full]
            have e1 : sumLen [(f, (⟨(segBytes rs).take m, sy⟩ : FM))] ≤ sizeOfR rs := by
              have : ((segBytes rs).take m).length ≤ (segBytes rs).length := by rw [List.length_take]; omega
              rw [segBytes_len] at this
              simpa [sumLen] using this
            have : sizeOfR R = sizeOfR (recsC pre) + sizeOfR rs := by rw [hR, sizeOfR_app]
            omega
      refine (Crash_ok h5 hD5 ((hkeep.mono hS1).mono (hS2.trans hS3)) hkr hnames5.1 hnames5.2.1 hnames5.2.2 hkl).mono1 ?_
      rintro e w6 hcase
      rcases hcase with ⟨he, ⟨k0, hk0, hneg⟩, h6⟩ | ⟨rfl, hpos, D6, S6, ow6, hS6, h6, hD6, ho6, hf6, hr6, hcut⟩
      · refine ⟨fun _ => ?_, fun hc => absurd he hc⟩
        refine (fine_ok ((((hkeep.mono hS1).mono (hS2.trans hS3))).sh h6) hkl).mono1 ?_
        rintro r w7 ⟨rfl, rfl⟩
        refine ⟨?_, S3, (hS1.trans hS2).trans hS3, h6⟩
        rw [decide_eq_false (fun q => by have := q k0 hk0; omega)]
        rfl
      · refine ⟨fun hc => absurd rfl hc, fun _ => ?_⟩
        obtain ⟨fl, u, hfl6, hsrt, hlt, hfll, htot6, hsu, huR, hrecv, hnxv⟩ := crash_step hcr hsm hR120 hcut
        have hg6 := ((hg2.mono hS3).mono hS6)
        refine (Open_ok h6 hD6 ho6 hf6 hg6 log_named hfl6 hsrt hlt hfll (by rw [hr6, hr5]; omega) (by rw [hr6, hr5]; omega)).mono2 ?_
        rintro p e w8 ⟨rfl, j8, S8, J8, D8, jow8, ow8, rfl, hS8, h8, hJ8, hD8, hrec8, hnx8, _⟩
        refine ⟨fun hc => absurd rfl hc, fun _ => ?_⟩
        rw [hrecv] at hrec8
        rw [hnxv] at hnx8
        have hul : J8.recs.length = u := by rw [hrec8, List.length_take]; omega
        have hsm8 : small J8.recs := fun r hr => hsm r (by rw [hrec8] at hr; exact List.mem_of_mem_take hr)
        refine (JAll_ok h8 hJ8 (by omega) (fun r hr => by have := hsm8 r hr; omega)).mono1 ?_
        rintro r9 w9 ⟨S9, ss, hS9, h9, hr9, hss⟩
        have hssl : ss.length = u := by rw [hss.len, hul]
        have hr9l : r9.len = u := by have := hr9.1; rw [List.length_map, hssl] at this; omega
        refine v_join (fun r w' => r = true ∧ ∃ S', Sub S S' ∧ St B w' S' []) (fun x w' hx => hx) ⟨fun _ => ⟨fun _ => ?_, fun hc => absurd (show (r9.len : Int) ≤ x2 by omega) hc⟩, fun hc => absurd (show (s : Int) ≤ r9.len by omega) hc⟩
        have hRle : R.length ≤ ls.length := by
          have := congrArg List.length hRl
          rw [List.length_take] at this; omega
        refine ⟨by omega, by omega, by omega, by omega, ?_⟩
        have hSS9 : Sub S S9 := ((((hS1.trans hS2).trans hS3).trans hS6).trans hS8).trans hS9
        have hcutl : RdV S9 1 (slS l 0 (r9.len : Int) l.cap 1) ((sl.take u).map Sl.v) := by
          have := RdV.slice (i := 0) (j := (r9.len : Int)) (m := (l.cap : Int)) (hl.mono hSS9) (by omega) (by omega) (by omega) (by omega) (by omega)
          rw [show ((r9.len : Int).toNat - (0 : Int).toNat) * 1 = u by omega, show (0 : Int).toNat * 1 = 0 from rfl, List.drop_zero, ← List.map_take] at this
          exact this
        have hlsu : All2 (RdB S9) (sl.take u) (ls.take u) := (hls.take u).mono fun a b q => q.mono hSS9
        have hRu : R.take u = ls.take u := by
          rw [hRl, List.take_take, Nat.min_eq_left huR]
        refine (SameLists_ok (hr9.sh h9) (hcutl.sh h9) (hss.mono fun a b q => q.sh h9) (hlsu.mono fun a b q => q.sh h9) (by omega) (fun r hr => by have := hsm8 r hr; omega)).mono1 ?_
        rintro r10 w10 ⟨rfl, hs10⟩
        have h10 := h9.same hs10
        have hJ9 := hJ8.mono hS9
        refine ⟨fun _ => ?_, fun hc => absurd (by rw [hrec8, hRu]; simp) (Bool.eq_false_iff.1 hc)⟩
        refine (JFirst_ok h10 hJ9 (by omega) (by omega)).mono1 ?_
        rintro r11 w11 ⟨rfl, hs11⟩
        have h11 := h10.same hs11
        refine ⟨fun _ => ?_, fun hc => absurd (by omega) hc⟩
        refine (JNext_ok h11 hJ9).mono1 ?_
        rintro r12 w12 ⟨rfl, rfl⟩
        refine ⟨?_, S9, hSS9, h11.dropL.dropL⟩
        rw [IntWalk.u64_in (r9.len : Int) (by omega), IntWalk.u64_in _ (by omega)]
        exact decide_eq_true (by omega)
    · -- the writing
      refine loop_by (fun (x : Int × Int × Int) w' => ∃ S3, ∃ s : Nat, ∃ J D5 jow5 ow5, ∃ i : Nat, x = ((s : Int), (i : Int), (i : Int)) ∧ i ≤ l.len ∧ Sub S2 S3 ∧ St B w' S3 (jow5 ++ (ow5 ++ [])) ∧ JournO S3 j d logN J jow5 ∧ DiskO d D5 ow5 ∧ D5.room = 1048576 ∧ LogSt logN (ls.take i) s J D5 ∧ small (ls.take i)) (fun x _ => l.len - x.2.2.toNat) ?_ ⟨S2, 0, ⟨[], [], 1, false⟩, { D2 with fused := true }, jow2, ow3, 0, rfl, Nat.zero_le _, Sub.refl S2, h4, hJ2, hD3, hrm2, ⟨hdo, rfl, rfl, rfl, .inl ⟨rfl, rfl, rfl, hfl⟩⟩, by intro r hr; simp at hr⟩
      rintro Jc x w5 ⟨S3, s, J, D5, jow5, ow5, i, rfl, hil, hS3, h5, hJ, hD5, hr5, hL, hsm⟩ k
      have hSS3 : Sub S S3 := (hS1.trans hS2).trans hS3
      refine ⟨fun hc => ?_, fun hc => ?_⟩
      · have hi : i < l.len := by dsimp only at hc; omega
        have hisl : i < sl.length := by omega
        have hils : i < ls.length := by omega
        have hei : IntKind.i64.wrap ((i : Int) + 1) = ((i + 1 : Nat) : Int) := by rw [IntWalk.i64_in _ (by omega)]; omega
        have htk : ls.take (i + 1) = ls.take i ++ [ls[i]] := List.take_succ_eq_append_getElem hils
        have hRi : (ls.take i).length = i := by rw [List.length_take]; omega
        refine v_join (fun (x : Int × Int) w' => ∃ S4, ∃ s' : Nat, ∃ J4 D6 jow6 ow6, x = ((s' : Int), ((i + 1 : Nat) : Int)) ∧ Sub S3 S4 ∧ St B w' S4 (jow6 ++ (ow6 ++ [])) ∧ JournO S4 j d logN J4 jow6 ∧ DiskO d D6 ow6 ∧ D6.room = 1048576 ∧ LogSt logN (ls.take (i + 1)) s' J4 D6 ∧ small (ls.take (i + 1))) ?_ ?_
        · rintro x w6 ⟨S4, s', J4, D6, jow6, ow6, rfl, hS4, h6, hJ4, hD6, hr6, hL6, hsm6⟩
          dsimp only
          rw [hei]
          refine k _ _ ⟨S4, s', J4, D6, jow6, ow6, i + 1, rfl, by omega, hS3.trans hS4, h6, hJ4, hD6, hr6, hL6, hsm6⟩ ?_
          dsimp only; omega
        · refine v_ixs1 (t := tSl) (f := Sl.v) ((hl.mono hSS3).sh h5) (Sub.refl _) (by dsimp only; omega) (by dsimp only; omega) fun hl2 => ?_
          have hii : ((i : Int)).toNat = i := rfl
          have hrb : RdB S sl[i] ls[i] := hls.get i hisl hils
          have hbl := hrb.len
          refine ⟨fun _ => ⟨rfl, S3, hSS3, h5.dropL.dropL⟩, fun h3000 => ?_⟩
          have h3000' : sl[i].len ≤ 3000 := by
            have : ¬ (3000 : Int) < (sl[i].len : Int) := h3000
            omega
          refine v_ixs1 (t := tSl) (f := Sl.v) ((hl.mono hSS3).sh h5) (Sub.refl _) (by dsimp only; omega) (by dsimp only; omega) fun hl3 => ?_
          have hsm1 : small (ls.take i ++ [ls[i]]) := fun r hr => by
            rcases List.mem_append.1 hr with hr | hr
            · exact hsm r hr
            · simp only [List.mem_singleton] at hr; subst hr; omega
          obtain ⟨Fs, Fm, g1, g2, Jm, init, f, z, fm, a1, a2, a3, a4, a5, a6, a7, a8, a9, a10, a11⟩ := append_step hL ls[i] hsm1 (by omega)
          have hszR := small_size hsm (by omega)
          obtain ⟨b1, b2, b3, b4, _⟩ := id hL
          have hcap : (sl[i]).cap ≤ maxLen := hcaps _ (List.getElem_mem hisl)
          refine (JAppend_ok h5 hJ hD5 b1 b2 (hg2.mono hS3) log_named (by omega) (by omega) (by rw [b3]; omega) a1 a2 a3 a4 a5 a6 a7 (hrb.mono hSS3) hcap (by omega) (by rw [a8, hr5]; omega)).mono2 ?_
          rintro n e w6 ⟨D6, J6, S6, jow6, ow6, hS6, h6, hJ6, hD6, hw6, hcase⟩
          have hr6 : D6.room = 1048576 := hw6.1.trans hr5
          dsimp only
          rw [hei]
          refine ⟨fun he => ?_, fun he => ?_⟩
          · rcases hcase with ⟨_, hfs⟩ | ⟨he0, _⟩
            · rcases a10 D6 hfs with hcr | hcr
              · exact ⟨S6, ls.take i ++ [ls[i]], s, D6, ow6, hS3.trans hS6, h6.dropL, hD6, hr6, hcr, by rw [← htk, List.length_take, List.take_eq_take_iff]; omega, by rw [← htk, List.length_take]; omega, hsm1, rfl, by rw [← htk, List.length_take]; omega⟩
              · exact ⟨S6, ls.take i, s, D6, ow6, hS3.trans hS6, h6.dropL, hD6, hr6, hcr, by rw [hRi], by omega, hsm, rfl, by rw [hRi]; omega⟩
            · exact absurd he0 he
          · have he0 : e = 0 := by simpa using he
            subst he0
            rcases hcase with ⟨he10, _⟩ | ⟨_, _, rfl, hf6⟩
            · exact absurd he10 (by decide)
            have ho6 := hw6.zero rfl
            have hL6 := a11 D6 ho6 hf6
            rw [← htk] at hL6 hsm1
            refine v_join (fun (r : Bool) w' => w' = w6) ?_ ⟨fun hc2 => ?_, fun _ => rfl⟩
            · rintro r w7 rfl
              refine ⟨fun _ => ?_, fun _ => ⟨S6, s, _, D6, jow6, ow6, rfl, hS6, h6, hJ6, hD6, hr6, hL6, hsm1⟩⟩
              obtain ⟨c1, c2, c3, c4, ⟨c5, _⟩ | ⟨pre, f', rs, sy, t, c5, c6, c7, c8, c9, c10, c11, c12, c13⟩⟩ := id hL6
              · have := congrArg List.length c5
                rw [List.length_take] at this
                simp only [List.length_nil] at this
                omega
              have hRl6 : (ls.take (i + 1)).length = i + 1 := by rw [List.length_take]; omega
              have hcl : i + 1 = (recsC pre).length + rs.length := by rw [← hRl6, c5, List.length_append]
              have hcnt := c6.count
              have hs9 : (⟨init ++ [(f, z + (ls[i].length + 12))], J.recs ++ [ls[i]], J.next + 1, false⟩ : JM).segs = pre.map segOf ++ [(f', sizeOfR rs)] := by rw [c9, List.map_append]; rfl
              have hf10 : D6.files = (pre.map fullF).map (fN logN) ++ (fileN logN f', ⟨segBytes rs, sy⟩) :: [] := by rw [c10, List.map_append]; rfl
              refine (JSync_ok h6 hJ6 hD6 ho6 rfl ((hg2.mono hS3).mono hS6) log_named (by rw [hs9]; simp; omega) hs9 (by omega) hf10).mono1 ?_
              rintro e w8 ⟨D8, J8, jow8, ow8, h8, hJ8, hD8, hw8, hJe, hf8⟩
              have hr8 : D8.room = 1048576 := hw8.1.trans hr6
              refine ⟨fun he => ?_, fun he => ?_⟩
              · rw [if_neg he] at hf8
                exact ⟨S6, ls.take (i + 1), s, D8, ow8, hS3.trans hS6, h8.dropL, hD8, hr8, hL6.crash hf8, by rw [hRl6], by omega, hsm1, rfl, by rw [hRl6]; exact Int.le_refl _⟩
              · have he0 : e = 0 := by simpa using he
                subst he0
                rw [if_pos rfl] at hf8
                have := hJe rfl
                subst this
                refine ⟨S6, i + 1, _, D8, jow8, ow8, rfl, hS6, h8, hJ8, hD8, hr8, ⟨hw8.zero rfl, c2, c3, c4, .inr ⟨pre, f', rs, (segBytes rs).length, rs.length, c5, c6, c7, c8, c9, ?_, Nat.le_refl _, by omega, ?_⟩⟩, hsm1⟩
                · rw [hf8, List.map_append]; rfl
                · rw [List.take_length, segBytes_len]; exact Nat.le_refl _
            · refine v_ixs1 (t := tB) (f := boolV) ((hsync.mono (hSS3.trans hS6)).sh h6) (Sub.refl _) (by omega) (by omega) fun hl4 => ?_
              rfl
      · have hie : i = l.len := by dsimp only at hc; omega
        obtain ⟨b1, b2, b3, b4, _⟩ := id hL
        have hRi : (ls.take i).length = i := by rw [List.length_take]; omega
        exact ⟨S3, ls.take i, s, D5, ow5, hS3, h5.dropL, hD5, hr5, hL.crash rfl, by rw [hRi], by omega, hsm, rfl, by rw [hRi]; exact Int.le_refl _⟩
  · refine ⟨fun hc => absurd rfl hc, fun _ => ?_⟩
    refine (Pick_ok fuse 400 hf (by omega) (by omega) w3).mono1 ?_
    rintro r w4 ⟨⟨p, rfl, hp⟩, rfl⟩
    have h3' : St B w4 S2 (ow2 ++ (jow2 ++ [])) := h3.fit (fun a => by simp; omega)
    refine (Fuse_ok h3' hD2 hdo (by omega) (by omega)).mono1 ?_
    rintro r w5 ⟨rfl, ow3, h5, hD5⟩
    exact ⟨by simp, ow3, h5.fit (fun a => by simp; omega), hD5⟩
end
end Go.Proofs.YtccebpahnnfceaaGreatDoor
