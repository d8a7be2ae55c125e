/- JournalAltered answers true. -/
import Derived.Test.YtccebpahnnfceaaGreatDoorJAltW
import Derived.Test.YtccebpahnnfceaaGreatDoorJCrashL
namespace Go.Proofs.YtccebpahnnfceaaGreatDoor
open Go.Vc
set_option linter.unusedVariables false
set_option linter.unusedSimpArgs false
section
variable {B : Bs} {w : World} {S : Hp} {L : Own}
theorem shl8 (k : Nat) (hk : k < 8) : shlV .u8 (1 : Int) (k : Int) = ((bit8 k).toNat : Int) := by
  match k, hk with
  | 0, _ => rfl
  | 1, _ => rfl
  | 2, _ => rfl
  | 3, _ => rfl
  | 4, _ => rfl
  | 5, _ => rfl
  | 6, _ => rfl
  | 7, _ => rfl
theorem Chain.split : ∀ {n : Nat} {pre : List Ch} {c : Ch} {post : List Ch}, Chain n (pre ++ c :: post) → Chain n pre ∧ c.1 = n + (recsC pre).length ∧ 0 < c.2.length
  | n, [], c, post, h => ⟨trivial, by have := h.1; simp [recsC, this], h.2.1⟩
  | n, (g, qs) :: pre, c, post, h => by
    have := Chain.split h.2.2
    refine ⟨⟨h.1, h.2.1, this.1⟩, ?_, this.2.2⟩
    rw [recsC_cons, List.length_append, this.2.1]
    dsimp only; omega
theorem JournalAltered_ok {l : Sl} {sl : List Sl} {ls : List (List UInt8)} {seg at' : Int} {bits' : BitVec 32} (hg : Glob S) (h : St B w S [])
    (hl : RdV S 1 l (sl.map Sl.v)) (hls : All2 (RdB S) sl ls) (hcaps : ∀ s ∈ sl, s.cap ≤ maxLen) (hseg : -9223372036854775808 ≤ seg ∧ seg ≤ 9223372036854775807) (hat : -9223372036854775808 ≤ at' ∧ at' ≤ 9223372036854775807) :
    CallP Tryz.prog n_berthmasterlaw05_JournalAltered [Sl.v l, .int .i64 seg, .int .i64 at', .int .u32 bits'.toNat] w (ret1 tB fun r w' => r = true ∧ ∃ S', Sub S S' ∧ St B w' S' []) := by
  have hm : maxLen = 9223372036854775807 := rfl
  have hll : sl.length = l.len := by have := hl.1; simpa using this
  have hlc : l.len ≤ l.cap := hl.2.1
  have hla := hls.len
  refine vc_berthmasterlaw05_JournalAltered _ _ _ _ _ _ ?_
  unfold F_berthmasterlaw05_JournalAltered
  refine (lives_ok hg h).mono1 ?_
  rintro r w1 ⟨rfl, S1, hS1, h1⟩
  refine ⟨fun hc => absurd hc (by simp), fun _ => ?_⟩
  refine (New_ok (room := 1048576) h1 (by omega)).mono2 ?_
  rintro p e w2 ⟨rfl, d, ow, rfl, h2, hD⟩
  refine v_join (fun r w' => w' = w2 ∧ r = decide (120 < l.len)) ?_ ⟨fun hc => absurd rfl hc, fun _ => ⟨rfl, by congr 1; apply propext; omega⟩⟩
  rintro r w' ⟨rfl, rfl⟩
  refine ⟨fun hc => ⟨rfl, S1, hS1, h2.dropL⟩, fun hlen => ?_⟩
  have hl120 : l.len ≤ 120 := by
    have : ¬ 120 < l.len := by simpa using hlen
    omega
  have hg1 := hg.mono hS1
  refine (Open_ok (fl := []) (nm := logN) h2 hD rfl rfl hg1 log_named rfl List.Pairwise.nil (by simp) (by simp) (by show 2 * 0 ≤ 1048576; omega) (by show 1048576 ≤ _; omega)).mono2 ?_
  rintro p e w3 ⟨rfl, j, S2, J2, D2, jow2, ow2, rfl, hS2, h3, hJ2, hD2, hrec, hnx, hjo, hdo, hfu, hrm, hemp⟩
  obtain ⟨hsg, hfl⟩ := hemp rfl
  have hJ2' : J2 = ⟨[], [], 1, false⟩ := by
    cases J2 with
    | mk a b c o => simp only at hsg hrec hnx hjo; subst hsg; subst hjo; rw [show b = [] from hrec, show c = 1 from hnx]
  subst hJ2'
  have hrm2 : D2.room = 1048576 := hrm
  have hg2 := hg1.mono hS2
  refine ⟨fun hc => absurd rfl hc, fun _ => ?_⟩
  refine loop_by (fun (x : Int) w' => ∃ S3, ∃ J D5 jow5 ow5, ∃ i : Nat, x = (i : Int) ∧ i ≤ l.len ∧ Sub S2 S3 ∧ St B w' S3 (jow5 ++ (ow5 ++ [])) ∧ JournO S3 j d logN J jow5 ∧ DiskO d D5 ow5 ∧ D5.room = 1048576 ∧ D5.fused = false ∧ LogSt logN (ls.take i) 0 J D5 ∧ small (ls.take i)) (fun x _ => l.len - x.toNat) ?_ ⟨S2, ⟨[], [], 1, false⟩, D2, jow2, ow2, 0, rfl, Nat.zero_le _, Sub.refl S2, h3, hJ2, hD2, hrm2, hfu, ⟨hdo, rfl, rfl, rfl, .inl ⟨rfl, rfl, rfl, hfl⟩⟩, by intro r hr; simp at hr⟩
  rintro Jc x w5 ⟨S3, J, D5, jow5, ow5, i, rfl, hil, hS3, h5, hJ, hD5, hr5, hf5, hL, hsm⟩ k
  have hSS3 : Sub S S3 := (hS1.trans hS2).trans hS3
  refine ⟨fun hc => ?_, fun hc => ?_⟩
  · have hi : i < l.len := by omega
    have hisl : i < sl.length := by omega
    have hils : i < ls.length := by omega
    have hei : IntKind.i64.wrap ((i : Int) + 1) = ((i + 1 : Nat) : Int) := by rw [IntWalk.i64_in _ (by omega)]; omega
    have htk : ls.take (i + 1) = ls.take i ++ [ls[i]] := List.take_succ_eq_append_getElem hils
    have hRi : (ls.take i).length = i := by rw [List.length_take]; omega
    refine v_ixs1 (t := tSl) (f := Sl.v) ((hl.mono hSS3).sh h5) (Sub.refl _) (by omega) (by omega) fun hl2 => ?_
    have hrb : RdB S sl[i] ls[i] := hls.get i hisl hils
    have hbl := hrb.len
    refine ⟨fun _ => ⟨rfl, S3, hSS3, h5.dropL.dropL⟩, fun h3000 => ?_⟩
    have h3000' : sl[i].len ≤ 3000 := by
      have : ¬ (3000 : Int) < (sl[i].len : Int) := h3000
      omega
    refine v_ixs1 (t := tSl) (f := Sl.v) ((hl.mono hSS3).sh h5) (Sub.refl _) (by omega) (by omega) fun hl3 => ?_
    have hsm1 : small (ls.take i ++ [ls[i]]) := fun r hr => by
      rcases List.mem_append.1 hr with hr | hr
      · exact hsm r hr
      · simp only [List.mem_singleton] at hr; subst hr; omega
    obtain ⟨Fs, Fm, g1, g2, Jm, init, f, z, fm, a1, a2, a3, a4, a5, a6, a7, a8, a9, a10, a11⟩ := append_step hL ls[i] hsm1 (by omega)
    have hszR := small_size hsm (by omega)
    obtain ⟨b1, b2, b3, b4, _⟩ := id hL
    have hcap : (sl[i]).cap ≤ maxLen := hcaps _ (List.getElem_mem hisl)
    refine (JAppend_ok h5 hJ hD5 b1 b2 (hg2.mono hS3) log_named (by omega) (by omega) (by rw [b3]; omega) a1 a2 a3 a4 a5 a6 a7 (hrb.mono hSS3) hcap (by omega) (by rw [a8, hr5]; omega)).mono2 ?_
    rintro n e w6 ⟨D6, J6, S6, jow6, ow6, hS6, h6, hJ6, hD6, hw6, hcase⟩
    obtain ⟨rfl, ho6, hfu6⟩ := nofail hf5 hw6
    rcases hcase with ⟨he10, _⟩ | ⟨_, _, rfl, hf6⟩
    · exact absurd he10 (by decide)
    refine ⟨fun hc => absurd rfl hc, fun _ => ?_⟩
    have hL6 := a11 D6 ho6 hf6
    rw [← htk] at hL6 hsm1
    rw [hei]
    exact k _ _ ⟨S6, _, D6, jow6, ow6, i + 1, rfl, by omega, hS3.trans hS6, h6, hJ6, hD6, hw6.1.trans hr5, hfu6, hL6, hsm1⟩ (by simp only [Int.toNat_natCast]; omega)
  · have hie : i = l.len := by omega
    subst hie
    have hlsn : ls.take l.len = ls := List.take_of_length_le (by omega)
    rw [hlsn] at hL hsm
    have hszls := small_size hsm (by omega)
    have h5' : St B w5 S3 (ow5 ++ (jow5 ++ [])) := h5.fit (fun a => by simp; omega)
    obtain ⟨b1, b2, b3, b4, hcase⟩ := id hL
    have hnames : ∃ cs : List Ch, Chain 1 cs ∧ recsC cs = ls ∧ D5.files.map Prod.fst = (cs.map Prod.fst).map (fileN logN) ∧ ((ls = [] ∧ J.segs = []) ∨ ∃ pre f rs sy, cs = pre ++ [(f, rs)] ∧ J.segs = pre.map segOf ++ [(f, sizeOfR rs)] ∧ D5.files = (pre.map fullF).map (fN logN) ++ (fileN logN f, ⟨segBytes rs, sy⟩) :: [] ∧ 0 < rs.length) := by
      rcases hcase with ⟨q1, _, q3, q4⟩ | ⟨pre, f, rs, sy, t, hR, hch, hf, hrs, hsegs, hfiles, ht, hs, hsy⟩
      · exact ⟨[], trivial, q1.symm, by rw [q4]; rfl, .inl ⟨q1, q3⟩⟩
      · refine ⟨pre ++ [(f, rs)], hch.snoc hf hrs, by rw [recsC_app, hR]; simp [recsC], ?_, .inr ⟨pre, f, rs, sy, rfl, by rw [hsegs, List.map_append]; rfl, by rw [hfiles, List.map_append]; rfl, hrs⟩⟩
        rw [hfiles]
        simp only [List.map_append, List.map_map]
        rfl
    obtain ⟨cs0, hch0, hrc0, hnm0, hcase0⟩ := hnames
    have hcl0 := hch0.count
    have hlen0 : D5.files.length = cs0.length := by
      have := congrArg List.length hnm0
      simpa using this
    have hcb0 : ∀ c ∈ cs0, c.1 < 200 := fun c hc => by have := hch0.bound c hc; rw [hrc0] at this; omega
    refine (Names_ok h5' hD5 b1 (fun p hp => ?_) (by rw [hrc0] at hcl0; omega)).mono1 ?_
    · have : p.1 ∈ D5.files.map Prod.fst := List.mem_map.2 ⟨p, hp, rfl⟩
      rw [hnm0] at this
      obtain ⟨n, hn, e⟩ := List.mem_map.1 this
      obtain ⟨c, hc, rfl⟩ := List.mem_map.1 hn
      rw [← e]
      exact fileN_named (by have := hcb0 c hc; omega) log_named
    rintro r7 w6 ⟨S6, hS6, h6, hr7, hc7⟩
    rw [hnm0, sortN_files logN _ hch0.sorted (fun n hn => by obtain ⟨c, hc, rfl⟩ := List.mem_map.1 hn; have := hcb0 c hc; omega)] at hr7
    have hr7l : r7.len = cs0.length := by have := hr7.1; simpa using this.symm
    have hSS6 : Sub S S6 := hSS3.trans hS6
    have hg6 := (hg2.mono hS3).mono hS6
    have h6' : St B w6 S6 (jow5 ++ (ow5 ++ [])) := h6.fit (fun a => by simp; omega)
    have hJ6 := hJ.mono hS6
    refine v_join (fun r w' => (r = true ∧ l.len = 0 ∧ St B w' S6 []) ∨ (r = false ∧ 0 < l.len ∧ ∃ D7 ow7, St B w' S6 (ow7 ++ []) ∧ DiskO d D7 ow7 ∧ D7.room = 1048576 ∧ D7.fused = false ∧ D7.off = false ∧ 0 < cs0.length ∧ D7.files = (cs0.map fullF).map (fN logN))) ?_ ?_
    · rintro r w7 (⟨rfl, hl0, h7⟩ | ⟨rfl, hl0, D7, ow7, h7, hD7, hr7r, hf7, ho7, hcpos, hfi7⟩)
      · exact ⟨fun _ => ⟨by simp [hl0], S6, hSS6, h7⟩, fun hc => absurd hc (by simp)⟩
      · refine ⟨fun hc => absurd hc (by simp), fun _ => ?_⟩
        rw [hr7l]
        refine (Pick_ok seg cs0.length hseg (by omega) (by rw [hrc0] at hcl0; omega) w7).mono1 ?_
        rintro r w8 ⟨⟨p, rfl, hp⟩, rfl⟩
        obtain ⟨pre, c, post, rfl, hpl⟩ : ∃ pre c post, cs0 = pre ++ c :: post ∧ pre.length = p := ⟨cs0.take p, cs0[p], cs0.drop (p + 1), by rw [← List.drop_eq_getElem_cons hp, List.take_append_drop], by rw [List.length_take]; omega⟩
        refine v_ixs1 (t := tS) (f := strV) (hr7.sh h7) (Sub.refl _) (by omega) (by omega) fun hl2 => ?_
        have hname : (((pre ++ c :: post).map Prod.fst).map (fileN logN))[((p : Nat) : Int).toNat] = fileN logN c.1 := by
          have : ((p : Nat) : Int).toNat = pre.length := by omega
          simp [this]
        rw [hname]
        obtain ⟨hchp, hcf, hcr⟩ := hch0.split
        obtain ⟨f, rs⟩ := c
        dsimp only at hcf hcr ⊢
        have hfi7' : D7.files = (pre.map fullF).map (fN logN) ++ (fileN logN f, ⟨segBytes rs, sizeOfR rs⟩) :: (post.map fullF).map (fN logN) := by rw [hfi7]; simp [fullF, fN]
        have hRlen : ls.length = (recsC pre).length + rs.length + (recsC post).length := by rw [← hrc0, recsC_app, recsC_cons]; simp; omega
        have hsz : sizeOfR ls = sizeOfR (recsC pre) + sizeOfR rs + sizeOfR (recsC post) := by rw [← hrc0, recsC_app, recsC_cons, sizeOfR_app, sizeOfR_app]; dsimp only; omega
        have hsmp : small (recsC pre) := fun r hr => hsm r (by rw [← hrc0, recsC_app]; exact List.mem_append_left _ hr)
        have hsmr : small rs := fun r hr => hsm r (by rw [← hrc0, recsC_app, recsC_cons]; exact List.mem_append_right _ (List.mem_append_left _ hr))
        have hdn : dNamed (fileN logN f) = true := fileN_named (by have := hcb0 (f, rs) (by simp); dsimp only at this; omega) log_named
        refine (DRead_ok h7 hD7 ho7 hdn hfi7' (by show (segBytes rs).length ≤ _; rw [segBytes_len]; omega)).mono2 ?_
        rintro r9 e w9 ⟨rfl, S9, hS9, h9, hr9, hc9⟩
        have hr9l : r9.len = sizeOfR rs := by have := hr9.len; dsimp only at this; rw [segBytes_len] at this; omega
        have h12 := sizeOfR_len rs
        have e8 : IntKind.i64.wrap ((8 : Int) * (r9.len : Int)) = ((8 * sizeOfR rs : Nat) : Int) := by rw [hr9l, IntWalk.i64_in _ (by omega)]; omega
        rw [e8]
        refine (Pick_ok at' (8 * sizeOfR rs) hat (by omega) (by omega) w9).mono1 ?_
        rintro r w10 ⟨⟨q, rfl, hq⟩, rfl⟩
        refine loop_by (fun (x : Bool × Int) w' => ∃ y D8 ow8, ∃ i : Nat, x.2 = (i : Int) ∧ i ≤ 32 ∧ St B w' S9 (ow8 ++ []) ∧ DiskO d D8 ow8 ∧ D8.room = 1048576 ∧ D8.fused = false ∧ D8.off = false ∧ D8.files = (pre.map fullF).map (fN logN) ++ (fileN logN f, ⟨y, sizeOfR rs⟩) :: (post.map fullF).map (fN logN) ∧ TurnI (segBytes rs) y q i (fun k => bits'.getLsbD k) x.1) (fun x _ => 32 - x.2.toNat) ?_ ⟨segBytes rs, D7, ow7, 0, rfl, by omega, h9, hD7, hr7r, hf7, ho7, hfi7', TurnI.start _ _ _⟩
        rintro Jc ⟨t, xi⟩ w11 ⟨y, D8, ow8, i, hxi, hi32, h11, hD8, hr8, hf8, ho8, hfi8, hT⟩ k2
        dsimp only at hxi hT ⊢
        subst hxi
        have hyl : y.length = sizeOfR rs := by rw [← hT.len, segBytes_len]
        have eq8 : IntKind.i64.wrap ((q : Int) + (i : Int)) = ((q + i : Nat) : Int) := by rw [IntWalk.i64_in _ (by omega)]; omega
        rw [eq8]
        refine v_join (fun r w' => w' = w11 ∧ (r = true → i < 32 ∧ q + i < 8 * sizeOfR rs)) ?_ ⟨fun hc => ⟨rfl, fun hd => ⟨by omega, by have := of_decide_eq_true hd; omega⟩⟩, fun _ => ⟨rfl, fun hc => absurd hc (by simp)⟩⟩
        rintro r w12 ⟨rfl, hr⟩
        refine ⟨fun hrt => ?_, fun hrf => ?_⟩
        · obtain ⟨hi, hqi⟩ := hr hrt
          have ei : IntKind.i64.wrap ((i : Int) + 1) = ((i + 1 : Nat) : Int) := by rw [IntWalk.i64_in _ (by omega)]; omega
          have eu : IntKind.u64.wrap (i : Int) = (i : Int) := IntWalk.u64_in _ (by omega)
          have em : Int.tmod ((q + i : Nat) : Int) 8 = (((q + i) % 8 : Nat) : Int) := by rw [Int.tmod_eq_emod_of_nonneg (by omega)]; omega
          have ed : Int.tdiv ((q + i : Nat) : Int) 8 = (((q + i) / 8 : Nat) : Int) := by rw [Int.tdiv_eq_ediv_of_nonneg (by omega)]; omega
          have eum : IntKind.u64.wrap (((q + i) % 8 : Nat) : Int) = (((q + i) % 8 : Nat) : Int) := IntWalk.u64_in _ (by omega)
          have eid : IntKind.i64.wrap (((q + i) / 8 : Nat) : Int) = (((q + i) / 8 : Nat) : Int) := IntWalk.i64_in _ (by omega)
          rw [ei, eu, em, ed, eum, eid, shrV32 _ _ (by omega), and1_iff, shl8 _ (by omega), BitVec.getLsbD_ushiftRight, Nat.add_zero]
          refine v_join (fun t' w' => ∃ y' D9 ow9, St B w' S9 (ow9 ++ []) ∧ DiskO d D9 ow9 ∧ D9.room = 1048576 ∧ D9.fused = false ∧ D9.off = false ∧ D9.files = (pre.map fullF).map (fN logN) ++ (fileN logN f, ⟨y', sizeOfR rs⟩) :: (post.map fullF).map (fN logN) ∧ TurnI (segBytes rs) y' q (i + 1) (fun k => bits'.getLsbD k) t') ?_ ?_
          · rintro t' w13 ⟨y', D9, ow9, h13, hD9, hr9', hf9, ho9, hfi9, hT9⟩
            exact k2 _ _ ⟨y', D9, ow9, i + 1, rfl, by omega, h13, hD9, hr9', hf9, ho9, hfi9, hT9⟩ (by dsimp only; omega)
          · refine ⟨by omega, fun hb => ⟨by omega, ?_⟩, fun hb => ⟨y, D8, ow8, h11, hD8, hr8, hf8, ho8, hfi8, hT.skip (by simpa using hb)⟩⟩
            refine (Turn_ok h11 hD8 hdn hfi8 (at' := (q + i) / 8) (c := bit8 ((q + i) % 8)) (by show _ < y.length; omega)).mono1 ?_
            rintro e w13 ⟨rfl, ow9, h13, hD9⟩
            refine ⟨fun hc => absurd rfl hc, fun _ => ⟨_, _, ow9, h13, hD9, hr8, hf8, ho8, rfl, hT.turn hb (by omega) (by omega) (by omega)⟩⟩
        · refine (Open_ok (fl := pre.map fullF ++ (f, ⟨y, sizeOfR rs⟩) :: post.map fullF) (nm := logN) h11 hD8 ho8 hf8 (hg6.mono hS9) log_named (by rw [hfi8]; simp [fN]) ?_ ?_ ?_ ?_ (by rw [hr8]; omega)).mono2 ?_
          · have := hch0.sorted
            simpa [fullF, List.map_map, Function.comp_def] using this
          · intro p hp
            have : p.1 ∈ (pre ++ (f, rs) :: post).map Prod.fst := by
              have := List.mem_map_of_mem (f := Prod.fst) hp
              simpa [fullF, List.map_map, Function.comp_def] using this
            obtain ⟨c, hc, e⟩ := List.mem_map.1 this
            have := hcb0 c hc
            omega
          · rw [hrc0] at hcl0
            simp only [List.length_append, List.length_cons, List.length_map] at hcl0 ⊢
            omega
          · have e : D8.files = (pre.map fullF ++ (f, (⟨y, sizeOfR rs⟩ : FM)) :: post.map fullF).map (fN logN) := by rw [hfi8]; simp [fN]
            rw [e, total_fN, sumLen_app, total_full, hr8]
            have : sumLen ((f, (⟨y, sizeOfR rs⟩ : FM)) :: post.map fullF) = y.length + sizeOfR (recsC post) := by rw [← total_full]; simp [sumLen]
            omega
          · rintro p e w12 ⟨rfl, j12, S12, J12, D12, jow12, ow12, rfl, hS12, h12', hJ12, hD12, hrec, hnx, hjo12, hdo12, hfu12, hrm12, _⟩
            refine ⟨fun hc => absurd rfl hc, fun _ => ?_⟩
            obtain ⟨u, hu, hul, hut⟩ : ∃ u, recov (pre.map fullF ++ (f, (⟨y, sizeOfR rs⟩ : FM)) :: post.map fullF) = ls.take u ∧ u ≤ ls.length ∧ (decide (u = ls.length) = !t) := by
              cases t with
              | true =>
                obtain ⟨k, hk, hre, hst⟩ := damaged_stops hsmr hT.len.symm (hT.near hi32) hT.some
                have := (recov_stop ⟨y, sizeOfR rs⟩ (post.map fullF) hst pre 1 f hchp hsmp hcf).1
                refine ⟨(recsC pre).length + k, ?_, by omega, by rw [decide_eq_false (by omega)]; rfl⟩
                rw [this]
                dsimp only
                rw [hre, ← hrc0, recsC_app, recsC_cons]
                dsimp only
                rw [List.take_length_add_append, List.take_append_of_le_length (by omega)]
              | false =>
                have hy := hT.none
                subst hy
                refine ⟨ls.length, ?_, Nat.le_refl _, by simp⟩
                rw [List.take_length]
                have e1 : pre.map fullF ++ (f, (⟨segBytes rs, sizeOfR rs⟩ : FM)) :: post.map fullF = (pre ++ (f, rs) :: post).map fullF := by simp [fullF]
                rw [e1]
                rcases List.eq_nil_or_concat (pre ++ (f, rs) :: post) with h0 | ⟨ini, c, hc⟩
                · simp at h0
                · rw [List.concat_eq_append] at hc
                  have hch1 := hch0
                  rw [hc] at hch1
                  have hr1 := hrc0
                  rw [hc] at hr1 ⊢
                  obtain ⟨k1, k2, k3⟩ := hch1.split
                  have hsmi : small (recsC ini) := fun r hr => hsm r (by rw [← hr1, recsC_app]; exact List.mem_append_left _ hr)
                  have hsmc : small c.2 := fun r hr => hsm r (by rw [← hr1, recsC_app, recsC_cons]; exact List.mem_append_right _ (List.mem_append_left _ hr))
                  have e2 : (ini ++ [c]).map fullF = ini.map fullF ++ [(c.1, (⟨segBytes c.2, sizeOfR c.2⟩ : FM))] := by simp [fullF]
                  rw [e2, (recov_chain _ ini 1 c.1 k1 hsmi k2).1]
                  dsimp only
                  rw [recs_full _ hsmc, ← hr1, recsC_app]
                  simp [recsC]
            rw [hu] at hrec
            have hul12 : J12.recs.length = u := by rw [hrec, List.length_take]; omega
            have hsm12 : small J12.recs := fun r hr => hsm r (by rw [hrec] at hr; exact List.mem_of_mem_take hr)
            refine (JAll_ok h12' hJ12 (by omega) (fun r hr => by have := hsm12 r hr; omega)).mono1 ?_
            rintro r13 w13 ⟨S13, ss, hS13, h13, hr13, hss⟩
            have hssl : ss.length = u := by rw [hss.len, hul12]
            have hr13l : r13.len = u := by have := hr13.1; rw [List.length_map, hssl] at this; omega
            have hSS13 : Sub S S13 := ((hSS6.trans hS9).trans hS12).trans hS13
            have hcutl : RdV S13 1 (slS l 0 (r13.len : Int) l.cap 1) ((sl.take u).map Sl.v) := by
              have := RdV.slice (i := 0) (j := (r13.len : Int)) (m := (l.cap : Int)) (hl.mono hSS13) (by omega) (by omega) (by omega) (by omega) (by omega)
              rw [show ((r13.len : Int).toNat - (0 : Int).toNat) * 1 = u by omega, show (0 : Int).toNat * 1 = 0 from rfl, List.drop_zero, ← List.map_take] at this
              exact this
            have hlsu : All2 (RdB S13) (sl.take u) (ls.take u) := (hls.take u).mono fun a b q => q.mono hSS13
            refine v_join (fun r w' => r = true ∧ ∃ S', Sub S S' ∧ St B w' S' []) (fun x w' hx => hx) ⟨fun _ => ?_, fun hc => absurd (show (r13.len : Int) ≤ l.len by omega) hc⟩
            refine ⟨by omega, by omega, by omega, by omega, ?_⟩
            refine (SameLists_ok (hr13.sh h13) (hcutl.sh h13) (hss.mono fun a b q => q.sh h13) (hlsu.mono fun a b q => q.sh h13) (by omega) (fun r hr => by have := hsm12 r hr; omega)).mono1 ?_
            rintro r14 w14 ⟨rfl, hs14⟩
            have h14 := h13.same hs14
            refine ⟨fun _ => ⟨?_, S13, hSS13, h14.dropL.dropL⟩, fun hc => absurd (by rw [hrec]; simp) (Bool.eq_false_iff.1 hc)⟩
            rw [← hut]
            have : (decide ((r13.len : Int) = (l.len : Int))) = decide (u = ls.length) := by
              apply decide_eq_decide.2
              omega
            rw [this]
            simp
    · rcases hcase0 with ⟨q1, q3⟩ | ⟨pre, f, rs, sy, rfl, hs9, hf10, hrs⟩
      · have hl0 : l.len = 0 := by have := congrArg List.length q1; simp only [List.length_nil] at this; omega
        refine (JSync0_ok h6' hJ6 b2 q3).mono1 ?_
        rintro e w7 ⟨rfl, rfl⟩
        refine ⟨fun hc => absurd rfl hc, fun _ => .inl ⟨decide_eq_true ?_, hl0, h6'.dropL.dropL⟩⟩
        rw [q1] at hrc0
        rw [hrc0] at hcl0
        simp only [List.length_nil] at hcl0
        omega
      · have hlp : (recsC (pre ++ [(f, rs)])).length = (recsC pre).length + rs.length := by rw [recsC_app]; simp [recsC]
        have hf200 := hcb0 (f, rs) (by simp)
        rw [hrc0] at hlp
        simp only [List.length_append, List.length_singleton] at hcl0 hr7l
        rw [hrc0] at hcl0
        refine (JSync_ok h6' hJ6 hD5 b1 b2 hg6 log_named (by rw [hs9]; simp; omega) hs9 (by dsimp only at hf200; omega) hf10).mono1 ?_
        rintro e w7 ⟨D8, J8, jow8, ow8, h8, hJ8, hD8, hw8, hJe, hf8⟩
        obtain ⟨rfl, ho8, hfu8⟩ := nofail hf5 hw8
        refine ⟨fun hc => absurd rfl hc, fun _ => .inr ⟨decide_eq_false (by omega), by omega, D8, ow8, h8.dropL, hD8, hw8.1.trans hr5, hfu8, ho8, by simp, ?_⟩⟩
        rw [if_pos rfl] at hf8
        rw [hf8]
        simp [fullF, fN, segBytes_len]
end
end Go.Proofs.YtccebpahnnfceaaGreatDoor
