/- journal.Open; the verifier's helpers. -/
import Derived.Test.YtccebpahnnfceaaGreatDoorJRecov
namespace Go.Proofs.YtccebpahnnfceaaGreatDoor
open Go.Vc
set_option linter.unusedVariables false
set_option linter.unusedSimpArgs false
section
variable {B : Bs} {w : World} {S : Hp} {F jow ow L : Own} {j d : Nat} {nm : ByteArray} {D : DM} {fl : List (Nat × FM)}
theorem jnamed_ok (h : St B w S L) (hn : jNamed nm) : CallP Tryz.prog n_journal_named [.string nm, .int .i64 8] w (ret1 tB fun r w' => St B w' S L ∧ r = true) := by
  obtain ⟨h1, h2, h3⟩ := hn
  refine vc_journal_named _ _ _ _ ?_
  unfold F_journal_named
  refine v_join (fun r w' => w' = w ∧ r = false) ?_ ⟨fun hc => absurd hc (by omega), fun _ => ⟨rfl, by rw [decide_eq_false_iff_not]; omega⟩⟩
  rintro r w' ⟨rfl, rfl⟩
  refine ⟨fun hc => absurd hc (by simp), fun _ => ?_⟩
  refine v_str2b h Tryz.underlying9 Tryz.underlying32 Tryz.underlying5 (by unfold maxLen; omega) fun b cap C fz w2 hh hr => ?_
  have hlen := hr.len
  refine loop_to (fun i (x : Int) w' => x = (i : Int) ∧ w' = w2) nm.size ?_ ?_ (Nat.zero_le _) ⟨rfl, rfl⟩
  · rintro J i x w' hi ⟨rfl, rfl⟩ k
    refine ⟨fun _ => ?_, fun hc => absurd (show (i : Int) < nm.size by omega) hc⟩
    refine RdB.at hr (Sub.refl _) (by omega) (by show (i : Int) < nm.size; omega) ?_
    have hil : i < (strL nm).length := by rw [← sz_L]; exact hi
    have hd : 97 ≤ ((strL nm).getD i 0).toNat ∧ ((strL nm).getD i 0).toNat ≤ 122 := by
      have := List.all_eq_true.1 h3 ((strL nm)[i]) (List.getElem_mem hil)
      simp only [decide_eq_true_eq] at this
      simpa [List.getD, List.getElem?_eq_getElem hil] using this
    have hii : ((i : Int)).toNat = i := rfl
    rw [hii]
    refine v_join (fun r v => v = w' ∧ r = false) ?_ ⟨fun hc => absurd hc (by omega), fun _ => ⟨rfl, by rw [decide_eq_false_iff_not]; omega⟩⟩
    rintro r v ⟨rfl, rfl⟩
    exact ⟨fun hc => absurd hc (by simp), fun _ => k _ _ ⟨IntWalk.i64_in _ (by omega), rfl⟩⟩
  · rintro J x w' ⟨rfl, rfl⟩
    exact ⟨fun hc => absurd hc (by show ¬ ((nm.size : Int) < nm.size); omega), fun _ => ⟨hh.tail, rfl⟩⟩
theorem Open_ok (h : St B w S (ow ++ F)) (hD : DiskO d D ow) (hoff : D.off = false) (hfu : D.fused = false) (hg : Glob S) (hnm : jNamed nm)
    (hfl : D.files = fl.map (fN nm)) (hsort : (fl.map Prod.fst).Pairwise (· < ·)) (hlt : ∀ p ∈ fl, p.1 < 100000000000) (hlen : fl.length ≤ 100000) (hroom : 2 * total D.files ≤ D.room) (hrm : D.room ≤ 1073741824) :
    CallP Tryz.prog n_journal_Open [.pointer (pt d), .string nm] w (ret2 tP (tI .i64) fun p e w' => e = 0 ∧ ∃ j S' J' D' jow' ow', p = pt j ∧ Sub S S' ∧ St B w' S' (jow' ++ (ow' ++ F)) ∧ JournO S' j d nm J' jow' ∧ DiskO d D' ow' ∧ J'.recs = recov fl ∧ J'.next = recNext fl ∧ J'.off = false ∧ D'.off = false ∧ D'.fused = false ∧ D'.room = D.room ∧ (fl = [] → J'.segs = [] ∧ D'.files = [])) := by
  refine vc_journal_Open _ _ _ _ ?_
  unfold F_journal_Open
  refine v_join (fun _ w' => w' = w) ?_ ?_
  · rintro _ w' rfl
    refine (jnamed_ok h hnm).mono1 ?_
    rintro r w1 ⟨h1, rfl⟩
    refine ⟨fun hc => absurd hc (by simp), fun _ => ?_⟩
    refine (On_ok h1 hD).mono1 ?_
    rintro r w2 ⟨rfl, rfl⟩
    refine ⟨fun hc => absurd hc (by rw [hoff]; simp), fun _ => ?_⟩
    refine v_al h1 fun b w3 h3 => ?_
    have hJ : JournO S b d nm ⟨[], [], 1, false⟩ [(b, .cells (jC d nm ⟨none, 0, 0⟩ ⟨none, 0, 0⟩ 1 false) T_journal_Journal)] := ⟨⟨none, 0, 0⟩, ⟨none, 0, 0⟩, [], [], [], ⟨OwnSl.nil _ _, OwnSl.nil _ _, trivial⟩, rfl⟩
    refine (recover_ok (jow := [(b, .cells (jC d nm ⟨none, 0, 0⟩ ⟨none, 0, 0⟩ 1 false) T_journal_Journal)]) h3 hJ hD hoff hfu hg hnm hfl hsort hlt hlen hroom hrm).mono1 ?_
    rintro e w4 ⟨rfl, S', J', D', jow', ow', hS', h4, hJ', hD', hr, hn, ho⟩
    exact ⟨fun hc => absurd rfl hc, fun _ => ⟨rfl, b, S', J', D', jow', ow', rfl, hS', h4, hJ', hD', hr, hn, ho⟩⟩
  · refine (On_ok h hD).mono1 ?_
    rintro r w2 ⟨rfl, rfl⟩
    exact ⟨fun hc => absurd hc (by rw [hoff]; simp), fun _ => rfl⟩
/-! ### The verifier's helpers -/
theorem Pick_ok (x : Int) (n : Nat) (hx : -9223372036854775808 ≤ x ∧ x ≤ 9223372036854775807) (hn : 1 ≤ n) (hn2 : n ≤ 1000000000) (w : World) : CallP Tryz.prog n_berthmasterkit_Pick [.int .i64 x, .int .i64 n] w (ret1 (tI .i64) fun r w' => (∃ p : Nat, r = p ∧ p < n) ∧ w' = w) := by
  refine vc_berthmasterkit_Pick _ _ _ _ ?_
  unfold F_berthmasterkit_Pick
  refine ⟨fun hc => absurd hc (by omega), fun _ => ⟨by omega, by omega, ?_, rfl⟩⟩
  have hpos : (0 : Int) < n := by omega
  have h1 : Int.tmod x n < n := Int.tmod_lt_of_pos x hpos
  have h2 : -(n : Int) < Int.tmod x n := Int.lt_tmod_of_pos x hpos
  rw [IntWalk.i64_in _ (by omega)]
  have h3 : 0 ≤ Int.tmod (Int.tmod x n + n) n := Int.tmod_nonneg _ (by omega)
  have h4 : Int.tmod (Int.tmod x n + n) n < n := Int.tmod_lt_of_pos _ hpos
  exact ⟨(Int.tmod (Int.tmod x n + n) n).toNat, by omega, by omega⟩
theorem SameBytes_ok {a b : Sl} {la lb : List UInt8} (ha : RdB (hp w) a la) (hb : RdB (hp w) b lb) (hl : la.length ≤ 1000000000) : CallP Tryz.prog n_berthmasterkit_SameBytes [Sl.v a, Sl.v b] w (ret1 tB fun r w' => r = decide (la = lb) ∧ SameW w w') := by
  have hal := ha.len
  have hbl := hb.len
  refine vc_berthmasterkit_SameBytes _ _ _ _ ?_
  unfold F_berthmasterkit_SameBytes
  refine ⟨fun hc => ⟨(decide_eq_false (fun q => hc (by rw [← hal, ← hbl, q]))).symm, SameW.refl w⟩, fun hc => ?_⟩
  have hc' : (a.len : Int) = b.len := by simpa using hc
  refine loop_to (fun i (x : Int) w' => x = (i : Int) ∧ SameW w w' ∧ la.take i = lb.take i) a.len ?_ ?_ (Nat.zero_le _) ⟨rfl, SameW.refl w, by simp⟩
  · rintro J i x w' hi ⟨rfl, hs, ht⟩ k
    refine ⟨fun _ => ?_, fun hc => absurd (show (i : Int) < a.len by omega) hc⟩
    have hs' : SameW w (dr w') := hs.trans (SameW.dr w')
    refine RdB.at ha (by rw [hs'.hp]; exact Sub.refl _) (by omega) (by omega) ?_
    refine RdB.at hb (by rw [hs'.hp]; exact Sub.refl _) (by omega) (by omega) ?_
    have hia : i < la.length := by omega
    have hib : i < lb.length := by omega
    have hii : ((i : Int)).toNat = i := rfl
    rw [hii]
    have e1 : la.getD i 0 = la[i] := by simp [List.getD, List.getElem?_eq_getElem hia]
    have e2 : lb.getD i 0 = lb[i] := by simp [List.getD, List.getElem?_eq_getElem hib]
    rw [e1, e2]
    refine ⟨fun hne => ⟨(decide_eq_false (fun q => hne (by simp only [q]))).symm, hs'⟩, fun heq => k _ _ ⟨IntWalk.i64_in _ (by omega), hs', ?_⟩⟩
    have : la[i] = lb[i] := by
      have : ((la[i].toNat : Nat) : Int) = (lb[i].toNat : Nat) := by simpa using heq
      exact UInt8.toNat_inj.1 (by omega)
    rw [List.take_succ_eq_append_getElem hia, List.take_succ_eq_append_getElem hib, ht, this]
  · rintro J x w' ⟨rfl, hs, ht⟩
    rw [List.take_of_length_le (by omega), List.take_of_length_le (by omega)] at ht
    exact ⟨fun hc => absurd hc (by omega), fun _ => ⟨(decide_eq_true ht).symm, hs⟩⟩
theorem SameTexts_ok {a b : Sl} {la lb : List ByteArray} (ha : RdV (hp w) 1 a (la.map strV)) (hb : RdV (hp w) 1 b (lb.map strV)) (hl : la.length ≤ 1000000000) : CallP Tryz.prog n_berthmasterkit_SameTexts [Sl.v a, Sl.v b] w (ret1 tB fun r w' => r = decide (la = lb) ∧ SameW w w') := by
  have hal : la.length = a.len := by have := ha.1; simpa using this
  have hbl : lb.length = b.len := by have := hb.1; simpa using this
  refine vc_berthmasterkit_SameTexts _ _ _ _ ?_
  unfold F_berthmasterkit_SameTexts
  refine ⟨fun hc => ⟨(decide_eq_false (fun q => hc (by rw [← hal, ← hbl, q]))).symm, SameW.refl w⟩, fun hc => ?_⟩
  have hc' : (a.len : Int) = b.len := by simpa using hc
  refine loop_to (fun i (x : Int) w' => x = (i : Int) ∧ SameW w w' ∧ la.take i = lb.take i) a.len ?_ ?_ (Nat.zero_le _) ⟨rfl, SameW.refl w, by simp⟩
  · rintro J i x w' hi ⟨rfl, hs, ht⟩ k
    refine ⟨fun _ => ?_, fun hc => absurd (show (i : Int) < a.len by omega) hc⟩
    have hs' : SameW w (dr w') := hs.trans (SameW.dr w')
    refine v_ixs1 (t := tS) ha (by rw [hs'.hp]; exact Sub.refl _) (by omega) (by omega) fun hia => ?_
    refine v_ixs1 (t := tS) hb (by rw [hs'.hp]; exact Sub.refl _) (by omega) (by omega) fun hib => ?_
    have hia' : i < la.length := hia
    have hib' : i < lb.length := hib
    have e1 : la[(i : Int).toNat] = la[i] := rfl
    have e2 : lb[(i : Int).toNat] = lb[i] := rfl
    rw [e1, e2]
    refine ⟨fun hne => ⟨(decide_eq_false (fun q => hne (by simp only [q]))).symm, hs'⟩, fun heq => k _ _ ⟨IntWalk.i64_in _ (by omega), hs', ?_⟩⟩
    have : la[i] = lb[i] := by simpa using heq
    rw [List.take_succ_eq_append_getElem hia', List.take_succ_eq_append_getElem hib', ht, this]
  · rintro J x w' ⟨rfl, hs, ht⟩
    rw [List.take_of_length_le (by omega), List.take_of_length_le (by omega)] at ht
    exact ⟨fun hc => absurd hc (by omega), fun _ => ⟨(decide_eq_true ht).symm, hs⟩⟩
theorem SameLists_ok {a b : Sl} {sa sb : List Sl} {la lb : List (List UInt8)} (ha : RdV (hp w) 1 a (sa.map Sl.v)) (hb : RdV (hp w) 1 b (sb.map Sl.v)) (hA : All2 (RdB (hp w)) sa la) (hB : All2 (RdB (hp w)) sb lb) (hl : la.length ≤ 1000000000) (hll : ∀ r ∈ la, r.length ≤ 1000000000) :
    CallP Tryz.prog n_berthmasterkit_SameLists [Sl.v a, Sl.v b] w (ret1 tB fun r w' => r = decide (la = lb) ∧ SameW w w') := by
  have hal : sa.length = a.len := by have := ha.1; simpa using this
  have hbl : sb.length = b.len := by have := hb.1; simpa using this
  have hA1 := hA.len
  have hB1 := hB.len
  refine vc_berthmasterkit_SameLists _ _ _ _ ?_
  unfold F_berthmasterkit_SameLists
  refine ⟨fun hc => ⟨(decide_eq_false (fun q => hc (by rw [← hal, ← hbl, hA1, hB1, q]))).symm, SameW.refl w⟩, fun hc => ?_⟩
  have hc' : (a.len : Int) = b.len := by simpa using hc
  refine loop_to (fun i (x : Int) w' => x = (i : Int) ∧ SameW w w' ∧ la.take i = lb.take i) a.len ?_ ?_ (Nat.zero_le _) ⟨rfl, SameW.refl w, by simp⟩
  · rintro J i x w' hi ⟨rfl, hs, ht⟩ k
    refine ⟨fun _ => ?_, fun hc => absurd (show (i : Int) < a.len by omega) hc⟩
    have hs' : SameW w (dr w') := hs.trans (SameW.dr w')
    refine v_ixs1 (t := tSl) ha (by rw [hs'.hp]; exact Sub.refl _) (by omega) (by omega) fun hia => ?_
    refine v_ixs1 (t := tSl) hb (by rw [hs'.hp]; exact Sub.refl _) (by omega) (by omega) fun hib => ?_
    have hia' : i < sa.length := hia
    have hib' : i < sb.length := hib
    have hia2 : i < la.length := by omega
    have hib2 : i < lb.length := by omega
    have r1 := hA.get i hia' hia2
    have r2 := hB.get i hib' hib2
    have e1 : sa[(i : Int).toNat] = sa[i] := rfl
    have e2 : sb[(i : Int).toNat] = sb[i] := rfl
    rw [e1, e2]
    refine (SameBytes_ok (w := dr w') (by rw [hs'.hp]; exact r1) (by rw [hs'.hp]; exact r2) (hll _ (List.getElem_mem hia2))).mono1 ?_
    rintro r w2 ⟨rfl, hs2⟩
    refine ⟨fun hne => ⟨?_, hs'.trans hs2⟩, fun heq => k _ _ ⟨IntWalk.i64_in _ (by omega), hs'.trans hs2, ?_⟩⟩
    · have hne' : la[i] ≠ lb[i] := by simpa using hne
      exact (decide_eq_false (fun q => hne' (by simp only [q]))).symm
    · have : la[i] = lb[i] := by simpa using heq
      rw [List.take_succ_eq_append_getElem hia2, List.take_succ_eq_append_getElem hib2, ht, this]
  · rintro J x w' ⟨rfl, hs, ht⟩
    rw [List.take_of_length_le (by omega), List.take_of_length_le (by omega)] at ht
    exact ⟨fun hc => absurd hc (by omega), fun _ => ⟨(decide_eq_true ht).symm, hs⟩⟩
theorem fine_ok {a : Sl} {ks : List Int} (ha : RdV (hp w) 1 a (ks.map intV)) (hl : a.len ≤ 9223372036854775807) : CallP Tryz.prog n_berthmasterlaw05_fine [Sl.v a] w (ret1 tB fun r w' => r = decide (∀ k ∈ ks, 0 ≤ k) ∧ w' = w) := by
  have hal : ks.length = a.len := by have := ha.1; simpa using this
  refine vc_berthmasterlaw05_fine _ _ _ ?_
  unfold F_berthmasterlaw05_fine
  refine loop_to (fun i (x : Int) w' => x = (i : Int) ∧ w' = w ∧ ∀ k ∈ ks.take i, 0 ≤ k) a.len ?_ ?_ (Nat.zero_le _) ⟨rfl, rfl, by simp⟩
  · rintro J i x w' hi ⟨rfl, rfl, ht⟩ k
    refine ⟨fun _ => ?_, fun hc => absurd (show (i : Int) < a.len by omega) hc⟩
    refine v_ixs1 (t := tI .i64) (f := intV) ha (Sub.refl _) (by omega) (by omega) fun hia => ?_
    have hia' : i < ks.length := hia
    have e1 : ks[(i : Int).toNat] = ks[i] := rfl
    rw [e1]
    refine ⟨fun hneg => ⟨?_, rfl⟩, fun hneg => k _ _ ⟨IntWalk.i64_in _ (by omega), rfl, fun q hq => ?_⟩⟩
    · refine (decide_eq_false fun q => ?_).symm
      have := q _ (List.getElem_mem hia')
      omega
    · rw [List.take_succ_eq_append_getElem hia'] at hq
      rcases List.mem_append.1 hq with hq | hq
      · exact ht q hq
      · simp only [List.mem_singleton] at hq; subst hq; omega
  · rintro J x w' ⟨rfl, rfl, ht⟩
    rw [List.take_of_length_le (by omega)] at ht
    exact ⟨fun hc => absurd hc (by omega), fun _ => ⟨(decide_eq_true ht).symm, rfl⟩⟩
end
end Go.Proofs.YtccebpahnnfceaaGreatDoor
