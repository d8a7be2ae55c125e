/- The chapter's first example. -/
import Derived.Test.YtccebpahnnfceaaGreatDoorJOpen
import Derived.Test.YtccebpahnnfceaaGreatDoorJCrashP
namespace Go.Proofs.YtccebpahnnfceaaGreatDoor
open Go.Vc
set_option linter.unusedVariables false
set_option linter.unusedSimpArgs false
def logN : ByteArray := ⟨#[108, 111, 103]⟩
theorem log_named : jNamed logN := ⟨by decide, by decide, by decide⟩
theorem v_conv_same {P : Program} {T E E' : TypeId} {B : Bs} {w : World} {S : Hp} {L : Own} {b n m : Nat} {c : Array Value} {K : Sl → World → Prop} (hT : P.underlying T = some (.slice E)) (hE : P.underlying E = some (.int .u8)) (h : St B w S ((b, .cells c E') :: L))
    (k : ∀ w', St B w' S ((b, .cells c E' (c.size, c.size + 1)) :: L) → K ⟨some ⟨b, 0, none⟩, n, m⟩ w') : RunV P (convert T T (Sl.v ⟨some ⟨b, 0, none⟩, n, m⟩)) w (ret1 tSl K) := by
  have hb : w.heap[b]? = some (.cells c E') := h.head.1
  have hsh : w.shape? b = some (E', c.size) := by unfold World.shape?; rw [hb]
  refine ⟨_, w.freeze ⟨b, c.size, none⟩ 1, ?_, ⟨some ⟨b, 0, none⟩, n, m⟩, rfl, k _ ?_⟩
  · simp [convert, run_underlying hT, run_underlying hE, Sl.v, markStringish, hsh]
    rfl
  · refine h.change (i := 0) rfl rfl rfl fun x => ?_
    unfold World.freeze
    rw [if_neg (by decide)]
    show (w.heap.modify b _)[x]? = _
    rw [Array.getElem?_modify]
    by_cases hx : b = x
    · subst hx
      rw [if_pos rfl, if_pos rfl, hb]
      rfl
    · rw [if_neg hx, if_neg (fun q => hx q.symm)]
      rfl
section
variable {B : Bs} {w : World} {S : Hp} {L : Own}
theorem file_one : fileN logN 1 = (⟨#[108, 111, 103, 45, 48, 48, 48, 48, 48, 48, 48, 48, 48, 48, 48, 49]⟩ : ByteArray) := by
  apply strL_inj
  rw [fileN_L logN (by omega)]
  decide
theorem lives_ok (hg : Glob S) (h : St B w S L) : CallP Tryz.prog n_berthmasterlaw05_lives [] w (ret1 tB fun r w' => r = true ∧ ∃ S', Sub S S' ∧ St B w' S' L) := by
  refine vc_berthmasterlaw05_lives _ _ ?_
  unfold F_berthmasterlaw05_lives
  refine (New_ok (room := 10000) h (by omega)).mono2 ?_
  rintro p e w1 ⟨rfl, d, ow, rfl, h1, hD⟩
  refine (Open_ok (fl := []) (nm := logN) h1 hD rfl rfl hg log_named rfl List.Pairwise.nil (by simp) (by simp) (by show 2 * 0 ≤ 10000; omega) (by show 10000 ≤ _; omega)).mono2 ?_
  rintro p e w2 ⟨rfl, j, S2, J2, D2, jow2, ow2, rfl, hS2, h2, hJ2, hD2, hrec, hnx, hjo, hdo, hfu, hrm, hemp⟩
  obtain ⟨hsg, hfl⟩ := hemp rfl
  have hJ2' : J2 = ⟨[], [], 1, false⟩ := by
    cases J2 with
    | mk a b c o => simp only at hsg hrec hnx hjo; subst hsg; subst hjo; rw [show b = [] from hrec, show c = 1 from hnx]
  subst hJ2'
  have hg2 := hg.mono hS2
  have hrm2 : D2.room = 10000 := hrm
  refine v_join (fun r w' => r = false ∧ w' = w2) ?_ ⟨fun hc => absurd rfl hc, fun _ => ⟨rfl, rfl⟩⟩
  rintro r w' ⟨rfl, rfl⟩
  refine ⟨fun hc => absurd hc (by simp), fun _ => v_al h2 fun b3 w3 h3 => ?_⟩
  refine v_conv_same Tryz.underlying32 Tryz.underlying5 h3 fun w3 h3 => ?_
  obtain ⟨S3, hS3, hb3, h3'⟩ := h3.shareH
  have hra : RdB S3 ⟨some ⟨b3, 0, none⟩, 1, 1⟩ [97] := ⟨rfl, Nat.le_refl _, fun _ => ⟨b3, 0, rfl, fun i v hi => by
    unfold cellH; rw [hb3, Nat.zero_add]
    cases i with
    | zero => exact hi
    | succ i => simp at hi⟩⟩
  have hm : maxLen = 9223372036854775807 := rfl
  refine (JAppend_ok (Fs := []) (Fm := [(fileN logN 1, ⟨[], 0⟩)]) (g1 := []) (g2 := []) (Jm := ⟨[(1, 0)], [], 1, false⟩) (init := []) (f := 1) (z := 0) (fm := ⟨[], 0⟩) h3' (hJ2.mono hS3) hD2 hdo rfl (hg2.mono hS3) log_named (by show 1 < _; omega) (by simp) (by simp) (.inl ⟨rfl, hfl.symm⟩) (fun _ => by rw [hfl]; simp) (.inr ⟨.inl rfl, rfl, rfl⟩) rfl (by omega) (by omega) rfl hra (by rw [hm]; show 1 ≤ _; omega) (by simp) (by rw [hrm2]; decide)).mono2 ?_
  rintro n e w4 ⟨D4, J4, S4, jow4, ow4, hS4, h4, hJ4, hD4, hw4, hcase⟩
  obtain ⟨rfl, ho4, hfu4⟩ := nofail hfu hw4
  rcases hcase with ⟨he, _⟩ | ⟨_, rfl, rfl, hf4⟩
  · exact absurd he (by decide)
  have hrm4 : D4.room = 10000 := hw4.1.trans hrm2
  refine v_al h4 fun b5 w5 h5 => ?_
  refine v_conv_same Tryz.underlying32 Tryz.underlying5 h5 fun w5 h5 => ?_
  obtain ⟨S5, hS5, hb5, h5'⟩ := h5.shareH
  have hrb : RdB S5 ⟨some ⟨b5, 0, none⟩, 1, 1⟩ [98] := ⟨rfl, Nat.le_refl _, fun _ => ⟨b5, 0, rfl, fun i v hi => by
    unfold cellH; rw [hb5, Nat.zero_add]
    cases i with
    | zero => exact hi
    | succ i => simp at hi⟩⟩
  have hg5 := ((hg2.mono hS3).mono hS4).mono hS5
  have hnn : ¬ Need ⟨[] ++ [(1, 0 + (([97] : List UInt8).length + 12))], [] ++ [[97]], 1 + 1, false⟩ := by
    rintro (q | ⟨i, g, z, q, hz⟩)
    · exact absurd q (by simp)
    · have := (List.append_inj' q rfl).2
      simp only [List.cons.injEq, Prod.mk.injEq, List.length_singleton] at this
      omega
  refine (JAppend_ok (Fs := _) (Fm := D4.files) (g1 := []) (g2 := []) (Jm := ⟨[] ++ [(1, 0 + (([97] : List UInt8).length + 12))], [] ++ [[97]], 1 + 1, false⟩) (init := []) (f := 1) (z := 13) (fm := ⟨[] ++ encFrame 1 [97], 0⟩) h5' (hJ4.mono hS5) hD4 ho4 rfl hg5 log_named (by show 1 + 1 < _; omega) (by simp) (by simp) (.inr ⟨[], 1, 13, [], [], ⟨[] ++ encFrame 1 [97], 0⟩, rfl, by omega, hf4, rfl⟩) (fun q => absurd q hnn) (.inl ⟨hnn, rfl, rfl⟩) rfl (by omega) (by omega) hf4 hrb (by rw [hm]; show 1 ≤ _; omega) (by simp) (by rw [hrm4, hf4]; simp [total, encFrame_len])).mono2 ?_
  rintro n e w6 ⟨D6, J6, S6, jow6, ow6, hS6, h6, hJ6, hD6, hw6, hcase⟩
  obtain ⟨rfl, ho6, hfu6⟩ := nofail hfu4 hw6
  rcases hcase with ⟨he, _⟩ | ⟨_, rfl, rfl, hf6⟩
  · exact absurd he (by decide)
  refine v_join (fun r w' => r = true ∧ ∃ S', Sub S S' ∧ St B w' S' L) (fun x w' hx => hx) ⟨fun _ => ⟨fun _ => ⟨fun _ => ⟨fun _ => ?_, fun hc => absurd rfl hc⟩, fun hc => absurd rfl hc⟩, fun hc => absurd rfl hc⟩, fun hc => absurd rfl hc⟩
  refine (JNext_ok h6 hJ6).mono1 ?_
  rintro r w7 ⟨rfl, rfl⟩
  refine ⟨fun _ => ?_, fun hc => absurd rfl hc⟩
  have h6' : St B w7 S6 (ow6 ++ (jow6 ++ L)) := h6.fit (fun a => by simp; omega)
  refine (Names_ok h6' hD6 ho6 (fun p hp => ?_) (by rw [hf6]; simp)).mono1 ?_
  · rw [hf6] at hp
    simp at hp
    subst hp
    exact fileN_named (by omega) log_named
  · rintro r w8 ⟨S8, hS8, h8, hr8, _⟩
    have hnames : sortN (D6.files.map Prod.fst) = [fileN logN 1] := by
      rw [hf6]
      exact sortN_files logN [1] (by simp) (by simp)
    rw [hnames] at hr8
    refine v_al h8 fun b9 w9 h9 => ?_
    have hr9 : RdV (hp w9) 1 ⟨some ⟨b9, 0, none⟩, 1, 1⟩ ([fileN logN 1].map strV) := by
      rw [file_one]
      exact (OwnSl.new T_string 1 1 b9 [.string _] rfl (by decide)).rd (F := ow6 ++ (jow6 ++ L)) h9
    refine (SameTexts_ok (hr8.sh h9) hr9 (by simp)).mono1 ?_
    rintro r w10 ⟨rfl, hs⟩
    refine ⟨by simp, S8, ?_, ((h9.same hs).tail.dropL).dropL⟩
    exact ((((hS2.trans hS3).trans hS4).trans hS5).trans hS6).trans hS8
end
end Go.Proofs.YtccebpahnnfceaaGreatDoor
