/- THE ROW OF JournalAltered: for every input the law returns true, and each argument reads as it did. -/
import Derived.Test.YtccebpahnnfceaaGreatDoorRows
import Derived.Test.YtccebpahnnfceaaGreatDoorJAltL
import Derived.Test.YtccebpahnnfceaaGreatDoorVcArg
import Derived.ProofKit
import Derived.LaidMore
import Derived.OpenShut
import Derived.Stop.Joined
import Derived.Lib.LaidTab
import Derived.Stop.LaidErr
namespace Go.Proofs.YtccebpahnnfceaaGreatDoor
open Go.Vc
open Go.ChangeShapes Go.WideShapes Go.ChangeAt Go.RowKit
set_option linter.unusedVariables false
set_option linter.unusedSimpArgs false
theorem ownK : ownKnob Tryz.prog.godebug = none := by kernel_rfl
theorem laidOutT : laidOutB Tryz.prog = true := by kernel_rfl
noncomputable abbrev laidL : List (String × DataW Unit) := Rows.journalAlteredRow.laid
theorem gPow : Tryz.prog.globalNamed "internal/strconv.uint64pow10" = some 0 := by kernel_rfl
theorem door_met (os : Os) (args : Array Value) : laidMetH Tryz.prog laidL ((World.doorLaid Tryz.prog 400 os).forCall (fun _ _ => 0) ⟨#[], args, []⟩).memory :=
  laidMetH_of_parts3 (fuel := 8) (laidMet_of_run' 8 (by kernel_rfl) (by kernel_rfl)) (by kernel_rfl) (by kernel_rfl)
theorem tPow : (Tryz.prog.globals[0]?).map (·.type) = some 168 := by kernel_rfl
theorem glob_of {W : World} (h : laidMetH Tryz.prog laidL W) : Glob (hp W) := by
  rw [MakeChecks.laidMetH_plain _ _ _ (by kernel_rfl)] at h
  have h1 := laidMet.tail (laidMet.tail h)
  have ht : Lib.TabIs Tryz.prog W "internal/strconv.uint64pow10" .u64 Lib.pow10Tab := Lib.tabIs_of_head gPow tPow Tryz.underlying168 Tryz.underlying33 (by kernel_rfl) (by kernel_rfl) h1
  intro w hw
  unfold Lib.TabIs World.var? at ht ⊢
  rw [gPow] at ht ⊢
  simp only [Option.bind_some] at ht ⊢
  cases hg : W.heap[0]? with
  | none => rw [hg] at ht; cases ht
  | some o =>
    have := hw 0 o hg
    rw [hg] at ht
    have e : w.heap[0]? = some o := this
    rw [e]
    exact ht
set_option maxRecDepth 100000 in
theorem liftedA (os : Os) (started : os.Started) (H : Type) (enc : TypeId × Value → H) :
    ReturnsInHanded {} Tryz.checked os 3 .any (fun w args => (Rows.journalAlteredSpec.pre enc Tryz.prog Tryz.f3 [] false w args ∧ laidMetH Tryz.prog laidL w) ∧ sizedMet enc Tryz.prog Tryz.f3 (OpenSpec.ofChange Rows.journalAlteredSpec) false w args)
      (Rows.journalAlteredSpec.post enc Tryz.prog Tryz.f3 false true false false) := by
  refine returnsInHanded_of_change_and (C := Tryz.checked) (X := fun w _ => laidMetH Tryz.prog laidL w) (fun _ _ _ hh h => h.of_heap hh) ownK started (by kernel_rfl) Tryz.func3
    (ChangeSpec.witness_shaped (enc := enc) (C := Tryz.checked) (os := os) (X := fun w _ => laidMetH Tryz.prog laidL w) false (World.doorLaid Tryz.prog 400 os) #[.slice none 0 0, .int .i64 0, .int .i64 0, .int .u32 0] 8 rfl (World.shaped_of_RefB (by kernel_rfl) (by kernel_rfl)) (by kernel_rfl) (by kernel_rfl) (by kernel_rfl) (door_met os _)) ?_
  intro W base args ds gs before hval0 hW _ _ hL _
  have hval : ∀ (j : Nat) t v, Tryz.f3.params[j]? = some t → args[j]? = some v → Value.okWide Tryz.prog W .any base t v := hval0
  have hW' := hW
  obtain ⟨p, q, hA0, hV, rfl, hfz, hnd⟩ := hW
  have hA : DataW.TrodAll enc Tryz.prog W 0 (fun _ => true) true Tryz.f3.params.toList args.toList ds p := hA0
  rw [Tryz.params3] at hA hval
  obtain ⟨v0, v1, v2, v3, d0, d1, d2, d3, p0, p1, p2, p3, hargs, rfl, rfl, a0, a1, a2, a3⟩ := trodAll_four hA
  subst hargs
  obtain ⟨rfl, rfl⟩ := trodVars_none hV
  have hm : maxLen = 9223372036854775807 := rfl
  obtain ⟨x0, y0, z0, rfl⟩ := okWide_slice Tryz.underlying22 (hval 0 22 v0 rfl rfl)
  obtain ⟨sg, rfl, _, _, hwf1⟩ := open_int Tryz.underlying3 (hval 1 3 v1 rfl rfl) a1
  obtain ⟨att, rfl, _, _, hwf2⟩ := open_int Tryz.underlying3 (hval 2 3 v2 rfl rfl) a2
  obtain ⟨bt, rfl, _, _, hwf3⟩ := open_int Tryz.underlying23 (hval 3 23 v3 rfl rfl) a3
  clear hA0 hval0
  simp only [List.append_nil] at hW'
  obtain ⟨f0, b0⟩ := id a0
  obtain ⟨l, vs0, e0, c0, r0, g0⟩ := open_sl Tryz.underlying22 (by kernel_rfl) b0
  have e0' : Value.slice x0 y0 z0 = Sl.v l := by simpa [Value.cells] using e0
  obtain ⟨sl, rfl, hsl⟩ := list_of (f := Sl.v) (R := fun s => s.cap ≤ maxLen ∧ ∃ lb, RdB (hp W) s lb) vs0 fun v hv => by
    obtain ⟨n, y, hy⟩ := g0 v hv
    obtain ⟨s, us, es, cs, rs, gs⟩ := open_sl Tryz.underlying32 (by kernel_rfl) hy
    simp only [List.cons.injEq, and_true] at es
    obtain ⟨lb, rfl, _⟩ := list_of (f := bV) (R := fun _ => True) us fun u hu => by
      obtain ⟨n, y, hy⟩ := gs u hu
      obtain ⟨c, hc⟩ := open_u8 Tryz.underlying5 hy
      exact ⟨c, hc, trivial⟩
    exact ⟨s, es, cs, lb, rs⟩
  obtain ⟨ls, hls⟩ := all2_of sl fun s hs => (hsl s hs).2
  have hf1 : -9223372036854775808 ≤ sg ∧ sg ≤ 9223372036854775807 := by
    simp only [Lit.wf, IntKind.has, Bool.and_eq_true, decide_eq_true_eq] at hwf1
    exact ⟨hwf1.1, hwf1.2⟩
  have hf2 : -9223372036854775808 ≤ att ∧ att ≤ 9223372036854775807 := by
    simp only [Lit.wf, IntKind.has, Bool.and_eq_true, decide_eq_true_eq] at hwf2
    exact ⟨hwf2.1, hwf2.2⟩
  have hf3 : 0 ≤ bt ∧ bt ≤ 4294967295 := by
    simp only [Lit.wf, IntKind.has, Bool.and_eq_true, decide_eq_true_eq] at hwf3
    exact ⟨hwf3.1, hwf3.2⟩
  have hbt : bt = ((BitVec.ofNat 32 bt.toNat).toNat : Int) := by
    rw [BitVec.toNat_ofNat, Nat.mod_eq_of_lt (by omega)]; omega
  have key := JournalAltered_ok (seg := sg) (at' := att) (bits' := BitVec.ofNat 32 bt.toNat) (glob_of hL) (St.start W) r0 hls (fun s hs => (hsl s hs).1) hf1 hf2
  rw [← hbt] at key
  rw [← e0'] at key
  refine Calls.mono key ?_
  rintro e W' ⟨_, rfl, r, rfl, rfl, S', hS', hst⟩
  have hst' : St (W.os, W.output) W' (hp W) [] := ⟨hst.os, hst.out, hS'.trans hst.sh, by simp, List.nodup_nil⟩
  have hstay := Stays hst'
  have hlt := hW'.lt
  have hsame : ∀ x : MemPlace, x.block < W.heap.size → W.sameAt W' x := fun x hx => by
    cases x with
    | cell b o => exact World.cell?_of_block (w := W) (hstay b hx)
    | map b => exact hstay b hx
  have hb : ∀ x ∈ p0 ++ p1 ++ p2 ++ p3, x.block < W.heap.size := fun x hx => by simpa using hlt x hx
  have st : ∀ {t : TypeId} {v : Value} {dd : DataW H} {ps : List MemPlace}, DataW.Trod enc Tryz.prog W 0 (fun _ => true) true t v dd ps → Tryz.prog.readableRec t = true → t < Tryz.prog.types.size → (∀ x ∈ ps, x.block < W.heap.size) → DataW.Trod enc Tryz.prog W' 0 (fun b => decide (b < W.heap.size)) true t v dd ps := fun h hr hrow hlt =>
    WideElems.Trod_stays laidOutT hr hrow h (fun x hx => hsame x (hlt x hx)) (fun x hx => by simpa using hlt x hx)
  refine ⟨_, rfl, _, _, _, [], p0 ++ (p1 ++ (p2 ++ p3)), [], hW', ?_, ?_, rfl, ⟨hst'.os, hst'.out, fun i hi => ?_⟩, fun h => by cases h⟩
  · exact trodAll_mk1 (shut_bool Tryz.underlying4 _)
  · rw [Tryz.params3]
    exact trodAll_mk4 (st a0 (by kernel_rfl) (of_decide_eq_true (by kernel_rfl)) fun x hx => hb x (by simp [hx])) (st a1 (by kernel_rfl) (of_decide_eq_true (by kernel_rfl)) fun x hx => hb x (by simp [hx])) (st a2 (by kernel_rfl) (of_decide_eq_true (by kernel_rfl)) fun x hx => hb x (by simp [hx])) (st a3 (by kernel_rfl) (of_decide_eq_true (by kernel_rfl)) fun x hx => hb x (by simp [hx]))
  · rw [hstay i hi]
    clear hbt hf1 hf2 hf3 hwf1 hwf2 hwf3 key
    split <;> simp_all
theorem journalAltered_row : Rows.JournalAlteredSaid :=
  OpenClaim.holds_of_wide 3 Tryz.f3 rfl rfl rfl rfl rfl rfl rfl ⟨rfl, rfl, rfl, rfl, rfl⟩ rfl rfl rfl rfl rfl (by kernel_rfl) Tryz.func3 (by kernel_rfl)
    (of_decide_eq_true (by kernel_rfl)) (by unfold Func.isWrapper; first | (rw [if_pos (by decide +kernel)]; kernel_rfl) | (rw [if_neg (by decide +kernel)]; exact ⟨rfl, rfl⟩))
    (fun os started H enc _ => liftedA os started H enc)
end Go.Proofs.YtccebpahnnfceaaGreatDoor
