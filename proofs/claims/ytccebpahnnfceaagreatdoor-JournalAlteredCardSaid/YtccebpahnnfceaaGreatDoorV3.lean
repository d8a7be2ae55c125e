/- Verification conditions of functions. Written by vcgen.py. -/
import Derived.Test.YtccebpahnnfceaaGreatDoorVcT
namespace Go.Proofs.YtccebpahnnfceaaGreatDoor
open Go.Vc
set_option linter.unusedVariables false
set_option maxRecDepth 100000
/-- berthmaster/journal.Open -/
def F_journal_Open (d : Option Addr) (name : ByteArray) (w : World) (Q : Option Addr → Int → World → Prop) : Prop :=
  JoinP (α := Unit) (fun vj vw => CallP Tryz.prog n_journal_named [.string name, .int .i64 (8)] vw (ret1 tB (fun r vw_1 => (((!r) = true) → Q (none : Option Addr) (2 : Int) vw_1) ∧
  (((!r) = false) → CallP Tryz.prog n_disk_Disk_On [.pointer d] vw_1 (ret1 tB (fun r_1 vw_2 => (((!r_1) = true) → Q (none : Option Addr) (10 : Int) vw_2) ∧
  (((!r_1) = false) → al vw_2 [.pointer ((⟨d, name, (⟨none, 0, 0⟩ : Sl), (⟨none, 0, 0⟩ : Sl), (1 : Int), false⟩ : S_journal_Journal).f_d), .string ((⟨d, name, (⟨none, 0, 0⟩ : Sl), (⟨none, 0, 0⟩ : Sl), (1 : Int), false⟩ : S_journal_Journal).f_name), .slice ((⟨d, name, (⟨none, 0, 0⟩ : Sl), (⟨none, 0, 0⟩ : Sl), (1 : Int), false⟩ : S_journal_Journal).f_l).a ((⟨d, name, (⟨none, 0, 0⟩ : Sl), (⟨none, 0, 0⟩ : Sl), (1 : Int), false⟩ : S_journal_Journal).f_l).len ((⟨d, name, (⟨none, 0, 0⟩ : Sl), (⟨none, 0, 0⟩ : Sl), (1 : Int), false⟩ : S_journal_Journal).f_l).cap, .slice ((⟨d, name, (⟨none, 0, 0⟩ : Sl), (⟨none, 0, 0⟩ : Sl), (1 : Int), false⟩ : S_journal_Journal).f_records).a ((⟨d, name, (⟨none, 0, 0⟩ : Sl), (⟨none, 0, 0⟩ : Sl), (1 : Int), false⟩ : S_journal_Journal).f_records).len ((⟨d, name, (⟨none, 0, 0⟩ : Sl), (⟨none, 0, 0⟩ : Sl), (1 : Int), false⟩ : S_journal_Journal).f_records).cap, .int .u64 ((⟨d, name, (⟨none, 0, 0⟩ : Sl), (⟨none, 0, 0⟩ : Sl), (1 : Int), false⟩ : S_journal_Journal).f_next), .bool ((⟨d, name, (⟨none, 0, 0⟩ : Sl), (⟨none, 0, 0⟩ : Sl), (1 : Int), false⟩ : S_journal_Journal).f_off)] T_journal_Journal (fun b vw_3 => CallP Tryz.prog n_journal_Journal_recover [.pointer (some ⟨b, 0, none⟩ : Option Addr)] vw_3 (ret1 (tI .i64) (fun r_2 vw_4 => ((r_2 ≠ (0 : Int)) → Q (none : Option Addr) r_2 vw_4) ∧
  ((¬ (r_2 ≠ (0 : Int))) → Q (some ⟨b, 0, none⟩ : Option Addr) (0 : Int) vw_4)))))))))))
  (fun vk => CallP Tryz.prog n_disk_Disk_On [.pointer d] w (ret1 tB (fun r_3 vw_5 => (((!r_3) = true) → JoinP (α := Bool) (fun vj_1 vw_6 => ((vj_1 = true) → Q (none : Option Addr) (1 : Int) vw_6) ∧
  ((vj_1 = false) → vk () vw_6))
  (fun vk_1 => ((d.isNone = true) → vk_1 true vw_5) ∧
  ((d.isNone = false) → CallP Tryz.prog n_disk_Disk_Sync [.pointer d, .string (⟨#[120]⟩ : ByteArray)] vw_5 (ret1 (tI .i64) (fun r_4 vw_7 => vk_1 (decide (r_4 = (1 : Int))) vw_7))))) ∧
  (((!r_3) = false) → vk () vw_5))))
theorem vc_journal_Open (d : Option Addr) (name : ByteArray) (w : World) (Q : Option Addr → Int → World → Prop) (h : F_journal_Open d name w Q) : CallP Tryz.prog n_journal_Open [.pointer d, .string name] w (ret2 tP (tI .i64) Q) := by
  unfold F_journal_Open at h
  refine CallP.of_body 34 Tryz.func7 rfl Tryz.ntmps7 rfl ?_
  refine WC.seq ?_
  refine WC.region ?_
  refine WL.pure (W0 rfl) rfl (Pu.assign rfl rfl) ?_
  refine WL.pure (W0 rfl) rfl (Pu.assign rfl rfl) ?_
  refine WL.nil ?_
  refine Lf.thenC ?_
  obtain ⟨vk, h2, h⟩ := h
  refine WC.cut (α := Unit) (k := vk) (fun vj => [(0, .pointer d), (1, .string name)]) (fun vj vw h => ?_) ?_
  · replace h := h2 _ _ h
    clear h2
    refine WC.seq ?_
    refine WC.seq ?_
    refine WC.region ?_
    refine WL.pure (W0 rfl) rfl (Pu.move rfl rfl) ?_
    refine WL.call (W0 rfl) rfl (fun xa hxa => run_call (fs := []) (cs := []) (vs := [.string name, .int .i64 (8)]) rfl rfl rfl Tryz.func24 rfl rfl xa hxa _) h ?_
    rintro _ vw_1 ⟨r, rfl, h⟩
    refine WL.pure (W0 rfl) rfl (Pu.not rfl rfl) ?_
    refine WL.nil ?_
    refine Lf.thenC ?_
    refine WC.cond rfl (fun hc => ?_) (fun hc => ?_)
    · replace h := h.1 hc
      refine WC.seq ?_
      refine WC.region ?_
      refine WL.pure (W0 rfl) rfl (Pu.assign rfl rfl) ?_
      refine WL.pure (W0 rfl) rfl (Pu.assign rfl rfl) ?_
      refine WL.nil ?_
      refine Lf.thenC ?_
      refine WC.ret ?_
      exact Lf.ret2 rfl rfl rfl ⟨_, _, rfl, h⟩
    · replace h := h.2 hc
      refine WC.skip ?_
      refine Lf.thenC ?_
      refine WC.seq ?_
      refine WC.seq ?_
      refine WC.region ?_
      refine WL.pure (W0 rfl) rfl (Pu.move rfl rfl) ?_
      refine WL.call (W0 rfl) rfl (fun xa hxa => run_call (fs := []) (cs := []) (vs := [.pointer d]) rfl rfl rfl Tryz.func22 rfl rfl xa hxa _) h ?_
      rintro _ vw_2 ⟨r_1, rfl, h⟩
      refine WL.pure (W0 rfl) rfl (Pu.not rfl rfl) ?_
      refine WL.nil ?_
      refine Lf.thenC ?_
      refine WC.cond rfl (fun hc => ?_) (fun hc => ?_)
      · replace h := h.1 hc
        refine WC.seq ?_
        refine WC.region ?_
        refine WL.pure (W0 rfl) rfl (Pu.assign rfl rfl) ?_
        refine WL.pure (W0 rfl) rfl (Pu.assign rfl rfl) ?_
        refine WL.nil ?_
        refine Lf.thenC ?_
        refine WC.ret ?_
        exact Lf.ret2 rfl rfl rfl ⟨_, _, rfl, h⟩
      · replace h := h.2 hc
        refine WC.skip ?_
        refine Lf.thenC ?_
        refine WC.seq ?_
        refine WC.region ?_
        refine WL.pure (W0 rfl) rfl (Pu.move rfl rfl) ?_
        refine WL.pure (W0 rfl) rfl (Pu.move rfl rfl) ?_
        refine WL.pure (W0 rfl) rfl (Pu.build (vs := [(0, .pointer d), (1, .string name), (4, .int .u64 (1))]) (v := ty_journal_Journal.val (⟨d, name, (⟨none, 0, 0⟩ : Sl), (⟨none, 0, 0⟩ : Sl), (1 : Int), false⟩ : S_journal_Journal)) rfl rfl (fun _ => by kernel_rfl)) ?_
        refine WL.q (W0 rfl) rfl (Rq.box (cs := [.pointer ((⟨d, name, (⟨none, 0, 0⟩ : Sl), (⟨none, 0, 0⟩ : Sl), (1 : Int), false⟩ : S_journal_Journal).f_d), .string ((⟨d, name, (⟨none, 0, 0⟩ : Sl), (⟨none, 0, 0⟩ : Sl), (1 : Int), false⟩ : S_journal_Journal).f_name), .slice ((⟨d, name, (⟨none, 0, 0⟩ : Sl), (⟨none, 0, 0⟩ : Sl), (1 : Int), false⟩ : S_journal_Journal).f_l).a ((⟨d, name, (⟨none, 0, 0⟩ : Sl), (⟨none, 0, 0⟩ : Sl), (1 : Int), false⟩ : S_journal_Journal).f_l).len ((⟨d, name, (⟨none, 0, 0⟩ : Sl), (⟨none, 0, 0⟩ : Sl), (1 : Int), false⟩ : S_journal_Journal).f_l).cap, .slice ((⟨d, name, (⟨none, 0, 0⟩ : Sl), (⟨none, 0, 0⟩ : Sl), (1 : Int), false⟩ : S_journal_Journal).f_records).a ((⟨d, name, (⟨none, 0, 0⟩ : Sl), (⟨none, 0, 0⟩ : Sl), (1 : Int), false⟩ : S_journal_Journal).f_records).len ((⟨d, name, (⟨none, 0, 0⟩ : Sl), (⟨none, 0, 0⟩ : Sl), (1 : Int), false⟩ : S_journal_Journal).f_records).cap, .int .u64 ((⟨d, name, (⟨none, 0, 0⟩ : Sl), (⟨none, 0, 0⟩ : Sl), (1 : Int), false⟩ : S_journal_Journal).f_next), .bool ((⟨d, name, (⟨none, 0, 0⟩ : Sl), (⟨none, 0, 0⟩ : Sl), (1 : Int), false⟩ : S_journal_Journal).f_off)]) rfl rfl rfl h) ?_
        rintro _ vw_3 ⟨b, rfl, h⟩
        refine WL.pure (W0 rfl) rfl (Pu.assign rfl rfl) ?_
        refine WL.nil ?_
        refine Lf.thenC ?_
        refine WC.seq ?_
        refine WC.seq ?_
        refine WC.region ?_
        refine WL.pure (W0 rfl) rfl (Pu.move rfl rfl) ?_
        refine WL.call (W0 rfl) rfl (fun xa hxa => run_call (fs := []) (cs := []) (vs := [.pointer (some ⟨b, 0, none⟩ : Option Addr)]) rfl rfl rfl Tryz.func25 rfl rfl xa hxa _) h ?_
        rintro _ vw_4 ⟨r_2, rfl, h⟩
        refine WL.pure (W0 rfl) rfl (Pu.assign rfl rfl) ?_
        refine WL.nil ?_
        refine Lf.thenC ?_
        refine WC.seq ?_
        refine WC.region ?_
        refine WL.pure (W0 rfl) rfl (Pu.move rfl rfl) ?_
        refine WL.pure (W0 rfl) rfl (Pu.neq rfl rfl rfl) ?_
        refine WL.nil ?_
        refine Lf.thenC ?_
        refine WC.condD rfl (fun hc => ?_) (fun hc => ?_)
        · replace h := h.1 hc
          refine WC.seq ?_
          refine WC.region ?_
          refine WL.pure (W0 rfl) rfl (Pu.move rfl rfl) ?_
          refine WL.pure (W0 rfl) rfl (Pu.assign rfl rfl) ?_
          refine WL.pure (W0 rfl) rfl (Pu.assign rfl rfl) ?_
          refine WL.nil ?_
          refine Lf.thenC ?_
          refine WC.ret ?_
          exact Lf.ret2 rfl rfl rfl ⟨_, _, rfl, h⟩
        · replace h := h.2 hc
          refine WC.skip ?_
          refine Lf.thenC ?_
          refine WC.seq ?_
          refine WC.region ?_
          refine WL.pure (W0 rfl) rfl (Pu.move rfl rfl) ?_
          refine WL.pure (W0 rfl) rfl (Pu.assign rfl rfl) ?_
          refine WL.pure (W0 rfl) rfl (Pu.assign rfl rfl) ?_
          refine WL.nil ?_
          refine Lf.thenC ?_
          refine WC.ret ?_
          exact Lf.ret2 rfl rfl rfl ⟨_, _, rfl, h⟩
  · clear h2
    refine WC.seq ?_
    refine WC.region ?_
    refine WL.pure (W0 rfl) rfl (Pu.move rfl rfl) ?_
    refine WL.call (W0 rfl) rfl (fun xa hxa => run_call (fs := []) (cs := []) (vs := [.pointer d]) rfl rfl rfl Tryz.func22 rfl rfl xa hxa _) h ?_
    rintro _ vw_5 ⟨r_3, rfl, h⟩
    refine WL.pure (W0 rfl) rfl (Pu.not rfl rfl) ?_
    refine WL.nil ?_
    refine Lf.thenC ?_
    refine WC.cond rfl (fun hc => ?_) (fun hc => ?_)
    · replace h := h.1 hc
      obtain ⟨vk_1, h2, h⟩ := h
      refine WC.cut (α := Bool) (k := vk_1) (fun vj_1 => [(17, .bool vj_1), (0, .pointer d), (1, .string name)]) (fun vj_1 vw_6 h => ?_) ?_
      · replace h := h2 _ _ h
        clear h2
        refine WC.cond rfl (fun hc => ?_) (fun hc => ?_)
        · replace h := h.1 hc
          refine WC.seq ?_
          refine WC.region ?_
          refine WL.pure (W0 rfl) rfl (Pu.assign rfl rfl) ?_
          refine WL.pure (W0 rfl) rfl (Pu.assign rfl rfl) ?_
          refine WL.nil ?_
          refine Lf.thenC ?_
          refine WC.ret ?_
          exact Lf.ret2 rfl rfl rfl ⟨_, _, rfl, h⟩
        · replace h := h.2 hc
          refine WC.skip ?_
          exact Lf.joinA () (by exact ⟨rfl, rfl, trivial⟩) h
      · clear h2
        refine WC.region ?_
        refine WL.pure (W0 rfl) rfl (Pu.move rfl rfl) ?_
        refine WL.pure (W0 rfl) rfl (Pu.pnil rfl Tryz.underlying25 rfl) ?_
        refine WL.pure (W0 rfl) rfl (Pu.move rfl rfl) ?_
        refine WL.bool (t := 13) rfl (fun hc => ?_) (fun hc => ?_)
        · replace h := h.1 hc
          refine WL.unwanted (t := 13) rfl rfl rfl rfl rfl rfl ?_
          refine WL.unwanted (t := 13) rfl rfl rfl rfl rfl rfl ?_
          refine WL.unwanted (t := 13) rfl rfl rfl rfl rfl rfl ?_
          refine WL.pure (W0 rfl) rfl (Pu.pickT rfl rfl rfl) ?_
          refine WL.nil ?_
          exact Lf.joinA true (by exact ⟨rfl, rfl, rfl, trivial⟩) h
        · replace h := h.2 hc
          refine WL.pure (W1 (t := 13) rfl rfl rfl rfl) rfl (Pu.move rfl rfl) ?_
          refine WL.call (W1 (t := 13) rfl rfl rfl rfl) rfl (fun xa hxa => run_call (fs := []) (cs := []) (vs := [.pointer d, .string (⟨#[120]⟩ : ByteArray)]) rfl rfl rfl Tryz.func23 rfl rfl xa hxa _) h ?_
          rintro _ vw_7 ⟨r_4, rfl, h⟩
          refine WL.pure (W1 (t := 13) rfl rfl rfl rfl) rfl (Pu.eql rfl rfl rfl) ?_
          refine WL.pure (W0 rfl) rfl (Pu.pickF rfl rfl rfl) ?_
          refine WL.nil ?_
          exact Lf.joinA (decide (r_4 = (1 : Int))) (by exact ⟨rfl, rfl, rfl, trivial⟩) h
    · replace h := h.2 hc
      refine WC.skip ?_
      exact Lf.joinA () (by exact ⟨rfl, rfl, trivial⟩) h
/-- (*berthmaster/journal.Journal).recover -/
def F_journal_Journal_recover (vj : Option Addr) (w : World) (Q : Int → World → Prop) : Prop :=
  nz vj (fun b q => ld tP w b (q + 0) (fun v => CallP Tryz.prog n_disk_Disk_Names [.pointer v] w (ret1 tSl (fun r vw => LoopP (α := Sl × Int) (fun vi vw_1 vJ => ((vi.2 < (r.len : Int)) → JoinP (α := Sl) (fun vj_1 vw_2 => vJ (vj_1, (IntKind.i64.wrap (vi.2 + (1 : Int)))) vw_2)
  (fun vk => ixs r vi.2 (fun b_1 q_1 => ld tS vw_1 b_1 (q_1 + (vi.2).toNat * 1) (fun v_1 => CallP Tryz.prog n_journal_Journal_cut [.pointer vj] vw_1 (ret1 tS (fun r_1 vw_3 => ((v_1 = r_1) → nz vj (fun b_2 q_2 => ld tP vw_3 b_2 (q_2 + 0) (fun v_2 => CallP Tryz.prog n_disk_Disk_Remove [.pointer v_2, .string v_1] vw_3 (ret1 (tI .i64) (fun r_2 vw_4 => ((r_2 ≠ (0 : Int)) → Q r_2 vw_4) ∧
  ((¬ (r_2 ≠ (0 : Int))) → vk vi.1 vw_4)))))) ∧
  ((¬ (v_1 = r_1)) → CallP Tryz.prog n_journal_Journal_number [.pointer vj, .string v_1] vw_3 (ret2 (tI .u64) tB (fun r_3 r_4 vw_5 => ((r_4 = true) → al vw_5 [.int .u64 r_3] T_uint64 (fun b_3 vw_6 => RunV Tryz.prog (Builtin.append_ #[T_sl_uint64, T_sl_uint64] T_sl_uint64 #[Sl.v vi.1, Sl.v (⟨some ⟨b_3, 0, none⟩, 1, 1⟩ : Sl)]) vw_6 (ret1 tSl (fun v_3 vw_7 => vk v_3 vw_7)))) ∧
  ((r_4 = false) → vk vi.1 vw_5)))))))))) ∧
  ((¬ (vi.2 < (r.len : Int))) → CallP Tryz.prog n_slices_Sort_uint64_uint64 [Sl.v vi.1] vw_1 (ret0 (fun vw_8 => JoinP (α := Int) (fun vj_2 vw_9 => 0 ≤ (if (vi.1.len : Int) < vj_2 then (vi.1.len : Int) else vj_2) ∧ (if (vi.1.len : Int) < vj_2 then (vi.1.len : Int) else vj_2) ≤ (vi.1.len : Int) ∧ (vi.1.len : Int) ≤ (vi.1.cap : Int) ∧ (vi.1.cap : Int) ≤ (vi.1.cap : Int) ∧ LoopP (α := Int) (fun vi_1 vw_10 vJ_1 => ((vi_1 < ((slS vi.1 (if (vi.1.len : Int) < vj_2 then (vi.1.len : Int) else vj_2) (vi.1.len : Int) (vi.1.cap : Int) 1).len : Int)) → ixs (slS vi.1 (if (vi.1.len : Int) < vj_2 then (vi.1.len : Int) else vj_2) (vi.1.len : Int) (vi.1.cap : Int) 1) vi_1 (fun b_4 q_3 => ld (tI .u64) vw_10 b_4 (q_3 + (vi_1).toNat * 1) (fun v_4 => nz vj (fun b_5 q_4 => ld tP (dr vw_10) b_5 (q_4 + 0) (fun v_5 => CallP Tryz.prog n_journal_Journal_file [.pointer vj, .int .u64 v_4] (dr vw_10) (ret1 tS (fun r_5 vw_11 => (CellsAt vw_11 b_5 (q_4 + 0) (Ty.cells tP v_5)) ∧ CallP Tryz.prog n_disk_Disk_Remove [.pointer v_5, .string r_5] vw_11 (ret1 (tI .i64) (fun r_6 vw_12 => ((r_6 ≠ (0 : Int)) → Q r_6 vw_12) ∧
  ((¬ (r_6 ≠ (0 : Int))) → vJ_1 (IntKind.i64.wrap (vi_1 + (1 : Int))) vw_12)))))))))) ∧
  ((¬ (vi_1 < ((slS vi.1 (if (vi.1.len : Int) < vj_2 then (vi.1.len : Int) else vj_2) (vi.1.len : Int) (vi.1.cap : Int) 1).len : Int))) → Q (0 : Int) vw_10)) (0 : Int) vw_9)
  (fun vk_1 => LoopP (α := Int × Int) (fun vi_2 vw_13 vJ_2 => ((vi_2.2 < (vi.1.len : Int)) → ixs vi.1 vi_2.2 (fun b_6 q_5 => ld (tI .u64) vw_13 b_6 (q_5 + (vi_2.2).toNat * 1) (fun v_6 => JoinP (α := Unit) (fun vj_3 vw_14 => nz vj (fun b_7 q_6 => ld tP (dr vw_14) b_7 (q_6 + 0) (fun v_7 => CallP Tryz.prog n_journal_Journal_file [.pointer vj, .int .u64 v_6] (dr vw_14) (ret1 tS (fun r_7 vw_15 => (CellsAt vw_15 b_7 (q_6 + 0) (Ty.cells tP v_7)) ∧ CallP Tryz.prog n_disk_Disk_Read [.pointer v_7, .string r_7] vw_15 (ret2 tSl (tI .i64) (fun r_8 r_9 vw_16 => ((r_9 ≠ (0 : Int)) → Q r_9 vw_16) ∧
  ((¬ (r_9 ≠ (0 : Int))) → CallP Tryz.prog n_journal_recordsOf [Sl.v r_8] vw_16 (ret2 tSl (tI .i64) (fun r_10 r_11 vw_17 => nz vj (fun b_8 q_7 => ld tSl vw_17 b_8 (q_7 + 3) (fun v_8 => RunV Tryz.prog (Builtin.append_ #[T_sl_sl_uint8, T_sl_sl_uint8] T_sl_sl_uint8 #[Sl.v v_8, Sl.v r_10]) vw_17 (ret1 tSl (fun v_9 vw_18 => nz vj (fun b_9 q_8 => st tSl vw_18 b_9 (q_8 + 3) v_9 (fun vw_19 => nz vj (fun b_10 q_9 => ld (tI .u64) vw_19 b_10 (q_9 + 4) (fun v_10 => nz vj (fun b_11 q_10 => st (tI .u64) vw_19 b_11 (q_10 + 4) (IntKind.u64.wrap (v_10 + (IntKind.u64.wrap (r_10.len : Int)))) (fun vw_20 => nz vj (fun b_12 q_11 => ld tSl vw_20 b_12 (q_11 + 2) (fun v_11 => al vw_20 [.int .u64 ((⟨v_6, r_11⟩ : S_journal_segment).f_first), .int .i64 ((⟨v_6, r_11⟩ : S_journal_segment).f_size)] T_journal_segment (fun b_13 vw_21 => RunV Tryz.prog (Builtin.append_ #[T_sl_journal_segment, T_sl_journal_segment] T_sl_journal_segment #[Sl.v v_11, Sl.v (⟨some ⟨b_13, 0, none⟩, 1, 1⟩ : Sl)]) vw_21 (ret1 tSl (fun v_12 vw_22 => nz vj (fun b_14 q_12 => st tSl vw_22 b_14 (q_12 + 2) v_12 (fun vw_23 => JoinP (α := Unit) (fun vj_4 vw_24 => vk_1 (IntKind.i64.wrap (vi_2.2 + (1 : Int))) vw_24)
  (fun vk_3 => ((r_11 < (r_8.len : Int)) → 0 ≤ (0 : Int) ∧ (0 : Int) ≤ r_11 ∧ r_11 ≤ (r_8.cap : Int) ∧ (r_8.cap : Int) ≤ (r_8.cap : Int) ∧ CallP Tryz.prog n_journal_Journal_recut [.pointer vj, .int .u64 v_6, Sl.v (slS r_8 (0 : Int) r_11 (r_8.cap : Int) 1)] vw_23 (ret1 (tI .i64) (fun r_12 vw_25 => ((r_12 ≠ (0 : Int)) → Q r_12 vw_25) ∧
  ((¬ (r_12 ≠ (0 : Int))) → vk_3 () vw_25)))) ∧
  ((¬ (r_11 < (r_8.len : Int))) → JoinP (α := Bool) (fun vj_5 vw_26 => ((vj_5 = true) → vJ_2 (vi_2.1, (IntKind.i64.wrap (vi_2.2 + (1 : Int)))) vw_26) ∧
  ((vj_5 = false) → vk_3 () vw_26))
  (fun vk_4 => (((IntKind.i64.wrap (vi_2.2 + (1 : Int))) < (vi.1.len : Int)) → ixs vi.1 (IntKind.i64.wrap (vi_2.2 + (1 : Int))) (fun b_15 q_13 => ld (tI .u64) (dr vw_23) b_15 (q_13 + ((IntKind.i64.wrap (vi_2.2 + (1 : Int)))).toNat * 1) (fun v_13 => nz vj (fun b_16 q_14 => ld (tI .u64) (dr vw_23) b_16 (q_14 + 4) (fun v_14 => vk_4 (decide (v_13 = v_14)) (dr vw_23)))))) ∧
  ((¬ ((IntKind.i64.wrap (vi_2.2 + (1 : Int))) < (vi.1.len : Int))) → vk_4 false (dr vw_23))))))))))))))))))))))))))))))))
  (fun vk_2 => ((vi_2.2 = (0 : Int)) → nz vj (fun b_17 q_15 => st (tI .u64) vw_13 b_17 (q_15 + 4) v_6 (fun vw_27 => vk_2 () vw_27))) ∧
  ((¬ (vi_2.2 = (0 : Int))) → vk_2 () vw_13))))) ∧
  ((¬ (vi_2.2 < (vi.1.len : Int))) → vk_1 vi_2.1 vw_13)) ((vi.1.len : Int), (0 : Int)) vw_8))))) ((⟨none, 0, 0⟩ : Sl), (0 : Int)) vw))))
theorem vc_journal_Journal_recover (vj : Option Addr) (w : World) (Q : Int → World → Prop) (h : F_journal_Journal_recover vj w Q) : CallP Tryz.prog n_journal_Journal_recover [.pointer vj] w (ret1 (tI .i64) Q) := by
  unfold F_journal_Journal_recover at h
  refine CallP.of_body 180 Tryz.func25 rfl Tryz.ntmps25 rfl ?_
  refine WC.seq ?_
  refine WC.region ?_
  refine WL.pure (W0 rfl) rfl (Pu.assign rfl rfl) ?_
  refine WL.nil ?_
  refine Lf.thenC ?_
  refine WC.scope ?_
  refine WC.seq ?_
  refine WC.region ?_
  refine WL.pure (W0 rfl) rfl (Pu.assign rfl rfl) ?_
  refine WL.nil ?_
  refine Lf.thenC ?_
  refine WC.seq ?_
  refine WC.seq ?_
  refine WC.region ?_
  refine WL.pure (W0 rfl) rfl (Pu.move rfl rfl) ?_
  obtain ⟨b, q, hp, h⟩ := h
  refine WL.pure (W0 rfl) rfl (Pu.nilCheck rfl (by exact pe hp)) ?_
  refine WL.pure (W0 rfl) rfl (Pu.fieldAddr 0 rfl Tryz.underlying62 rfl rfl nz_25 rfl) ?_
  obtain ⟨v, hl, h⟩ := h
  refine WL.val (W0 rfl) rfl (fun xa hxa => Rd.load ok_25 rfl rfl xa hxa _ hl) ?_
  refine WL.call (W0 rfl) rfl (fun xa hxa => run_call (fs := []) (cs := []) (vs := [.pointer v]) rfl rfl rfl Tryz.func9 rfl rfl xa hxa _) h ?_
  rintro _ vw ⟨r, rfl, h⟩
  refine WL.pure (W0 rfl) rfl (Pu.len rfl Tryz.underlying36 rfl) ?_
  refine WL.pure (W0 rfl) rfl (Pu.move rfl rfl) ?_
  refine WL.nil ?_
  refine Lf.thenC ?_
  refine WC.block ?_
  refine WC.loop (α := Sl × Int) (fun vi => [(3, Sl.v vi.1), (26, .int .i64 vi.2), (0, .pointer vj), (24, Sl.v r), (25, .int .i64 (r.len : Int))]) ((⟨none, 0, 0⟩ : Sl), (0 : Int)) (by exact ⟨rfl, rfl, rfl, rfl, rfl, trivial⟩) h (fun vJ vi vw_1 h => ?_)
  refine WC.seq ?_
  refine WC.region ?_
  refine WL.pure (W0 rfl) rfl (Pu.lss rfl rfl rfl) ?_
  refine WL.nil ?_
  refine Lf.thenC ?_
  refine WC.seq ?_
  refine WC.condD rfl (fun hc => ?_) (fun hc => ?_)
  · replace h := h.1 hc
    refine WC.skip ?_
    refine Lf.thenC ?_
    obtain ⟨vk, h2, h⟩ := h
    refine WC.cut (α := Sl) (k := vk) (fun vj_1 => [(3, Sl.v vj_1), (0, .pointer vj), (24, Sl.v r), (25, .int .i64 (r.len : Int)), (26, .int .i64 vi.2)]) (fun vj_1 vw_2 h => ?_) ?_
    · replace h := h2 _ _ h
      clear h2
      refine WC.region ?_
      refine WL.pure (W0 rfl) rfl (Pu.add rfl rfl rfl) ?_
      refine WL.pure (W0 rfl) rfl (Pu.move rfl rfl) ?_
      refine WL.nil ?_
      exact Lf.joinA (vj_1, (IntKind.i64.wrap (vi.2 + (1 : Int)))) (by exact ⟨rfl, rfl, rfl, rfl, rfl, trivial⟩) h
    · clear h2
      refine WC.block ?_
      refine WC.seq ?_
      refine WC.region ?_
      obtain ⟨hi0, hi1, b_1, q_1, hs, h⟩ := h
      refine WL.pure (W0 rfl) rfl (Pu.indexAddr rfl Tryz.underlying36 sz_9 rfl rfl hs hi0 hi1) ?_
      obtain ⟨v_1, hl, h⟩ := h
      refine WL.val (W0 rfl) rfl (fun xa hxa => Rd.load ok_9 rfl rfl xa hxa _ hl) ?_
      refine WL.pure (W0 rfl) rfl (Pu.assign rfl rfl) ?_
      refine WL.nil ?_
      refine Lf.thenC ?_
      refine WC.seq ?_
      refine WC.seq ?_
      refine WC.region ?_
      refine WL.pure (W0 rfl) rfl (Pu.move rfl rfl) ?_
      refine WL.pure (W0 rfl) rfl (Pu.move rfl rfl) ?_
      refine WL.call (W0 rfl) rfl (fun xa hxa => run_call (fs := []) (cs := []) (vs := [.pointer vj]) rfl rfl rfl Tryz.func44 rfl rfl xa hxa _) h ?_
      rintro _ vw_3 ⟨r_1, rfl, h⟩
      refine WL.pure (W0 rfl) rfl (Pu.seql rfl rfl rfl) ?_
      refine WL.nil ?_
      refine Lf.thenC ?_
      refine WC.condD rfl (fun hc => ?_) (fun hc => ?_)
      · replace h := h.1 hc
        refine WC.seq ?_
        refine WC.seq ?_
        refine WC.region ?_
        refine WL.pure (W0 rfl) rfl (Pu.move rfl rfl) ?_
        obtain ⟨b_2, q_2, hp_1, h⟩ := h
        refine WL.pure (W0 rfl) rfl (Pu.nilCheck rfl (by exact pe hp_1)) ?_
        refine WL.pure (W0 rfl) rfl (Pu.fieldAddr 0 rfl Tryz.underlying62 rfl rfl nz_25 rfl) ?_
        obtain ⟨v_2, hl, h⟩ := h
        refine WL.val (W0 rfl) rfl (fun xa hxa => Rd.load ok_25 rfl rfl xa hxa _ hl) ?_
        refine WL.pure (W0 rfl) rfl (Pu.move rfl rfl) ?_
        refine WL.call (W0 rfl) rfl (fun xa hxa => run_call (fs := []) (cs := []) (vs := [.pointer v_2, .string v_1]) rfl rfl rfl Tryz.func45 rfl rfl xa hxa _) h ?_
        rintro _ vw_4 ⟨r_2, rfl, h⟩
        refine WL.pure (W0 rfl) rfl (Pu.assign rfl rfl) ?_
        refine WL.nil ?_
        refine Lf.thenC ?_
        refine WC.seq ?_
        refine WC.region ?_
        refine WL.pure (W0 rfl) rfl (Pu.move rfl rfl) ?_
        refine WL.pure (W0 rfl) rfl (Pu.neq rfl rfl rfl) ?_
        refine WL.nil ?_
        refine Lf.thenC ?_
        refine WC.condD rfl (fun hc => ?_) (fun hc => ?_)
        · replace h := h.1 hc
          refine WC.seq ?_
          refine WC.region ?_
          refine WL.pure (W0 rfl) rfl (Pu.move rfl rfl) ?_
          refine WL.pure (W0 rfl) rfl (Pu.assign rfl rfl) ?_
          refine WL.nil ?_
          refine Lf.thenC ?_
          refine WC.ret ?_
          exact Lf.ret1 rfl rfl ⟨_, rfl, h⟩
        · replace h := h.2 hc
          refine WC.skip ?_
          refine Lf.thenC ?_
          refine WC.exit rfl ?_
          exact Lf.joinA vi.1 (by exact ⟨rfl, rfl, rfl, rfl, rfl, trivial⟩) h
      · replace h := h.2 hc
        refine WC.skip ?_
        refine Lf.thenC ?_
        refine WC.seq ?_
        refine WC.region ?_
        refine WL.pure (W0 rfl) rfl (Pu.move rfl rfl) ?_
        refine WL.pure (W0 rfl) rfl (Pu.move rfl rfl) ?_
        refine WL.call (W0 rfl) rfl (fun xa hxa => run_call (fs := []) (cs := []) (vs := [.pointer vj, .string v_1]) rfl rfl rfl Tryz.func46 rfl rfl xa hxa _) h ?_
        rintro _ vw_5 ⟨r_3, r_4, rfl, h⟩
        refine WL.pure (W0 rfl) rfl (Pu.move rfl rfl) ?_
        refine WL.pure (W0 rfl) rfl (Pu.extract (vs := [.int .u64 r_3, .bool r_4]) rfl rfl rfl) ?_
        refine WL.pure (W0 rfl) rfl (Pu.extract (vs := [.int .u64 r_3, .bool r_4]) rfl rfl rfl) ?_
        refine WL.pure (W0 rfl) rfl (Pu.assign rfl rfl) ?_
        refine WL.pure (W0 rfl) rfl (Pu.assign rfl rfl) ?_
        refine WL.nil ?_
        refine Lf.thenC ?_
        refine WC.seq ?_
        refine WC.region ?_
        refine WL.pure (W0 rfl) rfl (Pu.move rfl rfl) ?_
        refine WL.nil ?_
        refine Lf.thenC ?_
        refine WC.cond rfl (fun hc => ?_) (fun hc => ?_)
        · replace h := h.1 hc
          refine WC.region ?_
          refine WL.pure (W0 rfl) rfl (Pu.move rfl rfl) ?_
          refine WL.pure (W0 rfl) rfl (Pu.move rfl rfl) ?_
          refine WL.q (W0 rfl) rfl (Rq.buildSlice (E := 33) (vs := [(0, .int .u64 r_3)]) (cs := [.int .u64 r_3]) rfl rfl (fun _ => by kernel_rfl) h) ?_
          rintro _ vw_6 ⟨b_3, rfl, h⟩
          obtain ⟨_, vw_7, hr, v_3, rfl, h⟩ := h
          refine WL.val (W0 rfl) rfl (Rn.append rfl rfl rfl hr) ?_
          refine WL.pure (W0 rfl) rfl (Pu.assign rfl rfl) ?_
          refine WL.nil ?_
          exact Lf.joinA v_3 (by exact ⟨rfl, rfl, rfl, rfl, rfl, trivial⟩) h
        · replace h := h.2 hc
          refine WC.skip ?_
          exact Lf.joinA vi.1 (by exact ⟨rfl, rfl, rfl, rfl, rfl, trivial⟩) h
  · replace h := h.2 hc
    refine WC.exit rfl ?_
    refine Lf.thenC ?_
    refine WC.seq ?_
    refine WC.region ?_
    refine WL.pure (W0 rfl) rfl (Pu.move rfl rfl) ?_
    refine WL.call (W0 rfl) rfl (fun xa hxa => run_call (fs := []) (cs := []) (vs := [Sl.v vi.1]) rfl rfl rfl Tryz.func47 rfl rfl xa hxa _) h ?_
    rintro _ vw_8 ⟨rfl, h⟩
    refine WL.nil ?_
    refine Lf.thenC ?_
    refine WC.seq ?_
    refine WC.region ?_
    refine WL.pure (W0 rfl) rfl (Pu.move rfl rfl) ?_
    refine WL.pure (W0 rfl) rfl (Pu.len rfl Tryz.underlying87 rfl) ?_
    refine WL.pure (W0 rfl) rfl (Pu.assign rfl rfl) ?_
    refine WL.nil ?_
    refine Lf.thenC ?_
    refine WC.seq ?_
    refine WC.label ?_
    refine Lf.thenC ?_
    obtain ⟨vk_1, h2, h⟩ := h
    refine WC.cut (α := Int) (k := vk_1) (fun vj_2 => [(9, .int .i64 vj_2), (0, .pointer vj), (3, Sl.v vi.1)]) (fun vj_2 vw_9 h => ?_) ?_
    · replace h := h2 _ _ h
      clear h2
      refine WC.seq ?_
      refine WC.seq ?_
      refine WC.region ?_
      refine WL.pure (W0 rfl) rfl (Pu.move rfl rfl) ?_
      refine WL.pure (W0 rfl) rfl (Pu.move rfl rfl) ?_
      refine WL.pure (W0 rfl) rfl (Pu.move rfl rfl) ?_
      refine WL.pure (W0 rfl) rfl (Pu.len rfl Tryz.underlying87 rfl) ?_
      refine WL.pure (W0 rfl) rfl (Pu.min rfl rfl rfl) ?_
      obtain ⟨hi0, hi1, hi2, hi3, h⟩ := h
      refine WL.pure (W0 rfl) rfl (Pu.slice rfl Tryz.underlying87 sz_33 rfl rfl rfl rfl rfl hi0 hi1 hi2 hi3) ?_
      refine WL.pure (W0 rfl) rfl (Pu.len rfl Tryz.underlying87 rfl) ?_
      refine WL.pure (W0 rfl) rfl (Pu.move rfl rfl) ?_
      refine WL.nil ?_
      refine Lf.thenC ?_
      refine WC.block ?_
      refine WC.loop (α := Int) (fun vi_1 => [(164, .int .i64 vi_1), (0, .pointer vj), (162, Sl.v (slS vi.1 (if (vi.1.len : Int) < vj_2 then (vi.1.len : Int) else vj_2) (vi.1.len : Int) (vi.1.cap : Int) 1)), (163, .int .i64 ((slS vi.1 (if (vi.1.len : Int) < vj_2 then (vi.1.len : Int) else vj_2) (vi.1.len : Int) (vi.1.cap : Int) 1).len : Int))]) (0 : Int) (by exact ⟨rfl, rfl, rfl, rfl, trivial⟩) h (fun vJ_1 vi_1 vw_10 h => ?_)
      refine WC.seq ?_
      refine WC.region ?_
      refine WL.pure (W0 rfl) rfl (Pu.lss rfl rfl rfl) ?_
      refine WL.nil ?_
      refine Lf.thenC ?_
      refine WC.seq ?_
      refine WC.condD rfl (fun hc => ?_) (fun hc => ?_)
      · replace h := h.1 hc
        refine WC.skip ?_
        refine Lf.thenC ?_
        refine WC.seq ?_
        refine WC.block ?_
        refine WC.seq ?_
        refine WC.region ?_
        obtain ⟨hi0, hi1, b_4, q_3, hs, h⟩ := h
        refine WL.pure (W0 rfl) rfl (Pu.indexAddr rfl Tryz.underlying87 sz_33 rfl rfl hs hi0 hi1) ?_
        obtain ⟨v_4, hl, h⟩ := h
        refine WL.val (W0 rfl) rfl (fun xa hxa => Rd.load ok_33 rfl rfl xa hxa _ hl) ?_
        refine WL.pure (W0 rfl) rfl (Pu.assign rfl rfl) ?_
        refine WL.nil ?_
        refine Lf.thenC ?_
        refine WC.seq ?_
        refine WC.draw [(0, false), (1, false), (2, false), (3, false), (4, false), (5, false), (6, true), (7, true), (8, false)] mixed (by kernel_rfl) ?_
        refine DL.pure rfl (W0 rfl) rfl (Pu.move rfl rfl) ?_
        obtain ⟨b_5, q_4, hp_2, h⟩ := h
        refine DL.pure rfl (W0 rfl) rfl (Pu.nilCheck rfl (by exact pe hp_2)) ?_
        refine DL.pure rfl (W0 rfl) rfl (Pu.fieldAddr 0 rfl Tryz.underlying62 rfl rfl nz_25 rfl) ?_
        obtain ⟨v_5, hl, h⟩ := h
        refine DL.read _ rfl (W0 rfl) rfl (Rd.load ok_25 rfl rfl) hl ?_
        refine DL.pure rfl (W0 rfl) rfl (Pu.move rfl rfl) ?_
        refine DL.pure rfl (W0 rfl) rfl (Pu.move rfl rfl) ?_
        refine DL.call rfl (W0 rfl) rfl (fun xa hxa => run_call (fs := []) (cs := []) (vs := [.pointer vj, .int .u64 v_4]) rfl rfl rfl Tryz.func31 rfl rfl xa hxa _) h ?_
        rintro _ vw_11 ⟨r_5, rfl, h⟩
        obtain ⟨hk, h⟩ := h
        refine ⟨(by exact ⟨.inr hk, trivial⟩), ?_⟩
        refine DL.call rfl (W0 rfl) rfl (fun xa hxa => run_call (fs := []) (cs := []) (vs := [.pointer v_5, .string r_5]) rfl rfl rfl Tryz.func45 rfl rfl xa hxa _) h ?_
        rintro _ vw_12 ⟨r_6, rfl, h⟩
        refine ⟨(by exact ⟨.inl (by kernel_rfl), trivial⟩), ?_⟩
        refine DL.pure rfl (W0 rfl) rfl (Pu.assign rfl rfl) ?_
        refine DL.nil ?_
        refine Lf.thenC ?_
        refine WC.seq ?_
        refine WC.region ?_
        refine WL.pure (W0 rfl) rfl (Pu.move rfl rfl) ?_
        refine WL.pure (W0 rfl) rfl (Pu.neq rfl rfl rfl) ?_
        refine WL.nil ?_
        refine Lf.thenC ?_
        refine WC.condD rfl (fun hc => ?_) (fun hc => ?_)
        · replace h := h.1 hc
          refine WC.seq ?_
          refine WC.region ?_
          refine WL.pure (W0 rfl) rfl (Pu.move rfl rfl) ?_
          refine WL.pure (W0 rfl) rfl (Pu.assign rfl rfl) ?_
          refine WL.nil ?_
          refine Lf.thenC ?_
          refine WC.ret ?_
          exact Lf.ret1 rfl rfl ⟨_, rfl, h⟩
        · replace h := h.2 hc
          refine WC.skip ?_
          refine Lf.thenC ?_
          refine WC.region ?_
          refine WL.pure (W0 rfl) rfl (Pu.add rfl rfl rfl) ?_
          refine WL.pure (W0 rfl) rfl (Pu.move rfl rfl) ?_
          refine WL.nil ?_
          exact Lf.joinA (IntKind.i64.wrap (vi_1 + (1 : Int))) (by exact ⟨rfl, rfl, rfl, rfl, trivial⟩) h
      · replace h := h.2 hc
        refine WC.exit rfl ?_
        refine Lf.thenC ?_
        refine WC.seq ?_
        refine WC.region ?_
        refine WL.pure (W0 rfl) rfl (Pu.assign rfl rfl) ?_
        refine WL.nil ?_
        refine Lf.thenC ?_
        refine WC.ret ?_
        exact Lf.ret1 rfl rfl ⟨_, rfl, h⟩
    · clear h2
      refine WC.seq ?_
      refine WC.region ?_
      refine WL.pure (W0 rfl) rfl (Pu.move rfl rfl) ?_
      refine WL.pure (W0 rfl) rfl (Pu.len rfl Tryz.underlying87 rfl) ?_
      refine WL.pure (W0 rfl) rfl (Pu.move rfl rfl) ?_
      refine WL.nil ?_
      refine Lf.thenC ?_
      refine WC.block ?_
      refine WC.loop (α := Int × Int) (fun vi_2 => [(9, .int .i64 vi_2.1), (61, .int .i64 vi_2.2), (0, .pointer vj), (3, Sl.v vi.1), (59, Sl.v vi.1), (60, .int .i64 (vi.1.len : Int))]) ((vi.1.len : Int), (0 : Int)) (by exact ⟨rfl, rfl, rfl, rfl, rfl, rfl, trivial⟩) h (fun vJ_2 vi_2 vw_13 h => ?_)
      refine WC.seq ?_
      refine WC.region ?_
      refine WL.pure (W0 rfl) rfl (Pu.lss rfl rfl rfl) ?_
      refine WL.nil ?_
      refine Lf.thenC ?_
      refine WC.seq ?_
      refine WC.condD rfl (fun hc => ?_) (fun hc => ?_)
      · replace h := h.1 hc
        refine WC.skip ?_
        refine Lf.thenC ?_
        refine WC.seq ?_
        refine WC.block ?_
        refine WC.seq ?_
        refine WC.region ?_
        refine WL.pure (W0 rfl) rfl (Pu.move rfl rfl) ?_
        obtain ⟨hi0, hi1, b_6, q_5, hs, h⟩ := h
        refine WL.pure (W0 rfl) rfl (Pu.indexAddr rfl Tryz.underlying87 sz_33 rfl rfl hs hi0 hi1) ?_
        obtain ⟨v_6, hl, h⟩ := h
        refine WL.val (W0 rfl) rfl (fun xa hxa => Rd.load ok_33 rfl rfl xa hxa _ hl) ?_
        refine WL.pure (W0 rfl) rfl (Pu.assign rfl rfl) ?_
        refine WL.pure (W0 rfl) rfl (Pu.assign rfl rfl) ?_
        refine WL.nil ?_
        refine Lf.thenC ?_
        obtain ⟨vk_2, h2, h⟩ := h
        refine WC.cut (α := Unit) (k := vk_2) (fun vj_3 => [(0, .pointer vj), (3, Sl.v vi.1), (9, .int .i64 vi_2.1), (10, .int .i64 vi_2.2), (11, .int .u64 v_6), (59, Sl.v vi.1), (60, .int .i64 (vi.1.len : Int)), (61, .int .i64 vi_2.2)]) (fun vj_3 vw_14 h => ?_) ?_
        · replace h := h2 _ _ h
          clear h2
          refine WC.seq ?_
          refine WC.draw [(0, false), (1, false), (2, false), (3, false), (4, false), (5, false), (6, true), (7, true), (8, false), (9, false), (10, false), (11, false), (12, false)] mixed (by kernel_rfl) ?_
          refine DL.pure rfl (W0 rfl) rfl (Pu.move rfl rfl) ?_
          obtain ⟨b_7, q_6, hp_3, h⟩ := h
          refine DL.pure rfl (W0 rfl) rfl (Pu.nilCheck rfl (by exact pe hp_3)) ?_
          refine DL.pure rfl (W0 rfl) rfl (Pu.fieldAddr 0 rfl Tryz.underlying62 rfl rfl nz_25 rfl) ?_
          obtain ⟨v_7, hl, h⟩ := h
          refine DL.read _ rfl (W0 rfl) rfl (Rd.load ok_25 rfl rfl) hl ?_
          refine DL.pure rfl (W0 rfl) rfl (Pu.move rfl rfl) ?_
          refine DL.pure rfl (W0 rfl) rfl (Pu.move rfl rfl) ?_
          refine DL.call rfl (W0 rfl) rfl (fun xa hxa => run_call (fs := []) (cs := []) (vs := [.pointer vj, .int .u64 v_6]) rfl rfl rfl Tryz.func31 rfl rfl xa hxa _) h ?_
          rintro _ vw_15 ⟨r_7, rfl, h⟩
          obtain ⟨hk, h⟩ := h
          refine ⟨(by exact ⟨.inr hk, trivial⟩), ?_⟩
          refine DL.call rfl (W0 rfl) rfl (fun xa hxa => run_call (fs := []) (cs := []) (vs := [.pointer v_7, .string r_7]) rfl rfl rfl Tryz.func12 rfl rfl xa hxa _) h ?_
          rintro _ vw_16 ⟨r_8, r_9, rfl, h⟩
          refine ⟨(by exact ⟨.inl (by kernel_rfl), trivial⟩), ?_⟩
          refine DL.pure rfl (W0 rfl) rfl (Pu.move rfl rfl) ?_
          refine DL.pure rfl (W0 rfl) rfl (Pu.extract (vs := [Sl.v r_8, .int .i64 r_9]) rfl rfl rfl) ?_
          refine DL.pure rfl (W0 rfl) rfl (Pu.extract (vs := [Sl.v r_8, .int .i64 r_9]) rfl rfl rfl) ?_
          refine DL.pure rfl (W0 rfl) rfl (Pu.assign rfl rfl) ?_
          refine DL.pure rfl (W0 rfl) rfl (Pu.assign rfl rfl) ?_
          refine DL.nil ?_
          refine Lf.thenC ?_
          refine WC.seq ?_
          refine WC.seq ?_
          refine WC.region ?_
          refine WL.pure (W0 rfl) rfl (Pu.move rfl rfl) ?_
          refine WL.pure (W0 rfl) rfl (Pu.neq rfl rfl rfl) ?_
          refine WL.nil ?_
          refine Lf.thenC ?_
          refine WC.condD rfl (fun hc => ?_) (fun hc => ?_)
          · replace h := h.1 hc
            refine WC.seq ?_
            refine WC.region ?_
            refine WL.pure (W0 rfl) rfl (Pu.move rfl rfl) ?_
            refine WL.pure (W0 rfl) rfl (Pu.assign rfl rfl) ?_
            refine WL.nil ?_
            refine Lf.thenC ?_
            refine WC.ret ?_
            exact Lf.ret1 rfl rfl ⟨_, rfl, h⟩
          · replace h := h.2 hc
            refine WC.skip ?_
            refine Lf.thenC ?_
            refine WC.seq ?_
            refine WC.region ?_
            refine WL.pure (W0 rfl) rfl (Pu.move rfl rfl) ?_
            refine WL.call (W0 rfl) rfl (fun xa hxa => run_call (fs := []) (cs := []) (vs := [Sl.v r_8]) rfl rfl rfl Tryz.func48 rfl rfl xa hxa _) h ?_
            rintro _ vw_17 ⟨r_10, r_11, rfl, h⟩
            refine WL.pure (W0 rfl) rfl (Pu.move rfl rfl) ?_
            refine WL.pure (W0 rfl) rfl (Pu.extract (vs := [Sl.v r_10, .int .i64 r_11]) rfl rfl rfl) ?_
            refine WL.pure (W0 rfl) rfl (Pu.extract (vs := [Sl.v r_10, .int .i64 r_11]) rfl rfl rfl) ?_
            refine WL.pure (W0 rfl) rfl (Pu.assign rfl rfl) ?_
            refine WL.pure (W0 rfl) rfl (Pu.assign rfl rfl) ?_
            refine WL.nil ?_
            refine Lf.thenC ?_
            refine WC.seq ?_
            refine WC.region ?_
            refine WL.pure (W0 rfl) rfl (Pu.move rfl rfl) ?_
            refine WL.pure (W0 rfl) rfl (Pu.move rfl rfl) ?_
            obtain ⟨b_8, q_7, hp_4, h⟩ := h
            refine WL.pure (W0 rfl) rfl (Pu.nilCheck rfl (by exact pe hp_4)) ?_
            refine WL.pure (W0 rfl) rfl (Pu.fieldAddr 3 rfl Tryz.underlying62 rfl rfl nz_22 rfl) ?_
            obtain ⟨v_8, hl, h⟩ := h
            refine WL.val (W0 rfl) rfl (fun xa hxa => Rd.load ok_22 rfl rfl xa hxa _ hl) ?_
            refine WL.pure (W0 rfl) rfl (Pu.move rfl rfl) ?_
            obtain ⟨_, vw_18, hr, v_9, rfl, h⟩ := h
            refine WL.val (W0 rfl) rfl (Rn.append rfl rfl rfl hr) ?_
            obtain ⟨b_9, q_8, hp_5, h⟩ := h
            refine WL.pure (W0 rfl) rfl (Pu.nilCheck rfl (by exact pe hp_5)) ?_
            refine WL.pure (W0 rfl) rfl (Pu.fieldAddr 3 rfl Tryz.underlying62 rfl rfl nz_22 rfl) ?_
            refine WL.qs (W0 rfl) rfl (Rsq.store v_9 ok_22 rfl rfl rfl h) ?_
            rintro vw_19 h
            refine WL.nil ?_
            refine Lf.thenC ?_
            refine WC.seq ?_
            refine WC.region ?_
            refine WL.pure (W0 rfl) rfl (Pu.move rfl rfl) ?_
            obtain ⟨b_10, q_9, hp_6, h⟩ := h
            refine WL.pure (W0 rfl) rfl (Pu.nilCheck rfl (by exact pe hp_6)) ?_
            refine WL.pure (W0 rfl) rfl (Pu.fieldAddr 4 rfl Tryz.underlying62 rfl rfl nz_33 rfl) ?_
            obtain ⟨v_10, hl, h⟩ := h
            refine WL.val (W0 rfl) rfl (fun xa hxa => Rd.load ok_33 rfl rfl xa hxa _ hl) ?_
            refine WL.pure (W0 rfl) rfl (Pu.move rfl rfl) ?_
            refine WL.pure (W0 rfl) rfl (Pu.len rfl Tryz.underlying22 rfl) ?_
            refine WL.pure (W0 rfl) rfl (Pu.conv rfl (by rw [Tryz.underlying3]; rfl) Tryz.underlying33 rfl) ?_
            refine WL.pure (W0 rfl) rfl (Pu.add rfl rfl rfl) ?_
            obtain ⟨b_11, q_10, hp_7, h⟩ := h
            refine WL.pure (W0 rfl) rfl (Pu.nilCheck rfl (by exact pe hp_7)) ?_
            refine WL.pure (W0 rfl) rfl (Pu.fieldAddr 4 rfl Tryz.underlying62 rfl rfl nz_33 rfl) ?_
            refine WL.qs (W0 rfl) rfl (Rsq.store (IntKind.u64.wrap (v_10 + (IntKind.u64.wrap (r_10.len : Int)))) ok_33 rfl rfl rfl h) ?_
            rintro vw_20 h
            refine WL.nil ?_
            refine Lf.thenC ?_
            refine WC.seq ?_
            refine WC.region ?_
            refine WL.pure (W0 rfl) rfl (Pu.move rfl rfl) ?_
            refine WL.pure (W0 rfl) rfl (Pu.move rfl rfl) ?_
            obtain ⟨b_12, q_11, hp_8, h⟩ := h
            refine WL.pure (W0 rfl) rfl (Pu.nilCheck rfl (by exact pe hp_8)) ?_
            refine WL.pure (W0 rfl) rfl (Pu.fieldAddr 2 rfl Tryz.underlying62 rfl rfl nz_60 rfl) ?_
            obtain ⟨v_11, hl, h⟩ := h
            refine WL.val (W0 rfl) rfl (fun xa hxa => Rd.load ok_60 rfl rfl xa hxa _ hl) ?_
            refine WL.pure (W0 rfl) rfl (Pu.move rfl rfl) ?_
            refine WL.pure (W0 rfl) rfl (Pu.move rfl rfl) ?_
            refine WL.pure (W0 rfl) rfl (Pu.build (vs := [(0, .int .u64 v_6), (1, .int .i64 r_11)]) (v := ty_journal_segment.val (⟨v_6, r_11⟩ : S_journal_segment)) rfl rfl (fun _ => by kernel_rfl)) ?_
            refine WL.q (W0 rfl) rfl (Rq.buildSlice (E := 64) (vs := [(0, ty_journal_segment.val (⟨v_6, r_11⟩ : S_journal_segment))]) (cs := [.int .u64 ((⟨v_6, r_11⟩ : S_journal_segment).f_first), .int .i64 ((⟨v_6, r_11⟩ : S_journal_segment).f_size)]) rfl rfl (fun _ => by kernel_rfl) h) ?_
            rintro _ vw_21 ⟨b_13, rfl, h⟩
            obtain ⟨_, vw_22, hr, v_12, rfl, h⟩ := h
            refine WL.val (W0 rfl) rfl (Rn.append rfl rfl rfl hr) ?_
            obtain ⟨b_14, q_12, hp_9, h⟩ := h
            refine WL.pure (W0 rfl) rfl (Pu.nilCheck rfl (by exact pe hp_9)) ?_
            refine WL.pure (W0 rfl) rfl (Pu.fieldAddr 2 rfl Tryz.underlying62 rfl rfl nz_60 rfl) ?_
            refine WL.qs (W0 rfl) rfl (Rsq.store v_12 ok_60 rfl rfl rfl h) ?_
            rintro vw_23 h
            refine WL.nil ?_
            refine Lf.thenC ?_
            obtain ⟨vk_3, h2, h⟩ := h
            refine WC.cut (α := Unit) (k := vk_3) (fun vj_4 => [(0, .pointer vj), (3, Sl.v vi.1), (10, .int .i64 vi_2.2)]) (fun vj_4 vw_24 h => ?_) ?_
            · replace h := h2 _ _ h
              clear h2
              refine WC.seq ?_
              refine WC.region ?_
              refine WL.pure (W0 rfl) rfl (Pu.move rfl rfl) ?_
              refine WL.pure (W0 rfl) rfl (Pu.add rfl rfl rfl) ?_
              refine WL.pure (W0 rfl) rfl (Pu.assign rfl rfl) ?_
              refine WL.nil ?_
              refine Lf.thenC ?_
              refine WC.exit rfl ?_
              exact Lf.joinA (IntKind.i64.wrap (vi_2.2 + (1 : Int))) (by exact ⟨rfl, rfl, rfl, trivial⟩) h
            · clear h2
              refine WC.block ?_
              refine WC.seq ?_
              refine WC.region ?_
              refine WL.pure (W0 rfl) rfl (Pu.move rfl rfl) ?_
              refine WL.pure (W0 rfl) rfl (Pu.move rfl rfl) ?_
              refine WL.pure (W0 rfl) rfl (Pu.len rfl Tryz.underlying32 rfl) ?_
              refine WL.pure (W0 rfl) rfl (Pu.lss rfl rfl rfl) ?_
              refine WL.pure (W0 rfl) rfl (Pu.assign rfl rfl) ?_
              refine WL.nil ?_
              refine Lf.thenC ?_
              refine WC.condD rfl (fun hc => ?_) (fun hc => ?_)
              · replace h := h.1 hc
                refine WC.seq ?_
                refine WC.region ?_
                refine WL.pure (W0 rfl) rfl (Pu.move rfl rfl) ?_
                refine WL.pure (W0 rfl) rfl (Pu.move rfl rfl) ?_
                refine WL.pure (W0 rfl) rfl (Pu.move rfl rfl) ?_
                refine WL.pure (W0 rfl) rfl (Pu.move rfl rfl) ?_
                obtain ⟨hi0, hi1, hi2, hi3, h⟩ := h
                refine WL.pure (W0 rfl) rfl (Pu.slice rfl Tryz.underlying32 sz_5 rfl rfl rfl rfl rfl hi0 hi1 hi2 hi3) ?_
                refine WL.call (W0 rfl) rfl (fun xa hxa => run_call (fs := []) (cs := []) (vs := [.pointer vj, .int .u64 v_6, Sl.v (slS r_8 (0 : Int) r_11 (r_8.cap : Int) 1)]) rfl rfl rfl Tryz.func49 rfl rfl xa hxa _) h ?_
                rintro _ vw_25 ⟨r_12, rfl, h⟩
                refine WL.pure (W0 rfl) rfl (Pu.assign rfl rfl) ?_
                refine WL.nil ?_
                refine Lf.thenC ?_
                refine WC.seq ?_
                refine WC.region ?_
                refine WL.pure (W0 rfl) rfl (Pu.move rfl rfl) ?_
                refine WL.pure (W0 rfl) rfl (Pu.neq rfl rfl rfl) ?_
                refine WL.nil ?_
                refine Lf.thenC ?_
                refine WC.condD rfl (fun hc => ?_) (fun hc => ?_)
                · replace h := h.1 hc
                  refine WC.seq ?_
                  refine WC.region ?_
                  refine WL.pure (W0 rfl) rfl (Pu.move rfl rfl) ?_
                  refine WL.pure (W0 rfl) rfl (Pu.assign rfl rfl) ?_
                  refine WL.nil ?_
                  refine Lf.thenC ?_
                  refine WC.ret ?_
                  exact Lf.ret1 rfl rfl ⟨_, rfl, h⟩
                · replace h := h.2 hc
                  refine WC.skip ?_
                  exact Lf.joinA () (by exact ⟨rfl, rfl, rfl, trivial⟩) h
              · replace h := h.2 hc
                obtain ⟨vk_4, h2, h⟩ := h
                refine WC.cut (α := Bool) (k := vk_4) (fun vj_5 => [(136, .bool vj_5), (0, .pointer vj), (3, Sl.v vi.1), (9, .int .i64 vi_2.1), (10, .int .i64 vi_2.2), (59, Sl.v vi.1), (60, .int .i64 (vi.1.len : Int)), (61, .int .i64 vi_2.2)]) (fun vj_5 vw_26 h => ?_) ?_
                · replace h := h2 _ _ h
                  clear h2
                  refine WC.cond rfl (fun hc => ?_) (fun hc => ?_)
                  · replace h := h.1 hc
                    refine WC.exit rfl ?_
                    refine Lf.thenC ?_
                    refine WC.region ?_
                    refine WL.pure (W0 rfl) rfl (Pu.add rfl rfl rfl) ?_
                    refine WL.pure (W0 rfl) rfl (Pu.move rfl rfl) ?_
                    refine WL.nil ?_
                    exact Lf.joinA (vi_2.1, (IntKind.i64.wrap (vi_2.2 + (1 : Int)))) (by exact ⟨rfl, rfl, rfl, rfl, rfl, rfl, trivial⟩) h
                  · replace h := h.2 hc
                    refine WC.skip ?_
                    exact Lf.joinA () (by exact ⟨rfl, rfl, rfl, trivial⟩) h
                · clear h2
                  refine WC.draw [(0, false), (1, false), (2, false), (3, false), (4, false), (5, false), (6, false), (7, false), (8, false), (9, false), (10, false), (11, false), (12, false), (13, false), (14, false), (15, false), (16, false), (17, false)] mixed (by kernel_rfl) ?_
                  refine DL.pure rfl (W0 rfl) rfl (Pu.move rfl rfl) ?_
                  refine DL.pure rfl (W0 rfl) rfl (Pu.add rfl rfl rfl) ?_
                  refine DL.pure rfl (W0 rfl) rfl (Pu.move rfl rfl) ?_
                  refine DL.pure rfl (W0 rfl) rfl (Pu.len rfl Tryz.underlying87 rfl) ?_
                  refine DL.pure rfl (W0 rfl) rfl (Pu.lss rfl rfl rfl) ?_
                  refine DL.pure rfl (W0 rfl) rfl (Pu.move rfl rfl) ?_
                  refine DL.boolD (t := 142) rfl (fun hc => ?_) (fun hc => ?_)
                  · replace h := h.1 hc
                    refine DL.pure rfl (W1 (t := 142) rfl rfl rfl rfl) rfl (Pu.move rfl rfl) ?_
                    refine DL.pure rfl (W1 (t := 142) rfl rfl rfl rfl) rfl (Pu.move rfl rfl) ?_
                    refine DL.pure rfl (W1 (t := 142) rfl rfl rfl rfl) rfl (Pu.add rfl rfl rfl) ?_
                    obtain ⟨hi0, hi1, b_15, q_13, hs, h⟩ := h
                    refine DL.pure rfl (W1 (t := 142) rfl rfl rfl rfl) rfl (Pu.indexAddr rfl Tryz.underlying87 sz_33 rfl rfl hs hi0 hi1) ?_
                    obtain ⟨v_13, hl, h⟩ := h
                    refine DL.read _ rfl (W1 (t := 142) rfl rfl rfl rfl) rfl (Rd.load ok_33 rfl rfl) hl ?_
                    refine DL.pure rfl (W1 (t := 142) rfl rfl rfl rfl) rfl (Pu.move rfl rfl) ?_
                    obtain ⟨b_16, q_14, hp_10, h⟩ := h
                    refine DL.pure rfl (W1 (t := 142) rfl rfl rfl rfl) rfl (Pu.nilCheck rfl (by exact pe hp_10)) ?_
                    refine DL.pure rfl (W1 (t := 142) rfl rfl rfl rfl) rfl (Pu.fieldAddr 4 rfl Tryz.underlying62 rfl rfl nz_33 rfl) ?_
                    obtain ⟨v_14, hl, h⟩ := h
                    refine DL.read _ rfl (W1 (t := 142) rfl rfl rfl rfl) rfl (Rd.load ok_33 rfl rfl) hl ?_
                    refine DL.pure rfl (W1 (t := 142) rfl rfl rfl rfl) rfl (Pu.eql rfl rfl rfl) ?_
                    refine DL.pure rfl (W0 rfl) rfl (Pu.pickT rfl rfl rfl) ?_
                    refine DL.pure rfl (W0 rfl) rfl (Pu.assign rfl rfl) ?_
                    refine DL.nil ?_
                    exact Lf.joinA (decide (v_13 = v_14)) (by exact ⟨rfl, rfl, rfl, rfl, rfl, rfl, rfl, rfl, trivial⟩) h
                  · replace h := h.2 hc
                    refine DL.unwanted (t := 142) rfl rfl rfl rfl rfl rfl rfl ?_
                    refine DL.unwanted (t := 142) rfl rfl rfl rfl rfl rfl rfl ?_
                    refine DL.unwanted (t := 142) rfl rfl rfl rfl rfl rfl rfl ?_
                    refine DL.unwanted (t := 142) rfl rfl rfl rfl rfl rfl rfl ?_
                    refine DL.unwanted (t := 142) rfl rfl rfl rfl rfl rfl rfl ?_
                    refine DL.unwanted (t := 142) rfl rfl rfl rfl rfl rfl rfl ?_
                    refine DL.unwanted (t := 142) rfl rfl rfl rfl rfl rfl rfl ?_
                    refine DL.unwanted (t := 142) rfl rfl rfl rfl rfl rfl rfl ?_
                    refine DL.unwanted (t := 142) rfl rfl rfl rfl rfl rfl rfl ?_
                    refine DL.unwanted (t := 142) rfl rfl rfl rfl rfl rfl rfl ?_
                    refine DL.pure rfl (W0 rfl) rfl (Pu.pickF rfl rfl rfl) ?_
                    refine DL.pure rfl (W0 rfl) rfl (Pu.assign rfl rfl) ?_
                    refine DL.nil ?_
                    exact Lf.joinA false (by exact ⟨rfl, rfl, rfl, rfl, rfl, rfl, rfl, rfl, trivial⟩) h
        · clear h2
          refine WC.seq ?_
          refine WC.region ?_
          refine WL.pure (W0 rfl) rfl (Pu.move rfl rfl) ?_
          refine WL.pure (W0 rfl) rfl (Pu.eql rfl rfl rfl) ?_
          refine WL.nil ?_
          refine Lf.thenC ?_
          refine WC.condD rfl (fun hc => ?_) (fun hc => ?_)
          · replace h := h.1 hc
            refine WC.region ?_
            refine WL.pure (W0 rfl) rfl (Pu.move rfl rfl) ?_
            refine WL.pure (W0 rfl) rfl (Pu.move rfl rfl) ?_
            obtain ⟨b_17, q_15, hp_11, h⟩ := h
            refine WL.pure (W0 rfl) rfl (Pu.nilCheck rfl (by exact pe hp_11)) ?_
            refine WL.pure (W0 rfl) rfl (Pu.fieldAddr 4 rfl Tryz.underlying62 rfl rfl nz_33 rfl) ?_
            refine WL.qs (W0 rfl) rfl (Rsq.store v_6 ok_33 rfl rfl rfl h) ?_
            rintro vw_27 h
            refine WL.nil ?_
            exact Lf.joinA () (by exact ⟨rfl, rfl, rfl, rfl, rfl, rfl, rfl, rfl, trivial⟩) h
          · replace h := h.2 hc
            refine WC.skip ?_
            exact Lf.joinA () (by exact ⟨rfl, rfl, rfl, rfl, rfl, rfl, rfl, rfl, trivial⟩) h
      · replace h := h.2 hc
        refine WC.exit rfl ?_
        exact Lf.joinA vi_2.1 (by exact ⟨rfl, rfl, rfl, trivial⟩) h
/-- (*berthmaster/journal.Journal).recut -/
def F_journal_Journal_recut (vj : Option Addr) (vn : Int) (b : Sl) (w : World) (Q : Int → World → Prop) : Prop :=
  nz vj (fun b_1 q => ld tP (dr w) b_1 (q + 0) (fun v => CallP Tryz.prog n_journal_Journal_cut [.pointer vj] (dr w) (ret1 tS (fun r vw => (CellsAt vw b_1 (q + 0) (Ty.cells tP v)) ∧ CallP Tryz.prog n_disk_Disk_Make [.pointer v, .string r] vw (ret1 (tI .i64) (fun r_1 vw_1 => ((r_1 ≠ (0 : Int)) → Q r_1 vw_1) ∧
  ((¬ (r_1 ≠ (0 : Int))) → nz vj (fun b_2 q_1 => ld tP (dr vw_1) b_2 (q_1 + 0) (fun v_1 => CallP Tryz.prog n_journal_Journal_cut [.pointer vj] (dr vw_1) (ret1 tS (fun r_2 vw_2 => (CellsAt vw_2 b_2 (q_1 + 0) (Ty.cells tP v_1)) ∧ CallP Tryz.prog n_disk_Disk_Append [.pointer v_1, .string r_2, Sl.v b] vw_2 (ret1 (tI .i64) (fun r_3 vw_3 => ((r_3 ≠ (0 : Int)) → Q r_3 vw_3) ∧
  ((¬ (r_3 ≠ (0 : Int))) → nz vj (fun b_3 q_2 => ld tP (dr vw_3) b_3 (q_2 + 0) (fun v_2 => CallP Tryz.prog n_journal_Journal_cut [.pointer vj] (dr vw_3) (ret1 tS (fun r_4 vw_4 => (CellsAt vw_4 b_3 (q_2 + 0) (Ty.cells tP v_2)) ∧ CallP Tryz.prog n_disk_Disk_Sync [.pointer v_2, .string r_4] vw_4 (ret1 (tI .i64) (fun r_5 vw_5 => ((r_5 ≠ (0 : Int)) → Q r_5 vw_5) ∧
  ((¬ (r_5 ≠ (0 : Int))) → nz vj (fun b_4 q_3 => ld tP (dr vw_5) b_4 (q_3 + 0) (fun v_3 => CallP Tryz.prog n_journal_Journal_cut [.pointer vj] (dr vw_5) (ret1 tS (fun r_6 vw_6 => (CellsAt vw_6 b_4 (q_3 + 0) (Ty.cells tP v_3)) ∧ CallP Tryz.prog n_journal_Journal_file [.pointer vj, .int .u64 vn] vw_6 (ret1 tS (fun r_7 vw_7 => (CellsAt vw_7 b_4 (q_3 + 0) (Ty.cells tP v_3)) ∧ CallP Tryz.prog n_disk_Disk_Rename [.pointer v_3, .string r_6, .string r_7] vw_7 (ret1 (tI .i64) (fun r_8 vw_8 => Q r_8 vw_8)))))))))))))))))))))))))))))
theorem vc_journal_Journal_recut (vj : Option Addr) (vn : Int) (b : Sl) (w : World) (Q : Int → World → Prop) (h : F_journal_Journal_recut vj vn b w Q) : CallP Tryz.prog n_journal_Journal_recut [.pointer vj, .int .u64 vn, Sl.v b] w (ret1 (tI .i64) Q) := by
  unfold F_journal_Journal_recut at h
  refine CallP.of_body 51 Tryz.func49 rfl Tryz.ntmps49 rfl ?_
  refine WC.seq ?_
  refine WC.region ?_
  refine WL.pure (W0 rfl) rfl (Pu.assign rfl rfl) ?_
  refine WL.nil ?_
  refine Lf.thenC ?_
  refine WC.seq ?_
  refine WC.seq ?_
  refine WC.draw [(0, false), (1, false), (2, false), (3, false), (4, false), (5, true), (6, true), (7, false)] mixed (by kernel_rfl) ?_
  refine DL.pure rfl (W0 rfl) rfl (Pu.move rfl rfl) ?_
  obtain ⟨b_1, q, hp, h⟩ := h
  refine DL.pure rfl (W0 rfl) rfl (Pu.nilCheck rfl (by exact pe hp)) ?_
  refine DL.pure rfl (W0 rfl) rfl (Pu.fieldAddr 0 rfl Tryz.underlying62 rfl rfl nz_25 rfl) ?_
  obtain ⟨v, hl, h⟩ := h
  refine DL.read _ rfl (W0 rfl) rfl (Rd.load ok_25 rfl rfl) hl ?_
  refine DL.pure rfl (W0 rfl) rfl (Pu.move rfl rfl) ?_
  refine DL.call rfl (W0 rfl) rfl (fun xa hxa => run_call (fs := []) (cs := []) (vs := [.pointer vj]) rfl rfl rfl Tryz.func44 rfl rfl xa hxa _) h ?_
  rintro _ vw ⟨r, rfl, h⟩
  obtain ⟨hk, h⟩ := h
  refine ⟨(by exact ⟨.inr hk, trivial⟩), ?_⟩
  refine DL.call rfl (W0 rfl) rfl (fun xa hxa => run_call (fs := []) (cs := []) (vs := [.pointer v, .string r]) rfl rfl rfl Tryz.func50 rfl rfl xa hxa _) h ?_
  rintro _ vw_1 ⟨r_1, rfl, h⟩
  refine ⟨(by exact ⟨.inl (by kernel_rfl), trivial⟩), ?_⟩
  refine DL.pure rfl (W0 rfl) rfl (Pu.assign rfl rfl) ?_
  refine DL.nil ?_
  refine Lf.thenC ?_
  refine WC.seq ?_
  refine WC.region ?_
  refine WL.pure (W0 rfl) rfl (Pu.move rfl rfl) ?_
  refine WL.pure (W0 rfl) rfl (Pu.neq rfl rfl rfl) ?_
  refine WL.nil ?_
  refine Lf.thenC ?_
  refine WC.condD rfl (fun hc => ?_) (fun hc => ?_)
  · replace h := h.1 hc
    refine WC.seq ?_
    refine WC.region ?_
    refine WL.pure (W0 rfl) rfl (Pu.move rfl rfl) ?_
    refine WL.pure (W0 rfl) rfl (Pu.assign rfl rfl) ?_
    refine WL.nil ?_
    refine Lf.thenC ?_
    refine WC.ret ?_
    exact Lf.ret1 rfl rfl ⟨_, rfl, h⟩
  · replace h := h.2 hc
    refine WC.skip ?_
    refine Lf.thenC ?_
    refine WC.seq ?_
    refine WC.seq ?_
    refine WC.draw [(0, false), (1, false), (2, false), (3, false), (4, false), (6, false), (5, true), (7, true), (8, false)] mixed (by kernel_rfl) ?_
    refine DL.pure rfl (W0 rfl) rfl (Pu.move rfl rfl) ?_
    obtain ⟨b_2, q_1, hp_1, h⟩ := h
    refine DL.pure rfl (W0 rfl) rfl (Pu.nilCheck rfl (by exact pe hp_1)) ?_
    refine DL.pure rfl (W0 rfl) rfl (Pu.fieldAddr 0 rfl Tryz.underlying62 rfl rfl nz_25 rfl) ?_
    obtain ⟨v_1, hl, h⟩ := h
    refine DL.read _ rfl (W0 rfl) rfl (Rd.load ok_25 rfl rfl) hl ?_
    refine DL.pure rfl (W0 rfl) rfl (Pu.move rfl rfl) ?_
    refine DL.pure rfl (W0 rfl) rfl (Pu.move rfl rfl) ?_
    refine DL.call rfl (W0 rfl) rfl (fun xa hxa => run_call (fs := []) (cs := []) (vs := [.pointer vj]) rfl rfl rfl Tryz.func44 rfl rfl xa hxa _) h ?_
    rintro _ vw_2 ⟨r_2, rfl, h⟩
    obtain ⟨hk, h⟩ := h
    refine ⟨(by exact ⟨.inr hk, trivial⟩), ?_⟩
    refine DL.call rfl (W0 rfl) rfl (fun xa hxa => run_call (fs := []) (cs := []) (vs := [.pointer v_1, .string r_2, Sl.v b]) rfl rfl rfl Tryz.func30 rfl rfl xa hxa _) h ?_
    rintro _ vw_3 ⟨r_3, rfl, h⟩
    refine ⟨(by exact ⟨.inl (by kernel_rfl), trivial⟩), ?_⟩
    refine DL.pure rfl (W0 rfl) rfl (Pu.assign rfl rfl) ?_
    refine DL.nil ?_
    refine Lf.thenC ?_
    refine WC.seq ?_
    refine WC.region ?_
    refine WL.pure (W0 rfl) rfl (Pu.move rfl rfl) ?_
    refine WL.pure (W0 rfl) rfl (Pu.neq rfl rfl rfl) ?_
    refine WL.nil ?_
    refine Lf.thenC ?_
    refine WC.condD rfl (fun hc => ?_) (fun hc => ?_)
    · replace h := h.1 hc
      refine WC.seq ?_
      refine WC.region ?_
      refine WL.pure (W0 rfl) rfl (Pu.move rfl rfl) ?_
      refine WL.pure (W0 rfl) rfl (Pu.assign rfl rfl) ?_
      refine WL.nil ?_
      refine Lf.thenC ?_
      refine WC.ret ?_
      exact Lf.ret1 rfl rfl ⟨_, rfl, h⟩
    · replace h := h.2 hc
      refine WC.skip ?_
      refine Lf.thenC ?_
      refine WC.seq ?_
      refine WC.seq ?_
      refine WC.draw [(0, false), (1, false), (2, false), (3, false), (4, false), (5, true), (6, true), (7, false)] mixed (by kernel_rfl) ?_
      refine DL.pure rfl (W0 rfl) rfl (Pu.move rfl rfl) ?_
      obtain ⟨b_3, q_2, hp_2, h⟩ := h
      refine DL.pure rfl (W0 rfl) rfl (Pu.nilCheck rfl (by exact pe hp_2)) ?_
      refine DL.pure rfl (W0 rfl) rfl (Pu.fieldAddr 0 rfl Tryz.underlying62 rfl rfl nz_25 rfl) ?_
      obtain ⟨v_2, hl, h⟩ := h
      refine DL.read _ rfl (W0 rfl) rfl (Rd.load ok_25 rfl rfl) hl ?_
      refine DL.pure rfl (W0 rfl) rfl (Pu.move rfl rfl) ?_
      refine DL.call rfl (W0 rfl) rfl (fun xa hxa => run_call (fs := []) (cs := []) (vs := [.pointer vj]) rfl rfl rfl Tryz.func44 rfl rfl xa hxa _) h ?_
      rintro _ vw_4 ⟨r_4, rfl, h⟩
      obtain ⟨hk, h⟩ := h
      refine ⟨(by exact ⟨.inr hk, trivial⟩), ?_⟩
      refine DL.call rfl (W0 rfl) rfl (fun xa hxa => run_call (fs := []) (cs := []) (vs := [.pointer v_2, .string r_4]) rfl rfl rfl Tryz.func23 rfl rfl xa hxa _) h ?_
      rintro _ vw_5 ⟨r_5, rfl, h⟩
      refine ⟨(by exact ⟨.inl (by kernel_rfl), trivial⟩), ?_⟩
      refine DL.pure rfl (W0 rfl) rfl (Pu.assign rfl rfl) ?_
      refine DL.nil ?_
      refine Lf.thenC ?_
      refine WC.seq ?_
      refine WC.region ?_
      refine WL.pure (W0 rfl) rfl (Pu.move rfl rfl) ?_
      refine WL.pure (W0 rfl) rfl (Pu.neq rfl rfl rfl) ?_
      refine WL.nil ?_
      refine Lf.thenC ?_
      refine WC.condD rfl (fun hc => ?_) (fun hc => ?_)
      · replace h := h.1 hc
        refine WC.seq ?_
        refine WC.region ?_
        refine WL.pure (W0 rfl) rfl (Pu.move rfl rfl) ?_
        refine WL.pure (W0 rfl) rfl (Pu.assign rfl rfl) ?_
        refine WL.nil ?_
        refine Lf.thenC ?_
        refine WC.ret ?_
        exact Lf.ret1 rfl rfl ⟨_, rfl, h⟩
      · replace h := h.2 hc
        refine WC.skip ?_
        refine Lf.thenC ?_
        refine WC.seq ?_
        refine WC.draw [(0, false), (1, false), (2, false), (3, false), (4, false), (6, false), (7, false), (5, true), (8, true), (9, true), (10, false)] mixed (by kernel_rfl) ?_
        refine DL.pure rfl (W0 rfl) rfl (Pu.move rfl rfl) ?_
        obtain ⟨b_4, q_3, hp_3, h⟩ := h
        refine DL.pure rfl (W0 rfl) rfl (Pu.nilCheck rfl (by exact pe hp_3)) ?_
        refine DL.pure rfl (W0 rfl) rfl (Pu.fieldAddr 0 rfl Tryz.underlying62 rfl rfl nz_25 rfl) ?_
        obtain ⟨v_3, hl, h⟩ := h
        refine DL.read _ rfl (W0 rfl) rfl (Rd.load ok_25 rfl rfl) hl ?_
        refine DL.pure rfl (W0 rfl) rfl (Pu.move rfl rfl) ?_
        refine DL.pure rfl (W0 rfl) rfl (Pu.move rfl rfl) ?_
        refine DL.pure rfl (W0 rfl) rfl (Pu.move rfl rfl) ?_
        refine DL.call rfl (W0 rfl) rfl (fun xa hxa => run_call (fs := []) (cs := []) (vs := [.pointer vj]) rfl rfl rfl Tryz.func44 rfl rfl xa hxa _) h ?_
        rintro _ vw_6 ⟨r_6, rfl, h⟩
        obtain ⟨hk, h⟩ := h
        refine ⟨(by exact ⟨.inr hk, trivial⟩), ?_⟩
        refine DL.call rfl (W0 rfl) rfl (fun xa hxa => run_call (fs := []) (cs := []) (vs := [.pointer vj, .int .u64 vn]) rfl rfl rfl Tryz.func31 rfl rfl xa hxa _) h ?_
        rintro _ vw_7 ⟨r_7, rfl, h⟩
        obtain ⟨hk, h⟩ := h
        refine ⟨(by exact ⟨.inr hk, trivial⟩), ?_⟩
        refine DL.call rfl (W0 rfl) rfl (fun xa hxa => run_call (fs := []) (cs := []) (vs := [.pointer v_3, .string r_6, .string r_7]) rfl rfl rfl Tryz.func67 rfl rfl xa hxa _) h ?_
        rintro _ vw_8 ⟨r_8, rfl, h⟩
        refine ⟨(by exact ⟨.inl (by kernel_rfl), trivial⟩), ?_⟩
        refine DL.pure rfl (W0 rfl) rfl (Pu.assign rfl rfl) ?_
        refine DL.nil ?_
        refine Lf.thenC ?_
        refine WC.ret ?_
        exact Lf.ret1 rfl rfl ⟨_, rfl, h⟩
/-- (*berthmaster/journal.Journal).none -/
def F_journal_Journal_none (vj : Option Addr) (w : World) (Q : Bool → World → Prop) : Prop :=
  JoinP (α := Bool) (fun vj_1 vw => Q vj_1 vw)
  (fun vk => ((vj.isNone = true) → vk true w) ∧
  ((vj.isNone = false) → nz vj (fun b q => ld tP w b (q + 0) (fun v => vk v.isNone w))))
theorem vc_journal_Journal_none (vj : Option Addr) (w : World) (Q : Bool → World → Prop) (h : F_journal_Journal_none vj w Q) : CallP Tryz.prog n_journal_Journal_none [.pointer vj] w (ret1 tB Q) := by
  unfold F_journal_Journal_none at h
  refine CallP.of_body 12 Tryz.func39 rfl Tryz.ntmps39 rfl ?_
  refine WC.seq ?_
  refine WC.region ?_
  refine WL.pure (W0 rfl) rfl (Pu.assign rfl rfl) ?_
  refine WL.nil ?_
  refine Lf.thenC ?_
  obtain ⟨vk, h2, h⟩ := h
  refine WC.cut (α := Bool) (k := vk) (fun vj_1 => [(2, .bool vj_1)]) (fun vj_1 vw h => ?_) ?_
  · replace h := h2 _ _ h
    clear h2
    refine WC.ret ?_
    exact Lf.ret1 rfl rfl ⟨_, rfl, h⟩
  · clear h2
    refine WC.region ?_
    refine WL.pure (W0 rfl) rfl (Pu.move rfl rfl) ?_
    refine WL.pure (W0 rfl) rfl (Pu.pnil rfl Tryz.underlying29 rfl) ?_
    refine WL.pure (W0 rfl) rfl (Pu.move rfl rfl) ?_
    refine WL.bool (t := 5) rfl (fun hc => ?_) (fun hc => ?_)
    · replace h := h.1 hc
      refine WL.unwanted (t := 5) rfl rfl rfl rfl rfl rfl ?_
      refine WL.unwanted (t := 5) rfl rfl rfl rfl rfl rfl ?_
      refine WL.unwanted (t := 5) rfl rfl rfl rfl rfl rfl ?_
      refine WL.unwanted (t := 5) rfl rfl rfl rfl rfl rfl ?_
      refine WL.unwanted (t := 5) rfl rfl rfl rfl rfl rfl ?_
      refine WL.pure (W0 rfl) rfl (Pu.pickT rfl rfl rfl) ?_
      refine WL.pure (W0 rfl) rfl (Pu.assign rfl rfl) ?_
      refine WL.nil ?_
      exact Lf.joinA true (by exact ⟨rfl, trivial⟩) h
    · replace h := h.2 hc
      refine WL.pure (W1 (t := 5) rfl rfl rfl rfl) rfl (Pu.move rfl rfl) ?_
      obtain ⟨b, q, hp, h⟩ := h
      refine WL.pure (W1 (t := 5) rfl rfl rfl rfl) rfl (Pu.nilCheck rfl (by exact pe hp)) ?_
      refine WL.pure (W1 (t := 5) rfl rfl rfl rfl) rfl (Pu.fieldAddr 0 rfl Tryz.underlying62 rfl rfl nz_25 rfl) ?_
      obtain ⟨v, hl, h⟩ := h
      refine WL.val (W1 (t := 5) rfl rfl rfl rfl) rfl (fun xa hxa => Rd.load ok_25 rfl rfl xa hxa _ hl) ?_
      refine WL.pure (W1 (t := 5) rfl rfl rfl rfl) rfl (Pu.pnil rfl Tryz.underlying25 rfl) ?_
      refine WL.pure (W0 rfl) rfl (Pu.pickF rfl rfl rfl) ?_
      refine WL.pure (W0 rfl) rfl (Pu.assign rfl rfl) ?_
      refine WL.nil ?_
      exact Lf.joinA v.isNone (by exact ⟨rfl, trivial⟩) h
/-- (*berthmaster/journal.Journal).asked -/
def F_journal_Journal_asked (vj : Option Addr) (w : World) (Q : Int → World → Prop) : Prop :=
  CallP Tryz.prog n_journal_Journal_none [.pointer vj] w (ret1 tB (fun r vw => ((r = true) → Q (1 : Int) vw) ∧
  ((r = false) → nz vj (fun b q => ld tB vw b (q + 5) (fun v => ((v = true) → Q (10 : Int) vw) ∧
  ((v = false) → Q (0 : Int) vw))))))
theorem vc_journal_Journal_asked (vj : Option Addr) (w : World) (Q : Int → World → Prop) (h : F_journal_Journal_asked vj w Q) : CallP Tryz.prog n_journal_Journal_asked [.pointer vj] w (ret1 (tI .i64) Q) := by
  unfold F_journal_Journal_asked at h
  refine CallP.of_body 11 Tryz.func26 rfl Tryz.ntmps26 rfl ?_
  refine WC.seq ?_
  refine WC.region ?_
  refine WL.pure (W0 rfl) rfl (Pu.assign rfl rfl) ?_
  refine WL.nil ?_
  refine Lf.thenC ?_
  refine WC.seq ?_
  refine WC.block ?_
  refine WC.seq ?_
  refine WC.region ?_
  refine WL.pure (W0 rfl) rfl (Pu.move rfl rfl) ?_
  refine WL.call (W0 rfl) rfl (fun xa hxa => run_call (fs := []) (cs := []) (vs := [.pointer vj]) rfl rfl rfl Tryz.func39 rfl rfl xa hxa _) h ?_
  rintro _ vw ⟨r, rfl, h⟩
  refine WL.pure (W0 rfl) rfl (Pu.assign rfl rfl) ?_
  refine WL.nil ?_
  refine Lf.thenC ?_
  refine WC.cond rfl (fun hc => ?_) (fun hc => ?_)
  · replace h := h.1 hc
    refine WC.seq ?_
    refine WC.region ?_
    refine WL.pure (W0 rfl) rfl (Pu.assign rfl rfl) ?_
    refine WL.nil ?_
    refine Lf.thenC ?_
    refine WC.ret ?_
    exact Lf.ret1 rfl rfl ⟨_, rfl, h⟩
  · replace h := h.2 hc
    refine WC.seq ?_
    refine WC.region ?_
    refine WL.pure (W0 rfl) rfl (Pu.move rfl rfl) ?_
    obtain ⟨b, q, hp, h⟩ := h
    refine WL.pure (W0 rfl) rfl (Pu.nilCheck rfl (by exact pe hp)) ?_
    refine WL.pure (W0 rfl) rfl (Pu.fieldAddr 5 rfl Tryz.underlying62 rfl rfl nz_4 rfl) ?_
    obtain ⟨v, hl, h⟩ := h
    refine WL.val (W0 rfl) rfl (fun xa hxa => Rd.load ok_4 rfl rfl xa hxa _ hl) ?_
    refine WL.pure (W0 rfl) rfl (Pu.assign rfl rfl) ?_
    refine WL.nil ?_
    refine Lf.thenC ?_
    refine WC.cond rfl (fun hc => ?_) (fun hc => ?_)
    · replace h := h.1 hc
      refine WC.seq ?_
      refine WC.region ?_
      refine WL.pure (W0 rfl) rfl (Pu.assign rfl rfl) ?_
      refine WL.nil ?_
      refine Lf.thenC ?_
      refine WC.ret ?_
      exact Lf.ret1 rfl rfl ⟨_, rfl, h⟩
    · replace h := h.2 hc
      refine WC.skip ?_
      refine Lf.thenC ?_
      refine WC.seq ?_
      refine WC.region ?_
      refine WL.pure (W0 rfl) rfl (Pu.assign rfl rfl) ?_
      refine WL.nil ?_
      refine Lf.thenC ?_
      refine WC.ret ?_
      exact Lf.ret1 rfl rfl ⟨_, rfl, h⟩
/-- (*berthmaster/journal.Journal).ended -/
def F_journal_Journal_ended (vj : Option Addr) (e : Int) (w : World) (Q : Int → World → Prop) : Prop :=
  JoinP (α := Unit) (fun vj_1 vw => Q e vw)
  (fun vk => ((e = (10 : Int)) → nz vj (fun b q => st tB w b (q + 5) true (fun vw_1 => vk () vw_1))) ∧
  ((¬ (e = (10 : Int))) → vk () w))
theorem vc_journal_Journal_ended (vj : Option Addr) (e : Int) (w : World) (Q : Int → World → Prop) (h : F_journal_Journal_ended vj e w Q) : CallP Tryz.prog n_journal_Journal_ended [.pointer vj, .int .i64 e] w (ret1 (tI .i64) Q) := by
  unfold F_journal_Journal_ended at h
  refine CallP.of_body 11 Tryz.func28 rfl Tryz.ntmps28 rfl ?_
  refine WC.seq ?_
  refine WC.region ?_
  refine WL.pure (W0 rfl) rfl (Pu.assign rfl rfl) ?_
  refine WL.nil ?_
  refine Lf.thenC ?_
  obtain ⟨vk, h2, h⟩ := h
  refine WC.cut (α := Unit) (k := vk) (fun vj_1 => [(1, .int .i64 e)]) (fun vj_1 vw h => ?_) ?_
  · replace h := h2 _ _ h
    clear h2
    refine WC.seq ?_
    refine WC.region ?_
    refine WL.pure (W0 rfl) rfl (Pu.move rfl rfl) ?_
    refine WL.pure (W0 rfl) rfl (Pu.assign rfl rfl) ?_
    refine WL.nil ?_
    refine Lf.thenC ?_
    refine WC.ret ?_
    exact Lf.ret1 rfl rfl ⟨_, rfl, h⟩
  · clear h2
    refine WC.seq ?_
    refine WC.region ?_
    refine WL.pure (W0 rfl) rfl (Pu.move rfl rfl) ?_
    refine WL.pure (W0 rfl) rfl (Pu.eql rfl rfl rfl) ?_
    refine WL.nil ?_
    refine Lf.thenC ?_
    refine WC.condD rfl (fun hc => ?_) (fun hc => ?_)
    · replace h := h.1 hc
      refine WC.region ?_
      refine WL.pure (W0 rfl) rfl (Pu.move rfl rfl) ?_
      obtain ⟨b, q, hp, h⟩ := h
      refine WL.pure (W0 rfl) rfl (Pu.nilCheck rfl (by exact pe hp)) ?_
      refine WL.pure (W0 rfl) rfl (Pu.fieldAddr 5 rfl Tryz.underlying62 rfl rfl nz_4 rfl) ?_
      refine WL.qs (W0 rfl) rfl (Rsq.store true ok_4 rfl rfl rfl h) ?_
      rintro vw_1 h
      refine WL.nil ?_
      exact Lf.joinA () (by exact ⟨rfl, trivial⟩) h
    · replace h := h.2 hc
      refine WC.skip ?_
      exact Lf.joinA () (by exact ⟨rfl, trivial⟩) h
/-- (*berthmaster/journal.Journal).Append -/
def F_journal_Journal_Append (vj : Option Addr) (b : Sl) (w : World) (Q : Int → Int → World → Prop) : Prop :=
  CallP Tryz.prog n_journal_Journal_asked [.pointer vj] w (ret1 (tI .i64) (fun r vw => ((r ≠ (0 : Int)) → Q (0 : Int) r vw) ∧
  ((¬ (r ≠ (0 : Int))) → (((65536 : Int) < (b.len : Int)) → Q (0 : Int) (3 : Int) vw) ∧
  ((¬ ((65536 : Int) < (b.len : Int))) → JoinP (α := Unit) (fun vj_1 vw_1 => CallP Tryz.prog n_frame_Append [Sl.v ⟨none, 0, 0⟩, ty_api_Frame.val (⟨(1 : Int), b⟩ : S_api_Frame)] vw_1 (ret2 tSl (tI .i64) (fun r_1 r_2 vw_2 => nz vj (fun b_1 q => ld tSl (dr vw_2) b_1 (q + 2) (fun v => nz vj (fun b_2 q_1 => ld tSl (dr vw_2) b_2 (q_1 + 2) (fun v_1 => ixs v (IntKind.i64.wrap ((v_1.len : Int) - (1 : Int))) (fun b_3 q_2 => nz vj (fun b_4 q_3 => ld tP (dr (dr vw_2)) b_4 (q_3 + 0) (fun v_2 => ld (tI .u64) (dr (dr vw_2)) b_3 (q_2 + ((IntKind.i64.wrap ((v_1.len : Int) - (1 : Int)))).toNat * 2 + 0) (fun v_3 => CallP Tryz.prog n_journal_Journal_file [.pointer vj, .int .u64 v_3] (dr (dr vw_2)) (ret1 tS (fun r_3 vw_3 => (CellsAt vw_3 b_4 (q_3 + 0) (Ty.cells tP v_2)) ∧ CallP Tryz.prog n_disk_Disk_Append [.pointer v_2, .string r_3, Sl.v r_1] vw_3 (ret1 (tI .i64) (fun r_4 vw_4 => ((r_4 ≠ (0 : Int)) → CallP Tryz.prog n_journal_Journal_ended [.pointer vj, .int .i64 r_4] vw_4 (ret1 (tI .i64) (fun r_5 vw_5 => Q (0 : Int) r_5 vw_5))) ∧
  ((¬ (r_4 ≠ (0 : Int))) → ld (tI .i64) vw_4 b_3 (q_2 + ((IntKind.i64.wrap ((v_1.len : Int) - (1 : Int)))).toNat * 2 + 1) (fun v_4 => st (tI .i64) vw_4 b_3 (q_2 + ((IntKind.i64.wrap ((v_1.len : Int) - (1 : Int)))).toNat * 2 + 1) (IntKind.i64.wrap (v_4 + (r_1.len : Int))) (fun vw_6 => nz vj (fun b_5 q_4 => ld tSl (dr vw_6) b_5 (q_4 + 3) (fun v_5 => CallP Tryz.prog n_bytes_Clone [Sl.v b] (dr vw_6) (ret1 tSl (fun r_6 vw_7 => (CellsAt vw_7 b_5 (q_4 + 3) (Ty.cells tSl v_5)) ∧ al vw_7 [.slice r_6.a r_6.len r_6.cap] T_sl_uint8 (fun b_6 vw_8 => (CellsAt vw_8 b_5 (q_4 + 3) (Ty.cells tSl v_5)) ∧ RunV Tryz.prog (Builtin.append_ #[T_sl_sl_uint8, T_sl_sl_uint8] T_sl_sl_uint8 #[Sl.v v_5, Sl.v (⟨some ⟨b_6, 0, none⟩, 1, 1⟩ : Sl)]) vw_8 (ret1 tSl (fun v_6 vw_9 => nz vj (fun b_7 q_5 => st tSl vw_9 b_7 (q_5 + 3) v_6 (fun vw_10 => nz vj (fun b_8 q_6 => ld (tI .u64) vw_10 b_8 (q_6 + 4) (fun v_7 => nz vj (fun b_9 q_7 => st (tI .u64) vw_10 b_9 (q_7 + 4) (IntKind.u64.wrap (v_7 + (1 : Int))) (fun vw_11 => nz vj (fun b_10 q_8 => ld (tI .u64) vw_11 b_10 (q_8 + 4) (fun v_8 => Q (IntKind.u64.wrap (v_8 - (1 : Int))) (0 : Int) vw_11)))))))))))))))))))))))))))))))))
  (fun vk => JoinP (α := Bool) (fun vj_2 vw_12 => ((vj_2 = true) → CallP Tryz.prog n_journal_Journal_begin [.pointer vj] vw_12 (ret1 (tI .i64) (fun r_7 vw_13 => ((r_7 ≠ (0 : Int)) → CallP Tryz.prog n_journal_Journal_ended [.pointer vj, .int .i64 r_7] vw_13 (ret1 (tI .i64) (fun r_8 vw_14 => Q (0 : Int) r_8 vw_14))) ∧
  ((¬ (r_7 ≠ (0 : Int))) → vk () vw_13)))) ∧
  ((vj_2 = false) → vk () vw_12))
  (fun vk_1 => nz vj (fun b_11 q_9 => ld tSl (dr vw) b_11 (q_9 + 2) (fun v_9 => (((v_9.len : Int) = (0 : Int)) → vk_1 true (dr vw)) ∧
  ((¬ ((v_9.len : Int) = (0 : Int))) → nz vj (fun b_12 q_10 => ld tSl (dr vw) b_12 (q_10 + 2) (fun v_10 => nz vj (fun b_13 q_11 => ld tSl (dr vw) b_13 (q_11 + 2) (fun v_11 => ixs v_10 (IntKind.i64.wrap ((v_11.len : Int) - (1 : Int))) (fun b_14 q_12 => ld (tI .i64) (dr vw) b_14 (q_12 + ((IntKind.i64.wrap ((v_11.len : Int) - (1 : Int)))).toNat * 2 + 1) (fun v_12 => vk_1 (decide ((4096 : Int) ≤ v_12)) (dr vw))))))))))))))))
theorem vc_journal_Journal_Append (vj : Option Addr) (b : Sl) (w : World) (Q : Int → Int → World → Prop) (h : F_journal_Journal_Append vj b w Q) : CallP Tryz.prog n_journal_Journal_Append [.pointer vj, Sl.v b] w (ret2 (tI .u64) (tI .i64) Q) := by
  unfold F_journal_Journal_Append at h
  refine CallP.of_body 115 Tryz.func8 rfl Tryz.ntmps8 rfl ?_
  refine WC.seq ?_
  refine WC.region ?_
  refine WL.pure (W0 rfl) rfl (Pu.assign rfl rfl) ?_
  refine WL.pure (W0 rfl) rfl (Pu.assign rfl rfl) ?_
  refine WL.nil ?_
  refine Lf.thenC ?_
  refine WC.seq ?_
  refine WC.seq ?_
  refine WC.region ?_
  refine WL.pure (W0 rfl) rfl (Pu.move rfl rfl) ?_
  refine WL.call (W0 rfl) rfl (fun xa hxa => run_call (fs := []) (cs := []) (vs := [.pointer vj]) rfl rfl rfl Tryz.func26 rfl rfl xa hxa _) h ?_
  rintro _ vw ⟨r, rfl, h⟩
  refine WL.pure (W0 rfl) rfl (Pu.assign rfl rfl) ?_
  refine WL.nil ?_
  refine Lf.thenC ?_
  refine WC.seq ?_
  refine WC.region ?_
  refine WL.pure (W0 rfl) rfl (Pu.move rfl rfl) ?_
  refine WL.pure (W0 rfl) rfl (Pu.neq rfl rfl rfl) ?_
  refine WL.nil ?_
  refine Lf.thenC ?_
  refine WC.condD rfl (fun hc => ?_) (fun hc => ?_)
  · replace h := h.1 hc
    refine WC.seq ?_
    refine WC.region ?_
    refine WL.pure (W0 rfl) rfl (Pu.move rfl rfl) ?_
    refine WL.pure (W0 rfl) rfl (Pu.assign rfl rfl) ?_
    refine WL.pure (W0 rfl) rfl (Pu.assign rfl rfl) ?_
    refine WL.nil ?_
    refine Lf.thenC ?_
    refine WC.ret ?_
    exact Lf.ret2 rfl rfl rfl ⟨_, _, rfl, h⟩
  · replace h := h.2 hc
    refine WC.skip ?_
    refine Lf.thenC ?_
    refine WC.seq ?_
    refine WC.seq ?_
    refine WC.region ?_
    refine WL.pure (W0 rfl) rfl (Pu.move rfl rfl) ?_
    refine WL.pure (W0 rfl) rfl (Pu.len rfl Tryz.underlying32 rfl) ?_
    refine WL.pure (W0 rfl) rfl (Pu.gtr rfl rfl rfl) ?_
    refine WL.nil ?_
    refine Lf.thenC ?_
    refine WC.condD rfl (fun hc => ?_) (fun hc => ?_)
    · replace h := h.1 hc
      refine WC.seq ?_
      refine WC.region ?_
      refine WL.pure (W0 rfl) rfl (Pu.assign rfl rfl) ?_
      refine WL.pure (W0 rfl) rfl (Pu.assign rfl rfl) ?_
      refine WL.nil ?_
      refine Lf.thenC ?_
      refine WC.ret ?_
      exact Lf.ret2 rfl rfl rfl ⟨_, _, rfl, h⟩
    · replace h := h.2 hc
      refine WC.skip ?_
      refine Lf.thenC ?_
      obtain ⟨vk, h2, h⟩ := h
      refine WC.cut (α := Unit) (k := vk) (fun vj_1 => [(0, .pointer vj), (1, Sl.v b)]) (fun vj_1 vw_1 h => ?_) ?_
      · replace h := h2 _ _ h
        clear h2
        refine WC.seq ?_
        refine WC.region ?_
        refine WL.pure (W0 rfl) rfl (Pu.move rfl rfl) ?_
        refine WL.pure (W0 rfl) rfl (Pu.build (vs := [(0, .int .u8 (1)), (1, Sl.v b)]) (v := ty_api_Frame.val (⟨(1 : Int), b⟩ : S_api_Frame)) rfl rfl (fun _ => by kernel_rfl)) ?_
        refine WL.call (W0 rfl) rfl (fun xa hxa => run_call (fs := []) (cs := []) (vs := [Sl.v ⟨none, 0, 0⟩, ty_api_Frame.val (⟨(1 : Int), b⟩ : S_api_Frame)]) rfl rfl rfl Tryz.func29 rfl rfl xa hxa _) h ?_
        rintro _ vw_2 ⟨r_1, r_2, rfl, h⟩
        refine WL.pure (W0 rfl) rfl (Pu.move rfl rfl) ?_
        refine WL.pure (W0 rfl) rfl (Pu.extract (vs := [Sl.v r_1, .int .i64 r_2]) rfl rfl rfl) ?_
        refine WL.pure (W0 rfl) rfl (Pu.extract (vs := [Sl.v r_1, .int .i64 r_2]) rfl rfl rfl) ?_
        refine WL.pure (W0 rfl) rfl (Pu.assign rfl rfl) ?_
        refine WL.pure (W0 rfl) rfl (Pu.assign rfl rfl) ?_
        refine WL.nil ?_
        refine Lf.thenC ?_
        refine WC.seq ?_
        refine WC.draw [(0, false), (1, false), (2, false), (3, false), (4, false), (5, false), (6, false), (7, false), (8, false), (9, false), (10, false), (11, false)] mixed (by kernel_rfl) ?_
        refine DL.pure rfl (W0 rfl) rfl (Pu.move rfl rfl) ?_
        obtain ⟨b_1, q, hp, h⟩ := h
        refine DL.pure rfl (W0 rfl) rfl (Pu.nilCheck rfl (by exact pe hp)) ?_
        refine DL.pure rfl (W0 rfl) rfl (Pu.fieldAddr 2 rfl Tryz.underlying62 rfl rfl nz_60 rfl) ?_
        obtain ⟨v, hl, h⟩ := h
        refine DL.read _ rfl (W0 rfl) rfl (Rd.load ok_60 rfl rfl) hl ?_
        refine DL.pure rfl (W0 rfl) rfl (Pu.move rfl rfl) ?_
        obtain ⟨b_2, q_1, hp_1, h⟩ := h
        refine DL.pure rfl (W0 rfl) rfl (Pu.nilCheck rfl (by exact pe hp_1)) ?_
        refine DL.pure rfl (W0 rfl) rfl (Pu.fieldAddr 2 rfl Tryz.underlying62 rfl rfl nz_60 rfl) ?_
        obtain ⟨v_1, hl, h⟩ := h
        refine DL.read _ rfl (W0 rfl) rfl (Rd.load ok_60 rfl rfl) hl ?_
        refine DL.pure rfl (W0 rfl) rfl (Pu.len rfl Tryz.underlying60 rfl) ?_
        refine DL.pure rfl (W0 rfl) rfl (Pu.sub rfl rfl rfl) ?_
        obtain ⟨hi0, hi1, b_3, q_2, hs, h⟩ := h
        refine DL.pure rfl (W0 rfl) rfl (Pu.indexAddr rfl Tryz.underlying60 sz_64 rfl rfl hs hi0 hi1) ?_
        refine DL.pure rfl (W0 rfl) rfl (Pu.assign rfl rfl) ?_
        refine DL.nil ?_
        refine Lf.thenC ?_
        refine WC.seq ?_
        refine WC.seq ?_
        refine WC.draw [(0, false), (1, false), (2, false), (3, false), (4, false), (5, false), (6, false), (7, false), (8, false), (10, false), (9, true), (11, true), (12, false)] mixed (by kernel_rfl) ?_
        refine DL.pure rfl (W0 rfl) rfl (Pu.move rfl rfl) ?_
        obtain ⟨b_4, q_3, hp_2, h⟩ := h
        refine DL.pure rfl (W0 rfl) rfl (Pu.nilCheck rfl (by exact pe hp_2)) ?_
        refine DL.pure rfl (W0 rfl) rfl (Pu.fieldAddr 0 rfl Tryz.underlying62 rfl rfl nz_25 rfl) ?_
        obtain ⟨v_2, hl, h⟩ := h
        refine DL.read _ rfl (W0 rfl) rfl (Rd.load ok_25 rfl rfl) hl ?_
        refine DL.pure rfl (W0 rfl) rfl (Pu.move rfl rfl) ?_
        refine DL.pure rfl (W0 rfl) rfl (Pu.move rfl rfl) ?_
        refine DL.pure rfl (W0 rfl) rfl (Pu.nilCheck rfl rfl) ?_
        refine DL.pure rfl (W0 rfl) rfl (Pu.fieldAddr 0 rfl Tryz.underlying64 rfl rfl nz_33 rfl) ?_
        obtain ⟨v_3, hl, h⟩ := h
        refine DL.read _ rfl (W0 rfl) rfl (Rd.load ok_33 rfl rfl) hl ?_
        refine DL.pure rfl (W0 rfl) rfl (Pu.move rfl rfl) ?_
        refine DL.call rfl (W0 rfl) rfl (fun xa hxa => run_call (fs := []) (cs := []) (vs := [.pointer vj, .int .u64 v_3]) rfl rfl rfl Tryz.func31 rfl rfl xa hxa _) h ?_
        rintro _ vw_3 ⟨r_3, rfl, h⟩
        obtain ⟨hk, h⟩ := h
        refine ⟨(by exact ⟨.inl (by kernel_rfl), ⟨.inr hk, trivial⟩⟩), ?_⟩
        refine DL.call rfl (W0 rfl) rfl (fun xa hxa => run_call (fs := []) (cs := []) (vs := [.pointer v_2, .string r_3, Sl.v r_1]) rfl rfl rfl Tryz.func30 rfl rfl xa hxa _) h ?_
        rintro _ vw_4 ⟨r_4, rfl, h⟩
        refine ⟨(by exact ⟨.inl (by kernel_rfl), ⟨.inl (by kernel_rfl), trivial⟩⟩), ?_⟩
        refine DL.pure rfl (W0 rfl) rfl (Pu.assign rfl rfl) ?_
        refine DL.nil ?_
        refine Lf.thenC ?_
        refine WC.seq ?_
        refine WC.region ?_
        refine WL.pure (W0 rfl) rfl (Pu.move rfl rfl) ?_
        refine WL.pure (W0 rfl) rfl (Pu.neq rfl rfl rfl) ?_
        refine WL.nil ?_
        refine Lf.thenC ?_
        refine WC.condD rfl (fun hc => ?_) (fun hc => ?_)
        · replace h := h.1 hc
          refine WC.seq ?_
          refine WC.region ?_
          refine WL.pure (W0 rfl) rfl (Pu.move rfl rfl) ?_
          refine WL.pure (W0 rfl) rfl (Pu.move rfl rfl) ?_
          refine WL.call (W0 rfl) rfl (fun xa hxa => run_call (fs := []) (cs := []) (vs := [.pointer vj, .int .i64 r_4]) rfl rfl rfl Tryz.func28 rfl rfl xa hxa _) h ?_
          rintro _ vw_5 ⟨r_5, rfl, h⟩
          refine WL.pure (W0 rfl) rfl (Pu.assign rfl rfl) ?_
          refine WL.pure (W0 rfl) rfl (Pu.assign rfl rfl) ?_
          refine WL.nil ?_
          refine Lf.thenC ?_
          refine WC.ret ?_
          exact Lf.ret2 rfl rfl rfl ⟨_, _, rfl, h⟩
        · replace h := h.2 hc
          refine WC.skip ?_
          refine Lf.thenC ?_
          refine WC.seq ?_
          refine WC.region ?_
          refine WL.pure (W0 rfl) rfl (Pu.move rfl rfl) ?_
          refine WL.pure (W0 rfl) rfl (Pu.nilCheck rfl rfl) ?_
          refine WL.pure (W0 rfl) rfl (Pu.fieldAddr 1 rfl Tryz.underlying64 rfl rfl nz_3 rfl) ?_
          obtain ⟨v_4, hl, h⟩ := h
          refine WL.val (W0 rfl) rfl (fun xa hxa => Rd.load ok_3 rfl rfl xa hxa _ hl) ?_
          refine WL.pure (W0 rfl) rfl (Pu.move rfl rfl) ?_
          refine WL.pure (W0 rfl) rfl (Pu.len rfl Tryz.underlying32 rfl) ?_
          refine WL.pure (W0 rfl) rfl (Pu.add rfl rfl rfl) ?_
          refine WL.pure (W0 rfl) rfl (Pu.nilCheck rfl rfl) ?_
          refine WL.pure (W0 rfl) rfl (Pu.fieldAddr 1 rfl Tryz.underlying64 rfl rfl nz_3 rfl) ?_
          refine WL.qs (W0 rfl) rfl (Rsq.store (IntKind.i64.wrap (v_4 + (r_1.len : Int))) ok_3 rfl rfl rfl h) ?_
          rintro vw_6 h
          refine WL.nil ?_
          refine Lf.thenC ?_
          refine WC.seq ?_
          refine WC.draw [(0, false), (1, false), (2, false), (3, false), (4, false), (5, false), (6, true), (7, true), (8, true), (9, false), (10, false), (11, true)] mixed (by kernel_rfl) ?_
          refine DL.pure rfl (W0 rfl) rfl (Pu.move rfl rfl) ?_
          refine DL.pure rfl (W0 rfl) rfl (Pu.move rfl rfl) ?_
          obtain ⟨b_5, q_4, hp_3, h⟩ := h
          refine DL.pure rfl (W0 rfl) rfl (Pu.nilCheck rfl (by exact pe hp_3)) ?_
          refine DL.pure rfl (W0 rfl) rfl (Pu.fieldAddr 3 rfl Tryz.underlying62 rfl rfl nz_22 rfl) ?_
          obtain ⟨v_5, hl, h⟩ := h
          refine DL.read _ rfl (W0 rfl) rfl (Rd.load ok_22 rfl rfl) hl ?_
          refine DL.pure rfl (W0 rfl) rfl (Pu.move rfl rfl) ?_
          refine DL.call rfl (W0 rfl) rfl (fun xa hxa => run_call (fs := []) (cs := []) (vs := [Sl.v b]) rfl rfl rfl Tryz.func32 rfl rfl xa hxa _) h ?_
          rintro _ vw_7 ⟨r_6, rfl, h⟩
          obtain ⟨hk, h⟩ := h
          refine ⟨(by exact ⟨.inr hk, trivial⟩), ?_⟩
          refine DL.q rfl (W0 rfl) rfl (Rq.buildSlice (E := 32) (vs := [(0, Sl.v r_6)]) (cs := [.slice r_6.a r_6.len r_6.cap]) rfl rfl (fun _ => by kernel_rfl) h) ?_
          rintro _ vw_8 ⟨b_6, rfl, h⟩
          obtain ⟨hk, h⟩ := h
          refine ⟨(by exact ⟨.inr hk, trivial⟩), ?_⟩
          obtain ⟨_, vw_9, hr, v_6, rfl, h⟩ := h
          refine DL.val rfl (W0 rfl) rfl (Rn.append rfl rfl rfl hr) (by exact ⟨.inl (by kernel_rfl), trivial⟩) ?_
          obtain ⟨b_7, q_5, hp_4, h⟩ := h
          refine DL.pure rfl (W0 rfl) rfl (Pu.nilCheck rfl (by exact pe hp_4)) ?_
          refine DL.pure rfl (W0 rfl) rfl (Pu.fieldAddr 3 rfl Tryz.underlying62 rfl rfl nz_22 rfl) ?_
          refine DL.qs rfl (W0 rfl) rfl (Rsq.store v_6 ok_22 rfl rfl rfl h) ?_
          rintro vw_10 h
          refine ⟨(by exact ⟨.inl (by kernel_rfl), trivial⟩), ?_⟩
          refine DL.nil ?_
          refine Lf.thenC ?_
          refine WC.seq ?_
          refine WC.region ?_
          refine WL.pure (W0 rfl) rfl (Pu.move rfl rfl) ?_
          obtain ⟨b_8, q_6, hp_5, h⟩ := h
          refine WL.pure (W0 rfl) rfl (Pu.nilCheck rfl (by exact pe hp_5)) ?_
          refine WL.pure (W0 rfl) rfl (Pu.fieldAddr 4 rfl Tryz.underlying62 rfl rfl nz_33 rfl) ?_
          obtain ⟨v_7, hl, h⟩ := h
          refine WL.val (W0 rfl) rfl (fun xa hxa => Rd.load ok_33 rfl rfl xa hxa _ hl) ?_
          refine WL.pure (W0 rfl) rfl (Pu.add rfl rfl rfl) ?_
          obtain ⟨b_9, q_7, hp_6, h⟩ := h
          refine WL.pure (W0 rfl) rfl (Pu.nilCheck rfl (by exact pe hp_6)) ?_
          refine WL.pure (W0 rfl) rfl (Pu.fieldAddr 4 rfl Tryz.underlying62 rfl rfl nz_33 rfl) ?_
          refine WL.qs (W0 rfl) rfl (Rsq.store (IntKind.u64.wrap (v_7 + (1 : Int))) ok_33 rfl rfl rfl h) ?_
          rintro vw_11 h
          refine WL.nil ?_
          refine Lf.thenC ?_
          refine WC.seq ?_
          refine WC.region ?_
          refine WL.pure (W0 rfl) rfl (Pu.move rfl rfl) ?_
          obtain ⟨b_10, q_8, hp_7, h⟩ := h
          refine WL.pure (W0 rfl) rfl (Pu.nilCheck rfl (by exact pe hp_7)) ?_
          refine WL.pure (W0 rfl) rfl (Pu.fieldAddr 4 rfl Tryz.underlying62 rfl rfl nz_33 rfl) ?_
          obtain ⟨v_8, hl, h⟩ := h
          refine WL.val (W0 rfl) rfl (fun xa hxa => Rd.load ok_33 rfl rfl xa hxa _ hl) ?_
          refine WL.pure (W0 rfl) rfl (Pu.sub rfl rfl rfl) ?_
          refine WL.pure (W0 rfl) rfl (Pu.assign rfl rfl) ?_
          refine WL.pure (W0 rfl) rfl (Pu.assign rfl rfl) ?_
          refine WL.nil ?_
          refine Lf.thenC ?_
          refine WC.ret ?_
          exact Lf.ret2 rfl rfl rfl ⟨_, _, rfl, h⟩
      · clear h2
        obtain ⟨vk_1, h2, h⟩ := h
        refine WC.cut (α := Bool) (k := vk_1) (fun vj_2 => [(41, .bool vj_2), (0, .pointer vj), (1, Sl.v b)]) (fun vj_2 vw_12 h => ?_) ?_
        · replace h := h2 _ _ h
          clear h2
          refine WC.cond rfl (fun hc => ?_) (fun hc => ?_)
          · replace h := h.1 hc
            refine WC.seq ?_
            refine WC.region ?_
            refine WL.pure (W0 rfl) rfl (Pu.move rfl rfl) ?_
            refine WL.call (W0 rfl) rfl (fun xa hxa => run_call (fs := []) (cs := []) (vs := [.pointer vj]) rfl rfl rfl Tryz.func27 rfl rfl xa hxa _) h ?_
            rintro _ vw_13 ⟨r_7, rfl, h⟩
            refine WL.pure (W0 rfl) rfl (Pu.assign rfl rfl) ?_
            refine WL.nil ?_
            refine Lf.thenC ?_
            refine WC.seq ?_
            refine WC.region ?_
            refine WL.pure (W0 rfl) rfl (Pu.move rfl rfl) ?_
            refine WL.pure (W0 rfl) rfl (Pu.neq rfl rfl rfl) ?_
            refine WL.nil ?_
            refine Lf.thenC ?_
            refine WC.condD rfl (fun hc => ?_) (fun hc => ?_)
            · replace h := h.1 hc
              refine WC.seq ?_
              refine WC.region ?_
              refine WL.pure (W0 rfl) rfl (Pu.move rfl rfl) ?_
              refine WL.pure (W0 rfl) rfl (Pu.move rfl rfl) ?_
              refine WL.call (W0 rfl) rfl (fun xa hxa => run_call (fs := []) (cs := []) (vs := [.pointer vj, .int .i64 r_7]) rfl rfl rfl Tryz.func28 rfl rfl xa hxa _) h ?_
              rintro _ vw_14 ⟨r_8, rfl, h⟩
              refine WL.pure (W0 rfl) rfl (Pu.assign rfl rfl) ?_
              refine WL.pure (W0 rfl) rfl (Pu.assign rfl rfl) ?_
              refine WL.nil ?_
              refine Lf.thenC ?_
              refine WC.ret ?_
              exact Lf.ret2 rfl rfl rfl ⟨_, _, rfl, h⟩
            · replace h := h.2 hc
              refine WC.skip ?_
              exact Lf.joinA () (by exact ⟨rfl, rfl, trivial⟩) h
          · replace h := h.2 hc
            refine WC.skip ?_
            exact Lf.joinA () (by exact ⟨rfl, rfl, trivial⟩) h
        · clear h2
          refine WC.draw [(0, false), (1, false), (2, false), (3, false), (4, false), (5, false), (6, false), (7, false), (8, false), (9, false), (10, false), (11, false), (12, false), (13, false), (14, false), (15, false), (16, false), (17, false), (18, false), (19, false), (20, false), (21, false)] mixed (by kernel_rfl) ?_
          refine DL.pure rfl (W0 rfl) rfl (Pu.move rfl rfl) ?_
          obtain ⟨b_11, q_9, hp_8, h⟩ := h
          refine DL.pure rfl (W0 rfl) rfl (Pu.nilCheck rfl (by exact pe hp_8)) ?_
          refine DL.pure rfl (W0 rfl) rfl (Pu.fieldAddr 2 rfl Tryz.underlying62 rfl rfl nz_60 rfl) ?_
          obtain ⟨v_9, hl, h⟩ := h
          refine DL.read _ rfl (W0 rfl) rfl (Rd.load ok_60 rfl rfl) hl ?_
          refine DL.pure rfl (W0 rfl) rfl (Pu.len rfl Tryz.underlying60 rfl) ?_
          refine DL.pure rfl (W0 rfl) rfl (Pu.eql rfl rfl rfl) ?_
          refine DL.pure rfl (W0 rfl) rfl (Pu.move rfl rfl) ?_
          refine DL.boolD (t := 26) rfl (fun hc => ?_) (fun hc => ?_)
          · replace h := h.1 hc
            refine DL.unwanted (t := 26) rfl rfl rfl rfl rfl rfl rfl ?_
            refine DL.unwanted (t := 26) rfl rfl rfl rfl rfl rfl rfl ?_
            refine DL.unwanted (t := 26) rfl rfl rfl rfl rfl rfl rfl ?_
            refine DL.unwanted (t := 26) rfl rfl rfl rfl rfl rfl rfl ?_
            refine DL.unwanted (t := 26) rfl rfl rfl rfl rfl rfl rfl ?_
            refine DL.unwanted (t := 26) rfl rfl rfl rfl rfl rfl rfl ?_
            refine DL.unwanted (t := 26) rfl rfl rfl rfl rfl rfl rfl ?_
            refine DL.unwanted (t := 26) rfl rfl rfl rfl rfl rfl rfl ?_
            refine DL.unwanted (t := 26) rfl rfl rfl rfl rfl rfl rfl ?_
            refine DL.unwanted (t := 26) rfl rfl rfl rfl rfl rfl rfl ?_
            refine DL.unwanted (t := 26) rfl rfl rfl rfl rfl rfl rfl ?_
            refine DL.unwanted (t := 26) rfl rfl rfl rfl rfl rfl rfl ?_
            refine DL.unwanted (t := 26) rfl rfl rfl rfl rfl rfl rfl ?_
            refine DL.unwanted (t := 26) rfl rfl rfl rfl rfl rfl rfl ?_
            refine DL.pure rfl (W0 rfl) rfl (Pu.pickT rfl rfl rfl) ?_
            refine DL.nil ?_
            exact Lf.joinA true (by exact ⟨rfl, rfl, rfl, trivial⟩) h
          · replace h := h.2 hc
            refine DL.pure rfl (W1 (t := 26) rfl rfl rfl rfl) rfl (Pu.move rfl rfl) ?_
            obtain ⟨b_12, q_10, hp_9, h⟩ := h
            refine DL.pure rfl (W1 (t := 26) rfl rfl rfl rfl) rfl (Pu.nilCheck rfl (by exact pe hp_9)) ?_
            refine DL.pure rfl (W1 (t := 26) rfl rfl rfl rfl) rfl (Pu.fieldAddr 2 rfl Tryz.underlying62 rfl rfl nz_60 rfl) ?_
            obtain ⟨v_10, hl, h⟩ := h
            refine DL.read _ rfl (W1 (t := 26) rfl rfl rfl rfl) rfl (Rd.load ok_60 rfl rfl) hl ?_
            refine DL.pure rfl (W1 (t := 26) rfl rfl rfl rfl) rfl (Pu.move rfl rfl) ?_
            obtain ⟨b_13, q_11, hp_10, h⟩ := h
            refine DL.pure rfl (W1 (t := 26) rfl rfl rfl rfl) rfl (Pu.nilCheck rfl (by exact pe hp_10)) ?_
            refine DL.pure rfl (W1 (t := 26) rfl rfl rfl rfl) rfl (Pu.fieldAddr 2 rfl Tryz.underlying62 rfl rfl nz_60 rfl) ?_
            obtain ⟨v_11, hl, h⟩ := h
            refine DL.read _ rfl (W1 (t := 26) rfl rfl rfl rfl) rfl (Rd.load ok_60 rfl rfl) hl ?_
            refine DL.pure rfl (W1 (t := 26) rfl rfl rfl rfl) rfl (Pu.len rfl Tryz.underlying60 rfl) ?_
            refine DL.pure rfl (W1 (t := 26) rfl rfl rfl rfl) rfl (Pu.sub rfl rfl rfl) ?_
            obtain ⟨hi0, hi1, b_14, q_12, hs, h⟩ := h
            refine DL.pure rfl (W1 (t := 26) rfl rfl rfl rfl) rfl (Pu.indexAddr rfl Tryz.underlying60 sz_64 rfl rfl hs hi0 hi1) ?_
            refine DL.pure rfl (W1 (t := 26) rfl rfl rfl rfl) rfl (Pu.fieldAddr 1 rfl Tryz.underlying64 rfl rfl nz_3 rfl) ?_
            obtain ⟨v_12, hl, h⟩ := h
            refine DL.read _ rfl (W1 (t := 26) rfl rfl rfl rfl) rfl (Rd.load ok_3 rfl rfl) hl ?_
            refine DL.pure rfl (W1 (t := 26) rfl rfl rfl rfl) rfl (Pu.geq rfl rfl rfl) ?_
            refine DL.pure rfl (W0 rfl) rfl (Pu.pickF rfl rfl rfl) ?_
            refine DL.nil ?_
            exact Lf.joinA (decide ((4096 : Int) ≤ v_12)) (by exact ⟨rfl, rfl, rfl, trivial⟩) h
/-- (*berthmaster/journal.Journal).begin -/
def F_journal_Journal_begin (vj : Option Addr) (w : World) (Q : Int → World → Prop) : Prop :=
  JoinP (α := Unit) (fun vj_1 vw => nz vj (fun b q => ld tP (dr vw) b (q + 0) (fun v => nz vj (fun b_1 q_1 => ld (tI .u64) (dr vw) b_1 (q_1 + 4) (fun v_1 => CallP Tryz.prog n_journal_Journal_file [.pointer vj, .int .u64 v_1] (dr vw) (ret1 tS (fun r vw_1 => (CellsAt vw_1 b (q + 0) (Ty.cells tP v)) ∧ CallP Tryz.prog n_disk_Disk_Make [.pointer v, .string r] vw_1 (ret1 (tI .i64) (fun r_1 vw_2 => ((r_1 ≠ (0 : Int)) → Q r_1 vw_2) ∧
  ((¬ (r_1 ≠ (0 : Int))) → nz vj (fun b_2 q_2 => ld tSl (dr vw_2) b_2 (q_2 + 2) (fun v_2 => nz vj (fun b_3 q_3 => ld (tI .u64) (dr vw_2) b_3 (q_3 + 4) (fun v_3 => al (dr vw_2) [.int .u64 ((⟨v_3, (0 : Int)⟩ : S_journal_segment).f_first), .int .i64 ((⟨v_3, (0 : Int)⟩ : S_journal_segment).f_size)] T_journal_segment (fun b_4 vw_3 => (CellsAt vw_3 b_2 (q_2 + 2) (Ty.cells tSl v_2)) ∧ RunV Tryz.prog (Builtin.append_ #[T_sl_journal_segment, T_sl_journal_segment] T_sl_journal_segment #[Sl.v v_2, Sl.v (⟨some ⟨b_4, 0, none⟩, 1, 1⟩ : Sl)]) vw_3 (ret1 tSl (fun v_4 vw_4 => nz vj (fun b_5 q_4 => st tSl vw_4 b_5 (q_4 + 2) v_4 (fun vw_5 => Q (0 : Int) vw_5)))))))))))))))))))
  (fun vk => nz vj (fun b_6 q_5 => ld tSl w b_6 (q_5 + 2) (fun v_5 => (((0 : Int) < (v_5.len : Int)) → nz vj (fun b_7 q_6 => ld tP (dr w) b_7 (q_6 + 0) (fun v_6 => nz vj (fun b_8 q_7 => ld tSl (dr w) b_8 (q_7 + 2) (fun v_7 => nz vj (fun b_9 q_8 => ld tSl (dr w) b_9 (q_8 + 2) (fun v_8 => ixs v_7 (IntKind.i64.wrap ((v_8.len : Int) - (1 : Int))) (fun b_10 q_9 => ld (tI .u64) (dr w) b_10 (q_9 + ((IntKind.i64.wrap ((v_8.len : Int) - (1 : Int)))).toNat * 2 + 0) (fun v_9 => CallP Tryz.prog n_journal_Journal_file [.pointer vj, .int .u64 v_9] (dr w) (ret1 tS (fun r_2 vw_6 => (CellsAt vw_6 b_7 (q_6 + 0) (Ty.cells tP v_6)) ∧ CallP Tryz.prog n_disk_Disk_Sync [.pointer v_6, .string r_2] vw_6 (ret1 (tI .i64) (fun r_3 vw_7 => ((r_3 ≠ (0 : Int)) → Q r_3 vw_7) ∧
  ((¬ (r_3 ≠ (0 : Int))) → vk () vw_7)))))))))))))) ∧
  ((¬ ((0 : Int) < (v_5.len : Int))) → vk () w))))
theorem vc_journal_Journal_begin (vj : Option Addr) (w : World) (Q : Int → World → Prop) (h : F_journal_Journal_begin vj w Q) : CallP Tryz.prog n_journal_Journal_begin [.pointer vj] w (ret1 (tI .i64) Q) := by
  unfold F_journal_Journal_begin at h
  refine CallP.of_body 62 Tryz.func27 rfl Tryz.ntmps27 rfl ?_
  refine WC.seq ?_
  refine WC.region ?_
  refine WL.pure (W0 rfl) rfl (Pu.assign rfl rfl) ?_
  refine WL.nil ?_
  refine Lf.thenC ?_
  obtain ⟨vk, h2, h⟩ := h
  refine WC.cut (α := Unit) (k := vk) (fun vj_1 => [(0, .pointer vj)]) (fun vj_1 vw h => ?_) ?_
  · replace h := h2 _ _ h
    clear h2
    refine WC.seq ?_
    refine WC.seq ?_
    refine WC.draw [(0, false), (1, false), (2, false), (3, false), (4, false), (5, false), (6, false), (7, false), (8, false), (9, true), (10, true), (11, false)] mixed (by kernel_rfl) ?_
    refine DL.pure rfl (W0 rfl) rfl (Pu.move rfl rfl) ?_
    obtain ⟨b, q, hp, h⟩ := h
    refine DL.pure rfl (W0 rfl) rfl (Pu.nilCheck rfl (by exact pe hp)) ?_
    refine DL.pure rfl (W0 rfl) rfl (Pu.fieldAddr 0 rfl Tryz.underlying62 rfl rfl nz_25 rfl) ?_
    obtain ⟨v, hl, h⟩ := h
    refine DL.read _ rfl (W0 rfl) rfl (Rd.load ok_25 rfl rfl) hl ?_
    refine DL.pure rfl (W0 rfl) rfl (Pu.move rfl rfl) ?_
    refine DL.pure rfl (W0 rfl) rfl (Pu.move rfl rfl) ?_
    obtain ⟨b_1, q_1, hp_1, h⟩ := h
    refine DL.pure rfl (W0 rfl) rfl (Pu.nilCheck rfl (by exact pe hp_1)) ?_
    refine DL.pure rfl (W0 rfl) rfl (Pu.fieldAddr 4 rfl Tryz.underlying62 rfl rfl nz_33 rfl) ?_
    obtain ⟨v_1, hl, h⟩ := h
    refine DL.read _ rfl (W0 rfl) rfl (Rd.load ok_33 rfl rfl) hl ?_
    refine DL.call rfl (W0 rfl) rfl (fun xa hxa => run_call (fs := []) (cs := []) (vs := [.pointer vj, .int .u64 v_1]) rfl rfl rfl Tryz.func31 rfl rfl xa hxa _) h ?_
    rintro _ vw_1 ⟨r, rfl, h⟩
    obtain ⟨hk, h⟩ := h
    refine ⟨(by exact ⟨.inl (by kernel_rfl), ⟨.inr hk, trivial⟩⟩), ?_⟩
    refine DL.call rfl (W0 rfl) rfl (fun xa hxa => run_call (fs := []) (cs := []) (vs := [.pointer v, .string r]) rfl rfl rfl Tryz.func50 rfl rfl xa hxa _) h ?_
    rintro _ vw_2 ⟨r_1, rfl, h⟩
    refine ⟨(by exact ⟨.inl (by kernel_rfl), ⟨.inl (by kernel_rfl), trivial⟩⟩), ?_⟩
    refine DL.pure rfl (W0 rfl) rfl (Pu.assign rfl rfl) ?_
    refine DL.nil ?_
    refine Lf.thenC ?_
    refine WC.seq ?_
    refine WC.region ?_
    refine WL.pure (W0 rfl) rfl (Pu.move rfl rfl) ?_
    refine WL.pure (W0 rfl) rfl (Pu.neq rfl rfl rfl) ?_
    refine WL.nil ?_
    refine Lf.thenC ?_
    refine WC.condD rfl (fun hc => ?_) (fun hc => ?_)
    · replace h := h.1 hc
      refine WC.seq ?_
      refine WC.region ?_
      refine WL.pure (W0 rfl) rfl (Pu.move rfl rfl) ?_
      refine WL.pure (W0 rfl) rfl (Pu.assign rfl rfl) ?_
      refine WL.nil ?_
      refine Lf.thenC ?_
      refine WC.ret ?_
      exact Lf.ret1 rfl rfl ⟨_, rfl, h⟩
    · replace h := h.2 hc
      refine WC.skip ?_
      refine Lf.thenC ?_
      refine WC.seq ?_
      refine WC.draw [(0, false), (1, false), (2, false), (3, false), (4, false), (5, false), (6, false), (7, false), (8, false), (9, false), (10, true), (11, true), (12, false), (13, false), (14, true)] mixed (by kernel_rfl) ?_
      refine DL.pure rfl (W0 rfl) rfl (Pu.move rfl rfl) ?_
      refine DL.pure rfl (W0 rfl) rfl (Pu.move rfl rfl) ?_
      obtain ⟨b_2, q_2, hp_2, h⟩ := h
      refine DL.pure rfl (W0 rfl) rfl (Pu.nilCheck rfl (by exact pe hp_2)) ?_
      refine DL.pure rfl (W0 rfl) rfl (Pu.fieldAddr 2 rfl Tryz.underlying62 rfl rfl nz_60 rfl) ?_
      obtain ⟨v_2, hl, h⟩ := h
      refine DL.read _ rfl (W0 rfl) rfl (Rd.load ok_60 rfl rfl) hl ?_
      refine DL.pure rfl (W0 rfl) rfl (Pu.move rfl rfl) ?_
      obtain ⟨b_3, q_3, hp_3, h⟩ := h
      refine DL.pure rfl (W0 rfl) rfl (Pu.nilCheck rfl (by exact pe hp_3)) ?_
      refine DL.pure rfl (W0 rfl) rfl (Pu.fieldAddr 4 rfl Tryz.underlying62 rfl rfl nz_33 rfl) ?_
      obtain ⟨v_3, hl, h⟩ := h
      refine DL.read _ rfl (W0 rfl) rfl (Rd.load ok_33 rfl rfl) hl ?_
      refine DL.pure rfl (W0 rfl) rfl (Pu.build (vs := [(0, .int .u64 v_3)]) (v := ty_journal_segment.val (⟨v_3, (0 : Int)⟩ : S_journal_segment)) rfl rfl (fun _ => by kernel_rfl)) ?_
      refine DL.q rfl (W0 rfl) rfl (Rq.buildSlice (E := 64) (vs := [(0, ty_journal_segment.val (⟨v_3, (0 : Int)⟩ : S_journal_segment))]) (cs := [.int .u64 ((⟨v_3, (0 : Int)⟩ : S_journal_segment).f_first), .int .i64 ((⟨v_3, (0 : Int)⟩ : S_journal_segment).f_size)]) rfl rfl (fun _ => by kernel_rfl) h) ?_
      rintro _ vw_3 ⟨b_4, rfl, h⟩
      obtain ⟨hk, h⟩ := h
      refine ⟨(by exact ⟨.inl (by kernel_rfl), ⟨.inr hk, trivial⟩⟩), ?_⟩
      obtain ⟨_, vw_4, hr, v_4, rfl, h⟩ := h
      refine DL.val rfl (W0 rfl) rfl (Rn.append rfl rfl rfl hr) (by exact ⟨.inl (by kernel_rfl), ⟨.inl (by kernel_rfl), trivial⟩⟩) ?_
      obtain ⟨b_5, q_4, hp_4, h⟩ := h
      refine DL.pure rfl (W0 rfl) rfl (Pu.nilCheck rfl (by exact pe hp_4)) ?_
      refine DL.pure rfl (W0 rfl) rfl (Pu.fieldAddr 2 rfl Tryz.underlying62 rfl rfl nz_60 rfl) ?_
      refine DL.qs rfl (W0 rfl) rfl (Rsq.store v_4 ok_60 rfl rfl rfl h) ?_
      rintro vw_5 h
      refine ⟨(by exact ⟨.inl (by kernel_rfl), ⟨.inl (by kernel_rfl), trivial⟩⟩), ?_⟩
      refine DL.nil ?_
      refine Lf.thenC ?_
      refine WC.seq ?_
      refine WC.region ?_
      refine WL.pure (W0 rfl) rfl (Pu.assign rfl rfl) ?_
      refine WL.nil ?_
      refine Lf.thenC ?_
      refine WC.ret ?_
      exact Lf.ret1 rfl rfl ⟨_, rfl, h⟩
  · clear h2
    refine WC.seq ?_
    refine WC.region ?_
    refine WL.pure (W0 rfl) rfl (Pu.move rfl rfl) ?_
    obtain ⟨b_6, q_5, hp_5, h⟩ := h
    refine WL.pure (W0 rfl) rfl (Pu.nilCheck rfl (by exact pe hp_5)) ?_
    refine WL.pure (W0 rfl) rfl (Pu.fieldAddr 2 rfl Tryz.underlying62 rfl rfl nz_60 rfl) ?_
    obtain ⟨v_5, hl, h⟩ := h
    refine WL.val (W0 rfl) rfl (fun xa hxa => Rd.load ok_60 rfl rfl xa hxa _ hl) ?_
    refine WL.pure (W0 rfl) rfl (Pu.len rfl Tryz.underlying60 rfl) ?_
    refine WL.pure (W0 rfl) rfl (Pu.gtr rfl rfl rfl) ?_
    refine WL.nil ?_
    refine Lf.thenC ?_
    refine WC.condD rfl (fun hc => ?_) (fun hc => ?_)
    · replace h := h.1 hc
      refine WC.seq ?_
      refine WC.draw [(0, false), (1, false), (2, false), (3, false), (4, false), (5, false), (6, false), (7, false), (8, false), (9, false), (10, false), (11, false), (12, false), (13, false), (14, false), (15, false), (16, false), (17, false), (18, true), (19, true), (20, false)] mixed (by kernel_rfl) ?_
      refine DL.pure rfl (W0 rfl) rfl (Pu.move rfl rfl) ?_
      obtain ⟨b_7, q_6, hp_6, h⟩ := h
      refine DL.pure rfl (W0 rfl) rfl (Pu.nilCheck rfl (by exact pe hp_6)) ?_
      refine DL.pure rfl (W0 rfl) rfl (Pu.fieldAddr 0 rfl Tryz.underlying62 rfl rfl nz_25 rfl) ?_
      obtain ⟨v_6, hl, h⟩ := h
      refine DL.read _ rfl (W0 rfl) rfl (Rd.load ok_25 rfl rfl) hl ?_
      refine DL.pure rfl (W0 rfl) rfl (Pu.move rfl rfl) ?_
      refine DL.pure rfl (W0 rfl) rfl (Pu.move rfl rfl) ?_
      obtain ⟨b_8, q_7, hp_7, h⟩ := h
      refine DL.pure rfl (W0 rfl) rfl (Pu.nilCheck rfl (by exact pe hp_7)) ?_
      refine DL.pure rfl (W0 rfl) rfl (Pu.fieldAddr 2 rfl Tryz.underlying62 rfl rfl nz_60 rfl) ?_
      obtain ⟨v_7, hl, h⟩ := h
      refine DL.read _ rfl (W0 rfl) rfl (Rd.load ok_60 rfl rfl) hl ?_
      refine DL.pure rfl (W0 rfl) rfl (Pu.move rfl rfl) ?_
      obtain ⟨b_9, q_8, hp_8, h⟩ := h
      refine DL.pure rfl (W0 rfl) rfl (Pu.nilCheck rfl (by exact pe hp_8)) ?_
      refine DL.pure rfl (W0 rfl) rfl (Pu.fieldAddr 2 rfl Tryz.underlying62 rfl rfl nz_60 rfl) ?_
      obtain ⟨v_8, hl, h⟩ := h
      refine DL.read _ rfl (W0 rfl) rfl (Rd.load ok_60 rfl rfl) hl ?_
      refine DL.pure rfl (W0 rfl) rfl (Pu.len rfl Tryz.underlying60 rfl) ?_
      refine DL.pure rfl (W0 rfl) rfl (Pu.sub rfl rfl rfl) ?_
      obtain ⟨hi0, hi1, b_10, q_9, hs, h⟩ := h
      refine DL.pure rfl (W0 rfl) rfl (Pu.indexAddr rfl Tryz.underlying60 sz_64 rfl rfl hs hi0 hi1) ?_
      refine DL.pure rfl (W0 rfl) rfl (Pu.fieldAddr 0 rfl Tryz.underlying64 rfl rfl nz_33 rfl) ?_
      obtain ⟨v_9, hl, h⟩ := h
      refine DL.read _ rfl (W0 rfl) rfl (Rd.load ok_33 rfl rfl) hl ?_
      refine DL.call rfl (W0 rfl) rfl (fun xa hxa => run_call (fs := []) (cs := []) (vs := [.pointer vj, .int .u64 v_9]) rfl rfl rfl Tryz.func31 rfl rfl xa hxa _) h ?_
      rintro _ vw_6 ⟨r_2, rfl, h⟩
      obtain ⟨hk, h⟩ := h
      refine ⟨(by exact ⟨.inl (by kernel_rfl), ⟨.inl (by kernel_rfl), ⟨.inl (by kernel_rfl), ⟨.inr hk, trivial⟩⟩⟩⟩), ?_⟩
      refine DL.call rfl (W0 rfl) rfl (fun xa hxa => run_call (fs := []) (cs := []) (vs := [.pointer v_6, .string r_2]) rfl rfl rfl Tryz.func23 rfl rfl xa hxa _) h ?_
      rintro _ vw_7 ⟨r_3, rfl, h⟩
      refine ⟨(by exact ⟨.inl (by kernel_rfl), ⟨.inl (by kernel_rfl), ⟨.inl (by kernel_rfl), ⟨.inl (by kernel_rfl), trivial⟩⟩⟩⟩), ?_⟩
      refine DL.pure rfl (W0 rfl) rfl (Pu.assign rfl rfl) ?_
      refine DL.nil ?_
      refine Lf.thenC ?_
      refine WC.seq ?_
      refine WC.region ?_
      refine WL.pure (W0 rfl) rfl (Pu.move rfl rfl) ?_
      refine WL.pure (W0 rfl) rfl (Pu.neq rfl rfl rfl) ?_
      refine WL.nil ?_
      refine Lf.thenC ?_
      refine WC.condD rfl (fun hc => ?_) (fun hc => ?_)
      · replace h := h.1 hc
        refine WC.seq ?_
        refine WC.region ?_
        refine WL.pure (W0 rfl) rfl (Pu.move rfl rfl) ?_
        refine WL.pure (W0 rfl) rfl (Pu.assign rfl rfl) ?_
        refine WL.nil ?_
        refine Lf.thenC ?_
        refine WC.ret ?_
        exact Lf.ret1 rfl rfl ⟨_, rfl, h⟩
      · replace h := h.2 hc
        refine WC.skip ?_
        exact Lf.joinA () (by exact ⟨rfl, trivial⟩) h
    · replace h := h.2 hc
      refine WC.skip ?_
      exact Lf.joinA () (by exact ⟨rfl, trivial⟩) h
/-- (*berthmaster/journal.Journal).Sync -/
def F_journal_Journal_Sync (vj : Option Addr) (w : World) (Q : Int → World → Prop) : Prop :=
  CallP Tryz.prog n_journal_Journal_asked [.pointer vj] w (ret1 (tI .i64) (fun r vw => ((r ≠ (0 : Int)) → Q r vw) ∧
  ((¬ (r ≠ (0 : Int))) → nz vj (fun b q => ld tSl vw b (q + 2) (fun v => (((v.len : Int) = (0 : Int)) → Q (0 : Int) vw) ∧
  ((¬ ((v.len : Int) = (0 : Int))) → nz vj (fun b_1 q_1 => ld tP (dr vw) b_1 (q_1 + 0) (fun v_1 => nz vj (fun b_2 q_2 => ld tSl (dr vw) b_2 (q_2 + 2) (fun v_2 => nz vj (fun b_3 q_3 => ld tSl (dr vw) b_3 (q_3 + 2) (fun v_3 => ixs v_2 (IntKind.i64.wrap ((v_3.len : Int) - (1 : Int))) (fun b_4 q_4 => ld (tI .u64) (dr vw) b_4 (q_4 + ((IntKind.i64.wrap ((v_3.len : Int) - (1 : Int)))).toNat * 2 + 0) (fun v_4 => CallP Tryz.prog n_journal_Journal_file [.pointer vj, .int .u64 v_4] (dr vw) (ret1 tS (fun r_1 vw_1 => (CellsAt vw_1 b_1 (q_1 + 0) (Ty.cells tP v_1)) ∧ CallP Tryz.prog n_disk_Disk_Sync [.pointer v_1, .string r_1] vw_1 (ret1 (tI .i64) (fun r_2 vw_2 => CallP Tryz.prog n_journal_Journal_ended [.pointer vj, .int .i64 r_2] vw_2 (ret1 (tI .i64) (fun r_3 vw_3 => Q r_3 vw_3))))))))))))))))))))
theorem vc_journal_Journal_Sync (vj : Option Addr) (w : World) (Q : Int → World → Prop) (h : F_journal_Journal_Sync vj w Q) : CallP Tryz.prog n_journal_Journal_Sync [.pointer vj] w (ret1 (tI .i64) Q) := by
  unfold F_journal_Journal_Sync at h
  refine CallP.of_body 39 Tryz.func10 rfl Tryz.ntmps10 rfl ?_
  refine WC.seq ?_
  refine WC.region ?_
  refine WL.pure (W0 rfl) rfl (Pu.assign rfl rfl) ?_
  refine WL.nil ?_
  refine Lf.thenC ?_
  refine WC.seq ?_
  refine WC.seq ?_
  refine WC.region ?_
  refine WL.pure (W0 rfl) rfl (Pu.move rfl rfl) ?_
  refine WL.call (W0 rfl) rfl (fun xa hxa => run_call (fs := []) (cs := []) (vs := [.pointer vj]) rfl rfl rfl Tryz.func26 rfl rfl xa hxa _) h ?_
  rintro _ vw ⟨r, rfl, h⟩
  refine WL.pure (W0 rfl) rfl (Pu.assign rfl rfl) ?_
  refine WL.nil ?_
  refine Lf.thenC ?_
  refine WC.seq ?_
  refine WC.region ?_
  refine WL.pure (W0 rfl) rfl (Pu.move rfl rfl) ?_
  refine WL.pure (W0 rfl) rfl (Pu.neq rfl rfl rfl) ?_
  refine WL.nil ?_
  refine Lf.thenC ?_
  refine WC.condD rfl (fun hc => ?_) (fun hc => ?_)
  · replace h := h.1 hc
    refine WC.seq ?_
    refine WC.region ?_
    refine WL.pure (W0 rfl) rfl (Pu.move rfl rfl) ?_
    refine WL.pure (W0 rfl) rfl (Pu.assign rfl rfl) ?_
    refine WL.nil ?_
    refine Lf.thenC ?_
    refine WC.ret ?_
    exact Lf.ret1 rfl rfl ⟨_, rfl, h⟩
  · replace h := h.2 hc
    refine WC.skip ?_
    refine Lf.thenC ?_
    refine WC.seq ?_
    refine WC.seq ?_
    refine WC.region ?_
    refine WL.pure (W0 rfl) rfl (Pu.move rfl rfl) ?_
    obtain ⟨b, q, hp, h⟩ := h
    refine WL.pure (W0 rfl) rfl (Pu.nilCheck rfl (by exact pe hp)) ?_
    refine WL.pure (W0 rfl) rfl (Pu.fieldAddr 2 rfl Tryz.underlying62 rfl rfl nz_60 rfl) ?_
    obtain ⟨v, hl, h⟩ := h
    refine WL.val (W0 rfl) rfl (fun xa hxa => Rd.load ok_60 rfl rfl xa hxa _ hl) ?_
    refine WL.pure (W0 rfl) rfl (Pu.len rfl Tryz.underlying60 rfl) ?_
    refine WL.pure (W0 rfl) rfl (Pu.eql rfl rfl rfl) ?_
    refine WL.nil ?_
    refine Lf.thenC ?_
    refine WC.condD rfl (fun hc => ?_) (fun hc => ?_)
    · replace h := h.1 hc
      refine WC.seq ?_
      refine WC.region ?_
      refine WL.pure (W0 rfl) rfl (Pu.assign rfl rfl) ?_
      refine WL.nil ?_
      refine Lf.thenC ?_
      refine WC.ret ?_
      exact Lf.ret1 rfl rfl ⟨_, rfl, h⟩
    · replace h := h.2 hc
      refine WC.skip ?_
      refine Lf.thenC ?_
      refine WC.seq ?_
      refine WC.region ?_
      refine WL.pure (W0 rfl) rfl (Pu.assign rfl rfl) ?_
      refine WL.nil ?_
      refine Lf.thenC ?_
      refine WC.seq ?_
      refine WC.draw [(0, false), (1, false), (2, false), (3, false), (4, false), (5, false), (6, false), (7, false), (8, false), (9, false), (10, false), (11, false), (12, false), (13, false), (14, false), (15, false), (16, false), (17, false), (18, false), (19, false), (20, true), (21, true), (22, true), (23, false)] mixed (by kernel_rfl) ?_
      refine DL.pure rfl (W0 rfl) rfl (Pu.move rfl rfl) ?_
      refine DL.pure rfl (W0 rfl) rfl (Pu.move rfl rfl) ?_
      refine DL.pure rfl (W0 rfl) rfl (Pu.move rfl rfl) ?_
      obtain ⟨b_1, q_1, hp_1, h⟩ := h
      refine DL.pure rfl (W0 rfl) rfl (Pu.nilCheck rfl (by exact pe hp_1)) ?_
      refine DL.pure rfl (W0 rfl) rfl (Pu.fieldAddr 0 rfl Tryz.underlying62 rfl rfl nz_25 rfl) ?_
      obtain ⟨v_1, hl, h⟩ := h
      refine DL.read _ rfl (W0 rfl) rfl (Rd.load ok_25 rfl rfl) hl ?_
      refine DL.pure rfl (W0 rfl) rfl (Pu.move rfl rfl) ?_
      refine DL.pure rfl (W0 rfl) rfl (Pu.move rfl rfl) ?_
      obtain ⟨b_2, q_2, hp_2, h⟩ := h
      refine DL.pure rfl (W0 rfl) rfl (Pu.nilCheck rfl (by exact pe hp_2)) ?_
      refine DL.pure rfl (W0 rfl) rfl (Pu.fieldAddr 2 rfl Tryz.underlying62 rfl rfl nz_60 rfl) ?_
      obtain ⟨v_2, hl, h⟩ := h
      refine DL.read _ rfl (W0 rfl) rfl (Rd.load ok_60 rfl rfl) hl ?_
      refine DL.pure rfl (W0 rfl) rfl (Pu.move rfl rfl) ?_
      obtain ⟨b_3, q_3, hp_3, h⟩ := h
      refine DL.pure rfl (W0 rfl) rfl (Pu.nilCheck rfl (by exact pe hp_3)) ?_
      refine DL.pure rfl (W0 rfl) rfl (Pu.fieldAddr 2 rfl Tryz.underlying62 rfl rfl nz_60 rfl) ?_
      obtain ⟨v_3, hl, h⟩ := h
      refine DL.read _ rfl (W0 rfl) rfl (Rd.load ok_60 rfl rfl) hl ?_
      refine DL.pure rfl (W0 rfl) rfl (Pu.len rfl Tryz.underlying60 rfl) ?_
      refine DL.pure rfl (W0 rfl) rfl (Pu.sub rfl rfl rfl) ?_
      obtain ⟨hi0, hi1, b_4, q_4, hs, h⟩ := h
      refine DL.pure rfl (W0 rfl) rfl (Pu.indexAddr rfl Tryz.underlying60 sz_64 rfl rfl hs hi0 hi1) ?_
      refine DL.pure rfl (W0 rfl) rfl (Pu.fieldAddr 0 rfl Tryz.underlying64 rfl rfl nz_33 rfl) ?_
      obtain ⟨v_4, hl, h⟩ := h
      refine DL.read _ rfl (W0 rfl) rfl (Rd.load ok_33 rfl rfl) hl ?_
      refine DL.call rfl (W0 rfl) rfl (fun xa hxa => run_call (fs := []) (cs := []) (vs := [.pointer vj, .int .u64 v_4]) rfl rfl rfl Tryz.func31 rfl rfl xa hxa _) h ?_
      rintro _ vw_1 ⟨r_1, rfl, h⟩
      obtain ⟨hk, h⟩ := h
      refine ⟨(by exact ⟨.inl (by kernel_rfl), ⟨.inl (by kernel_rfl), ⟨.inl (by kernel_rfl), ⟨.inr hk, trivial⟩⟩⟩⟩), ?_⟩
      refine DL.call rfl (W0 rfl) rfl (fun xa hxa => run_call (fs := []) (cs := []) (vs := [.pointer v_1, .string r_1]) rfl rfl rfl Tryz.func23 rfl rfl xa hxa _) h ?_
      rintro _ vw_2 ⟨r_2, rfl, h⟩
      refine ⟨(by exact ⟨.inl (by kernel_rfl), ⟨.inl (by kernel_rfl), ⟨.inl (by kernel_rfl), ⟨.inl (by kernel_rfl), trivial⟩⟩⟩⟩), ?_⟩
      refine DL.call rfl (W0 rfl) rfl (fun xa hxa => run_call (fs := []) (cs := []) (vs := [.pointer vj, .int .i64 r_2]) rfl rfl rfl Tryz.func28 rfl rfl xa hxa _) h ?_
      rintro _ vw_3 ⟨r_3, rfl, h⟩
      refine ⟨(by exact ⟨.inl (by kernel_rfl), ⟨.inl (by kernel_rfl), ⟨.inl (by kernel_rfl), ⟨.inl (by kernel_rfl), trivial⟩⟩⟩⟩), ?_⟩
      refine DL.pure rfl (W0 rfl) rfl (Pu.assign rfl rfl) ?_
      refine DL.nil ?_
      refine Lf.thenC ?_
      refine WC.ret ?_
      exact Lf.ret1 rfl rfl ⟨_, rfl, h⟩
/-- (*berthmaster/journal.Journal).first -/
def F_journal_Journal_first (vj : Option Addr) (w : World) (Q : Int → World → Prop) : Prop :=
  nz vj (fun b q => ld (tI .u64) (dr w) b (q + 4) (fun v => nz vj (fun b_1 q_1 => ld tSl (dr w) b_1 (q_1 + 3) (fun v_1 => Q (IntKind.u64.wrap (v - (IntKind.u64.wrap (v_1.len : Int)))) (dr w)))))
theorem vc_journal_Journal_first (vj : Option Addr) (w : World) (Q : Int → World → Prop) (h : F_journal_Journal_first vj w Q) : CallP Tryz.prog n_journal_Journal_first [.pointer vj] w (ret1 (tI .u64) Q) := by
  unfold F_journal_Journal_first at h
  refine CallP.of_body 14 Tryz.func41 rfl Tryz.ntmps41 rfl ?_
  refine WC.seq ?_
  refine WC.region ?_
  refine WL.pure (W0 rfl) rfl (Pu.assign rfl rfl) ?_
  refine WL.nil ?_
  refine Lf.thenC ?_
  refine WC.seq ?_
  refine WC.draw [(0, false), (1, false), (2, false), (3, false), (4, false), (5, false), (6, false), (7, false), (8, false), (9, false), (10, false), (11, false)] mixed (by kernel_rfl) ?_
  refine DL.pure rfl (W0 rfl) rfl (Pu.move rfl rfl) ?_
  obtain ⟨b, q, hp, h⟩ := h
  refine DL.pure rfl (W0 rfl) rfl (Pu.nilCheck rfl (by exact pe hp)) ?_
  refine DL.pure rfl (W0 rfl) rfl (Pu.fieldAddr 4 rfl Tryz.underlying62 rfl rfl nz_33 rfl) ?_
  obtain ⟨v, hl, h⟩ := h
  refine DL.read _ rfl (W0 rfl) rfl (Rd.load ok_33 rfl rfl) hl ?_
  refine DL.pure rfl (W0 rfl) rfl (Pu.move rfl rfl) ?_
  obtain ⟨b_1, q_1, hp_1, h⟩ := h
  refine DL.pure rfl (W0 rfl) rfl (Pu.nilCheck rfl (by exact pe hp_1)) ?_
  refine DL.pure rfl (W0 rfl) rfl (Pu.fieldAddr 3 rfl Tryz.underlying62 rfl rfl nz_22 rfl) ?_
  obtain ⟨v_1, hl, h⟩ := h
  refine DL.read _ rfl (W0 rfl) rfl (Rd.load ok_22 rfl rfl) hl ?_
  refine DL.pure rfl (W0 rfl) rfl (Pu.len rfl Tryz.underlying22 rfl) ?_
  refine DL.pure rfl (W0 rfl) rfl (Pu.conv rfl (by rw [Tryz.underlying3]; rfl) Tryz.underlying33 rfl) ?_
  refine DL.pure rfl (W0 rfl) rfl (Pu.sub rfl rfl rfl) ?_
  refine DL.pure rfl (W0 rfl) rfl (Pu.assign rfl rfl) ?_
  refine DL.nil ?_
  refine Lf.thenC ?_
  refine WC.ret ?_
  exact Lf.ret1 rfl rfl ⟨_, rfl, h⟩
/-- (*berthmaster/journal.Journal).All -/
def F_journal_Journal_All (vj : Option Addr) (w : World) (Q : Sl → World → Prop) : Prop :=
  CallP Tryz.prog n_journal_Journal_none [.pointer vj] w (ret1 tB (fun r vw => ((r = true) → Q (⟨none, 0, 0⟩ : Sl) vw) ∧
  ((r = false) → nz vj (fun b q => ld tSl vw b (q + 3) (fun v => LoopP (α := Sl × Int) (fun vi vw_1 vJ => ((vi.2 < (v.len : Int)) → ixs v vi.2 (fun b_1 q_1 => ld tSl vw_1 b_1 (q_1 + (vi.2).toNat * 1) (fun v_1 => CallP Tryz.prog n_bytes_Clone [Sl.v v_1] vw_1 (ret1 tSl (fun r_1 vw_2 => al vw_2 [.slice r_1.a r_1.len r_1.cap] T_sl_uint8 (fun b_2 vw_3 => RunV Tryz.prog (Builtin.append_ #[T_sl_sl_uint8, T_sl_sl_uint8] T_sl_sl_uint8 #[Sl.v vi.1, Sl.v (⟨some ⟨b_2, 0, none⟩, 1, 1⟩ : Sl)]) vw_3 (ret1 tSl (fun v_2 vw_4 => vJ (v_2, (IntKind.i64.wrap (vi.2 + (1 : Int)))) vw_4)))))))) ∧
  ((¬ (vi.2 < (v.len : Int))) → Q vi.1 vw_1)) ((⟨none, 0, 0⟩ : Sl), (0 : Int)) vw)))))
theorem vc_journal_Journal_All (vj : Option Addr) (w : World) (Q : Sl → World → Prop) (h : F_journal_Journal_All vj w Q) : CallP Tryz.prog n_journal_Journal_All [.pointer vj] w (ret1 tSl Q) := by
  unfold F_journal_Journal_All at h
  refine CallP.of_body 24 Tryz.func14 rfl Tryz.ntmps14 rfl ?_
  refine WC.seq ?_
  refine WC.region ?_
  refine WL.pure (W0 rfl) rfl (Pu.assign rfl rfl) ?_
  refine WL.nil ?_
  refine Lf.thenC ?_
  refine WC.seq ?_
  refine WC.seq ?_
  refine WC.region ?_
  refine WL.pure (W0 rfl) rfl (Pu.move rfl rfl) ?_
  refine WL.call (W0 rfl) rfl (fun xa hxa => run_call (fs := []) (cs := []) (vs := [.pointer vj]) rfl rfl rfl Tryz.func39 rfl rfl xa hxa _) h ?_
  rintro _ vw ⟨r, rfl, h⟩
  refine WL.nil ?_
  refine Lf.thenC ?_
  refine WC.cond rfl (fun hc => ?_) (fun hc => ?_)
  · replace h := h.1 hc
    refine WC.seq ?_
    refine WC.region ?_
    refine WL.pure (W0 rfl) rfl (Pu.assign rfl rfl) ?_
    refine WL.nil ?_
    refine Lf.thenC ?_
    refine WC.ret ?_
    exact Lf.ret1 rfl rfl ⟨_, rfl, h⟩
  · replace h := h.2 hc
    refine WC.skip ?_
    refine Lf.thenC ?_
    refine WC.seq ?_
    refine WC.region ?_
    refine WL.pure (W0 rfl) rfl (Pu.assign rfl rfl) ?_
    refine WL.nil ?_
    refine Lf.thenC ?_
    refine WC.seq ?_
    refine WC.seq ?_
    refine WC.region ?_
    refine WL.pure (W0 rfl) rfl (Pu.move rfl rfl) ?_
    obtain ⟨b, q, hp, h⟩ := h
    refine WL.pure (W0 rfl) rfl (Pu.nilCheck rfl (by exact pe hp)) ?_
    refine WL.pure (W0 rfl) rfl (Pu.fieldAddr 3 rfl Tryz.underlying62 rfl rfl nz_22 rfl) ?_
    obtain ⟨v, hl, h⟩ := h
    refine WL.val (W0 rfl) rfl (fun xa hxa => Rd.load ok_22 rfl rfl xa hxa _ hl) ?_
    refine WL.pure (W0 rfl) rfl (Pu.len rfl Tryz.underlying22 rfl) ?_
    refine WL.pure (W0 rfl) rfl (Pu.move rfl rfl) ?_
    refine WL.nil ?_
    refine Lf.thenC ?_
    refine WC.block ?_
    refine WC.loop (α := Sl × Int) (fun vi => [(3, Sl.v vi.1), (13, .int .i64 vi.2), (11, Sl.v v), (12, .int .i64 (v.len : Int))]) ((⟨none, 0, 0⟩ : Sl), (0 : Int)) (by exact ⟨rfl, rfl, rfl, rfl, trivial⟩) h (fun vJ vi vw_1 h => ?_)
    refine WC.seq ?_
    refine WC.region ?_
    refine WL.pure (W0 rfl) rfl (Pu.lss rfl rfl rfl) ?_
    refine WL.nil ?_
    refine Lf.thenC ?_
    refine WC.seq ?_
    refine WC.condD rfl (fun hc => ?_) (fun hc => ?_)
    · replace h := h.1 hc
      refine WC.skip ?_
      refine Lf.thenC ?_
      refine WC.seq ?_
      refine WC.block ?_
      refine WC.seq ?_
      refine WC.region ?_
      obtain ⟨hi0, hi1, b_1, q_1, hs, h⟩ := h
      refine WL.pure (W0 rfl) rfl (Pu.indexAddr rfl Tryz.underlying22 sz_32 rfl rfl hs hi0 hi1) ?_
      obtain ⟨v_1, hl, h⟩ := h
      refine WL.val (W0 rfl) rfl (fun xa hxa => Rd.load ok_32 rfl rfl xa hxa _ hl) ?_
      refine WL.pure (W0 rfl) rfl (Pu.assign rfl rfl) ?_
      refine WL.nil ?_
      refine Lf.thenC ?_
      refine WC.region ?_
      refine WL.pure (W0 rfl) rfl (Pu.move rfl rfl) ?_
      refine WL.pure (W0 rfl) rfl (Pu.move rfl rfl) ?_
      refine WL.call (W0 rfl) rfl (fun xa hxa => run_call (fs := []) (cs := []) (vs := [Sl.v v_1]) rfl rfl rfl Tryz.func32 rfl rfl xa hxa _) h ?_
      rintro _ vw_2 ⟨r_1, rfl, h⟩
      refine WL.q (W0 rfl) rfl (Rq.buildSlice (E := 32) (vs := [(0, Sl.v r_1)]) (cs := [.slice r_1.a r_1.len r_1.cap]) rfl rfl (fun _ => by kernel_rfl) h) ?_
      rintro _ vw_3 ⟨b_2, rfl, h⟩
      obtain ⟨_, vw_4, hr, v_2, rfl, h⟩ := h
      refine WL.val (W0 rfl) rfl (Rn.append rfl rfl rfl hr) ?_
      refine WL.pure (W0 rfl) rfl (Pu.assign rfl rfl) ?_
      refine WL.nil ?_
      refine Lf.thenC ?_
      refine WC.region ?_
      refine WL.pure (W0 rfl) rfl (Pu.add rfl rfl rfl) ?_
      refine WL.pure (W0 rfl) rfl (Pu.move rfl rfl) ?_
      refine WL.nil ?_
      exact Lf.joinA (v_2, (IntKind.i64.wrap (vi.2 + (1 : Int)))) (by exact ⟨rfl, rfl, rfl, rfl, trivial⟩) h
    · replace h := h.2 hc
      refine WC.exit rfl ?_
      refine Lf.thenC ?_
      refine WC.seq ?_
      refine WC.region ?_
      refine WL.pure (W0 rfl) rfl (Pu.move rfl rfl) ?_
      refine WL.pure (W0 rfl) rfl (Pu.assign rfl rfl) ?_
      refine WL.nil ?_
      refine Lf.thenC ?_
      refine WC.ret ?_
      exact Lf.ret1 rfl rfl ⟨_, rfl, h⟩
/-- (*berthmaster/journal.Journal).First -/
def F_journal_Journal_First (vj : Option Addr) (w : World) (Q : Int → World → Prop) : Prop :=
  CallP Tryz.prog n_journal_Journal_none [.pointer vj] w (ret1 tB (fun r vw => ((r = true) → Q (0 : Int) vw) ∧
  ((r = false) → CallP Tryz.prog n_journal_Journal_first [.pointer vj] vw (ret1 (tI .u64) (fun r_1 vw_1 => Q r_1 vw_1)))))
theorem vc_journal_Journal_First (vj : Option Addr) (w : World) (Q : Int → World → Prop) (h : F_journal_Journal_First vj w Q) : CallP Tryz.prog n_journal_Journal_First [.pointer vj] w (ret1 (tI .u64) Q) := by
  unfold F_journal_Journal_First at h
  refine CallP.of_body 7 Tryz.func19 rfl Tryz.ntmps19 rfl ?_
  refine WC.seq ?_
  refine WC.region ?_
  refine WL.pure (W0 rfl) rfl (Pu.assign rfl rfl) ?_
  refine WL.nil ?_
  refine Lf.thenC ?_
  refine WC.seq ?_
  refine WC.seq ?_
  refine WC.region ?_
  refine WL.pure (W0 rfl) rfl (Pu.move rfl rfl) ?_
  refine WL.call (W0 rfl) rfl (fun xa hxa => run_call (fs := []) (cs := []) (vs := [.pointer vj]) rfl rfl rfl Tryz.func39 rfl rfl xa hxa _) h ?_
  rintro _ vw ⟨r, rfl, h⟩
  refine WL.nil ?_
  refine Lf.thenC ?_
  refine WC.cond rfl (fun hc => ?_) (fun hc => ?_)
  · replace h := h.1 hc
    refine WC.seq ?_
    refine WC.region ?_
    refine WL.pure (W0 rfl) rfl (Pu.assign rfl rfl) ?_
    refine WL.nil ?_
    refine Lf.thenC ?_
    refine WC.ret ?_
    exact Lf.ret1 rfl rfl ⟨_, rfl, h⟩
  · replace h := h.2 hc
    refine WC.skip ?_
    refine Lf.thenC ?_
    refine WC.seq ?_
    refine WC.region ?_
    refine WL.pure (W0 rfl) rfl (Pu.move rfl rfl) ?_
    refine WL.call (W0 rfl) rfl (fun xa hxa => run_call (fs := []) (cs := []) (vs := [.pointer vj]) rfl rfl rfl Tryz.func41 rfl rfl xa hxa _) h ?_
    rintro _ vw_1 ⟨r_1, rfl, h⟩
    refine WL.pure (W0 rfl) rfl (Pu.assign rfl rfl) ?_
    refine WL.nil ?_
    refine Lf.thenC ?_
    refine WC.ret ?_
    exact Lf.ret1 rfl rfl ⟨_, rfl, h⟩
end Go.Proofs.YtccebpahnnfceaaGreatDoor
