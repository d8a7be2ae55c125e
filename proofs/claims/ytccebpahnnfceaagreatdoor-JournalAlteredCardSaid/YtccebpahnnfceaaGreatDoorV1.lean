/- Verification conditions of functions. Written by vcgen.py. -/
import Derived.Test.YtccebpahnnfceaaGreatDoorVcT
namespace Go.Proofs.YtccebpahnnfceaaGreatDoor
open Go.Vc
set_option linter.unusedVariables false
set_option maxRecDepth 100000
/-- (*berthmaster/disk.Disk).asked -/
def F_disk_Disk_asked (d : Option Addr) (names : Sl) (w : World) (Q : Int → World → Prop) : Prop :=
  CallP Tryz.prog n_disk_Disk_none [.pointer d] w (ret1 tB (fun r vw => ((r = true) → Q (1 : Int) vw) ∧
  ((r = false) → nz d (fun b q => ld tB vw b (q + 4) (fun v => ((v = true) → Q (10 : Int) vw) ∧
  ((v = false) → LoopP (α := Int) (fun vi vw_1 vJ => ((vi < (names.len : Int)) → ixs names vi (fun b_1 q_1 => ld tS vw_1 b_1 (q_1 + (vi).toNat * 1) (fun v_1 => CallP Tryz.prog n_disk_named [.string v_1] vw_1 (ret1 tB (fun r_1 vw_2 => (((!r_1) = true) → Q (2 : Int) vw_2) ∧
  (((!r_1) = false) → vJ (IntKind.i64.wrap (vi + (1 : Int))) vw_2)))))) ∧
  ((¬ (vi < (names.len : Int))) → Q (0 : Int) vw_1)) (0 : Int) vw))))))
theorem vc_disk_Disk_asked (d : Option Addr) (names : Sl) (w : World) (Q : Int → World → Prop) (h : F_disk_Disk_asked d names w Q) : CallP Tryz.prog n_disk_Disk_asked [.pointer d, Sl.v names] w (ret1 (tI .i64) Q) := by
  unfold F_disk_Disk_asked at h
  refine CallP.of_body 25 Tryz.func33 rfl Tryz.ntmps33 rfl ?_
  refine WC.seq ?_
  refine WC.region ?_
  refine WL.pure (W0 rfl) rfl (Pu.assign rfl rfl) ?_
  refine WL.nil ?_
  refine Lf.thenC ?_
  refine WC.seq ?_
  refine WC.block ?_
  refine WC.seq ?_
  refine WC.region ?_
  refine WL.pure (W0 rfl) rfl (Pu.move rfl rfl) ?_
  refine WL.call (W0 rfl) rfl (fun xa hxa => run_call (fs := []) (cs := []) (vs := [.pointer d]) rfl rfl rfl Tryz.func37 rfl rfl xa hxa _) h ?_
  rintro _ vw ⟨r, rfl, h⟩
  refine WL.pure (W0 rfl) rfl (Pu.assign rfl rfl) ?_
  refine WL.nil ?_
  refine Lf.thenC ?_
  refine WC.cond rfl (fun hc => ?_) (fun hc => ?_)
  · replace h := h.1 hc
    refine WC.seq ?_
    refine WC.region ?_
    refine WL.pure (W0 rfl) rfl (Pu.assign rfl rfl) ?_
    refine WL.nil ?_
    refine Lf.thenC ?_
    refine WC.ret ?_
    exact Lf.ret1 rfl rfl ⟨_, rfl, h⟩
  · replace h := h.2 hc
    refine WC.seq ?_
    refine WC.region ?_
    refine WL.pure (W0 rfl) rfl (Pu.move rfl rfl) ?_
    obtain ⟨b, q, hp, h⟩ := h
    refine WL.pure (W0 rfl) rfl (Pu.nilCheck rfl (by exact pe hp)) ?_
    refine WL.pure (W0 rfl) rfl (Pu.fieldAddr 4 rfl Tryz.underlying57 rfl rfl nz_4 rfl) ?_
    obtain ⟨v, hl, h⟩ := h
    refine WL.val (W0 rfl) rfl (fun xa hxa => Rd.load ok_4 rfl rfl xa hxa _ hl) ?_
    refine WL.pure (W0 rfl) rfl (Pu.assign rfl rfl) ?_
    refine WL.nil ?_
    refine Lf.thenC ?_
    refine WC.cond rfl (fun hc => ?_) (fun hc => ?_)
    · replace h := h.1 hc
      refine WC.seq ?_
      refine WC.region ?_
      refine WL.pure (W0 rfl) rfl (Pu.assign rfl rfl) ?_
      refine WL.nil ?_
      refine Lf.thenC ?_
      refine WC.ret ?_
      exact Lf.ret1 rfl rfl ⟨_, rfl, h⟩
    · replace h := h.2 hc
      refine WC.skip ?_
      refine Lf.thenC ?_
      refine WC.seq ?_
      refine WC.seq ?_
      refine WC.region ?_
      refine WL.pure (W0 rfl) rfl (Pu.move rfl rfl) ?_
      refine WL.pure (W0 rfl) rfl (Pu.len rfl Tryz.underlying36 rfl) ?_
      refine WL.pure (W0 rfl) rfl (Pu.move rfl rfl) ?_
      refine WL.nil ?_
      refine Lf.thenC ?_
      refine WC.block ?_
      refine WC.loop (α := Int) (fun vi => [(17, .int .i64 vi), (15, Sl.v names), (16, .int .i64 (names.len : Int))]) (0 : Int) (by exact ⟨rfl, rfl, rfl, trivial⟩) h (fun vJ vi vw_1 h => ?_)
      refine WC.seq ?_
      refine WC.region ?_
      refine WL.pure (W0 rfl) rfl (Pu.lss rfl rfl rfl) ?_
      refine WL.nil ?_
      refine Lf.thenC ?_
      refine WC.seq ?_
      refine WC.condD rfl (fun hc => ?_) (fun hc => ?_)
      · replace h := h.1 hc
        refine WC.skip ?_
        refine Lf.thenC ?_
        refine WC.seq ?_
        refine WC.block ?_
        refine WC.seq ?_
        refine WC.region ?_
        obtain ⟨hi0, hi1, b_1, q_1, hs, h⟩ := h
        refine WL.pure (W0 rfl) rfl (Pu.indexAddr rfl Tryz.underlying36 sz_9 rfl rfl hs hi0 hi1) ?_
        obtain ⟨v_1, hl, h⟩ := h
        refine WL.val (W0 rfl) rfl (fun xa hxa => Rd.load ok_9 rfl rfl xa hxa _ hl) ?_
        refine WL.pure (W0 rfl) rfl (Pu.assign rfl rfl) ?_
        refine WL.nil ?_
        refine Lf.thenC ?_
        refine WC.seq ?_
        refine WC.region ?_
        refine WL.pure (W0 rfl) rfl (Pu.move rfl rfl) ?_
        refine WL.call (W0 rfl) rfl (fun xa hxa => run_call (fs := []) (cs := []) (vs := [.string v_1]) rfl rfl rfl Tryz.func38 rfl rfl xa hxa _) h ?_
        rintro _ vw_2 ⟨r_1, rfl, h⟩
        refine WL.pure (W0 rfl) rfl (Pu.not rfl rfl) ?_
        refine WL.nil ?_
        refine Lf.thenC ?_
        refine WC.cond rfl (fun hc => ?_) (fun hc => ?_)
        · replace h := h.1 hc
          refine WC.seq ?_
          refine WC.region ?_
          refine WL.pure (W0 rfl) rfl (Pu.assign rfl rfl) ?_
          refine WL.nil ?_
          refine Lf.thenC ?_
          refine WC.ret ?_
          exact Lf.ret1 rfl rfl ⟨_, rfl, h⟩
        · replace h := h.2 hc
          refine WC.skip ?_
          refine Lf.thenC ?_
          refine WC.region ?_
          refine WL.pure (W0 rfl) rfl (Pu.add rfl rfl rfl) ?_
          refine WL.pure (W0 rfl) rfl (Pu.move rfl rfl) ?_
          refine WL.nil ?_
          exact Lf.joinA (IntKind.i64.wrap (vi + (1 : Int))) (by exact ⟨rfl, rfl, rfl, trivial⟩) h
      · replace h := h.2 hc
        refine WC.exit rfl ?_
        refine Lf.thenC ?_
        refine WC.seq ?_
        refine WC.region ?_
        refine WL.pure (W0 rfl) rfl (Pu.assign rfl rfl) ?_
        refine WL.nil ?_
        refine Lf.thenC ?_
        refine WC.ret ?_
        exact Lf.ret1 rfl rfl ⟨_, rfl, h⟩
/-- (*berthmaster/disk.Disk).step -/
def F_disk_Disk_step (d : Option Addr) (vdo : V1) (w : World) (Q : Int → World → Prop) : Prop :=
  JoinP (α := Bool) (fun vj vw => ((vj = true) → nz d (fun b q => st tB vw b (q + 4) true (fun vw_1 => Q (10 : Int) vw_1))) ∧
  ((vj = false) → JoinP (α := Unit) (fun vj_1 vw_2 => nz d (fun b_1 q_1 => ld (tI .i64) vw_2 b_1 (q_1 + 5) (fun v => nz d (fun b_2 q_2 => st (tI .i64) vw_2 b_2 (q_2 + 5) (IntKind.i64.wrap (v + (1 : Int))) (fun vw_3 => CallV Tryz.prog (vdo.1) [] vw_3 (ret0 (fun vw_4 => Q (0 : Int) vw_4)))))))
  (fun vk_1 => nz d (fun b_3 q_3 => ld tB vw b_3 (q_3 + 2) (fun v_1 => ((v_1 = true) → nz d (fun b_4 q_4 => ld (tI .i64) vw b_4 (q_4 + 3) (fun v_2 => nz d (fun b_5 q_5 => st (tI .i64) vw b_5 (q_5 + 3) (IntKind.i64.wrap (v_2 - (1 : Int))) (fun vw_5 => vk_1 () vw_5))))) ∧
  ((v_1 = false) → vk_1 () vw))))))
  (fun vk => nz d (fun b_6 q_6 => ld tB w b_6 (q_6 + 2) (fun v_3 => ((v_3 = true) → nz d (fun b_7 q_7 => ld (tI .i64) w b_7 (q_7 + 3) (fun v_4 => vk (decide (v_4 = (0 : Int))) w))) ∧
  ((v_3 = false) → vk false w))))
theorem vc_disk_Disk_step (d : Option Addr) (vdo : V1) (w : World) (Q : Int → World → Prop) (h : F_disk_Disk_step d vdo w Q) : CallP Tryz.prog n_disk_Disk_step [.pointer d, vdo.1] w (ret1 (tI .i64) Q) := by
  unfold F_disk_Disk_step at h
  refine CallP.of_body 39 Tryz.func42 rfl Tryz.ntmps42 rfl ?_
  refine WC.seq ?_
  refine WC.region ?_
  refine WL.pure (W0 rfl) rfl (Pu.assign rfl rfl) ?_
  refine WL.nil ?_
  refine Lf.thenC ?_
  refine WC.seq ?_
  obtain ⟨vk, h2, h⟩ := h
  refine WC.cut (α := Bool) (k := vk) (fun vj => [(15, .bool vj), (0, .pointer d), (1, vdo.1)]) (fun vj vw h => ?_) ?_
  · replace h := h2 _ _ h
    clear h2
    refine WC.cond rfl (fun hc => ?_) (fun hc => ?_)
    · replace h := h.1 hc
      refine WC.seq ?_
      refine WC.region ?_
      refine WL.pure (W0 rfl) rfl (Pu.move rfl rfl) ?_
      obtain ⟨b, q, hp, h⟩ := h
      refine WL.pure (W0 rfl) rfl (Pu.nilCheck rfl (by exact pe hp)) ?_
      refine WL.pure (W0 rfl) rfl (Pu.fieldAddr 4 rfl Tryz.underlying57 rfl rfl nz_4 rfl) ?_
      refine WL.qs (W0 rfl) rfl (Rsq.store true ok_4 rfl rfl rfl h) ?_
      rintro vw_1 h
      refine WL.nil ?_
      refine Lf.thenC ?_
      refine WC.seq ?_
      refine WC.region ?_
      refine WL.pure (W0 rfl) rfl (Pu.assign rfl rfl) ?_
      refine WL.nil ?_
      refine Lf.thenC ?_
      refine WC.ret ?_
      exact Lf.ret1 rfl rfl ⟨_, rfl, h⟩
    · replace h := h.2 hc
      refine WC.skip ?_
      refine Lf.thenC ?_
      obtain ⟨vk_1, h2, h⟩ := h
      refine WC.cut (α := Unit) (k := vk_1) (fun vj_1 => [(0, .pointer d), (1, vdo.1)]) (fun vj_1 vw_2 h => ?_) ?_
      · replace h := h2 _ _ h
        clear h2
        refine WC.seq ?_
        refine WC.region ?_
        refine WL.pure (W0 rfl) rfl (Pu.move rfl rfl) ?_
        obtain ⟨b_1, q_1, hp_1, h⟩ := h
        refine WL.pure (W0 rfl) rfl (Pu.nilCheck rfl (by exact pe hp_1)) ?_
        refine WL.pure (W0 rfl) rfl (Pu.fieldAddr 5 rfl Tryz.underlying57 rfl rfl nz_3 rfl) ?_
        obtain ⟨v, hl, h⟩ := h
        refine WL.val (W0 rfl) rfl (fun xa hxa => Rd.load ok_3 rfl rfl xa hxa _ hl) ?_
        refine WL.pure (W0 rfl) rfl (Pu.add rfl rfl rfl) ?_
        obtain ⟨b_2, q_2, hp_2, h⟩ := h
        refine WL.pure (W0 rfl) rfl (Pu.nilCheck rfl (by exact pe hp_2)) ?_
        refine WL.pure (W0 rfl) rfl (Pu.fieldAddr 5 rfl Tryz.underlying57 rfl rfl nz_3 rfl) ?_
        refine WL.qs (W0 rfl) rfl (Rsq.store (IntKind.i64.wrap (v + (1 : Int))) ok_3 rfl rfl rfl h) ?_
        rintro vw_3 h
        refine WL.nil ?_
        refine Lf.thenC ?_
        refine WC.seq ?_
        refine WC.region ?_
        refine WL.pure (W0 rfl) rfl (Pu.move rfl rfl) ?_
        obtain ⟨f_, fs_, cs_, fn_, hg_, hf_, hb_, hn_, h⟩ := h
        refine WL.call (W0 rfl) rfl (fun xa hxa => run_call (fs := fs_) (cs := cs_) (vs := []) rfl (by exact congrArg some hg_) rfl hf_ hb_ hn_ xa hxa _) h ?_
        rintro _ vw_4 ⟨rfl, h⟩
        refine WL.nil ?_
        refine Lf.thenC ?_
        refine WC.seq ?_
        refine WC.region ?_
        refine WL.pure (W0 rfl) rfl (Pu.assign rfl rfl) ?_
        refine WL.nil ?_
        refine Lf.thenC ?_
        refine WC.ret ?_
        exact Lf.ret1 rfl rfl ⟨_, rfl, h⟩
      · clear h2
        refine WC.seq ?_
        refine WC.region ?_
        refine WL.pure (W0 rfl) rfl (Pu.move rfl rfl) ?_
        obtain ⟨b_3, q_3, hp_3, h⟩ := h
        refine WL.pure (W0 rfl) rfl (Pu.nilCheck rfl (by exact pe hp_3)) ?_
        refine WL.pure (W0 rfl) rfl (Pu.fieldAddr 2 rfl Tryz.underlying57 rfl rfl nz_4 rfl) ?_
        obtain ⟨v_1, hl, h⟩ := h
        refine WL.val (W0 rfl) rfl (fun xa hxa => Rd.load ok_4 rfl rfl xa hxa _ hl) ?_
        refine WL.nil ?_
        refine Lf.thenC ?_
        refine WC.cond rfl (fun hc => ?_) (fun hc => ?_)
        · replace h := h.1 hc
          refine WC.region ?_
          refine WL.pure (W0 rfl) rfl (Pu.move rfl rfl) ?_
          obtain ⟨b_4, q_4, hp_4, h⟩ := h
          refine WL.pure (W0 rfl) rfl (Pu.nilCheck rfl (by exact pe hp_4)) ?_
          refine WL.pure (W0 rfl) rfl (Pu.fieldAddr 3 rfl Tryz.underlying57 rfl rfl nz_3 rfl) ?_
          obtain ⟨v_2, hl, h⟩ := h
          refine WL.val (W0 rfl) rfl (fun xa hxa => Rd.load ok_3 rfl rfl xa hxa _ hl) ?_
          refine WL.pure (W0 rfl) rfl (Pu.sub rfl rfl rfl) ?_
          obtain ⟨b_5, q_5, hp_5, h⟩ := h
          refine WL.pure (W0 rfl) rfl (Pu.nilCheck rfl (by exact pe hp_5)) ?_
          refine WL.pure (W0 rfl) rfl (Pu.fieldAddr 3 rfl Tryz.underlying57 rfl rfl nz_3 rfl) ?_
          refine WL.qs (W0 rfl) rfl (Rsq.store (IntKind.i64.wrap (v_2 - (1 : Int))) ok_3 rfl rfl rfl h) ?_
          rintro vw_5 h
          refine WL.nil ?_
          exact Lf.joinA () (by exact ⟨rfl, rfl, trivial⟩) h
        · replace h := h.2 hc
          refine WC.skip ?_
          exact Lf.joinA () (by exact ⟨rfl, rfl, trivial⟩) h
  · clear h2
    refine WC.region ?_
    refine WL.pure (W0 rfl) rfl (Pu.move rfl rfl) ?_
    obtain ⟨b_6, q_6, hp_6, h⟩ := h
    refine WL.pure (W0 rfl) rfl (Pu.nilCheck rfl (by exact pe hp_6)) ?_
    refine WL.pure (W0 rfl) rfl (Pu.fieldAddr 2 rfl Tryz.underlying57 rfl rfl nz_4 rfl) ?_
    obtain ⟨v_3, hl, h⟩ := h
    refine WL.val (W0 rfl) rfl (fun xa hxa => Rd.load ok_4 rfl rfl xa hxa _ hl) ?_
    refine WL.pure (W0 rfl) rfl (Pu.move rfl rfl) ?_
    refine WL.bool (t := 9) rfl (fun hc => ?_) (fun hc => ?_)
    · replace h := h.1 hc
      refine WL.pure (W1 (t := 9) rfl rfl rfl rfl) rfl (Pu.move rfl rfl) ?_
      obtain ⟨b_7, q_7, hp_7, h⟩ := h
      refine WL.pure (W1 (t := 9) rfl rfl rfl rfl) rfl (Pu.nilCheck rfl (by exact pe hp_7)) ?_
      refine WL.pure (W1 (t := 9) rfl rfl rfl rfl) rfl (Pu.fieldAddr 3 rfl Tryz.underlying57 rfl rfl nz_3 rfl) ?_
      obtain ⟨v_4, hl, h⟩ := h
      refine WL.val (W1 (t := 9) rfl rfl rfl rfl) rfl (fun xa hxa => Rd.load ok_3 rfl rfl xa hxa _ hl) ?_
      refine WL.pure (W1 (t := 9) rfl rfl rfl rfl) rfl (Pu.eql rfl rfl rfl) ?_
      refine WL.pure (W0 rfl) rfl (Pu.pickT rfl rfl rfl) ?_
      refine WL.nil ?_
      exact Lf.joinA (decide (v_4 = (0 : Int))) (by exact ⟨rfl, rfl, rfl, trivial⟩) h
    · replace h := h.2 hc
      refine WL.unwanted (t := 9) rfl rfl rfl rfl rfl rfl ?_
      refine WL.unwanted (t := 9) rfl rfl rfl rfl rfl rfl ?_
      refine WL.unwanted (t := 9) rfl rfl rfl rfl rfl rfl ?_
      refine WL.unwanted (t := 9) rfl rfl rfl rfl rfl rfl ?_
      refine WL.unwanted (t := 9) rfl rfl rfl rfl rfl rfl ?_
      refine WL.pure (W0 rfl) rfl (Pu.pickF rfl rfl rfl) ?_
      refine WL.nil ?_
      exact Lf.joinA false (by exact ⟨rfl, rfl, rfl, trivial⟩) h
/-- (*berthmaster/disk.Disk).Make -/
def F_disk_Disk_Make (d : Option Addr) (name : ByteArray) (w : World) (Q : Int → World → Prop) : Prop :=
  al w [.pointer d] T_p_disk_Disk (fun b vw => al vw [.string name] T_string (fun b_1 vw_1 => ld tP vw_1 b 0 (fun v => ld tS vw_1 b_1 0 (fun v_1 => al vw_1 [.string v_1] T_string (fun b_2 vw_2 => CallP Tryz.prog n_disk_Disk_asked [.pointer v, Sl.v (⟨some ⟨b_2, 0, none⟩, 1, 1⟩ : Sl)] vw_2 (ret1 (tI .i64) (fun r vw_3 => ((r ≠ (0 : Int)) → Q r vw_3) ∧
  ((¬ (r ≠ (0 : Int))) → ld tP (dr vw_3) b 0 (fun v_2 => nz v_2 (fun b_3 q => ld tM (dr vw_3) b_3 (q + 0) (fun v_3 => ld tS (dr vw_3) b_1 0 (fun v_4 => ∃ v_5 : Option Addr, (Instr.lookup T_map_string_p_disk_file (.map v_3) (.string v_4) false).run Tryz.prog (dr vw_3) = .ok (.pointer v_5) (dr vw_3) ∧ (((!v_5.isNone) = true) → Q (7 : Int) (dr vw_3)) ∧
  (((!v_5.isNone) = false) → ld tP (dr vw_3) b 0 (fun v_6 => CallP Tryz.prog n_disk_Disk_step [.pointer v_6, .func (.func n_disk_Disk_Make_c1) [].toArray [.pointer (some ⟨b, 0, none⟩ : Option Addr), .pointer (some ⟨b_1, 0, none⟩ : Option Addr)].toArray] (dr vw_3) (ret1 (tI .i64) (fun r_1 vw_4 => Q r_1 vw_4))))))))))))))))
theorem vc_disk_Disk_Make (d : Option Addr) (name : ByteArray) (w : World) (Q : Int → World → Prop) (h : F_disk_Disk_Make d name w Q) : CallP Tryz.prog n_disk_Disk_Make [.pointer d, .string name] w (ret1 (tI .i64) Q) := by
  unfold F_disk_Disk_Make at h
  refine CallP.of_body 23 Tryz.func50 rfl Tryz.ntmps50 rfl ?_
  refine WC.seq ?_
  refine WC.region ?_
  refine WL.q (W0 rfl) rfl (Rq.box (cs := [.pointer d]) rfl rfl rfl h) ?_
  rintro _ vw ⟨b, rfl, h⟩
  refine WL.q (W0 rfl) rfl (Rq.box (cs := [.string name]) rfl rfl rfl h) ?_
  rintro _ vw_1 ⟨b_1, rfl, h⟩
  refine WL.pure (W0 rfl) rfl (Pu.assign rfl rfl) ?_
  refine WL.nil ?_
  refine Lf.thenC ?_
  refine WC.seq ?_
  refine WC.seq ?_
  refine WC.region ?_
  obtain ⟨v, hl, h⟩ := h
  refine WL.val (W0 rfl) rfl (fun xa hxa => Rd.load ok_25 rfl rfl xa hxa _ hl) ?_
  obtain ⟨v_1, hl, h⟩ := h
  refine WL.val (W0 rfl) rfl (fun xa hxa => Rd.load ok_9 rfl rfl xa hxa _ hl) ?_
  refine WL.q (W0 rfl) rfl (Rq.buildSlice (E := 9) (vs := [(0, .string v_1)]) (cs := [.string v_1]) rfl rfl (fun _ => by kernel_rfl) h) ?_
  rintro _ vw_2 ⟨b_2, rfl, h⟩
  refine WL.call (W0 rfl) rfl (fun xa hxa => run_call (fs := []) (cs := []) (vs := [.pointer v, Sl.v (⟨some ⟨b_2, 0, none⟩, 1, 1⟩ : Sl)]) rfl rfl rfl Tryz.func33 rfl rfl xa hxa _) h ?_
  rintro _ vw_3 ⟨r, rfl, h⟩
  refine WL.pure (W0 rfl) rfl (Pu.assign rfl rfl) ?_
  refine WL.nil ?_
  refine Lf.thenC ?_
  refine WC.seq ?_
  refine WC.region ?_
  refine WL.pure (W0 rfl) rfl (Pu.move rfl rfl) ?_
  refine WL.pure (W0 rfl) rfl (Pu.neq rfl rfl rfl) ?_
  refine WL.nil ?_
  refine Lf.thenC ?_
  refine WC.condD rfl (fun hc => ?_) (fun hc => ?_)
  · replace h := h.1 hc
    refine WC.seq ?_
    refine WC.region ?_
    refine WL.pure (W0 rfl) rfl (Pu.move rfl rfl) ?_
    refine WL.pure (W0 rfl) rfl (Pu.assign rfl rfl) ?_
    refine WL.nil ?_
    refine Lf.thenC ?_
    refine WC.ret ?_
    exact Lf.ret1 rfl rfl ⟨_, rfl, h⟩
  · replace h := h.2 hc
    refine WC.skip ?_
    refine Lf.thenC ?_
    refine WC.seq ?_
    refine WC.seq ?_
    refine WC.draw [(0, false), (1, false), (2, false), (3, false), (4, false), (5, false), (6, false)] mixed (by kernel_rfl) ?_
    obtain ⟨v_2, hl, h⟩ := h
    refine DL.read _ rfl (W0 rfl) rfl (Rd.load ok_25 rfl rfl) hl ?_
    obtain ⟨b_3, q, hp, h⟩ := h
    refine DL.pure rfl (W0 rfl) rfl (Pu.nilCheck rfl (by exact pe hp)) ?_
    refine DL.pure rfl (W0 rfl) rfl (Pu.fieldAddr 0 rfl Tryz.underlying57 rfl rfl nz_55 rfl) ?_
    obtain ⟨v_3, hl, h⟩ := h
    refine DL.read _ rfl (W0 rfl) rfl (Rd.load ok_55 rfl rfl) hl ?_
    obtain ⟨v_4, hl, h⟩ := h
    refine DL.read _ rfl (W0 rfl) rfl (Rd.load ok_9 rfl rfl) hl ?_
    obtain ⟨v_5, hr, h⟩ := h
    refine DL.read (fun w => (Instr.lookup T_map_string_p_disk_file (.map v_3) (.string v_4) false).run Tryz.prog w = .ok (.pointer v_5) w) rfl (W0 rfl) rfl (fun xa hxa xw hr => Rn.lookup rfl rfl rfl hr xa hxa) hr ?_
    refine DL.pure rfl (W0 rfl) rfl (Pu.pnnil rfl Tryz.underlying78 rfl) ?_
    refine DL.nil ?_
    refine Lf.thenC ?_
    refine WC.cond rfl (fun hc => ?_) (fun hc => ?_)
    · replace h := h.1 hc
      refine WC.seq ?_
      refine WC.region ?_
      refine WL.pure (W0 rfl) rfl (Pu.assign rfl rfl) ?_
      refine WL.nil ?_
      refine Lf.thenC ?_
      refine WC.ret ?_
      exact Lf.ret1 rfl rfl ⟨_, rfl, h⟩
    · replace h := h.2 hc
      refine WC.skip ?_
      refine Lf.thenC ?_
      refine WC.seq ?_
      refine WC.region ?_
      obtain ⟨v_6, hl, h⟩ := h
      refine WL.val (W0 rfl) rfl (fun xa hxa => Rd.load ok_25 rfl rfl xa hxa _ hl) ?_
      refine WL.pure (W0 rfl) rfl (Pu.makeFunc (fs := []) (cs := [.pointer (some ⟨b, 0, none⟩ : Option Addr), .pointer (some ⟨b_1, 0, none⟩ : Option Addr)]) rfl rfl rfl) ?_
      refine WL.call (W0 rfl) rfl (fun xa hxa => run_call (fs := []) (cs := []) (vs := [.pointer v_6, .func (.func n_disk_Disk_Make_c1) [].toArray [.pointer (some ⟨b, 0, none⟩ : Option Addr), .pointer (some ⟨b_1, 0, none⟩ : Option Addr)].toArray]) rfl rfl rfl Tryz.func42 rfl rfl xa hxa _) h ?_
      rintro _ vw_4 ⟨r_1, rfl, h⟩
      refine WL.pure (W0 rfl) rfl (Pu.assign rfl rfl) ?_
      refine WL.nil ?_
      refine Lf.thenC ?_
      refine WC.ret ?_
      exact Lf.ret1 rfl rfl ⟨_, rfl, h⟩
/-- (*berthmaster/disk.Disk).Make$1 -/
def F_disk_Disk_Make_c1 (c : Option Addr) (c_1 : Option Addr) (w : World) (Q : World → Prop) : Prop :=
  nz c (fun b q => ld tP (dr w) b q (fun v => nz v (fun b_1 q_1 => ld tM (dr w) b_1 (q_1 + 0) (fun v_1 => nz c_1 (fun b_2 q_2 => ld tS (dr w) b_2 q_2 (fun v_2 => al (dr w) [.slice ((⟨(⟨none, 0, 0⟩ : Sl), (0 : Int)⟩ : S_disk_file).f_b).a ((⟨(⟨none, 0, 0⟩ : Sl), (0 : Int)⟩ : S_disk_file).f_b).len ((⟨(⟨none, 0, 0⟩ : Sl), (0 : Int)⟩ : S_disk_file).f_b).cap, .int .i64 ((⟨(⟨none, 0, 0⟩ : Sl), (0 : Int)⟩ : S_disk_file).f_synced)] T_disk_file (fun b_3 vw => (CellsAt vw b_2 q_2 (Ty.cells tS v_2) ∧ CellsAt vw b_1 (q_1 + 0) (Ty.cells tM v_1) ∧ CellsAt vw b q (Ty.cells tP v)) ∧ RunU Tryz.prog (Instr.mapUpdate T_map_string_p_disk_file (.map v_1) (.string v_2) (.pointer (some ⟨b_3, 0, none⟩ : Option Addr))) vw (fun vw_1 => Q vw_1))))))))
theorem vc_disk_Disk_Make_c1 (c : Option Addr) (c_1 : Option Addr) (w : World) (Q : World → Prop) (h : F_disk_Disk_Make_c1 c c_1 w Q) : CallP Tryz.prog n_disk_Disk_Make_c1 [.pointer c, .pointer c_1] w (ret0 Q) := by
  unfold F_disk_Disk_Make_c1 at h
  refine CallP.of_body 9 Tryz.func68 rfl Tryz.ntmps68 rfl ?_
  refine WC.draw [(0, false), (1, false), (2, false), (3, false), (4, false), (5, false), (6, true), (7, true)] mixed (by kernel_rfl) ?_
  obtain ⟨b, q, hp, h⟩ := h
  obtain ⟨v, hl, h⟩ := h
  refine DL.read _ rfl (W0 rfl) rfl (Rd.load ok_25 rfl (by exact pe hp)) hl ?_
  obtain ⟨b_1, q_1, hp_1, h⟩ := h
  refine DL.pure rfl (W0 rfl) rfl (Pu.nilCheck rfl (by exact pe hp_1)) ?_
  refine DL.pure rfl (W0 rfl) rfl (Pu.fieldAddr 0 rfl Tryz.underlying57 rfl rfl nz_55 rfl) ?_
  obtain ⟨v_1, hl, h⟩ := h
  refine DL.read _ rfl (W0 rfl) rfl (Rd.load ok_55 rfl rfl) hl ?_
  obtain ⟨b_2, q_2, hp_2, h⟩ := h
  obtain ⟨v_2, hl, h⟩ := h
  refine DL.read _ rfl (W0 rfl) rfl (Rd.load ok_9 rfl (by exact pe hp_2)) hl ?_
  refine DL.pure rfl (W0 rfl) rfl (Pu.build (vs := []) (v := ty_disk_file.val (⟨(⟨none, 0, 0⟩ : Sl), (0 : Int)⟩ : S_disk_file)) rfl rfl (fun _ => by kernel_rfl)) ?_
  refine DL.q rfl (W0 rfl) rfl (Rq.box (cs := [.slice ((⟨(⟨none, 0, 0⟩ : Sl), (0 : Int)⟩ : S_disk_file).f_b).a ((⟨(⟨none, 0, 0⟩ : Sl), (0 : Int)⟩ : S_disk_file).f_b).len ((⟨(⟨none, 0, 0⟩ : Sl), (0 : Int)⟩ : S_disk_file).f_b).cap, .int .i64 ((⟨(⟨none, 0, 0⟩ : Sl), (0 : Int)⟩ : S_disk_file).f_synced)]) rfl rfl rfl h) ?_
  rintro _ vw ⟨b_3, rfl, h⟩
  obtain ⟨hk, h⟩ := h
  refine ⟨(by exact ⟨.inr hk.1, ⟨.inr hk.2.1, ⟨.inr hk.2.2, trivial⟩⟩⟩), ?_⟩
  obtain ⟨vw_1, hr, h⟩ := h
  refine DL.skp rfl (W0 rfl) rfl (Rs.mapUpdate rfl rfl rfl rfl hr) (by exact ⟨.inl (by kernel_rfl), ⟨.inl (by kernel_rfl), ⟨.inl (by kernel_rfl), trivial⟩⟩⟩) ?_
  refine DL.nil ?_
  exact Lf.ret0 rfl ⟨rfl, h⟩
/-- (*berthmaster/disk.Disk).find -/
def F_disk_Disk_find (d : Option Addr) (name : ByteArray) (w : World) (Q : Option Addr → Int → World → Prop) : Prop :=
  al w [.string name] T_string (fun b vw => CallP Tryz.prog n_disk_Disk_asked [.pointer d, Sl.v (⟨some ⟨b, 0, none⟩, 1, 1⟩ : Sl)] vw (ret1 (tI .i64) (fun r vw_1 => ((r ≠ (0 : Int)) → Q (none : Option Addr) r vw_1) ∧
  ((¬ (r ≠ (0 : Int))) → nz d (fun b_1 q => ld tM vw_1 b_1 (q + 0) (fun v => ∃ v_1 : Option Addr, (Instr.lookup T_map_string_p_disk_file (.map v) (.string name) false).run Tryz.prog vw_1 = .ok (.pointer v_1) vw_1 ∧ ((v_1.isNone = true) → Q (none : Option Addr) (6 : Int) vw_1) ∧
  ((v_1.isNone = false) → Q v_1 (0 : Int) vw_1)))))))
theorem vc_disk_Disk_find (d : Option Addr) (name : ByteArray) (w : World) (Q : Option Addr → Int → World → Prop) (h : F_disk_Disk_find d name w Q) : CallP Tryz.prog n_disk_Disk_find [.pointer d, .string name] w (ret2 tP (tI .i64) Q) := by
  unfold F_disk_Disk_find at h
  refine CallP.of_body 24 Tryz.func36 rfl Tryz.ntmps36 rfl ?_
  refine WC.seq ?_
  refine WC.region ?_
  refine WL.pure (W0 rfl) rfl (Pu.assign rfl rfl) ?_
  refine WL.pure (W0 rfl) rfl (Pu.assign rfl rfl) ?_
  refine WL.nil ?_
  refine Lf.thenC ?_
  refine WC.seq ?_
  refine WC.seq ?_
  refine WC.region ?_
  refine WL.pure (W0 rfl) rfl (Pu.move rfl rfl) ?_
  refine WL.pure (W0 rfl) rfl (Pu.move rfl rfl) ?_
  refine WL.q (W0 rfl) rfl (Rq.buildSlice (E := 9) (vs := [(0, .string name)]) (cs := [.string name]) rfl rfl (fun _ => by kernel_rfl) h) ?_
  rintro _ vw ⟨b, rfl, h⟩
  refine WL.call (W0 rfl) rfl (fun xa hxa => run_call (fs := []) (cs := []) (vs := [.pointer d, Sl.v (⟨some ⟨b, 0, none⟩, 1, 1⟩ : Sl)]) rfl rfl rfl Tryz.func33 rfl rfl xa hxa _) h ?_
  rintro _ vw_1 ⟨r, rfl, h⟩
  refine WL.pure (W0 rfl) rfl (Pu.assign rfl rfl) ?_
  refine WL.nil ?_
  refine Lf.thenC ?_
  refine WC.seq ?_
  refine WC.region ?_
  refine WL.pure (W0 rfl) rfl (Pu.move rfl rfl) ?_
  refine WL.pure (W0 rfl) rfl (Pu.neq rfl rfl rfl) ?_
  refine WL.nil ?_
  refine Lf.thenC ?_
  refine WC.condD rfl (fun hc => ?_) (fun hc => ?_)
  · replace h := h.1 hc
    refine WC.seq ?_
    refine WC.region ?_
    refine WL.pure (W0 rfl) rfl (Pu.move rfl rfl) ?_
    refine WL.pure (W0 rfl) rfl (Pu.assign rfl rfl) ?_
    refine WL.pure (W0 rfl) rfl (Pu.assign rfl rfl) ?_
    refine WL.nil ?_
    refine Lf.thenC ?_
    refine WC.ret ?_
    exact Lf.ret2 rfl rfl rfl ⟨_, _, rfl, h⟩
  · replace h := h.2 hc
    refine WC.skip ?_
    refine Lf.thenC ?_
    refine WC.seq ?_
    refine WC.region ?_
    refine WL.pure (W0 rfl) rfl (Pu.move rfl rfl) ?_
    obtain ⟨b_1, q, hp, h⟩ := h
    refine WL.pure (W0 rfl) rfl (Pu.nilCheck rfl (by exact pe hp)) ?_
    refine WL.pure (W0 rfl) rfl (Pu.fieldAddr 0 rfl Tryz.underlying57 rfl rfl nz_55 rfl) ?_
    obtain ⟨v, hl, h⟩ := h
    refine WL.val (W0 rfl) rfl (fun xa hxa => Rd.load ok_55 rfl rfl xa hxa _ hl) ?_
    refine WL.pure (W0 rfl) rfl (Pu.move rfl rfl) ?_
    obtain ⟨v_1, hr, h⟩ := h
    refine WL.val (W0 rfl) rfl (Rn.lookup rfl rfl rfl hr) ?_
    refine WL.pure (W0 rfl) rfl (Pu.assign rfl rfl) ?_
    refine WL.nil ?_
    refine Lf.thenC ?_
    refine WC.seq ?_
    refine WC.seq ?_
    refine WC.region ?_
    refine WL.pure (W0 rfl) rfl (Pu.move rfl rfl) ?_
    refine WL.pure (W0 rfl) rfl (Pu.pnil rfl Tryz.underlying78 rfl) ?_
    refine WL.nil ?_
    refine Lf.thenC ?_
    refine WC.cond rfl (fun hc => ?_) (fun hc => ?_)
    · replace h := h.1 hc
      refine WC.seq ?_
      refine WC.region ?_
      refine WL.pure (W0 rfl) rfl (Pu.assign rfl rfl) ?_
      refine WL.pure (W0 rfl) rfl (Pu.assign rfl rfl) ?_
      refine WL.nil ?_
      refine Lf.thenC ?_
      refine WC.ret ?_
      exact Lf.ret2 rfl rfl rfl ⟨_, _, rfl, h⟩
    · replace h := h.2 hc
      refine WC.skip ?_
      refine Lf.thenC ?_
      refine WC.seq ?_
      refine WC.region ?_
      refine WL.pure (W0 rfl) rfl (Pu.move rfl rfl) ?_
      refine WL.pure (W0 rfl) rfl (Pu.assign rfl rfl) ?_
      refine WL.pure (W0 rfl) rfl (Pu.assign rfl rfl) ?_
      refine WL.nil ?_
      refine Lf.thenC ?_
      refine WC.ret ?_
      exact Lf.ret2 rfl rfl rfl ⟨_, _, rfl, h⟩
/-- (*berthmaster/disk.Disk).left -/
def F_disk_Disk_left (d : Option Addr) (w : World) (Q : Int → World → Prop) : Prop :=
  nz d (fun b q => ld (tI .i64) w b (q + 1) (fun v => nz d (fun b_1 q_1 => ld tM w b_1 (q_1 + 0) (fun v_1 => RunV Tryz.prog (Instr.range T_map_string_p_disk_file (.map v_1)) w (ret1 tP (fun it vw => LoopP (α := Int) (fun vi vw_1 vJ => (∃ vw_2, (Instr.next (.pointer it) false 0).run Tryz.prog vw_1 = .ok (.tuple [.bool false].toArray) vw_2 ∧ Q vi vw_2) ∨
  (∃ rs vw_3, (Instr.next (.pointer it) false 0).run Tryz.prog vw_1 = .ok (.tuple (.bool true :: rs).toArray) vw_3 ∧ RunV Tryz.prog (Instr.entry (.pointer it)) vw_3 (ret2 tS tP (fun key elem vw_4 => nz elem (fun b_2 q_2 => ld tSl vw_4 b_2 (q_2 + 0) (fun v_2 => vJ (IntKind.i64.wrap (vi - (v_2.len : Int))) vw_4)))))) v vw))))))
theorem vc_disk_Disk_left (d : Option Addr) (w : World) (Q : Int → World → Prop) (h : F_disk_Disk_left d w Q) : CallP Tryz.prog n_disk_Disk_left [.pointer d] w (ret1 (tI .i64) Q) := by
  unfold F_disk_Disk_left at h
  refine CallP.of_body 27 Tryz.func54 rfl Tryz.ntmps54 rfl ?_
  refine WC.seq ?_
  refine WC.region ?_
  refine WL.pure (W0 rfl) rfl (Pu.assign rfl rfl) ?_
  refine WL.nil ?_
  refine Lf.thenC ?_
  refine WC.seq ?_
  refine WC.region ?_
  refine WL.pure (W0 rfl) rfl (Pu.move rfl rfl) ?_
  obtain ⟨b, q, hp, h⟩ := h
  refine WL.pure (W0 rfl) rfl (Pu.nilCheck rfl (by exact pe hp)) ?_
  refine WL.pure (W0 rfl) rfl (Pu.fieldAddr 1 rfl Tryz.underlying57 rfl rfl nz_3 rfl) ?_
  obtain ⟨v, hl, h⟩ := h
  refine WL.val (W0 rfl) rfl (fun xa hxa => Rd.load ok_3 rfl rfl xa hxa _ hl) ?_
  refine WL.pure (W0 rfl) rfl (Pu.assign rfl rfl) ?_
  refine WL.nil ?_
  refine Lf.thenC ?_
  refine WC.seq ?_
  refine WC.seq ?_
  refine WC.region ?_
  refine WL.pure (W0 rfl) rfl (Pu.move rfl rfl) ?_
  obtain ⟨b_1, q_1, hp_1, h⟩ := h
  refine WL.pure (W0 rfl) rfl (Pu.nilCheck rfl (by exact pe hp_1)) ?_
  refine WL.pure (W0 rfl) rfl (Pu.fieldAddr 0 rfl Tryz.underlying57 rfl rfl nz_55 rfl) ?_
  obtain ⟨v_1, hl, h⟩ := h
  refine WL.val (W0 rfl) rfl (fun xa hxa => Rd.load ok_55 rfl rfl xa hxa _ hl) ?_
  obtain ⟨_, vw, hr, it, rfl, h⟩ := h
  refine WL.val (W0 rfl) rfl (Rn.range rfl rfl hr) ?_
  refine WL.nil ?_
  refine Lf.thenC ?_
  refine WC.block ?_
  refine WC.loop (α := Int) (fun vi => [(3, .int .i64 vi), (14, .pointer it)]) v (by exact ⟨rfl, rfl, trivial⟩) h (fun vJ vi vw_1 h => ?_)
  refine WC.seq ?_
  refine WC.region ?_
  rcases h with ⟨vw_2, hr, h⟩ | ⟨rs, vw_3, hr, h⟩
  · refine WL.val (W0 rfl) rfl (Rn.next rfl rfl hr) ?_
    refine WL.pure (W0 rfl) rfl (Pu.extract (vs := [.bool false]) rfl rfl rfl) ?_
    refine WL.nil ?_
    refine Lf.thenC ?_
    refine WC.seq ?_
    refine WC.condF rfl ?_
    refine WC.exit rfl ?_
    refine Lf.thenC ?_
    refine WC.seq ?_
    refine WC.region ?_
    refine WL.pure (W0 rfl) rfl (Pu.move rfl rfl) ?_
    refine WL.pure (W0 rfl) rfl (Pu.assign rfl rfl) ?_
    refine WL.nil ?_
    refine Lf.thenC ?_
    refine WC.ret ?_
    exact Lf.ret1 rfl rfl ⟨_, rfl, h⟩
  · refine WL.val (W0 rfl) rfl (Rn.next rfl rfl hr) ?_
    refine WL.pure (W0 rfl) rfl (Pu.extract (vs := (.bool true :: rs)) rfl rfl rfl) ?_
    refine WL.nil ?_
    refine Lf.thenC ?_
    refine WC.seq ?_
    refine WC.condT rfl ?_
    refine WC.skip ?_
    refine Lf.thenC ?_
    refine WC.block ?_
    refine WC.seq ?_
    refine WC.region ?_
    obtain ⟨_, vw_4, hr, key, elem, rfl, h⟩ := h
    refine WL.val (W0 rfl) rfl (Rn.entry rfl rfl hr) ?_
    refine WL.pure (W0 rfl) rfl (Pu.extract (vs := [.string key, .pointer elem]) rfl rfl rfl) ?_
    refine WL.pure (W0 rfl) rfl (Pu.assign rfl rfl) ?_
    refine WL.nil ?_
    refine Lf.thenC ?_
    refine WC.region ?_
    refine WL.pure (W0 rfl) rfl (Pu.move rfl rfl) ?_
    refine WL.pure (W0 rfl) rfl (Pu.move rfl rfl) ?_
    obtain ⟨b_2, q_2, hp_2, h⟩ := h
    refine WL.pure (W0 rfl) rfl (Pu.nilCheck rfl (by exact pe hp_2)) ?_
    refine WL.pure (W0 rfl) rfl (Pu.fieldAddr 0 rfl Tryz.underlying83 rfl rfl nz_32 rfl) ?_
    obtain ⟨v_2, hl, h⟩ := h
    refine WL.val (W0 rfl) rfl (fun xa hxa => Rd.load ok_32 rfl rfl xa hxa _ hl) ?_
    refine WL.pure (W0 rfl) rfl (Pu.len rfl Tryz.underlying32 rfl) ?_
    refine WL.pure (W0 rfl) rfl (Pu.sub rfl rfl rfl) ?_
    refine WL.pure (W0 rfl) rfl (Pu.assign rfl rfl) ?_
    refine WL.nil ?_
    exact Lf.joinA (IntKind.i64.wrap (vi - (v_2.len : Int))) (by exact ⟨rfl, rfl, trivial⟩) h
/-- (*berthmaster/disk.Disk).Append -/
def F_disk_Disk_Append (d : Option Addr) (name : ByteArray) (b : Sl) (w : World) (Q : Int → World → Prop) : Prop :=
  al w [.slice b.a b.len b.cap] T_sl_uint8 (fun b_1 vw => CallP Tryz.prog n_disk_Disk_find [.pointer d, .string name] vw (ret2 tP (tI .i64) (fun r r_1 vw_1 => al vw_1 [.pointer (none : Option Addr)] T_p_disk_file (fun b_2 vw_2 => st tP vw_2 b_2 0 r (fun vw_3 => ((r_1 ≠ (0 : Int)) → Q r_1 vw_3) ∧
  ((¬ (r_1 ≠ (0 : Int))) → ld tSl (dr vw_3) b_1 0 (fun v => CallP Tryz.prog n_disk_Disk_left [.pointer d] (dr vw_3) (ret1 (tI .i64) (fun r_2 vw_4 => (CellsAt vw_4 b_1 0 (Ty.cells tSl v)) ∧ ((r_2 < (v.len : Int)) → Q (8 : Int) vw_4) ∧
  ((¬ (r_2 < (v.len : Int))) → LoopP (α := Unit) (fun vi vw_5 vJ => ld tSl vw_5 b_1 0 (fun v_1 => (((0 : Int) < (v_1.len : Int)) → ld tSl vw_5 b_1 0 (fun v_2 => al vw_5 [.int .i64 (0 : Int)] T_int (fun b_3 vw_6 => st (tI .i64) vw_6 b_3 0 (if (64 : Int) < (v_2.len : Int) then (64 : Int) else (v_2.len : Int)) (fun vw_7 => CallP Tryz.prog n_disk_Disk_step [.pointer d, .func (.func n_disk_Disk_Append_c1) [].toArray [.pointer (some ⟨b_2, 0, none⟩ : Option Addr), .pointer (some ⟨b_1, 0, none⟩ : Option Addr), .pointer (some ⟨b_3, 0, none⟩ : Option Addr)].toArray] vw_7 (ret1 (tI .i64) (fun r_3 vw_8 => ((r_3 ≠ (0 : Int)) → Q r_3 vw_8) ∧
  ((¬ (r_3 ≠ (0 : Int))) → ld tSl vw_8 b_1 0 (fun v_3 => ld (tI .i64) vw_8 b_3 0 (fun v_4 => 0 ≤ v_4 ∧ v_4 ≤ (v_3.len : Int) ∧ (v_3.len : Int) ≤ (v_3.cap : Int) ∧ (v_3.cap : Int) ≤ (v_3.cap : Int) ∧ st tSl vw_8 b_1 0 (slS v_3 v_4 (v_3.len : Int) (v_3.cap : Int) 1) (fun vw_9 => vJ () vw_9)))))))))) ∧
  ((¬ ((0 : Int) < (v_1.len : Int))) → Q (0 : Int) vw_5))) () vw_4))))))))))
theorem vc_disk_Disk_Append (d : Option Addr) (name : ByteArray) (b : Sl) (w : World) (Q : Int → World → Prop) (h : F_disk_Disk_Append d name b w Q) : CallP Tryz.prog n_disk_Disk_Append [.pointer d, .string name, Sl.v b] w (ret1 (tI .i64) Q) := by
  unfold F_disk_Disk_Append at h
  refine CallP.of_body 40 Tryz.func30 rfl Tryz.ntmps30 rfl ?_
  refine WC.seq ?_
  refine WC.region ?_
  refine WL.q (W0 rfl) rfl (Rq.box (cs := [.slice b.a b.len b.cap]) rfl rfl rfl h) ?_
  rintro _ vw ⟨b_1, rfl, h⟩
  refine WL.pure (W0 rfl) rfl (Pu.assign rfl rfl) ?_
  refine WL.nil ?_
  refine Lf.thenC ?_
  refine WC.seq ?_
  refine WC.region ?_
  refine WL.pure (W0 rfl) rfl (Pu.move rfl rfl) ?_
  refine WL.pure (W0 rfl) rfl (Pu.move rfl rfl) ?_
  refine WL.call (W0 rfl) rfl (fun xa hxa => run_call (fs := []) (cs := []) (vs := [.pointer d, .string name]) rfl rfl rfl Tryz.func36 rfl rfl xa hxa _) h ?_
  rintro _ vw_1 ⟨r, r_1, rfl, h⟩
  refine WL.pure (W0 rfl) rfl (Pu.move rfl rfl) ?_
  refine WL.pure (W0 rfl) rfl (Pu.extract (vs := [.pointer r, .int .i64 r_1]) rfl rfl rfl) ?_
  refine WL.pure (W0 rfl) rfl (Pu.extract (vs := [.pointer r, .int .i64 r_1]) rfl rfl rfl) ?_
  refine WL.q (W0 rfl) rfl (Rq.alloc (cs := [.pointer (none : Option Addr)]) rfl (z := .pointer (none : Option Addr)) (by kernel_rfl) rfl h) ?_
  rintro _ vw_2 ⟨b_2, rfl, h⟩
  refine WL.qs (W0 rfl) rfl (Rsq.store r ok_78 rfl rfl rfl h) ?_
  rintro vw_3 h
  refine WL.pure (W0 rfl) rfl (Pu.assign rfl rfl) ?_
  refine WL.nil ?_
  refine Lf.thenC ?_
  refine WC.seq ?_
  refine WC.seq ?_
  refine WC.region ?_
  refine WL.pure (W0 rfl) rfl (Pu.move rfl rfl) ?_
  refine WL.pure (W0 rfl) rfl (Pu.neq rfl rfl rfl) ?_
  refine WL.nil ?_
  refine Lf.thenC ?_
  refine WC.condD rfl (fun hc => ?_) (fun hc => ?_)
  · replace h := h.1 hc
    refine WC.seq ?_
    refine WC.region ?_
    refine WL.pure (W0 rfl) rfl (Pu.move rfl rfl) ?_
    refine WL.pure (W0 rfl) rfl (Pu.assign rfl rfl) ?_
    refine WL.nil ?_
    refine Lf.thenC ?_
    refine WC.ret ?_
    exact Lf.ret1 rfl rfl ⟨_, rfl, h⟩
  · replace h := h.2 hc
    refine WC.skip ?_
    refine Lf.thenC ?_
    refine WC.seq ?_
    refine WC.seq ?_
    refine WC.draw [(0, false), (1, false), (2, false), (3, true), (4, false)] mixed (by kernel_rfl) ?_
    obtain ⟨v, hl, h⟩ := h
    refine DL.read _ rfl (W0 rfl) rfl (Rd.load ok_32 rfl rfl) hl ?_
    refine DL.pure rfl (W0 rfl) rfl (Pu.len rfl Tryz.underlying32 rfl) ?_
    refine DL.pure rfl (W0 rfl) rfl (Pu.move rfl rfl) ?_
    refine DL.call rfl (W0 rfl) rfl (fun xa hxa => run_call (fs := []) (cs := []) (vs := [.pointer d]) rfl rfl rfl Tryz.func54 rfl rfl xa hxa _) h ?_
    rintro _ vw_4 ⟨r_2, rfl, h⟩
    obtain ⟨hk, h⟩ := h
    refine ⟨(by exact ⟨.inr hk, trivial⟩), ?_⟩
    refine DL.pure rfl (W0 rfl) rfl (Pu.gtr rfl rfl rfl) ?_
    refine DL.nil ?_
    refine Lf.thenC ?_
    refine WC.condD rfl (fun hc => ?_) (fun hc => ?_)
    · replace h := h.1 hc
      refine WC.seq ?_
      refine WC.region ?_
      refine WL.pure (W0 rfl) rfl (Pu.assign rfl rfl) ?_
      refine WL.nil ?_
      refine Lf.thenC ?_
      refine WC.ret ?_
      exact Lf.ret1 rfl rfl ⟨_, rfl, h⟩
    · replace h := h.2 hc
      refine WC.skip ?_
      refine Lf.thenC ?_
      refine WC.seq ?_
      refine WC.block ?_
      refine WC.loop (α := Unit) (fun vi => [(0, .pointer d), (5, .pointer (some ⟨b_1, 0, none⟩ : Option Addr)), (7, .pointer (some ⟨b_2, 0, none⟩ : Option Addr))]) () (by exact ⟨rfl, rfl, rfl, trivial⟩) h (fun vJ vi vw_5 h => ?_)
      refine WC.seq ?_
      refine WC.seq ?_
      refine WC.region ?_
      obtain ⟨v_1, hl, h⟩ := h
      refine WL.val (W0 rfl) rfl (fun xa hxa => Rd.load ok_32 rfl rfl xa hxa _ hl) ?_
      refine WL.pure (W0 rfl) rfl (Pu.len rfl Tryz.underlying32 rfl) ?_
      refine WL.pure (W0 rfl) rfl (Pu.gtr rfl rfl rfl) ?_
      refine WL.nil ?_
      refine Lf.thenC ?_
      refine WC.condD rfl (fun hc => ?_) (fun hc => ?_)
      · replace h := h.1 hc
        refine WC.skip ?_
        refine Lf.thenC ?_
        refine WC.block ?_
        refine WC.seq ?_
        refine WC.region ?_
        obtain ⟨v_2, hl, h⟩ := h
        refine WL.val (W0 rfl) rfl (fun xa hxa => Rd.load ok_32 rfl rfl xa hxa _ hl) ?_
        refine WL.pure (W0 rfl) rfl (Pu.len rfl Tryz.underlying32 rfl) ?_
        refine WL.pure (W0 rfl) rfl (Pu.min rfl rfl rfl) ?_
        refine WL.q (W0 rfl) rfl (Rq.alloc (cs := [.int .i64 (0 : Int)]) rfl (z := .int .i64 (0 : Int)) (by kernel_rfl) rfl h) ?_
        rintro _ vw_6 ⟨b_3, rfl, h⟩
        refine WL.qs (W0 rfl) rfl (Rsq.store (if (64 : Int) < (v_2.len : Int) then (64 : Int) else (v_2.len : Int)) ok_3 rfl rfl rfl h) ?_
        rintro vw_7 h
        refine WL.nil ?_
        refine Lf.thenC ?_
        refine WC.seq ?_
        refine WC.seq ?_
        refine WC.region ?_
        refine WL.pure (W0 rfl) rfl (Pu.move rfl rfl) ?_
        refine WL.pure (W0 rfl) rfl (Pu.makeFunc (fs := []) (cs := [.pointer (some ⟨b_2, 0, none⟩ : Option Addr), .pointer (some ⟨b_1, 0, none⟩ : Option Addr), .pointer (some ⟨b_3, 0, none⟩ : Option Addr)]) rfl rfl rfl) ?_
        refine WL.call (W0 rfl) rfl (fun xa hxa => run_call (fs := []) (cs := []) (vs := [.pointer d, .func (.func n_disk_Disk_Append_c1) [].toArray [.pointer (some ⟨b_2, 0, none⟩ : Option Addr), .pointer (some ⟨b_1, 0, none⟩ : Option Addr), .pointer (some ⟨b_3, 0, none⟩ : Option Addr)].toArray]) rfl rfl rfl Tryz.func42 rfl rfl xa hxa _) h ?_
        rintro _ vw_8 ⟨r_3, rfl, h⟩
        refine WL.pure (W0 rfl) rfl (Pu.assign rfl rfl) ?_
        refine WL.nil ?_
        refine Lf.thenC ?_
        refine WC.seq ?_
        refine WC.region ?_
        refine WL.pure (W0 rfl) rfl (Pu.move rfl rfl) ?_
        refine WL.pure (W0 rfl) rfl (Pu.neq rfl rfl rfl) ?_
        refine WL.nil ?_
        refine Lf.thenC ?_
        refine WC.condD rfl (fun hc => ?_) (fun hc => ?_)
        · replace h := h.1 hc
          refine WC.seq ?_
          refine WC.region ?_
          refine WL.pure (W0 rfl) rfl (Pu.move rfl rfl) ?_
          refine WL.pure (W0 rfl) rfl (Pu.assign rfl rfl) ?_
          refine WL.nil ?_
          refine Lf.thenC ?_
          refine WC.ret ?_
          exact Lf.ret1 rfl rfl ⟨_, rfl, h⟩
        · replace h := h.2 hc
          refine WC.skip ?_
          refine Lf.thenC ?_
          refine WC.region ?_
          obtain ⟨v_3, hl, h⟩ := h
          refine WL.val (W0 rfl) rfl (fun xa hxa => Rd.load ok_32 rfl rfl xa hxa _ hl) ?_
          obtain ⟨v_4, hl, h⟩ := h
          refine WL.val (W0 rfl) rfl (fun xa hxa => Rd.load ok_3 rfl rfl xa hxa _ hl) ?_
          obtain ⟨hi0, hi1, hi2, hi3, h⟩ := h
          refine WL.pure (W0 rfl) rfl (Pu.slice rfl Tryz.underlying32 sz_5 rfl rfl rfl rfl rfl hi0 hi1 hi2 hi3) ?_
          refine WL.qs (W0 rfl) rfl (Rsq.store (slS v_3 v_4 (v_3.len : Int) (v_3.cap : Int) 1) ok_32 rfl rfl rfl h) ?_
          rintro vw_9 h
          refine WL.nil ?_
          exact Lf.joinA () (by exact ⟨rfl, rfl, rfl, trivial⟩) h
      · replace h := h.2 hc
        refine WC.exit rfl ?_
        refine Lf.thenC ?_
        refine WC.seq ?_
        refine WC.region ?_
        refine WL.pure (W0 rfl) rfl (Pu.assign rfl rfl) ?_
        refine WL.nil ?_
        refine Lf.thenC ?_
        refine WC.ret ?_
        exact Lf.ret1 rfl rfl ⟨_, rfl, h⟩
/-- (*berthmaster/disk.Disk).Append$1 -/
def F_disk_Disk_Append_c1 (c : Option Addr) (c_1 : Option Addr) (c_2 : Option Addr) (w : World) (Q : World → Prop) : Prop :=
  nz c (fun b q => ld tP (dr w) b q (fun v => nz c (fun b_1 q_1 => ld tP (dr w) b_1 q_1 (fun v_1 => nz v_1 (fun b_2 q_2 => ld tSl (dr w) b_2 (q_2 + 0) (fun v_2 => nz c_1 (fun b_3 q_3 => ld tSl (dr w) b_3 q_3 (fun v_3 => nz c_2 (fun b_4 q_4 => ld (tI .i64) (dr w) b_4 q_4 (fun v_4 => 0 ≤ (0 : Int) ∧ (0 : Int) ≤ v_4 ∧ v_4 ≤ (v_3.cap : Int) ∧ (v_3.cap : Int) ≤ (v_3.cap : Int) ∧ RunV Tryz.prog (Builtin.append_ #[T_sl_uint8, T_sl_uint8] T_sl_uint8 #[Sl.v v_2, Sl.v (slS v_3 (0 : Int) v_4 (v_3.cap : Int) 1)]) (dr w) (ret1 tSl (fun v_5 vw => (CellsAt vw b q (Ty.cells tP v)) ∧ nz v (fun b_5 q_5 => st tSl vw b_5 (q_5 + 0) v_5 (fun vw_1 => Q vw_1))))))))))))))
theorem vc_disk_Disk_Append_c1 (c : Option Addr) (c_1 : Option Addr) (c_2 : Option Addr) (w : World) (Q : World → Prop) (h : F_disk_Disk_Append_c1 c c_1 c_2 w Q) : CallP Tryz.prog n_disk_Disk_Append_c1 [.pointer c, .pointer c_1, .pointer c_2] w (ret0 Q) := by
  unfold F_disk_Disk_Append_c1 at h
  refine CallP.of_body 14 Tryz.func55 rfl Tryz.ntmps55 rfl ?_
  refine WC.draw [(0, false), (1, false), (2, false), (3, false), (4, false), (5, false), (6, false), (7, false), (8, true), (9, false), (10, false), (11, true)] mixed (by kernel_rfl) ?_
  obtain ⟨b, q, hp, h⟩ := h
  obtain ⟨v, hl, h⟩ := h
  refine DL.read _ rfl (W0 rfl) rfl (Rd.load ok_78 rfl (by exact pe hp)) hl ?_
  obtain ⟨b_1, q_1, hp_1, h⟩ := h
  obtain ⟨v_1, hl, h⟩ := h
  refine DL.read _ rfl (W0 rfl) rfl (Rd.load ok_78 rfl (by exact pe hp_1)) hl ?_
  obtain ⟨b_2, q_2, hp_2, h⟩ := h
  refine DL.pure rfl (W0 rfl) rfl (Pu.nilCheck rfl (by exact pe hp_2)) ?_
  refine DL.pure rfl (W0 rfl) rfl (Pu.fieldAddr 0 rfl Tryz.underlying83 rfl rfl nz_32 rfl) ?_
  obtain ⟨v_2, hl, h⟩ := h
  refine DL.read _ rfl (W0 rfl) rfl (Rd.load ok_32 rfl rfl) hl ?_
  obtain ⟨b_3, q_3, hp_3, h⟩ := h
  obtain ⟨v_3, hl, h⟩ := h
  refine DL.read _ rfl (W0 rfl) rfl (Rd.load ok_32 rfl (by exact pe hp_3)) hl ?_
  obtain ⟨b_4, q_4, hp_4, h⟩ := h
  obtain ⟨v_4, hl, h⟩ := h
  refine DL.read _ rfl (W0 rfl) rfl (Rd.load ok_3 rfl (by exact pe hp_4)) hl ?_
  obtain ⟨hi0, hi1, hi2, hi3, h⟩ := h
  refine DL.pure rfl (W0 rfl) rfl (Pu.slice rfl Tryz.underlying32 sz_5 rfl rfl rfl rfl rfl hi0 hi1 hi2 hi3) ?_
  obtain ⟨_, vw, hr, v_5, rfl, h⟩ := h
  obtain ⟨hk, h⟩ := h
  refine DL.val rfl (W0 rfl) rfl (Rn.append rfl rfl rfl hr) (by exact ⟨.inl (by kernel_rfl), ⟨.inl (by kernel_rfl), ⟨.inl (by kernel_rfl), ⟨.inl (by kernel_rfl), ⟨.inr hk, trivial⟩⟩⟩⟩⟩) ?_
  obtain ⟨b_5, q_5, hp_5, h⟩ := h
  refine DL.pure rfl (W0 rfl) rfl (Pu.nilCheck rfl (by exact pe hp_5)) ?_
  refine DL.pure rfl (W0 rfl) rfl (Pu.fieldAddr 0 rfl Tryz.underlying83 rfl rfl nz_32 rfl) ?_
  refine DL.qs rfl (W0 rfl) rfl (Rsq.store v_5 ok_32 rfl rfl rfl h) ?_
  rintro vw_1 h
  refine ⟨(by exact ⟨.inl (by kernel_rfl), ⟨.inl (by kernel_rfl), ⟨.inl (by kernel_rfl), ⟨.inl (by kernel_rfl), ⟨.inl (by kernel_rfl), trivial⟩⟩⟩⟩⟩), ?_⟩
  refine DL.nil ?_
  exact Lf.ret0 rfl ⟨rfl, h⟩
/-- (*berthmaster/disk.Disk).Sync -/
def F_disk_Disk_Sync (d : Option Addr) (name : ByteArray) (w : World) (Q : Int → World → Prop) : Prop :=
  CallP Tryz.prog n_disk_Disk_find [.pointer d, .string name] w (ret2 tP (tI .i64) (fun r r_1 vw => al vw [.pointer (none : Option Addr)] T_p_disk_file (fun b vw_1 => st tP vw_1 b 0 r (fun vw_2 => ((r_1 ≠ (0 : Int)) → Q r_1 vw_2) ∧
  ((¬ (r_1 ≠ (0 : Int))) → CallP Tryz.prog n_disk_Disk_step [.pointer d, .func (.func n_disk_Disk_Sync_c1) [].toArray [.pointer (some ⟨b, 0, none⟩ : Option Addr)].toArray] vw_2 (ret1 (tI .i64) (fun r_2 vw_3 => Q r_2 vw_3)))))))
theorem vc_disk_Disk_Sync (d : Option Addr) (name : ByteArray) (w : World) (Q : Int → World → Prop) (h : F_disk_Disk_Sync d name w Q) : CallP Tryz.prog n_disk_Disk_Sync [.pointer d, .string name] w (ret1 (tI .i64) Q) := by
  unfold F_disk_Disk_Sync at h
  refine CallP.of_body 19 Tryz.func23 rfl Tryz.ntmps23 rfl ?_
  refine WC.seq ?_
  refine WC.region ?_
  refine WL.pure (W0 rfl) rfl (Pu.assign rfl rfl) ?_
  refine WL.nil ?_
  refine Lf.thenC ?_
  refine WC.seq ?_
  refine WC.region ?_
  refine WL.pure (W0 rfl) rfl (Pu.move rfl rfl) ?_
  refine WL.pure (W0 rfl) rfl (Pu.move rfl rfl) ?_
  refine WL.call (W0 rfl) rfl (fun xa hxa => run_call (fs := []) (cs := []) (vs := [.pointer d, .string name]) rfl rfl rfl Tryz.func36 rfl rfl xa hxa _) h ?_
  rintro _ vw ⟨r, r_1, rfl, h⟩
  refine WL.pure (W0 rfl) rfl (Pu.move rfl rfl) ?_
  refine WL.pure (W0 rfl) rfl (Pu.extract (vs := [.pointer r, .int .i64 r_1]) rfl rfl rfl) ?_
  refine WL.pure (W0 rfl) rfl (Pu.extract (vs := [.pointer r, .int .i64 r_1]) rfl rfl rfl) ?_
  refine WL.q (W0 rfl) rfl (Rq.alloc (cs := [.pointer (none : Option Addr)]) rfl (z := .pointer (none : Option Addr)) (by kernel_rfl) rfl h) ?_
  rintro _ vw_1 ⟨b, rfl, h⟩
  refine WL.qs (W0 rfl) rfl (Rsq.store r ok_78 rfl rfl rfl h) ?_
  rintro vw_2 h
  refine WL.pure (W0 rfl) rfl (Pu.assign rfl rfl) ?_
  refine WL.nil ?_
  refine Lf.thenC ?_
  refine WC.seq ?_
  refine WC.seq ?_
  refine WC.region ?_
  refine WL.pure (W0 rfl) rfl (Pu.move rfl rfl) ?_
  refine WL.pure (W0 rfl) rfl (Pu.neq rfl rfl rfl) ?_
  refine WL.nil ?_
  refine Lf.thenC ?_
  refine WC.condD rfl (fun hc => ?_) (fun hc => ?_)
  · replace h := h.1 hc
    refine WC.seq ?_
    refine WC.region ?_
    refine WL.pure (W0 rfl) rfl (Pu.move rfl rfl) ?_
    refine WL.pure (W0 rfl) rfl (Pu.assign rfl rfl) ?_
    refine WL.nil ?_
    refine Lf.thenC ?_
    refine WC.ret ?_
    exact Lf.ret1 rfl rfl ⟨_, rfl, h⟩
  · replace h := h.2 hc
    refine WC.skip ?_
    refine Lf.thenC ?_
    refine WC.seq ?_
    refine WC.region ?_
    refine WL.pure (W0 rfl) rfl (Pu.move rfl rfl) ?_
    refine WL.pure (W0 rfl) rfl (Pu.makeFunc (fs := []) (cs := [.pointer (some ⟨b, 0, none⟩ : Option Addr)]) rfl rfl rfl) ?_
    refine WL.call (W0 rfl) rfl (fun xa hxa => run_call (fs := []) (cs := []) (vs := [.pointer d, .func (.func n_disk_Disk_Sync_c1) [].toArray [.pointer (some ⟨b, 0, none⟩ : Option Addr)].toArray]) rfl rfl rfl Tryz.func42 rfl rfl xa hxa _) h ?_
    rintro _ vw_3 ⟨r_2, rfl, h⟩
    refine WL.pure (W0 rfl) rfl (Pu.assign rfl rfl) ?_
    refine WL.nil ?_
    refine Lf.thenC ?_
    refine WC.ret ?_
    exact Lf.ret1 rfl rfl ⟨_, rfl, h⟩
/-- (*berthmaster/disk.Disk).Sync$1 -/
def F_disk_Disk_Sync_c1 (c : Option Addr) (w : World) (Q : World → Prop) : Prop :=
  nz c (fun b q => ld tP (dr w) b q (fun v => nz c (fun b_1 q_1 => ld tP (dr w) b_1 q_1 (fun v_1 => nz v_1 (fun b_2 q_2 => ld tSl (dr w) b_2 (q_2 + 0) (fun v_2 => nz v (fun b_3 q_3 => st (tI .i64) (dr w) b_3 (q_3 + 1) (v_2.len : Int) (fun vw => Q vw))))))))
theorem vc_disk_Disk_Sync_c1 (c : Option Addr) (w : World) (Q : World → Prop) (h : F_disk_Disk_Sync_c1 c w Q) : CallP Tryz.prog n_disk_Disk_Sync_c1 [.pointer c] w (ret0 Q) := by
  unfold F_disk_Disk_Sync_c1 at h
  refine CallP.of_body 9 Tryz.func43 rfl Tryz.ntmps43 rfl ?_
  refine WC.draw [(0, false), (1, false), (2, false), (3, false), (4, false), (5, false), (6, false), (7, false), (8, true)] mixed (by kernel_rfl) ?_
  obtain ⟨b, q, hp, h⟩ := h
  obtain ⟨v, hl, h⟩ := h
  refine DL.read _ rfl (W0 rfl) rfl (Rd.load ok_78 rfl (by exact pe hp)) hl ?_
  obtain ⟨b_1, q_1, hp_1, h⟩ := h
  obtain ⟨v_1, hl, h⟩ := h
  refine DL.read _ rfl (W0 rfl) rfl (Rd.load ok_78 rfl (by exact pe hp_1)) hl ?_
  obtain ⟨b_2, q_2, hp_2, h⟩ := h
  refine DL.pure rfl (W0 rfl) rfl (Pu.nilCheck rfl (by exact pe hp_2)) ?_
  refine DL.pure rfl (W0 rfl) rfl (Pu.fieldAddr 0 rfl Tryz.underlying83 rfl rfl nz_32 rfl) ?_
  obtain ⟨v_2, hl, h⟩ := h
  refine DL.read _ rfl (W0 rfl) rfl (Rd.load ok_32 rfl rfl) hl ?_
  refine DL.pure rfl (W0 rfl) rfl (Pu.len rfl Tryz.underlying32 rfl) ?_
  obtain ⟨b_3, q_3, hp_3, h⟩ := h
  refine DL.pure rfl (W0 rfl) rfl (Pu.nilCheck rfl (by exact pe hp_3)) ?_
  refine DL.pure rfl (W0 rfl) rfl (Pu.fieldAddr 1 rfl Tryz.underlying83 rfl rfl nz_3 rfl) ?_
  refine DL.qs rfl (W0 rfl) rfl (Rsq.store (v_2.len : Int) ok_3 rfl rfl rfl h) ?_
  rintro vw h
  refine ⟨(by exact ⟨.inl (by kernel_rfl), ⟨.inl (by kernel_rfl), ⟨.inl (by kernel_rfl), trivial⟩⟩⟩), ?_⟩
  refine DL.nil ?_
  exact Lf.ret0 rfl ⟨rfl, h⟩
/-- (*berthmaster/disk.Disk).Rename -/
def F_disk_Disk_Rename (d : Option Addr) (vfrom : ByteArray) (to : ByteArray) (w : World) (Q : Int → World → Prop) : Prop :=
  al w [.pointer d] T_p_disk_Disk (fun b vw => al vw [.string vfrom] T_string (fun b_1 vw_1 => al vw_1 [.string to] T_string (fun b_2 vw_2 => ld tP vw_2 b 0 (fun v => ld tS vw_2 b_1 0 (fun v_1 => ld tS vw_2 b_2 0 (fun v_2 => al vw_2 [.string v_1, .string v_2] T_string (fun b_3 vw_3 => CallP Tryz.prog n_disk_Disk_asked [.pointer v, Sl.v (⟨some ⟨b_3, 0, none⟩, 2, 2⟩ : Sl)] vw_3 (ret1 (tI .i64) (fun r vw_4 => ((r ≠ (0 : Int)) → Q r vw_4) ∧
  ((¬ (r ≠ (0 : Int))) → ld tP (dr vw_4) b 0 (fun v_3 => nz v_3 (fun b_4 q => ld tM (dr vw_4) b_4 (q + 0) (fun v_4 => ld tS (dr vw_4) b_1 0 (fun v_5 => ∃ v_6 : Option Addr, (Instr.lookup T_map_string_p_disk_file (.map v_4) (.string v_5) false).run Tryz.prog (dr vw_4) = .ok (.pointer v_6) (dr vw_4) ∧ al (dr vw_4) [.pointer (none : Option Addr)] T_p_disk_file (fun b_5 vw_5 => ((Instr.lookup T_map_string_p_disk_file (.map v_4) (.string v_5) false).run Tryz.prog vw_5 = .ok (.pointer v_6) vw_5 ∧ CellsAt vw_5 b_1 0 (Ty.cells tS v_5) ∧ CellsAt vw_5 b_4 (q + 0) (Ty.cells tM v_4) ∧ CellsAt vw_5 b 0 (Ty.cells tP v_3)) ∧ st tP vw_5 b_5 0 v_6 (fun vw_6 => ld tP vw_6 b_5 0 (fun v_7 => ((v_7.isNone = true) → Q (6 : Int) vw_6) ∧
  ((v_7.isNone = false) → ld tS vw_6 b_1 0 (fun v_8 => ld tS vw_6 b_2 0 (fun v_9 => ((v_8 = v_9) → Q (0 : Int) vw_6) ∧
  ((¬ (v_8 = v_9)) → ld tP vw_6 b 0 (fun v_10 => CallP Tryz.prog n_disk_Disk_step [.pointer v_10, .func (.func n_disk_Disk_Rename_c1) [].toArray [.pointer (some ⟨b, 0, none⟩ : Option Addr), .pointer (some ⟨b_1, 0, none⟩ : Option Addr), .pointer (some ⟨b_5, 0, none⟩ : Option Addr), .pointer (some ⟨b_2, 0, none⟩ : Option Addr)].toArray] vw_6 (ret1 (tI .i64) (fun r_1 vw_7 => Q r_1 vw_7))))))))))))))))))))))))
theorem vc_disk_Disk_Rename (d : Option Addr) (vfrom : ByteArray) (to : ByteArray) (w : World) (Q : Int → World → Prop) (h : F_disk_Disk_Rename d vfrom to w Q) : CallP Tryz.prog n_disk_Disk_Rename [.pointer d, .string vfrom, .string to] w (ret1 (tI .i64) Q) := by
  unfold F_disk_Disk_Rename at h
  refine CallP.of_body 33 Tryz.func67 rfl Tryz.ntmps67 rfl ?_
  refine WC.seq ?_
  refine WC.region ?_
  refine WL.q (W0 rfl) rfl (Rq.box (cs := [.pointer d]) rfl rfl rfl h) ?_
  rintro _ vw ⟨b, rfl, h⟩
  refine WL.q (W0 rfl) rfl (Rq.box (cs := [.string vfrom]) rfl rfl rfl h) ?_
  rintro _ vw_1 ⟨b_1, rfl, h⟩
  refine WL.q (W0 rfl) rfl (Rq.box (cs := [.string to]) rfl rfl rfl h) ?_
  rintro _ vw_2 ⟨b_2, rfl, h⟩
  refine WL.pure (W0 rfl) rfl (Pu.assign rfl rfl) ?_
  refine WL.nil ?_
  refine Lf.thenC ?_
  refine WC.seq ?_
  refine WC.seq ?_
  refine WC.region ?_
  obtain ⟨v, hl, h⟩ := h
  refine WL.val (W0 rfl) rfl (fun xa hxa => Rd.load ok_25 rfl rfl xa hxa _ hl) ?_
  obtain ⟨v_1, hl, h⟩ := h
  refine WL.val (W0 rfl) rfl (fun xa hxa => Rd.load ok_9 rfl rfl xa hxa _ hl) ?_
  obtain ⟨v_2, hl, h⟩ := h
  refine WL.val (W0 rfl) rfl (fun xa hxa => Rd.load ok_9 rfl rfl xa hxa _ hl) ?_
  refine WL.q (W0 rfl) rfl (Rq.buildSlice (E := 9) (vs := [(0, .string v_1), (1, .string v_2)]) (cs := [.string v_1, .string v_2]) rfl rfl (fun _ => by kernel_rfl) h) ?_
  rintro _ vw_3 ⟨b_3, rfl, h⟩
  refine WL.call (W0 rfl) rfl (fun xa hxa => run_call (fs := []) (cs := []) (vs := [.pointer v, Sl.v (⟨some ⟨b_3, 0, none⟩, 2, 2⟩ : Sl)]) rfl rfl rfl Tryz.func33 rfl rfl xa hxa _) h ?_
  rintro _ vw_4 ⟨r, rfl, h⟩
  refine WL.pure (W0 rfl) rfl (Pu.assign rfl rfl) ?_
  refine WL.nil ?_
  refine Lf.thenC ?_
  refine WC.seq ?_
  refine WC.region ?_
  refine WL.pure (W0 rfl) rfl (Pu.move rfl rfl) ?_
  refine WL.pure (W0 rfl) rfl (Pu.neq rfl rfl rfl) ?_
  refine WL.nil ?_
  refine Lf.thenC ?_
  refine WC.condD rfl (fun hc => ?_) (fun hc => ?_)
  · replace h := h.1 hc
    refine WC.seq ?_
    refine WC.region ?_
    refine WL.pure (W0 rfl) rfl (Pu.move rfl rfl) ?_
    refine WL.pure (W0 rfl) rfl (Pu.assign rfl rfl) ?_
    refine WL.nil ?_
    refine Lf.thenC ?_
    refine WC.ret ?_
    exact Lf.ret1 rfl rfl ⟨_, rfl, h⟩
  · replace h := h.2 hc
    refine WC.skip ?_
    refine Lf.thenC ?_
    refine WC.seq ?_
    refine WC.draw [(0, false), (1, false), (2, false), (3, false), (4, false), (5, false), (6, true), (7, true)] mixed (by kernel_rfl) ?_
    obtain ⟨v_3, hl, h⟩ := h
    refine DL.read _ rfl (W0 rfl) rfl (Rd.load ok_25 rfl rfl) hl ?_
    obtain ⟨b_4, q, hp, h⟩ := h
    refine DL.pure rfl (W0 rfl) rfl (Pu.nilCheck rfl (by exact pe hp)) ?_
    refine DL.pure rfl (W0 rfl) rfl (Pu.fieldAddr 0 rfl Tryz.underlying57 rfl rfl nz_55 rfl) ?_
    obtain ⟨v_4, hl, h⟩ := h
    refine DL.read _ rfl (W0 rfl) rfl (Rd.load ok_55 rfl rfl) hl ?_
    obtain ⟨v_5, hl, h⟩ := h
    refine DL.read _ rfl (W0 rfl) rfl (Rd.load ok_9 rfl rfl) hl ?_
    obtain ⟨v_6, hr, h⟩ := h
    refine DL.read (fun w => (Instr.lookup T_map_string_p_disk_file (.map v_4) (.string v_5) false).run Tryz.prog w = .ok (.pointer v_6) w) rfl (W0 rfl) rfl (fun xa hxa xw hr => Rn.lookup rfl rfl rfl hr xa hxa) hr ?_
    refine DL.q rfl (W0 rfl) rfl (Rq.alloc (cs := [.pointer (none : Option Addr)]) rfl (z := .pointer (none : Option Addr)) (by kernel_rfl) rfl h) ?_
    rintro _ vw_5 ⟨b_5, rfl, h⟩
    obtain ⟨hk, h⟩ := h
    refine ⟨(by exact ⟨.inr hk.1, ⟨.inr hk.2.1, ⟨.inr hk.2.2.1, ⟨.inr hk.2.2.2, trivial⟩⟩⟩⟩), ?_⟩
    refine DL.qs rfl (W0 rfl) rfl (Rsq.store v_6 ok_78 rfl rfl rfl h) ?_
    rintro vw_6 h
    refine ⟨(by exact ⟨.inl (by kernel_rfl), ⟨.inl (by kernel_rfl), ⟨.inl (by kernel_rfl), ⟨.inl (by kernel_rfl), trivial⟩⟩⟩⟩), ?_⟩
    refine DL.nil ?_
    refine Lf.thenC ?_
    refine WC.seq ?_
    refine WC.block ?_
    refine WC.seq ?_
    refine WC.region ?_
    obtain ⟨v_7, hl, h⟩ := h
    refine WL.val (W0 rfl) rfl (fun xa hxa => Rd.load ok_78 rfl rfl xa hxa _ hl) ?_
    refine WL.pure (W0 rfl) rfl (Pu.pnil rfl Tryz.underlying78 rfl) ?_
    refine WL.pure (W0 rfl) rfl (Pu.assign rfl rfl) ?_
    refine WL.nil ?_
    refine Lf.thenC ?_
    refine WC.cond rfl (fun hc => ?_) (fun hc => ?_)
    · replace h := h.1 hc
      refine WC.seq ?_
      refine WC.region ?_
      refine WL.pure (W0 rfl) rfl (Pu.assign rfl rfl) ?_
      refine WL.nil ?_
      refine Lf.thenC ?_
      refine WC.ret ?_
      exact Lf.ret1 rfl rfl ⟨_, rfl, h⟩
    · replace h := h.2 hc
      refine WC.seq ?_
      refine WC.region ?_
      obtain ⟨v_8, hl, h⟩ := h
      refine WL.val (W0 rfl) rfl (fun xa hxa => Rd.load ok_9 rfl rfl xa hxa _ hl) ?_
      obtain ⟨v_9, hl, h⟩ := h
      refine WL.val (W0 rfl) rfl (fun xa hxa => Rd.load ok_9 rfl rfl xa hxa _ hl) ?_
      refine WL.pure (W0 rfl) rfl (Pu.seql rfl rfl rfl) ?_
      refine WL.pure (W0 rfl) rfl (Pu.assign rfl rfl) ?_
      refine WL.nil ?_
      refine Lf.thenC ?_
      refine WC.condD rfl (fun hc => ?_) (fun hc => ?_)
      · replace h := h.1 hc
        refine WC.seq ?_
        refine WC.region ?_
        refine WL.pure (W0 rfl) rfl (Pu.assign rfl rfl) ?_
        refine WL.nil ?_
        refine Lf.thenC ?_
        refine WC.ret ?_
        exact Lf.ret1 rfl rfl ⟨_, rfl, h⟩
      · replace h := h.2 hc
        refine WC.skip ?_
        refine Lf.thenC ?_
        refine WC.seq ?_
        refine WC.region ?_
        obtain ⟨v_10, hl, h⟩ := h
        refine WL.val (W0 rfl) rfl (fun xa hxa => Rd.load ok_25 rfl rfl xa hxa _ hl) ?_
        refine WL.pure (W0 rfl) rfl (Pu.makeFunc (fs := []) (cs := [.pointer (some ⟨b, 0, none⟩ : Option Addr), .pointer (some ⟨b_1, 0, none⟩ : Option Addr), .pointer (some ⟨b_5, 0, none⟩ : Option Addr), .pointer (some ⟨b_2, 0, none⟩ : Option Addr)]) rfl rfl rfl) ?_
        refine WL.call (W0 rfl) rfl (fun xa hxa => run_call (fs := []) (cs := []) (vs := [.pointer v_10, .func (.func n_disk_Disk_Rename_c1) [].toArray [.pointer (some ⟨b, 0, none⟩ : Option Addr), .pointer (some ⟨b_1, 0, none⟩ : Option Addr), .pointer (some ⟨b_5, 0, none⟩ : Option Addr), .pointer (some ⟨b_2, 0, none⟩ : Option Addr)].toArray]) rfl rfl rfl Tryz.func42 rfl rfl xa hxa _) h ?_
        rintro _ vw_7 ⟨r_1, rfl, h⟩
        refine WL.pure (W0 rfl) rfl (Pu.assign rfl rfl) ?_
        refine WL.nil ?_
        refine Lf.thenC ?_
        refine WC.ret ?_
        exact Lf.ret1 rfl rfl ⟨_, rfl, h⟩
/-- (*berthmaster/disk.Disk).Rename$1 -/
def F_disk_Disk_Rename_c1 (c : Option Addr) (c_1 : Option Addr) (c_2 : Option Addr) (c_3 : Option Addr) (w : World) (Q : World → Prop) : Prop :=
  nz c (fun b q => ld tP (dr w) b q (fun v => nz v (fun b_1 q_1 => ld tM (dr w) b_1 (q_1 + 0) (fun v_1 => nz c_1 (fun b_2 q_2 => ld tS (dr w) b_2 q_2 (fun v_2 => RunV Tryz.prog (Builtin.delete_ #[T_map_string_p_disk_file, T_string] T_ #[.map v_1, .string v_2]) (dr w) (ret0 (fun vw => nz c (fun b_3 q_3 => ld tP (dr vw) b_3 q_3 (fun v_3 => nz v_3 (fun b_4 q_4 => ld tM (dr vw) b_4 (q_4 + 0) (fun v_4 => nz c_3 (fun b_5 q_5 => ld tS (dr vw) b_5 q_5 (fun v_5 => nz c_2 (fun b_6 q_6 => ld tP (dr vw) b_6 q_6 (fun v_6 => RunU Tryz.prog (Instr.mapUpdate T_map_string_p_disk_file (.map v_4) (.string v_5) (.pointer v_6)) (dr vw) (fun vw_1 => Q vw_1)))))))))))))))))
theorem vc_disk_Disk_Rename_c1 (c : Option Addr) (c_1 : Option Addr) (c_2 : Option Addr) (c_3 : Option Addr) (w : World) (Q : World → Prop) (h : F_disk_Disk_Rename_c1 c c_1 c_2 c_3 w Q) : CallP Tryz.prog n_disk_Disk_Rename_c1 [.pointer c, .pointer c_1, .pointer c_2, .pointer c_3] w (ret0 Q) := by
  unfold F_disk_Disk_Rename_c1 at h
  refine CallP.of_body 15 Tryz.func94 rfl Tryz.ntmps94 rfl ?_
  refine WC.seq ?_
  refine WC.draw [(0, false), (1, false), (2, false), (3, false), (4, false), (5, true)] mixed (by kernel_rfl) ?_
  obtain ⟨b, q, hp, h⟩ := h
  obtain ⟨v, hl, h⟩ := h
  refine DL.read _ rfl (W0 rfl) rfl (Rd.load ok_25 rfl (by exact pe hp)) hl ?_
  obtain ⟨b_1, q_1, hp_1, h⟩ := h
  refine DL.pure rfl (W0 rfl) rfl (Pu.nilCheck rfl (by exact pe hp_1)) ?_
  refine DL.pure rfl (W0 rfl) rfl (Pu.fieldAddr 0 rfl Tryz.underlying57 rfl rfl nz_55 rfl) ?_
  obtain ⟨v_1, hl, h⟩ := h
  refine DL.read _ rfl (W0 rfl) rfl (Rd.load ok_55 rfl rfl) hl ?_
  obtain ⟨b_2, q_2, hp_2, h⟩ := h
  obtain ⟨v_2, hl, h⟩ := h
  refine DL.read _ rfl (W0 rfl) rfl (Rd.load ok_9 rfl (by exact pe hp_2)) hl ?_
  obtain ⟨_, vw, hr, rfl, h⟩ := h
  refine DL.val rfl (W0 rfl) rfl (Rn.delete rfl rfl rfl hr) (by exact ⟨.inl (by kernel_rfl), ⟨.inl (by kernel_rfl), ⟨.inl (by kernel_rfl), trivial⟩⟩⟩) ?_
  refine DL.nil ?_
  refine Lf.thenC ?_
  refine WC.draw [(0, false), (1, false), (2, false), (3, false), (4, false), (5, false), (6, true)] mixed (by kernel_rfl) ?_
  obtain ⟨b_3, q_3, hp_3, h⟩ := h
  obtain ⟨v_3, hl, h⟩ := h
  refine DL.read _ rfl (W0 rfl) rfl (Rd.load ok_25 rfl (by exact pe hp_3)) hl ?_
  obtain ⟨b_4, q_4, hp_4, h⟩ := h
  refine DL.pure rfl (W0 rfl) rfl (Pu.nilCheck rfl (by exact pe hp_4)) ?_
  refine DL.pure rfl (W0 rfl) rfl (Pu.fieldAddr 0 rfl Tryz.underlying57 rfl rfl nz_55 rfl) ?_
  obtain ⟨v_4, hl, h⟩ := h
  refine DL.read _ rfl (W0 rfl) rfl (Rd.load ok_55 rfl rfl) hl ?_
  obtain ⟨b_5, q_5, hp_5, h⟩ := h
  obtain ⟨v_5, hl, h⟩ := h
  refine DL.read _ rfl (W0 rfl) rfl (Rd.load ok_9 rfl (by exact pe hp_5)) hl ?_
  obtain ⟨b_6, q_6, hp_6, h⟩ := h
  obtain ⟨v_6, hl, h⟩ := h
  refine DL.read _ rfl (W0 rfl) rfl (Rd.load ok_78 rfl (by exact pe hp_6)) hl ?_
  obtain ⟨vw_1, hr, h⟩ := h
  refine DL.skp rfl (W0 rfl) rfl (Rs.mapUpdate rfl rfl rfl rfl hr) (by exact ⟨.inl (by kernel_rfl), ⟨.inl (by kernel_rfl), ⟨.inl (by kernel_rfl), ⟨.inl (by kernel_rfl), trivial⟩⟩⟩⟩) ?_
  refine DL.nil ?_
  exact Lf.ret0 rfl ⟨rfl, h⟩
end Go.Proofs.YtccebpahnnfceaaGreatDoor
