/- Verification conditions of functions. Written by vcgen.py. -/
import Derived.Test.YtccebpahnnfceaaGreatDoorVcT
namespace Go.Proofs.YtccebpahnnfceaaGreatDoor
open Go.Vc
set_option linter.unusedVariables false
set_option maxRecDepth 100000
/-- (*berthmaster/disk.Disk).Remove -/
def F_disk_Disk_Remove (d : Option Addr) (name : ByteArray) (w : World) (Q : Int → World → Prop) : Prop :=
  al w [.pointer d] T_p_disk_Disk (fun b vw => al vw [.string name] T_string (fun b_1 vw_1 => ld tP vw_1 b 0 (fun v => ld tS vw_1 b_1 0 (fun v_1 => CallP Tryz.prog n_disk_Disk_find [.pointer v, .string v_1] vw_1 (ret2 tP (tI .i64) (fun r r_1 vw_2 => ((r_1 ≠ (0 : Int)) → Q r_1 vw_2) ∧
  ((¬ (r_1 ≠ (0 : Int))) → ld tP vw_2 b 0 (fun v_2 => CallP Tryz.prog n_disk_Disk_step [.pointer v_2, .func (.func n_disk_Disk_Remove_c1) [].toArray [.pointer (some ⟨b, 0, none⟩ : Option Addr), .pointer (some ⟨b_1, 0, none⟩ : Option Addr)].toArray] vw_2 (ret1 (tI .i64) (fun r_2 vw_3 => Q r_2 vw_3))))))))))
theorem vc_disk_Disk_Remove (d : Option Addr) (name : ByteArray) (w : World) (Q : Int → World → Prop) (h : F_disk_Disk_Remove d name w Q) : CallP Tryz.prog n_disk_Disk_Remove [.pointer d, .string name] w (ret1 (tI .i64) Q) := by
  unfold F_disk_Disk_Remove at h
  refine CallP.of_body 19 Tryz.func45 rfl Tryz.ntmps45 rfl ?_
  refine WC.seq ?_
  refine WC.region ?_
  refine WL.q (W0 rfl) rfl (Rq.box (cs := [.pointer d]) rfl rfl rfl h) ?_
  rintro _ vw ⟨b, rfl, h⟩
  refine WL.q (W0 rfl) rfl (Rq.box (cs := [.string name]) rfl rfl rfl h) ?_
  rintro _ vw_1 ⟨b_1, rfl, h⟩
  refine WL.pure (W0 rfl) rfl (Pu.assign rfl rfl) ?_
  refine WL.nil ?_
  refine Lf.thenC ?_
  refine WC.seq ?_
  refine WC.seq ?_
  refine WC.region ?_
  obtain ⟨v, hl, h⟩ := h
  refine WL.val (W0 rfl) rfl (fun xa hxa => Rd.load ok_25 rfl rfl xa hxa _ hl) ?_
  obtain ⟨v_1, hl, h⟩ := h
  refine WL.val (W0 rfl) rfl (fun xa hxa => Rd.load ok_9 rfl rfl xa hxa _ hl) ?_
  refine WL.call (W0 rfl) rfl (fun xa hxa => run_call (fs := []) (cs := []) (vs := [.pointer v, .string v_1]) rfl rfl rfl Tryz.func36 rfl rfl xa hxa _) h ?_
  rintro _ vw_2 ⟨r, r_1, rfl, h⟩
  refine WL.pure (W0 rfl) rfl (Pu.move rfl rfl) ?_
  refine WL.pure (W0 rfl) rfl (Pu.extract (vs := [.pointer r, .int .i64 r_1]) rfl rfl rfl) ?_
  refine WL.pure (W0 rfl) rfl (Pu.extract (vs := [.pointer r, .int .i64 r_1]) rfl rfl rfl) ?_
  refine WL.pure (W0 rfl) rfl (Pu.assign rfl rfl) ?_
  refine WL.pure (W0 rfl) rfl (Pu.assign rfl rfl) ?_
  refine WL.nil ?_
  refine Lf.thenC ?_
  refine WC.seq ?_
  refine WC.region ?_
  refine WL.pure (W0 rfl) rfl (Pu.move rfl rfl) ?_
  refine WL.pure (W0 rfl) rfl (Pu.neq rfl rfl rfl) ?_
  refine WL.nil ?_
  refine Lf.thenC ?_
  refine WC.condD rfl (fun hc => ?_) (fun hc => ?_)
  · replace h := h.1 hc
    refine WC.seq ?_
    refine WC.region ?_
    refine WL.pure (W0 rfl) rfl (Pu.move rfl rfl) ?_
    refine WL.pure (W0 rfl) rfl (Pu.assign rfl rfl) ?_
    refine WL.nil ?_
    refine Lf.thenC ?_
    refine WC.ret ?_
    exact Lf.ret1 rfl rfl ⟨_, rfl, h⟩
  · replace h := h.2 hc
    refine WC.skip ?_
    refine Lf.thenC ?_
    refine WC.seq ?_
    refine WC.region ?_
    obtain ⟨v_2, hl, h⟩ := h
    refine WL.val (W0 rfl) rfl (fun xa hxa => Rd.load ok_25 rfl rfl xa hxa _ hl) ?_
    refine WL.pure (W0 rfl) rfl (Pu.makeFunc (fs := []) (cs := [.pointer (some ⟨b, 0, none⟩ : Option Addr), .pointer (some ⟨b_1, 0, none⟩ : Option Addr)]) rfl rfl rfl) ?_
    refine WL.call (W0 rfl) rfl (fun xa hxa => run_call (fs := []) (cs := []) (vs := [.pointer v_2, .func (.func n_disk_Disk_Remove_c1) [].toArray [.pointer (some ⟨b, 0, none⟩ : Option Addr), .pointer (some ⟨b_1, 0, none⟩ : Option Addr)].toArray]) rfl rfl rfl Tryz.func42 rfl rfl xa hxa _) h ?_
    rintro _ vw_3 ⟨r_2, rfl, h⟩
    refine WL.pure (W0 rfl) rfl (Pu.assign rfl rfl) ?_
    refine WL.nil ?_
    refine Lf.thenC ?_
    refine WC.ret ?_
    exact Lf.ret1 rfl rfl ⟨_, rfl, h⟩
/-- (*berthmaster/disk.Disk).Remove$1 -/
def F_disk_Disk_Remove_c1 (c : Option Addr) (c_1 : Option Addr) (w : World) (Q : World → Prop) : Prop :=
  nz c (fun b q => ld tP (dr w) b q (fun v => nz v (fun b_1 q_1 => ld tM (dr w) b_1 (q_1 + 0) (fun v_1 => nz c_1 (fun b_2 q_2 => ld tS (dr w) b_2 q_2 (fun v_2 => RunV Tryz.prog (Builtin.delete_ #[T_map_string_p_disk_file, T_string] T_ #[.map v_1, .string v_2]) (dr w) (ret0 (fun vw => Q vw))))))))
theorem vc_disk_Disk_Remove_c1 (c : Option Addr) (c_1 : Option Addr) (w : World) (Q : World → Prop) (h : F_disk_Disk_Remove_c1 c c_1 w Q) : CallP Tryz.prog n_disk_Disk_Remove_c1 [.pointer c, .pointer c_1] w (ret0 Q) := by
  unfold F_disk_Disk_Remove_c1 at h
  refine CallP.of_body 7 Tryz.func61 rfl Tryz.ntmps61 rfl ?_
  refine WC.draw [(0, false), (1, false), (2, false), (3, false), (4, false), (5, true)] mixed (by kernel_rfl) ?_
  obtain ⟨b, q, hp, h⟩ := h
  obtain ⟨v, hl, h⟩ := h
  refine DL.read _ rfl (W0 rfl) rfl (Rd.load ok_25 rfl (by exact pe hp)) hl ?_
  obtain ⟨b_1, q_1, hp_1, h⟩ := h
  refine DL.pure rfl (W0 rfl) rfl (Pu.nilCheck rfl (by exact pe hp_1)) ?_
  refine DL.pure rfl (W0 rfl) rfl (Pu.fieldAddr 0 rfl Tryz.underlying57 rfl rfl nz_55 rfl) ?_
  obtain ⟨v_1, hl, h⟩ := h
  refine DL.read _ rfl (W0 rfl) rfl (Rd.load ok_55 rfl rfl) hl ?_
  obtain ⟨b_2, q_2, hp_2, h⟩ := h
  obtain ⟨v_2, hl, h⟩ := h
  refine DL.read _ rfl (W0 rfl) rfl (Rd.load ok_9 rfl (by exact pe hp_2)) hl ?_
  obtain ⟨_, vw, hr, rfl, h⟩ := h
  refine DL.val rfl (W0 rfl) rfl (Rn.delete rfl rfl rfl hr) (by exact ⟨.inl (by kernel_rfl), ⟨.inl (by kernel_rfl), ⟨.inl (by kernel_rfl), trivial⟩⟩⟩) ?_
  refine DL.nil ?_
  exact Lf.ret0 rfl ⟨rfl, h⟩
/-- (*berthmaster/disk.Disk).Read -/
def F_disk_Disk_Read (d : Option Addr) (name : ByteArray) (w : World) (Q : Sl → Int → World → Prop) : Prop :=
  CallP Tryz.prog n_disk_Disk_find [.pointer d, .string name] w (ret2 tP (tI .i64) (fun r r_1 vw => ((r_1 ≠ (0 : Int)) → Q (⟨none, 0, 0⟩ : Sl) r_1 vw) ∧
  ((¬ (r_1 ≠ (0 : Int))) → nz r (fun b q => ld tSl vw b (q + 0) (fun v => CallP Tryz.prog n_bytes_Clone [Sl.v v] vw (ret1 tSl (fun r_2 vw_1 => Q r_2 (0 : Int) vw_1)))))))
theorem vc_disk_Disk_Read (d : Option Addr) (name : ByteArray) (w : World) (Q : Sl → Int → World → Prop) (h : F_disk_Disk_Read d name w Q) : CallP Tryz.prog n_disk_Disk_Read [.pointer d, .string name] w (ret2 tSl (tI .i64) Q) := by
  unfold F_disk_Disk_Read at h
  refine CallP.of_body 22 Tryz.func12 rfl Tryz.ntmps12 rfl ?_
  refine WC.seq ?_
  refine WC.region ?_
  refine WL.pure (W0 rfl) rfl (Pu.assign rfl rfl) ?_
  refine WL.pure (W0 rfl) rfl (Pu.assign rfl rfl) ?_
  refine WL.nil ?_
  refine Lf.thenC ?_
  refine WC.seq ?_
  refine WC.region ?_
  refine WL.pure (W0 rfl) rfl (Pu.move rfl rfl) ?_
  refine WL.pure (W0 rfl) rfl (Pu.move rfl rfl) ?_
  refine WL.call (W0 rfl) rfl (fun xa hxa => run_call (fs := []) (cs := []) (vs := [.pointer d, .string name]) rfl rfl rfl Tryz.func36 rfl rfl xa hxa _) h ?_
  rintro _ vw ⟨r, r_1, rfl, h⟩
  refine WL.pure (W0 rfl) rfl (Pu.move rfl rfl) ?_
  refine WL.pure (W0 rfl) rfl (Pu.extract (vs := [.pointer r, .int .i64 r_1]) rfl rfl rfl) ?_
  refine WL.pure (W0 rfl) rfl (Pu.extract (vs := [.pointer r, .int .i64 r_1]) rfl rfl rfl) ?_
  refine WL.pure (W0 rfl) rfl (Pu.assign rfl rfl) ?_
  refine WL.pure (W0 rfl) rfl (Pu.assign rfl rfl) ?_
  refine WL.nil ?_
  refine Lf.thenC ?_
  refine WC.seq ?_
  refine WC.seq ?_
  refine WC.region ?_
  refine WL.pure (W0 rfl) rfl (Pu.move rfl rfl) ?_
  refine WL.pure (W0 rfl) rfl (Pu.neq rfl rfl rfl) ?_
  refine WL.nil ?_
  refine Lf.thenC ?_
  refine WC.condD rfl (fun hc => ?_) (fun hc => ?_)
  · replace h := h.1 hc
    refine WC.seq ?_
    refine WC.region ?_
    refine WL.pure (W0 rfl) rfl (Pu.move rfl rfl) ?_
    refine WL.pure (W0 rfl) rfl (Pu.assign rfl rfl) ?_
    refine WL.pure (W0 rfl) rfl (Pu.assign rfl rfl) ?_
    refine WL.nil ?_
    refine Lf.thenC ?_
    refine WC.ret ?_
    exact Lf.ret2 rfl rfl rfl ⟨_, _, rfl, h⟩
  · replace h := h.2 hc
    refine WC.skip ?_
    refine Lf.thenC ?_
    refine WC.seq ?_
    refine WC.region ?_
    refine WL.pure (W0 rfl) rfl (Pu.move rfl rfl) ?_
    obtain ⟨b, q, hp, h⟩ := h
    refine WL.pure (W0 rfl) rfl (Pu.nilCheck rfl (by exact pe hp)) ?_
    refine WL.pure (W0 rfl) rfl (Pu.fieldAddr 0 rfl Tryz.underlying83 rfl rfl nz_32 rfl) ?_
    obtain ⟨v, hl, h⟩ := h
    refine WL.val (W0 rfl) rfl (fun xa hxa => Rd.load ok_32 rfl rfl xa hxa _ hl) ?_
    refine WL.call (W0 rfl) rfl (fun xa hxa => run_call (fs := []) (cs := []) (vs := [Sl.v v]) rfl rfl rfl Tryz.func32 rfl rfl xa hxa _) h ?_
    rintro _ vw_1 ⟨r_2, rfl, h⟩
    refine WL.pure (W0 rfl) rfl (Pu.assign rfl rfl) ?_
    refine WL.pure (W0 rfl) rfl (Pu.assign rfl rfl) ?_
    refine WL.nil ?_
    refine Lf.thenC ?_
    refine WC.ret ?_
    exact Lf.ret2 rfl rfl rfl ⟨_, _, rfl, h⟩
/-- (*berthmaster/disk.Disk).Names -/
def F_disk_Disk_Names (d : Option Addr) (w : World) (Q : Sl → World → Prop) : Prop :=
  CallP Tryz.prog n_disk_Disk_asked [.pointer d, Sl.v ⟨none, 0, 0⟩] w (ret1 (tI .i64) (fun r vw => ((r ≠ (0 : Int)) → Q (⟨none, 0, 0⟩ : Sl) vw) ∧
  ((¬ (r ≠ (0 : Int))) → nz d (fun b q => ld tM vw b (q + 0) (fun v => CallP Tryz.prog n_maps_Keys_map_string_disk_file_string_disk_file [.map v] vw (ret1 tV (fun r_1 vw_1 => CallP Tryz.prog n_slices_Sorted_string [r_1.1] vw_1 (ret1 tSl (fun r_2 vw_2 => Q r_2 vw_2)))))))))
theorem vc_disk_Disk_Names (d : Option Addr) (w : World) (Q : Sl → World → Prop) (h : F_disk_Disk_Names d w Q) : CallP Tryz.prog n_disk_Disk_Names [.pointer d] w (ret1 tSl Q) := by
  unfold F_disk_Disk_Names at h
  refine CallP.of_body 12 Tryz.func9 rfl Tryz.ntmps9 rfl ?_
  refine WC.seq ?_
  refine WC.region ?_
  refine WL.pure (W0 rfl) rfl (Pu.assign rfl rfl) ?_
  refine WL.nil ?_
  refine Lf.thenC ?_
  refine WC.seq ?_
  refine WC.seq ?_
  refine WC.region ?_
  refine WL.pure (W0 rfl) rfl (Pu.move rfl rfl) ?_
  refine WL.call (W0 rfl) rfl (fun xa hxa => run_call (fs := []) (cs := []) (vs := [.pointer d, Sl.v ⟨none, 0, 0⟩]) rfl rfl rfl Tryz.func33 rfl rfl xa hxa _) h ?_
  rintro _ vw ⟨r, rfl, h⟩
  refine WL.pure (W0 rfl) rfl (Pu.neq rfl rfl rfl) ?_
  refine WL.nil ?_
  refine Lf.thenC ?_
  refine WC.condD rfl (fun hc => ?_) (fun hc => ?_)
  · replace h := h.1 hc
    refine WC.seq ?_
    refine WC.region ?_
    refine WL.pure (W0 rfl) rfl (Pu.assign rfl rfl) ?_
    refine WL.nil ?_
    refine Lf.thenC ?_
    refine WC.ret ?_
    exact Lf.ret1 rfl rfl ⟨_, rfl, h⟩
  · replace h := h.2 hc
    refine WC.skip ?_
    refine Lf.thenC ?_
    refine WC.seq ?_
    refine WC.region ?_
    refine WL.pure (W0 rfl) rfl (Pu.move rfl rfl) ?_
    obtain ⟨b, q, hp, h⟩ := h
    refine WL.pure (W0 rfl) rfl (Pu.nilCheck rfl (by exact pe hp)) ?_
    refine WL.pure (W0 rfl) rfl (Pu.fieldAddr 0 rfl Tryz.underlying57 rfl rfl nz_55 rfl) ?_
    obtain ⟨v, hl, h⟩ := h
    refine WL.val (W0 rfl) rfl (fun xa hxa => Rd.load ok_55 rfl rfl xa hxa _ hl) ?_
    refine WL.call (W0 rfl) rfl (fun xa hxa => run_call (fs := []) (cs := []) (vs := [.map v]) rfl rfl rfl Tryz.func35 rfl rfl xa hxa _) h ?_
    rintro _ vw_1 ⟨r_1, rfl, h⟩
    refine WL.call (W0 rfl) rfl (fun xa hxa => run_call (fs := []) (cs := []) (vs := [r_1.1]) rfl rfl rfl Tryz.func34 rfl rfl xa hxa _) h ?_
    rintro _ vw_2 ⟨r_2, rfl, h⟩
    refine WL.pure (W0 rfl) rfl (Pu.assign rfl rfl) ?_
    refine WL.nil ?_
    refine Lf.thenC ?_
    refine WC.ret ?_
    exact Lf.ret1 rfl rfl ⟨_, rfl, h⟩
/-- (*berthmaster/disk.Disk).Fuse -/
def F_disk_Disk_Fuse (d : Option Addr) (vn : Int) (w : World) (Q : Int → World → Prop) : Prop :=
  CallP Tryz.prog n_disk_Disk_asked [.pointer d, Sl.v ⟨none, 0, 0⟩] w (ret1 (tI .i64) (fun r vw => ((r ≠ (0 : Int)) → Q r vw) ∧
  ((¬ (r ≠ (0 : Int))) → ((vn < (0 : Int)) → Q (2 : Int) vw) ∧
  ((¬ (vn < (0 : Int))) → nz d (fun b q => st tB vw b (q + 2) true (fun vw_1 => nz d (fun b_1 q_1 => st (tI .i64) vw_1 b_1 (q_1 + 3) vn (fun vw_2 => Q (0 : Int) vw_2))))))))
theorem vc_disk_Disk_Fuse (d : Option Addr) (vn : Int) (w : World) (Q : Int → World → Prop) (h : F_disk_Disk_Fuse d vn w Q) : CallP Tryz.prog n_disk_Disk_Fuse [.pointer d, .int .i64 vn] w (ret1 (tI .i64) Q) := by
  unfold F_disk_Disk_Fuse at h
  refine CallP.of_body 20 Tryz.func16 rfl Tryz.ntmps16 rfl ?_
  refine WC.seq ?_
  refine WC.region ?_
  refine WL.pure (W0 rfl) rfl (Pu.assign rfl rfl) ?_
  refine WL.nil ?_
  refine Lf.thenC ?_
  refine WC.seq ?_
  refine WC.seq ?_
  refine WC.region ?_
  refine WL.pure (W0 rfl) rfl (Pu.move rfl rfl) ?_
  refine WL.call (W0 rfl) rfl (fun xa hxa => run_call (fs := []) (cs := []) (vs := [.pointer d, Sl.v ⟨none, 0, 0⟩]) rfl rfl rfl Tryz.func33 rfl rfl xa hxa _) h ?_
  rintro _ vw ⟨r, rfl, h⟩
  refine WL.pure (W0 rfl) rfl (Pu.assign rfl rfl) ?_
  refine WL.nil ?_
  refine Lf.thenC ?_
  refine WC.seq ?_
  refine WC.region ?_
  refine WL.pure (W0 rfl) rfl (Pu.move rfl rfl) ?_
  refine WL.pure (W0 rfl) rfl (Pu.neq rfl rfl rfl) ?_
  refine WL.nil ?_
  refine Lf.thenC ?_
  refine WC.condD rfl (fun hc => ?_) (fun hc => ?_)
  · replace h := h.1 hc
    refine WC.seq ?_
    refine WC.region ?_
    refine WL.pure (W0 rfl) rfl (Pu.move rfl rfl) ?_
    refine WL.pure (W0 rfl) rfl (Pu.assign rfl rfl) ?_
    refine WL.nil ?_
    refine Lf.thenC ?_
    refine WC.ret ?_
    exact Lf.ret1 rfl rfl ⟨_, rfl, h⟩
  · replace h := h.2 hc
    refine WC.skip ?_
    refine Lf.thenC ?_
    refine WC.seq ?_
    refine WC.seq ?_
    refine WC.region ?_
    refine WL.pure (W0 rfl) rfl (Pu.move rfl rfl) ?_
    refine WL.pure (W0 rfl) rfl (Pu.lss rfl rfl rfl) ?_
    refine WL.nil ?_
    refine Lf.thenC ?_
    refine WC.condD rfl (fun hc => ?_) (fun hc => ?_)
    · replace h := h.1 hc
      refine WC.seq ?_
      refine WC.region ?_
      refine WL.pure (W0 rfl) rfl (Pu.assign rfl rfl) ?_
      refine WL.nil ?_
      refine Lf.thenC ?_
      refine WC.ret ?_
      exact Lf.ret1 rfl rfl ⟨_, rfl, h⟩
    · replace h := h.2 hc
      refine WC.skip ?_
      refine Lf.thenC ?_
      refine WC.seq ?_
      refine WC.region ?_
      refine WL.pure (W0 rfl) rfl (Pu.move rfl rfl) ?_
      refine WL.pure (W0 rfl) rfl (Pu.move rfl rfl) ?_
      refine WL.pure (W0 rfl) rfl (Pu.move rfl rfl) ?_
      obtain ⟨b, q, hp, h⟩ := h
      refine WL.pure (W0 rfl) rfl (Pu.nilCheck rfl (by exact pe hp)) ?_
      refine WL.pure (W0 rfl) rfl (Pu.fieldAddr 2 rfl Tryz.underlying57 rfl rfl nz_4 rfl) ?_
      refine WL.qs (W0 rfl) rfl (Rsq.store true ok_4 rfl rfl rfl h) ?_
      rintro vw_1 h
      obtain ⟨b_1, q_1, hp_1, h⟩ := h
      refine WL.pure (W0 rfl) rfl (Pu.nilCheck rfl (by exact pe hp_1)) ?_
      refine WL.pure (W0 rfl) rfl (Pu.fieldAddr 3 rfl Tryz.underlying57 rfl rfl nz_3 rfl) ?_
      refine WL.qs (W0 rfl) rfl (Rsq.store vn ok_3 rfl rfl rfl h) ?_
      rintro vw_2 h
      refine WL.nil ?_
      refine Lf.thenC ?_
      refine WC.seq ?_
      refine WC.region ?_
      refine WL.pure (W0 rfl) rfl (Pu.assign rfl rfl) ?_
      refine WL.nil ?_
      refine Lf.thenC ?_
      refine WC.ret ?_
      exact Lf.ret1 rfl rfl ⟨_, rfl, h⟩
/-- (*berthmaster/disk.Disk).Crash -/
def F_disk_Disk_Crash (d : Option Addr) (keep : Sl) (w : World) (Q : Int → World → Prop) : Prop :=
  CallP Tryz.prog n_disk_Disk_none [.pointer d] w (ret1 tB (fun r vw => ((r = true) → Q (1 : Int) vw) ∧
  ((r = false) → LoopP (α := Int) (fun vi vw_1 vJ => ((vi < (keep.len : Int)) → ixs keep vi (fun b q => ld (tI .i64) vw_1 b (q + (vi).toNat * 1) (fun v => ((v < (0 : Int)) → Q (2 : Int) vw_1) ∧
  ((¬ (v < (0 : Int))) → vJ (IntKind.i64.wrap (vi + (1 : Int))) vw_1)))) ∧
  ((¬ (vi < (keep.len : Int))) → nz d (fun b_1 q_1 => ld tM vw_1 b_1 (q_1 + 0) (fun v_1 => CallP Tryz.prog n_maps_Keys_map_string_disk_file_string_disk_file [.map v_1] vw_1 (ret1 tV (fun r_1 vw_2 => CallP Tryz.prog n_slices_Sorted_string [r_1.1] vw_2 (ret1 tSl (fun r_2 vw_3 => LoopP (α := Int) (fun vi_1 vw_4 vJ_1 => ((vi_1 < (r_2.len : Int)) → ixs r_2 vi_1 (fun b_2 q_2 => ld tS vw_4 b_2 (q_2 + (vi_1).toNat * 1) (fun v_2 => nz d (fun b_3 q_3 => ld tM vw_4 b_3 (q_3 + 0) (fun v_3 => ∃ v_4 : Option Addr, (Instr.lookup T_map_string_p_disk_file (.map v_3) (.string v_2) false).run Tryz.prog vw_4 = .ok (.pointer v_4) vw_4 ∧ JoinP (α := Int) (fun vj vw_5 => nz v_4 (fun b_4 q_4 => ld (tI .i64) vw_5 b_4 (q_4 + 1) (fun v_5 => nz v_4 (fun b_5 q_5 => st (tI .i64) vw_5 b_5 (q_5 + 1) (IntKind.i64.wrap (v_5 + vj)) (fun vw_6 => nz v_4 (fun b_6 q_6 => ld tSl (dr vw_6) b_6 (q_6 + 0) (fun v_6 => nz v_4 (fun b_7 q_7 => ld (tI .i64) (dr vw_6) b_7 (q_7 + 1) (fun v_7 => 0 ≤ (0 : Int) ∧ (0 : Int) ≤ v_7 ∧ v_7 ≤ (v_6.cap : Int) ∧ (v_6.cap : Int) ≤ (v_6.cap : Int) ∧ nz v_4 (fun b_8 q_8 => st tSl (dr vw_6) b_8 (q_8 + 0) (slS v_6 (0 : Int) v_7 (v_6.cap : Int) 1) (fun vw_7 => vJ_1 (IntKind.i64.wrap (vi_1 + (1 : Int))) vw_7)))))))))))
  (fun vk => ((vi_1 < (keep.len : Int)) → ixs keep vi_1 (fun b_9 q_9 => ld (tI .i64) (dr vw_4) b_9 (q_9 + (vi_1).toNat * 1) (fun v_8 => nz v_4 (fun b_10 q_10 => ld tSl (dr vw_4) b_10 (q_10 + 0) (fun v_9 => nz v_4 (fun b_11 q_11 => ld (tI .i64) (dr vw_4) b_11 (q_11 + 1) (fun v_10 => vk (if (IntKind.i64.wrap ((v_9.len : Int) - v_10)) < v_8 then (IntKind.i64.wrap ((v_9.len : Int) - v_10)) else v_8) (dr vw_4)))))))) ∧
  ((¬ (vi_1 < (keep.len : Int))) → vk (0 : Int) vw_4))))))) ∧
  ((¬ (vi_1 < (r_2.len : Int))) → nz d (fun b_12 q_12 => st tB vw_4 b_12 (q_12 + 4) false (fun vw_8 => nz d (fun b_13 q_13 => st tB vw_8 b_13 (q_13 + 2) false (fun vw_9 => nz d (fun b_14 q_14 => st (tI .i64) vw_9 b_14 (q_14 + 3) (0 : Int) (fun vw_10 => Q (0 : Int) vw_10)))))))) (0 : Int) vw_3)))))))) (0 : Int) vw)))
theorem vc_disk_Disk_Crash (d : Option Addr) (keep : Sl) (w : World) (Q : Int → World → Prop) (h : F_disk_Disk_Crash d keep w Q) : CallP Tryz.prog n_disk_Disk_Crash [.pointer d, Sl.v keep] w (ret1 (tI .i64) Q) := by
  unfold F_disk_Disk_Crash at h
  refine CallP.of_body 89 Tryz.func17 rfl Tryz.ntmps17 rfl ?_
  refine WC.seq ?_
  refine WC.region ?_
  refine WL.pure (W0 rfl) rfl (Pu.assign rfl rfl) ?_
  refine WL.nil ?_
  refine Lf.thenC ?_
  refine WC.seq ?_
  refine WC.seq ?_
  refine WC.region ?_
  refine WL.pure (W0 rfl) rfl (Pu.move rfl rfl) ?_
  refine WL.call (W0 rfl) rfl (fun xa hxa => run_call (fs := []) (cs := []) (vs := [.pointer d]) rfl rfl rfl Tryz.func37 rfl rfl xa hxa _) h ?_
  rintro _ vw ⟨r, rfl, h⟩
  refine WL.nil ?_
  refine Lf.thenC ?_
  refine WC.cond rfl (fun hc => ?_) (fun hc => ?_)
  · replace h := h.1 hc
    refine WC.seq ?_
    refine WC.region ?_
    refine WL.pure (W0 rfl) rfl (Pu.assign rfl rfl) ?_
    refine WL.nil ?_
    refine Lf.thenC ?_
    refine WC.ret ?_
    exact Lf.ret1 rfl rfl ⟨_, rfl, h⟩
  · replace h := h.2 hc
    refine WC.skip ?_
    refine Lf.thenC ?_
    refine WC.seq ?_
    refine WC.seq ?_
    refine WC.region ?_
    refine WL.pure (W0 rfl) rfl (Pu.move rfl rfl) ?_
    refine WL.pure (W0 rfl) rfl (Pu.len rfl Tryz.underlying48 rfl) ?_
    refine WL.pure (W0 rfl) rfl (Pu.move rfl rfl) ?_
    refine WL.nil ?_
    refine Lf.thenC ?_
    refine WC.block ?_
    refine WC.loop (α := Int) (fun vi => [(15, .int .i64 vi), (0, .pointer d), (1, Sl.v keep), (13, Sl.v keep), (14, .int .i64 (keep.len : Int))]) (0 : Int) (by exact ⟨rfl, rfl, rfl, rfl, rfl, trivial⟩) h (fun vJ vi vw_1 h => ?_)
    refine WC.seq ?_
    refine WC.region ?_
    refine WL.pure (W0 rfl) rfl (Pu.lss rfl rfl rfl) ?_
    refine WL.nil ?_
    refine Lf.thenC ?_
    refine WC.seq ?_
    refine WC.condD rfl (fun hc => ?_) (fun hc => ?_)
    · replace h := h.1 hc
      refine WC.skip ?_
      refine Lf.thenC ?_
      refine WC.seq ?_
      refine WC.block ?_
      refine WC.seq ?_
      refine WC.region ?_
      obtain ⟨hi0, hi1, b, q, hs, h⟩ := h
      refine WL.pure (W0 rfl) rfl (Pu.indexAddr rfl Tryz.underlying48 sz_3 rfl rfl hs hi0 hi1) ?_
      obtain ⟨v, hl, h⟩ := h
      refine WL.val (W0 rfl) rfl (fun xa hxa => Rd.load ok_3 rfl rfl xa hxa _ hl) ?_
      refine WL.pure (W0 rfl) rfl (Pu.assign rfl rfl) ?_
      refine WL.nil ?_
      refine Lf.thenC ?_
      refine WC.seq ?_
      refine WC.region ?_
      refine WL.pure (W0 rfl) rfl (Pu.move rfl rfl) ?_
      refine WL.pure (W0 rfl) rfl (Pu.lss rfl rfl rfl) ?_
      refine WL.nil ?_
      refine Lf.thenC ?_
      refine WC.condD rfl (fun hc => ?_) (fun hc => ?_)
      · replace h := h.1 hc
        refine WC.seq ?_
        refine WC.region ?_
        refine WL.pure (W0 rfl) rfl (Pu.assign rfl rfl) ?_
        refine WL.nil ?_
        refine Lf.thenC ?_
        refine WC.ret ?_
        exact Lf.ret1 rfl rfl ⟨_, rfl, h⟩
      · replace h := h.2 hc
        refine WC.skip ?_
        refine Lf.thenC ?_
        refine WC.region ?_
        refine WL.pure (W0 rfl) rfl (Pu.add rfl rfl rfl) ?_
        refine WL.pure (W0 rfl) rfl (Pu.move rfl rfl) ?_
        refine WL.nil ?_
        exact Lf.joinA (IntKind.i64.wrap (vi + (1 : Int))) (by exact ⟨rfl, rfl, rfl, rfl, rfl, trivial⟩) h
    · replace h := h.2 hc
      refine WC.exit rfl ?_
      refine Lf.thenC ?_
      refine WC.seq ?_
      refine WC.seq ?_
      refine WC.region ?_
      refine WL.pure (W0 rfl) rfl (Pu.move rfl rfl) ?_
      obtain ⟨b_1, q_1, hp, h⟩ := h
      refine WL.pure (W0 rfl) rfl (Pu.nilCheck rfl (by exact pe hp)) ?_
      refine WL.pure (W0 rfl) rfl (Pu.fieldAddr 0 rfl Tryz.underlying57 rfl rfl nz_55 rfl) ?_
      obtain ⟨v_1, hl, h⟩ := h
      refine WL.val (W0 rfl) rfl (fun xa hxa => Rd.load ok_55 rfl rfl xa hxa _ hl) ?_
      refine WL.call (W0 rfl) rfl (fun xa hxa => run_call (fs := []) (cs := []) (vs := [.map v_1]) rfl rfl rfl Tryz.func35 rfl rfl xa hxa _) h ?_
      rintro _ vw_2 ⟨r_1, rfl, h⟩
      refine WL.call (W0 rfl) rfl (fun xa hxa => run_call (fs := []) (cs := []) (vs := [r_1.1]) rfl rfl rfl Tryz.func34 rfl rfl xa hxa _) h ?_
      rintro _ vw_3 ⟨r_2, rfl, h⟩
      refine WL.pure (W0 rfl) rfl (Pu.len rfl Tryz.underlying36 rfl) ?_
      refine WL.pure (W0 rfl) rfl (Pu.move rfl rfl) ?_
      refine WL.nil ?_
      refine Lf.thenC ?_
      refine WC.block ?_
      refine WC.loop (α := Int) (fun vi_1 => [(29, .int .i64 vi_1), (0, .pointer d), (1, Sl.v keep), (27, Sl.v r_2), (28, .int .i64 (r_2.len : Int))]) (0 : Int) (by exact ⟨rfl, rfl, rfl, rfl, rfl, trivial⟩) h (fun vJ_1 vi_1 vw_4 h => ?_)
      refine WC.seq ?_
      refine WC.region ?_
      refine WL.pure (W0 rfl) rfl (Pu.lss rfl rfl rfl) ?_
      refine WL.nil ?_
      refine Lf.thenC ?_
      refine WC.seq ?_
      refine WC.condD rfl (fun hc => ?_) (fun hc => ?_)
      · replace h := h.1 hc
        refine WC.skip ?_
        refine Lf.thenC ?_
        refine WC.seq ?_
        refine WC.block ?_
        refine WC.seq ?_
        refine WC.region ?_
        refine WL.pure (W0 rfl) rfl (Pu.move rfl rfl) ?_
        obtain ⟨hi0, hi1, b_2, q_2, hs, h⟩ := h
        refine WL.pure (W0 rfl) rfl (Pu.indexAddr rfl Tryz.underlying36 sz_9 rfl rfl hs hi0 hi1) ?_
        obtain ⟨v_2, hl, h⟩ := h
        refine WL.val (W0 rfl) rfl (fun xa hxa => Rd.load ok_9 rfl rfl xa hxa _ hl) ?_
        refine WL.pure (W0 rfl) rfl (Pu.assign rfl rfl) ?_
        refine WL.pure (W0 rfl) rfl (Pu.assign rfl rfl) ?_
        refine WL.nil ?_
        refine Lf.thenC ?_
        refine WC.seq ?_
        refine WC.region ?_
        refine WL.pure (W0 rfl) rfl (Pu.move rfl rfl) ?_
        obtain ⟨b_3, q_3, hp_1, h⟩ := h
        refine WL.pure (W0 rfl) rfl (Pu.nilCheck rfl (by exact pe hp_1)) ?_
        refine WL.pure (W0 rfl) rfl (Pu.fieldAddr 0 rfl Tryz.underlying57 rfl rfl nz_55 rfl) ?_
        obtain ⟨v_3, hl, h⟩ := h
        refine WL.val (W0 rfl) rfl (fun xa hxa => Rd.load ok_55 rfl rfl xa hxa _ hl) ?_
        refine WL.pure (W0 rfl) rfl (Pu.move rfl rfl) ?_
        obtain ⟨v_4, hr, h⟩ := h
        refine WL.val (W0 rfl) rfl (Rn.lookup rfl rfl rfl hr) ?_
        refine WL.pure (W0 rfl) rfl (Pu.assign rfl rfl) ?_
        refine WL.nil ?_
        refine Lf.thenC ?_
        refine WC.seq ?_
        refine WC.region ?_
        refine WL.pure (W0 rfl) rfl (Pu.assign rfl rfl) ?_
        refine WL.nil ?_
        refine Lf.thenC ?_
        obtain ⟨vk, h2, h⟩ := h
        refine WC.cut (α := Int) (k := vk) (fun vj => [(10, .int .i64 vj), (0, .pointer d), (1, Sl.v keep), (9, .pointer v_4), (27, Sl.v r_2), (28, .int .i64 (r_2.len : Int)), (29, .int .i64 vi_1)]) (fun vj vw_5 h => ?_) ?_
        · replace h := h2 _ _ h
          clear h2
          refine WC.seq ?_
          refine WC.region ?_
          refine WL.pure (W0 rfl) rfl (Pu.move rfl rfl) ?_
          obtain ⟨b_4, q_4, hp_2, h⟩ := h
          refine WL.pure (W0 rfl) rfl (Pu.nilCheck rfl (by exact pe hp_2)) ?_
          refine WL.pure (W0 rfl) rfl (Pu.fieldAddr 1 rfl Tryz.underlying83 rfl rfl nz_3 rfl) ?_
          obtain ⟨v_5, hl, h⟩ := h
          refine WL.val (W0 rfl) rfl (fun xa hxa => Rd.load ok_3 rfl rfl xa hxa _ hl) ?_
          refine WL.pure (W0 rfl) rfl (Pu.move rfl rfl) ?_
          refine WL.pure (W0 rfl) rfl (Pu.add rfl rfl rfl) ?_
          obtain ⟨b_5, q_5, hp_3, h⟩ := h
          refine WL.pure (W0 rfl) rfl (Pu.nilCheck rfl (by exact pe hp_3)) ?_
          refine WL.pure (W0 rfl) rfl (Pu.fieldAddr 1 rfl Tryz.underlying83 rfl rfl nz_3 rfl) ?_
          refine WL.qs (W0 rfl) rfl (Rsq.store (IntKind.i64.wrap (v_5 + vj)) ok_3 rfl rfl rfl h) ?_
          rintro vw_6 h
          refine WL.nil ?_
          refine Lf.thenC ?_
          refine WC.draw [(0, false), (1, false), (2, false), (3, false), (4, false), (5, false), (6, false), (7, false), (8, false), (9, false), (10, false), (11, false), (12, true)] mixed (by kernel_rfl) ?_
          refine DL.pure rfl (W0 rfl) rfl (Pu.move rfl rfl) ?_
          refine DL.pure rfl (W0 rfl) rfl (Pu.move rfl rfl) ?_
          obtain ⟨b_6, q_6, hp_4, h⟩ := h
          refine DL.pure rfl (W0 rfl) rfl (Pu.nilCheck rfl (by exact pe hp_4)) ?_
          refine DL.pure rfl (W0 rfl) rfl (Pu.fieldAddr 0 rfl Tryz.underlying83 rfl rfl nz_32 rfl) ?_
          obtain ⟨v_6, hl, h⟩ := h
          refine DL.read _ rfl (W0 rfl) rfl (Rd.load ok_32 rfl rfl) hl ?_
          refine DL.pure rfl (W0 rfl) rfl (Pu.move rfl rfl) ?_
          obtain ⟨b_7, q_7, hp_5, h⟩ := h
          refine DL.pure rfl (W0 rfl) rfl (Pu.nilCheck rfl (by exact pe hp_5)) ?_
          refine DL.pure rfl (W0 rfl) rfl (Pu.fieldAddr 1 rfl Tryz.underlying83 rfl rfl nz_3 rfl) ?_
          obtain ⟨v_7, hl, h⟩ := h
          refine DL.read _ rfl (W0 rfl) rfl (Rd.load ok_3 rfl rfl) hl ?_
          obtain ⟨hi0, hi1, hi2, hi3, h⟩ := h
          refine DL.pure rfl (W0 rfl) rfl (Pu.slice rfl Tryz.underlying32 sz_5 rfl rfl rfl rfl rfl hi0 hi1 hi2 hi3) ?_
          obtain ⟨b_8, q_8, hp_6, h⟩ := h
          refine DL.pure rfl (W0 rfl) rfl (Pu.nilCheck rfl (by exact pe hp_6)) ?_
          refine DL.pure rfl (W0 rfl) rfl (Pu.fieldAddr 0 rfl Tryz.underlying83 rfl rfl nz_32 rfl) ?_
          refine DL.qs rfl (W0 rfl) rfl (Rsq.store (slS v_6 (0 : Int) v_7 (v_6.cap : Int) 1) ok_32 rfl rfl rfl h) ?_
          rintro vw_7 h
          refine ⟨(by exact ⟨.inl (by kernel_rfl), ⟨.inl (by kernel_rfl), trivial⟩⟩), ?_⟩
          refine DL.nil ?_
          refine Lf.thenC ?_
          refine WC.region ?_
          refine WL.pure (W0 rfl) rfl (Pu.add rfl rfl rfl) ?_
          refine WL.pure (W0 rfl) rfl (Pu.move rfl rfl) ?_
          refine WL.nil ?_
          exact Lf.joinA (IntKind.i64.wrap (vi_1 + (1 : Int))) (by exact ⟨rfl, rfl, rfl, rfl, rfl, trivial⟩) h
        · clear h2
          refine WC.seq ?_
          refine WC.region ?_
          refine WL.pure (W0 rfl) rfl (Pu.move rfl rfl) ?_
          refine WL.pure (W0 rfl) rfl (Pu.move rfl rfl) ?_
          refine WL.pure (W0 rfl) rfl (Pu.len rfl Tryz.underlying48 rfl) ?_
          refine WL.pure (W0 rfl) rfl (Pu.lss rfl rfl rfl) ?_
          refine WL.nil ?_
          refine Lf.thenC ?_
          refine WC.condD rfl (fun hc => ?_) (fun hc => ?_)
          · replace h := h.1 hc
            refine WC.draw [(0, false), (1, false), (2, false), (3, false), (4, false), (5, false), (6, false), (7, false), (8, false), (9, false), (10, false), (11, false), (12, false), (13, false), (14, false), (15, false)] mixed (by kernel_rfl) ?_
            refine DL.pure rfl (W0 rfl) rfl (Pu.move rfl rfl) ?_
            refine DL.pure rfl (W0 rfl) rfl (Pu.move rfl rfl) ?_
            obtain ⟨hi0, hi1, b_9, q_9, hs, h⟩ := h
            refine DL.pure rfl (W0 rfl) rfl (Pu.indexAddr rfl Tryz.underlying48 sz_3 rfl rfl hs hi0 hi1) ?_
            obtain ⟨v_8, hl, h⟩ := h
            refine DL.read _ rfl (W0 rfl) rfl (Rd.load ok_3 rfl rfl) hl ?_
            refine DL.pure rfl (W0 rfl) rfl (Pu.move rfl rfl) ?_
            obtain ⟨b_10, q_10, hp_7, h⟩ := h
            refine DL.pure rfl (W0 rfl) rfl (Pu.nilCheck rfl (by exact pe hp_7)) ?_
            refine DL.pure rfl (W0 rfl) rfl (Pu.fieldAddr 0 rfl Tryz.underlying83 rfl rfl nz_32 rfl) ?_
            obtain ⟨v_9, hl, h⟩ := h
            refine DL.read _ rfl (W0 rfl) rfl (Rd.load ok_32 rfl rfl) hl ?_
            refine DL.pure rfl (W0 rfl) rfl (Pu.len rfl Tryz.underlying32 rfl) ?_
            refine DL.pure rfl (W0 rfl) rfl (Pu.move rfl rfl) ?_
            obtain ⟨b_11, q_11, hp_8, h⟩ := h
            refine DL.pure rfl (W0 rfl) rfl (Pu.nilCheck rfl (by exact pe hp_8)) ?_
            refine DL.pure rfl (W0 rfl) rfl (Pu.fieldAddr 1 rfl Tryz.underlying83 rfl rfl nz_3 rfl) ?_
            obtain ⟨v_10, hl, h⟩ := h
            refine DL.read _ rfl (W0 rfl) rfl (Rd.load ok_3 rfl rfl) hl ?_
            refine DL.pure rfl (W0 rfl) rfl (Pu.sub rfl rfl rfl) ?_
            refine DL.pure rfl (W0 rfl) rfl (Pu.min rfl rfl rfl) ?_
            refine DL.pure rfl (W0 rfl) rfl (Pu.assign rfl rfl) ?_
            refine DL.nil ?_
            exact Lf.joinA (if (IntKind.i64.wrap ((v_9.len : Int) - v_10)) < v_8 then (IntKind.i64.wrap ((v_9.len : Int) - v_10)) else v_8) (by exact ⟨rfl, rfl, rfl, rfl, rfl, rfl, rfl, trivial⟩) h
          · replace h := h.2 hc
            refine WC.skip ?_
            exact Lf.joinA (0 : Int) (by exact ⟨rfl, rfl, rfl, rfl, rfl, rfl, rfl, trivial⟩) h
      · replace h := h.2 hc
        refine WC.exit rfl ?_
        refine Lf.thenC ?_
        refine WC.seq ?_
        refine WC.region ?_
        refine WL.pure (W0 rfl) rfl (Pu.move rfl rfl) ?_
        refine WL.pure (W0 rfl) rfl (Pu.move rfl rfl) ?_
        refine WL.pure (W0 rfl) rfl (Pu.move rfl rfl) ?_
        obtain ⟨b_12, q_12, hp_9, h⟩ := h
        refine WL.pure (W0 rfl) rfl (Pu.nilCheck rfl (by exact pe hp_9)) ?_
        refine WL.pure (W0 rfl) rfl (Pu.fieldAddr 4 rfl Tryz.underlying57 rfl rfl nz_4 rfl) ?_
        refine WL.qs (W0 rfl) rfl (Rsq.store false ok_4 rfl rfl rfl h) ?_
        rintro vw_8 h
        obtain ⟨b_13, q_13, hp_10, h⟩ := h
        refine WL.pure (W0 rfl) rfl (Pu.nilCheck rfl (by exact pe hp_10)) ?_
        refine WL.pure (W0 rfl) rfl (Pu.fieldAddr 2 rfl Tryz.underlying57 rfl rfl nz_4 rfl) ?_
        refine WL.qs (W0 rfl) rfl (Rsq.store false ok_4 rfl rfl rfl h) ?_
        rintro vw_9 h
        obtain ⟨b_14, q_14, hp_11, h⟩ := h
        refine WL.pure (W0 rfl) rfl (Pu.nilCheck rfl (by exact pe hp_11)) ?_
        refine WL.pure (W0 rfl) rfl (Pu.fieldAddr 3 rfl Tryz.underlying57 rfl rfl nz_3 rfl) ?_
        refine WL.qs (W0 rfl) rfl (Rsq.store (0 : Int) ok_3 rfl rfl rfl h) ?_
        rintro vw_10 h
        refine WL.nil ?_
        refine Lf.thenC ?_
        refine WC.seq ?_
        refine WC.region ?_
        refine WL.pure (W0 rfl) rfl (Pu.assign rfl rfl) ?_
        refine WL.nil ?_
        refine Lf.thenC ?_
        refine WC.ret ?_
        exact Lf.ret1 rfl rfl ⟨_, rfl, h⟩
/-- (*berthmaster/disk.Disk).Turn -/
def F_disk_Disk_Turn (d : Option Addr) (name : ByteArray) (vat : Int) (vbits : Int) (w : World) (Q : Int → World → Prop) : Prop :=
  CallP Tryz.prog n_disk_Disk_none [.pointer d] w (ret1 tB (fun r vw => ((r = true) → Q (1 : Int) vw) ∧
  ((r = false) → CallP Tryz.prog n_disk_named [.string name] vw (ret1 tB (fun r_1 vw_1 => (((!r_1) = true) → Q (2 : Int) vw_1) ∧
  (((!r_1) = false) → nz d (fun b q => ld tM vw_1 b (q + 0) (fun v => ∃ v_1 : Option Addr, (Instr.lookup T_map_string_p_disk_file (.map v) (.string name) false).run Tryz.prog vw_1 = .ok (.pointer v_1) vw_1 ∧ JoinP (α := Bool) (fun vj vw_2 => ((vj = true) → Q (6 : Int) vw_2) ∧
  ((vj = false) → nz v_1 (fun b_1 q_1 => ld tSl vw_2 b_1 (q_1 + 0) (fun v_2 => ixs v_2 vat (fun b_2 q_2 => ld (tI .u8) vw_2 b_2 (q_2 + (vat).toNat * 1) (fun v_3 => ixs v_2 vat (fun b_3 q_3 => st (tI .u8) vw_2 b_3 (q_3 + (vat).toNat * 1) (bits .xor .u8 v_3 vbits) (fun vw_3 => Q (0 : Int) vw_3))))))))
  (fun vk => ((v_1.isNone = true) → vk true vw_1) ∧
  ((v_1.isNone = false) → ((vat < (0 : Int)) → vk true vw_1) ∧
  ((¬ (vat < (0 : Int))) → nz v_1 (fun b_4 q_4 => ld tSl vw_1 b_4 (q_4 + 0) (fun v_4 => vk (decide ((v_4.len : Int) ≤ vat)) vw_1)))))))))))))
theorem vc_disk_Disk_Turn (d : Option Addr) (name : ByteArray) (vat : Int) (vbits : Int) (w : World) (Q : Int → World → Prop) (h : F_disk_Disk_Turn d name vat vbits w Q) : CallP Tryz.prog n_disk_Disk_Turn [.pointer d, .string name, .int .i64 vat, .int .u8 vbits] w (ret1 (tI .i64) Q) := by
  unfold F_disk_Disk_Turn at h
  refine CallP.of_body 48 Tryz.func13 rfl Tryz.ntmps13 rfl ?_
  refine WC.seq ?_
  refine WC.region ?_
  refine WL.pure (W0 rfl) rfl (Pu.assign rfl rfl) ?_
  refine WL.nil ?_
  refine Lf.thenC ?_
  refine WC.seq ?_
  refine WC.block ?_
  refine WC.seq ?_
  refine WC.region ?_
  refine WL.pure (W0 rfl) rfl (Pu.move rfl rfl) ?_
  refine WL.call (W0 rfl) rfl (fun xa hxa => run_call (fs := []) (cs := []) (vs := [.pointer d]) rfl rfl rfl Tryz.func37 rfl rfl xa hxa _) h ?_
  rintro _ vw ⟨r, rfl, h⟩
  refine WL.pure (W0 rfl) rfl (Pu.assign rfl rfl) ?_
  refine WL.nil ?_
  refine Lf.thenC ?_
  refine WC.cond rfl (fun hc => ?_) (fun hc => ?_)
  · replace h := h.1 hc
    refine WC.seq ?_
    refine WC.region ?_
    refine WL.pure (W0 rfl) rfl (Pu.assign rfl rfl) ?_
    refine WL.nil ?_
    refine Lf.thenC ?_
    refine WC.ret ?_
    exact Lf.ret1 rfl rfl ⟨_, rfl, h⟩
  · replace h := h.2 hc
    refine WC.seq ?_
    refine WC.region ?_
    refine WL.pure (W0 rfl) rfl (Pu.move rfl rfl) ?_
    refine WL.call (W0 rfl) rfl (fun xa hxa => run_call (fs := []) (cs := []) (vs := [.string name]) rfl rfl rfl Tryz.func38 rfl rfl xa hxa _) h ?_
    rintro _ vw_1 ⟨r_1, rfl, h⟩
    refine WL.pure (W0 rfl) rfl (Pu.not rfl rfl) ?_
    refine WL.pure (W0 rfl) rfl (Pu.assign rfl rfl) ?_
    refine WL.nil ?_
    refine Lf.thenC ?_
    refine WC.cond rfl (fun hc => ?_) (fun hc => ?_)
    · replace h := h.1 hc
      refine WC.seq ?_
      refine WC.region ?_
      refine WL.pure (W0 rfl) rfl (Pu.assign rfl rfl) ?_
      refine WL.nil ?_
      refine Lf.thenC ?_
      refine WC.ret ?_
      exact Lf.ret1 rfl rfl ⟨_, rfl, h⟩
    · replace h := h.2 hc
      refine WC.skip ?_
      refine Lf.thenC ?_
      refine WC.seq ?_
      refine WC.region ?_
      refine WL.pure (W0 rfl) rfl (Pu.move rfl rfl) ?_
      obtain ⟨b, q, hp, h⟩ := h
      refine WL.pure (W0 rfl) rfl (Pu.nilCheck rfl (by exact pe hp)) ?_
      refine WL.pure (W0 rfl) rfl (Pu.fieldAddr 0 rfl Tryz.underlying57 rfl rfl nz_55 rfl) ?_
      obtain ⟨v, hl, h⟩ := h
      refine WL.val (W0 rfl) rfl (fun xa hxa => Rd.load ok_55 rfl rfl xa hxa _ hl) ?_
      refine WL.pure (W0 rfl) rfl (Pu.move rfl rfl) ?_
      obtain ⟨v_1, hr, h⟩ := h
      refine WL.val (W0 rfl) rfl (Rn.lookup rfl rfl rfl hr) ?_
      refine WL.pure (W0 rfl) rfl (Pu.assign rfl rfl) ?_
      refine WL.nil ?_
      refine Lf.thenC ?_
      refine WC.seq ?_
      obtain ⟨vk, h2, h⟩ := h
      refine WC.cut (α := Bool) (k := vk) (fun vj => [(37, .bool vj), (2, .int .i64 vat), (3, .int .u8 vbits), (9, .pointer v_1)]) (fun vj vw_2 h => ?_) ?_
      · replace h := h2 _ _ h
        clear h2
        refine WC.cond rfl (fun hc => ?_) (fun hc => ?_)
        · replace h := h.1 hc
          refine WC.seq ?_
          refine WC.region ?_
          refine WL.pure (W0 rfl) rfl (Pu.assign rfl rfl) ?_
          refine WL.nil ?_
          refine Lf.thenC ?_
          refine WC.ret ?_
          exact Lf.ret1 rfl rfl ⟨_, rfl, h⟩
        · replace h := h.2 hc
          refine WC.skip ?_
          refine Lf.thenC ?_
          refine WC.seq ?_
          refine WC.region ?_
          refine WL.pure (W0 rfl) rfl (Pu.move rfl rfl) ?_
          obtain ⟨b_1, q_1, hp_1, h⟩ := h
          refine WL.pure (W0 rfl) rfl (Pu.nilCheck rfl (by exact pe hp_1)) ?_
          refine WL.pure (W0 rfl) rfl (Pu.fieldAddr 0 rfl Tryz.underlying83 rfl rfl nz_32 rfl) ?_
          obtain ⟨v_2, hl, h⟩ := h
          refine WL.val (W0 rfl) rfl (fun xa hxa => Rd.load ok_32 rfl rfl xa hxa _ hl) ?_
          refine WL.pure (W0 rfl) rfl (Pu.move rfl rfl) ?_
          obtain ⟨hi0, hi1, b_2, q_2, hs, h⟩ := h
          refine WL.pure (W0 rfl) rfl (Pu.indexAddr rfl Tryz.underlying32 sz_5 rfl rfl hs hi0 hi1) ?_
          obtain ⟨v_3, hl, h⟩ := h
          refine WL.val (W0 rfl) rfl (fun xa hxa => Rd.load ok_5 rfl rfl xa hxa _ hl) ?_
          refine WL.pure (W0 rfl) rfl (Pu.move rfl rfl) ?_
          refine WL.pure (W0 rfl) rfl (Pu.xor rfl rfl rfl) ?_
          obtain ⟨hi0, hi1, b_3, q_3, hs, h⟩ := h
          refine WL.pure (W0 rfl) rfl (Pu.indexAddr rfl Tryz.underlying32 sz_5 rfl rfl hs hi0 hi1) ?_
          refine WL.qs (W0 rfl) rfl (Rsq.store (bits .xor .u8 v_3 vbits) ok_5 rfl rfl rfl h) ?_
          rintro vw_3 h
          refine WL.nil ?_
          refine Lf.thenC ?_
          refine WC.seq ?_
          refine WC.region ?_
          refine WL.pure (W0 rfl) rfl (Pu.assign rfl rfl) ?_
          refine WL.nil ?_
          refine Lf.thenC ?_
          refine WC.ret ?_
          exact Lf.ret1 rfl rfl ⟨_, rfl, h⟩
      · clear h2
        refine WC.region ?_
        refine WL.pure (W0 rfl) rfl (Pu.move rfl rfl) ?_
        refine WL.pure (W0 rfl) rfl (Pu.pnil rfl Tryz.underlying78 rfl) ?_
        refine WL.pure (W0 rfl) rfl (Pu.move rfl rfl) ?_
        refine WL.bool (t := 25) rfl (fun hc => ?_) (fun hc => ?_)
        · replace h := h.1 hc
          refine WL.unwanted (t := 25) rfl rfl rfl rfl rfl rfl ?_
          refine WL.unwanted (t := 25) rfl rfl rfl rfl rfl rfl ?_
          refine WL.pure (W0 rfl) rfl (Pu.pickT rfl rfl rfl) ?_
          refine WL.pure (W0 rfl) rfl (Pu.move rfl rfl) ?_
          refine WL.unwanted (t := 29) rfl rfl rfl rfl rfl rfl ?_
          refine WL.unwanted (t := 29) rfl rfl rfl rfl rfl rfl ?_
          refine WL.unwanted (t := 29) rfl rfl rfl rfl rfl rfl ?_
          refine WL.unwanted (t := 29) rfl rfl rfl rfl rfl rfl ?_
          refine WL.unwanted (t := 29) rfl rfl rfl rfl rfl rfl ?_
          refine WL.unwanted (t := 29) rfl rfl rfl rfl rfl rfl ?_
          refine WL.unwanted (t := 29) rfl rfl rfl rfl rfl rfl ?_
          refine WL.pure (W0 rfl) rfl (Pu.pickT rfl rfl rfl) ?_
          refine WL.nil ?_
          exact Lf.joinA true (by exact ⟨rfl, rfl, rfl, rfl, trivial⟩) h
        · replace h := h.2 hc
          refine WL.pure (W1 (t := 25) rfl rfl rfl rfl) rfl (Pu.move rfl rfl) ?_
          refine WL.pure (W1 (t := 25) rfl rfl rfl rfl) rfl (Pu.lss rfl rfl rfl) ?_
          refine WL.pure (W0 rfl) rfl (Pu.pickF rfl rfl rfl) ?_
          refine WL.pure (W0 rfl) rfl (Pu.move rfl rfl) ?_
          refine WL.boolD (t := 29) rfl (fun hc => ?_) (fun hc => ?_)
          · replace h := h.1 hc
            refine WL.unwanted (t := 29) rfl rfl rfl rfl rfl rfl ?_
            refine WL.unwanted (t := 29) rfl rfl rfl rfl rfl rfl ?_
            refine WL.unwanted (t := 29) rfl rfl rfl rfl rfl rfl ?_
            refine WL.unwanted (t := 29) rfl rfl rfl rfl rfl rfl ?_
            refine WL.unwanted (t := 29) rfl rfl rfl rfl rfl rfl ?_
            refine WL.unwanted (t := 29) rfl rfl rfl rfl rfl rfl ?_
            refine WL.unwanted (t := 29) rfl rfl rfl rfl rfl rfl ?_
            refine WL.pure (W0 rfl) rfl (Pu.pickT rfl rfl rfl) ?_
            refine WL.nil ?_
            exact Lf.joinA true (by exact ⟨rfl, rfl, rfl, rfl, trivial⟩) h
          · replace h := h.2 hc
            refine WL.pure (W1 (t := 29) rfl rfl rfl rfl) rfl (Pu.move rfl rfl) ?_
            refine WL.pure (W1 (t := 29) rfl rfl rfl rfl) rfl (Pu.move rfl rfl) ?_
            obtain ⟨b_4, q_4, hp_2, h⟩ := h
            refine WL.pure (W1 (t := 29) rfl rfl rfl rfl) rfl (Pu.nilCheck rfl (by exact pe hp_2)) ?_
            refine WL.pure (W1 (t := 29) rfl rfl rfl rfl) rfl (Pu.fieldAddr 0 rfl Tryz.underlying83 rfl rfl nz_32 rfl) ?_
            obtain ⟨v_4, hl, h⟩ := h
            refine WL.val (W1 (t := 29) rfl rfl rfl rfl) rfl (fun xa hxa => Rd.load ok_32 rfl rfl xa hxa _ hl) ?_
            refine WL.pure (W1 (t := 29) rfl rfl rfl rfl) rfl (Pu.len rfl Tryz.underlying32 rfl) ?_
            refine WL.pure (W1 (t := 29) rfl rfl rfl rfl) rfl (Pu.geq rfl rfl rfl) ?_
            refine WL.pure (W0 rfl) rfl (Pu.pickF rfl rfl rfl) ?_
            refine WL.nil ?_
            exact Lf.joinA (decide ((v_4.len : Int) ≤ vat)) (by exact ⟨rfl, rfl, rfl, rfl, trivial⟩) h
/-- (*berthmaster/disk.Disk).On -/
def F_disk_Disk_On (d : Option Addr) (w : World) (Q : Bool → World → Prop) : Prop :=
  JoinP (α := Bool) (fun vj vw => Q vj vw)
  (fun vk => CallP Tryz.prog n_disk_Disk_none [.pointer d] w (ret1 tB (fun r vw_1 => (((!r) = true) → nz d (fun b q => ld tB vw_1 b (q + 4) (fun v => vk (!v) vw_1))) ∧
  (((!r) = false) → vk false vw_1))))
theorem vc_disk_Disk_On (d : Option Addr) (w : World) (Q : Bool → World → Prop) (h : F_disk_Disk_On d w Q) : CallP Tryz.prog n_disk_Disk_On [.pointer d] w (ret1 tB Q) := by
  unfold F_disk_Disk_On at h
  refine CallP.of_body 13 Tryz.func22 rfl Tryz.ntmps22 rfl ?_
  refine WC.seq ?_
  refine WC.region ?_
  refine WL.pure (W0 rfl) rfl (Pu.assign rfl rfl) ?_
  refine WL.nil ?_
  refine Lf.thenC ?_
  obtain ⟨vk, h2, h⟩ := h
  refine WC.cut (α := Bool) (k := vk) (fun vj => [(2, .bool vj)]) (fun vj vw h => ?_) ?_
  · replace h := h2 _ _ h
    clear h2
    refine WC.ret ?_
    exact Lf.ret1 rfl rfl ⟨_, rfl, h⟩
  · clear h2
    refine WC.region ?_
    refine WL.pure (W0 rfl) rfl (Pu.move rfl rfl) ?_
    refine WL.call (W0 rfl) rfl (fun xa hxa => run_call (fs := []) (cs := []) (vs := [.pointer d]) rfl rfl rfl Tryz.func37 rfl rfl xa hxa _) h ?_
    rintro _ vw_1 ⟨r, rfl, h⟩
    refine WL.pure (W0 rfl) rfl (Pu.not rfl rfl) ?_
    refine WL.pure (W0 rfl) rfl (Pu.move rfl rfl) ?_
    refine WL.bool (t := 6) rfl (fun hc => ?_) (fun hc => ?_)
    · replace h := h.1 hc
      refine WL.pure (W1 (t := 6) rfl rfl rfl rfl) rfl (Pu.move rfl rfl) ?_
      obtain ⟨b, q, hp, h⟩ := h
      refine WL.pure (W1 (t := 6) rfl rfl rfl rfl) rfl (Pu.nilCheck rfl (by exact pe hp)) ?_
      refine WL.pure (W1 (t := 6) rfl rfl rfl rfl) rfl (Pu.fieldAddr 4 rfl Tryz.underlying57 rfl rfl nz_4 rfl) ?_
      obtain ⟨v, hl, h⟩ := h
      refine WL.val (W1 (t := 6) rfl rfl rfl rfl) rfl (fun xa hxa => Rd.load ok_4 rfl rfl xa hxa _ hl) ?_
      refine WL.pure (W1 (t := 6) rfl rfl rfl rfl) rfl (Pu.not rfl rfl) ?_
      refine WL.pure (W0 rfl) rfl (Pu.pickT rfl rfl rfl) ?_
      refine WL.pure (W0 rfl) rfl (Pu.assign rfl rfl) ?_
      refine WL.nil ?_
      exact Lf.joinA (!v) (by exact ⟨rfl, trivial⟩) h
    · replace h := h.2 hc
      refine WL.unwanted (t := 6) rfl rfl rfl rfl rfl rfl ?_
      refine WL.unwanted (t := 6) rfl rfl rfl rfl rfl rfl ?_
      refine WL.unwanted (t := 6) rfl rfl rfl rfl rfl rfl ?_
      refine WL.unwanted (t := 6) rfl rfl rfl rfl rfl rfl ?_
      refine WL.unwanted (t := 6) rfl rfl rfl rfl rfl rfl ?_
      refine WL.pure (W0 rfl) rfl (Pu.pickF rfl rfl rfl) ?_
      refine WL.pure (W0 rfl) rfl (Pu.assign rfl rfl) ?_
      refine WL.nil ?_
      exact Lf.joinA false (by exact ⟨rfl, trivial⟩) h
/-- berthmaster/journal.named -/
def F_journal_named (s : ByteArray) (most : Int) (w : World) (Q : Bool → World → Prop) : Prop :=
  JoinP (α := Bool) (fun vj vw => ((vj = true) → Q false vw) ∧
  ((vj = false) → RunV Tryz.prog (convert T_string T_sl_uint8 (.string s)) vw (ret1 tSl (fun v vw_1 => LoopP (α := Int) (fun vi vw_2 vJ => ((vi < (v.len : Int)) → ixs v vi (fun b q => ld (tI .u8) vw_2 b (q + (vi).toNat * 1) (fun v_1 => JoinP (α := Bool) (fun vj_1 vw_3 => ((vj_1 = true) → Q false vw_3) ∧
  ((vj_1 = false) → vJ (IntKind.i64.wrap (vi + (1 : Int))) vw_3))
  (fun vk_1 => ((v_1 < (97 : Int)) → vk_1 true vw_2) ∧
  ((¬ (v_1 < (97 : Int))) → vk_1 (decide ((122 : Int) < v_1)) vw_2))))) ∧
  ((¬ (vi < (v.len : Int))) → Q true vw_2)) (0 : Int) vw_1))))
  (fun vk => (((s.size : Int) < (1 : Int)) → vk true w) ∧
  ((¬ ((s.size : Int) < (1 : Int))) → vk (decide (most < (s.size : Int))) w))
theorem vc_journal_named (s : ByteArray) (most : Int) (w : World) (Q : Bool → World → Prop) (h : F_journal_named s most w Q) : CallP Tryz.prog n_journal_named [.string s, .int .i64 most] w (ret1 tB Q) := by
  unfold F_journal_named at h
  refine CallP.of_body 30 Tryz.func24 rfl Tryz.ntmps24 rfl ?_
  refine WC.seq ?_
  refine WC.region ?_
  refine WL.pure (W0 rfl) rfl (Pu.assign rfl rfl) ?_
  refine WL.nil ?_
  refine Lf.thenC ?_
  refine WC.seq ?_
  obtain ⟨vk, h2, h⟩ := h
  refine WC.cut (α := Bool) (k := vk) (fun vj => [(15, .bool vj), (0, .string s)]) (fun vj vw h => ?_) ?_
  · replace h := h2 _ _ h
    clear h2
    refine WC.cond rfl (fun hc => ?_) (fun hc => ?_)
    · replace h := h.1 hc
      refine WC.seq ?_
      refine WC.region ?_
      refine WL.pure (W0 rfl) rfl (Pu.assign rfl rfl) ?_
      refine WL.nil ?_
      refine Lf.thenC ?_
      refine WC.ret ?_
      exact Lf.ret1 rfl rfl ⟨_, rfl, h⟩
    · replace h := h.2 hc
      refine WC.skip ?_
      refine Lf.thenC ?_
      refine WC.seq ?_
      refine WC.seq ?_
      refine WC.region ?_
      refine WL.pure (W0 rfl) rfl (Pu.move rfl rfl) ?_
      obtain ⟨_, vw_1, hr, v, rfl, h⟩ := h
      refine WL.val (W0 rfl) rfl (Rn.conv rfl rfl hr) ?_
      refine WL.pure (W0 rfl) rfl (Pu.len rfl Tryz.underlying32 rfl) ?_
      refine WL.pure (W0 rfl) rfl (Pu.move rfl rfl) ?_
      refine WL.nil ?_
      refine Lf.thenC ?_
      refine WC.block ?_
      refine WC.loop (α := Int) (fun vi => [(19, .int .i64 vi), (17, Sl.v v), (18, .int .i64 (v.len : Int))]) (0 : Int) (by exact ⟨rfl, rfl, rfl, trivial⟩) h (fun vJ vi vw_2 h => ?_)
      refine WC.seq ?_
      refine WC.region ?_
      refine WL.pure (W0 rfl) rfl (Pu.lss rfl rfl rfl) ?_
      refine WL.nil ?_
      refine Lf.thenC ?_
      refine WC.seq ?_
      refine WC.condD rfl (fun hc => ?_) (fun hc => ?_)
      · replace h := h.1 hc
        refine WC.skip ?_
        refine Lf.thenC ?_
        refine WC.seq ?_
        refine WC.block ?_
        refine WC.seq ?_
        refine WC.region ?_
        obtain ⟨hi0, hi1, b, q, hs, h⟩ := h
        refine WL.pure (W0 rfl) rfl (Pu.indexAddr rfl Tryz.underlying32 sz_5 rfl rfl hs hi0 hi1) ?_
        obtain ⟨v_1, hl, h⟩ := h
        refine WL.val (W0 rfl) rfl (fun xa hxa => Rd.load ok_5 rfl rfl xa hxa _ hl) ?_
        refine WL.pure (W0 rfl) rfl (Pu.assign rfl rfl) ?_
        refine WL.nil ?_
        refine Lf.thenC ?_
        obtain ⟨vk_1, h2, h⟩ := h
        refine WC.cut (α := Bool) (k := vk_1) (fun vj_1 => [(28, .bool vj_1), (17, Sl.v v), (18, .int .i64 (v.len : Int)), (19, .int .i64 vi)]) (fun vj_1 vw_3 h => ?_) ?_
        · replace h := h2 _ _ h
          clear h2
          refine WC.cond rfl (fun hc => ?_) (fun hc => ?_)
          · replace h := h.1 hc
            refine WC.seq ?_
            refine WC.region ?_
            refine WL.pure (W0 rfl) rfl (Pu.assign rfl rfl) ?_
            refine WL.nil ?_
            refine Lf.thenC ?_
            refine WC.ret ?_
            exact Lf.ret1 rfl rfl ⟨_, rfl, h⟩
          · replace h := h.2 hc
            refine WC.skip ?_
            refine Lf.thenC ?_
            refine WC.region ?_
            refine WL.pure (W0 rfl) rfl (Pu.add rfl rfl rfl) ?_
            refine WL.pure (W0 rfl) rfl (Pu.move rfl rfl) ?_
            refine WL.nil ?_
            exact Lf.joinA (IntKind.i64.wrap (vi + (1 : Int))) (by exact ⟨rfl, rfl, rfl, trivial⟩) h
        · clear h2
          refine WC.region ?_
          refine WL.pure (W0 rfl) rfl (Pu.move rfl rfl) ?_
          refine WL.pure (W0 rfl) rfl (Pu.lss rfl rfl rfl) ?_
          refine WL.pure (W0 rfl) rfl (Pu.move rfl rfl) ?_
          refine WL.boolD (t := 25) rfl (fun hc => ?_) (fun hc => ?_)
          · replace h := h.1 hc
            refine WL.unwanted (t := 25) rfl rfl rfl rfl rfl rfl ?_
            refine WL.unwanted (t := 25) rfl rfl rfl rfl rfl rfl ?_
            refine WL.pure (W0 rfl) rfl (Pu.pickT rfl rfl rfl) ?_
            refine WL.nil ?_
            exact Lf.joinA true (by exact ⟨rfl, rfl, rfl, rfl, trivial⟩) h
          · replace h := h.2 hc
            refine WL.pure (W1 (t := 25) rfl rfl rfl rfl) rfl (Pu.move rfl rfl) ?_
            refine WL.pure (W1 (t := 25) rfl rfl rfl rfl) rfl (Pu.gtr rfl rfl rfl) ?_
            refine WL.pure (W0 rfl) rfl (Pu.pickF rfl rfl rfl) ?_
            refine WL.nil ?_
            exact Lf.joinA (decide ((122 : Int) < v_1)) (by exact ⟨rfl, rfl, rfl, rfl, trivial⟩) h
      · replace h := h.2 hc
        refine WC.exit rfl ?_
        refine Lf.thenC ?_
        refine WC.seq ?_
        refine WC.region ?_
        refine WL.pure (W0 rfl) rfl (Pu.assign rfl rfl) ?_
        refine WL.nil ?_
        refine Lf.thenC ?_
        refine WC.ret ?_
        exact Lf.ret1 rfl rfl ⟨_, rfl, h⟩
  · clear h2
    refine WC.region ?_
    refine WL.pure (W0 rfl) rfl (Pu.move rfl rfl) ?_
    refine WL.pure (W0 rfl) rfl (Pu.slen rfl Tryz.underlying9 rfl) ?_
    refine WL.pure (W0 rfl) rfl (Pu.lss rfl rfl rfl) ?_
    refine WL.pure (W0 rfl) rfl (Pu.move rfl rfl) ?_
    refine WL.boolD (t := 10) rfl (fun hc => ?_) (fun hc => ?_)
    · replace h := h.1 hc
      refine WL.unwanted (t := 10) rfl rfl rfl rfl rfl rfl ?_
      refine WL.unwanted (t := 10) rfl rfl rfl rfl rfl rfl ?_
      refine WL.unwanted (t := 10) rfl rfl rfl rfl rfl rfl ?_
      refine WL.unwanted (t := 10) rfl rfl rfl rfl rfl rfl ?_
      refine WL.pure (W0 rfl) rfl (Pu.pickT rfl rfl rfl) ?_
      refine WL.nil ?_
      exact Lf.joinA true (by exact ⟨rfl, rfl, trivial⟩) h
    · replace h := h.2 hc
      refine WL.pure (W1 (t := 10) rfl rfl rfl rfl) rfl (Pu.move rfl rfl) ?_
      refine WL.pure (W1 (t := 10) rfl rfl rfl rfl) rfl (Pu.slen rfl Tryz.underlying9 rfl) ?_
      refine WL.pure (W1 (t := 10) rfl rfl rfl rfl) rfl (Pu.move rfl rfl) ?_
      refine WL.pure (W1 (t := 10) rfl rfl rfl rfl) rfl (Pu.gtr rfl rfl rfl) ?_
      refine WL.pure (W0 rfl) rfl (Pu.pickF rfl rfl rfl) ?_
      refine WL.nil ?_
      exact Lf.joinA (decide (most < (s.size : Int))) (by exact ⟨rfl, rfl, trivial⟩) h
/-- (*berthmaster/journal.Journal).file -/
def F_journal_Journal_file (vj : Option Addr) (vn : Int) (w : World) (Q : ByteArray → World → Prop) : Prop :=
  CallP Tryz.prog n_strconv_FormatUint [.int .u64 vn, .int .i64 (10)] w (ret1 tS (fun r vw => nz vj (fun b q => ld tS (dr vw) b (q + 1) (fun v => v.size + (⟨#[45]⟩ : ByteArray).size ≤ 9223372036854775807 ∧ CallP Tryz.prog n_strings_Repeat [.string (⟨#[48]⟩ : ByteArray), .int .i64 (if (IntKind.i64.wrap ((12 : Int) - (r.size : Int))) > (0 : Int) then (IntKind.i64.wrap ((12 : Int) - (r.size : Int))) else (0 : Int))] (dr vw) (ret1 tS (fun r_1 vw_1 => (CellsAt vw_1 b (q + 1) (Ty.cells tS v)) ∧ (v ++ (⟨#[45]⟩ : ByteArray)).size + r_1.size ≤ 9223372036854775807 ∧ ((v ++ (⟨#[45]⟩ : ByteArray)) ++ r_1).size + r.size ≤ 9223372036854775807 ∧ Q (((v ++ (⟨#[45]⟩ : ByteArray)) ++ r_1) ++ r) vw_1))))))
theorem vc_journal_Journal_file (vj : Option Addr) (vn : Int) (w : World) (Q : ByteArray → World → Prop) (h : F_journal_Journal_file vj vn w Q) : CallP Tryz.prog n_journal_Journal_file [.pointer vj, .int .u64 vn] w (ret1 tS Q) := by
  unfold F_journal_Journal_file at h
  refine CallP.of_body 21 Tryz.func31 rfl Tryz.ntmps31 rfl ?_
  refine WC.seq ?_
  refine WC.region ?_
  refine WL.pure (W0 rfl) rfl (Pu.assign rfl rfl) ?_
  refine WL.nil ?_
  refine Lf.thenC ?_
  refine WC.seq ?_
  refine WC.region ?_
  refine WL.pure (W0 rfl) rfl (Pu.move rfl rfl) ?_
  refine WL.call (W0 rfl) rfl (fun xa hxa => run_call (fs := []) (cs := []) (vs := [.int .u64 vn, .int .i64 (10)]) rfl rfl rfl Tryz.func56 rfl rfl xa hxa _) h ?_
  rintro _ vw ⟨r, rfl, h⟩
  refine WL.pure (W0 rfl) rfl (Pu.assign rfl rfl) ?_
  refine WL.nil ?_
  refine Lf.thenC ?_
  refine WC.seq ?_
  refine WC.draw [(0, false), (1, false), (2, false), (3, false), (4, false), (5, false), (6, false), (7, false), (8, false), (11, false), (9, true), (10, false), (12, false), (13, false)] mixed (by kernel_rfl) ?_
  refine DL.pure rfl (W0 rfl) rfl (Pu.move rfl rfl) ?_
  obtain ⟨b, q, hp, h⟩ := h
  refine DL.pure rfl (W0 rfl) rfl (Pu.nilCheck rfl (by exact pe hp)) ?_
  refine DL.pure rfl (W0 rfl) rfl (Pu.fieldAddr 1 rfl Tryz.underlying62 rfl rfl nz_9 rfl) ?_
  obtain ⟨v, hl, h⟩ := h
  refine DL.read _ rfl (W0 rfl) rfl (Rd.load ok_9 rfl rfl) hl ?_
  obtain ⟨hj, h⟩ := h
  refine DL.pure rfl (W0 rfl) rfl (Pu.sadd rfl rfl rfl hj) ?_
  refine DL.pure rfl (W0 rfl) rfl (Pu.move rfl rfl) ?_
  refine DL.pure rfl (W0 rfl) rfl (Pu.slen rfl Tryz.underlying9 rfl) ?_
  refine DL.pure rfl (W0 rfl) rfl (Pu.sub rfl rfl rfl) ?_
  refine DL.pure rfl (W0 rfl) rfl (Pu.max rfl rfl rfl) ?_
  refine DL.pure rfl (W0 rfl) rfl (Pu.move rfl rfl) ?_
  refine DL.call rfl (W0 rfl) rfl (fun xa hxa => run_call (fs := []) (cs := []) (vs := [.string (⟨#[48]⟩ : ByteArray), .int .i64 (if (IntKind.i64.wrap ((12 : Int) - (r.size : Int))) > (0 : Int) then (IntKind.i64.wrap ((12 : Int) - (r.size : Int))) else (0 : Int))]) rfl rfl rfl Tryz.func57 rfl rfl xa hxa _) h ?_
  rintro _ vw_1 ⟨r_1, rfl, h⟩
  obtain ⟨hk, h⟩ := h
  refine ⟨(by exact ⟨.inr hk, trivial⟩), ?_⟩
  obtain ⟨hj, h⟩ := h
  refine DL.pure rfl (W0 rfl) rfl (Pu.sadd rfl rfl rfl hj) ?_
  obtain ⟨hj, h⟩ := h
  refine DL.pure rfl (W0 rfl) rfl (Pu.sadd rfl rfl rfl hj) ?_
  refine DL.pure rfl (W0 rfl) rfl (Pu.assign rfl rfl) ?_
  refine DL.nil ?_
  refine Lf.thenC ?_
  refine WC.ret ?_
  exact Lf.ret1 rfl rfl ⟨_, rfl, h⟩
/-- (*berthmaster/journal.Journal).cut -/
def F_journal_Journal_cut (vj : Option Addr) (w : World) (Q : ByteArray → World → Prop) : Prop :=
  nz vj (fun b q => ld tS w b (q + 1) (fun v => v.size + (⟨#[45, 99, 117, 116]⟩ : ByteArray).size ≤ 9223372036854775807 ∧ Q (v ++ (⟨#[45, 99, 117, 116]⟩ : ByteArray)) w))
theorem vc_journal_Journal_cut (vj : Option Addr) (w : World) (Q : ByteArray → World → Prop) (h : F_journal_Journal_cut vj w Q) : CallP Tryz.prog n_journal_Journal_cut [.pointer vj] w (ret1 tS Q) := by
  unfold F_journal_Journal_cut at h
  refine CallP.of_body 8 Tryz.func44 rfl Tryz.ntmps44 rfl ?_
  refine WC.seq ?_
  refine WC.region ?_
  refine WL.pure (W0 rfl) rfl (Pu.assign rfl rfl) ?_
  refine WL.nil ?_
  refine Lf.thenC ?_
  refine WC.seq ?_
  refine WC.region ?_
  refine WL.pure (W0 rfl) rfl (Pu.move rfl rfl) ?_
  obtain ⟨b, q, hp, h⟩ := h
  refine WL.pure (W0 rfl) rfl (Pu.nilCheck rfl (by exact pe hp)) ?_
  refine WL.pure (W0 rfl) rfl (Pu.fieldAddr 1 rfl Tryz.underlying62 rfl rfl nz_9 rfl) ?_
  obtain ⟨v, hl, h⟩ := h
  refine WL.val (W0 rfl) rfl (fun xa hxa => Rd.load ok_9 rfl rfl xa hxa _ hl) ?_
  obtain ⟨hj, h⟩ := h
  refine WL.pure (W0 rfl) rfl (Pu.sadd rfl rfl rfl hj) ?_
  refine WL.pure (W0 rfl) rfl (Pu.assign rfl rfl) ?_
  refine WL.nil ?_
  refine Lf.thenC ?_
  refine WC.ret ?_
  exact Lf.ret1 rfl rfl ⟨_, rfl, h⟩
/-- (*berthmaster/journal.Journal).number -/
def F_journal_Journal_number (vj : Option Addr) (file : ByteArray) (w : World) (Q : Int → Bool → World → Prop) : Prop :=
  nz vj (fun b q => ld tS w b (q + 1) (fun v => v.size + (⟨#[45]⟩ : ByteArray).size ≤ 9223372036854775807 ∧ CallP Tryz.prog n_strings_CutPrefix [.string file, .string (v ++ (⟨#[45]⟩ : ByteArray))] w (ret2 tS tB (fun r r_1 vw => JoinP (α := Bool) (fun vj_1 vw_1 => ((vj_1 = true) → Q (0 : Int) false vw_1) ∧
  ((vj_1 = false) → RunV Tryz.prog (convert T_string T_sl_uint8 (.string r)) vw_1 (ret1 tSl (fun v_1 vw_2 => LoopP (α := Int) (fun vi vw_3 vJ => ((vi < (v_1.len : Int)) → ixs v_1 vi (fun b_1 q_1 => ld (tI .u8) vw_3 b_1 (q_1 + (vi).toNat * 1) (fun v_2 => JoinP (α := Bool) (fun vj_2 vw_4 => ((vj_2 = true) → Q (0 : Int) false vw_4) ∧
  ((vj_2 = false) → vJ (IntKind.i64.wrap (vi + (1 : Int))) vw_4))
  (fun vk_1 => ((v_2 < (48 : Int)) → vk_1 true vw_3) ∧
  ((¬ (v_2 < (48 : Int))) → vk_1 (decide ((57 : Int) < v_2)) vw_3))))) ∧
  ((¬ (vi < (v_1.len : Int))) → CallP Tryz.prog n_strconv_ParseUint [.string r, .int .i64 (10), .int .i64 (64)] vw_3 (ret2 (tI .u64) tV (fun r_2 r_3 vw_5 => isI r_3.1 = true ∧ Q r_2 (nilI r_3.1) (dr vw_5))))) (0 : Int) vw_2))))
  (fun vk => (((!r_1) = true) → vk true vw) ∧
  (((!r_1) = false) → vk (decide ((r.size : Int) ≠ (12 : Int))) vw))))))
theorem vc_journal_Journal_number (vj : Option Addr) (file : ByteArray) (w : World) (Q : Int → Bool → World → Prop) (h : F_journal_Journal_number vj file w Q) : CallP Tryz.prog n_journal_Journal_number [.pointer vj, .string file] w (ret2 (tI .u64) tB Q) := by
  unfold F_journal_Journal_number at h
  refine CallP.of_body 51 Tryz.func46 rfl Tryz.ntmps46 rfl ?_
  refine WC.seq ?_
  refine WC.region ?_
  refine WL.pure (W0 rfl) rfl (Pu.assign rfl rfl) ?_
  refine WL.pure (W0 rfl) rfl (Pu.assign rfl rfl) ?_
  refine WL.nil ?_
  refine Lf.thenC ?_
  refine WC.seq ?_
  refine WC.region ?_
  refine WL.pure (W0 rfl) rfl (Pu.move rfl rfl) ?_
  refine WL.pure (W0 rfl) rfl (Pu.move rfl rfl) ?_
  obtain ⟨b, q, hp, h⟩ := h
  refine WL.pure (W0 rfl) rfl (Pu.nilCheck rfl (by exact pe hp)) ?_
  refine WL.pure (W0 rfl) rfl (Pu.fieldAddr 1 rfl Tryz.underlying62 rfl rfl nz_9 rfl) ?_
  obtain ⟨v, hl, h⟩ := h
  refine WL.val (W0 rfl) rfl (fun xa hxa => Rd.load ok_9 rfl rfl xa hxa _ hl) ?_
  obtain ⟨hj, h⟩ := h
  refine WL.pure (W0 rfl) rfl (Pu.sadd rfl rfl rfl hj) ?_
  refine WL.call (W0 rfl) rfl (fun xa hxa => run_call (fs := []) (cs := []) (vs := [.string file, .string (v ++ (⟨#[45]⟩ : ByteArray))]) rfl rfl rfl Tryz.func62 rfl rfl xa hxa _) h ?_
  rintro _ vw ⟨r, r_1, rfl, h⟩
  refine WL.pure (W0 rfl) rfl (Pu.move rfl rfl) ?_
  refine WL.pure (W0 rfl) rfl (Pu.extract (vs := [.string r, .bool r_1]) rfl rfl rfl) ?_
  refine WL.pure (W0 rfl) rfl (Pu.extract (vs := [.string r, .bool r_1]) rfl rfl rfl) ?_
  refine WL.pure (W0 rfl) rfl (Pu.assign rfl rfl) ?_
  refine WL.pure (W0 rfl) rfl (Pu.assign rfl rfl) ?_
  refine WL.nil ?_
  refine Lf.thenC ?_
  refine WC.seq ?_
  obtain ⟨vk, h2, h⟩ := h
  refine WC.cut (α := Bool) (k := vk) (fun vj_1 => [(28, .bool vj_1), (6, .string r)]) (fun vj_1 vw_1 h => ?_) ?_
  · replace h := h2 _ _ h
    clear h2
    refine WC.cond rfl (fun hc => ?_) (fun hc => ?_)
    · replace h := h.1 hc
      refine WC.seq ?_
      refine WC.region ?_
      refine WL.pure (W0 rfl) rfl (Pu.assign rfl rfl) ?_
      refine WL.pure (W0 rfl) rfl (Pu.assign rfl rfl) ?_
      refine WL.nil ?_
      refine Lf.thenC ?_
      refine WC.ret ?_
      exact Lf.ret2 rfl rfl rfl ⟨_, _, rfl, h⟩
    · replace h := h.2 hc
      refine WC.skip ?_
      refine Lf.thenC ?_
      refine WC.seq ?_
      refine WC.seq ?_
      refine WC.region ?_
      refine WL.pure (W0 rfl) rfl (Pu.move rfl rfl) ?_
      obtain ⟨_, vw_2, hr, v_1, rfl, h⟩ := h
      refine WL.val (W0 rfl) rfl (Rn.conv rfl rfl hr) ?_
      refine WL.pure (W0 rfl) rfl (Pu.len rfl Tryz.underlying32 rfl) ?_
      refine WL.pure (W0 rfl) rfl (Pu.move rfl rfl) ?_
      refine WL.nil ?_
      refine Lf.thenC ?_
      refine WC.block ?_
      refine WC.loop (α := Int) (fun vi => [(32, .int .i64 vi), (6, .string r), (30, Sl.v v_1), (31, .int .i64 (v_1.len : Int))]) (0 : Int) (by exact ⟨rfl, rfl, rfl, rfl, trivial⟩) h (fun vJ vi vw_3 h => ?_)
      refine WC.seq ?_
      refine WC.region ?_
      refine WL.pure (W0 rfl) rfl (Pu.lss rfl rfl rfl) ?_
      refine WL.nil ?_
      refine Lf.thenC ?_
      refine WC.seq ?_
      refine WC.condD rfl (fun hc => ?_) (fun hc => ?_)
      · replace h := h.1 hc
        refine WC.skip ?_
        refine Lf.thenC ?_
        refine WC.seq ?_
        refine WC.block ?_
        refine WC.seq ?_
        refine WC.region ?_
        obtain ⟨hi0, hi1, b_1, q_1, hs, h⟩ := h
        refine WL.pure (W0 rfl) rfl (Pu.indexAddr rfl Tryz.underlying32 sz_5 rfl rfl hs hi0 hi1) ?_
        obtain ⟨v_2, hl, h⟩ := h
        refine WL.val (W0 rfl) rfl (fun xa hxa => Rd.load ok_5 rfl rfl xa hxa _ hl) ?_
        refine WL.pure (W0 rfl) rfl (Pu.assign rfl rfl) ?_
        refine WL.nil ?_
        refine Lf.thenC ?_
        obtain ⟨vk_1, h2, h⟩ := h
        refine WC.cut (α := Bool) (k := vk_1) (fun vj_2 => [(41, .bool vj_2), (6, .string r), (30, Sl.v v_1), (31, .int .i64 (v_1.len : Int)), (32, .int .i64 vi)]) (fun vj_2 vw_4 h => ?_) ?_
        · replace h := h2 _ _ h
          clear h2
          refine WC.cond rfl (fun hc => ?_) (fun hc => ?_)
          · replace h := h.1 hc
            refine WC.seq ?_
            refine WC.region ?_
            refine WL.pure (W0 rfl) rfl (Pu.assign rfl rfl) ?_
            refine WL.pure (W0 rfl) rfl (Pu.assign rfl rfl) ?_
            refine WL.nil ?_
            refine Lf.thenC ?_
            refine WC.ret ?_
            exact Lf.ret2 rfl rfl rfl ⟨_, _, rfl, h⟩
          · replace h := h.2 hc
            refine WC.skip ?_
            refine Lf.thenC ?_
            refine WC.region ?_
            refine WL.pure (W0 rfl) rfl (Pu.add rfl rfl rfl) ?_
            refine WL.pure (W0 rfl) rfl (Pu.move rfl rfl) ?_
            refine WL.nil ?_
            exact Lf.joinA (IntKind.i64.wrap (vi + (1 : Int))) (by exact ⟨rfl, rfl, rfl, rfl, trivial⟩) h
        · clear h2
          refine WC.region ?_
          refine WL.pure (W0 rfl) rfl (Pu.move rfl rfl) ?_
          refine WL.pure (W0 rfl) rfl (Pu.lss rfl rfl rfl) ?_
          refine WL.pure (W0 rfl) rfl (Pu.move rfl rfl) ?_
          refine WL.boolD (t := 38) rfl (fun hc => ?_) (fun hc => ?_)
          · replace h := h.1 hc
            refine WL.unwanted (t := 38) rfl rfl rfl rfl rfl rfl ?_
            refine WL.unwanted (t := 38) rfl rfl rfl rfl rfl rfl ?_
            refine WL.pure (W0 rfl) rfl (Pu.pickT rfl rfl rfl) ?_
            refine WL.nil ?_
            exact Lf.joinA true (by exact ⟨rfl, rfl, rfl, rfl, rfl, trivial⟩) h
          · replace h := h.2 hc
            refine WL.pure (W1 (t := 38) rfl rfl rfl rfl) rfl (Pu.move rfl rfl) ?_
            refine WL.pure (W1 (t := 38) rfl rfl rfl rfl) rfl (Pu.gtr rfl rfl rfl) ?_
            refine WL.pure (W0 rfl) rfl (Pu.pickF rfl rfl rfl) ?_
            refine WL.nil ?_
            exact Lf.joinA (decide ((57 : Int) < v_2)) (by exact ⟨rfl, rfl, rfl, rfl, rfl, trivial⟩) h
      · replace h := h.2 hc
        refine WC.exit rfl ?_
        refine Lf.thenC ?_
        refine WC.seq ?_
        refine WC.region ?_
        refine WL.pure (W0 rfl) rfl (Pu.move rfl rfl) ?_
        refine WL.call (W0 rfl) rfl (fun xa hxa => run_call (fs := []) (cs := []) (vs := [.string r, .int .i64 (10), .int .i64 (64)]) rfl rfl rfl Tryz.func63 rfl rfl xa hxa _) h ?_
        rintro _ vw_5 ⟨r_2, r_3, rfl, h⟩
        refine WL.pure (W0 rfl) rfl (Pu.move rfl rfl) ?_
        refine WL.pure (W0 rfl) rfl (Pu.extract (vs := [.int .u64 r_2, r_3.1]) rfl rfl rfl) ?_
        refine WL.pure (W0 rfl) rfl (Pu.extract (vs := [.int .u64 r_2, r_3.1]) rfl rfl rfl) ?_
        refine WL.pure (W0 rfl) rfl (Pu.assign rfl rfl) ?_
        refine WL.pure (W0 rfl) rfl (Pu.assign rfl rfl) ?_
        refine WL.nil ?_
        refine Lf.thenC ?_
        refine WC.seq ?_
        refine WC.draw [(0, false), (1, false), (2, false), (3, false), (4, false)] mixed (by kernel_rfl) ?_
        refine DL.pure rfl (W0 rfl) rfl (Pu.move rfl rfl) ?_
        refine DL.pure rfl (W0 rfl) rfl (Pu.move rfl rfl) ?_
        obtain ⟨hI, h⟩ := h
        refine DL.pure rfl (W0 rfl) rfl (Pu.inil rfl Tryz.underlying105 rfl hI) ?_
        refine DL.pure rfl (W0 rfl) rfl (Pu.assign rfl rfl) ?_
        refine DL.pure rfl (W0 rfl) rfl (Pu.assign rfl rfl) ?_
        refine DL.nil ?_
        refine Lf.thenC ?_
        refine WC.ret ?_
        exact Lf.ret2 rfl rfl rfl ⟨_, _, rfl, h⟩
  · clear h2
    refine WC.region ?_
    refine WL.pure (W0 rfl) rfl (Pu.move rfl rfl) ?_
    refine WL.pure (W0 rfl) rfl (Pu.not rfl rfl) ?_
    refine WL.pure (W0 rfl) rfl (Pu.move rfl rfl) ?_
    refine WL.bool (t := 24) rfl (fun hc => ?_) (fun hc => ?_)
    · replace h := h.1 hc
      refine WL.unwanted (t := 24) rfl rfl rfl rfl rfl rfl ?_
      refine WL.unwanted (t := 24) rfl rfl rfl rfl rfl rfl ?_
      refine WL.unwanted (t := 24) rfl rfl rfl rfl rfl rfl ?_
      refine WL.pure (W0 rfl) rfl (Pu.pickT rfl rfl rfl) ?_
      refine WL.nil ?_
      exact Lf.joinA true (by exact ⟨rfl, rfl, trivial⟩) h
    · replace h := h.2 hc
      refine WL.pure (W1 (t := 24) rfl rfl rfl rfl) rfl (Pu.move rfl rfl) ?_
      refine WL.pure (W1 (t := 24) rfl rfl rfl rfl) rfl (Pu.slen rfl Tryz.underlying9 rfl) ?_
      refine WL.pure (W1 (t := 24) rfl rfl rfl rfl) rfl (Pu.neq rfl rfl rfl) ?_
      refine WL.pure (W0 rfl) rfl (Pu.pickF rfl rfl rfl) ?_
      refine WL.nil ?_
      exact Lf.joinA (decide ((r.size : Int) ≠ (12 : Int))) (by exact ⟨rfl, rfl, trivial⟩) h
end Go.Proofs.YtccebpahnnfceaaGreatDoor
