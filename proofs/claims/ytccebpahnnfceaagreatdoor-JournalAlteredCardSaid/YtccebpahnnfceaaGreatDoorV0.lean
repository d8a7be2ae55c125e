/- Verification conditions of functions. Written by vcgen.py. -/
import Derived.Test.YtccebpahnnfceaaGreatDoorVcT
namespace Go.Proofs.YtccebpahnnfceaaGreatDoor
open Go.Vc
set_option linter.unusedVariables false
set_option maxRecDepth 100000
/-- berthmaster/crc.byByte -/
def F_crc_byByte (s : Int) (c : Int) (w : World) (Q : Int → World → Prop) : Prop :=
  LoopP (α := Int × Int) (fun vi vw vJ => ((vi.2 < (8 : Int)) → JoinP (α := Int) (fun vj vw_1 => vJ (vj, (IntKind.i64.wrap (vi.2 + (1 : Int)))) vw_1)
  (fun vk => (((bits .and .u32 vi.1 (1 : Int)) = (1 : Int)) → vk (bits .xor .u32 (shrV .u32 vi.1 (1 : Int)) (3988292384 : Int)) vw) ∧
  ((¬ ((bits .and .u32 vi.1 (1 : Int)) = (1 : Int))) → vk (shrV .u32 vi.1 (1 : Int)) vw))) ∧
  ((¬ (vi.2 < (8 : Int))) → Q vi.1 vw)) ((bits .xor .u32 s (IntKind.u32.wrap c)), (0 : Int)) w
theorem vc_crc_byByte (s : Int) (c : Int) (w : World) (Q : Int → World → Prop) (h : F_crc_byByte s c w Q) : CallP Tryz.prog n_crc_byByte [.int .u32 s, .int .u8 c] w (ret1 (tI .u32) Q) := by
  unfold F_crc_byByte at h
  refine CallP.of_body 21 Tryz.func69 rfl Tryz.ntmps69 rfl ?_
  refine WC.seq ?_
  refine WC.region ?_
  refine WL.pure (W0 rfl) rfl (Pu.assign rfl rfl) ?_
  refine WL.nil ?_
  refine Lf.thenC ?_
  refine WC.seq ?_
  refine WC.region ?_
  refine WL.pure (W0 rfl) rfl (Pu.move rfl rfl) ?_
  refine WL.pure (W0 rfl) rfl (Pu.move rfl rfl) ?_
  refine WL.pure (W0 rfl) rfl (Pu.conv rfl (by rw [Tryz.underlying5]; rfl) Tryz.underlying23 rfl) ?_
  refine WL.pure (W0 rfl) rfl (Pu.xor rfl rfl rfl) ?_
  refine WL.pure (W0 rfl) rfl (Pu.assign rfl rfl) ?_
  refine WL.nil ?_
  refine Lf.thenC ?_
  refine WC.seq ?_
  refine WC.seq ?_
  refine WC.region ?_
  refine WL.pure (W0 rfl) rfl (Pu.move rfl rfl) ?_
  refine WL.nil ?_
  refine Lf.thenC ?_
  refine WC.block ?_
  refine WC.loop (α := Int × Int) (fun vi => [(0, .int .u32 vi.1), (9, .int .i64 vi.2)]) ((bits .xor .u32 s (IntKind.u32.wrap c)), (0 : Int)) (by exact ⟨rfl, rfl, trivial⟩) h (fun vJ vi vw h => ?_)
  refine WC.seq ?_
  refine WC.region ?_
  refine WL.pure (W0 rfl) rfl (Pu.lss rfl rfl rfl) ?_
  refine WL.nil ?_
  refine Lf.thenC ?_
  refine WC.seq ?_
  refine WC.condD rfl (fun hc => ?_) (fun hc => ?_)
  · replace h := h.1 hc
    refine WC.skip ?_
    refine Lf.thenC ?_
    obtain ⟨vk, h2, h⟩ := h
    refine WC.cut (α := Int) (k := vk) (fun vj => [(0, .int .u32 vj), (9, .int .i64 vi.2)]) (fun vj vw_1 h => ?_) ?_
    · replace h := h2 _ _ h
      clear h2
      refine WC.region ?_
      refine WL.pure (W0 rfl) rfl (Pu.add rfl rfl rfl) ?_
      refine WL.pure (W0 rfl) rfl (Pu.move rfl rfl) ?_
      refine WL.nil ?_
      exact Lf.joinA (vj, (IntKind.i64.wrap (vi.2 + (1 : Int)))) (by exact ⟨rfl, rfl, trivial⟩) h
    · clear h2
      refine WC.block ?_
      refine WC.seq ?_
      refine WC.region ?_
      refine WL.pure (W0 rfl) rfl (Pu.move rfl rfl) ?_
      refine WL.pure (W0 rfl) rfl (Pu.and rfl rfl rfl) ?_
      refine WL.pure (W0 rfl) rfl (Pu.eql rfl rfl rfl) ?_
      refine WL.nil ?_
      refine Lf.thenC ?_
      refine WC.condD rfl (fun hc => ?_) (fun hc => ?_)
      · replace h := h.1 hc
        refine WC.region ?_
        refine WL.pure (W0 rfl) rfl (Pu.move rfl rfl) ?_
        refine WL.pure (W0 rfl) rfl (Pu.shr rfl rfl rfl (by decide)) ?_
        refine WL.pure (W0 rfl) rfl (Pu.xor rfl rfl rfl) ?_
        refine WL.pure (W0 rfl) rfl (Pu.assign rfl rfl) ?_
        refine WL.nil ?_
        exact Lf.joinA (bits .xor .u32 (shrV .u32 vi.1 (1 : Int)) (3988292384 : Int)) (by exact ⟨rfl, rfl, trivial⟩) h
      · replace h := h.2 hc
        refine WC.region ?_
        refine WL.pure (W0 rfl) rfl (Pu.move rfl rfl) ?_
        refine WL.pure (W0 rfl) rfl (Pu.shr rfl rfl rfl (by decide)) ?_
        refine WL.pure (W0 rfl) rfl (Pu.assign rfl rfl) ?_
        refine WL.nil ?_
        exact Lf.joinA (shrV .u32 vi.1 (1 : Int)) (by exact ⟨rfl, rfl, trivial⟩) h
  · replace h := h.2 hc
    refine WC.exit rfl ?_
    refine Lf.thenC ?_
    refine WC.seq ?_
    refine WC.region ?_
    refine WL.pure (W0 rfl) rfl (Pu.move rfl rfl) ?_
    refine WL.pure (W0 rfl) rfl (Pu.assign rfl rfl) ?_
    refine WL.nil ?_
    refine Lf.thenC ?_
    refine WC.ret ?_
    exact Lf.ret1 rfl rfl ⟨_, rfl, h⟩
/-- berthmaster/crc.More -/
def F_crc_More (sum : Int) (b : Sl) (w : World) (Q : Int → World → Prop) : Prop :=
  LoopP (α := Int × Int) (fun vi vw vJ => ((vi.2 < (b.len : Int)) → ixs b vi.2 (fun b_1 q => ld (tI .u8) vw b_1 (q + (vi.2).toNat * 1) (fun v => CallP Tryz.prog n_crc_byByte [.int .u32 vi.1, .int .u8 v] vw (ret1 (tI .u32) (fun r vw_1 => vJ (r, (IntKind.i64.wrap (vi.2 + (1 : Int)))) vw_1))))) ∧
  ((¬ (vi.2 < (b.len : Int))) → Q (bits .xor .u32 (if IntKind.u32.signed then -1 else IntKind.u32.max) vi.1) vw)) ((bits .xor .u32 (if IntKind.u32.signed then -1 else IntKind.u32.max) sum), (0 : Int)) w
theorem vc_crc_More (sum : Int) (b : Sl) (w : World) (Q : Int → World → Prop) (h : F_crc_More sum b w Q) : CallP Tryz.prog n_crc_More [.int .u32 sum, Sl.v b] w (ret1 (tI .u32) Q) := by
  unfold F_crc_More at h
  refine CallP.of_body 22 Tryz.func53 rfl Tryz.ntmps53 rfl ?_
  refine WC.seq ?_
  refine WC.region ?_
  refine WL.pure (W0 rfl) rfl (Pu.assign rfl rfl) ?_
  refine WL.nil ?_
  refine Lf.thenC ?_
  refine WC.seq ?_
  refine WC.region ?_
  refine WL.pure (W0 rfl) rfl (Pu.move rfl rfl) ?_
  refine WL.pure (W0 rfl) rfl (Pu.cpl rfl rfl) ?_
  refine WL.pure (W0 rfl) rfl (Pu.assign rfl rfl) ?_
  refine WL.nil ?_
  refine Lf.thenC ?_
  refine WC.seq ?_
  refine WC.seq ?_
  refine WC.region ?_
  refine WL.pure (W0 rfl) rfl (Pu.move rfl rfl) ?_
  refine WL.pure (W0 rfl) rfl (Pu.len rfl Tryz.underlying32 rfl) ?_
  refine WL.pure (W0 rfl) rfl (Pu.move rfl rfl) ?_
  refine WL.nil ?_
  refine Lf.thenC ?_
  refine WC.block ?_
  refine WC.loop (α := Int × Int) (fun vi => [(5, .int .u32 vi.1), (12, .int .i64 vi.2), (10, Sl.v b), (11, .int .i64 (b.len : Int))]) ((bits .xor .u32 (if IntKind.u32.signed then -1 else IntKind.u32.max) sum), (0 : Int)) (by exact ⟨rfl, rfl, rfl, rfl, trivial⟩) h (fun vJ vi vw h => ?_)
  refine WC.seq ?_
  refine WC.region ?_
  refine WL.pure (W0 rfl) rfl (Pu.lss rfl rfl rfl) ?_
  refine WL.nil ?_
  refine Lf.thenC ?_
  refine WC.seq ?_
  refine WC.condD rfl (fun hc => ?_) (fun hc => ?_)
  · replace h := h.1 hc
    refine WC.skip ?_
    refine Lf.thenC ?_
    refine WC.seq ?_
    refine WC.block ?_
    refine WC.seq ?_
    refine WC.region ?_
    obtain ⟨hi0, hi1, b_1, q, hs, h⟩ := h
    refine WL.pure (W0 rfl) rfl (Pu.indexAddr rfl Tryz.underlying32 sz_5 rfl rfl hs hi0 hi1) ?_
    obtain ⟨v, hl, h⟩ := h
    refine WL.val (W0 rfl) rfl (fun xa hxa => Rd.load ok_5 rfl rfl xa hxa _ hl) ?_
    refine WL.pure (W0 rfl) rfl (Pu.assign rfl rfl) ?_
    refine WL.nil ?_
    refine Lf.thenC ?_
    refine WC.region ?_
    refine WL.pure (W0 rfl) rfl (Pu.move rfl rfl) ?_
    refine WL.pure (W0 rfl) rfl (Pu.move rfl rfl) ?_
    refine WL.call (W0 rfl) rfl (fun xa hxa => run_call (fs := []) (cs := []) (vs := [.int .u32 vi.1, .int .u8 v]) rfl rfl rfl Tryz.func69 rfl rfl xa hxa _) h ?_
    rintro _ vw_1 ⟨r, rfl, h⟩
    refine WL.pure (W0 rfl) rfl (Pu.assign rfl rfl) ?_
    refine WL.nil ?_
    refine Lf.thenC ?_
    refine WC.region ?_
    refine WL.pure (W0 rfl) rfl (Pu.add rfl rfl rfl) ?_
    refine WL.pure (W0 rfl) rfl (Pu.move rfl rfl) ?_
    refine WL.nil ?_
    exact Lf.joinA (r, (IntKind.i64.wrap (vi.2 + (1 : Int)))) (by exact ⟨rfl, rfl, rfl, rfl, trivial⟩) h
  · replace h := h.2 hc
    refine WC.exit rfl ?_
    refine Lf.thenC ?_
    refine WC.seq ?_
    refine WC.region ?_
    refine WL.pure (W0 rfl) rfl (Pu.move rfl rfl) ?_
    refine WL.pure (W0 rfl) rfl (Pu.cpl rfl rfl) ?_
    refine WL.pure (W0 rfl) rfl (Pu.assign rfl rfl) ?_
    refine WL.nil ?_
    refine Lf.thenC ?_
    refine WC.ret ?_
    exact Lf.ret1 rfl rfl ⟨_, rfl, h⟩
/-- berthmaster/crc.Sum -/
def F_crc_Sum (b : Sl) (w : World) (Q : Int → World → Prop) : Prop :=
  CallP Tryz.prog n_crc_More [.int .u32 (0), Sl.v b] w (ret1 (tI .u32) (fun r vw => Q r vw))
theorem vc_crc_Sum (b : Sl) (w : World) (Q : Int → World → Prop) (h : F_crc_Sum b w Q) : CallP Tryz.prog n_crc_Sum [Sl.v b] w (ret1 (tI .u32) Q) := by
  unfold F_crc_Sum at h
  refine CallP.of_body 5 Tryz.func51 rfl Tryz.ntmps51 rfl ?_
  refine WC.seq ?_
  refine WC.region ?_
  refine WL.pure (W0 rfl) rfl (Pu.assign rfl rfl) ?_
  refine WL.nil ?_
  refine Lf.thenC ?_
  refine WC.seq ?_
  refine WC.region ?_
  refine WL.pure (W0 rfl) rfl (Pu.move rfl rfl) ?_
  refine WL.call (W0 rfl) rfl (fun xa hxa => run_call (fs := []) (cs := []) (vs := [.int .u32 (0), Sl.v b]) rfl rfl rfl Tryz.func53 rfl rfl xa hxa _) h ?_
  rintro _ vw ⟨r, rfl, h⟩
  refine WL.pure (W0 rfl) rfl (Pu.assign rfl rfl) ?_
  refine WL.nil ?_
  refine Lf.thenC ?_
  refine WC.ret ?_
  exact Lf.ret1 rfl rfl ⟨_, rfl, h⟩
/-- berthmaster/frame.get -/
def F_frame_get (b : Sl) (w : World) (Q : Int → World → Prop) : Prop :=
  ixs b (0 : Int) (fun b_1 q => ld (tI .u8) (dr w) b_1 (q + ((0 : Int)).toNat * 1) (fun v => ixs b (1 : Int) (fun b_2 q_1 => ld (tI .u8) (dr w) b_2 (q_1 + ((1 : Int)).toNat * 1) (fun v_1 => ixs b (2 : Int) (fun b_3 q_2 => ld (tI .u8) (dr w) b_3 (q_2 + ((2 : Int)).toNat * 1) (fun v_2 => ixs b (3 : Int) (fun b_4 q_3 => ld (tI .u8) (dr w) b_4 (q_3 + ((3 : Int)).toNat * 1) (fun v_3 => Q (bits .or .u32 (bits .or .u32 (bits .or .u32 (IntKind.u32.wrap v) (shlV .u32 (IntKind.u32.wrap v_1) (8 : Int))) (shlV .u32 (IntKind.u32.wrap v_2) (16 : Int))) (shlV .u32 (IntKind.u32.wrap v_3) (24 : Int))) (dr w)))))))))
theorem vc_frame_get (b : Sl) (w : World) (Q : Int → World → Prop) (h : F_frame_get b w Q) : CallP Tryz.prog n_frame_get [Sl.v b] w (ret1 (tI .u32) Q) := by
  unfold F_frame_get at h
  refine CallP.of_body 25 Tryz.func125 rfl Tryz.ntmps125 rfl ?_
  refine WC.seq ?_
  refine WC.region ?_
  refine WL.pure (W0 rfl) rfl (Pu.assign rfl rfl) ?_
  refine WL.nil ?_
  refine Lf.thenC ?_
  refine WC.seq ?_
  refine WC.draw [(0, false), (1, false), (2, false), (3, false), (4, false), (5, false), (6, false), (7, false), (8, false), (9, false), (10, false), (11, false), (12, false), (13, false), (14, false), (15, false), (16, false), (17, false), (18, false), (19, false), (20, false), (21, false), (22, false)] mixed (by kernel_rfl) ?_
  refine DL.pure rfl (W0 rfl) rfl (Pu.move rfl rfl) ?_
  obtain ⟨hi0, hi1, b_1, q, hs, h⟩ := h
  refine DL.pure rfl (W0 rfl) rfl (Pu.indexAddr rfl Tryz.underlying32 sz_5 rfl rfl hs hi0 hi1) ?_
  obtain ⟨v, hl, h⟩ := h
  refine DL.read _ rfl (W0 rfl) rfl (Rd.load ok_5 rfl rfl) hl ?_
  refine DL.pure rfl (W0 rfl) rfl (Pu.conv rfl (by rw [Tryz.underlying5]; rfl) Tryz.underlying23 rfl) ?_
  refine DL.pure rfl (W0 rfl) rfl (Pu.move rfl rfl) ?_
  obtain ⟨hi0, hi1, b_2, q_1, hs, h⟩ := h
  refine DL.pure rfl (W0 rfl) rfl (Pu.indexAddr rfl Tryz.underlying32 sz_5 rfl rfl hs hi0 hi1) ?_
  obtain ⟨v_1, hl, h⟩ := h
  refine DL.read _ rfl (W0 rfl) rfl (Rd.load ok_5 rfl rfl) hl ?_
  refine DL.pure rfl (W0 rfl) rfl (Pu.conv rfl (by rw [Tryz.underlying5]; rfl) Tryz.underlying23 rfl) ?_
  refine DL.pure rfl (W0 rfl) rfl (Pu.shl rfl rfl rfl (by decide)) ?_
  refine DL.pure rfl (W0 rfl) rfl (Pu.or rfl rfl rfl) ?_
  refine DL.pure rfl (W0 rfl) rfl (Pu.move rfl rfl) ?_
  obtain ⟨hi0, hi1, b_3, q_2, hs, h⟩ := h
  refine DL.pure rfl (W0 rfl) rfl (Pu.indexAddr rfl Tryz.underlying32 sz_5 rfl rfl hs hi0 hi1) ?_
  obtain ⟨v_2, hl, h⟩ := h
  refine DL.read _ rfl (W0 rfl) rfl (Rd.load ok_5 rfl rfl) hl ?_
  refine DL.pure rfl (W0 rfl) rfl (Pu.conv rfl (by rw [Tryz.underlying5]; rfl) Tryz.underlying23 rfl) ?_
  refine DL.pure rfl (W0 rfl) rfl (Pu.shl rfl rfl rfl (by decide)) ?_
  refine DL.pure rfl (W0 rfl) rfl (Pu.or rfl rfl rfl) ?_
  refine DL.pure rfl (W0 rfl) rfl (Pu.move rfl rfl) ?_
  obtain ⟨hi0, hi1, b_4, q_3, hs, h⟩ := h
  refine DL.pure rfl (W0 rfl) rfl (Pu.indexAddr rfl Tryz.underlying32 sz_5 rfl rfl hs hi0 hi1) ?_
  obtain ⟨v_3, hl, h⟩ := h
  refine DL.read _ rfl (W0 rfl) rfl (Rd.load ok_5 rfl rfl) hl ?_
  refine DL.pure rfl (W0 rfl) rfl (Pu.conv rfl (by rw [Tryz.underlying5]; rfl) Tryz.underlying23 rfl) ?_
  refine DL.pure rfl (W0 rfl) rfl (Pu.shl rfl rfl rfl (by decide)) ?_
  refine DL.pure rfl (W0 rfl) rfl (Pu.or rfl rfl rfl) ?_
  refine DL.pure rfl (W0 rfl) rfl (Pu.assign rfl rfl) ?_
  refine DL.nil ?_
  refine Lf.thenC ?_
  refine WC.ret ?_
  exact Lf.ret1 rfl rfl ⟨_, rfl, h⟩
/-- berthmaster/frame.put -/
def F_frame_put (b : Sl) (s : Int) (w : World) (Q : Sl → World → Prop) : Prop :=
  al w [.int .u8 (IntKind.u8.wrap s), .int .u8 (IntKind.u8.wrap (shrV .u32 s (8 : Int))), .int .u8 (IntKind.u8.wrap (shrV .u32 s (16 : Int))), .int .u8 (IntKind.u8.wrap (shrV .u32 s (24 : Int)))] T_uint8 (fun b_1 vw => RunV Tryz.prog (Builtin.append_ #[T_sl_uint8, T_sl_uint8] T_sl_uint8 #[Sl.v b, Sl.v (⟨some ⟨b_1, 0, none⟩, 4, 4⟩ : Sl)]) vw (ret1 tSl (fun v vw_1 => Q v vw_1)))
theorem vc_frame_put (b : Sl) (s : Int) (w : World) (Q : Sl → World → Prop) (h : F_frame_put b s w Q) : CallP Tryz.prog n_frame_put [Sl.v b, .int .u32 s] w (ret1 tSl Q) := by
  unfold F_frame_put at h
  refine CallP.of_body 19 Tryz.func52 rfl Tryz.ntmps52 rfl ?_
  refine WC.seq ?_
  refine WC.region ?_
  refine WL.pure (W0 rfl) rfl (Pu.assign rfl rfl) ?_
  refine WL.nil ?_
  refine Lf.thenC ?_
  refine WC.seq ?_
  refine WC.region ?_
  refine WL.pure (W0 rfl) rfl (Pu.move rfl rfl) ?_
  refine WL.pure (W0 rfl) rfl (Pu.move rfl rfl) ?_
  refine WL.pure (W0 rfl) rfl (Pu.conv rfl (by rw [Tryz.underlying23]; rfl) Tryz.underlying5 rfl) ?_
  refine WL.pure (W0 rfl) rfl (Pu.move rfl rfl) ?_
  refine WL.pure (W0 rfl) rfl (Pu.shr rfl rfl rfl (by decide)) ?_
  refine WL.pure (W0 rfl) rfl (Pu.conv rfl (by rw [Tryz.underlying23]; rfl) Tryz.underlying5 rfl) ?_
  refine WL.pure (W0 rfl) rfl (Pu.move rfl rfl) ?_
  refine WL.pure (W0 rfl) rfl (Pu.shr rfl rfl rfl (by decide)) ?_
  refine WL.pure (W0 rfl) rfl (Pu.conv rfl (by rw [Tryz.underlying23]; rfl) Tryz.underlying5 rfl) ?_
  refine WL.pure (W0 rfl) rfl (Pu.move rfl rfl) ?_
  refine WL.pure (W0 rfl) rfl (Pu.shr rfl rfl rfl (by decide)) ?_
  refine WL.pure (W0 rfl) rfl (Pu.conv rfl (by rw [Tryz.underlying23]; rfl) Tryz.underlying5 rfl) ?_
  refine WL.q (W0 rfl) rfl (Rq.buildSlice (E := 5) (vs := [(0, .int .u8 (IntKind.u8.wrap s)), (1, .int .u8 (IntKind.u8.wrap (shrV .u32 s (8 : Int)))), (2, .int .u8 (IntKind.u8.wrap (shrV .u32 s (16 : Int)))), (3, .int .u8 (IntKind.u8.wrap (shrV .u32 s (24 : Int))))]) (cs := [.int .u8 (IntKind.u8.wrap s), .int .u8 (IntKind.u8.wrap (shrV .u32 s (8 : Int))), .int .u8 (IntKind.u8.wrap (shrV .u32 s (16 : Int))), .int .u8 (IntKind.u8.wrap (shrV .u32 s (24 : Int)))]) rfl rfl (fun _ => by kernel_rfl) h) ?_
  rintro _ vw ⟨b_1, rfl, h⟩
  obtain ⟨_, vw_1, hr, v, rfl, h⟩ := h
  refine WL.val (W0 rfl) rfl (Rn.append rfl rfl rfl hr) ?_
  refine WL.pure (W0 rfl) rfl (Pu.assign rfl rfl) ?_
  refine WL.nil ?_
  refine Lf.thenC ?_
  refine WC.ret ?_
  exact Lf.ret1 rfl rfl ⟨_, rfl, h⟩
/-- berthmaster/frame.Read -/
def F_frame_Read (b : Sl) (w : World) (Q : S_api_Frame → Int → Int → World → Prop) : Prop :=
  al w [.int .u8 ((⟨(0 : Int), (⟨none, 0, 0⟩ : Sl)⟩ : S_api_Frame).f_Kind), .slice ((⟨(0 : Int), (⟨none, 0, 0⟩ : Sl)⟩ : S_api_Frame).f_Body).a ((⟨(0 : Int), (⟨none, 0, 0⟩ : Sl)⟩ : S_api_Frame).f_Body).len ((⟨(0 : Int), (⟨none, 0, 0⟩ : Sl)⟩ : S_api_Frame).f_Body).cap] T_api_Frame (fun b_1 vw => (((b.len : Int) < (8 : Int)) → st ty_api_Frame vw b_1 0 (⟨(0 : Int), (⟨none, 0, 0⟩ : Sl)⟩ : S_api_Frame) (fun vw_1 => ld ty_api_Frame vw_1 b_1 0 (fun res => Q res (0 : Int) (4 : Int) vw_1))) ∧
  ((¬ ((b.len : Int) < (8 : Int))) → 0 ≤ (0 : Int) ∧ (0 : Int) ≤ (4 : Int) ∧ (4 : Int) ≤ (b.cap : Int) ∧ (b.cap : Int) ≤ (b.cap : Int) ∧ CallP Tryz.prog n_crc_Sum [Sl.v (slS b (0 : Int) (4 : Int) (b.cap : Int) 1)] vw (ret1 (tI .u32) (fun r vw_2 => ixs b (1 : Int) (fun b_2 q => ld (tI .u8) (dr vw_2) b_2 (q + ((1 : Int)).toNat * 1) (fun v => ixs b (2 : Int) (fun b_3 q_1 => ld (tI .u8) (dr vw_2) b_3 (q_1 + ((2 : Int)).toNat * 1) (fun v_1 => ixs b (3 : Int) (fun b_4 q_2 => ld (tI .u8) (dr vw_2) b_4 (q_2 + ((3 : Int)).toNat * 1) (fun v_2 => JoinP (α := Bool) (fun vj vw_3 => ((vj = true) → st ty_api_Frame vw_3 b_1 0 (⟨(0 : Int), (⟨none, 0, 0⟩ : Sl)⟩ : S_api_Frame) (fun vw_4 => ld ty_api_Frame vw_4 b_1 0 (fun res_1 => Q res_1 (0 : Int) (5 : Int) vw_4))) ∧
  ((vj = false) → (((b.len : Int) < (IntKind.i64.wrap ((IntKind.i64.wrap ((8 : Int) + (bits .or .i64 (bits .or .i64 (IntKind.i64.wrap v) (shlV .i64 (IntKind.i64.wrap v_1) (8 : Int))) (shlV .i64 (IntKind.i64.wrap v_2) (16 : Int))))) + (4 : Int)))) → st ty_api_Frame vw_3 b_1 0 (⟨(0 : Int), (⟨none, 0, 0⟩ : Sl)⟩ : S_api_Frame) (fun vw_5 => ld ty_api_Frame vw_5 b_1 0 (fun res_2 => Q res_2 (0 : Int) (4 : Int) vw_5))) ∧
  ((¬ ((b.len : Int) < (IntKind.i64.wrap ((IntKind.i64.wrap ((8 : Int) + (bits .or .i64 (bits .or .i64 (IntKind.i64.wrap v) (shlV .i64 (IntKind.i64.wrap v_1) (8 : Int))) (shlV .i64 (IntKind.i64.wrap v_2) (16 : Int))))) + (4 : Int))))) → 0 ≤ (8 : Int) ∧ (8 : Int) ≤ (IntKind.i64.wrap ((8 : Int) + (bits .or .i64 (bits .or .i64 (IntKind.i64.wrap v) (shlV .i64 (IntKind.i64.wrap v_1) (8 : Int))) (shlV .i64 (IntKind.i64.wrap v_2) (16 : Int))))) ∧ (IntKind.i64.wrap ((8 : Int) + (bits .or .i64 (bits .or .i64 (IntKind.i64.wrap v) (shlV .i64 (IntKind.i64.wrap v_1) (8 : Int))) (shlV .i64 (IntKind.i64.wrap v_2) (16 : Int))))) ≤ (IntKind.i64.wrap ((8 : Int) + (bits .or .i64 (bits .or .i64 (IntKind.i64.wrap v) (shlV .i64 (IntKind.i64.wrap v_1) (8 : Int))) (shlV .i64 (IntKind.i64.wrap v_2) (16 : Int))))) ∧ (IntKind.i64.wrap ((8 : Int) + (bits .or .i64 (bits .or .i64 (IntKind.i64.wrap v) (shlV .i64 (IntKind.i64.wrap v_1) (8 : Int))) (shlV .i64 (IntKind.i64.wrap v_2) (16 : Int))))) ≤ (b.cap : Int) ∧ 0 ≤ (IntKind.i64.wrap ((8 : Int) + (bits .or .i64 (bits .or .i64 (IntKind.i64.wrap v) (shlV .i64 (IntKind.i64.wrap v_1) (8 : Int))) (shlV .i64 (IntKind.i64.wrap v_2) (16 : Int))))) ∧ (IntKind.i64.wrap ((8 : Int) + (bits .or .i64 (bits .or .i64 (IntKind.i64.wrap v) (shlV .i64 (IntKind.i64.wrap v_1) (8 : Int))) (shlV .i64 (IntKind.i64.wrap v_2) (16 : Int))))) ≤ (b.len : Int) ∧ (b.len : Int) ≤ (b.cap : Int) ∧ (b.cap : Int) ≤ (b.cap : Int) ∧ CallP Tryz.prog n_frame_get [Sl.v (slS b (IntKind.i64.wrap ((8 : Int) + (bits .or .i64 (bits .or .i64 (IntKind.i64.wrap v) (shlV .i64 (IntKind.i64.wrap v_1) (8 : Int))) (shlV .i64 (IntKind.i64.wrap v_2) (16 : Int))))) (b.len : Int) (b.cap : Int) 1)] vw_3 (ret1 (tI .u32) (fun r_1 vw_6 => CallP Tryz.prog n_crc_More [.int .u32 r, Sl.v (slS b (8 : Int) (IntKind.i64.wrap ((8 : Int) + (bits .or .i64 (bits .or .i64 (IntKind.i64.wrap v) (shlV .i64 (IntKind.i64.wrap v_1) (8 : Int))) (shlV .i64 (IntKind.i64.wrap v_2) (16 : Int))))) (IntKind.i64.wrap ((8 : Int) + (bits .or .i64 (bits .or .i64 (IntKind.i64.wrap v) (shlV .i64 (IntKind.i64.wrap v_1) (8 : Int))) (shlV .i64 (IntKind.i64.wrap v_2) (16 : Int))))) 1)] vw_6 (ret1 (tI .u32) (fun r_2 vw_7 => ((r_1 ≠ r_2) → st ty_api_Frame vw_7 b_1 0 (⟨(0 : Int), (⟨none, 0, 0⟩ : Sl)⟩ : S_api_Frame) (fun vw_8 => ld ty_api_Frame vw_8 b_1 0 (fun res_3 => Q res_3 (0 : Int) (5 : Int) vw_8))) ∧
  ((¬ (r_1 ≠ r_2)) → ixs b (0 : Int) (fun b_5 q_3 => ld (tI .u8) (dr vw_7) b_5 (q_3 + ((0 : Int)).toNat * 1) (fun v_3 => RunV Tryz.prog (Builtin.append_ #[T_sl_uint8, T_sl_uint8] T_sl_uint8 #[Sl.v ⟨none, 0, 0⟩, Sl.v (slS b (8 : Int) (IntKind.i64.wrap ((8 : Int) + (bits .or .i64 (bits .or .i64 (IntKind.i64.wrap v) (shlV .i64 (IntKind.i64.wrap v_1) (8 : Int))) (shlV .i64 (IntKind.i64.wrap v_2) (16 : Int))))) (IntKind.i64.wrap ((8 : Int) + (bits .or .i64 (bits .or .i64 (IntKind.i64.wrap v) (shlV .i64 (IntKind.i64.wrap v_1) (8 : Int))) (shlV .i64 (IntKind.i64.wrap v_2) (16 : Int))))) 1)]) (dr vw_7) (ret1 tSl (fun v_4 vw_9 => (CellsAt vw_9 b_5 (q_3 + ((0 : Int)).toNat * 1) (Ty.cells (tI .u8) v_3)) ∧ st ty_api_Frame vw_9 b_1 0 (⟨v_3, v_4⟩ : S_api_Frame) (fun vw_10 => ld ty_api_Frame vw_10 b_1 0 (fun res_4 => Q res_4 (IntKind.i64.wrap ((IntKind.i64.wrap ((8 : Int) + (bits .or .i64 (bits .or .i64 (IntKind.i64.wrap v) (shlV .i64 (IntKind.i64.wrap v_1) (8 : Int))) (shlV .i64 (IntKind.i64.wrap v_2) (16 : Int))))) + (4 : Int))) (0 : Int) vw_10))))))))))))))
  (fun vk => 0 ≤ (4 : Int) ∧ (4 : Int) ≤ (b.len : Int) ∧ (b.len : Int) ≤ (b.cap : Int) ∧ (b.cap : Int) ≤ (b.cap : Int) ∧ CallP Tryz.prog n_frame_get [Sl.v (slS b (4 : Int) (b.len : Int) (b.cap : Int) 1)] (dr vw_2) (ret1 (tI .u32) (fun r_3 vw_11 => ((r_3 ≠ r) → vk true vw_11) ∧
  ((¬ (r_3 ≠ r)) → vk (decide ((1048576 : Int) < (bits .or .i64 (bits .or .i64 (IntKind.i64.wrap v) (shlV .i64 (IntKind.i64.wrap v_1) (8 : Int))) (shlV .i64 (IntKind.i64.wrap v_2) (16 : Int))))) vw_11))))))))))))))
theorem vc_frame_Read (b : Sl) (w : World) (Q : S_api_Frame → Int → Int → World → Prop) (h : F_frame_Read b w Q) : CallP Tryz.prog n_frame_Read [Sl.v b] w (ret3 ty_api_Frame (tI .i64) (tI .i64) Q) := by
  unfold F_frame_Read at h
  refine CallP.of_body 72 Tryz.func93 rfl Tryz.ntmps93 rfl ?_
  refine WC.seq ?_
  refine WC.region ?_
  refine WL.q (W0 rfl) rfl (Rq.alloc (cs := [.int .u8 ((⟨(0 : Int), (⟨none, 0, 0⟩ : Sl)⟩ : S_api_Frame).f_Kind), .slice ((⟨(0 : Int), (⟨none, 0, 0⟩ : Sl)⟩ : S_api_Frame).f_Body).a ((⟨(0 : Int), (⟨none, 0, 0⟩ : Sl)⟩ : S_api_Frame).f_Body).len ((⟨(0 : Int), (⟨none, 0, 0⟩ : Sl)⟩ : S_api_Frame).f_Body).cap]) rfl (z := ty_api_Frame.val (⟨(0 : Int), (⟨none, 0, 0⟩ : Sl)⟩ : S_api_Frame)) (by kernel_rfl) rfl h) ?_
  rintro _ vw ⟨b_1, rfl, h⟩
  refine WL.pure (W0 rfl) rfl (Pu.assign rfl rfl) ?_
  refine WL.pure (W0 rfl) rfl (Pu.assign rfl rfl) ?_
  refine WL.nil ?_
  refine Lf.thenC ?_
  refine WC.seq ?_
  refine WC.seq ?_
  refine WC.region ?_
  refine WL.pure (W0 rfl) rfl (Pu.move rfl rfl) ?_
  refine WL.pure (W0 rfl) rfl (Pu.len rfl Tryz.underlying32 rfl) ?_
  refine WL.pure (W0 rfl) rfl (Pu.lss rfl rfl rfl) ?_
  refine WL.nil ?_
  refine Lf.thenC ?_
  refine WC.condD rfl (fun hc => ?_) (fun hc => ?_)
  · replace h := h.1 hc
    refine WC.seq ?_
    refine WC.region ?_
    refine WL.pure (W0 rfl) rfl (Pu.build (vs := []) (v := ty_api_Frame.val (⟨(0 : Int), (⟨none, 0, 0⟩ : Sl)⟩ : S_api_Frame)) rfl rfl (fun _ => by kernel_rfl)) ?_
    refine WL.qs (W0 rfl) rfl (Rsq.store (⟨(0 : Int), (⟨none, 0, 0⟩ : Sl)⟩ : S_api_Frame) ok_68 rfl rfl rfl h) ?_
    rintro vw_1 h
    refine WL.pure (W0 rfl) rfl (Pu.assign rfl rfl) ?_
    refine WL.pure (W0 rfl) rfl (Pu.assign rfl rfl) ?_
    refine WL.nil ?_
    refine Lf.thenC ?_
    refine WC.ret ?_
    obtain ⟨res, hl, h⟩ := h
    exact Lf.retM [ty_api_Frame.val res, .int .i64 (0 : Int), .int .i64 (4 : Int)] (rs := [.cell 2 68, .tmp 3, .tmp 4]) rfl rfl (by exact ⟨⟨_, _, rfl, run_loadVar ok_68 hl⟩, rfl, rfl, trivial⟩) ⟨_, _, _, rfl, h⟩
  · replace h := h.2 hc
    refine WC.skip ?_
    refine Lf.thenC ?_
    refine WC.seq ?_
    refine WC.region ?_
    refine WL.pure (W0 rfl) rfl (Pu.move rfl rfl) ?_
    obtain ⟨hi0, hi1, hi2, hi3, h⟩ := h
    refine WL.pure (W0 rfl) rfl (Pu.slice rfl Tryz.underlying32 sz_5 rfl rfl rfl rfl rfl hi0 hi1 hi2 hi3) ?_
    refine WL.call (W0 rfl) rfl (fun xa hxa => run_call (fs := []) (cs := []) (vs := [Sl.v (slS b (0 : Int) (4 : Int) (b.cap : Int) 1)]) rfl rfl rfl Tryz.func51 rfl rfl xa hxa _) h ?_
    rintro _ vw_2 ⟨r, rfl, h⟩
    refine WL.pure (W0 rfl) rfl (Pu.assign rfl rfl) ?_
    refine WL.nil ?_
    refine Lf.thenC ?_
    refine WC.seq ?_
    refine WC.draw [(0, false), (1, false), (2, false), (3, false), (4, false), (5, false), (6, false), (7, false), (8, false), (9, false), (10, false), (11, false), (12, false), (13, false), (14, false), (15, false), (16, false)] mixed (by kernel_rfl) ?_
    refine DL.pure rfl (W0 rfl) rfl (Pu.move rfl rfl) ?_
    obtain ⟨hi0, hi1, b_2, q, hs, h⟩ := h
    refine DL.pure rfl (W0 rfl) rfl (Pu.indexAddr rfl Tryz.underlying32 sz_5 rfl rfl hs hi0 hi1) ?_
    obtain ⟨v, hl, h⟩ := h
    refine DL.read _ rfl (W0 rfl) rfl (Rd.load ok_5 rfl rfl) hl ?_
    refine DL.pure rfl (W0 rfl) rfl (Pu.conv rfl (by rw [Tryz.underlying5]; rfl) Tryz.underlying3 rfl) ?_
    refine DL.pure rfl (W0 rfl) rfl (Pu.move rfl rfl) ?_
    obtain ⟨hi0, hi1, b_3, q_1, hs, h⟩ := h
    refine DL.pure rfl (W0 rfl) rfl (Pu.indexAddr rfl Tryz.underlying32 sz_5 rfl rfl hs hi0 hi1) ?_
    obtain ⟨v_1, hl, h⟩ := h
    refine DL.read _ rfl (W0 rfl) rfl (Rd.load ok_5 rfl rfl) hl ?_
    refine DL.pure rfl (W0 rfl) rfl (Pu.conv rfl (by rw [Tryz.underlying5]; rfl) Tryz.underlying3 rfl) ?_
    refine DL.pure rfl (W0 rfl) rfl (Pu.shl rfl rfl rfl (by decide)) ?_
    refine DL.pure rfl (W0 rfl) rfl (Pu.or rfl rfl rfl) ?_
    refine DL.pure rfl (W0 rfl) rfl (Pu.move rfl rfl) ?_
    obtain ⟨hi0, hi1, b_4, q_2, hs, h⟩ := h
    refine DL.pure rfl (W0 rfl) rfl (Pu.indexAddr rfl Tryz.underlying32 sz_5 rfl rfl hs hi0 hi1) ?_
    obtain ⟨v_2, hl, h⟩ := h
    refine DL.read _ rfl (W0 rfl) rfl (Rd.load ok_5 rfl rfl) hl ?_
    refine DL.pure rfl (W0 rfl) rfl (Pu.conv rfl (by rw [Tryz.underlying5]; rfl) Tryz.underlying3 rfl) ?_
    refine DL.pure rfl (W0 rfl) rfl (Pu.shl rfl rfl rfl (by decide)) ?_
    refine DL.pure rfl (W0 rfl) rfl (Pu.or rfl rfl rfl) ?_
    refine DL.pure rfl (W0 rfl) rfl (Pu.assign rfl rfl) ?_
    refine DL.nil ?_
    refine Lf.thenC ?_
    refine WC.seq ?_
    obtain ⟨vk, h2, h⟩ := h
    refine WC.cut (α := Bool) (k := vk) (fun vj => [(38, .bool vj), (0, Sl.v b), (2, .pointer (some ⟨b_1, 0, none⟩ : Option Addr)), (3, .int .i64 (bits .or .i64 (bits .or .i64 (IntKind.i64.wrap v) (shlV .i64 (IntKind.i64.wrap v_1) (8 : Int))) (shlV .i64 (IntKind.i64.wrap v_2) (16 : Int)))), (5, .int .u32 r)]) (fun vj vw_3 h => ?_) ?_
    · replace h := h2 _ _ h
      clear h2
      refine WC.cond rfl (fun hc => ?_) (fun hc => ?_)
      · replace h := h.1 hc
        refine WC.seq ?_
        refine WC.region ?_
        refine WL.pure (W0 rfl) rfl (Pu.build (vs := []) (v := ty_api_Frame.val (⟨(0 : Int), (⟨none, 0, 0⟩ : Sl)⟩ : S_api_Frame)) rfl rfl (fun _ => by kernel_rfl)) ?_
        refine WL.qs (W0 rfl) rfl (Rsq.store (⟨(0 : Int), (⟨none, 0, 0⟩ : Sl)⟩ : S_api_Frame) ok_68 rfl rfl rfl h) ?_
        rintro vw_4 h
        refine WL.pure (W0 rfl) rfl (Pu.assign rfl rfl) ?_
        refine WL.pure (W0 rfl) rfl (Pu.assign rfl rfl) ?_
        refine WL.nil ?_
        refine Lf.thenC ?_
        refine WC.ret ?_
        obtain ⟨res_1, hl_1, h⟩ := h
        exact Lf.retM [ty_api_Frame.val res_1, .int .i64 (0 : Int), .int .i64 (5 : Int)] (rs := [.cell 2 68, .tmp 3, .tmp 4]) rfl rfl (by exact ⟨⟨_, _, rfl, run_loadVar ok_68 hl_1⟩, rfl, rfl, trivial⟩) ⟨_, _, _, rfl, h⟩
      · replace h := h.2 hc
        refine WC.skip ?_
        refine Lf.thenC ?_
        refine WC.seq ?_
        refine WC.seq ?_
        refine WC.region ?_
        refine WL.pure (W0 rfl) rfl (Pu.move rfl rfl) ?_
        refine WL.pure (W0 rfl) rfl (Pu.len rfl Tryz.underlying32 rfl) ?_
        refine WL.pure (W0 rfl) rfl (Pu.move rfl rfl) ?_
        refine WL.pure (W0 rfl) rfl (Pu.add rfl rfl rfl) ?_
        refine WL.pure (W0 rfl) rfl (Pu.add rfl rfl rfl) ?_
        refine WL.pure (W0 rfl) rfl (Pu.lss rfl rfl rfl) ?_
        refine WL.nil ?_
        refine Lf.thenC ?_
        refine WC.condD rfl (fun hc => ?_) (fun hc => ?_)
        · replace h := h.1 hc
          refine WC.seq ?_
          refine WC.region ?_
          refine WL.pure (W0 rfl) rfl (Pu.build (vs := []) (v := ty_api_Frame.val (⟨(0 : Int), (⟨none, 0, 0⟩ : Sl)⟩ : S_api_Frame)) rfl rfl (fun _ => by kernel_rfl)) ?_
          refine WL.qs (W0 rfl) rfl (Rsq.store (⟨(0 : Int), (⟨none, 0, 0⟩ : Sl)⟩ : S_api_Frame) ok_68 rfl rfl rfl h) ?_
          rintro vw_5 h
          refine WL.pure (W0 rfl) rfl (Pu.assign rfl rfl) ?_
          refine WL.pure (W0 rfl) rfl (Pu.assign rfl rfl) ?_
          refine WL.nil ?_
          refine Lf.thenC ?_
          refine WC.ret ?_
          obtain ⟨res_2, hl_2, h⟩ := h
          exact Lf.retM [ty_api_Frame.val res_2, .int .i64 (0 : Int), .int .i64 (4 : Int)] (rs := [.cell 2 68, .tmp 3, .tmp 4]) rfl rfl (by exact ⟨⟨_, _, rfl, run_loadVar ok_68 hl_2⟩, rfl, rfl, trivial⟩) ⟨_, _, _, rfl, h⟩
        · replace h := h.2 hc
          refine WC.skip ?_
          refine Lf.thenC ?_
          refine WC.seq ?_
          refine WC.region ?_
          refine WL.pure (W0 rfl) rfl (Pu.move rfl rfl) ?_
          refine WL.pure (W0 rfl) rfl (Pu.move rfl rfl) ?_
          refine WL.pure (W0 rfl) rfl (Pu.add rfl rfl rfl) ?_
          refine WL.pure (W0 rfl) rfl (Pu.move rfl rfl) ?_
          refine WL.pure (W0 rfl) rfl (Pu.add rfl rfl rfl) ?_
          obtain ⟨hi0, hi1, hi2, hi3, h⟩ := h
          refine WL.pure (W0 rfl) rfl (Pu.slice rfl Tryz.underlying32 sz_5 rfl rfl rfl rfl rfl hi0 hi1 hi2 hi3) ?_
          refine WL.pure (W0 rfl) rfl (Pu.assign rfl rfl) ?_
          refine WL.nil ?_
          refine Lf.thenC ?_
          refine WC.seq ?_
          refine WC.seq ?_
          refine WC.region ?_
          refine WL.pure (W0 rfl) rfl (Pu.move rfl rfl) ?_
          refine WL.pure (W0 rfl) rfl (Pu.move rfl rfl) ?_
          refine WL.pure (W0 rfl) rfl (Pu.add rfl rfl rfl) ?_
          obtain ⟨hi0, hi1, hi2, hi3, h⟩ := h
          refine WL.pure (W0 rfl) rfl (Pu.slice rfl Tryz.underlying32 sz_5 rfl rfl rfl rfl rfl hi0 hi1 hi2 hi3) ?_
          refine WL.call (W0 rfl) rfl (fun xa hxa => run_call (fs := []) (cs := []) (vs := [Sl.v (slS b (IntKind.i64.wrap ((8 : Int) + (bits .or .i64 (bits .or .i64 (IntKind.i64.wrap v) (shlV .i64 (IntKind.i64.wrap v_1) (8 : Int))) (shlV .i64 (IntKind.i64.wrap v_2) (16 : Int))))) (b.len : Int) (b.cap : Int) 1)]) rfl rfl rfl Tryz.func125 rfl rfl xa hxa _) h ?_
          rintro _ vw_6 ⟨r_1, rfl, h⟩
          refine WL.pure (W0 rfl) rfl (Pu.move rfl rfl) ?_
          refine WL.pure (W0 rfl) rfl (Pu.move rfl rfl) ?_
          refine WL.call (W0 rfl) rfl (fun xa hxa => run_call (fs := []) (cs := []) (vs := [.int .u32 r, Sl.v (slS b (8 : Int) (IntKind.i64.wrap ((8 : Int) + (bits .or .i64 (bits .or .i64 (IntKind.i64.wrap v) (shlV .i64 (IntKind.i64.wrap v_1) (8 : Int))) (shlV .i64 (IntKind.i64.wrap v_2) (16 : Int))))) (IntKind.i64.wrap ((8 : Int) + (bits .or .i64 (bits .or .i64 (IntKind.i64.wrap v) (shlV .i64 (IntKind.i64.wrap v_1) (8 : Int))) (shlV .i64 (IntKind.i64.wrap v_2) (16 : Int))))) 1)]) rfl rfl rfl Tryz.func53 rfl rfl xa hxa _) h ?_
          rintro _ vw_7 ⟨r_2, rfl, h⟩
          refine WL.pure (W0 rfl) rfl (Pu.neq rfl rfl rfl) ?_
          refine WL.nil ?_
          refine Lf.thenC ?_
          refine WC.condD rfl (fun hc => ?_) (fun hc => ?_)
          · replace h := h.1 hc
            refine WC.seq ?_
            refine WC.region ?_
            refine WL.pure (W0 rfl) rfl (Pu.build (vs := []) (v := ty_api_Frame.val (⟨(0 : Int), (⟨none, 0, 0⟩ : Sl)⟩ : S_api_Frame)) rfl rfl (fun _ => by kernel_rfl)) ?_
            refine WL.qs (W0 rfl) rfl (Rsq.store (⟨(0 : Int), (⟨none, 0, 0⟩ : Sl)⟩ : S_api_Frame) ok_68 rfl rfl rfl h) ?_
            rintro vw_8 h
            refine WL.pure (W0 rfl) rfl (Pu.assign rfl rfl) ?_
            refine WL.pure (W0 rfl) rfl (Pu.assign rfl rfl) ?_
            refine WL.nil ?_
            refine Lf.thenC ?_
            refine WC.ret ?_
            obtain ⟨res_3, hl_3, h⟩ := h
            exact Lf.retM [ty_api_Frame.val res_3, .int .i64 (0 : Int), .int .i64 (5 : Int)] (rs := [.cell 2 68, .tmp 3, .tmp 4]) rfl rfl (by exact ⟨⟨_, _, rfl, run_loadVar ok_68 hl_3⟩, rfl, rfl, trivial⟩) ⟨_, _, _, rfl, h⟩
          · replace h := h.2 hc
            refine WC.skip ?_
            refine Lf.thenC ?_
            refine WC.seq ?_
            refine WC.draw [(0, false), (1, false), (2, false), (3, false), (6, false), (7, false), (8, false), (4, true), (5, false), (9, true), (10, false), (11, false)] mixed (by kernel_rfl) ?_
            refine DL.pure rfl (W0 rfl) rfl (Pu.move rfl rfl) ?_
            obtain ⟨hi0, hi1, b_5, q_3, hs, h⟩ := h
            refine DL.pure rfl (W0 rfl) rfl (Pu.indexAddr rfl Tryz.underlying32 sz_5 rfl rfl hs hi0 hi1) ?_
            obtain ⟨v_3, hl, h⟩ := h
            refine DL.read _ rfl (W0 rfl) rfl (Rd.load ok_5 rfl rfl) hl ?_
            refine DL.pure rfl (W0 rfl) rfl (Pu.move rfl rfl) ?_
            refine DL.pure rfl (W0 rfl) rfl (Pu.move rfl rfl) ?_
            refine DL.pure rfl (W0 rfl) rfl (Pu.add rfl rfl rfl) ?_
            refine DL.pure rfl (W0 rfl) rfl (Pu.add rfl rfl rfl) ?_
            obtain ⟨_, vw_9, hr, v_4, rfl, h⟩ := h
            obtain ⟨hk, h⟩ := h
            refine DL.val rfl (W0 rfl) rfl (Rn.append rfl rfl rfl hr) (by exact ⟨.inr hk, trivial⟩) ?_
            refine DL.pure rfl (W0 rfl) rfl (Pu.build (vs := [(0, .int .u8 v_3), (1, Sl.v v_4)]) (v := ty_api_Frame.val (⟨v_3, v_4⟩ : S_api_Frame)) rfl rfl (fun _ => by kernel_rfl)) ?_
            refine DL.qs rfl (W0 rfl) rfl (Rsq.store (⟨v_3, v_4⟩ : S_api_Frame) ok_68 rfl rfl rfl h) ?_
            rintro vw_10 h
            refine ⟨(by exact ⟨.inl (by kernel_rfl), trivial⟩), ?_⟩
            refine DL.pure rfl (W0 rfl) rfl (Pu.assign rfl rfl) ?_
            refine DL.pure rfl (W0 rfl) rfl (Pu.assign rfl rfl) ?_
            refine DL.nil ?_
            refine Lf.thenC ?_
            refine WC.ret ?_
            obtain ⟨res_4, hl_4, h⟩ := h
            exact Lf.retM [ty_api_Frame.val res_4, .int .i64 (IntKind.i64.wrap ((IntKind.i64.wrap ((8 : Int) + (bits .or .i64 (bits .or .i64 (IntKind.i64.wrap v) (shlV .i64 (IntKind.i64.wrap v_1) (8 : Int))) (shlV .i64 (IntKind.i64.wrap v_2) (16 : Int))))) + (4 : Int))), .int .i64 (0 : Int)] (rs := [.cell 2 68, .tmp 3, .tmp 4]) rfl rfl (by exact ⟨⟨_, _, rfl, run_loadVar ok_68 hl_4⟩, rfl, rfl, trivial⟩) ⟨_, _, _, rfl, h⟩
    · clear h2
      refine WC.region ?_
      refine WL.pure (W0 rfl) rfl (Pu.move rfl rfl) ?_
      obtain ⟨hi0, hi1, hi2, hi3, h⟩ := h
      refine WL.pure (W0 rfl) rfl (Pu.slice rfl Tryz.underlying32 sz_5 rfl rfl rfl rfl rfl hi0 hi1 hi2 hi3) ?_
      refine WL.call (W0 rfl) rfl (fun xa hxa => run_call (fs := []) (cs := []) (vs := [Sl.v (slS b (4 : Int) (b.len : Int) (b.cap : Int) 1)]) rfl rfl rfl Tryz.func125 rfl rfl xa hxa _) h ?_
      rintro _ vw_11 ⟨r_3, rfl, h⟩
      refine WL.pure (W0 rfl) rfl (Pu.move rfl rfl) ?_
      refine WL.pure (W0 rfl) rfl (Pu.neq rfl rfl rfl) ?_
      refine WL.pure (W0 rfl) rfl (Pu.move rfl rfl) ?_
      refine WL.boolD (t := 35) rfl (fun hc => ?_) (fun hc => ?_)
      · replace h := h.1 hc
        refine WL.unwanted (t := 35) rfl rfl rfl rfl rfl rfl ?_
        refine WL.unwanted (t := 35) rfl rfl rfl rfl rfl rfl ?_
        refine WL.pure (W0 rfl) rfl (Pu.pickT rfl rfl rfl) ?_
        refine WL.nil ?_
        exact Lf.joinA true (by exact ⟨rfl, rfl, rfl, rfl, rfl, trivial⟩) h
      · replace h := h.2 hc
        refine WL.pure (W1 (t := 35) rfl rfl rfl rfl) rfl (Pu.move rfl rfl) ?_
        refine WL.pure (W1 (t := 35) rfl rfl rfl rfl) rfl (Pu.gtr rfl rfl rfl) ?_
        refine WL.pure (W0 rfl) rfl (Pu.pickF rfl rfl rfl) ?_
        refine WL.nil ?_
        exact Lf.joinA (decide ((1048576 : Int) < (bits .or .i64 (bits .or .i64 (IntKind.i64.wrap v) (shlV .i64 (IntKind.i64.wrap v_1) (8 : Int))) (shlV .i64 (IntKind.i64.wrap v_2) (16 : Int))))) (by exact ⟨rfl, rfl, rfl, rfl, rfl, trivial⟩) h
/-- berthmaster/frame.Scan -/
def F_frame_Scan (b : Sl) (w : World) (Q : Sl → Int → Int → World → Prop) : Prop :=
  LoopP (α := Sl × Int) (fun vi vw vJ => ((vi.2 < (b.len : Int)) → 0 ≤ vi.2 ∧ vi.2 ≤ (b.len : Int) ∧ (b.len : Int) ≤ (b.cap : Int) ∧ (b.cap : Int) ≤ (b.cap : Int) ∧ CallP Tryz.prog n_frame_Read [Sl.v (slS b vi.2 (b.len : Int) (b.cap : Int) 1)] vw (ret3 ty_api_Frame (tI .i64) (tI .i64) (fun r r_1 r_2 vw_1 => al vw_1 [.int .u8 ((⟨(0 : Int), (⟨none, 0, 0⟩ : Sl)⟩ : S_api_Frame).f_Kind), .slice ((⟨(0 : Int), (⟨none, 0, 0⟩ : Sl)⟩ : S_api_Frame).f_Body).a ((⟨(0 : Int), (⟨none, 0, 0⟩ : Sl)⟩ : S_api_Frame).f_Body).len ((⟨(0 : Int), (⟨none, 0, 0⟩ : Sl)⟩ : S_api_Frame).f_Body).cap] T_api_Frame (fun b_1 vw_2 => st ty_api_Frame vw_2 b_1 0 r (fun vw_3 => ((r_2 ≠ (0 : Int)) → Q vi.1 vi.2 r_2 vw_3) ∧
  ((¬ (r_2 ≠ (0 : Int))) → ld ty_api_Frame vw_3 b_1 0 (fun v => al vw_3 [.int .u8 v.f_Kind, .slice v.f_Body.a v.f_Body.len v.f_Body.cap] T_api_Frame (fun b_2 vw_4 => RunV Tryz.prog (Builtin.append_ #[T_sl_api_Frame, T_sl_api_Frame] T_sl_api_Frame #[Sl.v vi.1, Sl.v (⟨some ⟨b_2, 0, none⟩, 1, 1⟩ : Sl)]) vw_4 (ret1 tSl (fun v_1 vw_5 => vJ (v_1, (IntKind.i64.wrap (vi.2 + r_1))) vw_5)))))))))) ∧
  ((¬ (vi.2 < (b.len : Int))) → Q vi.1 vi.2 (0 : Int) vw)) ((⟨none, 0, 0⟩ : Sl), (0 : Int)) w
theorem vc_frame_Scan (b : Sl) (w : World) (Q : Sl → Int → Int → World → Prop) (h : F_frame_Scan b w Q) : CallP Tryz.prog n_frame_Scan [Sl.v b] w (ret3 tSl (tI .i64) (tI .i64) Q) := by
  unfold F_frame_Scan at h
  refine CallP.of_body 34 Tryz.func66 rfl Tryz.ntmps66 rfl ?_
  refine WC.seq ?_
  refine WC.region ?_
  refine WL.pure (W0 rfl) rfl (Pu.assign rfl rfl) ?_
  refine WL.pure (W0 rfl) rfl (Pu.assign rfl rfl) ?_
  refine WL.pure (W0 rfl) rfl (Pu.assign rfl rfl) ?_
  refine WL.nil ?_
  refine Lf.thenC ?_
  refine WC.seq ?_
  refine WC.block ?_
  refine WC.loop (α := Sl × Int) (fun vi => [(2, Sl.v vi.1), (3, .int .i64 vi.2), (0, Sl.v b)]) ((⟨none, 0, 0⟩ : Sl), (0 : Int)) (by exact ⟨rfl, rfl, rfl, trivial⟩) h (fun vJ vi vw h => ?_)
  refine WC.seq ?_
  refine WC.seq ?_
  refine WC.region ?_
  refine WL.pure (W0 rfl) rfl (Pu.move rfl rfl) ?_
  refine WL.pure (W0 rfl) rfl (Pu.move rfl rfl) ?_
  refine WL.pure (W0 rfl) rfl (Pu.len rfl Tryz.underlying32 rfl) ?_
  refine WL.pure (W0 rfl) rfl (Pu.lss rfl rfl rfl) ?_
  refine WL.nil ?_
  refine Lf.thenC ?_
  refine WC.condD rfl (fun hc => ?_) (fun hc => ?_)
  · replace h := h.1 hc
    refine WC.skip ?_
    refine Lf.thenC ?_
    refine WC.block ?_
    refine WC.seq ?_
    refine WC.region ?_
    refine WL.pure (W0 rfl) rfl (Pu.move rfl rfl) ?_
    refine WL.pure (W0 rfl) rfl (Pu.move rfl rfl) ?_
    obtain ⟨hi0, hi1, hi2, hi3, h⟩ := h
    refine WL.pure (W0 rfl) rfl (Pu.slice rfl Tryz.underlying32 sz_5 rfl rfl rfl rfl rfl hi0 hi1 hi2 hi3) ?_
    refine WL.call (W0 rfl) rfl (fun xa hxa => run_call (fs := []) (cs := []) (vs := [Sl.v (slS b vi.2 (b.len : Int) (b.cap : Int) 1)]) rfl rfl rfl Tryz.func93 rfl rfl xa hxa _) h ?_
    rintro _ vw_1 ⟨r, r_1, r_2, rfl, h⟩
    refine WL.pure (W0 rfl) rfl (Pu.move rfl rfl) ?_
    refine WL.pure (W0 rfl) rfl (Pu.extract (vs := [ty_api_Frame.val r, .int .i64 r_1, .int .i64 r_2]) rfl rfl rfl) ?_
    refine WL.pure (W0 rfl) rfl (Pu.extract (vs := [ty_api_Frame.val r, .int .i64 r_1, .int .i64 r_2]) rfl rfl rfl) ?_
    refine WL.pure (W0 rfl) rfl (Pu.extract (vs := [ty_api_Frame.val r, .int .i64 r_1, .int .i64 r_2]) rfl rfl rfl) ?_
    refine WL.q (W0 rfl) rfl (Rq.alloc (cs := [.int .u8 ((⟨(0 : Int), (⟨none, 0, 0⟩ : Sl)⟩ : S_api_Frame).f_Kind), .slice ((⟨(0 : Int), (⟨none, 0, 0⟩ : Sl)⟩ : S_api_Frame).f_Body).a ((⟨(0 : Int), (⟨none, 0, 0⟩ : Sl)⟩ : S_api_Frame).f_Body).len ((⟨(0 : Int), (⟨none, 0, 0⟩ : Sl)⟩ : S_api_Frame).f_Body).cap]) rfl (z := ty_api_Frame.val (⟨(0 : Int), (⟨none, 0, 0⟩ : Sl)⟩ : S_api_Frame)) (by kernel_rfl) rfl h) ?_
    rintro _ vw_2 ⟨b_1, rfl, h⟩
    refine WL.qs (W0 rfl) rfl (Rsq.store r ok_68 rfl rfl rfl h) ?_
    rintro vw_3 h
    refine WL.pure (W0 rfl) rfl (Pu.assign rfl rfl) ?_
    refine WL.pure (W0 rfl) rfl (Pu.assign rfl rfl) ?_
    refine WL.nil ?_
    refine Lf.thenC ?_
    refine WC.seq ?_
    refine WC.seq ?_
    refine WC.region ?_
    refine WL.pure (W0 rfl) rfl (Pu.move rfl rfl) ?_
    refine WL.pure (W0 rfl) rfl (Pu.neq rfl rfl rfl) ?_
    refine WL.nil ?_
    refine Lf.thenC ?_
    refine WC.condD rfl (fun hc => ?_) (fun hc => ?_)
    · replace h := h.1 hc
      refine WC.seq ?_
      refine WC.region ?_
      refine WL.pure (W0 rfl) rfl (Pu.move rfl rfl) ?_
      refine WL.pure (W0 rfl) rfl (Pu.move rfl rfl) ?_
      refine WL.pure (W0 rfl) rfl (Pu.move rfl rfl) ?_
      refine WL.pure (W0 rfl) rfl (Pu.assign rfl rfl) ?_
      refine WL.pure (W0 rfl) rfl (Pu.assign rfl rfl) ?_
      refine WL.pure (W0 rfl) rfl (Pu.assign rfl rfl) ?_
      refine WL.nil ?_
      refine Lf.thenC ?_
      refine WC.ret ?_
      exact Lf.ret3 rfl rfl rfl rfl ⟨_, _, _, rfl, h⟩
    · replace h := h.2 hc
      refine WC.skip ?_
      refine Lf.thenC ?_
      refine WC.region ?_
      refine WL.pure (W0 rfl) rfl (Pu.move rfl rfl) ?_
      obtain ⟨v, hl, h⟩ := h
      refine WL.val (W0 rfl) rfl (fun xa hxa => Rd.load ok_68 rfl rfl xa hxa _ hl) ?_
      refine WL.q (W0 rfl) rfl (Rq.buildSlice (E := 68) (vs := [(0, ty_api_Frame.val v)]) (cs := [.int .u8 v.f_Kind, .slice v.f_Body.a v.f_Body.len v.f_Body.cap]) rfl rfl (fun _ => by kernel_rfl) h) ?_
      rintro _ vw_4 ⟨b_2, rfl, h⟩
      obtain ⟨_, vw_5, hr, v_1, rfl, h⟩ := h
      refine WL.val (W0 rfl) rfl (Rn.append rfl rfl rfl hr) ?_
      refine WL.pure (W0 rfl) rfl (Pu.move rfl rfl) ?_
      refine WL.pure (W0 rfl) rfl (Pu.move rfl rfl) ?_
      refine WL.pure (W0 rfl) rfl (Pu.add rfl rfl rfl) ?_
      refine WL.pure (W0 rfl) rfl (Pu.assign rfl rfl) ?_
      refine WL.pure (W0 rfl) rfl (Pu.assign rfl rfl) ?_
      refine WL.nil ?_
      exact Lf.joinA (v_1, (IntKind.i64.wrap (vi.2 + r_1))) (by exact ⟨rfl, rfl, rfl, trivial⟩) h
  · replace h := h.2 hc
    refine WC.exit rfl ?_
    refine Lf.thenC ?_
    refine WC.seq ?_
    refine WC.region ?_
    refine WL.pure (W0 rfl) rfl (Pu.move rfl rfl) ?_
    refine WL.pure (W0 rfl) rfl (Pu.move rfl rfl) ?_
    refine WL.pure (W0 rfl) rfl (Pu.assign rfl rfl) ?_
    refine WL.pure (W0 rfl) rfl (Pu.assign rfl rfl) ?_
    refine WL.pure (W0 rfl) rfl (Pu.assign rfl rfl) ?_
    refine WL.nil ?_
    refine Lf.thenC ?_
    refine WC.ret ?_
    exact Lf.ret3 rfl rfl rfl rfl ⟨_, _, _, rfl, h⟩
/-- berthmaster/frame.Append -/
def F_frame_Append (b : Sl) (vf : S_api_Frame) (w : World) (Q : Sl → Int → World → Prop) : Prop :=
  al w [.int .u8 vf.f_Kind, .slice vf.f_Body.a vf.f_Body.len vf.f_Body.cap] T_api_Frame (fun b_1 vw => ld tSl vw b_1 (0 + 1) (fun v => (((1048576 : Int) < (v.len : Int)) → Q (⟨none, 0, 0⟩ : Sl) (3 : Int) vw) ∧
  ((¬ ((1048576 : Int) < (v.len : Int))) → 0 ≤ (0 : Int) ∧ (0 : Int) ≤ (b.len : Int) ∧ (b.len : Int) ≤ (b.len : Int) ∧ (b.len : Int) ≤ (b.cap : Int) ∧ ld (tI .u8) (dr vw) b_1 (0 + 0) (fun v_1 => al (dr vw) [.int .u8 v_1, .int .u8 (IntKind.u8.wrap (v.len : Int)), .int .u8 (IntKind.u8.wrap (shrV .i64 (v.len : Int) (8 : Int))), .int .u8 (IntKind.u8.wrap (shrV .i64 (v.len : Int) (16 : Int)))] T_uint8 (fun b_2 vw_1 => RunV Tryz.prog (Builtin.append_ #[T_sl_uint8, T_sl_uint8] T_sl_uint8 #[Sl.v (slS b (0 : Int) (b.len : Int) (b.len : Int) 1), Sl.v (⟨some ⟨b_2, 0, none⟩, 4, 4⟩ : Sl)]) vw_1 (ret1 tSl (fun v_2 vw_2 => 0 ≤ (b.len : Int) ∧ (b.len : Int) ≤ (v_2.len : Int) ∧ (v_2.len : Int) ≤ (v_2.cap : Int) ∧ (v_2.cap : Int) ≤ (v_2.cap : Int) ∧ CallP Tryz.prog n_crc_Sum [Sl.v (slS v_2 (b.len : Int) (v_2.len : Int) (v_2.cap : Int) 1)] vw_2 (ret1 (tI .u32) (fun r vw_3 => ld tSl (dr vw_3) b_1 (0 + 1) (fun v_3 => CallP Tryz.prog n_frame_put [Sl.v v_2, .int .u32 r] (dr vw_3) (ret1 tSl (fun r_1 vw_4 => (CellsAt vw_4 b_1 (0 + 1) (Ty.cells tSl v_3)) ∧ RunV Tryz.prog (Builtin.append_ #[T_sl_uint8, T_sl_uint8] T_sl_uint8 #[Sl.v r_1, Sl.v v_3]) vw_4 (ret1 tSl (fun v_4 vw_5 => ld tSl vw_5 b_1 (0 + 1) (fun v_5 => CallP Tryz.prog n_crc_More [.int .u32 r, Sl.v v_5] vw_5 (ret1 (tI .u32) (fun r_2 vw_6 => CallP Tryz.prog n_frame_put [Sl.v v_4, .int .u32 r_2] vw_6 (ret1 tSl (fun r_3 vw_7 => Q r_3 (0 : Int) vw_7)))))))))))))))))))
theorem vc_frame_Append (b : Sl) (vf : S_api_Frame) (w : World) (Q : Sl → Int → World → Prop) (h : F_frame_Append b vf w Q) : CallP Tryz.prog n_frame_Append [Sl.v b, ty_api_Frame.val vf] w (ret2 tSl (tI .i64) Q) := by
  unfold F_frame_Append at h
  refine CallP.of_body 49 Tryz.func29 rfl Tryz.ntmps29 rfl ?_
  refine WC.seq ?_
  refine WC.region ?_
  refine WL.q (W0 rfl) rfl (Rq.box (cs := [.int .u8 vf.f_Kind, .slice vf.f_Body.a vf.f_Body.len vf.f_Body.cap]) rfl rfl rfl h) ?_
  rintro _ vw ⟨b_1, rfl, h⟩
  refine WL.pure (W0 rfl) rfl (Pu.assign rfl rfl) ?_
  refine WL.pure (W0 rfl) rfl (Pu.assign rfl rfl) ?_
  refine WL.nil ?_
  refine Lf.thenC ?_
  refine WC.seq ?_
  refine WC.region ?_
  refine WL.pure (W0 rfl) rfl (Pu.fieldAddr 1 rfl Tryz.underlying68 rfl rfl nz_32 rfl) ?_
  obtain ⟨v, hl, h⟩ := h
  refine WL.val (W0 rfl) rfl (fun xa hxa => Rd.load ok_32 rfl rfl xa hxa _ hl) ?_
  refine WL.pure (W0 rfl) rfl (Pu.len rfl Tryz.underlying32 rfl) ?_
  refine WL.pure (W0 rfl) rfl (Pu.assign rfl rfl) ?_
  refine WL.nil ?_
  refine Lf.thenC ?_
  refine WC.seq ?_
  refine WC.seq ?_
  refine WC.region ?_
  refine WL.pure (W0 rfl) rfl (Pu.move rfl rfl) ?_
  refine WL.pure (W0 rfl) rfl (Pu.gtr rfl rfl rfl) ?_
  refine WL.nil ?_
  refine Lf.thenC ?_
  refine WC.condD rfl (fun hc => ?_) (fun hc => ?_)
  · replace h := h.1 hc
    refine WC.seq ?_
    refine WC.region ?_
    refine WL.pure (W0 rfl) rfl (Pu.assign rfl rfl) ?_
    refine WL.pure (W0 rfl) rfl (Pu.assign rfl rfl) ?_
    refine WL.nil ?_
    refine Lf.thenC ?_
    refine WC.ret ?_
    exact Lf.ret2 rfl rfl rfl ⟨_, _, rfl, h⟩
  · replace h := h.2 hc
    refine WC.skip ?_
    refine Lf.thenC ?_
    refine WC.seq ?_
    refine WC.draw [(0, false), (1, false), (2, false), (3, false), (4, false), (5, false), (6, false), (7, false), (8, false), (9, false), (10, false), (11, false), (12, false), (13, false), (14, false), (15, false), (16, true), (17, true), (18, false)] mixed (by kernel_rfl) ?_
    refine DL.pure rfl (W0 rfl) rfl (Pu.move rfl rfl) ?_
    refine DL.pure rfl (W0 rfl) rfl (Pu.move rfl rfl) ?_
    refine DL.pure rfl (W0 rfl) rfl (Pu.len rfl Tryz.underlying32 rfl) ?_
    refine DL.pure rfl (W0 rfl) rfl (Pu.move rfl rfl) ?_
    refine DL.pure rfl (W0 rfl) rfl (Pu.len rfl Tryz.underlying32 rfl) ?_
    obtain ⟨hi0, hi1, hi2, hi3, h⟩ := h
    refine DL.pure rfl (W0 rfl) rfl (Pu.slice rfl Tryz.underlying32 sz_5 rfl rfl rfl rfl rfl hi0 hi1 hi2 hi3) ?_
    refine DL.pure rfl (W0 rfl) rfl (Pu.fieldAddr 0 rfl Tryz.underlying68 rfl rfl nz_5 rfl) ?_
    obtain ⟨v_1, hl, h⟩ := h
    refine DL.read _ rfl (W0 rfl) rfl (Rd.load ok_5 rfl rfl) hl ?_
    refine DL.pure rfl (W0 rfl) rfl (Pu.move rfl rfl) ?_
    refine DL.pure rfl (W0 rfl) rfl (Pu.conv rfl (by rw [Tryz.underlying3]; rfl) Tryz.underlying5 rfl) ?_
    refine DL.pure rfl (W0 rfl) rfl (Pu.move rfl rfl) ?_
    refine DL.pure rfl (W0 rfl) rfl (Pu.shr rfl rfl rfl (by decide)) ?_
    refine DL.pure rfl (W0 rfl) rfl (Pu.conv rfl (by rw [Tryz.underlying3]; rfl) Tryz.underlying5 rfl) ?_
    refine DL.pure rfl (W0 rfl) rfl (Pu.move rfl rfl) ?_
    refine DL.pure rfl (W0 rfl) rfl (Pu.shr rfl rfl rfl (by decide)) ?_
    refine DL.pure rfl (W0 rfl) rfl (Pu.conv rfl (by rw [Tryz.underlying3]; rfl) Tryz.underlying5 rfl) ?_
    refine DL.q rfl (W0 rfl) rfl (Rq.buildSlice (E := 5) (vs := [(0, .int .u8 v_1), (1, .int .u8 (IntKind.u8.wrap (v.len : Int))), (2, .int .u8 (IntKind.u8.wrap (shrV .i64 (v.len : Int) (8 : Int)))), (3, .int .u8 (IntKind.u8.wrap (shrV .i64 (v.len : Int) (16 : Int))))]) (cs := [.int .u8 v_1, .int .u8 (IntKind.u8.wrap (v.len : Int)), .int .u8 (IntKind.u8.wrap (shrV .i64 (v.len : Int) (8 : Int))), .int .u8 (IntKind.u8.wrap (shrV .i64 (v.len : Int) (16 : Int)))]) rfl rfl (fun _ => by kernel_rfl) h) ?_
    rintro _ vw_1 ⟨b_2, rfl, h⟩
    refine ⟨(by exact ⟨.inl (by kernel_rfl), trivial⟩), ?_⟩
    obtain ⟨_, vw_2, hr, v_2, rfl, h⟩ := h
    refine DL.val rfl (W0 rfl) rfl (Rn.append rfl rfl rfl hr) (by exact ⟨.inl (by kernel_rfl), trivial⟩) ?_
    refine DL.pure rfl (W0 rfl) rfl (Pu.assign rfl rfl) ?_
    refine DL.nil ?_
    refine Lf.thenC ?_
    refine WC.seq ?_
    refine WC.region ?_
    refine WL.pure (W0 rfl) rfl (Pu.move rfl rfl) ?_
    refine WL.pure (W0 rfl) rfl (Pu.move rfl rfl) ?_
    refine WL.pure (W0 rfl) rfl (Pu.len rfl Tryz.underlying32 rfl) ?_
    obtain ⟨hi0, hi1, hi2, hi3, h⟩ := h
    refine WL.pure (W0 rfl) rfl (Pu.slice rfl Tryz.underlying32 sz_5 rfl rfl rfl rfl rfl hi0 hi1 hi2 hi3) ?_
    refine WL.call (W0 rfl) rfl (fun xa hxa => run_call (fs := []) (cs := []) (vs := [Sl.v (slS v_2 (b.len : Int) (v_2.len : Int) (v_2.cap : Int) 1)]) rfl rfl rfl Tryz.func51 rfl rfl xa hxa _) h ?_
    rintro _ vw_3 ⟨r, rfl, h⟩
    refine WL.pure (W0 rfl) rfl (Pu.assign rfl rfl) ?_
    refine WL.nil ?_
    refine Lf.thenC ?_
    refine WC.seq ?_
    refine WC.draw [(0, false), (1, false), (3, false), (4, false), (2, true), (5, true), (6, false)] mixed (by kernel_rfl) ?_
    refine DL.pure rfl (W0 rfl) rfl (Pu.move rfl rfl) ?_
    refine DL.pure rfl (W0 rfl) rfl (Pu.move rfl rfl) ?_
    refine DL.pure rfl (W0 rfl) rfl (Pu.fieldAddr 1 rfl Tryz.underlying68 rfl rfl nz_32 rfl) ?_
    obtain ⟨v_3, hl, h⟩ := h
    refine DL.read _ rfl (W0 rfl) rfl (Rd.load ok_32 rfl rfl) hl ?_
    refine DL.call rfl (W0 rfl) rfl (fun xa hxa => run_call (fs := []) (cs := []) (vs := [Sl.v v_2, .int .u32 r]) rfl rfl rfl Tryz.func52 rfl rfl xa hxa _) h ?_
    rintro _ vw_4 ⟨r_1, rfl, h⟩
    obtain ⟨hk, h⟩ := h
    refine ⟨(by exact ⟨.inr hk, trivial⟩), ?_⟩
    obtain ⟨_, vw_5, hr, v_4, rfl, h⟩ := h
    refine DL.val rfl (W0 rfl) rfl (Rn.append rfl rfl rfl hr) (by exact ⟨.inl (by kernel_rfl), trivial⟩) ?_
    refine DL.pure rfl (W0 rfl) rfl (Pu.assign rfl rfl) ?_
    refine DL.nil ?_
    refine Lf.thenC ?_
    refine WC.seq ?_
    refine WC.region ?_
    refine WL.pure (W0 rfl) rfl (Pu.move rfl rfl) ?_
    refine WL.pure (W0 rfl) rfl (Pu.move rfl rfl) ?_
    refine WL.pure (W0 rfl) rfl (Pu.fieldAddr 1 rfl Tryz.underlying68 rfl rfl nz_32 rfl) ?_
    obtain ⟨v_5, hl, h⟩ := h
    refine WL.val (W0 rfl) rfl (fun xa hxa => Rd.load ok_32 rfl rfl xa hxa _ hl) ?_
    refine WL.call (W0 rfl) rfl (fun xa hxa => run_call (fs := []) (cs := []) (vs := [.int .u32 r, Sl.v v_5]) rfl rfl rfl Tryz.func53 rfl rfl xa hxa _) h ?_
    rintro _ vw_6 ⟨r_2, rfl, h⟩
    refine WL.call (W0 rfl) rfl (fun xa hxa => run_call (fs := []) (cs := []) (vs := [Sl.v v_4, .int .u32 r_2]) rfl rfl rfl Tryz.func52 rfl rfl xa hxa _) h ?_
    rintro _ vw_7 ⟨r_3, rfl, h⟩
    refine WL.pure (W0 rfl) rfl (Pu.assign rfl rfl) ?_
    refine WL.pure (W0 rfl) rfl (Pu.assign rfl rfl) ?_
    refine WL.nil ?_
    refine Lf.thenC ?_
    refine WC.ret ?_
    exact Lf.ret2 rfl rfl rfl ⟨_, _, rfl, h⟩
/-- berthmaster/journal.recordsOf -/
def F_journal_recordsOf (b : Sl) (w : World) (Q : Sl → Int → World → Prop) : Prop :=
  CallP Tryz.prog n_frame_Scan [Sl.v b] w (ret3 tSl (tI .i64) (tI .i64) (fun r r_1 r_2 vw => JoinP (α := Sl × Int) (fun vj vw_1 => Q vj.1 vj.2 vw_1)
  (fun vk => LoopP (α := Sl × Int × Int) (fun vi vw_2 vJ => ((vi.2.2 < (r.len : Int)) → ixs r vi.2.2 (fun b_1 q => ld ty_api_Frame vw_2 b_1 (q + (vi.2.2).toNat * 2) (fun v => al vw_2 [.int .u8 ((⟨(0 : Int), (⟨none, 0, 0⟩ : Sl)⟩ : S_api_Frame).f_Kind), .slice ((⟨(0 : Int), (⟨none, 0, 0⟩ : Sl)⟩ : S_api_Frame).f_Body).a ((⟨(0 : Int), (⟨none, 0, 0⟩ : Sl)⟩ : S_api_Frame).f_Body).len ((⟨(0 : Int), (⟨none, 0, 0⟩ : Sl)⟩ : S_api_Frame).f_Body).cap] T_api_Frame (fun b_2 vw_3 => st ty_api_Frame vw_3 b_2 0 v (fun vw_4 => ld (tI .u8) vw_4 b_2 (0 + 0) (fun v_1 => ((v_1 ≠ (1 : Int)) → vk (vi.1, vi.2.1) vw_4) ∧
  ((¬ (v_1 ≠ (1 : Int))) → ld tSl vw_4 b_2 (0 + 1) (fun v_2 => al vw_4 [.slice v_2.a v_2.len v_2.cap] T_sl_uint8 (fun b_3 vw_5 => RunV Tryz.prog (Builtin.append_ #[T_sl_sl_uint8, T_sl_sl_uint8] T_sl_sl_uint8 #[Sl.v vi.1, Sl.v (⟨some ⟨b_3, 0, none⟩, 1, 1⟩ : Sl)]) vw_5 (ret1 tSl (fun v_3 vw_6 => ld tSl vw_6 b_2 (0 + 1) (fun v_4 => vJ (v_3, (IntKind.i64.wrap (vi.2.1 + (IntKind.i64.wrap ((v_4.len : Int) + (12 : Int))))), (IntKind.i64.wrap (vi.2.2 + (1 : Int)))) vw_6)))))))))))) ∧
  ((¬ (vi.2.2 < (r.len : Int))) → vk (vi.1, vi.2.1) vw_2)) ((⟨none, 0, 0⟩ : Sl), (0 : Int), (0 : Int)) vw)))
theorem vc_journal_recordsOf (b : Sl) (w : World) (Q : Sl → Int → World → Prop) (h : F_journal_recordsOf b w Q) : CallP Tryz.prog n_journal_recordsOf [Sl.v b] w (ret2 tSl (tI .i64) Q) := by
  unfold F_journal_recordsOf at h
  refine CallP.of_body 40 Tryz.func48 rfl Tryz.ntmps48 rfl ?_
  refine WC.seq ?_
  refine WC.region ?_
  refine WL.pure (W0 rfl) rfl (Pu.assign rfl rfl) ?_
  refine WL.pure (W0 rfl) rfl (Pu.assign rfl rfl) ?_
  refine WL.nil ?_
  refine Lf.thenC ?_
  refine WC.seq ?_
  refine WC.region ?_
  refine WL.pure (W0 rfl) rfl (Pu.move rfl rfl) ?_
  refine WL.call (W0 rfl) rfl (fun xa hxa => run_call (fs := []) (cs := []) (vs := [Sl.v b]) rfl rfl rfl Tryz.func66 rfl rfl xa hxa _) h ?_
  rintro _ vw ⟨r, r_1, r_2, rfl, h⟩
  refine WL.pure (W0 rfl) rfl (Pu.move rfl rfl) ?_
  refine WL.pure (W0 rfl) rfl (Pu.extract (vs := [Sl.v r, .int .i64 r_1, .int .i64 r_2]) rfl rfl rfl) ?_
  refine WL.pure (W0 rfl) rfl (Pu.extract (vs := [Sl.v r, .int .i64 r_1, .int .i64 r_2]) rfl rfl rfl) ?_
  refine WL.pure (W0 rfl) rfl (Pu.extract (vs := [Sl.v r, .int .i64 r_1, .int .i64 r_2]) rfl rfl rfl) ?_
  refine WL.pure (W0 rfl) rfl (Pu.assign rfl rfl) ?_
  refine WL.pure (W0 rfl) rfl (Pu.assign rfl rfl) ?_
  refine WL.pure (W0 rfl) rfl (Pu.assign rfl rfl) ?_
  refine WL.nil ?_
  refine Lf.thenC ?_
  refine WC.seq ?_
  refine WC.region ?_
  refine WL.pure (W0 rfl) rfl (Pu.assign rfl rfl) ?_
  refine WL.nil ?_
  refine Lf.thenC ?_
  refine WC.seq ?_
  refine WC.region ?_
  refine WL.pure (W0 rfl) rfl (Pu.assign rfl rfl) ?_
  refine WL.nil ?_
  refine Lf.thenC ?_
  obtain ⟨vk, h2, h⟩ := h
  refine WC.cut (α := Sl × Int) (k := vk) (fun vj => [(7, Sl.v vj.1), (8, .int .i64 vj.2)]) (fun vj vw_1 h => ?_) ?_
  · replace h := h2 _ _ h
    clear h2
    refine WC.seq ?_
    refine WC.region ?_
    refine WL.pure (W0 rfl) rfl (Pu.move rfl rfl) ?_
    refine WL.pure (W0 rfl) rfl (Pu.move rfl rfl) ?_
    refine WL.pure (W0 rfl) rfl (Pu.assign rfl rfl) ?_
    refine WL.pure (W0 rfl) rfl (Pu.assign rfl rfl) ?_
    refine WL.nil ?_
    refine Lf.thenC ?_
    refine WC.ret ?_
    exact Lf.ret2 rfl rfl rfl ⟨_, _, rfl, h⟩
  · clear h2
    refine WC.seq ?_
    refine WC.region ?_
    refine WL.pure (W0 rfl) rfl (Pu.move rfl rfl) ?_
    refine WL.pure (W0 rfl) rfl (Pu.len rfl Tryz.underlying110 rfl) ?_
    refine WL.pure (W0 rfl) rfl (Pu.move rfl rfl) ?_
    refine WL.nil ?_
    refine Lf.thenC ?_
    refine WC.block ?_
    refine WC.loop (α := Sl × Int × Int) (fun vi => [(7, Sl.v vi.1), (8, .int .i64 vi.2.1), (19, .int .i64 vi.2.2), (17, Sl.v r), (18, .int .i64 (r.len : Int))]) ((⟨none, 0, 0⟩ : Sl), (0 : Int), (0 : Int)) (by exact ⟨rfl, rfl, rfl, rfl, rfl, trivial⟩) h (fun vJ vi vw_2 h => ?_)
    refine WC.seq ?_
    refine WC.region ?_
    refine WL.pure (W0 rfl) rfl (Pu.lss rfl rfl rfl) ?_
    refine WL.nil ?_
    refine Lf.thenC ?_
    refine WC.seq ?_
    refine WC.condD rfl (fun hc => ?_) (fun hc => ?_)
    · replace h := h.1 hc
      refine WC.skip ?_
      refine Lf.thenC ?_
      refine WC.seq ?_
      refine WC.block ?_
      refine WC.seq ?_
      refine WC.region ?_
      obtain ⟨hi0, hi1, b_1, q, hs, h⟩ := h
      refine WL.pure (W0 rfl) rfl (Pu.indexAddr rfl Tryz.underlying110 sz_68 rfl rfl hs hi0 hi1) ?_
      obtain ⟨v, hl, h⟩ := h
      refine WL.val (W0 rfl) rfl (fun xa hxa => Rd.load ok_68 rfl rfl xa hxa _ hl) ?_
      refine WL.q (W0 rfl) rfl (Rq.alloc (cs := [.int .u8 ((⟨(0 : Int), (⟨none, 0, 0⟩ : Sl)⟩ : S_api_Frame).f_Kind), .slice ((⟨(0 : Int), (⟨none, 0, 0⟩ : Sl)⟩ : S_api_Frame).f_Body).a ((⟨(0 : Int), (⟨none, 0, 0⟩ : Sl)⟩ : S_api_Frame).f_Body).len ((⟨(0 : Int), (⟨none, 0, 0⟩ : Sl)⟩ : S_api_Frame).f_Body).cap]) rfl (z := ty_api_Frame.val (⟨(0 : Int), (⟨none, 0, 0⟩ : Sl)⟩ : S_api_Frame)) (by kernel_rfl) rfl h) ?_
      rintro _ vw_3 ⟨b_2, rfl, h⟩
      refine WL.qs (W0 rfl) rfl (Rsq.store v ok_68 rfl rfl rfl h) ?_
      rintro vw_4 h
      refine WL.nil ?_
      refine Lf.thenC ?_
      refine WC.seq ?_
      refine WC.seq ?_
      refine WC.region ?_
      refine WL.pure (W0 rfl) rfl (Pu.fieldAddr 0 rfl Tryz.underlying68 rfl rfl nz_5 rfl) ?_
      obtain ⟨v_1, hl, h⟩ := h
      refine WL.val (W0 rfl) rfl (fun xa hxa => Rd.load ok_5 rfl rfl xa hxa _ hl) ?_
      refine WL.pure (W0 rfl) rfl (Pu.neq rfl rfl rfl) ?_
      refine WL.nil ?_
      refine Lf.thenC ?_
      refine WC.condD rfl (fun hc => ?_) (fun hc => ?_)
      · replace h := h.1 hc
        refine WC.exit rfl ?_
        exact Lf.joinA (vi.1, vi.2.1) (by exact ⟨rfl, rfl, trivial⟩) h
      · replace h := h.2 hc
        refine WC.skip ?_
        refine Lf.thenC ?_
        refine WC.seq ?_
        refine WC.region ?_
        refine WL.pure (W0 rfl) rfl (Pu.move rfl rfl) ?_
        refine WL.pure (W0 rfl) rfl (Pu.fieldAddr 1 rfl Tryz.underlying68 rfl rfl nz_32 rfl) ?_
        obtain ⟨v_2, hl, h⟩ := h
        refine WL.val (W0 rfl) rfl (fun xa hxa => Rd.load ok_32 rfl rfl xa hxa _ hl) ?_
        refine WL.q (W0 rfl) rfl (Rq.buildSlice (E := 32) (vs := [(0, Sl.v v_2)]) (cs := [.slice v_2.a v_2.len v_2.cap]) rfl rfl (fun _ => by kernel_rfl) h) ?_
        rintro _ vw_5 ⟨b_3, rfl, h⟩
        obtain ⟨_, vw_6, hr, v_3, rfl, h⟩ := h
        refine WL.val (W0 rfl) rfl (Rn.append rfl rfl rfl hr) ?_
        refine WL.pure (W0 rfl) rfl (Pu.assign rfl rfl) ?_
        refine WL.nil ?_
        refine Lf.thenC ?_
        refine WC.region ?_
        refine WL.pure (W0 rfl) rfl (Pu.move rfl rfl) ?_
        refine WL.pure (W0 rfl) rfl (Pu.fieldAddr 1 rfl Tryz.underlying68 rfl rfl nz_32 rfl) ?_
        obtain ⟨v_4, hl, h⟩ := h
        refine WL.val (W0 rfl) rfl (fun xa hxa => Rd.load ok_32 rfl rfl xa hxa _ hl) ?_
        refine WL.pure (W0 rfl) rfl (Pu.len rfl Tryz.underlying32 rfl) ?_
        refine WL.pure (W0 rfl) rfl (Pu.add rfl rfl rfl) ?_
        refine WL.pure (W0 rfl) rfl (Pu.add rfl rfl rfl) ?_
        refine WL.pure (W0 rfl) rfl (Pu.assign rfl rfl) ?_
        refine WL.nil ?_
        refine Lf.thenC ?_
        refine WC.region ?_
        refine WL.pure (W0 rfl) rfl (Pu.add rfl rfl rfl) ?_
        refine WL.pure (W0 rfl) rfl (Pu.move rfl rfl) ?_
        refine WL.nil ?_
        exact Lf.joinA (v_3, (IntKind.i64.wrap (vi.2.1 + (IntKind.i64.wrap ((v_4.len : Int) + (12 : Int))))), (IntKind.i64.wrap (vi.2.2 + (1 : Int)))) (by exact ⟨rfl, rfl, rfl, rfl, rfl, trivial⟩) h
    · replace h := h.2 hc
      refine WC.exit rfl ?_
      exact Lf.joinA (vi.1, vi.2.1) (by exact ⟨rfl, rfl, trivial⟩) h
/-- berthmaster/disk.New -/
def F_disk_New (room : Int) (w : World) (Q : Option Addr → Int → World → Prop) : Prop :=
  JoinP (α := Bool) (fun vj vw => ((vj = true) → Q (none : Option Addr) (2 : Int) vw) ∧
  ((vj = false) → alM vw (fun m vw_1 => al vw_1 [.map ((⟨(some m : Option Nat), room, false, (0 : Int), false, (0 : Int)⟩ : S_disk_Disk).f_files), .int .i64 ((⟨(some m : Option Nat), room, false, (0 : Int), false, (0 : Int)⟩ : S_disk_Disk).f_room), .bool ((⟨(some m : Option Nat), room, false, (0 : Int), false, (0 : Int)⟩ : S_disk_Disk).f_fused), .int .i64 ((⟨(some m : Option Nat), room, false, (0 : Int), false, (0 : Int)⟩ : S_disk_Disk).f_fuse), .bool ((⟨(some m : Option Nat), room, false, (0 : Int), false, (0 : Int)⟩ : S_disk_Disk).f_off), .int .i64 ((⟨(some m : Option Nat), room, false, (0 : Int), false, (0 : Int)⟩ : S_disk_Disk).f_steps)] T_disk_Disk (fun b vw_2 => Q (some ⟨b, 0, none⟩ : Option Addr) (0 : Int) vw_2))))
  (fun vk => ((room < (0 : Int)) → vk true w) ∧
  ((¬ (room < (0 : Int))) → vk (decide ((1073741824 : Int) < room)) w))
theorem vc_disk_New (room : Int) (w : World) (Q : Option Addr → Int → World → Prop) (h : F_disk_New room w Q) : CallP Tryz.prog n_disk_New [.int .i64 room] w (ret2 tP (tI .i64) Q) := by
  unfold F_disk_New at h
  refine CallP.of_body 14 Tryz.func6 rfl Tryz.ntmps6 rfl ?_
  refine WC.seq ?_
  refine WC.region ?_
  refine WL.pure (W0 rfl) rfl (Pu.assign rfl rfl) ?_
  refine WL.pure (W0 rfl) rfl (Pu.assign rfl rfl) ?_
  refine WL.nil ?_
  refine Lf.thenC ?_
  refine WC.seq ?_
  obtain ⟨vk, h2, h⟩ := h
  refine WC.cut (α := Bool) (k := vk) (fun vj => [(9, .bool vj), (0, .int .i64 room)]) (fun vj vw h => ?_) ?_
  · replace h := h2 _ _ h
    clear h2
    refine WC.cond rfl (fun hc => ?_) (fun hc => ?_)
    · replace h := h.1 hc
      refine WC.seq ?_
      refine WC.region ?_
      refine WL.pure (W0 rfl) rfl (Pu.assign rfl rfl) ?_
      refine WL.pure (W0 rfl) rfl (Pu.assign rfl rfl) ?_
      refine WL.nil ?_
      refine Lf.thenC ?_
      refine WC.ret ?_
      exact Lf.ret2 rfl rfl rfl ⟨_, _, rfl, h⟩
    · replace h := h.2 hc
      refine WC.skip ?_
      refine Lf.thenC ?_
      refine WC.seq ?_
      refine WC.region ?_
      refine WL.q (W0 rfl) rfl (Rq.makeMap rfl h) ?_
      rintro _ vw_1 ⟨m, rfl, h⟩
      refine WL.pure (W0 rfl) rfl (Pu.move rfl rfl) ?_
      refine WL.pure (W0 rfl) rfl (Pu.build (vs := [(0, .map (some m : Option Nat)), (1, .int .i64 room)]) (v := ty_disk_Disk.val (⟨(some m : Option Nat), room, false, (0 : Int), false, (0 : Int)⟩ : S_disk_Disk)) rfl rfl (fun _ => by kernel_rfl)) ?_
      refine WL.q (W0 rfl) rfl (Rq.box (cs := [.map ((⟨(some m : Option Nat), room, false, (0 : Int), false, (0 : Int)⟩ : S_disk_Disk).f_files), .int .i64 ((⟨(some m : Option Nat), room, false, (0 : Int), false, (0 : Int)⟩ : S_disk_Disk).f_room), .bool ((⟨(some m : Option Nat), room, false, (0 : Int), false, (0 : Int)⟩ : S_disk_Disk).f_fused), .int .i64 ((⟨(some m : Option Nat), room, false, (0 : Int), false, (0 : Int)⟩ : S_disk_Disk).f_fuse), .bool ((⟨(some m : Option Nat), room, false, (0 : Int), false, (0 : Int)⟩ : S_disk_Disk).f_off), .int .i64 ((⟨(some m : Option Nat), room, false, (0 : Int), false, (0 : Int)⟩ : S_disk_Disk).f_steps)]) rfl rfl rfl h) ?_
      rintro _ vw_2 ⟨b, rfl, h⟩
      refine WL.pure (W0 rfl) rfl (Pu.assign rfl rfl) ?_
      refine WL.pure (W0 rfl) rfl (Pu.assign rfl rfl) ?_
      refine WL.nil ?_
      refine Lf.thenC ?_
      refine WC.ret ?_
      exact Lf.ret2 rfl rfl rfl ⟨_, _, rfl, h⟩
  · clear h2
    refine WC.region ?_
    refine WL.pure (W0 rfl) rfl (Pu.move rfl rfl) ?_
    refine WL.pure (W0 rfl) rfl (Pu.lss rfl rfl rfl) ?_
    refine WL.pure (W0 rfl) rfl (Pu.move rfl rfl) ?_
    refine WL.boolD (t := 6) rfl (fun hc => ?_) (fun hc => ?_)
    · replace h := h.1 hc
      refine WL.unwanted (t := 6) rfl rfl rfl rfl rfl rfl ?_
      refine WL.unwanted (t := 6) rfl rfl rfl rfl rfl rfl ?_
      refine WL.pure (W0 rfl) rfl (Pu.pickT rfl rfl rfl) ?_
      refine WL.nil ?_
      exact Lf.joinA true (by exact ⟨rfl, rfl, trivial⟩) h
    · replace h := h.2 hc
      refine WL.pure (W1 (t := 6) rfl rfl rfl rfl) rfl (Pu.move rfl rfl) ?_
      refine WL.pure (W1 (t := 6) rfl rfl rfl rfl) rfl (Pu.gtr rfl rfl rfl) ?_
      refine WL.pure (W0 rfl) rfl (Pu.pickF rfl rfl rfl) ?_
      refine WL.nil ?_
      exact Lf.joinA (decide ((1073741824 : Int) < room)) (by exact ⟨rfl, rfl, trivial⟩) h
/-- (*berthmaster/disk.Disk).none -/
def F_disk_Disk_none (d : Option Addr) (w : World) (Q : Bool → World → Prop) : Prop :=
  JoinP (α := Bool) (fun vj vw => Q vj vw)
  (fun vk => ((d.isNone = true) → vk true w) ∧
  ((d.isNone = false) → nz d (fun b q => ld tM w b (q + 0) (fun v => vk v.isNone w))))
theorem vc_disk_Disk_none (d : Option Addr) (w : World) (Q : Bool → World → Prop) (h : F_disk_Disk_none d w Q) : CallP Tryz.prog n_disk_Disk_none [.pointer d] w (ret1 tB Q) := by
  unfold F_disk_Disk_none at h
  refine CallP.of_body 12 Tryz.func37 rfl Tryz.ntmps37 rfl ?_
  refine WC.seq ?_
  refine WC.region ?_
  refine WL.pure (W0 rfl) rfl (Pu.assign rfl rfl) ?_
  refine WL.nil ?_
  refine Lf.thenC ?_
  obtain ⟨vk, h2, h⟩ := h
  refine WC.cut (α := Bool) (k := vk) (fun vj => [(2, .bool vj)]) (fun vj vw h => ?_) ?_
  · replace h := h2 _ _ h
    clear h2
    refine WC.ret ?_
    exact Lf.ret1 rfl rfl ⟨_, rfl, h⟩
  · clear h2
    refine WC.region ?_
    refine WL.pure (W0 rfl) rfl (Pu.move rfl rfl) ?_
    refine WL.pure (W0 rfl) rfl (Pu.pnil rfl Tryz.underlying25 rfl) ?_
    refine WL.pure (W0 rfl) rfl (Pu.move rfl rfl) ?_
    refine WL.bool (t := 5) rfl (fun hc => ?_) (fun hc => ?_)
    · replace h := h.1 hc
      refine WL.unwanted (t := 5) rfl rfl rfl rfl rfl rfl ?_
      refine WL.unwanted (t := 5) rfl rfl rfl rfl rfl rfl ?_
      refine WL.unwanted (t := 5) rfl rfl rfl rfl rfl rfl ?_
      refine WL.unwanted (t := 5) rfl rfl rfl rfl rfl rfl ?_
      refine WL.unwanted (t := 5) rfl rfl rfl rfl rfl rfl ?_
      refine WL.pure (W0 rfl) rfl (Pu.pickT rfl rfl rfl) ?_
      refine WL.pure (W0 rfl) rfl (Pu.assign rfl rfl) ?_
      refine WL.nil ?_
      exact Lf.joinA true (by exact ⟨rfl, trivial⟩) h
    · replace h := h.2 hc
      refine WL.pure (W1 (t := 5) rfl rfl rfl rfl) rfl (Pu.move rfl rfl) ?_
      obtain ⟨b, q, hp, h⟩ := h
      refine WL.pure (W1 (t := 5) rfl rfl rfl rfl) rfl (Pu.nilCheck rfl (by exact pe hp)) ?_
      refine WL.pure (W1 (t := 5) rfl rfl rfl rfl) rfl (Pu.fieldAddr 0 rfl Tryz.underlying57 rfl rfl nz_55 rfl) ?_
      obtain ⟨v, hl, h⟩ := h
      refine WL.val (W1 (t := 5) rfl rfl rfl rfl) rfl (fun xa hxa => Rd.load ok_55 rfl rfl xa hxa _ hl) ?_
      refine WL.pure (W1 (t := 5) rfl rfl rfl rfl) rfl (Pu.mnil rfl Tryz.underlying55 rfl) ?_
      refine WL.pure (W0 rfl) rfl (Pu.pickF rfl rfl rfl) ?_
      refine WL.pure (W0 rfl) rfl (Pu.assign rfl rfl) ?_
      refine WL.nil ?_
      exact Lf.joinA v.isNone (by exact ⟨rfl, trivial⟩) h
/-- berthmaster/disk.named -/
def F_disk_named (s : ByteArray) (w : World) (Q : Bool → World → Prop) : Prop :=
  JoinP (α := Bool) (fun vj vw => ((vj = true) → Q false vw) ∧
  ((vj = false) → RunV Tryz.prog (convert T_string T_sl_uint8 (.string s)) vw (ret1 tSl (fun v vw_1 => LoopP (α := Int) (fun vi vw_2 vJ => ((vi < (v.len : Int)) → ixs v vi (fun b q => ld (tI .u8) vw_2 b (q + (vi).toNat * 1) (fun v_1 => JoinP (α := Bool) (fun vj_1 vw_3 => ((vj_1 = true) → Q false vw_3) ∧
  ((vj_1 = false) → vJ (IntKind.i64.wrap (vi + (1 : Int))) vw_3))
  (fun vk_1 => ((v_1 < (33 : Int)) → vk_1 true vw_2) ∧
  ((¬ (v_1 < (33 : Int))) → vk_1 (decide ((126 : Int) < v_1)) vw_2))))) ∧
  ((¬ (vi < (v.len : Int))) → Q true vw_2)) (0 : Int) vw_1))))
  (fun vk => (((s.size : Int) < (1 : Int)) → vk true w) ∧
  ((¬ ((s.size : Int) < (1 : Int))) → vk (decide ((24 : Int) < (s.size : Int))) w))
theorem vc_disk_named (s : ByteArray) (w : World) (Q : Bool → World → Prop) (h : F_disk_named s w Q) : CallP Tryz.prog n_disk_named [.string s] w (ret1 tB Q) := by
  unfold F_disk_named at h
  refine CallP.of_body 27 Tryz.func38 rfl Tryz.ntmps38 rfl ?_
  refine WC.seq ?_
  refine WC.region ?_
  refine WL.pure (W0 rfl) rfl (Pu.assign rfl rfl) ?_
  refine WL.nil ?_
  refine Lf.thenC ?_
  refine WC.seq ?_
  obtain ⟨vk, h2, h⟩ := h
  refine WC.cut (α := Bool) (k := vk) (fun vj => [(12, .bool vj), (0, .string s)]) (fun vj vw h => ?_) ?_
  · replace h := h2 _ _ h
    clear h2
    refine WC.cond rfl (fun hc => ?_) (fun hc => ?_)
    · replace h := h.1 hc
      refine WC.seq ?_
      refine WC.region ?_
      refine WL.pure (W0 rfl) rfl (Pu.assign rfl rfl) ?_
      refine WL.nil ?_
      refine Lf.thenC ?_
      refine WC.ret ?_
      exact Lf.ret1 rfl rfl ⟨_, rfl, h⟩
    · replace h := h.2 hc
      refine WC.skip ?_
      refine Lf.thenC ?_
      refine WC.seq ?_
      refine WC.seq ?_
      refine WC.region ?_
      refine WL.pure (W0 rfl) rfl (Pu.move rfl rfl) ?_
      obtain ⟨_, vw_1, hr, v, rfl, h⟩ := h
      refine WL.val (W0 rfl) rfl (Rn.conv rfl rfl hr) ?_
      refine WL.pure (W0 rfl) rfl (Pu.len rfl Tryz.underlying32 rfl) ?_
      refine WL.pure (W0 rfl) rfl (Pu.move rfl rfl) ?_
      refine WL.nil ?_
      refine Lf.thenC ?_
      refine WC.block ?_
      refine WC.loop (α := Int) (fun vi => [(16, .int .i64 vi), (14, Sl.v v), (15, .int .i64 (v.len : Int))]) (0 : Int) (by exact ⟨rfl, rfl, rfl, trivial⟩) h (fun vJ vi vw_2 h => ?_)
      refine WC.seq ?_
      refine WC.region ?_
      refine WL.pure (W0 rfl) rfl (Pu.lss rfl rfl rfl) ?_
      refine WL.nil ?_
      refine Lf.thenC ?_
      refine WC.seq ?_
      refine WC.condD rfl (fun hc => ?_) (fun hc => ?_)
      · replace h := h.1 hc
        refine WC.skip ?_
        refine Lf.thenC ?_
        refine WC.seq ?_
        refine WC.block ?_
        refine WC.seq ?_
        refine WC.region ?_
        obtain ⟨hi0, hi1, b, q, hs, h⟩ := h
        refine WL.pure (W0 rfl) rfl (Pu.indexAddr rfl Tryz.underlying32 sz_5 rfl rfl hs hi0 hi1) ?_
        obtain ⟨v_1, hl, h⟩ := h
        refine WL.val (W0 rfl) rfl (fun xa hxa => Rd.load ok_5 rfl rfl xa hxa _ hl) ?_
        refine WL.pure (W0 rfl) rfl (Pu.assign rfl rfl) ?_
        refine WL.nil ?_
        refine Lf.thenC ?_
        obtain ⟨vk_1, h2, h⟩ := h
        refine WC.cut (α := Bool) (k := vk_1) (fun vj_1 => [(25, .bool vj_1), (14, Sl.v v), (15, .int .i64 (v.len : Int)), (16, .int .i64 vi)]) (fun vj_1 vw_3 h => ?_) ?_
        · replace h := h2 _ _ h
          clear h2
          refine WC.cond rfl (fun hc => ?_) (fun hc => ?_)
          · replace h := h.1 hc
            refine WC.seq ?_
            refine WC.region ?_
            refine WL.pure (W0 rfl) rfl (Pu.assign rfl rfl) ?_
            refine WL.nil ?_
            refine Lf.thenC ?_
            refine WC.ret ?_
            exact Lf.ret1 rfl rfl ⟨_, rfl, h⟩
          · replace h := h.2 hc
            refine WC.skip ?_
            refine Lf.thenC ?_
            refine WC.region ?_
            refine WL.pure (W0 rfl) rfl (Pu.add rfl rfl rfl) ?_
            refine WL.pure (W0 rfl) rfl (Pu.move rfl rfl) ?_
            refine WL.nil ?_
            exact Lf.joinA (IntKind.i64.wrap (vi + (1 : Int))) (by exact ⟨rfl, rfl, rfl, trivial⟩) h
        · clear h2
          refine WC.region ?_
          refine WL.pure (W0 rfl) rfl (Pu.move rfl rfl) ?_
          refine WL.pure (W0 rfl) rfl (Pu.lss rfl rfl rfl) ?_
          refine WL.pure (W0 rfl) rfl (Pu.move rfl rfl) ?_
          refine WL.boolD (t := 22) rfl (fun hc => ?_) (fun hc => ?_)
          · replace h := h.1 hc
            refine WL.unwanted (t := 22) rfl rfl rfl rfl rfl rfl ?_
            refine WL.unwanted (t := 22) rfl rfl rfl rfl rfl rfl ?_
            refine WL.pure (W0 rfl) rfl (Pu.pickT rfl rfl rfl) ?_
            refine WL.nil ?_
            exact Lf.joinA true (by exact ⟨rfl, rfl, rfl, rfl, trivial⟩) h
          · replace h := h.2 hc
            refine WL.pure (W1 (t := 22) rfl rfl rfl rfl) rfl (Pu.move rfl rfl) ?_
            refine WL.pure (W1 (t := 22) rfl rfl rfl rfl) rfl (Pu.gtr rfl rfl rfl) ?_
            refine WL.pure (W0 rfl) rfl (Pu.pickF rfl rfl rfl) ?_
            refine WL.nil ?_
            exact Lf.joinA (decide ((126 : Int) < v_1)) (by exact ⟨rfl, rfl, rfl, rfl, trivial⟩) h
      · replace h := h.2 hc
        refine WC.exit rfl ?_
        refine Lf.thenC ?_
        refine WC.seq ?_
        refine WC.region ?_
        refine WL.pure (W0 rfl) rfl (Pu.assign rfl rfl) ?_
        refine WL.nil ?_
        refine Lf.thenC ?_
        refine WC.ret ?_
        exact Lf.ret1 rfl rfl ⟨_, rfl, h⟩
  · clear h2
    refine WC.region ?_
    refine WL.pure (W0 rfl) rfl (Pu.move rfl rfl) ?_
    refine WL.pure (W0 rfl) rfl (Pu.slen rfl Tryz.underlying9 rfl) ?_
    refine WL.pure (W0 rfl) rfl (Pu.lss rfl rfl rfl) ?_
    refine WL.pure (W0 rfl) rfl (Pu.move rfl rfl) ?_
    refine WL.boolD (t := 8) rfl (fun hc => ?_) (fun hc => ?_)
    · replace h := h.1 hc
      refine WL.unwanted (t := 8) rfl rfl rfl rfl rfl rfl ?_
      refine WL.unwanted (t := 8) rfl rfl rfl rfl rfl rfl ?_
      refine WL.unwanted (t := 8) rfl rfl rfl rfl rfl rfl ?_
      refine WL.pure (W0 rfl) rfl (Pu.pickT rfl rfl rfl) ?_
      refine WL.nil ?_
      exact Lf.joinA true (by exact ⟨rfl, rfl, trivial⟩) h
    · replace h := h.2 hc
      refine WL.pure (W1 (t := 8) rfl rfl rfl rfl) rfl (Pu.move rfl rfl) ?_
      refine WL.pure (W1 (t := 8) rfl rfl rfl rfl) rfl (Pu.slen rfl Tryz.underlying9 rfl) ?_
      refine WL.pure (W1 (t := 8) rfl rfl rfl rfl) rfl (Pu.gtr rfl rfl rfl) ?_
      refine WL.pure (W0 rfl) rfl (Pu.pickF rfl rfl rfl) ?_
      refine WL.nil ?_
      exact Lf.joinA (decide ((24 : Int) < (s.size : Int))) (by exact ⟨rfl, rfl, trivial⟩) h
end Go.Proofs.YtccebpahnnfceaaGreatDoor
