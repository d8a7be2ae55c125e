/- Verification conditions of functions. Written by vcgen.py. -/
import Derived.Test.YtccebpahnnfceaaGreatDoorVcT
namespace Go.Proofs.YtccebpahnnfceaaGreatDoor
open Go.Vc
set_option linter.unusedVariables false
set_option maxRecDepth 100000
/-- (*berthmaster/journal.Journal).Next -/
def F_journal_Journal_Next (vj : Option Addr) (w : World) (Q : Int → World → Prop) : Prop :=
  CallP Tryz.prog n_journal_Journal_none [.pointer vj] w (ret1 tB (fun r vw => ((r = true) → Q (0 : Int) vw) ∧
  ((r = false) → nz vj (fun b q => ld (tI .u64) vw b (q + 4) (fun v => Q v vw)))))
theorem vc_journal_Journal_Next (vj : Option Addr) (w : World) (Q : Int → World → Prop) (h : F_journal_Journal_Next vj w Q) : CallP Tryz.prog n_journal_Journal_Next [.pointer vj] w (ret1 (tI .u64) Q) := by
  unfold F_journal_Journal_Next at h
  refine CallP.of_body 9 Tryz.func20 rfl Tryz.ntmps20 rfl ?_
  refine WC.seq ?_
  refine WC.region ?_
  refine WL.pure (W0 rfl) rfl (Pu.assign rfl rfl) ?_
  refine WL.nil ?_
  refine Lf.thenC ?_
  refine WC.seq ?_
  refine WC.seq ?_
  refine WC.region ?_
  refine WL.pure (W0 rfl) rfl (Pu.move rfl rfl) ?_
  refine WL.call (W0 rfl) rfl (fun xa hxa => run_call (fs := []) (cs := []) (vs := [.pointer vj]) rfl rfl rfl Tryz.func39 rfl rfl xa hxa _) h ?_
  rintro _ vw ⟨r, rfl, h⟩
  refine WL.nil ?_
  refine Lf.thenC ?_
  refine WC.cond rfl (fun hc => ?_) (fun hc => ?_)
  · replace h := h.1 hc
    refine WC.seq ?_
    refine WC.region ?_
    refine WL.pure (W0 rfl) rfl (Pu.assign rfl rfl) ?_
    refine WL.nil ?_
    refine Lf.thenC ?_
    refine WC.ret ?_
    exact Lf.ret1 rfl rfl ⟨_, rfl, h⟩
  · replace h := h.2 hc
    refine WC.skip ?_
    refine Lf.thenC ?_
    refine WC.seq ?_
    refine WC.region ?_
    refine WL.pure (W0 rfl) rfl (Pu.move rfl rfl) ?_
    obtain ⟨b, q, hp, h⟩ := h
    refine WL.pure (W0 rfl) rfl (Pu.nilCheck rfl (by exact pe hp)) ?_
    refine WL.pure (W0 rfl) rfl (Pu.fieldAddr 4 rfl Tryz.underlying62 rfl rfl nz_33 rfl) ?_
    obtain ⟨v, hl, h⟩ := h
    refine WL.val (W0 rfl) rfl (fun xa hxa => Rd.load ok_33 rfl rfl xa hxa _ hl) ?_
    refine WL.pure (W0 rfl) rfl (Pu.assign rfl rfl) ?_
    refine WL.nil ?_
    refine Lf.thenC ?_
    refine WC.ret ?_
    exact Lf.ret1 rfl rfl ⟨_, rfl, h⟩
/-- berthmaster/berthmasterkit.Pick -/
def F_berthmasterkit_Pick (vx : Int) (vn : Int) (w : World) (Q : Int → World → Prop) : Prop :=
  ((vn < (1 : Int)) → Q (0 : Int) w) ∧
  ((¬ (vn < (1 : Int))) → vn ≠ 0 ∧ vn ≠ 0 ∧ Q (Int.tmod (IntKind.i64.wrap ((Int.tmod vx vn) + vn)) vn) w)
theorem vc_berthmasterkit_Pick (vx : Int) (vn : Int) (w : World) (Q : Int → World → Prop) (h : F_berthmasterkit_Pick vx vn w Q) : CallP Tryz.prog n_berthmasterkit_Pick [.int .i64 vx, .int .i64 vn] w (ret1 (tI .i64) Q) := by
  unfold F_berthmasterkit_Pick at h
  refine CallP.of_body 14 Tryz.func11 rfl Tryz.ntmps11 rfl ?_
  refine WC.seq ?_
  refine WC.region ?_
  refine WL.pure (W0 rfl) rfl (Pu.assign rfl rfl) ?_
  refine WL.nil ?_
  refine Lf.thenC ?_
  refine WC.seq ?_
  refine WC.seq ?_
  refine WC.region ?_
  refine WL.pure (W0 rfl) rfl (Pu.move rfl rfl) ?_
  refine WL.pure (W0 rfl) rfl (Pu.lss rfl rfl rfl) ?_
  refine WL.nil ?_
  refine Lf.thenC ?_
  refine WC.condD rfl (fun hc => ?_) (fun hc => ?_)
  · replace h := h.1 hc
    refine WC.seq ?_
    refine WC.region ?_
    refine WL.pure (W0 rfl) rfl (Pu.assign rfl rfl) ?_
    refine WL.nil ?_
    refine Lf.thenC ?_
    refine WC.ret ?_
    exact Lf.ret1 rfl rfl ⟨_, rfl, h⟩
  · replace h := h.2 hc
    refine WC.skip ?_
    refine Lf.thenC ?_
    refine WC.seq ?_
    refine WC.region ?_
    refine WL.pure (W0 rfl) rfl (Pu.move rfl rfl) ?_
    refine WL.pure (W0 rfl) rfl (Pu.move rfl rfl) ?_
    obtain ⟨hj, h⟩ := h
    refine WL.pure (W0 rfl) rfl (Pu.rem rfl rfl rfl hj) ?_
    refine WL.pure (W0 rfl) rfl (Pu.move rfl rfl) ?_
    refine WL.pure (W0 rfl) rfl (Pu.add rfl rfl rfl) ?_
    refine WL.pure (W0 rfl) rfl (Pu.move rfl rfl) ?_
    obtain ⟨hj, h⟩ := h
    refine WL.pure (W0 rfl) rfl (Pu.rem rfl rfl rfl hj) ?_
    refine WL.pure (W0 rfl) rfl (Pu.assign rfl rfl) ?_
    refine WL.nil ?_
    refine Lf.thenC ?_
    refine WC.ret ?_
    exact Lf.ret1 rfl rfl ⟨_, rfl, h⟩
/-- berthmaster/berthmasterkit.SameBytes -/
def F_berthmasterkit_SameBytes (a : Sl) (b : Sl) (w : World) (Q : Bool → World → Prop) : Prop :=
  (((a.len : Int) ≠ (b.len : Int)) → Q false w) ∧
  ((¬ ((a.len : Int) ≠ (b.len : Int))) → LoopP (α := Int) (fun vi vw vJ => ((vi < (a.len : Int)) → ixs a vi (fun b_1 q => ld (tI .u8) (dr vw) b_1 (q + (vi).toNat * 1) (fun v => ixs b vi (fun b_2 q_1 => ld (tI .u8) (dr vw) b_2 (q_1 + (vi).toNat * 1) (fun v_1 => ((v ≠ v_1) → Q false (dr vw)) ∧
  ((¬ (v ≠ v_1)) → vJ (IntKind.i64.wrap (vi + (1 : Int))) (dr vw))))))) ∧
  ((¬ (vi < (a.len : Int))) → Q true vw)) (0 : Int) w)
theorem vc_berthmasterkit_SameBytes (a : Sl) (b : Sl) (w : World) (Q : Bool → World → Prop) (h : F_berthmasterkit_SameBytes a b w Q) : CallP Tryz.prog n_berthmasterkit_SameBytes [Sl.v a, Sl.v b] w (ret1 tB Q) := by
  unfold F_berthmasterkit_SameBytes at h
  refine CallP.of_body 26 Tryz.func40 rfl Tryz.ntmps40 rfl ?_
  refine WC.seq ?_
  refine WC.region ?_
  refine WL.pure (W0 rfl) rfl (Pu.assign rfl rfl) ?_
  refine WL.nil ?_
  refine Lf.thenC ?_
  refine WC.seq ?_
  refine WC.seq ?_
  refine WC.region ?_
  refine WL.pure (W0 rfl) rfl (Pu.move rfl rfl) ?_
  refine WL.pure (W0 rfl) rfl (Pu.len rfl Tryz.underlying32 rfl) ?_
  refine WL.pure (W0 rfl) rfl (Pu.move rfl rfl) ?_
  refine WL.pure (W0 rfl) rfl (Pu.len rfl Tryz.underlying32 rfl) ?_
  refine WL.pure (W0 rfl) rfl (Pu.neq rfl rfl rfl) ?_
  refine WL.nil ?_
  refine Lf.thenC ?_
  refine WC.condD rfl (fun hc => ?_) (fun hc => ?_)
  · replace h := h.1 hc
    refine WC.seq ?_
    refine WC.region ?_
    refine WL.pure (W0 rfl) rfl (Pu.assign rfl rfl) ?_
    refine WL.nil ?_
    refine Lf.thenC ?_
    refine WC.ret ?_
    exact Lf.ret1 rfl rfl ⟨_, rfl, h⟩
  · replace h := h.2 hc
    refine WC.skip ?_
    refine Lf.thenC ?_
    refine WC.seq ?_
    refine WC.seq ?_
    refine WC.region ?_
    refine WL.pure (W0 rfl) rfl (Pu.assign rfl rfl) ?_
    refine WL.nil ?_
    refine Lf.thenC ?_
    refine WC.block ?_
    refine WC.loop (α := Int) (fun vi => [(5, .int .i64 vi), (0, Sl.v a), (1, Sl.v b)]) (0 : Int) (by exact ⟨rfl, rfl, rfl, trivial⟩) h (fun vJ vi vw h => ?_)
    refine WC.seq ?_
    refine WC.seq ?_
    refine WC.region ?_
    refine WL.pure (W0 rfl) rfl (Pu.move rfl rfl) ?_
    refine WL.pure (W0 rfl) rfl (Pu.move rfl rfl) ?_
    refine WL.pure (W0 rfl) rfl (Pu.len rfl Tryz.underlying32 rfl) ?_
    refine WL.pure (W0 rfl) rfl (Pu.lss rfl rfl rfl) ?_
    refine WL.nil ?_
    refine Lf.thenC ?_
    refine WC.condD rfl (fun hc => ?_) (fun hc => ?_)
    · replace h := h.1 hc
      refine WC.skip ?_
      refine Lf.thenC ?_
      refine WC.seq ?_
      refine WC.block ?_
      refine WC.seq ?_
      refine WC.draw [(0, false), (1, false), (2, false), (3, false), (4, false), (5, false), (6, false), (7, false), (8, false)] mixed (by kernel_rfl) ?_
      refine DL.pure rfl (W0 rfl) rfl (Pu.move rfl rfl) ?_
      refine DL.pure rfl (W0 rfl) rfl (Pu.move rfl rfl) ?_
      obtain ⟨hi0, hi1, b_1, q, hs, h⟩ := h
      refine DL.pure rfl (W0 rfl) rfl (Pu.indexAddr rfl Tryz.underlying32 sz_5 rfl rfl hs hi0 hi1) ?_
      obtain ⟨v, hl, h⟩ := h
      refine DL.read _ rfl (W0 rfl) rfl (Rd.load ok_5 rfl rfl) hl ?_
      refine DL.pure rfl (W0 rfl) rfl (Pu.move rfl rfl) ?_
      refine DL.pure rfl (W0 rfl) rfl (Pu.move rfl rfl) ?_
      obtain ⟨hi0, hi1, b_2, q_1, hs, h⟩ := h
      refine DL.pure rfl (W0 rfl) rfl (Pu.indexAddr rfl Tryz.underlying32 sz_5 rfl rfl hs hi0 hi1) ?_
      obtain ⟨v_1, hl, h⟩ := h
      refine DL.read _ rfl (W0 rfl) rfl (Rd.load ok_5 rfl rfl) hl ?_
      refine DL.pure rfl (W0 rfl) rfl (Pu.neq rfl rfl rfl) ?_
      refine DL.nil ?_
      refine Lf.thenC ?_
      refine WC.condD rfl (fun hc => ?_) (fun hc => ?_)
      · replace h := h.1 hc
        refine WC.seq ?_
        refine WC.region ?_
        refine WL.pure (W0 rfl) rfl (Pu.assign rfl rfl) ?_
        refine WL.nil ?_
        refine Lf.thenC ?_
        refine WC.ret ?_
        exact Lf.ret1 rfl rfl ⟨_, rfl, h⟩
      · replace h := h.2 hc
        refine WC.skip ?_
        refine Lf.thenC ?_
        refine WC.region ?_
        refine WL.pure (W0 rfl) rfl (Pu.move rfl rfl) ?_
        refine WL.pure (W0 rfl) rfl (Pu.add rfl rfl rfl) ?_
        refine WL.pure (W0 rfl) rfl (Pu.assign rfl rfl) ?_
        refine WL.nil ?_
        exact Lf.joinA (IntKind.i64.wrap (vi + (1 : Int))) (by exact ⟨rfl, rfl, rfl, trivial⟩) h
    · replace h := h.2 hc
      refine WC.exit rfl ?_
      refine Lf.thenC ?_
      refine WC.seq ?_
      refine WC.region ?_
      refine WL.pure (W0 rfl) rfl (Pu.assign rfl rfl) ?_
      refine WL.nil ?_
      refine Lf.thenC ?_
      refine WC.ret ?_
      exact Lf.ret1 rfl rfl ⟨_, rfl, h⟩
/-- berthmaster/berthmasterkit.SameLists -/
def F_berthmasterkit_SameLists (a : Sl) (b : Sl) (w : World) (Q : Bool → World → Prop) : Prop :=
  (((a.len : Int) ≠ (b.len : Int)) → Q false w) ∧
  ((¬ ((a.len : Int) ≠ (b.len : Int))) → LoopP (α := Int) (fun vi vw vJ => ((vi < (a.len : Int)) → ixs a vi (fun b_1 q => ld tSl (dr vw) b_1 (q + (vi).toNat * 1) (fun v => ixs b vi (fun b_2 q_1 => ld tSl (dr vw) b_2 (q_1 + (vi).toNat * 1) (fun v_1 => CallP Tryz.prog n_berthmasterkit_SameBytes [Sl.v v, Sl.v v_1] (dr vw) (ret1 tB (fun r vw_1 => (((!r) = true) → Q false vw_1) ∧
  (((!r) = false) → vJ (IntKind.i64.wrap (vi + (1 : Int))) vw_1)))))))) ∧
  ((¬ (vi < (a.len : Int))) → Q true vw)) (0 : Int) w)
theorem vc_berthmasterkit_SameLists (a : Sl) (b : Sl) (w : World) (Q : Bool → World → Prop) (h : F_berthmasterkit_SameLists a b w Q) : CallP Tryz.prog n_berthmasterkit_SameLists [Sl.v a, Sl.v b] w (ret1 tB Q) := by
  unfold F_berthmasterkit_SameLists at h
  refine CallP.of_body 27 Tryz.func15 rfl Tryz.ntmps15 rfl ?_
  refine WC.seq ?_
  refine WC.region ?_
  refine WL.pure (W0 rfl) rfl (Pu.assign rfl rfl) ?_
  refine WL.nil ?_
  refine Lf.thenC ?_
  refine WC.seq ?_
  refine WC.seq ?_
  refine WC.region ?_
  refine WL.pure (W0 rfl) rfl (Pu.move rfl rfl) ?_
  refine WL.pure (W0 rfl) rfl (Pu.len rfl Tryz.underlying22 rfl) ?_
  refine WL.pure (W0 rfl) rfl (Pu.move rfl rfl) ?_
  refine WL.pure (W0 rfl) rfl (Pu.len rfl Tryz.underlying22 rfl) ?_
  refine WL.pure (W0 rfl) rfl (Pu.neq rfl rfl rfl) ?_
  refine WL.nil ?_
  refine Lf.thenC ?_
  refine WC.condD rfl (fun hc => ?_) (fun hc => ?_)
  · replace h := h.1 hc
    refine WC.seq ?_
    refine WC.region ?_
    refine WL.pure (W0 rfl) rfl (Pu.assign rfl rfl) ?_
    refine WL.nil ?_
    refine Lf.thenC ?_
    refine WC.ret ?_
    exact Lf.ret1 rfl rfl ⟨_, rfl, h⟩
  · replace h := h.2 hc
    refine WC.skip ?_
    refine Lf.thenC ?_
    refine WC.seq ?_
    refine WC.seq ?_
    refine WC.region ?_
    refine WL.pure (W0 rfl) rfl (Pu.assign rfl rfl) ?_
    refine WL.nil ?_
    refine Lf.thenC ?_
    refine WC.block ?_
    refine WC.loop (α := Int) (fun vi => [(5, .int .i64 vi), (0, Sl.v a), (1, Sl.v b)]) (0 : Int) (by exact ⟨rfl, rfl, rfl, trivial⟩) h (fun vJ vi vw h => ?_)
    refine WC.seq ?_
    refine WC.seq ?_
    refine WC.region ?_
    refine WL.pure (W0 rfl) rfl (Pu.move rfl rfl) ?_
    refine WL.pure (W0 rfl) rfl (Pu.move rfl rfl) ?_
    refine WL.pure (W0 rfl) rfl (Pu.len rfl Tryz.underlying22 rfl) ?_
    refine WL.pure (W0 rfl) rfl (Pu.lss rfl rfl rfl) ?_
    refine WL.nil ?_
    refine Lf.thenC ?_
    refine WC.condD rfl (fun hc => ?_) (fun hc => ?_)
    · replace h := h.1 hc
      refine WC.skip ?_
      refine Lf.thenC ?_
      refine WC.seq ?_
      refine WC.block ?_
      refine WC.seq ?_
      refine WC.draw [(0, false), (1, false), (2, false), (3, false), (4, false), (5, false), (6, false), (7, false), (8, true), (9, false)] mixed (by kernel_rfl) ?_
      refine DL.pure rfl (W0 rfl) rfl (Pu.move rfl rfl) ?_
      refine DL.pure rfl (W0 rfl) rfl (Pu.move rfl rfl) ?_
      obtain ⟨hi0, hi1, b_1, q, hs, h⟩ := h
      refine DL.pure rfl (W0 rfl) rfl (Pu.indexAddr rfl Tryz.underlying22 sz_32 rfl rfl hs hi0 hi1) ?_
      obtain ⟨v, hl, h⟩ := h
      refine DL.read _ rfl (W0 rfl) rfl (Rd.load ok_32 rfl rfl) hl ?_
      refine DL.pure rfl (W0 rfl) rfl (Pu.move rfl rfl) ?_
      refine DL.pure rfl (W0 rfl) rfl (Pu.move rfl rfl) ?_
      obtain ⟨hi0, hi1, b_2, q_1, hs, h⟩ := h
      refine DL.pure rfl (W0 rfl) rfl (Pu.indexAddr rfl Tryz.underlying22 sz_32 rfl rfl hs hi0 hi1) ?_
      obtain ⟨v_1, hl, h⟩ := h
      refine DL.read _ rfl (W0 rfl) rfl (Rd.load ok_32 rfl rfl) hl ?_
      refine DL.call rfl (W0 rfl) rfl (fun xa hxa => run_call (fs := []) (cs := []) (vs := [Sl.v v, Sl.v v_1]) rfl rfl rfl Tryz.func40 rfl rfl xa hxa _) h ?_
      rintro _ vw_1 ⟨r, rfl, h⟩
      refine ⟨(by exact ⟨.inl (by kernel_rfl), ⟨.inl (by kernel_rfl), trivial⟩⟩), ?_⟩
      refine DL.pure rfl (W0 rfl) rfl (Pu.not rfl rfl) ?_
      refine DL.nil ?_
      refine Lf.thenC ?_
      refine WC.cond rfl (fun hc => ?_) (fun hc => ?_)
      · replace h := h.1 hc
        refine WC.seq ?_
        refine WC.region ?_
        refine WL.pure (W0 rfl) rfl (Pu.assign rfl rfl) ?_
        refine WL.nil ?_
        refine Lf.thenC ?_
        refine WC.ret ?_
        exact Lf.ret1 rfl rfl ⟨_, rfl, h⟩
      · replace h := h.2 hc
        refine WC.skip ?_
        refine Lf.thenC ?_
        refine WC.region ?_
        refine WL.pure (W0 rfl) rfl (Pu.move rfl rfl) ?_
        refine WL.pure (W0 rfl) rfl (Pu.add rfl rfl rfl) ?_
        refine WL.pure (W0 rfl) rfl (Pu.assign rfl rfl) ?_
        refine WL.nil ?_
        exact Lf.joinA (IntKind.i64.wrap (vi + (1 : Int))) (by exact ⟨rfl, rfl, rfl, trivial⟩) h
    · replace h := h.2 hc
      refine WC.exit rfl ?_
      refine Lf.thenC ?_
      refine WC.seq ?_
      refine WC.region ?_
      refine WL.pure (W0 rfl) rfl (Pu.assign rfl rfl) ?_
      refine WL.nil ?_
      refine Lf.thenC ?_
      refine WC.ret ?_
      exact Lf.ret1 rfl rfl ⟨_, rfl, h⟩
/-- berthmaster/berthmasterkit.SameTexts -/
def F_berthmasterkit_SameTexts (a : Sl) (b : Sl) (w : World) (Q : Bool → World → Prop) : Prop :=
  (((a.len : Int) ≠ (b.len : Int)) → Q false w) ∧
  ((¬ ((a.len : Int) ≠ (b.len : Int))) → LoopP (α := Int) (fun vi vw vJ => ((vi < (a.len : Int)) → ixs a vi (fun b_1 q => ld tS (dr vw) b_1 (q + (vi).toNat * 1) (fun v => ixs b vi (fun b_2 q_1 => ld tS (dr vw) b_2 (q_1 + (vi).toNat * 1) (fun v_1 => ((v ≠ v_1) → Q false (dr vw)) ∧
  ((¬ (v ≠ v_1)) → vJ (IntKind.i64.wrap (vi + (1 : Int))) (dr vw))))))) ∧
  ((¬ (vi < (a.len : Int))) → Q true vw)) (0 : Int) w)
theorem vc_berthmasterkit_SameTexts (a : Sl) (b : Sl) (w : World) (Q : Bool → World → Prop) (h : F_berthmasterkit_SameTexts a b w Q) : CallP Tryz.prog n_berthmasterkit_SameTexts [Sl.v a, Sl.v b] w (ret1 tB Q) := by
  unfold F_berthmasterkit_SameTexts at h
  refine CallP.of_body 26 Tryz.func21 rfl Tryz.ntmps21 rfl ?_
  refine WC.seq ?_
  refine WC.region ?_
  refine WL.pure (W0 rfl) rfl (Pu.assign rfl rfl) ?_
  refine WL.nil ?_
  refine Lf.thenC ?_
  refine WC.seq ?_
  refine WC.seq ?_
  refine WC.region ?_
  refine WL.pure (W0 rfl) rfl (Pu.move rfl rfl) ?_
  refine WL.pure (W0 rfl) rfl (Pu.len rfl Tryz.underlying36 rfl) ?_
  refine WL.pure (W0 rfl) rfl (Pu.move rfl rfl) ?_
  refine WL.pure (W0 rfl) rfl (Pu.len rfl Tryz.underlying36 rfl) ?_
  refine WL.pure (W0 rfl) rfl (Pu.neq rfl rfl rfl) ?_
  refine WL.nil ?_
  refine Lf.thenC ?_
  refine WC.condD rfl (fun hc => ?_) (fun hc => ?_)
  · replace h := h.1 hc
    refine WC.seq ?_
    refine WC.region ?_
    refine WL.pure (W0 rfl) rfl (Pu.assign rfl rfl) ?_
    refine WL.nil ?_
    refine Lf.thenC ?_
    refine WC.ret ?_
    exact Lf.ret1 rfl rfl ⟨_, rfl, h⟩
  · replace h := h.2 hc
    refine WC.skip ?_
    refine Lf.thenC ?_
    refine WC.seq ?_
    refine WC.seq ?_
    refine WC.region ?_
    refine WL.pure (W0 rfl) rfl (Pu.assign rfl rfl) ?_
    refine WL.nil ?_
    refine Lf.thenC ?_
    refine WC.block ?_
    refine WC.loop (α := Int) (fun vi => [(5, .int .i64 vi), (0, Sl.v a), (1, Sl.v b)]) (0 : Int) (by exact ⟨rfl, rfl, rfl, trivial⟩) h (fun vJ vi vw h => ?_)
    refine WC.seq ?_
    refine WC.seq ?_
    refine WC.region ?_
    refine WL.pure (W0 rfl) rfl (Pu.move rfl rfl) ?_
    refine WL.pure (W0 rfl) rfl (Pu.move rfl rfl) ?_
    refine WL.pure (W0 rfl) rfl (Pu.len rfl Tryz.underlying36 rfl) ?_
    refine WL.pure (W0 rfl) rfl (Pu.lss rfl rfl rfl) ?_
    refine WL.nil ?_
    refine Lf.thenC ?_
    refine WC.condD rfl (fun hc => ?_) (fun hc => ?_)
    · replace h := h.1 hc
      refine WC.skip ?_
      refine Lf.thenC ?_
      refine WC.seq ?_
      refine WC.block ?_
      refine WC.seq ?_
      refine WC.draw [(0, false), (1, false), (2, false), (3, false), (4, false), (5, false), (6, false), (7, false), (8, false)] mixed (by kernel_rfl) ?_
      refine DL.pure rfl (W0 rfl) rfl (Pu.move rfl rfl) ?_
      refine DL.pure rfl (W0 rfl) rfl (Pu.move rfl rfl) ?_
      obtain ⟨hi0, hi1, b_1, q, hs, h⟩ := h
      refine DL.pure rfl (W0 rfl) rfl (Pu.indexAddr rfl Tryz.underlying36 sz_9 rfl rfl hs hi0 hi1) ?_
      obtain ⟨v, hl, h⟩ := h
      refine DL.read _ rfl (W0 rfl) rfl (Rd.load ok_9 rfl rfl) hl ?_
      refine DL.pure rfl (W0 rfl) rfl (Pu.move rfl rfl) ?_
      refine DL.pure rfl (W0 rfl) rfl (Pu.move rfl rfl) ?_
      obtain ⟨hi0, hi1, b_2, q_1, hs, h⟩ := h
      refine DL.pure rfl (W0 rfl) rfl (Pu.indexAddr rfl Tryz.underlying36 sz_9 rfl rfl hs hi0 hi1) ?_
      obtain ⟨v_1, hl, h⟩ := h
      refine DL.read _ rfl (W0 rfl) rfl (Rd.load ok_9 rfl rfl) hl ?_
      refine DL.pure rfl (W0 rfl) rfl (Pu.sneq rfl rfl rfl) ?_
      refine DL.nil ?_
      refine Lf.thenC ?_
      refine WC.condD rfl (fun hc => ?_) (fun hc => ?_)
      · replace h := h.1 hc
        refine WC.seq ?_
        refine WC.region ?_
        refine WL.pure (W0 rfl) rfl (Pu.assign rfl rfl) ?_
        refine WL.nil ?_
        refine Lf.thenC ?_
        refine WC.ret ?_
        exact Lf.ret1 rfl rfl ⟨_, rfl, h⟩
      · replace h := h.2 hc
        refine WC.skip ?_
        refine Lf.thenC ?_
        refine WC.region ?_
        refine WL.pure (W0 rfl) rfl (Pu.move rfl rfl) ?_
        refine WL.pure (W0 rfl) rfl (Pu.add rfl rfl rfl) ?_
        refine WL.pure (W0 rfl) rfl (Pu.assign rfl rfl) ?_
        refine WL.nil ?_
        exact Lf.joinA (IntKind.i64.wrap (vi + (1 : Int))) (by exact ⟨rfl, rfl, rfl, trivial⟩) h
    · replace h := h.2 hc
      refine WC.exit rfl ?_
      refine Lf.thenC ?_
      refine WC.seq ?_
      refine WC.region ?_
      refine WL.pure (W0 rfl) rfl (Pu.assign rfl rfl) ?_
      refine WL.nil ?_
      refine Lf.thenC ?_
      refine WC.ret ?_
      exact Lf.ret1 rfl rfl ⟨_, rfl, h⟩
/-- berthmaster/berthmasterlaw05.fine -/
def F_berthmasterlaw05_fine (vl : Sl) (w : World) (Q : Bool → World → Prop) : Prop :=
  LoopP (α := Int) (fun vi vw vJ => ((vi < (vl.len : Int)) → ixs vl vi (fun b q => ld (tI .i64) vw b (q + (vi).toNat * 1) (fun v => ((v < (0 : Int)) → Q false vw) ∧
  ((¬ (v < (0 : Int))) → vJ (IntKind.i64.wrap (vi + (1 : Int))) vw)))) ∧
  ((¬ (vi < (vl.len : Int))) → Q true vw)) (0 : Int) w
theorem vc_berthmasterlaw05_fine (vl : Sl) (w : World) (Q : Bool → World → Prop) (h : F_berthmasterlaw05_fine vl w Q) : CallP Tryz.prog n_berthmasterlaw05_fine [Sl.v vl] w (ret1 tB Q) := by
  unfold F_berthmasterlaw05_fine at h
  refine CallP.of_body 15 Tryz.func18 rfl Tryz.ntmps18 rfl ?_
  refine WC.seq ?_
  refine WC.region ?_
  refine WL.pure (W0 rfl) rfl (Pu.assign rfl rfl) ?_
  refine WL.nil ?_
  refine Lf.thenC ?_
  refine WC.seq ?_
  refine WC.seq ?_
  refine WC.region ?_
  refine WL.pure (W0 rfl) rfl (Pu.assign rfl rfl) ?_
  refine WL.nil ?_
  refine Lf.thenC ?_
  refine WC.block ?_
  refine WC.loop (α := Int) (fun vi => [(3, .int .i64 vi), (0, Sl.v vl)]) (0 : Int) (by exact ⟨rfl, rfl, trivial⟩) h (fun vJ vi vw h => ?_)
  refine WC.seq ?_
  refine WC.seq ?_
  refine WC.region ?_
  refine WL.pure (W0 rfl) rfl (Pu.move rfl rfl) ?_
  refine WL.pure (W0 rfl) rfl (Pu.move rfl rfl) ?_
  refine WL.pure (W0 rfl) rfl (Pu.len rfl Tryz.underlying48 rfl) ?_
  refine WL.pure (W0 rfl) rfl (Pu.lss rfl rfl rfl) ?_
  refine WL.nil ?_
  refine Lf.thenC ?_
  refine WC.condD rfl (fun hc => ?_) (fun hc => ?_)
  · replace h := h.1 hc
    refine WC.skip ?_
    refine Lf.thenC ?_
    refine WC.seq ?_
    refine WC.block ?_
    refine WC.seq ?_
    refine WC.region ?_
    refine WL.pure (W0 rfl) rfl (Pu.move rfl rfl) ?_
    refine WL.pure (W0 rfl) rfl (Pu.move rfl rfl) ?_
    obtain ⟨hi0, hi1, b, q, hs, h⟩ := h
    refine WL.pure (W0 rfl) rfl (Pu.indexAddr rfl Tryz.underlying48 sz_3 rfl rfl hs hi0 hi1) ?_
    obtain ⟨v, hl, h⟩ := h
    refine WL.val (W0 rfl) rfl (fun xa hxa => Rd.load ok_3 rfl rfl xa hxa _ hl) ?_
    refine WL.pure (W0 rfl) rfl (Pu.lss rfl rfl rfl) ?_
    refine WL.nil ?_
    refine Lf.thenC ?_
    refine WC.condD rfl (fun hc => ?_) (fun hc => ?_)
    · replace h := h.1 hc
      refine WC.seq ?_
      refine WC.region ?_
      refine WL.pure (W0 rfl) rfl (Pu.assign rfl rfl) ?_
      refine WL.nil ?_
      refine Lf.thenC ?_
      refine WC.ret ?_
      exact Lf.ret1 rfl rfl ⟨_, rfl, h⟩
    · replace h := h.2 hc
      refine WC.skip ?_
      refine Lf.thenC ?_
      refine WC.region ?_
      refine WL.pure (W0 rfl) rfl (Pu.move rfl rfl) ?_
      refine WL.pure (W0 rfl) rfl (Pu.add rfl rfl rfl) ?_
      refine WL.pure (W0 rfl) rfl (Pu.assign rfl rfl) ?_
      refine WL.nil ?_
      exact Lf.joinA (IntKind.i64.wrap (vi + (1 : Int))) (by exact ⟨rfl, rfl, trivial⟩) h
  · replace h := h.2 hc
    refine WC.exit rfl ?_
    refine Lf.thenC ?_
    refine WC.seq ?_
    refine WC.region ?_
    refine WL.pure (W0 rfl) rfl (Pu.assign rfl rfl) ?_
    refine WL.nil ?_
    refine Lf.thenC ?_
    refine WC.ret ?_
    exact Lf.ret1 rfl rfl ⟨_, rfl, h⟩
/-- berthmaster/berthmasterlaw05.lives -/
def F_berthmasterlaw05_lives  (w : World) (Q : Bool → World → Prop) : Prop :=
  CallP Tryz.prog n_disk_New [.int .i64 (10000)] w (ret2 tP (tI .i64) (fun r r_1 vw => CallP Tryz.prog n_journal_Open [.pointer r, .string (⟨#[108, 111, 103]⟩ : ByteArray)] vw (ret2 tP (tI .i64) (fun r_2 r_3 vw_1 => JoinP (α := Bool) (fun vj vw_2 => ((vj = true) → Q false vw_2) ∧
  ((vj = false) → al vw_2 [.int .u8 (97 : Int)] T_uint8 (fun b vw_3 => RunV Tryz.prog (convert T_sl_uint8 T_sl_uint8 (Sl.v (⟨some ⟨b, 0, none⟩, 1, 1⟩ : Sl))) vw_3 (ret1 tSl (fun v vw_4 => CallP Tryz.prog n_journal_Journal_Append [.pointer r_2, Sl.v v] vw_4 (ret2 (tI .u64) (tI .i64) (fun r_4 r_5 vw_5 => al vw_5 [.int .u8 (98 : Int)] T_uint8 (fun b_1 vw_6 => RunV Tryz.prog (convert T_sl_uint8 T_sl_uint8 (Sl.v (⟨some ⟨b_1, 0, none⟩, 1, 1⟩ : Sl))) vw_6 (ret1 tSl (fun v_1 vw_7 => CallP Tryz.prog n_journal_Journal_Append [.pointer r_2, Sl.v v_1] vw_7 (ret2 (tI .u64) (tI .i64) (fun r_6 r_7 vw_8 => JoinP (α := Bool) (fun vj_1 vw_9 => Q vj_1 vw_9)
  (fun vk_1 => ((r_4 = (1 : Int)) → ((r_5 = (0 : Int)) → ((r_6 = (2 : Int)) → ((r_7 = (0 : Int)) → CallP Tryz.prog n_journal_Journal_Next [.pointer r_2] vw_8 (ret1 (tI .u64) (fun r_8 vw_10 => ((r_8 = (3 : Int)) → CallP Tryz.prog n_disk_Disk_Names [.pointer r] vw_10 (ret1 tSl (fun r_9 vw_11 => al vw_11 [.string (⟨#[108, 111, 103, 45, 48, 48, 48, 48, 48, 48, 48, 48, 48, 48, 48, 49]⟩ : ByteArray)] T_string (fun b_2 vw_12 => CallP Tryz.prog n_berthmasterkit_SameTexts [Sl.v r_9, Sl.v (⟨some ⟨b_2, 0, none⟩, 1, 1⟩ : Sl)] vw_12 (ret1 tB (fun r_10 vw_13 => vk_1 r_10 vw_13)))))) ∧
  ((¬ (r_8 = (3 : Int))) → vk_1 false vw_10)))) ∧
  ((¬ (r_7 = (0 : Int))) → vk_1 false vw_8)) ∧
  ((¬ (r_6 = (2 : Int))) → vk_1 false vw_8)) ∧
  ((¬ (r_5 = (0 : Int))) → vk_1 false vw_8)) ∧
  ((¬ (r_4 = (1 : Int))) → vk_1 false vw_8))))))))))))))
  (fun vk => ((r_3 ≠ (0 : Int)) → vk true vw_1) ∧
  ((¬ (r_3 ≠ (0 : Int))) → vk r_2.isNone vw_1))))))
theorem vc_berthmasterlaw05_lives  (w : World) (Q : Bool → World → Prop) (h : F_berthmasterlaw05_lives  w Q) : CallP Tryz.prog n_berthmasterlaw05_lives [] w (ret1 tB Q) := by
  unfold F_berthmasterlaw05_lives at h
  refine CallP.of_body 63 Tryz.func5 rfl Tryz.ntmps5 rfl ?_
  refine WC.seq ?_
  refine WC.region ?_
  refine WL.pure (W0 rfl) rfl (Pu.assign rfl rfl) ?_
  refine WL.nil ?_
  refine Lf.thenC ?_
  refine WC.seq ?_
  refine WC.region ?_
  refine WL.call (W0 rfl) rfl (fun xa hxa => run_call (fs := []) (cs := []) (vs := [.int .i64 (10000)]) rfl rfl rfl Tryz.func6 rfl rfl xa hxa _) h ?_
  rintro _ vw ⟨r, r_1, rfl, h⟩
  refine WL.pure (W0 rfl) rfl (Pu.move rfl rfl) ?_
  refine WL.pure (W0 rfl) rfl (Pu.extract (vs := [.pointer r, .int .i64 r_1]) rfl rfl rfl) ?_
  refine WL.pure (W0 rfl) rfl (Pu.extract (vs := [.pointer r, .int .i64 r_1]) rfl rfl rfl) ?_
  refine WL.pure (W0 rfl) rfl (Pu.assign rfl rfl) ?_
  refine WL.pure (W0 rfl) rfl (Pu.assign rfl rfl) ?_
  refine WL.nil ?_
  refine Lf.thenC ?_
  refine WC.seq ?_
  refine WC.region ?_
  refine WL.pure (W0 rfl) rfl (Pu.move rfl rfl) ?_
  refine WL.call (W0 rfl) rfl (fun xa hxa => run_call (fs := []) (cs := []) (vs := [.pointer r, .string (⟨#[108, 111, 103]⟩ : ByteArray)]) rfl rfl rfl Tryz.func7 rfl rfl xa hxa _) h ?_
  rintro _ vw_1 ⟨r_2, r_3, rfl, h⟩
  refine WL.pure (W0 rfl) rfl (Pu.move rfl rfl) ?_
  refine WL.pure (W0 rfl) rfl (Pu.extract (vs := [.pointer r_2, .int .i64 r_3]) rfl rfl rfl) ?_
  refine WL.pure (W0 rfl) rfl (Pu.extract (vs := [.pointer r_2, .int .i64 r_3]) rfl rfl rfl) ?_
  refine WL.pure (W0 rfl) rfl (Pu.assign rfl rfl) ?_
  refine WL.pure (W0 rfl) rfl (Pu.assign rfl rfl) ?_
  refine WL.nil ?_
  refine Lf.thenC ?_
  refine WC.seq ?_
  obtain ⟨vk, h2, h⟩ := h
  refine WC.cut (α := Bool) (k := vk) (fun vj => [(23, .bool vj), (1, .pointer r), (3, .pointer r_2)]) (fun vj vw_2 h => ?_) ?_
  · replace h := h2 _ _ h
    clear h2
    refine WC.cond rfl (fun hc => ?_) (fun hc => ?_)
    · replace h := h.1 hc
      refine WC.seq ?_
      refine WC.region ?_
      refine WL.pure (W0 rfl) rfl (Pu.assign rfl rfl) ?_
      refine WL.nil ?_
      refine Lf.thenC ?_
      refine WC.ret ?_
      exact Lf.ret1 rfl rfl ⟨_, rfl, h⟩
    · replace h := h.2 hc
      refine WC.skip ?_
      refine Lf.thenC ?_
      refine WC.seq ?_
      refine WC.region ?_
      refine WL.pure (W0 rfl) rfl (Pu.move rfl rfl) ?_
      refine WL.q (W0 rfl) rfl (Rq.buildSlice (E := 5) (vs := [(0, .int .u8 (97))]) (cs := [.int .u8 (97 : Int)]) rfl rfl (fun _ => by kernel_rfl) h) ?_
      rintro _ vw_3 ⟨b, rfl, h⟩
      obtain ⟨_, vw_4, hr, v, rfl, h⟩ := h
      refine WL.val (W0 rfl) rfl (Rn.conv rfl rfl hr) ?_
      refine WL.call (W0 rfl) rfl (fun xa hxa => run_call (fs := []) (cs := []) (vs := [.pointer r_2, Sl.v v]) rfl rfl rfl Tryz.func8 rfl rfl xa hxa _) h ?_
      rintro _ vw_5 ⟨r_4, r_5, rfl, h⟩
      refine WL.pure (W0 rfl) rfl (Pu.move rfl rfl) ?_
      refine WL.pure (W0 rfl) rfl (Pu.extract (vs := [.int .u64 r_4, .int .i64 r_5]) rfl rfl rfl) ?_
      refine WL.pure (W0 rfl) rfl (Pu.extract (vs := [.int .u64 r_4, .int .i64 r_5]) rfl rfl rfl) ?_
      refine WL.pure (W0 rfl) rfl (Pu.assign rfl rfl) ?_
      refine WL.pure (W0 rfl) rfl (Pu.assign rfl rfl) ?_
      refine WL.nil ?_
      refine Lf.thenC ?_
      refine WC.seq ?_
      refine WC.region ?_
      refine WL.pure (W0 rfl) rfl (Pu.move rfl rfl) ?_
      refine WL.q (W0 rfl) rfl (Rq.buildSlice (E := 5) (vs := [(0, .int .u8 (98))]) (cs := [.int .u8 (98 : Int)]) rfl rfl (fun _ => by kernel_rfl) h) ?_
      rintro _ vw_6 ⟨b_1, rfl, h⟩
      obtain ⟨_, vw_7, hr, v_1, rfl, h⟩ := h
      refine WL.val (W0 rfl) rfl (Rn.conv rfl rfl hr) ?_
      refine WL.call (W0 rfl) rfl (fun xa hxa => run_call (fs := []) (cs := []) (vs := [.pointer r_2, Sl.v v_1]) rfl rfl rfl Tryz.func8 rfl rfl xa hxa _) h ?_
      rintro _ vw_8 ⟨r_6, r_7, rfl, h⟩
      refine WL.pure (W0 rfl) rfl (Pu.move rfl rfl) ?_
      refine WL.pure (W0 rfl) rfl (Pu.extract (vs := [.int .u64 r_6, .int .i64 r_7]) rfl rfl rfl) ?_
      refine WL.pure (W0 rfl) rfl (Pu.extract (vs := [.int .u64 r_6, .int .i64 r_7]) rfl rfl rfl) ?_
      refine WL.pure (W0 rfl) rfl (Pu.assign rfl rfl) ?_
      refine WL.pure (W0 rfl) rfl (Pu.assign rfl rfl) ?_
      refine WL.nil ?_
      refine Lf.thenC ?_
      obtain ⟨vk_1, h2, h⟩ := h
      refine WC.cut (α := Bool) (k := vk_1) (fun vj_1 => [(0, .bool vj_1)]) (fun vj_1 vw_9 h => ?_) ?_
      · replace h := h2 _ _ h
        clear h2
        refine WC.ret ?_
        exact Lf.ret1 rfl rfl ⟨_, rfl, h⟩
      · clear h2
        refine WC.region ?_
        refine WL.pure (W0 rfl) rfl (Pu.move rfl rfl) ?_
        refine WL.pure (W0 rfl) rfl (Pu.eql rfl rfl rfl) ?_
        refine WL.pure (W0 rfl) rfl (Pu.move rfl rfl) ?_
        refine WL.boolD (t := 40) rfl (fun hc => ?_) (fun hc => ?_)
        · replace h := h.1 hc
          refine WL.pure (W1 (t := 40) rfl rfl rfl rfl) rfl (Pu.move rfl rfl) ?_
          refine WL.pure (W1 (t := 40) rfl rfl rfl rfl) rfl (Pu.eql rfl rfl rfl) ?_
          refine WL.pure (W0 rfl) rfl (Pu.pickT rfl rfl rfl) ?_
          refine WL.pure (W0 rfl) rfl (Pu.move rfl rfl) ?_
          refine WL.boolD (t := 44) rfl (fun hc => ?_) (fun hc => ?_)
          · replace h := h.1 hc
            refine WL.pure (W1 (t := 44) rfl rfl rfl rfl) rfl (Pu.move rfl rfl) ?_
            refine WL.pure (W1 (t := 44) rfl rfl rfl rfl) rfl (Pu.eql rfl rfl rfl) ?_
            refine WL.pure (W0 rfl) rfl (Pu.pickT rfl rfl rfl) ?_
            refine WL.pure (W0 rfl) rfl (Pu.move rfl rfl) ?_
            refine WL.boolD (t := 48) rfl (fun hc => ?_) (fun hc => ?_)
            · replace h := h.1 hc
              refine WL.pure (W1 (t := 48) rfl rfl rfl rfl) rfl (Pu.move rfl rfl) ?_
              refine WL.pure (W1 (t := 48) rfl rfl rfl rfl) rfl (Pu.eql rfl rfl rfl) ?_
              refine WL.pure (W0 rfl) rfl (Pu.pickT rfl rfl rfl) ?_
              refine WL.pure (W0 rfl) rfl (Pu.move rfl rfl) ?_
              refine WL.boolD (t := 52) rfl (fun hc => ?_) (fun hc => ?_)
              · replace h := h.1 hc
                refine WL.pure (W1 (t := 52) rfl rfl rfl rfl) rfl (Pu.move rfl rfl) ?_
                refine WL.call (W1 (t := 52) rfl rfl rfl rfl) rfl (fun xa hxa => run_call (fs := []) (cs := []) (vs := [.pointer r_2]) rfl rfl rfl Tryz.func20 rfl rfl xa hxa _) h ?_
                rintro _ vw_10 ⟨r_8, rfl, h⟩
                refine WL.pure (W1 (t := 52) rfl rfl rfl rfl) rfl (Pu.eql rfl rfl rfl) ?_
                refine WL.pure (W0 rfl) rfl (Pu.pickT rfl rfl rfl) ?_
                refine WL.pure (W0 rfl) rfl (Pu.move rfl rfl) ?_
                refine WL.boolD (t := 57) rfl (fun hc => ?_) (fun hc => ?_)
                · replace h := h.1 hc
                  refine WL.pure (W1 (t := 57) rfl rfl rfl rfl) rfl (Pu.move rfl rfl) ?_
                  refine WL.call (W1 (t := 57) rfl rfl rfl rfl) rfl (fun xa hxa => run_call (fs := []) (cs := []) (vs := [.pointer r]) rfl rfl rfl Tryz.func9 rfl rfl xa hxa _) h ?_
                  rintro _ vw_11 ⟨r_9, rfl, h⟩
                  refine WL.q (W1 (t := 57) rfl rfl rfl rfl) rfl (Rq.buildSlice (E := 9) (vs := [(0, .string (⟨#[108, 111, 103, 45, 48, 48, 48, 48, 48, 48, 48, 48, 48, 48, 48, 49]⟩ : ByteArray))]) (cs := [.string (⟨#[108, 111, 103, 45, 48, 48, 48, 48, 48, 48, 48, 48, 48, 48, 48, 49]⟩ : ByteArray)]) rfl rfl (fun _ => by kernel_rfl) h) ?_
                  rintro _ vw_12 ⟨b_2, rfl, h⟩
                  refine WL.call (W1 (t := 57) rfl rfl rfl rfl) rfl (fun xa hxa => run_call (fs := []) (cs := []) (vs := [Sl.v r_9, Sl.v (⟨some ⟨b_2, 0, none⟩, 1, 1⟩ : Sl)]) rfl rfl rfl Tryz.func21 rfl rfl xa hxa _) h ?_
                  rintro _ vw_13 ⟨r_10, rfl, h⟩
                  refine WL.pure (W0 rfl) rfl (Pu.pickT rfl rfl rfl) ?_
                  refine WL.pure (W0 rfl) rfl (Pu.assign rfl rfl) ?_
                  refine WL.nil ?_
                  exact Lf.joinA r_10 (by exact ⟨rfl, trivial⟩) h
                · replace h := h.2 hc
                  refine WL.unwanted (t := 57) rfl rfl rfl rfl rfl rfl ?_
                  refine WL.unwanted (t := 57) rfl rfl rfl rfl rfl rfl ?_
                  refine WL.unwanted (t := 57) rfl rfl rfl rfl rfl rfl ?_
                  refine WL.unwanted (t := 57) rfl rfl rfl rfl rfl rfl ?_
                  refine WL.pure (W0 rfl) rfl (Pu.pickF rfl rfl rfl) ?_
                  refine WL.pure (W0 rfl) rfl (Pu.assign rfl rfl) ?_
                  refine WL.nil ?_
                  exact Lf.joinA false (by exact ⟨rfl, trivial⟩) h
              · replace h := h.2 hc
                refine WL.unwanted (t := 52) rfl rfl rfl rfl rfl rfl ?_
                refine WL.unwanted (t := 52) rfl rfl rfl rfl rfl rfl ?_
                refine WL.unwanted (t := 52) rfl rfl rfl rfl rfl rfl ?_
                refine WL.pure (W0 rfl) rfl (Pu.pickF rfl rfl rfl) ?_
                refine WL.pure (W0 rfl) rfl (Pu.move rfl rfl) ?_
                refine WL.unwanted (t := 57) rfl rfl rfl rfl rfl rfl ?_
                refine WL.unwanted (t := 57) rfl rfl rfl rfl rfl rfl ?_
                refine WL.unwanted (t := 57) rfl rfl rfl rfl rfl rfl ?_
                refine WL.unwanted (t := 57) rfl rfl rfl rfl rfl rfl ?_
                refine WL.pure (W0 rfl) rfl (Pu.pickF rfl rfl rfl) ?_
                refine WL.pure (W0 rfl) rfl (Pu.assign rfl rfl) ?_
                refine WL.nil ?_
                exact Lf.joinA false (by exact ⟨rfl, trivial⟩) h
            · replace h := h.2 hc
              refine WL.unwanted (t := 48) rfl rfl rfl rfl rfl rfl ?_
              refine WL.unwanted (t := 48) rfl rfl rfl rfl rfl rfl ?_
              refine WL.pure (W0 rfl) rfl (Pu.pickF rfl rfl rfl) ?_
              refine WL.pure (W0 rfl) rfl (Pu.move rfl rfl) ?_
              refine WL.unwanted (t := 52) rfl rfl rfl rfl rfl rfl ?_
              refine WL.unwanted (t := 52) rfl rfl rfl rfl rfl rfl ?_
              refine WL.unwanted (t := 52) rfl rfl rfl rfl rfl rfl ?_
              refine WL.pure (W0 rfl) rfl (Pu.pickF rfl rfl rfl) ?_
              refine WL.pure (W0 rfl) rfl (Pu.move rfl rfl) ?_
              refine WL.unwanted (t := 57) rfl rfl rfl rfl rfl rfl ?_
              refine WL.unwanted (t := 57) rfl rfl rfl rfl rfl rfl ?_
              refine WL.unwanted (t := 57) rfl rfl rfl rfl rfl rfl ?_
              refine WL.unwanted (t := 57) rfl rfl rfl rfl rfl rfl ?_
              refine WL.pure (W0 rfl) rfl (Pu.pickF rfl rfl rfl) ?_
              refine WL.pure (W0 rfl) rfl (Pu.assign rfl rfl) ?_
              refine WL.nil ?_
              exact Lf.joinA false (by exact ⟨rfl, trivial⟩) h
          · replace h := h.2 hc
            refine WL.unwanted (t := 44) rfl rfl rfl rfl rfl rfl ?_
            refine WL.unwanted (t := 44) rfl rfl rfl rfl rfl rfl ?_
            refine WL.pure (W0 rfl) rfl (Pu.pickF rfl rfl rfl) ?_
            refine WL.pure (W0 rfl) rfl (Pu.move rfl rfl) ?_
            refine WL.unwanted (t := 48) rfl rfl rfl rfl rfl rfl ?_
            refine WL.unwanted (t := 48) rfl rfl rfl rfl rfl rfl ?_
            refine WL.pure (W0 rfl) rfl (Pu.pickF rfl rfl rfl) ?_
            refine WL.pure (W0 rfl) rfl (Pu.move rfl rfl) ?_
            refine WL.unwanted (t := 52) rfl rfl rfl rfl rfl rfl ?_
            refine WL.unwanted (t := 52) rfl rfl rfl rfl rfl rfl ?_
            refine WL.unwanted (t := 52) rfl rfl rfl rfl rfl rfl ?_
            refine WL.pure (W0 rfl) rfl (Pu.pickF rfl rfl rfl) ?_
            refine WL.pure (W0 rfl) rfl (Pu.move rfl rfl) ?_
            refine WL.unwanted (t := 57) rfl rfl rfl rfl rfl rfl ?_
            refine WL.unwanted (t := 57) rfl rfl rfl rfl rfl rfl ?_
            refine WL.unwanted (t := 57) rfl rfl rfl rfl rfl rfl ?_
            refine WL.unwanted (t := 57) rfl rfl rfl rfl rfl rfl ?_
            refine WL.pure (W0 rfl) rfl (Pu.pickF rfl rfl rfl) ?_
            refine WL.pure (W0 rfl) rfl (Pu.assign rfl rfl) ?_
            refine WL.nil ?_
            exact Lf.joinA false (by exact ⟨rfl, trivial⟩) h
        · replace h := h.2 hc
          refine WL.unwanted (t := 40) rfl rfl rfl rfl rfl rfl ?_
          refine WL.unwanted (t := 40) rfl rfl rfl rfl rfl rfl ?_
          refine WL.pure (W0 rfl) rfl (Pu.pickF rfl rfl rfl) ?_
          refine WL.pure (W0 rfl) rfl (Pu.move rfl rfl) ?_
          refine WL.unwanted (t := 44) rfl rfl rfl rfl rfl rfl ?_
          refine WL.unwanted (t := 44) rfl rfl rfl rfl rfl rfl ?_
          refine WL.pure (W0 rfl) rfl (Pu.pickF rfl rfl rfl) ?_
          refine WL.pure (W0 rfl) rfl (Pu.move rfl rfl) ?_
          refine WL.unwanted (t := 48) rfl rfl rfl rfl rfl rfl ?_
          refine WL.unwanted (t := 48) rfl rfl rfl rfl rfl rfl ?_
          refine WL.pure (W0 rfl) rfl (Pu.pickF rfl rfl rfl) ?_
          refine WL.pure (W0 rfl) rfl (Pu.move rfl rfl) ?_
          refine WL.unwanted (t := 52) rfl rfl rfl rfl rfl rfl ?_
          refine WL.unwanted (t := 52) rfl rfl rfl rfl rfl rfl ?_
          refine WL.unwanted (t := 52) rfl rfl rfl rfl rfl rfl ?_
          refine WL.pure (W0 rfl) rfl (Pu.pickF rfl rfl rfl) ?_
          refine WL.pure (W0 rfl) rfl (Pu.move rfl rfl) ?_
          refine WL.unwanted (t := 57) rfl rfl rfl rfl rfl rfl ?_
          refine WL.unwanted (t := 57) rfl rfl rfl rfl rfl rfl ?_
          refine WL.unwanted (t := 57) rfl rfl rfl rfl rfl rfl ?_
          refine WL.unwanted (t := 57) rfl rfl rfl rfl rfl rfl ?_
          refine WL.pure (W0 rfl) rfl (Pu.pickF rfl rfl rfl) ?_
          refine WL.pure (W0 rfl) rfl (Pu.assign rfl rfl) ?_
          refine WL.nil ?_
          exact Lf.joinA false (by exact ⟨rfl, trivial⟩) h
  · clear h2
    refine WC.region ?_
    refine WL.pure (W0 rfl) rfl (Pu.move rfl rfl) ?_
    refine WL.pure (W0 rfl) rfl (Pu.neq rfl rfl rfl) ?_
    refine WL.pure (W0 rfl) rfl (Pu.move rfl rfl) ?_
    refine WL.boolD (t := 20) rfl (fun hc => ?_) (fun hc => ?_)
    · replace h := h.1 hc
      refine WL.unwanted (t := 20) rfl rfl rfl rfl rfl rfl ?_
      refine WL.unwanted (t := 20) rfl rfl rfl rfl rfl rfl ?_
      refine WL.pure (W0 rfl) rfl (Pu.pickT rfl rfl rfl) ?_
      refine WL.nil ?_
      exact Lf.joinA true (by exact ⟨rfl, rfl, rfl, trivial⟩) h
    · replace h := h.2 hc
      refine WL.pure (W1 (t := 20) rfl rfl rfl rfl) rfl (Pu.move rfl rfl) ?_
      refine WL.pure (W1 (t := 20) rfl rfl rfl rfl) rfl (Pu.pnil rfl Tryz.underlying29 rfl) ?_
      refine WL.pure (W0 rfl) rfl (Pu.pickF rfl rfl rfl) ?_
      refine WL.nil ?_
      exact Lf.joinA r_2.isNone (by exact ⟨rfl, rfl, rfl, trivial⟩) h
/-- berthmaster/berthmasterlaw05.JournalCrash -/
def F_berthmasterlaw05_JournalCrash (vl : Sl) (sync : Sl) (fuse : Int) (keep : Sl) (w : World) (Q : Bool → World → Prop) : Prop :=
  CallP Tryz.prog n_berthmasterlaw05_lives [] w (ret1 tB (fun r vw => (((!r) = true) → Q false vw) ∧
  (((!r) = false) → CallP Tryz.prog n_disk_New [.int .i64 (1048576)] vw (ret2 tP (tI .i64) (fun r_1 r_2 vw_1 => JoinP (α := Bool) (fun vj vw_2 => ((vj = true) → Q (decide (r_2 = (0 : Int))) vw_2) ∧
  ((vj = false) → CallP Tryz.prog n_journal_Open [.pointer r_1, .string (⟨#[108, 111, 103]⟩ : ByteArray)] vw_2 (ret2 tP (tI .i64) (fun r_3 r_4 vw_3 => JoinP (α := Bool) (fun vj_1 vw_4 => ((vj_1 = true) → Q false vw_4) ∧
  ((vj_1 = false) → JoinP (α := Int × Int) (fun vj_2 vw_5 => CallP Tryz.prog n_disk_Disk_Crash [.pointer r_1, Sl.v keep] vw_5 (ret1 (tI .i64) (fun r_5 vw_6 => ((r_5 ≠ (0 : Int)) → CallP Tryz.prog n_berthmasterlaw05_fine [Sl.v keep] vw_6 (ret1 tB (fun r_6 vw_7 => Q (!r_6) vw_7))) ∧
  ((¬ (r_5 ≠ (0 : Int))) → CallP Tryz.prog n_journal_Open [.pointer r_1, .string (⟨#[108, 111, 103]⟩ : ByteArray)] vw_6 (ret2 tP (tI .i64) (fun r_7 r_8 vw_8 => ((r_8 ≠ (0 : Int)) → Q false vw_8) ∧
  ((¬ (r_8 ≠ (0 : Int))) → CallP Tryz.prog n_journal_Journal_All [.pointer r_7] vw_8 (ret1 tSl (fun r_9 vw_9 => JoinP (α := Bool) (fun vj_3 vw_10 => Q vj_3 vw_10)
  (fun vk_3 => ((vj_2.1 ≤ (r_9.len : Int)) → (((r_9.len : Int) ≤ vj_2.2) → 0 ≤ (0 : Int) ∧ (0 : Int) ≤ (r_9.len : Int) ∧ (r_9.len : Int) ≤ (vl.cap : Int) ∧ (vl.cap : Int) ≤ (vl.cap : Int) ∧ CallP Tryz.prog n_berthmasterkit_SameLists [Sl.v r_9, Sl.v (slS vl (0 : Int) (r_9.len : Int) (vl.cap : Int) 1)] vw_9 (ret1 tB (fun r_10 vw_11 => ((r_10 = true) → CallP Tryz.prog n_journal_Journal_First [.pointer r_7] vw_11 (ret1 (tI .u64) (fun r_11 vw_12 => ((r_11 = (1 : Int)) → CallP Tryz.prog n_journal_Journal_Next [.pointer r_7] vw_12 (ret1 (tI .u64) (fun r_12 vw_13 => vk_3 (decide (r_12 = (IntKind.u64.wrap ((IntKind.u64.wrap (r_9.len : Int)) + (1 : Int))))) vw_13))) ∧
  ((¬ (r_11 = (1 : Int))) → vk_3 false vw_12)))) ∧
  ((r_10 = false) → vk_3 false vw_11)))) ∧
  ((¬ ((r_9.len : Int) ≤ vj_2.2)) → vk_3 false vw_9)) ∧
  ((¬ (vj_2.1 ≤ (r_9.len : Int))) → vk_3 false vw_9)))))))))))
  (fun vk_2 => LoopP (α := Int × Int × Int) (fun vi vw_14 vJ => ((vi.2.2 < (vl.len : Int)) → JoinP (α := Int × Int) (fun vj_4 vw_15 => vJ (vj_4.1, vj_4.2, (IntKind.i64.wrap (vi.2.2 + (1 : Int)))) vw_15)
  (fun vk_4 => ixs vl vi.2.2 (fun b q => ld tSl vw_14 b (q + (vi.2.2).toNat * 1) (fun v => (((3000 : Int) < (v.len : Int)) → Q true vw_14) ∧
  ((¬ ((3000 : Int) < (v.len : Int))) → ixs vl vi.2.2 (fun b_1 q_1 => ld tSl vw_14 b_1 (q_1 + (vi.2.2).toNat * 1) (fun v_1 => CallP Tryz.prog n_journal_Journal_Append [.pointer r_3, Sl.v v_1] vw_14 (ret2 (tI .u64) (tI .i64) (fun r_13 r_14 vw_16 => ((r_14 ≠ (0 : Int)) → vk_2 (vi.1, (IntKind.i64.wrap (vi.2.2 + (1 : Int)))) vw_16) ∧
  ((¬ (r_14 ≠ (0 : Int))) → JoinP (α := Bool) (fun vj_5 vw_17 => ((vj_5 = true) → CallP Tryz.prog n_journal_Journal_Sync [.pointer r_3] vw_17 (ret1 (tI .i64) (fun r_15 vw_18 => ((r_15 ≠ (0 : Int)) → vk_2 (vi.1, (IntKind.i64.wrap (vi.2.2 + (1 : Int)))) vw_18) ∧
  ((¬ (r_15 ≠ (0 : Int))) → vk_4 ((IntKind.i64.wrap (vi.2.2 + (1 : Int))), (IntKind.i64.wrap (vi.2.2 + (1 : Int)))) vw_18)))) ∧
  ((vj_5 = false) → vk_4 (vi.1, (IntKind.i64.wrap (vi.2.2 + (1 : Int)))) vw_17))
  (fun vk_5 => ((vi.2.2 < (sync.len : Int)) → ixs sync vi.2.2 (fun b_2 q_2 => ld tB vw_16 b_2 (q_2 + (vi.2.2).toNat * 1) (fun v_2 => vk_5 v_2 vw_16))) ∧
  ((¬ (vi.2.2 < (sync.len : Int))) → vk_5 false vw_16)))))))))))) ∧
  ((¬ (vi.2.2 < (vl.len : Int))) → vk_2 (vi.1, vi.2.1) vw_14)) ((0 : Int), (0 : Int), (0 : Int)) vw_4)))
  (fun vk_1 => ((r_4 ≠ (0 : Int)) → vk_1 true vw_3) ∧
  ((¬ (r_4 ≠ (0 : Int))) → CallP Tryz.prog n_berthmasterkit_Pick [.int .i64 fuse, .int .i64 (400)] vw_3 (ret1 (tI .i64) (fun r_16 vw_19 => CallP Tryz.prog n_disk_Disk_Fuse [.pointer r_1, .int .i64 r_16] vw_19 (ret1 (tI .i64) (fun r_17 vw_20 => vk_1 (decide (r_17 ≠ (0 : Int))) vw_20))))))))))
  (fun vk => ((r_2 ≠ (0 : Int)) → vk true vw_1) ∧
  ((¬ (r_2 ≠ (0 : Int))) → vk (decide ((120 : Int) < (vl.len : Int))) vw_1)))))))
theorem vc_berthmasterlaw05_JournalCrash (vl : Sl) (sync : Sl) (fuse : Int) (keep : Sl) (w : World) (Q : Bool → World → Prop) (h : F_berthmasterlaw05_JournalCrash vl sync fuse keep w Q) : CallP Tryz.prog n_berthmasterlaw05_JournalCrash [Sl.v vl, Sl.v sync, .int .i64 fuse, Sl.v keep] w (ret1 tB Q) := by
  unfold F_berthmasterlaw05_JournalCrash at h
  refine CallP.of_body 135 Tryz.func4 rfl Tryz.ntmps4 rfl ?_
  refine WC.seq ?_
  refine WC.region ?_
  refine WL.pure (W0 rfl) rfl (Pu.assign rfl rfl) ?_
  refine WL.nil ?_
  refine Lf.thenC ?_
  refine WC.seq ?_
  refine WC.seq ?_
  refine WC.region ?_
  refine WL.call (W0 rfl) rfl (fun xa hxa => run_call (fs := []) (cs := []) (vs := []) rfl rfl rfl Tryz.func5 rfl rfl xa hxa _) h ?_
  rintro _ vw ⟨r, rfl, h⟩
  refine WL.pure (W0 rfl) rfl (Pu.not rfl rfl) ?_
  refine WL.nil ?_
  refine Lf.thenC ?_
  refine WC.cond rfl (fun hc => ?_) (fun hc => ?_)
  · replace h := h.1 hc
    refine WC.seq ?_
    refine WC.region ?_
    refine WL.pure (W0 rfl) rfl (Pu.assign rfl rfl) ?_
    refine WL.nil ?_
    refine Lf.thenC ?_
    refine WC.ret ?_
    exact Lf.ret1 rfl rfl ⟨_, rfl, h⟩
  · replace h := h.2 hc
    refine WC.skip ?_
    refine Lf.thenC ?_
    refine WC.seq ?_
    refine WC.region ?_
    refine WL.call (W0 rfl) rfl (fun xa hxa => run_call (fs := []) (cs := []) (vs := [.int .i64 (1048576)]) rfl rfl rfl Tryz.func6 rfl rfl xa hxa _) h ?_
    rintro _ vw_1 ⟨r_1, r_2, rfl, h⟩
    refine WL.pure (W0 rfl) rfl (Pu.move rfl rfl) ?_
    refine WL.pure (W0 rfl) rfl (Pu.extract (vs := [.pointer r_1, .int .i64 r_2]) rfl rfl rfl) ?_
    refine WL.pure (W0 rfl) rfl (Pu.extract (vs := [.pointer r_1, .int .i64 r_2]) rfl rfl rfl) ?_
    refine WL.pure (W0 rfl) rfl (Pu.assign rfl rfl) ?_
    refine WL.pure (W0 rfl) rfl (Pu.assign rfl rfl) ?_
    refine WL.nil ?_
    refine Lf.thenC ?_
    refine WC.seq ?_
    obtain ⟨vk, h2, h⟩ := h
    refine WC.cut (α := Bool) (k := vk) (fun vj => [(30, .bool vj), (0, Sl.v vl), (1, Sl.v sync), (2, .int .i64 fuse), (3, Sl.v keep), (9, .pointer r_1), (10, .int .i64 r_2)]) (fun vj vw_2 h => ?_) ?_
    · replace h := h2 _ _ h
      clear h2
      refine WC.cond rfl (fun hc => ?_) (fun hc => ?_)
      · replace h := h.1 hc
        refine WC.seq ?_
        refine WC.region ?_
        refine WL.pure (W0 rfl) rfl (Pu.move rfl rfl) ?_
        refine WL.pure (W0 rfl) rfl (Pu.eql rfl rfl rfl) ?_
        refine WL.pure (W0 rfl) rfl (Pu.assign rfl rfl) ?_
        refine WL.nil ?_
        refine Lf.thenC ?_
        refine WC.ret ?_
        exact Lf.ret1 rfl rfl ⟨_, rfl, h⟩
      · replace h := h.2 hc
        refine WC.skip ?_
        refine Lf.thenC ?_
        refine WC.seq ?_
        refine WC.region ?_
        refine WL.pure (W0 rfl) rfl (Pu.move rfl rfl) ?_
        refine WL.call (W0 rfl) rfl (fun xa hxa => run_call (fs := []) (cs := []) (vs := [.pointer r_1, .string (⟨#[108, 111, 103]⟩ : ByteArray)]) rfl rfl rfl Tryz.func7 rfl rfl xa hxa _) h ?_
        rintro _ vw_3 ⟨r_3, r_4, rfl, h⟩
        refine WL.pure (W0 rfl) rfl (Pu.move rfl rfl) ?_
        refine WL.pure (W0 rfl) rfl (Pu.extract (vs := [.pointer r_3, .int .i64 r_4]) rfl rfl rfl) ?_
        refine WL.pure (W0 rfl) rfl (Pu.extract (vs := [.pointer r_3, .int .i64 r_4]) rfl rfl rfl) ?_
        refine WL.pure (W0 rfl) rfl (Pu.assign rfl rfl) ?_
        refine WL.pure (W0 rfl) rfl (Pu.assign rfl rfl) ?_
        refine WL.nil ?_
        refine Lf.thenC ?_
        refine WC.seq ?_
        obtain ⟨vk_1, h2, h⟩ := h
        refine WC.cut (α := Bool) (k := vk_1) (fun vj_1 => [(46, .bool vj_1), (0, Sl.v vl), (1, Sl.v sync), (3, Sl.v keep), (9, .pointer r_1), (11, .pointer r_3)]) (fun vj_1 vw_4 h => ?_) ?_
        · replace h := h2 _ _ h
          clear h2
          refine WC.cond rfl (fun hc => ?_) (fun hc => ?_)
          · replace h := h.1 hc
            refine WC.seq ?_
            refine WC.region ?_
            refine WL.pure (W0 rfl) rfl (Pu.assign rfl rfl) ?_
            refine WL.nil ?_
            refine Lf.thenC ?_
            refine WC.ret ?_
            exact Lf.ret1 rfl rfl ⟨_, rfl, h⟩
          · replace h := h.2 hc
            refine WC.skip ?_
            refine Lf.thenC ?_
            refine WC.seq ?_
            refine WC.region ?_
            refine WL.pure (W0 rfl) rfl (Pu.assign rfl rfl) ?_
            refine WL.pure (W0 rfl) rfl (Pu.assign rfl rfl) ?_
            refine WL.nil ?_
            refine Lf.thenC ?_
            obtain ⟨vk_2, h2, h⟩ := h
            refine WC.cut (α := Int × Int) (k := vk_2) (fun vj_2 => [(12, .int .i64 vj_2.1), (13, .int .i64 vj_2.2), (0, Sl.v vl), (3, Sl.v keep), (9, .pointer r_1)]) (fun vj_2 vw_5 h => ?_) ?_
            · replace h := h2 _ _ h
              clear h2
              refine WC.seq ?_
              refine WC.seq ?_
              refine WC.region ?_
              refine WL.pure (W0 rfl) rfl (Pu.move rfl rfl) ?_
              refine WL.pure (W0 rfl) rfl (Pu.move rfl rfl) ?_
              refine WL.call (W0 rfl) rfl (fun xa hxa => run_call (fs := []) (cs := []) (vs := [.pointer r_1, Sl.v keep]) rfl rfl rfl Tryz.func17 rfl rfl xa hxa _) h ?_
              rintro _ vw_6 ⟨r_5, rfl, h⟩
              refine WL.pure (W0 rfl) rfl (Pu.neq rfl rfl rfl) ?_
              refine WL.nil ?_
              refine Lf.thenC ?_
              refine WC.condD rfl (fun hc => ?_) (fun hc => ?_)
              · replace h := h.1 hc
                refine WC.seq ?_
                refine WC.region ?_
                refine WL.pure (W0 rfl) rfl (Pu.move rfl rfl) ?_
                refine WL.call (W0 rfl) rfl (fun xa hxa => run_call (fs := []) (cs := []) (vs := [Sl.v keep]) rfl rfl rfl Tryz.func18 rfl rfl xa hxa _) h ?_
                rintro _ vw_7 ⟨r_6, rfl, h⟩
                refine WL.pure (W0 rfl) rfl (Pu.not rfl rfl) ?_
                refine WL.pure (W0 rfl) rfl (Pu.assign rfl rfl) ?_
                refine WL.nil ?_
                refine Lf.thenC ?_
                refine WC.ret ?_
                exact Lf.ret1 rfl rfl ⟨_, rfl, h⟩
              · replace h := h.2 hc
                refine WC.skip ?_
                refine Lf.thenC ?_
                refine WC.seq ?_
                refine WC.region ?_
                refine WL.pure (W0 rfl) rfl (Pu.move rfl rfl) ?_
                refine WL.call (W0 rfl) rfl (fun xa hxa => run_call (fs := []) (cs := []) (vs := [.pointer r_1, .string (⟨#[108, 111, 103]⟩ : ByteArray)]) rfl rfl rfl Tryz.func7 rfl rfl xa hxa _) h ?_
                rintro _ vw_8 ⟨r_7, r_8, rfl, h⟩
                refine WL.pure (W0 rfl) rfl (Pu.move rfl rfl) ?_
                refine WL.pure (W0 rfl) rfl (Pu.extract (vs := [.pointer r_7, .int .i64 r_8]) rfl rfl rfl) ?_
                refine WL.pure (W0 rfl) rfl (Pu.extract (vs := [.pointer r_7, .int .i64 r_8]) rfl rfl rfl) ?_
                refine WL.pure (W0 rfl) rfl (Pu.assign rfl rfl) ?_
                refine WL.pure (W0 rfl) rfl (Pu.assign rfl rfl) ?_
                refine WL.nil ?_
                refine Lf.thenC ?_
                refine WC.seq ?_
                refine WC.seq ?_
                refine WC.region ?_
                refine WL.pure (W0 rfl) rfl (Pu.move rfl rfl) ?_
                refine WL.pure (W0 rfl) rfl (Pu.neq rfl rfl rfl) ?_
                refine WL.nil ?_
                refine Lf.thenC ?_
                refine WC.condD rfl (fun hc => ?_) (fun hc => ?_)
                · replace h := h.1 hc
                  refine WC.seq ?_
                  refine WC.region ?_
                  refine WL.pure (W0 rfl) rfl (Pu.assign rfl rfl) ?_
                  refine WL.nil ?_
                  refine Lf.thenC ?_
                  refine WC.ret ?_
                  exact Lf.ret1 rfl rfl ⟨_, rfl, h⟩
                · replace h := h.2 hc
                  refine WC.skip ?_
                  refine Lf.thenC ?_
                  refine WC.seq ?_
                  refine WC.region ?_
                  refine WL.pure (W0 rfl) rfl (Pu.move rfl rfl) ?_
                  refine WL.call (W0 rfl) rfl (fun xa hxa => run_call (fs := []) (cs := []) (vs := [.pointer r_7]) rfl rfl rfl Tryz.func14 rfl rfl xa hxa _) h ?_
                  rintro _ vw_9 ⟨r_9, rfl, h⟩
                  refine WL.pure (W0 rfl) rfl (Pu.assign rfl rfl) ?_
                  refine WL.nil ?_
                  refine Lf.thenC ?_
                  obtain ⟨vk_3, h2, h⟩ := h
                  refine WC.cut (α := Bool) (k := vk_3) (fun vj_3 => [(8, .bool vj_3)]) (fun vj_3 vw_10 h => ?_) ?_
                  · replace h := h2 _ _ h
                    clear h2
                    refine WC.ret ?_
                    exact Lf.ret1 rfl rfl ⟨_, rfl, h⟩
                  · clear h2
                    refine WC.region ?_
                    refine WL.pure (W0 rfl) rfl (Pu.move rfl rfl) ?_
                    refine WL.pure (W0 rfl) rfl (Pu.len rfl Tryz.underlying22 rfl) ?_
                    refine WL.pure (W0 rfl) rfl (Pu.move rfl rfl) ?_
                    refine WL.pure (W0 rfl) rfl (Pu.geq rfl rfl rfl) ?_
                    refine WL.pure (W0 rfl) rfl (Pu.move rfl rfl) ?_
                    refine WL.boolD (t := 107) rfl (fun hc => ?_) (fun hc => ?_)
                    · replace h := h.1 hc
                      refine WL.pure (W1 (t := 107) rfl rfl rfl rfl) rfl (Pu.move rfl rfl) ?_
                      refine WL.pure (W1 (t := 107) rfl rfl rfl rfl) rfl (Pu.len rfl Tryz.underlying22 rfl) ?_
                      refine WL.pure (W1 (t := 107) rfl rfl rfl rfl) rfl (Pu.move rfl rfl) ?_
                      refine WL.pure (W1 (t := 107) rfl rfl rfl rfl) rfl (Pu.leq rfl rfl rfl) ?_
                      refine WL.pure (W0 rfl) rfl (Pu.pickT rfl rfl rfl) ?_
                      refine WL.pure (W0 rfl) rfl (Pu.move rfl rfl) ?_
                      refine WL.boolD (t := 113) rfl (fun hc => ?_) (fun hc => ?_)
                      · replace h := h.1 hc
                        refine WL.pure (W1 (t := 113) rfl rfl rfl rfl) rfl (Pu.move rfl rfl) ?_
                        refine WL.pure (W1 (t := 113) rfl rfl rfl rfl) rfl (Pu.move rfl rfl) ?_
                        refine WL.pure (W1 (t := 113) rfl rfl rfl rfl) rfl (Pu.move rfl rfl) ?_
                        refine WL.pure (W1 (t := 113) rfl rfl rfl rfl) rfl (Pu.len rfl Tryz.underlying22 rfl) ?_
                        obtain ⟨hi0, hi1, hi2, hi3, h⟩ := h
                        refine WL.pure (W1 (t := 113) rfl rfl rfl rfl) rfl (Pu.slice rfl Tryz.underlying22 sz_32 rfl rfl rfl rfl rfl hi0 hi1 hi2 hi3) ?_
                        refine WL.call (W1 (t := 113) rfl rfl rfl rfl) rfl (fun xa hxa => run_call (fs := []) (cs := []) (vs := [Sl.v r_9, Sl.v (slS vl (0 : Int) (r_9.len : Int) (vl.cap : Int) 1)]) rfl rfl rfl Tryz.func15 rfl rfl xa hxa _) h ?_
                        rintro _ vw_11 ⟨r_10, rfl, h⟩
                        refine WL.pure (W0 rfl) rfl (Pu.pickT rfl rfl rfl) ?_
                        refine WL.pure (W0 rfl) rfl (Pu.move rfl rfl) ?_
                        refine WL.bool (t := 121) rfl (fun hc => ?_) (fun hc => ?_)
                        · replace h := h.1 hc
                          refine WL.pure (W1 (t := 121) rfl rfl rfl rfl) rfl (Pu.move rfl rfl) ?_
                          refine WL.call (W1 (t := 121) rfl rfl rfl rfl) rfl (fun xa hxa => run_call (fs := []) (cs := []) (vs := [.pointer r_7]) rfl rfl rfl Tryz.func19 rfl rfl xa hxa _) h ?_
                          rintro _ vw_12 ⟨r_11, rfl, h⟩
                          refine WL.pure (W1 (t := 121) rfl rfl rfl rfl) rfl (Pu.eql rfl rfl rfl) ?_
                          refine WL.pure (W0 rfl) rfl (Pu.pickT rfl rfl rfl) ?_
                          refine WL.pure (W0 rfl) rfl (Pu.move rfl rfl) ?_
                          refine WL.boolD (t := 126) rfl (fun hc => ?_) (fun hc => ?_)
                          · replace h := h.1 hc
                            refine WL.pure (W1 (t := 126) rfl rfl rfl rfl) rfl (Pu.move rfl rfl) ?_
                            refine WL.call (W1 (t := 126) rfl rfl rfl rfl) rfl (fun xa hxa => run_call (fs := []) (cs := []) (vs := [.pointer r_7]) rfl rfl rfl Tryz.func20 rfl rfl xa hxa _) h ?_
                            rintro _ vw_13 ⟨r_12, rfl, h⟩
                            refine WL.pure (W1 (t := 126) rfl rfl rfl rfl) rfl (Pu.move rfl rfl) ?_
                            refine WL.pure (W1 (t := 126) rfl rfl rfl rfl) rfl (Pu.len rfl Tryz.underlying22 rfl) ?_
                            refine WL.pure (W1 (t := 126) rfl rfl rfl rfl) rfl (Pu.conv rfl (by rw [Tryz.underlying3]; rfl) Tryz.underlying33 rfl) ?_
                            refine WL.pure (W1 (t := 126) rfl rfl rfl rfl) rfl (Pu.add rfl rfl rfl) ?_
                            refine WL.pure (W1 (t := 126) rfl rfl rfl rfl) rfl (Pu.eql rfl rfl rfl) ?_
                            refine WL.pure (W0 rfl) rfl (Pu.pickT rfl rfl rfl) ?_
                            refine WL.pure (W0 rfl) rfl (Pu.assign rfl rfl) ?_
                            refine WL.nil ?_
                            exact Lf.joinA (decide (r_12 = (IntKind.u64.wrap ((IntKind.u64.wrap (r_9.len : Int)) + (1 : Int))))) (by exact ⟨rfl, trivial⟩) h
                          · replace h := h.2 hc
                            refine WL.unwanted (t := 126) rfl rfl rfl rfl rfl rfl ?_
                            refine WL.unwanted (t := 126) rfl rfl rfl rfl rfl rfl ?_
                            refine WL.unwanted (t := 126) rfl rfl rfl rfl rfl rfl ?_
                            refine WL.unwanted (t := 126) rfl rfl rfl rfl rfl rfl ?_
                            refine WL.unwanted (t := 126) rfl rfl rfl rfl rfl rfl ?_
                            refine WL.unwanted (t := 126) rfl rfl rfl rfl rfl rfl ?_
                            refine WL.unwanted (t := 126) rfl rfl rfl rfl rfl rfl ?_
                            refine WL.pure (W0 rfl) rfl (Pu.pickF rfl rfl rfl) ?_
                            refine WL.pure (W0 rfl) rfl (Pu.assign rfl rfl) ?_
                            refine WL.nil ?_
                            exact Lf.joinA false (by exact ⟨rfl, trivial⟩) h
                        · replace h := h.2 hc
                          refine WL.unwanted (t := 121) rfl rfl rfl rfl rfl rfl ?_
                          refine WL.unwanted (t := 121) rfl rfl rfl rfl rfl rfl ?_
                          refine WL.unwanted (t := 121) rfl rfl rfl rfl rfl rfl ?_
                          refine WL.pure (W0 rfl) rfl (Pu.pickF rfl rfl rfl) ?_
                          refine WL.pure (W0 rfl) rfl (Pu.move rfl rfl) ?_
                          refine WL.unwanted (t := 126) rfl rfl rfl rfl rfl rfl ?_
                          refine WL.unwanted (t := 126) rfl rfl rfl rfl rfl rfl ?_
                          refine WL.unwanted (t := 126) rfl rfl rfl rfl rfl rfl ?_
                          refine WL.unwanted (t := 126) rfl rfl rfl rfl rfl rfl ?_
                          refine WL.unwanted (t := 126) rfl rfl rfl rfl rfl rfl ?_
                          refine WL.unwanted (t := 126) rfl rfl rfl rfl rfl rfl ?_
                          refine WL.unwanted (t := 126) rfl rfl rfl rfl rfl rfl ?_
                          refine WL.pure (W0 rfl) rfl (Pu.pickF rfl rfl rfl) ?_
                          refine WL.pure (W0 rfl) rfl (Pu.assign rfl rfl) ?_
                          refine WL.nil ?_
                          exact Lf.joinA false (by exact ⟨rfl, trivial⟩) h
                      · replace h := h.2 hc
                        refine WL.unwanted (t := 113) rfl rfl rfl rfl rfl rfl ?_
                        refine WL.unwanted (t := 113) rfl rfl rfl rfl rfl rfl ?_
                        refine WL.unwanted (t := 113) rfl rfl rfl rfl rfl rfl ?_
                        refine WL.unwanted (t := 113) rfl rfl rfl rfl rfl rfl ?_
                        refine WL.unwanted (t := 113) rfl rfl rfl rfl rfl rfl ?_
                        refine WL.unwanted (t := 113) rfl rfl rfl rfl rfl rfl ?_
                        refine WL.pure (W0 rfl) rfl (Pu.pickF rfl rfl rfl) ?_
                        refine WL.pure (W0 rfl) rfl (Pu.move rfl rfl) ?_
                        refine WL.unwanted (t := 121) rfl rfl rfl rfl rfl rfl ?_
                        refine WL.unwanted (t := 121) rfl rfl rfl rfl rfl rfl ?_
                        refine WL.unwanted (t := 121) rfl rfl rfl rfl rfl rfl ?_
                        refine WL.pure (W0 rfl) rfl (Pu.pickF rfl rfl rfl) ?_
                        refine WL.pure (W0 rfl) rfl (Pu.move rfl rfl) ?_
                        refine WL.unwanted (t := 126) rfl rfl rfl rfl rfl rfl ?_
                        refine WL.unwanted (t := 126) rfl rfl rfl rfl rfl rfl ?_
                        refine WL.unwanted (t := 126) rfl rfl rfl rfl rfl rfl ?_
                        refine WL.unwanted (t := 126) rfl rfl rfl rfl rfl rfl ?_
                        refine WL.unwanted (t := 126) rfl rfl rfl rfl rfl rfl ?_
                        refine WL.unwanted (t := 126) rfl rfl rfl rfl rfl rfl ?_
                        refine WL.unwanted (t := 126) rfl rfl rfl rfl rfl rfl ?_
                        refine WL.pure (W0 rfl) rfl (Pu.pickF rfl rfl rfl) ?_
                        refine WL.pure (W0 rfl) rfl (Pu.assign rfl rfl) ?_
                        refine WL.nil ?_
                        exact Lf.joinA false (by exact ⟨rfl, trivial⟩) h
                    · replace h := h.2 hc
                      refine WL.unwanted (t := 107) rfl rfl rfl rfl rfl rfl ?_
                      refine WL.unwanted (t := 107) rfl rfl rfl rfl rfl rfl ?_
                      refine WL.unwanted (t := 107) rfl rfl rfl rfl rfl rfl ?_
                      refine WL.unwanted (t := 107) rfl rfl rfl rfl rfl rfl ?_
                      refine WL.pure (W0 rfl) rfl (Pu.pickF rfl rfl rfl) ?_
                      refine WL.pure (W0 rfl) rfl (Pu.move rfl rfl) ?_
                      refine WL.unwanted (t := 113) rfl rfl rfl rfl rfl rfl ?_
                      refine WL.unwanted (t := 113) rfl rfl rfl rfl rfl rfl ?_
                      refine WL.unwanted (t := 113) rfl rfl rfl rfl rfl rfl ?_
                      refine WL.unwanted (t := 113) rfl rfl rfl rfl rfl rfl ?_
                      refine WL.unwanted (t := 113) rfl rfl rfl rfl rfl rfl ?_
                      refine WL.unwanted (t := 113) rfl rfl rfl rfl rfl rfl ?_
                      refine WL.pure (W0 rfl) rfl (Pu.pickF rfl rfl rfl) ?_
                      refine WL.pure (W0 rfl) rfl (Pu.move rfl rfl) ?_
                      refine WL.unwanted (t := 121) rfl rfl rfl rfl rfl rfl ?_
                      refine WL.unwanted (t := 121) rfl rfl rfl rfl rfl rfl ?_
                      refine WL.unwanted (t := 121) rfl rfl rfl rfl rfl rfl ?_
                      refine WL.pure (W0 rfl) rfl (Pu.pickF rfl rfl rfl) ?_
                      refine WL.pure (W0 rfl) rfl (Pu.move rfl rfl) ?_
                      refine WL.unwanted (t := 126) rfl rfl rfl rfl rfl rfl ?_
                      refine WL.unwanted (t := 126) rfl rfl rfl rfl rfl rfl ?_
                      refine WL.unwanted (t := 126) rfl rfl rfl rfl rfl rfl ?_
                      refine WL.unwanted (t := 126) rfl rfl rfl rfl rfl rfl ?_
                      refine WL.unwanted (t := 126) rfl rfl rfl rfl rfl rfl ?_
                      refine WL.unwanted (t := 126) rfl rfl rfl rfl rfl rfl ?_
                      refine WL.unwanted (t := 126) rfl rfl rfl rfl rfl rfl ?_
                      refine WL.pure (W0 rfl) rfl (Pu.pickF rfl rfl rfl) ?_
                      refine WL.pure (W0 rfl) rfl (Pu.assign rfl rfl) ?_
                      refine WL.nil ?_
                      exact Lf.joinA false (by exact ⟨rfl, trivial⟩) h
            · clear h2
              refine WC.seq ?_
              refine WC.region ?_
              refine WL.pure (W0 rfl) rfl (Pu.assign rfl rfl) ?_
              refine WL.nil ?_
              refine Lf.thenC ?_
              refine WC.block ?_
              refine WC.loop (α := Int × Int × Int) (fun vi => [(12, .int .i64 vi.1), (13, .int .i64 vi.2.1), (14, .int .i64 vi.2.2), (0, Sl.v vl), (1, Sl.v sync), (3, Sl.v keep), (9, .pointer r_1), (11, .pointer r_3)]) ((0 : Int), (0 : Int), (0 : Int)) (by exact ⟨rfl, rfl, rfl, rfl, rfl, rfl, rfl, rfl, trivial⟩) h (fun vJ vi vw_14 h => ?_)
              refine WC.seq ?_
              refine WC.seq ?_
              refine WC.region ?_
              refine WL.pure (W0 rfl) rfl (Pu.move rfl rfl) ?_
              refine WL.pure (W0 rfl) rfl (Pu.move rfl rfl) ?_
              refine WL.pure (W0 rfl) rfl (Pu.len rfl Tryz.underlying22 rfl) ?_
              refine WL.pure (W0 rfl) rfl (Pu.lss rfl rfl rfl) ?_
              refine WL.nil ?_
              refine Lf.thenC ?_
              refine WC.condD rfl (fun hc => ?_) (fun hc => ?_)
              · replace h := h.1 hc
                refine WC.skip ?_
                refine Lf.thenC ?_
                obtain ⟨vk_4, h2, h⟩ := h
                refine WC.cut (α := Int × Int) (k := vk_4) (fun vj_4 => [(12, .int .i64 vj_4.1), (13, .int .i64 vj_4.2), (0, Sl.v vl), (1, Sl.v sync), (3, Sl.v keep), (9, .pointer r_1), (11, .pointer r_3), (14, .int .i64 vi.2.2)]) (fun vj_4 vw_15 h => ?_) ?_
                · replace h := h2 _ _ h
                  clear h2
                  refine WC.region ?_
                  refine WL.pure (W0 rfl) rfl (Pu.move rfl rfl) ?_
                  refine WL.pure (W0 rfl) rfl (Pu.add rfl rfl rfl) ?_
                  refine WL.pure (W0 rfl) rfl (Pu.assign rfl rfl) ?_
                  refine WL.nil ?_
                  exact Lf.joinA (vj_4.1, vj_4.2, (IntKind.i64.wrap (vi.2.2 + (1 : Int)))) (by exact ⟨rfl, rfl, rfl, rfl, rfl, rfl, rfl, rfl, trivial⟩) h
                · clear h2
                  refine WC.block ?_
                  refine WC.seq ?_
                  refine WC.seq ?_
                  refine WC.region ?_
                  refine WL.pure (W0 rfl) rfl (Pu.move rfl rfl) ?_
                  refine WL.pure (W0 rfl) rfl (Pu.move rfl rfl) ?_
                  obtain ⟨hi0, hi1, b, q, hs, h⟩ := h
                  refine WL.pure (W0 rfl) rfl (Pu.indexAddr rfl Tryz.underlying22 sz_32 rfl rfl hs hi0 hi1) ?_
                  obtain ⟨v, hl, h⟩ := h
                  refine WL.val (W0 rfl) rfl (fun xa hxa => Rd.load ok_32 rfl rfl xa hxa _ hl) ?_
                  refine WL.pure (W0 rfl) rfl (Pu.len rfl Tryz.underlying32 rfl) ?_
                  refine WL.pure (W0 rfl) rfl (Pu.gtr rfl rfl rfl) ?_
                  refine WL.nil ?_
                  refine Lf.thenC ?_
                  refine WC.condD rfl (fun hc => ?_) (fun hc => ?_)
                  · replace h := h.1 hc
                    refine WC.seq ?_
                    refine WC.region ?_
                    refine WL.pure (W0 rfl) rfl (Pu.assign rfl rfl) ?_
                    refine WL.nil ?_
                    refine Lf.thenC ?_
                    refine WC.ret ?_
                    exact Lf.ret1 rfl rfl ⟨_, rfl, h⟩
                  · replace h := h.2 hc
                    refine WC.skip ?_
                    refine Lf.thenC ?_
                    refine WC.seq ?_
                    refine WC.region ?_
                    refine WL.pure (W0 rfl) rfl (Pu.move rfl rfl) ?_
                    refine WL.pure (W0 rfl) rfl (Pu.move rfl rfl) ?_
                    refine WL.pure (W0 rfl) rfl (Pu.move rfl rfl) ?_
                    obtain ⟨hi0, hi1, b_1, q_1, hs, h⟩ := h
                    refine WL.pure (W0 rfl) rfl (Pu.indexAddr rfl Tryz.underlying22 sz_32 rfl rfl hs hi0 hi1) ?_
                    obtain ⟨v_1, hl, h⟩ := h
                    refine WL.val (W0 rfl) rfl (fun xa hxa => Rd.load ok_32 rfl rfl xa hxa _ hl) ?_
                    refine WL.call (W0 rfl) rfl (fun xa hxa => run_call (fs := []) (cs := []) (vs := [.pointer r_3, Sl.v v_1]) rfl rfl rfl Tryz.func8 rfl rfl xa hxa _) h ?_
                    rintro _ vw_16 ⟨r_13, r_14, rfl, h⟩
                    refine WL.pure (W0 rfl) rfl (Pu.move rfl rfl) ?_
                    refine WL.pure (W0 rfl) rfl (Pu.extract (vs := [.int .u64 r_13, .int .i64 r_14]) rfl rfl rfl) ?_
                    refine WL.pure (W0 rfl) rfl (Pu.extract (vs := [.int .u64 r_13, .int .i64 r_14]) rfl rfl rfl) ?_
                    refine WL.pure (W0 rfl) rfl (Pu.assign rfl rfl) ?_
                    refine WL.pure (W0 rfl) rfl (Pu.assign rfl rfl) ?_
                    refine WL.nil ?_
                    refine Lf.thenC ?_
                    refine WC.seq ?_
                    refine WC.region ?_
                    refine WL.pure (W0 rfl) rfl (Pu.move rfl rfl) ?_
                    refine WL.pure (W0 rfl) rfl (Pu.add rfl rfl rfl) ?_
                    refine WL.pure (W0 rfl) rfl (Pu.assign rfl rfl) ?_
                    refine WL.nil ?_
                    refine Lf.thenC ?_
                    refine WC.seq ?_
                    refine WC.seq ?_
                    refine WC.region ?_
                    refine WL.pure (W0 rfl) rfl (Pu.move rfl rfl) ?_
                    refine WL.pure (W0 rfl) rfl (Pu.neq rfl rfl rfl) ?_
                    refine WL.nil ?_
                    refine Lf.thenC ?_
                    refine WC.condD rfl (fun hc => ?_) (fun hc => ?_)
                    · replace h := h.1 hc
                      refine WC.exit rfl ?_
                      exact Lf.joinA (vi.1, (IntKind.i64.wrap (vi.2.2 + (1 : Int)))) (by exact ⟨rfl, rfl, rfl, rfl, rfl, trivial⟩) h
                    · replace h := h.2 hc
                      refine WC.skip ?_
                      refine Lf.thenC ?_
                      obtain ⟨vk_5, h2, h⟩ := h
                      refine WC.cut (α := Bool) (k := vk_5) (fun vj_5 => [(81, .bool vj_5), (0, Sl.v vl), (1, Sl.v sync), (3, Sl.v keep), (9, .pointer r_1), (11, .pointer r_3), (12, .int .i64 vi.1), (13, .int .i64 (IntKind.i64.wrap (vi.2.2 + (1 : Int)))), (14, .int .i64 vi.2.2)]) (fun vj_5 vw_17 h => ?_) ?_
                      · replace h := h2 _ _ h
                        clear h2
                        refine WC.cond rfl (fun hc => ?_) (fun hc => ?_)
                        · replace h := h.1 hc
                          refine WC.seq ?_
                          refine WC.seq ?_
                          refine WC.region ?_
                          refine WL.pure (W0 rfl) rfl (Pu.move rfl rfl) ?_
                          refine WL.call (W0 rfl) rfl (fun xa hxa => run_call (fs := []) (cs := []) (vs := [.pointer r_3]) rfl rfl rfl Tryz.func10 rfl rfl xa hxa _) h ?_
                          rintro _ vw_18 ⟨r_15, rfl, h⟩
                          refine WL.pure (W0 rfl) rfl (Pu.neq rfl rfl rfl) ?_
                          refine WL.nil ?_
                          refine Lf.thenC ?_
                          refine WC.condD rfl (fun hc => ?_) (fun hc => ?_)
                          · replace h := h.1 hc
                            refine WC.exit rfl ?_
                            exact Lf.joinA (vi.1, (IntKind.i64.wrap (vi.2.2 + (1 : Int)))) (by exact ⟨rfl, rfl, rfl, rfl, rfl, trivial⟩) h
                          · replace h := h.2 hc
                            refine WC.skip ?_
                            refine Lf.thenC ?_
                            refine WC.region ?_
                            refine WL.pure (W0 rfl) rfl (Pu.move rfl rfl) ?_
                            refine WL.pure (W0 rfl) rfl (Pu.add rfl rfl rfl) ?_
                            refine WL.pure (W0 rfl) rfl (Pu.assign rfl rfl) ?_
                            refine WL.nil ?_
                            exact Lf.joinA ((IntKind.i64.wrap (vi.2.2 + (1 : Int))), (IntKind.i64.wrap (vi.2.2 + (1 : Int)))) (by exact ⟨rfl, rfl, rfl, rfl, rfl, rfl, rfl, rfl, trivial⟩) h
                        · replace h := h.2 hc
                          refine WC.skip ?_
                          exact Lf.joinA (vi.1, (IntKind.i64.wrap (vi.2.2 + (1 : Int)))) (by exact ⟨rfl, rfl, rfl, rfl, rfl, rfl, rfl, rfl, trivial⟩) h
                      · clear h2
                        refine WC.region ?_
                        refine WL.pure (W0 rfl) rfl (Pu.move rfl rfl) ?_
                        refine WL.pure (W0 rfl) rfl (Pu.move rfl rfl) ?_
                        refine WL.pure (W0 rfl) rfl (Pu.len rfl Tryz.underlying47 rfl) ?_
                        refine WL.pure (W0 rfl) rfl (Pu.lss rfl rfl rfl) ?_
                        refine WL.pure (W0 rfl) rfl (Pu.move rfl rfl) ?_
                        refine WL.boolD (t := 76) rfl (fun hc => ?_) (fun hc => ?_)
                        · replace h := h.1 hc
                          refine WL.pure (W1 (t := 76) rfl rfl rfl rfl) rfl (Pu.move rfl rfl) ?_
                          refine WL.pure (W1 (t := 76) rfl rfl rfl rfl) rfl (Pu.move rfl rfl) ?_
                          obtain ⟨hi0, hi1, b_2, q_2, hs, h⟩ := h
                          refine WL.pure (W1 (t := 76) rfl rfl rfl rfl) rfl (Pu.indexAddr rfl Tryz.underlying47 sz_4 rfl rfl hs hi0 hi1) ?_
                          obtain ⟨v_2, hl, h⟩ := h
                          refine WL.val (W1 (t := 76) rfl rfl rfl rfl) rfl (fun xa hxa => Rd.load ok_4 rfl rfl xa hxa _ hl) ?_
                          refine WL.pure (W0 rfl) rfl (Pu.pickT rfl rfl rfl) ?_
                          refine WL.nil ?_
                          exact Lf.joinA v_2 (by exact ⟨rfl, rfl, rfl, rfl, rfl, rfl, rfl, rfl, rfl, trivial⟩) h
                        · replace h := h.2 hc
                          refine WL.unwanted (t := 76) rfl rfl rfl rfl rfl rfl ?_
                          refine WL.unwanted (t := 76) rfl rfl rfl rfl rfl rfl ?_
                          refine WL.unwanted (t := 76) rfl rfl rfl rfl rfl rfl ?_
                          refine WL.unwanted (t := 76) rfl rfl rfl rfl rfl rfl ?_
                          refine WL.pure (W0 rfl) rfl (Pu.pickF rfl rfl rfl) ?_
                          refine WL.nil ?_
                          exact Lf.joinA false (by exact ⟨rfl, rfl, rfl, rfl, rfl, rfl, rfl, rfl, rfl, trivial⟩) h
              · replace h := h.2 hc
                refine WC.exit rfl ?_
                exact Lf.joinA (vi.1, vi.2.1) (by exact ⟨rfl, rfl, rfl, rfl, rfl, trivial⟩) h
        · clear h2
          refine WC.region ?_
          refine WL.pure (W0 rfl) rfl (Pu.move rfl rfl) ?_
          refine WL.pure (W0 rfl) rfl (Pu.neq rfl rfl rfl) ?_
          refine WL.pure (W0 rfl) rfl (Pu.move rfl rfl) ?_
          refine WL.boolD (t := 40) rfl (fun hc => ?_) (fun hc => ?_)
          · replace h := h.1 hc
            refine WL.unwanted (t := 40) rfl rfl rfl rfl rfl rfl ?_
            refine WL.unwanted (t := 40) rfl rfl rfl rfl rfl rfl ?_
            refine WL.unwanted (t := 40) rfl rfl rfl rfl rfl rfl ?_
            refine WL.unwanted (t := 40) rfl rfl rfl rfl rfl rfl ?_
            refine WL.unwanted (t := 40) rfl rfl rfl rfl rfl rfl ?_
            refine WL.pure (W0 rfl) rfl (Pu.pickT rfl rfl rfl) ?_
            refine WL.nil ?_
            exact Lf.joinA true (by exact ⟨rfl, rfl, rfl, rfl, rfl, rfl, trivial⟩) h
          · replace h := h.2 hc
            refine WL.pure (W1 (t := 40) rfl rfl rfl rfl) rfl (Pu.move rfl rfl) ?_
            refine WL.pure (W1 (t := 40) rfl rfl rfl rfl) rfl (Pu.move rfl rfl) ?_
            refine WL.call (W1 (t := 40) rfl rfl rfl rfl) rfl (fun xa hxa => run_call (fs := []) (cs := []) (vs := [.int .i64 fuse, .int .i64 (400)]) rfl rfl rfl Tryz.func11 rfl rfl xa hxa _) h ?_
            rintro _ vw_19 ⟨r_16, rfl, h⟩
            refine WL.call (W1 (t := 40) rfl rfl rfl rfl) rfl (fun xa hxa => run_call (fs := []) (cs := []) (vs := [.pointer r_1, .int .i64 r_16]) rfl rfl rfl Tryz.func16 rfl rfl xa hxa _) h ?_
            rintro _ vw_20 ⟨r_17, rfl, h⟩
            refine WL.pure (W1 (t := 40) rfl rfl rfl rfl) rfl (Pu.neq rfl rfl rfl) ?_
            refine WL.pure (W0 rfl) rfl (Pu.pickF rfl rfl rfl) ?_
            refine WL.nil ?_
            exact Lf.joinA (decide (r_17 ≠ (0 : Int))) (by exact ⟨rfl, rfl, rfl, rfl, rfl, rfl, trivial⟩) h
    · clear h2
      refine WC.region ?_
      refine WL.pure (W0 rfl) rfl (Pu.move rfl rfl) ?_
      refine WL.pure (W0 rfl) rfl (Pu.neq rfl rfl rfl) ?_
      refine WL.pure (W0 rfl) rfl (Pu.move rfl rfl) ?_
      refine WL.boolD (t := 26) rfl (fun hc => ?_) (fun hc => ?_)
      · replace h := h.1 hc
        refine WL.unwanted (t := 26) rfl rfl rfl rfl rfl rfl ?_
        refine WL.unwanted (t := 26) rfl rfl rfl rfl rfl rfl ?_
        refine WL.unwanted (t := 26) rfl rfl rfl rfl rfl rfl ?_
        refine WL.pure (W0 rfl) rfl (Pu.pickT rfl rfl rfl) ?_
        refine WL.nil ?_
        exact Lf.joinA true (by exact ⟨rfl, rfl, rfl, rfl, rfl, rfl, rfl, trivial⟩) h
      · replace h := h.2 hc
        refine WL.pure (W1 (t := 26) rfl rfl rfl rfl) rfl (Pu.move rfl rfl) ?_
        refine WL.pure (W1 (t := 26) rfl rfl rfl rfl) rfl (Pu.len rfl Tryz.underlying22 rfl) ?_
        refine WL.pure (W1 (t := 26) rfl rfl rfl rfl) rfl (Pu.gtr rfl rfl rfl) ?_
        refine WL.pure (W0 rfl) rfl (Pu.pickF rfl rfl rfl) ?_
        refine WL.nil ?_
        exact Lf.joinA (decide ((120 : Int) < (vl.len : Int))) (by exact ⟨rfl, rfl, rfl, rfl, rfl, rfl, rfl, trivial⟩) h
/-- berthmaster/berthmasterlaw05.JournalAltered -/
def F_berthmasterlaw05_JournalAltered (vl : Sl) (segment : Int) (vat : Int) (vbits : Int) (w : World) (Q : Bool → World → Prop) : Prop :=
  CallP Tryz.prog n_berthmasterlaw05_lives [] w (ret1 tB (fun r vw => (((!r) = true) → Q false vw) ∧
  (((!r) = false) → CallP Tryz.prog n_disk_New [.int .i64 (1048576)] vw (ret2 tP (tI .i64) (fun r_1 r_2 vw_1 => JoinP (α := Bool) (fun vj vw_2 => ((vj = true) → Q (decide (r_2 = (0 : Int))) vw_2) ∧
  ((vj = false) → CallP Tryz.prog n_journal_Open [.pointer r_1, .string (⟨#[108, 111, 103]⟩ : ByteArray)] vw_2 (ret2 tP (tI .i64) (fun r_3 r_4 vw_3 => ((r_4 ≠ (0 : Int)) → Q false vw_3) ∧
  ((¬ (r_4 ≠ (0 : Int))) → LoopP (α := Int) (fun vi vw_4 vJ => ((vi < (vl.len : Int)) → ixs vl vi (fun b q => ld tSl vw_4 b (q + (vi).toNat * 1) (fun v => (((3000 : Int) < (v.len : Int)) → Q true vw_4) ∧
  ((¬ ((3000 : Int) < (v.len : Int))) → ixs vl vi (fun b_1 q_1 => ld tSl vw_4 b_1 (q_1 + (vi).toNat * 1) (fun v_1 => CallP Tryz.prog n_journal_Journal_Append [.pointer r_3, Sl.v v_1] vw_4 (ret2 (tI .u64) (tI .i64) (fun r_5 r_6 vw_5 => ((r_6 ≠ (0 : Int)) → Q false vw_5) ∧
  ((¬ (r_6 ≠ (0 : Int))) → vJ (IntKind.i64.wrap (vi + (1 : Int))) vw_5))))))))) ∧
  ((¬ (vi < (vl.len : Int))) → CallP Tryz.prog n_disk_Disk_Names [.pointer r_1] vw_4 (ret1 tSl (fun r_7 vw_6 => JoinP (α := Bool) (fun vj_1 vw_7 => ((vj_1 = true) → Q (decide ((vl.len : Int) = (0 : Int))) vw_7) ∧
  ((vj_1 = false) → CallP Tryz.prog n_berthmasterkit_Pick [.int .i64 segment, .int .i64 (r_7.len : Int)] vw_7 (ret1 (tI .i64) (fun r_8 vw_8 => ixs r_7 r_8 (fun b_2 q_2 => ld tS vw_8 b_2 (q_2 + (r_8).toNat * 1) (fun v_2 => CallP Tryz.prog n_disk_Disk_Read [.pointer r_1, .string v_2] vw_8 (ret2 tSl (tI .i64) (fun r_9 r_10 vw_9 => CallP Tryz.prog n_berthmasterkit_Pick [.int .i64 vat, .int .i64 (IntKind.i64.wrap ((8 : Int) * (r_9.len : Int)))] vw_9 (ret1 (tI .i64) (fun r_11 vw_10 => LoopP (α := Bool × Int) (fun vi_1 vw_11 vJ_1 => JoinP (α := Bool) (fun vj_2 vw_12 => ((vj_2 = true) → JoinP (α := Bool) (fun vj_3 vw_13 => vJ_1 (vj_3, (IntKind.i64.wrap (vi_1.2 + (1 : Int)))) vw_13)
  (fun vk_3 => 0 ≤ (IntKind.u64.wrap vi_1.2) ∧ (((bits .and .u32 (shrV .u32 vbits (IntKind.u64.wrap vi_1.2)) (1 : Int)) = (1 : Int)) → 0 ≤ (IntKind.u64.wrap (Int.tmod (IntKind.i64.wrap (r_11 + vi_1.2)) (8 : Int))) ∧ CallP Tryz.prog n_disk_Disk_Turn [.pointer r_1, .string v_2, .int .i64 (IntKind.i64.wrap (Int.tdiv (IntKind.i64.wrap (r_11 + vi_1.2)) (8 : Int))), .int .u8 (shlV .u8 (1 : Int) (IntKind.u64.wrap (Int.tmod (IntKind.i64.wrap (r_11 + vi_1.2)) (8 : Int))))] vw_12 (ret1 (tI .i64) (fun r_12 vw_14 => ((r_12 ≠ (0 : Int)) → Q false vw_14) ∧
  ((¬ (r_12 ≠ (0 : Int))) → vk_3 true vw_14)))) ∧
  ((¬ ((bits .and .u32 (shrV .u32 vbits (IntKind.u64.wrap vi_1.2)) (1 : Int)) = (1 : Int))) → vk_3 vi_1.1 vw_12))) ∧
  ((vj_2 = false) → CallP Tryz.prog n_journal_Open [.pointer r_1, .string (⟨#[108, 111, 103]⟩ : ByteArray)] vw_12 (ret2 tP (tI .i64) (fun r_13 r_14 vw_15 => ((r_14 ≠ (0 : Int)) → Q false vw_15) ∧
  ((¬ (r_14 ≠ (0 : Int))) → CallP Tryz.prog n_journal_Journal_All [.pointer r_13] vw_15 (ret1 tSl (fun r_15 vw_16 => JoinP (α := Bool) (fun vj_4 vw_17 => Q vj_4 vw_17)
  (fun vk_4 => (((r_15.len : Int) ≤ (vl.len : Int)) → 0 ≤ (0 : Int) ∧ (0 : Int) ≤ (r_15.len : Int) ∧ (r_15.len : Int) ≤ (vl.cap : Int) ∧ (vl.cap : Int) ≤ (vl.cap : Int) ∧ CallP Tryz.prog n_berthmasterkit_SameLists [Sl.v r_15, Sl.v (slS vl (0 : Int) (r_15.len : Int) (vl.cap : Int) 1)] vw_16 (ret1 tB (fun r_16 vw_18 => ((r_16 = true) → vk_4 ((decide ((r_15.len : Int) = (vl.len : Int))) == (!vi_1.1)) vw_18) ∧
  ((r_16 = false) → vk_4 false vw_18)))) ∧
  ((¬ ((r_15.len : Int) ≤ (vl.len : Int))) → vk_4 false vw_16)))))))))
  (fun vk_2 => ((vi_1.2 < (32 : Int)) → vk_2 (decide ((IntKind.i64.wrap (r_11 + vi_1.2)) < (IntKind.i64.wrap ((8 : Int) * (r_9.len : Int))))) vw_11) ∧
  ((¬ (vi_1.2 < (32 : Int))) → vk_2 false vw_11))) (false, (0 : Int)) vw_10))))))))))
  (fun vk_1 => CallP Tryz.prog n_journal_Journal_Sync [.pointer r_3] vw_6 (ret1 (tI .i64) (fun r_17 vw_19 => ((r_17 ≠ (0 : Int)) → vk_1 true vw_19) ∧
  ((¬ (r_17 ≠ (0 : Int))) → vk_1 (decide ((r_7.len : Int) = (0 : Int))) vw_19)))))))) (0 : Int) vw_3)))))
  (fun vk => ((r_2 ≠ (0 : Int)) → vk true vw_1) ∧
  ((¬ (r_2 ≠ (0 : Int))) → vk (decide ((120 : Int) < (vl.len : Int))) vw_1)))))))
theorem vc_berthmasterlaw05_JournalAltered (vl : Sl) (segment : Int) (vat : Int) (vbits : Int) (w : World) (Q : Bool → World → Prop) (h : F_berthmasterlaw05_JournalAltered vl segment vat vbits w Q) : CallP Tryz.prog n_berthmasterlaw05_JournalAltered [Sl.v vl, .int .i64 segment, .int .i64 vat, .int .u32 vbits] w (ret1 tB Q) := by
  unfold F_berthmasterlaw05_JournalAltered at h
  refine CallP.of_body 164 Tryz.func3 rfl Tryz.ntmps3 rfl ?_
  refine WC.seq ?_
  refine WC.region ?_
  refine WL.pure (W0 rfl) rfl (Pu.assign rfl rfl) ?_
  refine WL.nil ?_
  refine Lf.thenC ?_
  refine WC.seq ?_
  refine WC.seq ?_
  refine WC.region ?_
  refine WL.call (W0 rfl) rfl (fun xa hxa => run_call (fs := []) (cs := []) (vs := []) rfl rfl rfl Tryz.func5 rfl rfl xa hxa _) h ?_
  rintro _ vw ⟨r, rfl, h⟩
  refine WL.pure (W0 rfl) rfl (Pu.not rfl rfl) ?_
  refine WL.nil ?_
  refine Lf.thenC ?_
  refine WC.cond rfl (fun hc => ?_) (fun hc => ?_)
  · replace h := h.1 hc
    refine WC.seq ?_
    refine WC.region ?_
    refine WL.pure (W0 rfl) rfl (Pu.assign rfl rfl) ?_
    refine WL.nil ?_
    refine Lf.thenC ?_
    refine WC.ret ?_
    exact Lf.ret1 rfl rfl ⟨_, rfl, h⟩
  · replace h := h.2 hc
    refine WC.skip ?_
    refine Lf.thenC ?_
    refine WC.seq ?_
    refine WC.region ?_
    refine WL.call (W0 rfl) rfl (fun xa hxa => run_call (fs := []) (cs := []) (vs := [.int .i64 (1048576)]) rfl rfl rfl Tryz.func6 rfl rfl xa hxa _) h ?_
    rintro _ vw_1 ⟨r_1, r_2, rfl, h⟩
    refine WL.pure (W0 rfl) rfl (Pu.move rfl rfl) ?_
    refine WL.pure (W0 rfl) rfl (Pu.extract (vs := [.pointer r_1, .int .i64 r_2]) rfl rfl rfl) ?_
    refine WL.pure (W0 rfl) rfl (Pu.extract (vs := [.pointer r_1, .int .i64 r_2]) rfl rfl rfl) ?_
    refine WL.pure (W0 rfl) rfl (Pu.assign rfl rfl) ?_
    refine WL.pure (W0 rfl) rfl (Pu.assign rfl rfl) ?_
    refine WL.nil ?_
    refine Lf.thenC ?_
    refine WC.seq ?_
    obtain ⟨vk, h2, h⟩ := h
    refine WC.cut (α := Bool) (k := vk) (fun vj => [(35, .bool vj), (0, Sl.v vl), (1, .int .i64 segment), (2, .int .i64 vat), (3, .int .u32 vbits), (9, .pointer r_1), (10, .int .i64 r_2)]) (fun vj vw_2 h => ?_) ?_
    · replace h := h2 _ _ h
      clear h2
      refine WC.cond rfl (fun hc => ?_) (fun hc => ?_)
      · replace h := h.1 hc
        refine WC.seq ?_
        refine WC.region ?_
        refine WL.pure (W0 rfl) rfl (Pu.move rfl rfl) ?_
        refine WL.pure (W0 rfl) rfl (Pu.eql rfl rfl rfl) ?_
        refine WL.pure (W0 rfl) rfl (Pu.assign rfl rfl) ?_
        refine WL.nil ?_
        refine Lf.thenC ?_
        refine WC.ret ?_
        exact Lf.ret1 rfl rfl ⟨_, rfl, h⟩
      · replace h := h.2 hc
        refine WC.skip ?_
        refine Lf.thenC ?_
        refine WC.seq ?_
        refine WC.region ?_
        refine WL.pure (W0 rfl) rfl (Pu.move rfl rfl) ?_
        refine WL.call (W0 rfl) rfl (fun xa hxa => run_call (fs := []) (cs := []) (vs := [.pointer r_1, .string (⟨#[108, 111, 103]⟩ : ByteArray)]) rfl rfl rfl Tryz.func7 rfl rfl xa hxa _) h ?_
        rintro _ vw_3 ⟨r_3, r_4, rfl, h⟩
        refine WL.pure (W0 rfl) rfl (Pu.move rfl rfl) ?_
        refine WL.pure (W0 rfl) rfl (Pu.extract (vs := [.pointer r_3, .int .i64 r_4]) rfl rfl rfl) ?_
        refine WL.pure (W0 rfl) rfl (Pu.extract (vs := [.pointer r_3, .int .i64 r_4]) rfl rfl rfl) ?_
        refine WL.pure (W0 rfl) rfl (Pu.assign rfl rfl) ?_
        refine WL.pure (W0 rfl) rfl (Pu.assign rfl rfl) ?_
        refine WL.nil ?_
        refine Lf.thenC ?_
        refine WC.seq ?_
        refine WC.seq ?_
        refine WC.region ?_
        refine WL.pure (W0 rfl) rfl (Pu.move rfl rfl) ?_
        refine WL.pure (W0 rfl) rfl (Pu.neq rfl rfl rfl) ?_
        refine WL.nil ?_
        refine Lf.thenC ?_
        refine WC.condD rfl (fun hc => ?_) (fun hc => ?_)
        · replace h := h.1 hc
          refine WC.seq ?_
          refine WC.region ?_
          refine WL.pure (W0 rfl) rfl (Pu.assign rfl rfl) ?_
          refine WL.nil ?_
          refine Lf.thenC ?_
          refine WC.ret ?_
          exact Lf.ret1 rfl rfl ⟨_, rfl, h⟩
        · replace h := h.2 hc
          refine WC.skip ?_
          refine Lf.thenC ?_
          refine WC.seq ?_
          refine WC.seq ?_
          refine WC.region ?_
          refine WL.pure (W0 rfl) rfl (Pu.assign rfl rfl) ?_
          refine WL.nil ?_
          refine Lf.thenC ?_
          refine WC.block ?_
          refine WC.loop (α := Int) (fun vi => [(12, .int .i64 vi), (0, Sl.v vl), (1, .int .i64 segment), (2, .int .i64 vat), (3, .int .u32 vbits), (9, .pointer r_1), (11, .pointer r_3)]) (0 : Int) (by exact ⟨rfl, rfl, rfl, rfl, rfl, rfl, rfl, trivial⟩) h (fun vJ vi vw_4 h => ?_)
          refine WC.seq ?_
          refine WC.seq ?_
          refine WC.region ?_
          refine WL.pure (W0 rfl) rfl (Pu.move rfl rfl) ?_
          refine WL.pure (W0 rfl) rfl (Pu.move rfl rfl) ?_
          refine WL.pure (W0 rfl) rfl (Pu.len rfl Tryz.underlying22 rfl) ?_
          refine WL.pure (W0 rfl) rfl (Pu.lss rfl rfl rfl) ?_
          refine WL.nil ?_
          refine Lf.thenC ?_
          refine WC.condD rfl (fun hc => ?_) (fun hc => ?_)
          · replace h := h.1 hc
            refine WC.skip ?_
            refine Lf.thenC ?_
            refine WC.seq ?_
            refine WC.block ?_
            refine WC.seq ?_
            refine WC.seq ?_
            refine WC.region ?_
            refine WL.pure (W0 rfl) rfl (Pu.move rfl rfl) ?_
            refine WL.pure (W0 rfl) rfl (Pu.move rfl rfl) ?_
            obtain ⟨hi0, hi1, b, q, hs, h⟩ := h
            refine WL.pure (W0 rfl) rfl (Pu.indexAddr rfl Tryz.underlying22 sz_32 rfl rfl hs hi0 hi1) ?_
            obtain ⟨v, hl, h⟩ := h
            refine WL.val (W0 rfl) rfl (fun xa hxa => Rd.load ok_32 rfl rfl xa hxa _ hl) ?_
            refine WL.pure (W0 rfl) rfl (Pu.len rfl Tryz.underlying32 rfl) ?_
            refine WL.pure (W0 rfl) rfl (Pu.gtr rfl rfl rfl) ?_
            refine WL.nil ?_
            refine Lf.thenC ?_
            refine WC.condD rfl (fun hc => ?_) (fun hc => ?_)
            · replace h := h.1 hc
              refine WC.seq ?_
              refine WC.region ?_
              refine WL.pure (W0 rfl) rfl (Pu.assign rfl rfl) ?_
              refine WL.nil ?_
              refine Lf.thenC ?_
              refine WC.ret ?_
              exact Lf.ret1 rfl rfl ⟨_, rfl, h⟩
            · replace h := h.2 hc
              refine WC.skip ?_
              refine Lf.thenC ?_
              refine WC.seq ?_
              refine WC.region ?_
              refine WL.pure (W0 rfl) rfl (Pu.move rfl rfl) ?_
              refine WL.pure (W0 rfl) rfl (Pu.move rfl rfl) ?_
              refine WL.pure (W0 rfl) rfl (Pu.move rfl rfl) ?_
              obtain ⟨hi0, hi1, b_1, q_1, hs, h⟩ := h
              refine WL.pure (W0 rfl) rfl (Pu.indexAddr rfl Tryz.underlying22 sz_32 rfl rfl hs hi0 hi1) ?_
              obtain ⟨v_1, hl, h⟩ := h
              refine WL.val (W0 rfl) rfl (fun xa hxa => Rd.load ok_32 rfl rfl xa hxa _ hl) ?_
              refine WL.call (W0 rfl) rfl (fun xa hxa => run_call (fs := []) (cs := []) (vs := [.pointer r_3, Sl.v v_1]) rfl rfl rfl Tryz.func8 rfl rfl xa hxa _) h ?_
              rintro _ vw_5 ⟨r_5, r_6, rfl, h⟩
              refine WL.pure (W0 rfl) rfl (Pu.move rfl rfl) ?_
              refine WL.pure (W0 rfl) rfl (Pu.extract (vs := [.int .u64 r_5, .int .i64 r_6]) rfl rfl rfl) ?_
              refine WL.pure (W0 rfl) rfl (Pu.extract (vs := [.int .u64 r_5, .int .i64 r_6]) rfl rfl rfl) ?_
              refine WL.pure (W0 rfl) rfl (Pu.assign rfl rfl) ?_
              refine WL.pure (W0 rfl) rfl (Pu.assign rfl rfl) ?_
              refine WL.nil ?_
              refine Lf.thenC ?_
              refine WC.seq ?_
              refine WC.region ?_
              refine WL.pure (W0 rfl) rfl (Pu.move rfl rfl) ?_
              refine WL.pure (W0 rfl) rfl (Pu.neq rfl rfl rfl) ?_
              refine WL.nil ?_
              refine Lf.thenC ?_
              refine WC.condD rfl (fun hc => ?_) (fun hc => ?_)
              · replace h := h.1 hc
                refine WC.seq ?_
                refine WC.region ?_
                refine WL.pure (W0 rfl) rfl (Pu.assign rfl rfl) ?_
                refine WL.nil ?_
                refine Lf.thenC ?_
                refine WC.ret ?_
                exact Lf.ret1 rfl rfl ⟨_, rfl, h⟩
              · replace h := h.2 hc
                refine WC.skip ?_
                refine Lf.thenC ?_
                refine WC.region ?_
                refine WL.pure (W0 rfl) rfl (Pu.move rfl rfl) ?_
                refine WL.pure (W0 rfl) rfl (Pu.add rfl rfl rfl) ?_
                refine WL.pure (W0 rfl) rfl (Pu.assign rfl rfl) ?_
                refine WL.nil ?_
                exact Lf.joinA (IntKind.i64.wrap (vi + (1 : Int))) (by exact ⟨rfl, rfl, rfl, rfl, rfl, rfl, rfl, trivial⟩) h
          · replace h := h.2 hc
            refine WC.exit rfl ?_
            refine Lf.thenC ?_
            refine WC.seq ?_
            refine WC.region ?_
            refine WL.pure (W0 rfl) rfl (Pu.move rfl rfl) ?_
            refine WL.call (W0 rfl) rfl (fun xa hxa => run_call (fs := []) (cs := []) (vs := [.pointer r_1]) rfl rfl rfl Tryz.func9 rfl rfl xa hxa _) h ?_
            rintro _ vw_6 ⟨r_7, rfl, h⟩
            refine WL.pure (W0 rfl) rfl (Pu.assign rfl rfl) ?_
            refine WL.nil ?_
            refine Lf.thenC ?_
            refine WC.seq ?_
            obtain ⟨vk_1, h2, h⟩ := h
            refine WC.cut (α := Bool) (k := vk_1) (fun vj_1 => [(77, .bool vj_1), (0, Sl.v vl), (1, .int .i64 segment), (2, .int .i64 vat), (3, .int .u32 vbits), (9, .pointer r_1), (15, Sl.v r_7)]) (fun vj_1 vw_7 h => ?_) ?_
            · replace h := h2 _ _ h
              clear h2
              refine WC.cond rfl (fun hc => ?_) (fun hc => ?_)
              · replace h := h.1 hc
                refine WC.seq ?_
                refine WC.region ?_
                refine WL.pure (W0 rfl) rfl (Pu.move rfl rfl) ?_
                refine WL.pure (W0 rfl) rfl (Pu.len rfl Tryz.underlying22 rfl) ?_
                refine WL.pure (W0 rfl) rfl (Pu.eql rfl rfl rfl) ?_
                refine WL.pure (W0 rfl) rfl (Pu.assign rfl rfl) ?_
                refine WL.nil ?_
                refine Lf.thenC ?_
                refine WC.ret ?_
                exact Lf.ret1 rfl rfl ⟨_, rfl, h⟩
              · replace h := h.2 hc
                refine WC.skip ?_
                refine Lf.thenC ?_
                refine WC.seq ?_
                refine WC.region ?_
                refine WL.pure (W0 rfl) rfl (Pu.move rfl rfl) ?_
                refine WL.pure (W0 rfl) rfl (Pu.move rfl rfl) ?_
                refine WL.pure (W0 rfl) rfl (Pu.move rfl rfl) ?_
                refine WL.pure (W0 rfl) rfl (Pu.len rfl Tryz.underlying36 rfl) ?_
                refine WL.call (W0 rfl) rfl (fun xa hxa => run_call (fs := []) (cs := []) (vs := [.int .i64 segment, .int .i64 (r_7.len : Int)]) rfl rfl rfl Tryz.func11 rfl rfl xa hxa _) h ?_
                rintro _ vw_8 ⟨r_8, rfl, h⟩
                obtain ⟨hi0, hi1, b_2, q_2, hs, h⟩ := h
                refine WL.pure (W0 rfl) rfl (Pu.indexAddr rfl Tryz.underlying36 sz_9 rfl rfl hs hi0 hi1) ?_
                obtain ⟨v_2, hl, h⟩ := h
                refine WL.val (W0 rfl) rfl (fun xa hxa => Rd.load ok_9 rfl rfl xa hxa _ hl) ?_
                refine WL.pure (W0 rfl) rfl (Pu.assign rfl rfl) ?_
                refine WL.nil ?_
                refine Lf.thenC ?_
                refine WC.seq ?_
                refine WC.region ?_
                refine WL.pure (W0 rfl) rfl (Pu.move rfl rfl) ?_
                refine WL.pure (W0 rfl) rfl (Pu.move rfl rfl) ?_
                refine WL.call (W0 rfl) rfl (fun xa hxa => run_call (fs := []) (cs := []) (vs := [.pointer r_1, .string v_2]) rfl rfl rfl Tryz.func12 rfl rfl xa hxa _) h ?_
                rintro _ vw_9 ⟨r_9, r_10, rfl, h⟩
                refine WL.pure (W0 rfl) rfl (Pu.move rfl rfl) ?_
                refine WL.pure (W0 rfl) rfl (Pu.extract (vs := [Sl.v r_9, .int .i64 r_10]) rfl rfl rfl) ?_
                refine WL.pure (W0 rfl) rfl (Pu.extract (vs := [Sl.v r_9, .int .i64 r_10]) rfl rfl rfl) ?_
                refine WL.pure (W0 rfl) rfl (Pu.assign rfl rfl) ?_
                refine WL.pure (W0 rfl) rfl (Pu.assign rfl rfl) ?_
                refine WL.nil ?_
                refine Lf.thenC ?_
                refine WC.seq ?_
                refine WC.region ?_
                refine WL.pure (W0 rfl) rfl (Pu.move rfl rfl) ?_
                refine WL.pure (W0 rfl) rfl (Pu.move rfl rfl) ?_
                refine WL.pure (W0 rfl) rfl (Pu.len rfl Tryz.underlying32 rfl) ?_
                refine WL.pure (W0 rfl) rfl (Pu.mul rfl rfl rfl) ?_
                refine WL.call (W0 rfl) rfl (fun xa hxa => run_call (fs := []) (cs := []) (vs := [.int .i64 vat, .int .i64 (IntKind.i64.wrap ((8 : Int) * (r_9.len : Int)))]) rfl rfl rfl Tryz.func11 rfl rfl xa hxa _) h ?_
                rintro _ vw_10 ⟨r_11, rfl, h⟩
                refine WL.pure (W0 rfl) rfl (Pu.assign rfl rfl) ?_
                refine WL.nil ?_
                refine Lf.thenC ?_
                refine WC.seq ?_
                refine WC.region ?_
                refine WL.pure (W0 rfl) rfl (Pu.assign rfl rfl) ?_
                refine WL.nil ?_
                refine Lf.thenC ?_
                refine WC.seq ?_
                refine WC.seq ?_
                refine WC.region ?_
                refine WL.pure (W0 rfl) rfl (Pu.assign rfl rfl) ?_
                refine WL.nil ?_
                refine Lf.thenC ?_
                refine WC.block ?_
                refine WC.loop (α := Bool × Int) (fun vi_1 => [(20, .bool vi_1.1), (21, .int .i64 vi_1.2), (0, Sl.v vl), (3, .int .u32 vbits), (9, .pointer r_1), (16, .string v_2), (17, Sl.v r_9), (19, .int .i64 r_11)]) (false, (0 : Int)) (by exact ⟨rfl, rfl, rfl, rfl, rfl, rfl, rfl, rfl, trivial⟩) h (fun vJ_1 vi_1 vw_11 h => ?_)
                refine WC.seq ?_
                obtain ⟨vk_2, h2, h⟩ := h
                refine WC.cut (α := Bool) (k := vk_2) (fun vj_2 => [(109, .bool vj_2), (0, Sl.v vl), (3, .int .u32 vbits), (9, .pointer r_1), (16, .string v_2), (17, Sl.v r_9), (19, .int .i64 r_11), (20, .bool vi_1.1), (21, .int .i64 vi_1.2)]) (fun vj_2 vw_12 h => ?_) ?_
                · replace h := h2 _ _ h
                  clear h2
                  refine WC.cond rfl (fun hc => ?_) (fun hc => ?_)
                  · replace h := h.1 hc
                    refine WC.skip ?_
                    refine Lf.thenC ?_
                    obtain ⟨vk_3, h2, h⟩ := h
                    refine WC.cut (α := Bool) (k := vk_3) (fun vj_3 => [(20, .bool vj_3), (0, Sl.v vl), (3, .int .u32 vbits), (9, .pointer r_1), (16, .string v_2), (17, Sl.v r_9), (19, .int .i64 r_11), (21, .int .i64 vi_1.2)]) (fun vj_3 vw_13 h => ?_) ?_
                    · replace h := h2 _ _ h
                      clear h2
                      refine WC.region ?_
                      refine WL.pure (W0 rfl) rfl (Pu.move rfl rfl) ?_
                      refine WL.pure (W0 rfl) rfl (Pu.add rfl rfl rfl) ?_
                      refine WL.pure (W0 rfl) rfl (Pu.assign rfl rfl) ?_
                      refine WL.nil ?_
                      exact Lf.joinA (vj_3, (IntKind.i64.wrap (vi_1.2 + (1 : Int)))) (by exact ⟨rfl, rfl, rfl, rfl, rfl, rfl, rfl, rfl, trivial⟩) h
                    · clear h2
                      refine WC.block ?_
                      refine WC.seq ?_
                      refine WC.region ?_
                      refine WL.pure (W0 rfl) rfl (Pu.move rfl rfl) ?_
                      refine WL.pure (W0 rfl) rfl (Pu.move rfl rfl) ?_
                      refine WL.pure (W0 rfl) rfl (Pu.conv rfl (by rw [Tryz.underlying3]; rfl) Tryz.underlying42 rfl) ?_
                      obtain ⟨hj, h⟩ := h
                      refine WL.pure (W0 rfl) rfl (Pu.shr rfl rfl rfl hj) ?_
                      refine WL.pure (W0 rfl) rfl (Pu.and rfl rfl rfl) ?_
                      refine WL.pure (W0 rfl) rfl (Pu.eql rfl rfl rfl) ?_
                      refine WL.nil ?_
                      refine Lf.thenC ?_
                      refine WC.condD rfl (fun hc => ?_) (fun hc => ?_)
                      · replace h := h.1 hc
                        refine WC.seq ?_
                        refine WC.region ?_
                        refine WL.pure (W0 rfl) rfl (Pu.assign rfl rfl) ?_
                        refine WL.nil ?_
                        refine Lf.thenC ?_
                        refine WC.seq ?_
                        refine WC.region ?_
                        refine WL.pure (W0 rfl) rfl (Pu.move rfl rfl) ?_
                        refine WL.pure (W0 rfl) rfl (Pu.move rfl rfl) ?_
                        refine WL.pure (W0 rfl) rfl (Pu.move rfl rfl) ?_
                        refine WL.pure (W0 rfl) rfl (Pu.move rfl rfl) ?_
                        refine WL.pure (W0 rfl) rfl (Pu.add rfl rfl rfl) ?_
                        refine WL.pure (W0 rfl) rfl (Pu.quo rfl rfl rfl (by decide)) ?_
                        refine WL.pure (W0 rfl) rfl (Pu.move rfl rfl) ?_
                        refine WL.pure (W0 rfl) rfl (Pu.move rfl rfl) ?_
                        refine WL.pure (W0 rfl) rfl (Pu.add rfl rfl rfl) ?_
                        refine WL.pure (W0 rfl) rfl (Pu.rem rfl rfl rfl (by decide)) ?_
                        refine WL.pure (W0 rfl) rfl (Pu.conv rfl (by rw [Tryz.underlying3]; rfl) Tryz.underlying42 rfl) ?_
                        obtain ⟨hj, h⟩ := h
                        refine WL.pure (W0 rfl) rfl (Pu.shl rfl rfl rfl hj) ?_
                        refine WL.call (W0 rfl) rfl (fun xa hxa => run_call (fs := []) (cs := []) (vs := [.pointer r_1, .string v_2, .int .i64 (IntKind.i64.wrap (Int.tdiv (IntKind.i64.wrap (r_11 + vi_1.2)) (8 : Int))), .int .u8 (shlV .u8 (1 : Int) (IntKind.u64.wrap (Int.tmod (IntKind.i64.wrap (r_11 + vi_1.2)) (8 : Int))))]) rfl rfl rfl Tryz.func13 rfl rfl xa hxa _) h ?_
                        rintro _ vw_14 ⟨r_12, rfl, h⟩
                        refine WL.pure (W0 rfl) rfl (Pu.neq rfl rfl rfl) ?_
                        refine WL.nil ?_
                        refine Lf.thenC ?_
                        refine WC.condD rfl (fun hc => ?_) (fun hc => ?_)
                        · replace h := h.1 hc
                          refine WC.seq ?_
                          refine WC.region ?_
                          refine WL.pure (W0 rfl) rfl (Pu.assign rfl rfl) ?_
                          refine WL.nil ?_
                          refine Lf.thenC ?_
                          refine WC.ret ?_
                          exact Lf.ret1 rfl rfl ⟨_, rfl, h⟩
                        · replace h := h.2 hc
                          refine WC.skip ?_
                          exact Lf.joinA true (by exact ⟨rfl, rfl, rfl, rfl, rfl, rfl, rfl, rfl, trivial⟩) h
                      · replace h := h.2 hc
                        refine WC.skip ?_
                        exact Lf.joinA vi_1.1 (by exact ⟨rfl, rfl, rfl, rfl, rfl, rfl, rfl, rfl, trivial⟩) h
                  · replace h := h.2 hc
                    refine WC.exit rfl ?_
                    refine Lf.thenC ?_
                    refine WC.seq ?_
                    refine WC.region ?_
                    refine WL.pure (W0 rfl) rfl (Pu.move rfl rfl) ?_
                    refine WL.call (W0 rfl) rfl (fun xa hxa => run_call (fs := []) (cs := []) (vs := [.pointer r_1, .string (⟨#[108, 111, 103]⟩ : ByteArray)]) rfl rfl rfl Tryz.func7 rfl rfl xa hxa _) h ?_
                    rintro _ vw_15 ⟨r_13, r_14, rfl, h⟩
                    refine WL.pure (W0 rfl) rfl (Pu.move rfl rfl) ?_
                    refine WL.pure (W0 rfl) rfl (Pu.extract (vs := [.pointer r_13, .int .i64 r_14]) rfl rfl rfl) ?_
                    refine WL.pure (W0 rfl) rfl (Pu.extract (vs := [.pointer r_13, .int .i64 r_14]) rfl rfl rfl) ?_
                    refine WL.pure (W0 rfl) rfl (Pu.assign rfl rfl) ?_
                    refine WL.pure (W0 rfl) rfl (Pu.assign rfl rfl) ?_
                    refine WL.nil ?_
                    refine Lf.thenC ?_
                    refine WC.seq ?_
                    refine WC.seq ?_
                    refine WC.region ?_
                    refine WL.pure (W0 rfl) rfl (Pu.move rfl rfl) ?_
                    refine WL.pure (W0 rfl) rfl (Pu.neq rfl rfl rfl) ?_
                    refine WL.nil ?_
                    refine Lf.thenC ?_
                    refine WC.condD rfl (fun hc => ?_) (fun hc => ?_)
                    · replace h := h.1 hc
                      refine WC.seq ?_
                      refine WC.region ?_
                      refine WL.pure (W0 rfl) rfl (Pu.assign rfl rfl) ?_
                      refine WL.nil ?_
                      refine Lf.thenC ?_
                      refine WC.ret ?_
                      exact Lf.ret1 rfl rfl ⟨_, rfl, h⟩
                    · replace h := h.2 hc
                      refine WC.skip ?_
                      refine Lf.thenC ?_
                      refine WC.seq ?_
                      refine WC.region ?_
                      refine WL.pure (W0 rfl) rfl (Pu.move rfl rfl) ?_
                      refine WL.call (W0 rfl) rfl (fun xa hxa => run_call (fs := []) (cs := []) (vs := [.pointer r_13]) rfl rfl rfl Tryz.func14 rfl rfl xa hxa _) h ?_
                      rintro _ vw_16 ⟨r_15, rfl, h⟩
                      refine WL.pure (W0 rfl) rfl (Pu.assign rfl rfl) ?_
                      refine WL.nil ?_
                      refine Lf.thenC ?_
                      obtain ⟨vk_4, h2, h⟩ := h
                      refine WC.cut (α := Bool) (k := vk_4) (fun vj_4 => [(8, .bool vj_4)]) (fun vj_4 vw_17 h => ?_) ?_
                      · replace h := h2 _ _ h
                        clear h2
                        refine WC.ret ?_
                        exact Lf.ret1 rfl rfl ⟨_, rfl, h⟩
                      · clear h2
                        refine WC.region ?_
                        refine WL.pure (W0 rfl) rfl (Pu.move rfl rfl) ?_
                        refine WL.pure (W0 rfl) rfl (Pu.len rfl Tryz.underlying22 rfl) ?_
                        refine WL.pure (W0 rfl) rfl (Pu.move rfl rfl) ?_
                        refine WL.pure (W0 rfl) rfl (Pu.len rfl Tryz.underlying22 rfl) ?_
                        refine WL.pure (W0 rfl) rfl (Pu.leq rfl rfl rfl) ?_
                        refine WL.pure (W0 rfl) rfl (Pu.move rfl rfl) ?_
                        refine WL.boolD (t := 146) rfl (fun hc => ?_) (fun hc => ?_)
                        · replace h := h.1 hc
                          refine WL.pure (W1 (t := 146) rfl rfl rfl rfl) rfl (Pu.move rfl rfl) ?_
                          refine WL.pure (W1 (t := 146) rfl rfl rfl rfl) rfl (Pu.move rfl rfl) ?_
                          refine WL.pure (W1 (t := 146) rfl rfl rfl rfl) rfl (Pu.move rfl rfl) ?_
                          refine WL.pure (W1 (t := 146) rfl rfl rfl rfl) rfl (Pu.len rfl Tryz.underlying22 rfl) ?_
                          obtain ⟨hi0, hi1, hi2, hi3, h⟩ := h
                          refine WL.pure (W1 (t := 146) rfl rfl rfl rfl) rfl (Pu.slice rfl Tryz.underlying22 sz_32 rfl rfl rfl rfl rfl hi0 hi1 hi2 hi3) ?_
                          refine WL.call (W1 (t := 146) rfl rfl rfl rfl) rfl (fun xa hxa => run_call (fs := []) (cs := []) (vs := [Sl.v r_15, Sl.v (slS vl (0 : Int) (r_15.len : Int) (vl.cap : Int) 1)]) rfl rfl rfl Tryz.func15 rfl rfl xa hxa _) h ?_
                          rintro _ vw_18 ⟨r_16, rfl, h⟩
                          refine WL.pure (W0 rfl) rfl (Pu.pickT rfl rfl rfl) ?_
                          refine WL.pure (W0 rfl) rfl (Pu.move rfl rfl) ?_
                          refine WL.bool (t := 154) rfl (fun hc => ?_) (fun hc => ?_)
                          · replace h := h.1 hc
                            refine WL.pure (W1 (t := 154) rfl rfl rfl rfl) rfl (Pu.move rfl rfl) ?_
                            refine WL.pure (W1 (t := 154) rfl rfl rfl rfl) rfl (Pu.len rfl Tryz.underlying22 rfl) ?_
                            refine WL.pure (W1 (t := 154) rfl rfl rfl rfl) rfl (Pu.move rfl rfl) ?_
                            refine WL.pure (W1 (t := 154) rfl rfl rfl rfl) rfl (Pu.len rfl Tryz.underlying22 rfl) ?_
                            refine WL.pure (W1 (t := 154) rfl rfl rfl rfl) rfl (Pu.eql rfl rfl rfl) ?_
                            refine WL.pure (W1 (t := 154) rfl rfl rfl rfl) rfl (Pu.move rfl rfl) ?_
                            refine WL.pure (W1 (t := 154) rfl rfl rfl rfl) rfl (Pu.not rfl rfl) ?_
                            refine WL.pure (W1 (t := 154) rfl rfl rfl rfl) rfl (Pu.beql rfl Tryz.underlying4 rfl rfl) ?_
                            refine WL.pure (W0 rfl) rfl (Pu.pickT rfl rfl rfl) ?_
                            refine WL.pure (W0 rfl) rfl (Pu.assign rfl rfl) ?_
                            refine WL.nil ?_
                            exact Lf.joinA ((decide ((r_15.len : Int) = (vl.len : Int))) == (!vi_1.1)) (by exact ⟨rfl, trivial⟩) h
                          · replace h := h.2 hc
                            refine WL.unwanted (t := 154) rfl rfl rfl rfl rfl rfl ?_
                            refine WL.unwanted (t := 154) rfl rfl rfl rfl rfl rfl ?_
                            refine WL.unwanted (t := 154) rfl rfl rfl rfl rfl rfl ?_
                            refine WL.unwanted (t := 154) rfl rfl rfl rfl rfl rfl ?_
                            refine WL.unwanted (t := 154) rfl rfl rfl rfl rfl rfl ?_
                            refine WL.unwanted (t := 154) rfl rfl rfl rfl rfl rfl ?_
                            refine WL.unwanted (t := 154) rfl rfl rfl rfl rfl rfl ?_
                            refine WL.unwanted (t := 154) rfl rfl rfl rfl rfl rfl ?_
                            refine WL.pure (W0 rfl) rfl (Pu.pickF rfl rfl rfl) ?_
                            refine WL.pure (W0 rfl) rfl (Pu.assign rfl rfl) ?_
                            refine WL.nil ?_
                            exact Lf.joinA false (by exact ⟨rfl, trivial⟩) h
                        · replace h := h.2 hc
                          refine WL.unwanted (t := 146) rfl rfl rfl rfl rfl rfl ?_
                          refine WL.unwanted (t := 146) rfl rfl rfl rfl rfl rfl ?_
                          refine WL.unwanted (t := 146) rfl rfl rfl rfl rfl rfl ?_
                          refine WL.unwanted (t := 146) rfl rfl rfl rfl rfl rfl ?_
                          refine WL.unwanted (t := 146) rfl rfl rfl rfl rfl rfl ?_
                          refine WL.unwanted (t := 146) rfl rfl rfl rfl rfl rfl ?_
                          refine WL.pure (W0 rfl) rfl (Pu.pickF rfl rfl rfl) ?_
                          refine WL.pure (W0 rfl) rfl (Pu.move rfl rfl) ?_
                          refine WL.unwanted (t := 154) rfl rfl rfl rfl rfl rfl ?_
                          refine WL.unwanted (t := 154) rfl rfl rfl rfl rfl rfl ?_
                          refine WL.unwanted (t := 154) rfl rfl rfl rfl rfl rfl ?_
                          refine WL.unwanted (t := 154) rfl rfl rfl rfl rfl rfl ?_
                          refine WL.unwanted (t := 154) rfl rfl rfl rfl rfl rfl ?_
                          refine WL.unwanted (t := 154) rfl rfl rfl rfl rfl rfl ?_
                          refine WL.unwanted (t := 154) rfl rfl rfl rfl rfl rfl ?_
                          refine WL.unwanted (t := 154) rfl rfl rfl rfl rfl rfl ?_
                          refine WL.pure (W0 rfl) rfl (Pu.pickF rfl rfl rfl) ?_
                          refine WL.pure (W0 rfl) rfl (Pu.assign rfl rfl) ?_
                          refine WL.nil ?_
                          exact Lf.joinA false (by exact ⟨rfl, trivial⟩) h
                · clear h2
                  refine WC.region ?_
                  refine WL.pure (W0 rfl) rfl (Pu.move rfl rfl) ?_
                  refine WL.pure (W0 rfl) rfl (Pu.lss rfl rfl rfl) ?_
                  refine WL.pure (W0 rfl) rfl (Pu.move rfl rfl) ?_
                  refine WL.boolD (t := 101) rfl (fun hc => ?_) (fun hc => ?_)
                  · replace h := h.1 hc
                    refine WL.pure (W1 (t := 101) rfl rfl rfl rfl) rfl (Pu.move rfl rfl) ?_
                    refine WL.pure (W1 (t := 101) rfl rfl rfl rfl) rfl (Pu.move rfl rfl) ?_
                    refine WL.pure (W1 (t := 101) rfl rfl rfl rfl) rfl (Pu.add rfl rfl rfl) ?_
                    refine WL.pure (W1 (t := 101) rfl rfl rfl rfl) rfl (Pu.move rfl rfl) ?_
                    refine WL.pure (W1 (t := 101) rfl rfl rfl rfl) rfl (Pu.len rfl Tryz.underlying32 rfl) ?_
                    refine WL.pure (W1 (t := 101) rfl rfl rfl rfl) rfl (Pu.mul rfl rfl rfl) ?_
                    refine WL.pure (W1 (t := 101) rfl rfl rfl rfl) rfl (Pu.lss rfl rfl rfl) ?_
                    refine WL.pure (W0 rfl) rfl (Pu.pickT rfl rfl rfl) ?_
                    refine WL.nil ?_
                    exact Lf.joinA (decide ((IntKind.i64.wrap (r_11 + vi_1.2)) < (IntKind.i64.wrap ((8 : Int) * (r_9.len : Int))))) (by exact ⟨rfl, rfl, rfl, rfl, rfl, rfl, rfl, rfl, rfl, trivial⟩) h
                  · replace h := h.2 hc
                    refine WL.unwanted (t := 101) rfl rfl rfl rfl rfl rfl ?_
                    refine WL.unwanted (t := 101) rfl rfl rfl rfl rfl rfl ?_
                    refine WL.unwanted (t := 101) rfl rfl rfl rfl rfl rfl ?_
                    refine WL.unwanted (t := 101) rfl rfl rfl rfl rfl rfl ?_
                    refine WL.unwanted (t := 101) rfl rfl rfl rfl rfl rfl ?_
                    refine WL.unwanted (t := 101) rfl rfl rfl rfl rfl rfl ?_
                    refine WL.unwanted (t := 101) rfl rfl rfl rfl rfl rfl ?_
                    refine WL.pure (W0 rfl) rfl (Pu.pickF rfl rfl rfl) ?_
                    refine WL.nil ?_
                    exact Lf.joinA false (by exact ⟨rfl, rfl, rfl, rfl, rfl, rfl, rfl, rfl, rfl, trivial⟩) h
            · clear h2
              refine WC.region ?_
              refine WL.pure (W0 rfl) rfl (Pu.move rfl rfl) ?_
              refine WL.call (W0 rfl) rfl (fun xa hxa => run_call (fs := []) (cs := []) (vs := [.pointer r_3]) rfl rfl rfl Tryz.func10 rfl rfl xa hxa _) h ?_
              rintro _ vw_19 ⟨r_17, rfl, h⟩
              refine WL.pure (W0 rfl) rfl (Pu.neq rfl rfl rfl) ?_
              refine WL.pure (W0 rfl) rfl (Pu.move rfl rfl) ?_
              refine WL.boolD (t := 73) rfl (fun hc => ?_) (fun hc => ?_)
              · replace h := h.1 hc
                refine WL.unwanted (t := 73) rfl rfl rfl rfl rfl rfl ?_
                refine WL.unwanted (t := 73) rfl rfl rfl rfl rfl rfl ?_
                refine WL.unwanted (t := 73) rfl rfl rfl rfl rfl rfl ?_
                refine WL.pure (W0 rfl) rfl (Pu.pickT rfl rfl rfl) ?_
                refine WL.nil ?_
                exact Lf.joinA true (by exact ⟨rfl, rfl, rfl, rfl, rfl, rfl, rfl, trivial⟩) h
              · replace h := h.2 hc
                refine WL.pure (W1 (t := 73) rfl rfl rfl rfl) rfl (Pu.move rfl rfl) ?_
                refine WL.pure (W1 (t := 73) rfl rfl rfl rfl) rfl (Pu.len rfl Tryz.underlying36 rfl) ?_
                refine WL.pure (W1 (t := 73) rfl rfl rfl rfl) rfl (Pu.eql rfl rfl rfl) ?_
                refine WL.pure (W0 rfl) rfl (Pu.pickF rfl rfl rfl) ?_
                refine WL.nil ?_
                exact Lf.joinA (decide ((r_7.len : Int) = (0 : Int))) (by exact ⟨rfl, rfl, rfl, rfl, rfl, rfl, rfl, trivial⟩) h
    · clear h2
      refine WC.region ?_
      refine WL.pure (W0 rfl) rfl (Pu.move rfl rfl) ?_
      refine WL.pure (W0 rfl) rfl (Pu.neq rfl rfl rfl) ?_
      refine WL.pure (W0 rfl) rfl (Pu.move rfl rfl) ?_
      refine WL.boolD (t := 31) rfl (fun hc => ?_) (fun hc => ?_)
      · replace h := h.1 hc
        refine WL.unwanted (t := 31) rfl rfl rfl rfl rfl rfl ?_
        refine WL.unwanted (t := 31) rfl rfl rfl rfl rfl rfl ?_
        refine WL.unwanted (t := 31) rfl rfl rfl rfl rfl rfl ?_
        refine WL.pure (W0 rfl) rfl (Pu.pickT rfl rfl rfl) ?_
        refine WL.nil ?_
        exact Lf.joinA true (by exact ⟨rfl, rfl, rfl, rfl, rfl, rfl, rfl, trivial⟩) h
      · replace h := h.2 hc
        refine WL.pure (W1 (t := 31) rfl rfl rfl rfl) rfl (Pu.move rfl rfl) ?_
        refine WL.pure (W1 (t := 31) rfl rfl rfl rfl) rfl (Pu.len rfl Tryz.underlying22 rfl) ?_
        refine WL.pure (W1 (t := 31) rfl rfl rfl rfl) rfl (Pu.gtr rfl rfl rfl) ?_
        refine WL.pure (W0 rfl) rfl (Pu.pickF rfl rfl rfl) ?_
        refine WL.nil ?_
        exact Lf.joinA (decide ((120 : Int) < (vl.len : Int))) (by exact ⟨rfl, rfl, rfl, rfl, rfl, rfl, rfl, trivial⟩) h
/-- bytes.Clone -/
def F_bytes_Clone (b : Sl) (w : World) (Q : Sl → World → Prop) : Prop :=
  ((b.a.isNone = true) → Q (⟨none, 0, 0⟩ : Sl) w) ∧
  ((b.a.isNone = false) → al w [] T_uint8 (fun b_1 vw => RunV Tryz.prog (Builtin.append_ #[T_sl_uint8, T_sl_uint8] T_sl_uint8 #[Sl.v (⟨some ⟨b_1, 0, none⟩, 0, 0⟩ : Sl), Sl.v b]) vw (ret1 tSl (fun v vw_1 => Q v vw_1))))
theorem vc_bytes_Clone (b : Sl) (w : World) (Q : Sl → World → Prop) (h : F_bytes_Clone b w Q) : CallP Tryz.prog n_bytes_Clone [Sl.v b] w (ret1 tSl Q) := by
  unfold F_bytes_Clone at h
  refine CallP.of_body 8 Tryz.func32 rfl Tryz.ntmps32 rfl ?_
  refine WC.seq ?_
  refine WC.region ?_
  refine WL.pure (W0 rfl) rfl (Pu.assign rfl rfl) ?_
  refine WL.nil ?_
  refine Lf.thenC ?_
  refine WC.seq ?_
  refine WC.seq ?_
  refine WC.region ?_
  refine WL.pure (W0 rfl) rfl (Pu.move rfl rfl) ?_
  refine WL.pure (W0 rfl) rfl (Pu.slnil rfl Tryz.underlying32 rfl) ?_
  refine WL.nil ?_
  refine Lf.thenC ?_
  refine WC.cond rfl (fun hc => ?_) (fun hc => ?_)
  · replace h := h.1 hc
    refine WC.seq ?_
    refine WC.region ?_
    refine WL.pure (W0 rfl) rfl (Pu.assign rfl rfl) ?_
    refine WL.nil ?_
    refine Lf.thenC ?_
    refine WC.ret ?_
    exact Lf.ret1 rfl rfl ⟨_, rfl, h⟩
  · replace h := h.2 hc
    refine WC.skip ?_
    refine Lf.thenC ?_
    refine WC.seq ?_
    refine WC.region ?_
    refine WL.q (W0 rfl) rfl (Rq.buildSlice (E := 5) (vs := []) (cs := []) rfl rfl (fun _ => by kernel_rfl) h) ?_
    rintro _ vw ⟨b_1, rfl, h⟩
    refine WL.pure (W0 rfl) rfl (Pu.move rfl rfl) ?_
    obtain ⟨_, vw_1, hr, v, rfl, h⟩ := h
    refine WL.val (W0 rfl) rfl (Rn.append rfl rfl rfl hr) ?_
    refine WL.pure (W0 rfl) rfl (Pu.assign rfl rfl) ?_
    refine WL.nil ?_
    refine Lf.thenC ?_
    refine WC.ret ?_
    exact Lf.ret1 rfl rfl ⟨_, rfl, h⟩
/-- strings.CutPrefix -/
def F_strings_CutPrefix (s : ByteArray) (vprefix : ByteArray) (w : World) (Q : ByteArray → Bool → World → Prop) : Prop :=
  CallP Tryz.prog n_internal_stringslite_CutPrefix [.string s, .string vprefix] w (ret2 tS tB (fun r r_1 vw => Q r r_1 vw))
theorem vc_strings_CutPrefix (s : ByteArray) (vprefix : ByteArray) (w : World) (Q : ByteArray → Bool → World → Prop) (h : F_strings_CutPrefix s vprefix w Q) : CallP Tryz.prog n_strings_CutPrefix [.string s, .string vprefix] w (ret2 tS tB Q) := by
  unfold F_strings_CutPrefix at h
  refine CallP.of_body 11 Tryz.func62 rfl Tryz.ntmps62 rfl ?_
  refine WC.seq ?_
  refine WC.region ?_
  refine WL.pure (W0 rfl) rfl (Pu.assign rfl rfl) ?_
  refine WL.pure (W0 rfl) rfl (Pu.assign rfl rfl) ?_
  refine WL.nil ?_
  refine Lf.thenC ?_
  refine WC.seq ?_
  refine WC.region ?_
  refine WL.pure (W0 rfl) rfl (Pu.move rfl rfl) ?_
  refine WL.pure (W0 rfl) rfl (Pu.move rfl rfl) ?_
  refine WL.call (W0 rfl) rfl (fun xa hxa => run_call (fs := []) (cs := []) (vs := [.string s, .string vprefix]) rfl rfl rfl Tryz.func79 rfl rfl xa hxa _) h ?_
  rintro _ vw ⟨r, r_1, rfl, h⟩
  refine WL.pure (W0 rfl) rfl (Pu.extract (vs := [.string r, .bool r_1]) rfl rfl rfl) ?_
  refine WL.pure (W0 rfl) rfl (Pu.extract (vs := [.string r, .bool r_1]) rfl rfl rfl) ?_
  refine WL.pure (W0 rfl) rfl (Pu.assign rfl rfl) ?_
  refine WL.pure (W0 rfl) rfl (Pu.assign rfl rfl) ?_
  refine WL.nil ?_
  refine Lf.thenC ?_
  refine WC.ret ?_
  exact Lf.ret2 rfl rfl rfl ⟨_, _, rfl, h⟩
/-- internal/stringslite.CutPrefix -/
def F_internal_stringslite_CutPrefix (s : ByteArray) (vprefix : ByteArray) (w : World) (Q : ByteArray → Bool → World → Prop) : Prop :=
  CallP Tryz.prog n_internal_stringslite_HasPrefix [.string s, .string vprefix] w (ret1 tB (fun r vw => (((!r) = true) → Q s false vw) ∧
  (((!r) = false) → 0 ≤ (vprefix.size : Int) ∧ (vprefix.size : Int) ≤ (s.size : Int) ∧ (s.size : Int) ≤ (s.size : Int) ∧ Q (s.extract ((vprefix.size : Int)).toNat ((s.size : Int)).toNat) true vw)))
theorem vc_internal_stringslite_CutPrefix (s : ByteArray) (vprefix : ByteArray) (w : World) (Q : ByteArray → Bool → World → Prop) (h : F_internal_stringslite_CutPrefix s vprefix w Q) : CallP Tryz.prog n_internal_stringslite_CutPrefix [.string s, .string vprefix] w (ret2 tS tB Q) := by
  unfold F_internal_stringslite_CutPrefix at h
  refine CallP.of_body 15 Tryz.func79 rfl Tryz.ntmps79 rfl ?_
  refine WC.seq ?_
  refine WC.region ?_
  refine WL.pure (W0 rfl) rfl (Pu.assign rfl rfl) ?_
  refine WL.pure (W0 rfl) rfl (Pu.assign rfl rfl) ?_
  refine WL.nil ?_
  refine Lf.thenC ?_
  refine WC.seq ?_
  refine WC.seq ?_
  refine WC.region ?_
  refine WL.pure (W0 rfl) rfl (Pu.move rfl rfl) ?_
  refine WL.pure (W0 rfl) rfl (Pu.move rfl rfl) ?_
  refine WL.call (W0 rfl) rfl (fun xa hxa => run_call (fs := []) (cs := []) (vs := [.string s, .string vprefix]) rfl rfl rfl Tryz.func101 rfl rfl xa hxa _) h ?_
  rintro _ vw ⟨r, rfl, h⟩
  refine WL.pure (W0 rfl) rfl (Pu.not rfl rfl) ?_
  refine WL.nil ?_
  refine Lf.thenC ?_
  refine WC.cond rfl (fun hc => ?_) (fun hc => ?_)
  · replace h := h.1 hc
    refine WC.seq ?_
    refine WC.region ?_
    refine WL.pure (W0 rfl) rfl (Pu.move rfl rfl) ?_
    refine WL.pure (W0 rfl) rfl (Pu.assign rfl rfl) ?_
    refine WL.pure (W0 rfl) rfl (Pu.assign rfl rfl) ?_
    refine WL.nil ?_
    refine Lf.thenC ?_
    refine WC.ret ?_
    exact Lf.ret2 rfl rfl rfl ⟨_, _, rfl, h⟩
  · replace h := h.2 hc
    refine WC.skip ?_
    refine Lf.thenC ?_
    refine WC.seq ?_
    refine WC.region ?_
    refine WL.pure (W0 rfl) rfl (Pu.move rfl rfl) ?_
    refine WL.pure (W0 rfl) rfl (Pu.move rfl rfl) ?_
    refine WL.pure (W0 rfl) rfl (Pu.slen rfl Tryz.underlying9 rfl) ?_
    obtain ⟨hi0, hi1, hi2, h⟩ := h
    refine WL.pure (W0 rfl) rfl (Pu.sslice rfl Tryz.underlying9 rfl rfl rfl hi0 hi1 hi2) ?_
    refine WL.pure (W0 rfl) rfl (Pu.assign rfl rfl) ?_
    refine WL.pure (W0 rfl) rfl (Pu.assign rfl rfl) ?_
    refine WL.nil ?_
    refine Lf.thenC ?_
    refine WC.ret ?_
    exact Lf.ret2 rfl rfl rfl ⟨_, _, rfl, h⟩
end Go.Proofs.YtccebpahnnfceaaGreatDoor
