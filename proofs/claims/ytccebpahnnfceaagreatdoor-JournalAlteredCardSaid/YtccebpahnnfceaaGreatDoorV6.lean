/- Verification conditions of functions. Written by vcgen.py. -/
import Derived.Test.YtccebpahnnfceaaGreatDoorVcT
namespace Go.Proofs.YtccebpahnnfceaaGreatDoor
open Go.Vc
set_option linter.unusedVariables false
set_option maxRecDepth 100000
/-- internal/strconv.small -/
def F_internal_strconv_small (vi : Int) (w : World) (Q : ByteArray → World → Prop) : Prop :=
  ((vi < (10 : Int)) → 0 ≤ vi ∧ vi ≤ (IntKind.i64.wrap (vi + (1 : Int))) ∧ (IntKind.i64.wrap (vi + (1 : Int))) ≤ ((⟨#[48, 49, 50, 51, 52, 53, 54, 55, 56, 57, 97, 98, 99, 100, 101, 102, 103, 104, 105, 106, 107, 108, 109, 110, 111, 112, 113, 114, 115, 116, 117, 118, 119, 120, 121, 122]⟩ : ByteArray).size : Int) ∧ Q ((⟨#[48, 49, 50, 51, 52, 53, 54, 55, 56, 57, 97, 98, 99, 100, 101, 102, 103, 104, 105, 106, 107, 108, 109, 110, 111, 112, 113, 114, 115, 116, 117, 118, 119, 120, 121, 122]⟩ : ByteArray).extract (vi).toNat ((IntKind.i64.wrap (vi + (1 : Int)))).toNat) w) ∧
  ((¬ (vi < (10 : Int))) → 0 ≤ (IntKind.i64.wrap (vi * (2 : Int))) ∧ (IntKind.i64.wrap (vi * (2 : Int))) ≤ (IntKind.i64.wrap ((IntKind.i64.wrap (vi * (2 : Int))) + (2 : Int))) ∧ (IntKind.i64.wrap ((IntKind.i64.wrap (vi * (2 : Int))) + (2 : Int))) ≤ ((⟨#[48, 48, 48, 49, 48, 50, 48, 51, 48, 52, 48, 53, 48, 54, 48, 55, 48, 56, 48, 57, 49, 48, 49, 49, 49, 50, 49, 51, 49, 52, 49, 53, 49, 54, 49, 55, 49, 56, 49, 57, 50, 48, 50, 49, 50, 50, 50, 51, 50, 52, 50, 53, 50, 54, 50, 55, 50, 56, 50, 57, 51, 48, 51, 49, 51, 50, 51, 51, 51, 52, 51, 53, 51, 54, 51, 55, 51, 56, 51, 57, 52, 48, 52, 49, 52, 50, 52, 51, 52, 52, 52, 53, 52, 54, 52, 55, 52, 56, 52, 57, 53, 48, 53, 49, 53, 50, 53, 51, 53, 52, 53, 53, 53, 54, 53, 55, 53, 56, 53, 57, 54, 48, 54, 49, 54, 50, 54, 51, 54, 52, 54, 53, 54, 54, 54, 55, 54, 56, 54, 57, 55, 48, 55, 49, 55, 50, 55, 51, 55, 52, 55, 53, 55, 54, 55, 55, 55, 56, 55, 57, 56, 48, 56, 49, 56, 50, 56, 51, 56, 52, 56, 53, 56, 54, 56, 55, 56, 56, 56, 57, 57, 48, 57, 49, 57, 50, 57, 51, 57, 52, 57, 53, 57, 54, 57, 55, 57, 56, 57, 57]⟩ : ByteArray).size : Int) ∧ Q ((⟨#[48, 48, 48, 49, 48, 50, 48, 51, 48, 52, 48, 53, 48, 54, 48, 55, 48, 56, 48, 57, 49, 48, 49, 49, 49, 50, 49, 51, 49, 52, 49, 53, 49, 54, 49, 55, 49, 56, 49, 57, 50, 48, 50, 49, 50, 50, 50, 51, 50, 52, 50, 53, 50, 54, 50, 55, 50, 56, 50, 57, 51, 48, 51, 49, 51, 50, 51, 51, 51, 52, 51, 53, 51, 54, 51, 55, 51, 56, 51, 57, 52, 48, 52, 49, 52, 50, 52, 51, 52, 52, 52, 53, 52, 54, 52, 55, 52, 56, 52, 57, 53, 48, 53, 49, 53, 50, 53, 51, 53, 52, 53, 53, 53, 54, 53, 55, 53, 56, 53, 57, 54, 48, 54, 49, 54, 50, 54, 51, 54, 52, 54, 53, 54, 54, 54, 55, 54, 56, 54, 57, 55, 48, 55, 49, 55, 50, 55, 51, 55, 52, 55, 53, 55, 54, 55, 55, 55, 56, 55, 57, 56, 48, 56, 49, 56, 50, 56, 51, 56, 52, 56, 53, 56, 54, 56, 55, 56, 56, 56, 57, 57, 48, 57, 49, 57, 50, 57, 51, 57, 52, 57, 53, 57, 54, 57, 55, 57, 56, 57, 57]⟩ : ByteArray).extract ((IntKind.i64.wrap (vi * (2 : Int)))).toNat ((IntKind.i64.wrap ((IntKind.i64.wrap (vi * (2 : Int))) + (2 : Int)))).toNat) w)
theorem vc_internal_strconv_small (vi : Int) (w : World) (Q : ByteArray → World → Prop) (h : F_internal_strconv_small vi w Q) : CallP Tryz.prog n_internal_strconv_small [.int .i64 vi] w (ret1 tS Q) := by
  unfold F_internal_strconv_small at h
  refine CallP.of_body 15 Tryz.func95 rfl Tryz.ntmps95 rfl ?_
  refine WC.seq ?_
  refine WC.region ?_
  refine WL.pure (W0 rfl) rfl (Pu.assign rfl rfl) ?_
  refine WL.nil ?_
  refine Lf.thenC ?_
  refine WC.seq ?_
  refine WC.seq ?_
  refine WC.region ?_
  refine WL.pure (W0 rfl) rfl (Pu.move rfl rfl) ?_
  refine WL.pure (W0 rfl) rfl (Pu.lss rfl rfl rfl) ?_
  refine WL.nil ?_
  refine Lf.thenC ?_
  refine WC.condD rfl (fun hc => ?_) (fun hc => ?_)
  · replace h := h.1 hc
    refine WC.seq ?_
    refine WC.region ?_
    refine WL.pure (W0 rfl) rfl (Pu.move rfl rfl) ?_
    refine WL.pure (W0 rfl) rfl (Pu.move rfl rfl) ?_
    refine WL.pure (W0 rfl) rfl (Pu.add rfl rfl rfl) ?_
    obtain ⟨hi0, hi1, hi2, h⟩ := h
    refine WL.pure (W0 rfl) rfl (Pu.sslice rfl Tryz.underlying9 rfl rfl rfl hi0 hi1 hi2) ?_
    refine WL.pure (W0 rfl) rfl (Pu.assign rfl rfl) ?_
    refine WL.nil ?_
    refine Lf.thenC ?_
    refine WC.ret ?_
    exact Lf.ret1 rfl rfl ⟨_, rfl, h⟩
  · replace h := h.2 hc
    refine WC.skip ?_
    refine Lf.thenC ?_
    refine WC.seq ?_
    refine WC.region ?_
    refine WL.pure (W0 rfl) rfl (Pu.move rfl rfl) ?_
    refine WL.pure (W0 rfl) rfl (Pu.mul rfl rfl rfl) ?_
    refine WL.pure (W0 rfl) rfl (Pu.move rfl rfl) ?_
    refine WL.pure (W0 rfl) rfl (Pu.mul rfl rfl rfl) ?_
    refine WL.pure (W0 rfl) rfl (Pu.add rfl rfl rfl) ?_
    obtain ⟨hi0, hi1, hi2, h⟩ := h
    refine WL.pure (W0 rfl) rfl (Pu.sslice rfl Tryz.underlying9 rfl rfl rfl hi0 hi1 hi2) ?_
    refine WL.pure (W0 rfl) rfl (Pu.assign rfl rfl) ?_
    refine WL.nil ?_
    refine Lf.thenC ?_
    refine WC.ret ?_
    exact Lf.ret1 rfl rfl ⟨_, rfl, h⟩
/-- cmp.Less[uint64] -/
def F_cmp_Less_uint64 (vx : Int) (y : Int) (w : World) (Q : Bool → World → Prop) : Prop :=
  JoinP (α := Bool) (fun vj vw => Q vj vw)
  (fun vk => CallP Tryz.prog n_cmp_isNaN_uint64 [.int .u64 vx] w (ret1 tB (fun r vw_1 => ((r = true) → CallP Tryz.prog n_cmp_isNaN_uint64 [.int .u64 y] vw_1 (ret1 tB (fun r_1 vw_2 => (((!r_1) = true) → vk true vw_2) ∧
  (((!r_1) = false) → vk (decide (vx < y)) vw_2)))) ∧
  ((r = false) → vk (decide (vx < y)) vw_1))))
theorem vc_cmp_Less_uint64 (vx : Int) (y : Int) (w : World) (Q : Bool → World → Prop) (h : F_cmp_Less_uint64 vx y w Q) : CallP Tryz.prog n_cmp_Less_uint64 [.int .u64 vx, .int .u64 y] w (ret1 tB Q) := by
  unfold F_cmp_Less_uint64 at h
  refine CallP.of_body 17 Tryz.func88 rfl Tryz.ntmps88 rfl ?_
  refine WC.seq ?_
  refine WC.region ?_
  refine WL.pure (W0 rfl) rfl (Pu.assign rfl rfl) ?_
  refine WL.nil ?_
  refine Lf.thenC ?_
  obtain ⟨vk, h2, h⟩ := h
  refine WC.cut (α := Bool) (k := vk) (fun vj => [(4, .bool vj)]) (fun vj vw h => ?_) ?_
  · replace h := h2 _ _ h
    clear h2
    refine WC.ret ?_
    exact Lf.ret1 rfl rfl ⟨_, rfl, h⟩
  · clear h2
    refine WC.region ?_
    refine WL.pure (W0 rfl) rfl (Pu.move rfl rfl) ?_
    refine WL.call (W0 rfl) rfl (fun xa hxa => run_call (fs := []) (cs := []) (vs := [.int .u64 vx]) rfl rfl rfl Tryz.func124 rfl rfl xa hxa _) h ?_
    rintro _ vw_1 ⟨r, rfl, h⟩
    refine WL.pure (W0 rfl) rfl (Pu.move rfl rfl) ?_
    refine WL.bool (t := 7) rfl (fun hc => ?_) (fun hc => ?_)
    · replace h := h.1 hc
      refine WL.pure (W1 (t := 7) rfl rfl rfl rfl) rfl (Pu.move rfl rfl) ?_
      refine WL.call (W1 (t := 7) rfl rfl rfl rfl) rfl (fun xa hxa => run_call (fs := []) (cs := []) (vs := [.int .u64 y]) rfl rfl rfl Tryz.func124 rfl rfl xa hxa _) h ?_
      rintro _ vw_2 ⟨r_1, rfl, h⟩
      refine WL.pure (W1 (t := 7) rfl rfl rfl rfl) rfl (Pu.not rfl rfl) ?_
      refine WL.pure (W0 rfl) rfl (Pu.pickT rfl rfl rfl) ?_
      refine WL.pure (W0 rfl) rfl (Pu.move rfl rfl) ?_
      refine WL.bool (t := 12) rfl (fun hc => ?_) (fun hc => ?_)
      · replace h := h.1 hc
        refine WL.unwanted (t := 12) rfl rfl rfl rfl rfl rfl ?_
        refine WL.unwanted (t := 12) rfl rfl rfl rfl rfl rfl ?_
        refine WL.unwanted (t := 12) rfl rfl rfl rfl rfl rfl ?_
        refine WL.pure (W0 rfl) rfl (Pu.pickT rfl rfl rfl) ?_
        refine WL.pure (W0 rfl) rfl (Pu.assign rfl rfl) ?_
        refine WL.nil ?_
        exact Lf.joinA true (by exact ⟨rfl, trivial⟩) h
      · replace h := h.2 hc
        refine WL.pure (W1 (t := 12) rfl rfl rfl rfl) rfl (Pu.move rfl rfl) ?_
        refine WL.pure (W1 (t := 12) rfl rfl rfl rfl) rfl (Pu.move rfl rfl) ?_
        refine WL.pure (W1 (t := 12) rfl rfl rfl rfl) rfl (Pu.lss rfl rfl rfl) ?_
        refine WL.pure (W0 rfl) rfl (Pu.pickF rfl rfl rfl) ?_
        refine WL.pure (W0 rfl) rfl (Pu.assign rfl rfl) ?_
        refine WL.nil ?_
        exact Lf.joinA (decide (vx < y)) (by exact ⟨rfl, trivial⟩) h
    · replace h := h.2 hc
      refine WL.unwanted (t := 7) rfl rfl rfl rfl rfl rfl ?_
      refine WL.unwanted (t := 7) rfl rfl rfl rfl rfl rfl ?_
      refine WL.unwanted (t := 7) rfl rfl rfl rfl rfl rfl ?_
      refine WL.pure (W0 rfl) rfl (Pu.pickF rfl rfl rfl) ?_
      refine WL.pure (W0 rfl) rfl (Pu.move rfl rfl) ?_
      refine WL.pure (W1 (t := 12) rfl rfl rfl rfl) rfl (Pu.move rfl rfl) ?_
      refine WL.pure (W1 (t := 12) rfl rfl rfl rfl) rfl (Pu.move rfl rfl) ?_
      refine WL.pure (W1 (t := 12) rfl rfl rfl rfl) rfl (Pu.lss rfl rfl rfl) ?_
      refine WL.pure (W0 rfl) rfl (Pu.pickF rfl rfl rfl) ?_
      refine WL.pure (W0 rfl) rfl (Pu.assign rfl rfl) ?_
      refine WL.nil ?_
      exact Lf.joinA (decide (vx < y)) (by exact ⟨rfl, trivial⟩) h
/-- cmp.isNaN[uint64] -/
def F_cmp_isNaN_uint64 (vx : Int) (w : World) (Q : Bool → World → Prop) : Prop :=
  Q (decide (vx ≠ vx)) w
theorem vc_cmp_isNaN_uint64 (vx : Int) (w : World) (Q : Bool → World → Prop) (h : F_cmp_isNaN_uint64 vx w Q) : CallP Tryz.prog n_cmp_isNaN_uint64 [.int .u64 vx] w (ret1 tB Q) := by
  unfold F_cmp_isNaN_uint64 at h
  refine CallP.of_body 6 Tryz.func124 rfl Tryz.ntmps124 rfl ?_
  refine WC.seq ?_
  refine WC.region ?_
  refine WL.pure (W0 rfl) rfl (Pu.assign rfl rfl) ?_
  refine WL.nil ?_
  refine Lf.thenC ?_
  refine WC.seq ?_
  refine WC.region ?_
  refine WL.pure (W0 rfl) rfl (Pu.move rfl rfl) ?_
  refine WL.pure (W0 rfl) rfl (Pu.move rfl rfl) ?_
  refine WL.pure (W0 rfl) rfl (Pu.neq rfl rfl rfl) ?_
  refine WL.pure (W0 rfl) rfl (Pu.assign rfl rfl) ?_
  refine WL.nil ?_
  refine Lf.thenC ?_
  refine WC.ret ?_
  exact Lf.ret1 rfl rfl ⟨_, rfl, h⟩
end Go.Proofs.YtccebpahnnfceaaGreatDoor
