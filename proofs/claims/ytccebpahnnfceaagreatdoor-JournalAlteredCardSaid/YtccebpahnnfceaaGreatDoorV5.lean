/- Verification conditions of functions. Written by vcgen.py. -/
import Derived.Test.YtccebpahnnfceaaGreatDoorVcT
namespace Go.Proofs.YtccebpahnnfceaaGreatDoor
open Go.Vc
set_option linter.unusedVariables false
set_option maxRecDepth 100000
/-- internal/stringslite.HasPrefix -/
def F_internal_stringslite_HasPrefix (s : ByteArray) (vprefix : ByteArray) (w : World) (Q : Bool → World → Prop) : Prop :=
  JoinP (α := Bool) (fun vj vw => Q vj vw)
  (fun vk => (((vprefix.size : Int) ≤ (s.size : Int)) → 0 ≤ (0 : Int) ∧ (0 : Int) ≤ (vprefix.size : Int) ∧ (vprefix.size : Int) ≤ (s.size : Int) ∧ vk (decide ((s.extract ((0 : Int)).toNat ((vprefix.size : Int)).toNat) = vprefix)) w) ∧
  ((¬ ((vprefix.size : Int) ≤ (s.size : Int))) → vk false w))
theorem vc_internal_stringslite_HasPrefix (s : ByteArray) (vprefix : ByteArray) (w : World) (Q : Bool → World → Prop) (h : F_internal_stringslite_HasPrefix s vprefix w Q) : CallP Tryz.prog n_internal_stringslite_HasPrefix [.string s, .string vprefix] w (ret1 tB Q) := by
  unfold F_internal_stringslite_HasPrefix at h
  refine CallP.of_body 18 Tryz.func101 rfl Tryz.ntmps101 rfl ?_
  refine WC.seq ?_
  refine WC.region ?_
  refine WL.pure (W0 rfl) rfl (Pu.assign rfl rfl) ?_
  refine WL.nil ?_
  refine Lf.thenC ?_
  obtain ⟨vk, h2, h⟩ := h
  refine WC.cut (α := Bool) (k := vk) (fun vj => [(4, .bool vj)]) (fun vj vw h => ?_) ?_
  · replace h := h2 _ _ h
    clear h2
    refine WC.ret ?_
    exact Lf.ret1 rfl rfl ⟨_, rfl, h⟩
  · clear h2
    refine WC.region ?_
    refine WL.pure (W0 rfl) rfl (Pu.move rfl rfl) ?_
    refine WL.pure (W0 rfl) rfl (Pu.slen rfl Tryz.underlying9 rfl) ?_
    refine WL.pure (W0 rfl) rfl (Pu.move rfl rfl) ?_
    refine WL.pure (W0 rfl) rfl (Pu.slen rfl Tryz.underlying9 rfl) ?_
    refine WL.pure (W0 rfl) rfl (Pu.geq rfl rfl rfl) ?_
    refine WL.pure (W0 rfl) rfl (Pu.move rfl rfl) ?_
    refine WL.boolD (t := 10) rfl (fun hc => ?_) (fun hc => ?_)
    · replace h := h.1 hc
      refine WL.pure (W1 (t := 10) rfl rfl rfl rfl) rfl (Pu.move rfl rfl) ?_
      refine WL.pure (W1 (t := 10) rfl rfl rfl rfl) rfl (Pu.move rfl rfl) ?_
      refine WL.pure (W1 (t := 10) rfl rfl rfl rfl) rfl (Pu.slen rfl Tryz.underlying9 rfl) ?_
      obtain ⟨hi0, hi1, hi2, h⟩ := h
      refine WL.pure (W1 (t := 10) rfl rfl rfl rfl) rfl (Pu.sslice rfl Tryz.underlying9 rfl rfl rfl hi0 hi1 hi2) ?_
      refine WL.pure (W1 (t := 10) rfl rfl rfl rfl) rfl (Pu.move rfl rfl) ?_
      refine WL.pure (W1 (t := 10) rfl rfl rfl rfl) rfl (Pu.seql rfl rfl rfl) ?_
      refine WL.pure (W0 rfl) rfl (Pu.pickT rfl rfl rfl) ?_
      refine WL.pure (W0 rfl) rfl (Pu.assign rfl rfl) ?_
      refine WL.nil ?_
      exact Lf.joinA (decide ((s.extract ((0 : Int)).toNat ((vprefix.size : Int)).toNat) = vprefix)) (by exact ⟨rfl, trivial⟩) h
    · replace h := h.2 hc
      refine WL.unwanted (t := 10) rfl rfl rfl rfl rfl rfl ?_
      refine WL.unwanted (t := 10) rfl rfl rfl rfl rfl rfl ?_
      refine WL.unwanted (t := 10) rfl rfl rfl rfl rfl rfl ?_
      refine WL.unwanted (t := 10) rfl rfl rfl rfl rfl rfl ?_
      refine WL.unwanted (t := 10) rfl rfl rfl rfl rfl rfl ?_
      refine WL.unwanted (t := 10) rfl rfl rfl rfl rfl rfl ?_
      refine WL.pure (W0 rfl) rfl (Pu.pickF rfl rfl rfl) ?_
      refine WL.pure (W0 rfl) rfl (Pu.assign rfl rfl) ?_
      refine WL.nil ?_
      exact Lf.joinA false (by exact ⟨rfl, trivial⟩) h
/-- strings.HasPrefix -/
def F_strings_HasPrefix (s : ByteArray) (vprefix : ByteArray) (w : World) (Q : Bool → World → Prop) : Prop :=
  CallP Tryz.prog n_internal_stringslite_HasPrefix [.string s, .string vprefix] w (ret1 tB (fun r vw => Q r vw))
theorem vc_strings_HasPrefix (s : ByteArray) (vprefix : ByteArray) (w : World) (Q : Bool → World → Prop) (h : F_strings_HasPrefix s vprefix w Q) : CallP Tryz.prog n_strings_HasPrefix [.string s, .string vprefix] w (ret1 tB Q) := by
  unfold F_strings_HasPrefix at h
  refine CallP.of_body 8 Tryz.func72 rfl Tryz.ntmps72 rfl ?_
  refine WC.seq ?_
  refine WC.region ?_
  refine WL.pure (W0 rfl) rfl (Pu.assign rfl rfl) ?_
  refine WL.nil ?_
  refine Lf.thenC ?_
  refine WC.seq ?_
  refine WC.region ?_
  refine WL.pure (W0 rfl) rfl (Pu.move rfl rfl) ?_
  refine WL.pure (W0 rfl) rfl (Pu.move rfl rfl) ?_
  refine WL.call (W0 rfl) rfl (fun xa hxa => run_call (fs := []) (cs := []) (vs := [.string s, .string vprefix]) rfl rfl rfl Tryz.func101 rfl rfl xa hxa _) h ?_
  rintro _ vw ⟨r, rfl, h⟩
  refine WL.pure (W0 rfl) rfl (Pu.assign rfl rfl) ?_
  refine WL.nil ?_
  refine Lf.thenC ?_
  refine WC.ret ?_
  exact Lf.ret1 rfl rfl ⟨_, rfl, h⟩
/-- strconv.FormatUint -/
def F_strconv_FormatUint (vi : Int) (base : Int) (w : World) (Q : ByteArray → World → Prop) : Prop :=
  CallP Tryz.prog n_internal_strconv_FormatUint [.int .u64 vi, .int .i64 base] w (ret1 tS (fun r vw => Q r vw))
theorem vc_strconv_FormatUint (vi : Int) (base : Int) (w : World) (Q : ByteArray → World → Prop) (h : F_strconv_FormatUint vi base w Q) : CallP Tryz.prog n_strconv_FormatUint [.int .u64 vi, .int .i64 base] w (ret1 tS Q) := by
  unfold F_strconv_FormatUint at h
  refine CallP.of_body 8 Tryz.func56 rfl Tryz.ntmps56 rfl ?_
  refine WC.seq ?_
  refine WC.region ?_
  refine WL.pure (W0 rfl) rfl (Pu.assign rfl rfl) ?_
  refine WL.nil ?_
  refine Lf.thenC ?_
  refine WC.seq ?_
  refine WC.region ?_
  refine WL.pure (W0 rfl) rfl (Pu.move rfl rfl) ?_
  refine WL.pure (W0 rfl) rfl (Pu.move rfl rfl) ?_
  refine WL.call (W0 rfl) rfl (fun xa hxa => run_call (fs := []) (cs := []) (vs := [.int .u64 vi, .int .i64 base]) rfl rfl rfl Tryz.func70 rfl rfl xa hxa _) h ?_
  rintro _ vw ⟨r, rfl, h⟩
  refine WL.pure (W0 rfl) rfl (Pu.assign rfl rfl) ?_
  refine WL.nil ?_
  refine Lf.thenC ?_
  refine WC.ret ?_
  exact Lf.ret1 rfl rfl ⟨_, rfl, h⟩
/-- internal/strconv.FormatUint -/
def F_internal_strconv_FormatUint (vi : Int) (base : Int) (w : World) (Q : ByteArray → World → Prop) : Prop :=
  ((base = (10 : Int)) → ((vi < (100 : Int)) → CallP Tryz.prog n_internal_strconv_small [.int .i64 (IntKind.i64.wrap vi)] w (ret1 tS (fun r vw => Q r vw))) ∧
  ((¬ (vi < (100 : Int))) → al w [.int .u8 ((⟨(0 : Int), (0 : Int), (0 : Int), (0 : Int), (0 : Int), (0 : Int), (0 : Int), (0 : Int), (0 : Int), (0 : Int), (0 : Int), (0 : Int), (0 : Int), (0 : Int), (0 : Int), (0 : Int), (0 : Int), (0 : Int), (0 : Int), (0 : Int), (0 : Int), (0 : Int), (0 : Int), (0 : Int)⟩ : S_24_uint8).e0), .int .u8 ((⟨(0 : Int), (0 : Int), (0 : Int), (0 : Int), (0 : Int), (0 : Int), (0 : Int), (0 : Int), (0 : Int), (0 : Int), (0 : Int), (0 : Int), (0 : Int), (0 : Int), (0 : Int), (0 : Int), (0 : Int), (0 : Int), (0 : Int), (0 : Int), (0 : Int), (0 : Int), (0 : Int), (0 : Int)⟩ : S_24_uint8).e1), .int .u8 ((⟨(0 : Int), (0 : Int), (0 : Int), (0 : Int), (0 : Int), (0 : Int), (0 : Int), (0 : Int), (0 : Int), (0 : Int), (0 : Int), (0 : Int), (0 : Int), (0 : Int), (0 : Int), (0 : Int), (0 : Int), (0 : Int), (0 : Int), (0 : Int), (0 : Int), (0 : Int), (0 : Int), (0 : Int)⟩ : S_24_uint8).e2), .int .u8 ((⟨(0 : Int), (0 : Int), (0 : Int), (0 : Int), (0 : Int), (0 : Int), (0 : Int), (0 : Int), (0 : Int), (0 : Int), (0 : Int), (0 : Int), (0 : Int), (0 : Int), (0 : Int), (0 : Int), (0 : Int), (0 : Int), (0 : Int), (0 : Int), (0 : Int), (0 : Int), (0 : Int), (0 : Int)⟩ : S_24_uint8).e3), .int .u8 ((⟨(0 : Int), (0 : Int), (0 : Int), (0 : Int), (0 : Int), (0 : Int), (0 : Int), (0 : Int), (0 : Int), (0 : Int), (0 : Int), (0 : Int), (0 : Int), (0 : Int), (0 : Int), (0 : Int), (0 : Int), (0 : Int), (0 : Int), (0 : Int), (0 : Int), (0 : Int), (0 : Int), (0 : Int)⟩ : S_24_uint8).e4), .int .u8 ((⟨(0 : Int), (0 : Int), (0 : Int), (0 : Int), (0 : Int), (0 : Int), (0 : Int), (0 : Int), (0 : Int), (0 : Int), (0 : Int), (0 : Int), (0 : Int), (0 : Int), (0 : Int), (0 : Int), (0 : Int), (0 : Int), (0 : Int), (0 : Int), (0 : Int), (0 : Int), (0 : Int), (0 : Int)⟩ : S_24_uint8).e5), .int .u8 ((⟨(0 : Int), (0 : Int), (0 : Int), (0 : Int), (0 : Int), (0 : Int), (0 : Int), (0 : Int), (0 : Int), (0 : Int), (0 : Int), (0 : Int), (0 : Int), (0 : Int), (0 : Int), (0 : Int), (0 : Int), (0 : Int), (0 : Int), (0 : Int), (0 : Int), (0 : Int), (0 : Int), (0 : Int)⟩ : S_24_uint8).e6), .int .u8 ((⟨(0 : Int), (0 : Int), (0 : Int), (0 : Int), (0 : Int), (0 : Int), (0 : Int), (0 : Int), (0 : Int), (0 : Int), (0 : Int), (0 : Int), (0 : Int), (0 : Int), (0 : Int), (0 : Int), (0 : Int), (0 : Int), (0 : Int), (0 : Int), (0 : Int), (0 : Int), (0 : Int), (0 : Int)⟩ : S_24_uint8).e7), .int .u8 ((⟨(0 : Int), (0 : Int), (0 : Int), (0 : Int), (0 : Int), (0 : Int), (0 : Int), (0 : Int), (0 : Int), (0 : Int), (0 : Int), (0 : Int), (0 : Int), (0 : Int), (0 : Int), (0 : Int), (0 : Int), (0 : Int), (0 : Int), (0 : Int), (0 : Int), (0 : Int), (0 : Int), (0 : Int)⟩ : S_24_uint8).e8), .int .u8 ((⟨(0 : Int), (0 : Int), (0 : Int), (0 : Int), (0 : Int), (0 : Int), (0 : Int), (0 : Int), (0 : Int), (0 : Int), (0 : Int), (0 : Int), (0 : Int), (0 : Int), (0 : Int), (0 : Int), (0 : Int), (0 : Int), (0 : Int), (0 : Int), (0 : Int), (0 : Int), (0 : Int), (0 : Int)⟩ : S_24_uint8).e9), .int .u8 ((⟨(0 : Int), (0 : Int), (0 : Int), (0 : Int), (0 : Int), (0 : Int), (0 : Int), (0 : Int), (0 : Int), (0 : Int), (0 : Int), (0 : Int), (0 : Int), (0 : Int), (0 : Int), (0 : Int), (0 : Int), (0 : Int), (0 : Int), (0 : Int), (0 : Int), (0 : Int), (0 : Int), (0 : Int)⟩ : S_24_uint8).e10), .int .u8 ((⟨(0 : Int), (0 : Int), (0 : Int), (0 : Int), (0 : Int), (0 : Int), (0 : Int), (0 : Int), (0 : Int), (0 : Int), (0 : Int), (0 : Int), (0 : Int), (0 : Int), (0 : Int), (0 : Int), (0 : Int), (0 : Int), (0 : Int), (0 : Int), (0 : Int), (0 : Int), (0 : Int), (0 : Int)⟩ : S_24_uint8).e11), .int .u8 ((⟨(0 : Int), (0 : Int), (0 : Int), (0 : Int), (0 : Int), (0 : Int), (0 : Int), (0 : Int), (0 : Int), (0 : Int), (0 : Int), (0 : Int), (0 : Int), (0 : Int), (0 : Int), (0 : Int), (0 : Int), (0 : Int), (0 : Int), (0 : Int), (0 : Int), (0 : Int), (0 : Int), (0 : Int)⟩ : S_24_uint8).e12), .int .u8 ((⟨(0 : Int), (0 : Int), (0 : Int), (0 : Int), (0 : Int), (0 : Int), (0 : Int), (0 : Int), (0 : Int), (0 : Int), (0 : Int), (0 : Int), (0 : Int), (0 : Int), (0 : Int), (0 : Int), (0 : Int), (0 : Int), (0 : Int), (0 : Int), (0 : Int), (0 : Int), (0 : Int), (0 : Int)⟩ : S_24_uint8).e13), .int .u8 ((⟨(0 : Int), (0 : Int), (0 : Int), (0 : Int), (0 : Int), (0 : Int), (0 : Int), (0 : Int), (0 : Int), (0 : Int), (0 : Int), (0 : Int), (0 : Int), (0 : Int), (0 : Int), (0 : Int), (0 : Int), (0 : Int), (0 : Int), (0 : Int), (0 : Int), (0 : Int), (0 : Int), (0 : Int)⟩ : S_24_uint8).e14), .int .u8 ((⟨(0 : Int), (0 : Int), (0 : Int), (0 : Int), (0 : Int), (0 : Int), (0 : Int), (0 : Int), (0 : Int), (0 : Int), (0 : Int), (0 : Int), (0 : Int), (0 : Int), (0 : Int), (0 : Int), (0 : Int), (0 : Int), (0 : Int), (0 : Int), (0 : Int), (0 : Int), (0 : Int), (0 : Int)⟩ : S_24_uint8).e15), .int .u8 ((⟨(0 : Int), (0 : Int), (0 : Int), (0 : Int), (0 : Int), (0 : Int), (0 : Int), (0 : Int), (0 : Int), (0 : Int), (0 : Int), (0 : Int), (0 : Int), (0 : Int), (0 : Int), (0 : Int), (0 : Int), (0 : Int), (0 : Int), (0 : Int), (0 : Int), (0 : Int), (0 : Int), (0 : Int)⟩ : S_24_uint8).e16), .int .u8 ((⟨(0 : Int), (0 : Int), (0 : Int), (0 : Int), (0 : Int), (0 : Int), (0 : Int), (0 : Int), (0 : Int), (0 : Int), (0 : Int), (0 : Int), (0 : Int), (0 : Int), (0 : Int), (0 : Int), (0 : Int), (0 : Int), (0 : Int), (0 : Int), (0 : Int), (0 : Int), (0 : Int), (0 : Int)⟩ : S_24_uint8).e17), .int .u8 ((⟨(0 : Int), (0 : Int), (0 : Int), (0 : Int), (0 : Int), (0 : Int), (0 : Int), (0 : Int), (0 : Int), (0 : Int), (0 : Int), (0 : Int), (0 : Int), (0 : Int), (0 : Int), (0 : Int), (0 : Int), (0 : Int), (0 : Int), (0 : Int), (0 : Int), (0 : Int), (0 : Int), (0 : Int)⟩ : S_24_uint8).e18), .int .u8 ((⟨(0 : Int), (0 : Int), (0 : Int), (0 : Int), (0 : Int), (0 : Int), (0 : Int), (0 : Int), (0 : Int), (0 : Int), (0 : Int), (0 : Int), (0 : Int), (0 : Int), (0 : Int), (0 : Int), (0 : Int), (0 : Int), (0 : Int), (0 : Int), (0 : Int), (0 : Int), (0 : Int), (0 : Int)⟩ : S_24_uint8).e19), .int .u8 ((⟨(0 : Int), (0 : Int), (0 : Int), (0 : Int), (0 : Int), (0 : Int), (0 : Int), (0 : Int), (0 : Int), (0 : Int), (0 : Int), (0 : Int), (0 : Int), (0 : Int), (0 : Int), (0 : Int), (0 : Int), (0 : Int), (0 : Int), (0 : Int), (0 : Int), (0 : Int), (0 : Int), (0 : Int)⟩ : S_24_uint8).e20), .int .u8 ((⟨(0 : Int), (0 : Int), (0 : Int), (0 : Int), (0 : Int), (0 : Int), (0 : Int), (0 : Int), (0 : Int), (0 : Int), (0 : Int), (0 : Int), (0 : Int), (0 : Int), (0 : Int), (0 : Int), (0 : Int), (0 : Int), (0 : Int), (0 : Int), (0 : Int), (0 : Int), (0 : Int), (0 : Int)⟩ : S_24_uint8).e21), .int .u8 ((⟨(0 : Int), (0 : Int), (0 : Int), (0 : Int), (0 : Int), (0 : Int), (0 : Int), (0 : Int), (0 : Int), (0 : Int), (0 : Int), (0 : Int), (0 : Int), (0 : Int), (0 : Int), (0 : Int), (0 : Int), (0 : Int), (0 : Int), (0 : Int), (0 : Int), (0 : Int), (0 : Int), (0 : Int)⟩ : S_24_uint8).e22), .int .u8 ((⟨(0 : Int), (0 : Int), (0 : Int), (0 : Int), (0 : Int), (0 : Int), (0 : Int), (0 : Int), (0 : Int), (0 : Int), (0 : Int), (0 : Int), (0 : Int), (0 : Int), (0 : Int), (0 : Int), (0 : Int), (0 : Int), (0 : Int), (0 : Int), (0 : Int), (0 : Int), (0 : Int), (0 : Int)⟩ : S_24_uint8).e23)] T_24_uint8 (fun b vw_1 => CallP Tryz.prog n_internal_strconv_numDigits [.int .u64 vi] vw_1 (ret1 (tI .i64) (fun r_1 vw_2 => 0 ≤ (0 : Int) ∧ (0 : Int) ≤ r_1 ∧ r_1 ≤ (24 : Int) ∧ (24 : Int) ≤ (24 : Int) ∧ CallP Tryz.prog n_internal_strconv_formatBase10 [Sl.v (slS ⟨some ⟨b, 0, none⟩, 24, 24⟩ (0 : Int) r_1 (24 : Int) 1), .int .u64 vi] vw_2 (ret0 (fun vw_3 => 0 ≤ (0 : Int) ∧ (0 : Int) ≤ r_1 ∧ r_1 ≤ (24 : Int) ∧ (24 : Int) ≤ (24 : Int) ∧ RunV Tryz.prog (convert T_sl_uint8 T_string (Sl.v (slS ⟨some ⟨b, 0, none⟩, 24, 24⟩ (0 : Int) r_1 (24 : Int) 1))) vw_3 (ret1 tS (fun v vw_4 => Q v vw_4))))))))) ∧
  ((¬ (base = (10 : Int))) → CallP Tryz.prog n_internal_strconv_formatBits [Sl.v ⟨none, 0, 0⟩, .int .u64 vi, .int .i64 base, .bool false, .bool false] w (ret2 tSl tS (fun r_2 r_3 vw_5 => Q r_3 vw_5)))
theorem vc_internal_strconv_FormatUint (vi : Int) (base : Int) (w : World) (Q : ByteArray → World → Prop) (h : F_internal_strconv_FormatUint vi base w Q) : CallP Tryz.prog n_internal_strconv_FormatUint [.int .u64 vi, .int .i64 base] w (ret1 tS Q) := by
  unfold F_internal_strconv_FormatUint at h
  refine CallP.of_body 32 Tryz.func70 rfl Tryz.ntmps70 rfl ?_
  refine WC.seq ?_
  refine WC.region ?_
  refine WL.pure (W0 rfl) rfl (Pu.assign rfl rfl) ?_
  refine WL.nil ?_
  refine Lf.thenC ?_
  refine WC.seq ?_
  refine WC.seq ?_
  refine WC.region ?_
  refine WL.pure (W0 rfl) rfl (Pu.move rfl rfl) ?_
  refine WL.pure (W0 rfl) rfl (Pu.eql rfl rfl rfl) ?_
  refine WL.nil ?_
  refine Lf.thenC ?_
  refine WC.condD rfl (fun hc => ?_) (fun hc => ?_)
  · replace h := h.1 hc
    refine WC.seq ?_
    refine WC.seq ?_
    refine WC.region ?_
    refine WL.pure (W0 rfl) rfl (Pu.move rfl rfl) ?_
    refine WL.pure (W0 rfl) rfl (Pu.lss rfl rfl rfl) ?_
    refine WL.nil ?_
    refine Lf.thenC ?_
    refine WC.condD rfl (fun hc => ?_) (fun hc => ?_)
    · replace h := h.1 hc
      refine WC.seq ?_
      refine WC.region ?_
      refine WL.pure (W0 rfl) rfl (Pu.move rfl rfl) ?_
      refine WL.pure (W0 rfl) rfl (Pu.conv rfl (by rw [Tryz.underlying33]; rfl) Tryz.underlying3 rfl) ?_
      refine WL.call (W0 rfl) rfl (fun xa hxa => run_call (fs := []) (cs := []) (vs := [.int .i64 (IntKind.i64.wrap vi)]) rfl rfl rfl Tryz.func95 rfl rfl xa hxa _) h ?_
      rintro _ vw ⟨r, rfl, h⟩
      refine WL.pure (W0 rfl) rfl (Pu.assign rfl rfl) ?_
      refine WL.nil ?_
      refine Lf.thenC ?_
      refine WC.ret ?_
      exact Lf.ret1 rfl rfl ⟨_, rfl, h⟩
    · replace h := h.2 hc
      refine WC.skip ?_
      refine Lf.thenC ?_
      refine WC.seq ?_
      refine WC.region ?_
      refine WL.q (W0 rfl) rfl (Rq.alloc (cs := [.int .u8 ((⟨(0 : Int), (0 : Int), (0 : Int), (0 : Int), (0 : Int), (0 : Int), (0 : Int), (0 : Int), (0 : Int), (0 : Int), (0 : Int), (0 : Int), (0 : Int), (0 : Int), (0 : Int), (0 : Int), (0 : Int), (0 : Int), (0 : Int), (0 : Int), (0 : Int), (0 : Int), (0 : Int), (0 : Int)⟩ : S_24_uint8).e0), .int .u8 ((⟨(0 : Int), (0 : Int), (0 : Int), (0 : Int), (0 : Int), (0 : Int), (0 : Int), (0 : Int), (0 : Int), (0 : Int), (0 : Int), (0 : Int), (0 : Int), (0 : Int), (0 : Int), (0 : Int), (0 : Int), (0 : Int), (0 : Int), (0 : Int), (0 : Int), (0 : Int), (0 : Int), (0 : Int)⟩ : S_24_uint8).e1), .int .u8 ((⟨(0 : Int), (0 : Int), (0 : Int), (0 : Int), (0 : Int), (0 : Int), (0 : Int), (0 : Int), (0 : Int), (0 : Int), (0 : Int), (0 : Int), (0 : Int), (0 : Int), (0 : Int), (0 : Int), (0 : Int), (0 : Int), (0 : Int), (0 : Int), (0 : Int), (0 : Int), (0 : Int), (0 : Int)⟩ : S_24_uint8).e2), .int .u8 ((⟨(0 : Int), (0 : Int), (0 : Int), (0 : Int), (0 : Int), (0 : Int), (0 : Int), (0 : Int), (0 : Int), (0 : Int), (0 : Int), (0 : Int), (0 : Int), (0 : Int), (0 : Int), (0 : Int), (0 : Int), (0 : Int), (0 : Int), (0 : Int), (0 : Int), (0 : Int), (0 : Int), (0 : Int)⟩ : S_24_uint8).e3), .int .u8 ((⟨(0 : Int), (0 : Int), (0 : Int), (0 : Int), (0 : Int), (0 : Int), (0 : Int), (0 : Int), (0 : Int), (0 : Int), (0 : Int), (0 : Int), (0 : Int), (0 : Int), (0 : Int), (0 : Int), (0 : Int), (0 : Int), (0 : Int), (0 : Int), (0 : Int), (0 : Int), (0 : Int), (0 : Int)⟩ : S_24_uint8).e4), .int .u8 ((⟨(0 : Int), (0 : Int), (0 : Int), (0 : Int), (0 : Int), (0 : Int), (0 : Int), (0 : Int), (0 : Int), (0 : Int), (0 : Int), (0 : Int), (0 : Int), (0 : Int), (0 : Int), (0 : Int), (0 : Int), (0 : Int), (0 : Int), (0 : Int), (0 : Int), (0 : Int), (0 : Int), (0 : Int)⟩ : S_24_uint8).e5), .int .u8 ((⟨(0 : Int), (0 : Int), (0 : Int), (0 : Int), (0 : Int), (0 : Int), (0 : Int), (0 : Int), (0 : Int), (0 : Int), (0 : Int), (0 : Int), (0 : Int), (0 : Int), (0 : Int), (0 : Int), (0 : Int), (0 : Int), (0 : Int), (0 : Int), (0 : Int), (0 : Int), (0 : Int), (0 : Int)⟩ : S_24_uint8).e6), .int .u8 ((⟨(0 : Int), (0 : Int), (0 : Int), (0 : Int), (0 : Int), (0 : Int), (0 : Int), (0 : Int), (0 : Int), (0 : Int), (0 : Int), (0 : Int), (0 : Int), (0 : Int), (0 : Int), (0 : Int), (0 : Int), (0 : Int), (0 : Int), (0 : Int), (0 : Int), (0 : Int), (0 : Int), (0 : Int)⟩ : S_24_uint8).e7), .int .u8 ((⟨(0 : Int), (0 : Int), (0 : Int), (0 : Int), (0 : Int), (0 : Int), (0 : Int), (0 : Int), (0 : Int), (0 : Int), (0 : Int), (0 : Int), (0 : Int), (0 : Int), (0 : Int), (0 : Int), (0 : Int), (0 : Int), (0 : Int), (0 : Int), (0 : Int), (0 : Int), (0 : Int), (0 : Int)⟩ : S_24_uint8).e8), .int .u8 ((⟨(0 : Int), (0 : Int), (0 : Int), (0 : Int), (0 : Int), (0 : Int), (0 : Int), (0 : Int), (0 : Int), (0 : Int), (0 : Int), (0 : Int), (0 : Int), (0 : Int), (0 : Int), (0 : Int), (0 : Int), (0 : Int), (0 : Int), (0 : Int), (0 : Int), (0 : Int), (0 : Int), (0 : Int)⟩ : S_24_uint8).e9), .int .u8 ((⟨(0 : Int), (0 : Int), (0 : Int), (0 : Int), (0 : Int), (0 : Int), (0 : Int), (0 : Int), (0 : Int), (0 : Int), (0 : Int), (0 : Int), (0 : Int), (0 : Int), (0 : Int), (0 : Int), (0 : Int), (0 : Int), (0 : Int), (0 : Int), (0 : Int), (0 : Int), (0 : Int), (0 : Int)⟩ : S_24_uint8).e10), .int .u8 ((⟨(0 : Int), (0 : Int), (0 : Int), (0 : Int), (0 : Int), (0 : Int), (0 : Int), (0 : Int), (0 : Int), (0 : Int), (0 : Int), (0 : Int), (0 : Int), (0 : Int), (0 : Int), (0 : Int), (0 : Int), (0 : Int), (0 : Int), (0 : Int), (0 : Int), (0 : Int), (0 : Int), (0 : Int)⟩ : S_24_uint8).e11), .int .u8 ((⟨(0 : Int), (0 : Int), (0 : Int), (0 : Int), (0 : Int), (0 : Int), (0 : Int), (0 : Int), (0 : Int), (0 : Int), (0 : Int), (0 : Int), (0 : Int), (0 : Int), (0 : Int), (0 : Int), (0 : Int), (0 : Int), (0 : Int), (0 : Int), (0 : Int), (0 : Int), (0 : Int), (0 : Int)⟩ : S_24_uint8).e12), .int .u8 ((⟨(0 : Int), (0 : Int), (0 : Int), (0 : Int), (0 : Int), (0 : Int), (0 : Int), (0 : Int), (0 : Int), (0 : Int), (0 : Int), (0 : Int), (0 : Int), (0 : Int), (0 : Int), (0 : Int), (0 : Int), (0 : Int), (0 : Int), (0 : Int), (0 : Int), (0 : Int), (0 : Int), (0 : Int)⟩ : S_24_uint8).e13), .int .u8 ((⟨(0 : Int), (0 : Int), (0 : Int), (0 : Int), (0 : Int), (0 : Int), (0 : Int), (0 : Int), (0 : Int), (0 : Int), (0 : Int), (0 : Int), (0 : Int), (0 : Int), (0 : Int), (0 : Int), (0 : Int), (0 : Int), (0 : Int), (0 : Int), (0 : Int), (0 : Int), (0 : Int), (0 : Int)⟩ : S_24_uint8).e14), .int .u8 ((⟨(0 : Int), (0 : Int), (0 : Int), (0 : Int), (0 : Int), (0 : Int), (0 : Int), (0 : Int), (0 : Int), (0 : Int), (0 : Int), (0 : Int), (0 : Int), (0 : Int), (0 : Int), (0 : Int), (0 : Int), (0 : Int), (0 : Int), (0 : Int), (0 : Int), (0 : Int), (0 : Int), (0 : Int)⟩ : S_24_uint8).e15), .int .u8 ((⟨(0 : Int), (0 : Int), (0 : Int), (0 : Int), (0 : Int), (0 : Int), (0 : Int), (0 : Int), (0 : Int), (0 : Int), (0 : Int), (0 : Int), (0 : Int), (0 : Int), (0 : Int), (0 : Int), (0 : Int), (0 : Int), (0 : Int), (0 : Int), (0 : Int), (0 : Int), (0 : Int), (0 : Int)⟩ : S_24_uint8).e16), .int .u8 ((⟨(0 : Int), (0 : Int), (0 : Int), (0 : Int), (0 : Int), (0 : Int), (0 : Int), (0 : Int), (0 : Int), (0 : Int), (0 : Int), (0 : Int), (0 : Int), (0 : Int), (0 : Int), (0 : Int), (0 : Int), (0 : Int), (0 : Int), (0 : Int), (0 : Int), (0 : Int), (0 : Int), (0 : Int)⟩ : S_24_uint8).e17), .int .u8 ((⟨(0 : Int), (0 : Int), (0 : Int), (0 : Int), (0 : Int), (0 : Int), (0 : Int), (0 : Int), (0 : Int), (0 : Int), (0 : Int), (0 : Int), (0 : Int), (0 : Int), (0 : Int), (0 : Int), (0 : Int), (0 : Int), (0 : Int), (0 : Int), (0 : Int), (0 : Int), (0 : Int), (0 : Int)⟩ : S_24_uint8).e18), .int .u8 ((⟨(0 : Int), (0 : Int), (0 : Int), (0 : Int), (0 : Int), (0 : Int), (0 : Int), (0 : Int), (0 : Int), (0 : Int), (0 : Int), (0 : Int), (0 : Int), (0 : Int), (0 : Int), (0 : Int), (0 : Int), (0 : Int), (0 : Int), (0 : Int), (0 : Int), (0 : Int), (0 : Int), (0 : Int)⟩ : S_24_uint8).e19), .int .u8 ((⟨(0 : Int), (0 : Int), (0 : Int), (0 : Int), (0 : Int), (0 : Int), (0 : Int), (0 : Int), (0 : Int), (0 : Int), (0 : Int), (0 : Int), (0 : Int), (0 : Int), (0 : Int), (0 : Int), (0 : Int), (0 : Int), (0 : Int), (0 : Int), (0 : Int), (0 : Int), (0 : Int), (0 : Int)⟩ : S_24_uint8).e20), .int .u8 ((⟨(0 : Int), (0 : Int), (0 : Int), (0 : Int), (0 : Int), (0 : Int), (0 : Int), (0 : Int), (0 : Int), (0 : Int), (0 : Int), (0 : Int), (0 : Int), (0 : Int), (0 : Int), (0 : Int), (0 : Int), (0 : Int), (0 : Int), (0 : Int), (0 : Int), (0 : Int), (0 : Int), (0 : Int)⟩ : S_24_uint8).e21), .int .u8 ((⟨(0 : Int), (0 : Int), (0 : Int), (0 : Int), (0 : Int), (0 : Int), (0 : Int), (0 : Int), (0 : Int), (0 : Int), (0 : Int), (0 : Int), (0 : Int), (0 : Int), (0 : Int), (0 : Int), (0 : Int), (0 : Int), (0 : Int), (0 : Int), (0 : Int), (0 : Int), (0 : Int), (0 : Int)⟩ : S_24_uint8).e22), .int .u8 ((⟨(0 : Int), (0 : Int), (0 : Int), (0 : Int), (0 : Int), (0 : Int), (0 : Int), (0 : Int), (0 : Int), (0 : Int), (0 : Int), (0 : Int), (0 : Int), (0 : Int), (0 : Int), (0 : Int), (0 : Int), (0 : Int), (0 : Int), (0 : Int), (0 : Int), (0 : Int), (0 : Int), (0 : Int)⟩ : S_24_uint8).e23)]) rfl (z := ty_24_uint8.val (⟨(0 : Int), (0 : Int), (0 : Int), (0 : Int), (0 : Int), (0 : Int), (0 : Int), (0 : Int), (0 : Int), (0 : Int), (0 : Int), (0 : Int), (0 : Int), (0 : Int), (0 : Int), (0 : Int), (0 : Int), (0 : Int), (0 : Int), (0 : Int), (0 : Int), (0 : Int), (0 : Int), (0 : Int)⟩ : S_24_uint8)) (by kernel_rfl) rfl h) ?_
      rintro _ vw_1 ⟨b, rfl, h⟩
      refine WL.nil ?_
      refine Lf.thenC ?_
      refine WC.seq ?_
      refine WC.region ?_
      refine WL.pure (W0 rfl) rfl (Pu.move rfl rfl) ?_
      refine WL.call (W0 rfl) rfl (fun xa hxa => run_call (fs := []) (cs := []) (vs := [.int .u64 vi]) rfl rfl rfl Tryz.func96 rfl rfl xa hxa _) h ?_
      rintro _ vw_2 ⟨r_1, rfl, h⟩
      refine WL.pure (W0 rfl) rfl (Pu.assign rfl rfl) ?_
      refine WL.nil ?_
      refine Lf.thenC ?_
      refine WC.seq ?_
      refine WC.region ?_
      refine WL.pure (W0 rfl) rfl (Pu.move rfl rfl) ?_
      obtain ⟨hi0, hi1, hi2, hi3, h⟩ := h
      refine WL.pure (W0 rfl) rfl (Pu.sliceA (k := 24) rfl Tryz.underlying141 sz_5 rfl rfl rfl rfl rfl hi0 hi1 hi2 hi3) ?_
      refine WL.pure (W0 rfl) rfl (Pu.move rfl rfl) ?_
      refine WL.call (W0 rfl) rfl (fun xa hxa => run_call (fs := []) (cs := []) (vs := [Sl.v (slS ⟨some ⟨b, 0, none⟩, 24, 24⟩ (0 : Int) r_1 (24 : Int) 1), .int .u64 vi]) rfl rfl rfl Tryz.func97 rfl rfl xa hxa _) h ?_
      rintro _ vw_3 ⟨rfl, h⟩
      refine WL.nil ?_
      refine Lf.thenC ?_
      refine WC.seq ?_
      refine WC.region ?_
      refine WL.pure (W0 rfl) rfl (Pu.move rfl rfl) ?_
      obtain ⟨hi0, hi1, hi2, hi3, h⟩ := h
      refine WL.pure (W0 rfl) rfl (Pu.sliceA (k := 24) rfl Tryz.underlying141 sz_5 rfl rfl rfl rfl rfl hi0 hi1 hi2 hi3) ?_
      obtain ⟨_, vw_4, hr, v, rfl, h⟩ := h
      refine WL.val (W0 rfl) rfl (Rn.conv rfl rfl hr) ?_
      refine WL.pure (W0 rfl) rfl (Pu.assign rfl rfl) ?_
      refine WL.nil ?_
      refine Lf.thenC ?_
      refine WC.ret ?_
      exact Lf.ret1 rfl rfl ⟨_, rfl, h⟩
  · replace h := h.2 hc
    refine WC.skip ?_
    refine Lf.thenC ?_
    refine WC.seq ?_
    refine WC.region ?_
    refine WL.pure (W0 rfl) rfl (Pu.move rfl rfl) ?_
    refine WL.pure (W0 rfl) rfl (Pu.move rfl rfl) ?_
    refine WL.call (W0 rfl) rfl (fun xa hxa => run_call (fs := []) (cs := []) (vs := [Sl.v ⟨none, 0, 0⟩, .int .u64 vi, .int .i64 base, .bool false, .bool false]) rfl rfl rfl Tryz.func98 rfl rfl xa hxa _) h ?_
    rintro _ vw_5 ⟨r_2, r_3, rfl, h⟩
    refine WL.pure (W0 rfl) rfl (Pu.move rfl rfl) ?_
    refine WL.pure (W0 rfl) rfl (Pu.extract (vs := [Sl.v r_2, .string r_3]) rfl rfl rfl) ?_
    refine WL.pure (W0 rfl) rfl (Pu.extract (vs := [Sl.v r_2, .string r_3]) rfl rfl rfl) ?_
    refine WL.pure (W0 rfl) rfl (Pu.assign rfl rfl) ?_
    refine WL.pure (W0 rfl) rfl (Pu.assign rfl rfl) ?_
    refine WL.nil ?_
    refine Lf.thenC ?_
    refine WC.seq ?_
    refine WC.region ?_
    refine WL.pure (W0 rfl) rfl (Pu.move rfl rfl) ?_
    refine WL.pure (W0 rfl) rfl (Pu.assign rfl rfl) ?_
    refine WL.nil ?_
    refine Lf.thenC ?_
    refine WC.ret ?_
    exact Lf.ret1 rfl rfl ⟨_, rfl, h⟩
/-- slices.order2Ordered[uint64] -/
def F_slices_order2Ordered_uint64 (data : Sl) (a : Int) (b : Int) (swaps : Option Addr) (w : World) (Q : Int → Int → World → Prop) : Prop :=
  ixs data b (fun b_1 q => ld (tI .u64) (dr w) b_1 (q + (b).toNat * 1) (fun v => ixs data a (fun b_2 q_1 => ld (tI .u64) (dr w) b_2 (q_1 + (a).toNat * 1) (fun v_1 => CallP Tryz.prog n_cmp_Less_uint64 [.int .u64 v, .int .u64 v_1] (dr w) (ret1 tB (fun r vw => ((r = true) → nz swaps (fun b_3 q_2 => ld (tI .i64) vw b_3 q_2 (fun v_2 => nz swaps (fun b_4 q_3 => st (tI .i64) vw b_4 q_3 (IntKind.i64.wrap (v_2 + (1 : Int))) (fun vw_1 => Q b a vw_1))))) ∧
  ((r = false) → Q a b vw)))))))
theorem vc_slices_order2Ordered_uint64 (data : Sl) (a : Int) (b : Int) (swaps : Option Addr) (w : World) (Q : Int → Int → World → Prop) (h : F_slices_order2Ordered_uint64 data a b swaps w Q) : CallP Tryz.prog n_slices_order2Ordered_uint64 [Sl.v data, .int .i64 a, .int .i64 b, .pointer swaps] w (ret2 (tI .i64) (tI .i64) Q) := by
  unfold F_slices_order2Ordered_uint64 at h
  refine CallP.of_body 28 Tryz.func139 rfl Tryz.ntmps139 rfl ?_
  refine WC.seq ?_
  refine WC.region ?_
  refine WL.pure (W0 rfl) rfl (Pu.assign rfl rfl) ?_
  refine WL.pure (W0 rfl) rfl (Pu.assign rfl rfl) ?_
  refine WL.nil ?_
  refine Lf.thenC ?_
  refine WC.seq ?_
  refine WC.seq ?_
  refine WC.draw [(0, false), (1, false), (2, false), (3, false), (4, false), (5, false), (6, false), (7, false), (8, true)] mixed (by kernel_rfl) ?_
  refine DL.pure rfl (W0 rfl) rfl (Pu.move rfl rfl) ?_
  refine DL.pure rfl (W0 rfl) rfl (Pu.move rfl rfl) ?_
  obtain ⟨hi0, hi1, b_1, q, hs, h⟩ := h
  refine DL.pure rfl (W0 rfl) rfl (Pu.indexAddr rfl Tryz.underlying87 sz_33 rfl rfl hs hi0 hi1) ?_
  obtain ⟨v, hl, h⟩ := h
  refine DL.read _ rfl (W0 rfl) rfl (Rd.load ok_33 rfl rfl) hl ?_
  refine DL.pure rfl (W0 rfl) rfl (Pu.move rfl rfl) ?_
  refine DL.pure rfl (W0 rfl) rfl (Pu.move rfl rfl) ?_
  obtain ⟨hi0, hi1, b_2, q_1, hs, h⟩ := h
  refine DL.pure rfl (W0 rfl) rfl (Pu.indexAddr rfl Tryz.underlying87 sz_33 rfl rfl hs hi0 hi1) ?_
  obtain ⟨v_1, hl, h⟩ := h
  refine DL.read _ rfl (W0 rfl) rfl (Rd.load ok_33 rfl rfl) hl ?_
  refine DL.call rfl (W0 rfl) rfl (fun xa hxa => run_call (fs := []) (cs := []) (vs := [.int .u64 v, .int .u64 v_1]) rfl rfl rfl Tryz.func88 rfl rfl xa hxa _) h ?_
  rintro _ vw ⟨r, rfl, h⟩
  refine ⟨(by exact ⟨.inl (by kernel_rfl), ⟨.inl (by kernel_rfl), trivial⟩⟩), ?_⟩
  refine DL.nil ?_
  refine Lf.thenC ?_
  refine WC.cond rfl (fun hc => ?_) (fun hc => ?_)
  · replace h := h.1 hc
    refine WC.seq ?_
    refine WC.region ?_
    refine WL.pure (W0 rfl) rfl (Pu.move rfl rfl) ?_
    obtain ⟨b_3, q_2, hp, h⟩ := h
    refine WL.pure (W0 rfl) rfl (Pu.nilCheck rfl (by exact pe hp)) ?_
    obtain ⟨v_2, hl, h⟩ := h
    refine WL.val (W0 rfl) rfl (fun xa hxa => Rd.load ok_3 rfl rfl xa hxa _ hl) ?_
    refine WL.pure (W0 rfl) rfl (Pu.add rfl rfl rfl) ?_
    obtain ⟨b_4, q_3, hp_1, h⟩ := h
    refine WL.pure (W0 rfl) rfl (Pu.nilCheck rfl (by exact pe hp_1)) ?_
    refine WL.qs (W0 rfl) rfl (Rsq.store (IntKind.i64.wrap (v_2 + (1 : Int))) ok_3 rfl rfl rfl h) ?_
    rintro vw_1 h
    refine WL.nil ?_
    refine Lf.thenC ?_
    refine WC.seq ?_
    refine WC.region ?_
    refine WL.pure (W0 rfl) rfl (Pu.move rfl rfl) ?_
    refine WL.pure (W0 rfl) rfl (Pu.move rfl rfl) ?_
    refine WL.pure (W0 rfl) rfl (Pu.assign rfl rfl) ?_
    refine WL.pure (W0 rfl) rfl (Pu.assign rfl rfl) ?_
    refine WL.nil ?_
    refine Lf.thenC ?_
    refine WC.ret ?_
    exact Lf.ret2 rfl rfl rfl ⟨_, _, rfl, h⟩
  · replace h := h.2 hc
    refine WC.skip ?_
    refine Lf.thenC ?_
    refine WC.seq ?_
    refine WC.region ?_
    refine WL.pure (W0 rfl) rfl (Pu.move rfl rfl) ?_
    refine WL.pure (W0 rfl) rfl (Pu.move rfl rfl) ?_
    refine WL.pure (W0 rfl) rfl (Pu.assign rfl rfl) ?_
    refine WL.pure (W0 rfl) rfl (Pu.assign rfl rfl) ?_
    refine WL.nil ?_
    refine Lf.thenC ?_
    refine WC.ret ?_
    exact Lf.ret2 rfl rfl rfl ⟨_, _, rfl, h⟩
/-- slices.medianOrdered[uint64] -/
def F_slices_medianOrdered_uint64 (data : Sl) (a : Int) (b : Int) (c : Int) (swaps : Option Addr) (w : World) (Q : Int → World → Prop) : Prop :=
  CallP Tryz.prog n_slices_order2Ordered_uint64 [Sl.v data, .int .i64 a, .int .i64 b, .pointer swaps] w (ret2 (tI .i64) (tI .i64) (fun r r_1 vw => CallP Tryz.prog n_slices_order2Ordered_uint64 [Sl.v data, .int .i64 r_1, .int .i64 c, .pointer swaps] vw (ret2 (tI .i64) (tI .i64) (fun r_2 r_3 vw_1 => CallP Tryz.prog n_slices_order2Ordered_uint64 [Sl.v data, .int .i64 r, .int .i64 r_2, .pointer swaps] vw_1 (ret2 (tI .i64) (tI .i64) (fun r_4 r_5 vw_2 => Q r_5 vw_2))))))
theorem vc_slices_medianOrdered_uint64 (data : Sl) (a : Int) (b : Int) (c : Int) (swaps : Option Addr) (w : World) (Q : Int → World → Prop) (h : F_slices_medianOrdered_uint64 data a b c swaps w Q) : CallP Tryz.prog n_slices_medianOrdered_uint64 [Sl.v data, .int .i64 a, .int .i64 b, .int .i64 c, .pointer swaps] w (ret1 (tI .i64) Q) := by
  unfold F_slices_medianOrdered_uint64 at h
  refine CallP.of_body 36 Tryz.func123 rfl Tryz.ntmps123 rfl ?_
  refine WC.seq ?_
  refine WC.region ?_
  refine WL.pure (W0 rfl) rfl (Pu.assign rfl rfl) ?_
  refine WL.nil ?_
  refine Lf.thenC ?_
  refine WC.seq ?_
  refine WC.region ?_
  refine WL.pure (W0 rfl) rfl (Pu.move rfl rfl) ?_
  refine WL.pure (W0 rfl) rfl (Pu.move rfl rfl) ?_
  refine WL.pure (W0 rfl) rfl (Pu.move rfl rfl) ?_
  refine WL.pure (W0 rfl) rfl (Pu.move rfl rfl) ?_
  refine WL.call (W0 rfl) rfl (fun xa hxa => run_call (fs := []) (cs := []) (vs := [Sl.v data, .int .i64 a, .int .i64 b, .pointer swaps]) rfl rfl rfl Tryz.func139 rfl rfl xa hxa _) h ?_
  rintro _ vw ⟨r, r_1, rfl, h⟩
  refine WL.pure (W0 rfl) rfl (Pu.move rfl rfl) ?_
  refine WL.pure (W0 rfl) rfl (Pu.extract (vs := [.int .i64 r, .int .i64 r_1]) rfl rfl rfl) ?_
  refine WL.pure (W0 rfl) rfl (Pu.extract (vs := [.int .i64 r, .int .i64 r_1]) rfl rfl rfl) ?_
  refine WL.pure (W0 rfl) rfl (Pu.assign rfl rfl) ?_
  refine WL.pure (W0 rfl) rfl (Pu.assign rfl rfl) ?_
  refine WL.nil ?_
  refine Lf.thenC ?_
  refine WC.seq ?_
  refine WC.region ?_
  refine WL.pure (W0 rfl) rfl (Pu.move rfl rfl) ?_
  refine WL.pure (W0 rfl) rfl (Pu.move rfl rfl) ?_
  refine WL.pure (W0 rfl) rfl (Pu.move rfl rfl) ?_
  refine WL.pure (W0 rfl) rfl (Pu.move rfl rfl) ?_
  refine WL.call (W0 rfl) rfl (fun xa hxa => run_call (fs := []) (cs := []) (vs := [Sl.v data, .int .i64 r_1, .int .i64 c, .pointer swaps]) rfl rfl rfl Tryz.func139 rfl rfl xa hxa _) h ?_
  rintro _ vw_1 ⟨r_2, r_3, rfl, h⟩
  refine WL.pure (W0 rfl) rfl (Pu.move rfl rfl) ?_
  refine WL.pure (W0 rfl) rfl (Pu.extract (vs := [.int .i64 r_2, .int .i64 r_3]) rfl rfl rfl) ?_
  refine WL.pure (W0 rfl) rfl (Pu.extract (vs := [.int .i64 r_2, .int .i64 r_3]) rfl rfl rfl) ?_
  refine WL.pure (W0 rfl) rfl (Pu.assign rfl rfl) ?_
  refine WL.pure (W0 rfl) rfl (Pu.assign rfl rfl) ?_
  refine WL.nil ?_
  refine Lf.thenC ?_
  refine WC.seq ?_
  refine WC.region ?_
  refine WL.pure (W0 rfl) rfl (Pu.move rfl rfl) ?_
  refine WL.pure (W0 rfl) rfl (Pu.move rfl rfl) ?_
  refine WL.pure (W0 rfl) rfl (Pu.move rfl rfl) ?_
  refine WL.pure (W0 rfl) rfl (Pu.move rfl rfl) ?_
  refine WL.call (W0 rfl) rfl (fun xa hxa => run_call (fs := []) (cs := []) (vs := [Sl.v data, .int .i64 r, .int .i64 r_2, .pointer swaps]) rfl rfl rfl Tryz.func139 rfl rfl xa hxa _) h ?_
  rintro _ vw_2 ⟨r_4, r_5, rfl, h⟩
  refine WL.pure (W0 rfl) rfl (Pu.move rfl rfl) ?_
  refine WL.pure (W0 rfl) rfl (Pu.extract (vs := [.int .i64 r_4, .int .i64 r_5]) rfl rfl rfl) ?_
  refine WL.pure (W0 rfl) rfl (Pu.extract (vs := [.int .i64 r_4, .int .i64 r_5]) rfl rfl rfl) ?_
  refine WL.pure (W0 rfl) rfl (Pu.assign rfl rfl) ?_
  refine WL.pure (W0 rfl) rfl (Pu.assign rfl rfl) ?_
  refine WL.nil ?_
  refine Lf.thenC ?_
  refine WC.seq ?_
  refine WC.region ?_
  refine WL.pure (W0 rfl) rfl (Pu.move rfl rfl) ?_
  refine WL.pure (W0 rfl) rfl (Pu.assign rfl rfl) ?_
  refine WL.nil ?_
  refine Lf.thenC ?_
  refine WC.ret ?_
  exact Lf.ret1 rfl rfl ⟨_, rfl, h⟩
/-- slices.medianAdjacentOrdered[uint64] -/
def F_slices_medianAdjacentOrdered_uint64 (data : Sl) (a : Int) (swaps : Option Addr) (w : World) (Q : Int → World → Prop) : Prop :=
  CallP Tryz.prog n_slices_medianOrdered_uint64 [Sl.v data, .int .i64 (IntKind.i64.wrap (a - (1 : Int))), .int .i64 a, .int .i64 (IntKind.i64.wrap (a + (1 : Int))), .pointer swaps] w (ret1 (tI .i64) (fun r vw => Q r vw))
theorem vc_slices_medianAdjacentOrdered_uint64 (data : Sl) (a : Int) (swaps : Option Addr) (w : World) (Q : Int → World → Prop) (h : F_slices_medianAdjacentOrdered_uint64 data a swaps w Q) : CallP Tryz.prog n_slices_medianAdjacentOrdered_uint64 [Sl.v data, .int .i64 a, .pointer swaps] w (ret1 (tI .i64) Q) := by
  unfold F_slices_medianAdjacentOrdered_uint64 at h
  refine CallP.of_body 15 Tryz.func122 rfl Tryz.ntmps122 rfl ?_
  refine WC.seq ?_
  refine WC.region ?_
  refine WL.pure (W0 rfl) rfl (Pu.assign rfl rfl) ?_
  refine WL.nil ?_
  refine Lf.thenC ?_
  refine WC.seq ?_
  refine WC.region ?_
  refine WL.pure (W0 rfl) rfl (Pu.move rfl rfl) ?_
  refine WL.pure (W0 rfl) rfl (Pu.move rfl rfl) ?_
  refine WL.pure (W0 rfl) rfl (Pu.sub rfl rfl rfl) ?_
  refine WL.pure (W0 rfl) rfl (Pu.move rfl rfl) ?_
  refine WL.pure (W0 rfl) rfl (Pu.move rfl rfl) ?_
  refine WL.pure (W0 rfl) rfl (Pu.add rfl rfl rfl) ?_
  refine WL.pure (W0 rfl) rfl (Pu.move rfl rfl) ?_
  refine WL.call (W0 rfl) rfl (fun xa hxa => run_call (fs := []) (cs := []) (vs := [Sl.v data, .int .i64 (IntKind.i64.wrap (a - (1 : Int))), .int .i64 a, .int .i64 (IntKind.i64.wrap (a + (1 : Int))), .pointer swaps]) rfl rfl rfl Tryz.func123 rfl rfl xa hxa _) h ?_
  rintro _ vw ⟨r, rfl, h⟩
  refine WL.pure (W0 rfl) rfl (Pu.assign rfl rfl) ?_
  refine WL.nil ?_
  refine Lf.thenC ?_
  refine WC.ret ?_
  exact Lf.ret1 rfl rfl ⟨_, rfl, h⟩
/-- slices.insertionSortOrdered[uint64] -/
def F_slices_insertionSortOrdered_uint64 (data : Sl) (a : Int) (b : Int) (w : World) (Q : World → Prop) : Prop :=
  LoopP (α := Int) (fun vi vw vJ => ((vi < b) → LoopP (α := Int) (fun vi_1 vw_1 vJ_1 => JoinP (α := Bool) (fun vj vw_2 => ((vj = true) → ixs data (IntKind.i64.wrap (vi_1 - (1 : Int))) (fun b_1 q => ld (tI .u64) (dr vw_2) b_1 (q + ((IntKind.i64.wrap (vi_1 - (1 : Int)))).toNat * 1) (fun v => ixs data vi_1 (fun b_2 q_1 => ld (tI .u64) (dr vw_2) b_2 (q_1 + (vi_1).toNat * 1) (fun v_1 => ixs data vi_1 (fun b_3 q_2 => st (tI .u64) (dr vw_2) b_3 (q_2 + (vi_1).toNat * 1) v (fun vw_3 => ixs data (IntKind.i64.wrap (vi_1 - (1 : Int))) (fun b_4 q_3 => st (tI .u64) vw_3 b_4 (q_3 + ((IntKind.i64.wrap (vi_1 - (1 : Int)))).toNat * 1) v_1 (fun vw_4 => vJ_1 (IntKind.i64.wrap (vi_1 - (1 : Int))) vw_4))))))))) ∧
  ((vj = false) → vJ (IntKind.i64.wrap (vi + (1 : Int))) vw_2))
  (fun vk => ((a < vi_1) → ixs data vi_1 (fun b_5 q_4 => ld (tI .u64) (dr vw_1) b_5 (q_4 + (vi_1).toNat * 1) (fun v_2 => ixs data (IntKind.i64.wrap (vi_1 - (1 : Int))) (fun b_6 q_5 => ld (tI .u64) (dr vw_1) b_6 (q_5 + ((IntKind.i64.wrap (vi_1 - (1 : Int)))).toNat * 1) (fun v_3 => CallP Tryz.prog n_cmp_Less_uint64 [.int .u64 v_2, .int .u64 v_3] (dr vw_1) (ret1 tB (fun r vw_5 => vk r vw_5))))))) ∧
  ((¬ (a < vi_1)) → vk false (dr vw_1)))) vi vw) ∧
  ((¬ (vi < b)) → Q vw)) (IntKind.i64.wrap (a + (1 : Int))) w
theorem vc_slices_insertionSortOrdered_uint64 (data : Sl) (a : Int) (b : Int) (w : World) (Q : World → Prop) (h : F_slices_insertionSortOrdered_uint64 data a b w Q) : CallP Tryz.prog n_slices_insertionSortOrdered_uint64 [Sl.v data, .int .i64 a, .int .i64 b] w (ret0 Q) := by
  unfold F_slices_insertionSortOrdered_uint64 at h
  refine CallP.of_body 49 Tryz.func82 rfl Tryz.ntmps82 rfl ?_
  refine WC.seq ?_
  refine WC.region ?_
  refine WL.pure (W0 rfl) rfl (Pu.move rfl rfl) ?_
  refine WL.pure (W0 rfl) rfl (Pu.add rfl rfl rfl) ?_
  refine WL.pure (W0 rfl) rfl (Pu.assign rfl rfl) ?_
  refine WL.nil ?_
  refine Lf.thenC ?_
  refine WC.block ?_
  refine WC.loop (α := Int) (fun vi => [(6, .int .i64 vi), (0, Sl.v data), (1, .int .i64 a), (2, .int .i64 b)]) (IntKind.i64.wrap (a + (1 : Int))) (by exact ⟨rfl, rfl, rfl, rfl, trivial⟩) h (fun vJ vi vw h => ?_)
  refine WC.seq ?_
  refine WC.seq ?_
  refine WC.region ?_
  refine WL.pure (W0 rfl) rfl (Pu.move rfl rfl) ?_
  refine WL.pure (W0 rfl) rfl (Pu.move rfl rfl) ?_
  refine WL.pure (W0 rfl) rfl (Pu.lss rfl rfl rfl) ?_
  refine WL.nil ?_
  refine Lf.thenC ?_
  refine WC.condD rfl (fun hc => ?_) (fun hc => ?_)
  · replace h := h.1 hc
    refine WC.skip ?_
    refine Lf.thenC ?_
    refine WC.seq ?_
    refine WC.block ?_
    refine WC.seq ?_
    refine WC.region ?_
    refine WL.pure (W0 rfl) rfl (Pu.move rfl rfl) ?_
    refine WL.pure (W0 rfl) rfl (Pu.assign rfl rfl) ?_
    refine WL.nil ?_
    refine Lf.thenC ?_
    refine WC.block ?_
    refine WC.loop (α := Int) (fun vi_1 => [(7, .int .i64 vi_1), (0, Sl.v data), (1, .int .i64 a), (2, .int .i64 b), (6, .int .i64 vi)]) vi (by exact ⟨rfl, rfl, rfl, rfl, rfl, trivial⟩) h (fun vJ_1 vi_1 vw_1 h => ?_)
    refine WC.seq ?_
    obtain ⟨vk, h2, h⟩ := h
    refine WC.cut (α := Bool) (k := vk) (fun vj => [(30, .bool vj), (0, Sl.v data), (1, .int .i64 a), (2, .int .i64 b), (6, .int .i64 vi), (7, .int .i64 vi_1)]) (fun vj vw_2 h => ?_) ?_
    · replace h := h2 _ _ h
      clear h2
      refine WC.cond rfl (fun hc => ?_) (fun hc => ?_)
      · replace h := h.1 hc
        refine WC.skip ?_
        refine Lf.thenC ?_
        refine WC.seq ?_
        refine WC.block ?_
        refine WC.draw [(0, false), (1, false), (2, false), (3, false), (4, false), (5, false), (6, false), (7, false), (8, false), (9, false), (10, false), (11, false), (12, false), (13, false), (14, false), (15, true), (16, false), (17, true)] mixed (by kernel_rfl) ?_
        refine DL.pure rfl (W0 rfl) rfl (Pu.move rfl rfl) ?_
        refine DL.pure rfl (W0 rfl) rfl (Pu.move rfl rfl) ?_
        refine DL.pure rfl (W0 rfl) rfl (Pu.move rfl rfl) ?_
        refine DL.pure rfl (W0 rfl) rfl (Pu.move rfl rfl) ?_
        refine DL.pure rfl (W0 rfl) rfl (Pu.sub rfl rfl rfl) ?_
        refine DL.pure rfl (W0 rfl) rfl (Pu.move rfl rfl) ?_
        refine DL.pure rfl (W0 rfl) rfl (Pu.move rfl rfl) ?_
        refine DL.pure rfl (W0 rfl) rfl (Pu.sub rfl rfl rfl) ?_
        obtain ⟨hi0, hi1, b_1, q, hs, h⟩ := h
        refine DL.pure rfl (W0 rfl) rfl (Pu.indexAddr rfl Tryz.underlying87 sz_33 rfl rfl hs hi0 hi1) ?_
        obtain ⟨v, hl, h⟩ := h
        refine DL.read _ rfl (W0 rfl) rfl (Rd.load ok_33 rfl rfl) hl ?_
        refine DL.pure rfl (W0 rfl) rfl (Pu.move rfl rfl) ?_
        refine DL.pure rfl (W0 rfl) rfl (Pu.move rfl rfl) ?_
        obtain ⟨hi0, hi1, b_2, q_1, hs, h⟩ := h
        refine DL.pure rfl (W0 rfl) rfl (Pu.indexAddr rfl Tryz.underlying87 sz_33 rfl rfl hs hi0 hi1) ?_
        obtain ⟨v_1, hl, h⟩ := h
        refine DL.read _ rfl (W0 rfl) rfl (Rd.load ok_33 rfl rfl) hl ?_
        obtain ⟨hi0, hi1, b_3, q_2, hs, h⟩ := h
        refine DL.pure rfl (W0 rfl) rfl (Pu.indexAddr rfl Tryz.underlying87 sz_33 rfl rfl hs hi0 hi1) ?_
        refine DL.qs rfl (W0 rfl) rfl (Rsq.store v ok_33 rfl rfl rfl h) ?_
        rintro vw_3 h
        refine ⟨(by exact ⟨.inl (by kernel_rfl), ⟨.inl (by kernel_rfl), trivial⟩⟩), ?_⟩
        obtain ⟨hi0, hi1, b_4, q_3, hs, h⟩ := h
        refine DL.pure rfl (W0 rfl) rfl (Pu.indexAddr rfl Tryz.underlying87 sz_33 rfl rfl hs hi0 hi1) ?_
        refine DL.qs rfl (W0 rfl) rfl (Rsq.store v_1 ok_33 rfl rfl rfl h) ?_
        rintro vw_4 h
        refine ⟨(by exact ⟨.inl (by kernel_rfl), ⟨.inl (by kernel_rfl), trivial⟩⟩), ?_⟩
        refine DL.nil ?_
        refine Lf.thenC ?_
        refine WC.region ?_
        refine WL.pure (W0 rfl) rfl (Pu.move rfl rfl) ?_
        refine WL.pure (W0 rfl) rfl (Pu.sub rfl rfl rfl) ?_
        refine WL.pure (W0 rfl) rfl (Pu.assign rfl rfl) ?_
        refine WL.nil ?_
        exact Lf.joinA (IntKind.i64.wrap (vi_1 - (1 : Int))) (by exact ⟨rfl, rfl, rfl, rfl, rfl, trivial⟩) h
      · replace h := h.2 hc
        refine WC.exit rfl ?_
        refine Lf.thenC ?_
        refine WC.region ?_
        refine WL.pure (W0 rfl) rfl (Pu.move rfl rfl) ?_
        refine WL.pure (W0 rfl) rfl (Pu.add rfl rfl rfl) ?_
        refine WL.pure (W0 rfl) rfl (Pu.assign rfl rfl) ?_
        refine WL.nil ?_
        exact Lf.joinA (IntKind.i64.wrap (vi + (1 : Int))) (by exact ⟨rfl, rfl, rfl, rfl, trivial⟩) h
    · clear h2
      refine WC.draw [(0, false), (1, false), (2, false), (3, false), (4, false), (5, false), (6, false), (7, false), (8, false), (9, false), (10, false), (11, false), (12, false), (13, true), (14, false)] mixed (by kernel_rfl) ?_
      refine DL.pure rfl (W0 rfl) rfl (Pu.move rfl rfl) ?_
      refine DL.pure rfl (W0 rfl) rfl (Pu.move rfl rfl) ?_
      refine DL.pure rfl (W0 rfl) rfl (Pu.gtr rfl rfl rfl) ?_
      refine DL.pure rfl (W0 rfl) rfl (Pu.move rfl rfl) ?_
      refine DL.boolD (t := 19) rfl (fun hc => ?_) (fun hc => ?_)
      · replace h := h.1 hc
        refine DL.pure rfl (W1 (t := 19) rfl rfl rfl rfl) rfl (Pu.move rfl rfl) ?_
        refine DL.pure rfl (W1 (t := 19) rfl rfl rfl rfl) rfl (Pu.move rfl rfl) ?_
        obtain ⟨hi0, hi1, b_5, q_4, hs, h⟩ := h
        refine DL.pure rfl (W1 (t := 19) rfl rfl rfl rfl) rfl (Pu.indexAddr rfl Tryz.underlying87 sz_33 rfl rfl hs hi0 hi1) ?_
        obtain ⟨v_2, hl, h⟩ := h
        refine DL.read _ rfl (W1 (t := 19) rfl rfl rfl rfl) rfl (Rd.load ok_33 rfl rfl) hl ?_
        refine DL.pure rfl (W1 (t := 19) rfl rfl rfl rfl) rfl (Pu.move rfl rfl) ?_
        refine DL.pure rfl (W1 (t := 19) rfl rfl rfl rfl) rfl (Pu.move rfl rfl) ?_
        refine DL.pure rfl (W1 (t := 19) rfl rfl rfl rfl) rfl (Pu.sub rfl rfl rfl) ?_
        obtain ⟨hi0, hi1, b_6, q_5, hs, h⟩ := h
        refine DL.pure rfl (W1 (t := 19) rfl rfl rfl rfl) rfl (Pu.indexAddr rfl Tryz.underlying87 sz_33 rfl rfl hs hi0 hi1) ?_
        obtain ⟨v_3, hl, h⟩ := h
        refine DL.read _ rfl (W1 (t := 19) rfl rfl rfl rfl) rfl (Rd.load ok_33 rfl rfl) hl ?_
        refine DL.call rfl (W1 (t := 19) rfl rfl rfl rfl) rfl (fun xa hxa => run_call (fs := []) (cs := []) (vs := [.int .u64 v_2, .int .u64 v_3]) rfl rfl rfl Tryz.func88 rfl rfl xa hxa _) h ?_
        rintro _ vw_5 ⟨r, rfl, h⟩
        refine ⟨(by exact ⟨.inl (by kernel_rfl), ⟨.inl (by kernel_rfl), trivial⟩⟩), ?_⟩
        refine DL.pure rfl (W0 rfl) rfl (Pu.pickT rfl rfl rfl) ?_
        refine DL.nil ?_
        exact Lf.joinA r (by exact ⟨rfl, rfl, rfl, rfl, rfl, rfl, trivial⟩) h
      · replace h := h.2 hc
        refine DL.unwanted (t := 19) rfl rfl rfl rfl rfl rfl rfl ?_
        refine DL.unwanted (t := 19) rfl rfl rfl rfl rfl rfl rfl ?_
        refine DL.unwanted (t := 19) rfl rfl rfl rfl rfl rfl rfl ?_
        refine DL.unwanted (t := 19) rfl rfl rfl rfl rfl rfl rfl ?_
        refine DL.unwanted (t := 19) rfl rfl rfl rfl rfl rfl rfl ?_
        refine DL.unwanted (t := 19) rfl rfl rfl rfl rfl rfl rfl ?_
        refine DL.unwanted (t := 19) rfl rfl rfl rfl rfl rfl rfl ?_
        refine DL.unwanted (t := 19) rfl rfl rfl rfl rfl rfl rfl ?_
        refine DL.unwanted (t := 19) rfl rfl rfl rfl rfl rfl rfl ?_
        refine DL.unwantedT (t := 19) rfl rfl rfl rfl rfl rfl rfl ?_
        refine DL.pure rfl (W0 rfl) rfl (Pu.pickF rfl rfl rfl) ?_
        refine DL.nil ?_
        exact Lf.joinA false (by exact ⟨rfl, rfl, rfl, rfl, rfl, rfl, trivial⟩) h
  · replace h := h.2 hc
    refine WC.exit rfl ?_
    exact Lf.ret0 rfl ⟨rfl, h⟩
/-- slices.partialInsertionSortOrdered[uint64] -/
def F_slices_partialInsertionSortOrdered_uint64 (data : Sl) (a : Int) (b : Int) (w : World) (Q : Bool → World → Prop) : Prop :=
  LoopP (α := Int × Int) (fun vi vw vJ => ((vi.2 < (5 : Int)) → JoinP (α := Int) (fun vj vw_1 => vJ (vj, (IntKind.i64.wrap (vi.2 + (1 : Int)))) vw_1)
  (fun vk => LoopP (α := Int) (fun vi_1 vw_2 vJ_1 => JoinP (α := Bool) (fun vj_1 vw_3 => ((vj_1 = true) → vJ_1 (IntKind.i64.wrap (vi_1 + (1 : Int))) vw_3) ∧
  ((vj_1 = false) → ((vi_1 = b) → Q true vw_3) ∧
  ((¬ (vi_1 = b)) → (((IntKind.i64.wrap (b - a)) < (50 : Int)) → Q false vw_3) ∧
  ((¬ ((IntKind.i64.wrap (b - a)) < (50 : Int))) → ixs data (IntKind.i64.wrap (vi_1 - (1 : Int))) (fun b_1 q => ld (tI .u64) (dr vw_3) b_1 (q + ((IntKind.i64.wrap (vi_1 - (1 : Int)))).toNat * 1) (fun v => ixs data vi_1 (fun b_2 q_1 => ld (tI .u64) (dr vw_3) b_2 (q_1 + (vi_1).toNat * 1) (fun v_1 => ixs data vi_1 (fun b_3 q_2 => st (tI .u64) (dr vw_3) b_3 (q_2 + (vi_1).toNat * 1) v (fun vw_4 => ixs data (IntKind.i64.wrap (vi_1 - (1 : Int))) (fun b_4 q_3 => st (tI .u64) vw_4 b_4 (q_3 + ((IntKind.i64.wrap (vi_1 - (1 : Int)))).toNat * 1) v_1 (fun vw_5 => JoinP (α := Unit) (fun vj_2 vw_6 => (((2 : Int) ≤ (IntKind.i64.wrap (b - vi_1))) → LoopP (α := Int) (fun vi_2 vw_7 vJ_2 => ((vi_2 < b) → ixs data vi_2 (fun b_5 q_4 => ld (tI .u64) (dr vw_7) b_5 (q_4 + (vi_2).toNat * 1) (fun v_2 => ixs data (IntKind.i64.wrap (vi_2 - (1 : Int))) (fun b_6 q_5 => ld (tI .u64) (dr vw_7) b_6 (q_5 + ((IntKind.i64.wrap (vi_2 - (1 : Int)))).toNat * 1) (fun v_3 => CallP Tryz.prog n_cmp_Less_uint64 [.int .u64 v_2, .int .u64 v_3] (dr vw_7) (ret1 tB (fun r vw_8 => (((!r) = true) → vk vi_1 vw_8) ∧
  (((!r) = false) → ixs data (IntKind.i64.wrap (vi_2 - (1 : Int))) (fun b_7 q_6 => ld (tI .u64) (dr vw_8) b_7 (q_6 + ((IntKind.i64.wrap (vi_2 - (1 : Int)))).toNat * 1) (fun v_4 => ixs data vi_2 (fun b_8 q_7 => ld (tI .u64) (dr vw_8) b_8 (q_7 + (vi_2).toNat * 1) (fun v_5 => ixs data vi_2 (fun b_9 q_8 => st (tI .u64) (dr vw_8) b_9 (q_8 + (vi_2).toNat * 1) v_4 (fun vw_9 => ixs data (IntKind.i64.wrap (vi_2 - (1 : Int))) (fun b_10 q_9 => st (tI .u64) vw_9 b_10 (q_9 + ((IntKind.i64.wrap (vi_2 - (1 : Int)))).toNat * 1) v_5 (fun vw_10 => vJ_2 (IntKind.i64.wrap (vi_2 + (1 : Int))) vw_10)))))))))))))))) ∧
  ((¬ (vi_2 < b)) → vk vi_1 vw_7)) (IntKind.i64.wrap (vi_1 + (1 : Int))) vw_6) ∧
  ((¬ ((2 : Int) ≤ (IntKind.i64.wrap (b - vi_1)))) → vk vi_1 vw_6))
  (fun vk_2 => (((2 : Int) ≤ (IntKind.i64.wrap (vi_1 - a))) → LoopP (α := Int) (fun vi_3 vw_11 vJ_3 => (((1 : Int) ≤ vi_3) → ixs data vi_3 (fun b_11 q_10 => ld (tI .u64) (dr vw_11) b_11 (q_10 + (vi_3).toNat * 1) (fun v_6 => ixs data (IntKind.i64.wrap (vi_3 - (1 : Int))) (fun b_12 q_11 => ld (tI .u64) (dr vw_11) b_12 (q_11 + ((IntKind.i64.wrap (vi_3 - (1 : Int)))).toNat * 1) (fun v_7 => CallP Tryz.prog n_cmp_Less_uint64 [.int .u64 v_6, .int .u64 v_7] (dr vw_11) (ret1 tB (fun r_1 vw_12 => (((!r_1) = true) → vk_2 () vw_12) ∧
  (((!r_1) = false) → ixs data (IntKind.i64.wrap (vi_3 - (1 : Int))) (fun b_13 q_12 => ld (tI .u64) (dr vw_12) b_13 (q_12 + ((IntKind.i64.wrap (vi_3 - (1 : Int)))).toNat * 1) (fun v_8 => ixs data vi_3 (fun b_14 q_13 => ld (tI .u64) (dr vw_12) b_14 (q_13 + (vi_3).toNat * 1) (fun v_9 => ixs data vi_3 (fun b_15 q_14 => st (tI .u64) (dr vw_12) b_15 (q_14 + (vi_3).toNat * 1) v_8 (fun vw_13 => ixs data (IntKind.i64.wrap (vi_3 - (1 : Int))) (fun b_16 q_15 => st (tI .u64) vw_13 b_16 (q_15 + ((IntKind.i64.wrap (vi_3 - (1 : Int)))).toNat * 1) v_9 (fun vw_14 => vJ_3 (IntKind.i64.wrap (vi_3 - (1 : Int))) vw_14)))))))))))))))) ∧
  ((¬ ((1 : Int) ≤ vi_3)) → vk_2 () vw_11)) (IntKind.i64.wrap (vi_1 - (1 : Int))) vw_5) ∧
  ((¬ ((2 : Int) ≤ (IntKind.i64.wrap (vi_1 - a)))) → vk_2 () vw_5))))))))))))))
  (fun vk_1 => ((vi_1 < b) → ixs data vi_1 (fun b_17 q_16 => ld (tI .u64) (dr vw_2) b_17 (q_16 + (vi_1).toNat * 1) (fun v_10 => ixs data (IntKind.i64.wrap (vi_1 - (1 : Int))) (fun b_18 q_17 => ld (tI .u64) (dr vw_2) b_18 (q_17 + ((IntKind.i64.wrap (vi_1 - (1 : Int)))).toNat * 1) (fun v_11 => CallP Tryz.prog n_cmp_Less_uint64 [.int .u64 v_10, .int .u64 v_11] (dr vw_2) (ret1 tB (fun r_2 vw_15 => vk_1 (!r_2) vw_15))))))) ∧
  ((¬ (vi_1 < b)) → vk_1 false (dr vw_2)))) vi.1 vw)) ∧
  ((¬ (vi.2 < (5 : Int))) → Q false vw)) ((IntKind.i64.wrap (a + (1 : Int))), (0 : Int)) w
theorem vc_slices_partialInsertionSortOrdered_uint64 (data : Sl) (a : Int) (b : Int) (w : World) (Q : Bool → World → Prop) (h : F_slices_partialInsertionSortOrdered_uint64 data a b w Q) : CallP Tryz.prog n_slices_partialInsertionSortOrdered_uint64 [Sl.v data, .int .i64 a, .int .i64 b] w (ret1 tB Q) := by
  unfold F_slices_partialInsertionSortOrdered_uint64 at h
  refine CallP.of_body 133 Tryz.func87 rfl Tryz.ntmps87 rfl ?_
  refine WC.seq ?_
  refine WC.region ?_
  refine WL.pure (W0 rfl) rfl (Pu.assign rfl rfl) ?_
  refine WL.nil ?_
  refine Lf.thenC ?_
  refine WC.seq ?_
  refine WC.region ?_
  refine WL.pure (W0 rfl) rfl (Pu.move rfl rfl) ?_
  refine WL.pure (W0 rfl) rfl (Pu.add rfl rfl rfl) ?_
  refine WL.pure (W0 rfl) rfl (Pu.assign rfl rfl) ?_
  refine WL.nil ?_
  refine Lf.thenC ?_
  refine WC.seq ?_
  refine WC.seq ?_
  refine WC.region ?_
  refine WL.pure (W0 rfl) rfl (Pu.assign rfl rfl) ?_
  refine WL.nil ?_
  refine Lf.thenC ?_
  refine WC.block ?_
  refine WC.loop (α := Int × Int) (fun vi => [(7, .int .i64 vi.1), (8, .int .i64 vi.2), (0, Sl.v data), (1, .int .i64 a), (2, .int .i64 b)]) ((IntKind.i64.wrap (a + (1 : Int))), (0 : Int)) (by exact ⟨rfl, rfl, rfl, rfl, rfl, trivial⟩) h (fun vJ vi vw h => ?_)
  refine WC.seq ?_
  refine WC.seq ?_
  refine WC.region ?_
  refine WL.pure (W0 rfl) rfl (Pu.move rfl rfl) ?_
  refine WL.pure (W0 rfl) rfl (Pu.lss rfl rfl rfl) ?_
  refine WL.nil ?_
  refine Lf.thenC ?_
  refine WC.condD rfl (fun hc => ?_) (fun hc => ?_)
  · replace h := h.1 hc
    refine WC.skip ?_
    refine Lf.thenC ?_
    obtain ⟨vk, h2, h⟩ := h
    refine WC.cut (α := Int) (k := vk) (fun vj => [(7, .int .i64 vj), (0, Sl.v data), (1, .int .i64 a), (2, .int .i64 b), (8, .int .i64 vi.2)]) (fun vj vw_1 h => ?_) ?_
    · replace h := h2 _ _ h
      clear h2
      refine WC.region ?_
      refine WL.pure (W0 rfl) rfl (Pu.move rfl rfl) ?_
      refine WL.pure (W0 rfl) rfl (Pu.add rfl rfl rfl) ?_
      refine WL.pure (W0 rfl) rfl (Pu.assign rfl rfl) ?_
      refine WL.nil ?_
      exact Lf.joinA (vj, (IntKind.i64.wrap (vi.2 + (1 : Int)))) (by exact ⟨rfl, rfl, rfl, rfl, rfl, trivial⟩) h
    · clear h2
      refine WC.block ?_
      refine WC.seq ?_
      refine WC.block ?_
      refine WC.loop (α := Int) (fun vi_1 => [(7, .int .i64 vi_1), (0, Sl.v data), (1, .int .i64 a), (2, .int .i64 b), (8, .int .i64 vi.2)]) vi.1 (by exact ⟨rfl, rfl, rfl, rfl, rfl, trivial⟩) h (fun vJ_1 vi_1 vw_2 h => ?_)
      refine WC.seq ?_
      obtain ⟨vk_1, h2, h⟩ := h
      refine WC.cut (α := Bool) (k := vk_1) (fun vj_1 => [(32, .bool vj_1), (0, Sl.v data), (1, .int .i64 a), (2, .int .i64 b), (7, .int .i64 vi_1), (8, .int .i64 vi.2)]) (fun vj_1 vw_3 h => ?_) ?_
      · replace h := h2 _ _ h
        clear h2
        refine WC.cond rfl (fun hc => ?_) (fun hc => ?_)
        · replace h := h.1 hc
          refine WC.skip ?_
          refine Lf.thenC ?_
          refine WC.block ?_
          refine WC.region ?_
          refine WL.pure (W0 rfl) rfl (Pu.move rfl rfl) ?_
          refine WL.pure (W0 rfl) rfl (Pu.add rfl rfl rfl) ?_
          refine WL.pure (W0 rfl) rfl (Pu.assign rfl rfl) ?_
          refine WL.nil ?_
          exact Lf.joinA (IntKind.i64.wrap (vi_1 + (1 : Int))) (by exact ⟨rfl, rfl, rfl, rfl, rfl, trivial⟩) h
        · replace h := h.2 hc
          refine WC.exit rfl ?_
          refine Lf.thenC ?_
          refine WC.seq ?_
          refine WC.seq ?_
          refine WC.region ?_
          refine WL.pure (W0 rfl) rfl (Pu.move rfl rfl) ?_
          refine WL.pure (W0 rfl) rfl (Pu.move rfl rfl) ?_
          refine WL.pure (W0 rfl) rfl (Pu.eql rfl rfl rfl) ?_
          refine WL.nil ?_
          refine Lf.thenC ?_
          refine WC.condD rfl (fun hc => ?_) (fun hc => ?_)
          · replace h := h.1 hc
            refine WC.seq ?_
            refine WC.region ?_
            refine WL.pure (W0 rfl) rfl (Pu.assign rfl rfl) ?_
            refine WL.nil ?_
            refine Lf.thenC ?_
            refine WC.ret ?_
            exact Lf.ret1 rfl rfl ⟨_, rfl, h⟩
          · replace h := h.2 hc
            refine WC.skip ?_
            refine Lf.thenC ?_
            refine WC.seq ?_
            refine WC.seq ?_
            refine WC.region ?_
            refine WL.pure (W0 rfl) rfl (Pu.move rfl rfl) ?_
            refine WL.pure (W0 rfl) rfl (Pu.move rfl rfl) ?_
            refine WL.pure (W0 rfl) rfl (Pu.sub rfl rfl rfl) ?_
            refine WL.pure (W0 rfl) rfl (Pu.lss rfl rfl rfl) ?_
            refine WL.nil ?_
            refine Lf.thenC ?_
            refine WC.condD rfl (fun hc => ?_) (fun hc => ?_)
            · replace h := h.1 hc
              refine WC.seq ?_
              refine WC.region ?_
              refine WL.pure (W0 rfl) rfl (Pu.assign rfl rfl) ?_
              refine WL.nil ?_
              refine Lf.thenC ?_
              refine WC.ret ?_
              exact Lf.ret1 rfl rfl ⟨_, rfl, h⟩
            · replace h := h.2 hc
              refine WC.skip ?_
              refine Lf.thenC ?_
              refine WC.seq ?_
              refine WC.draw [(0, false), (1, false), (2, false), (3, false), (4, false), (5, false), (6, false), (7, false), (8, false), (9, false), (10, false), (11, false), (12, false), (13, false), (14, false), (15, true), (16, false), (17, true)] mixed (by kernel_rfl) ?_
              refine DL.pure rfl (W0 rfl) rfl (Pu.move rfl rfl) ?_
              refine DL.pure rfl (W0 rfl) rfl (Pu.move rfl rfl) ?_
              refine DL.pure rfl (W0 rfl) rfl (Pu.move rfl rfl) ?_
              refine DL.pure rfl (W0 rfl) rfl (Pu.move rfl rfl) ?_
              refine DL.pure rfl (W0 rfl) rfl (Pu.sub rfl rfl rfl) ?_
              refine DL.pure rfl (W0 rfl) rfl (Pu.move rfl rfl) ?_
              refine DL.pure rfl (W0 rfl) rfl (Pu.move rfl rfl) ?_
              refine DL.pure rfl (W0 rfl) rfl (Pu.sub rfl rfl rfl) ?_
              obtain ⟨hi0, hi1, b_1, q, hs, h⟩ := h
              refine DL.pure rfl (W0 rfl) rfl (Pu.indexAddr rfl Tryz.underlying87 sz_33 rfl rfl hs hi0 hi1) ?_
              obtain ⟨v, hl, h⟩ := h
              refine DL.read _ rfl (W0 rfl) rfl (Rd.load ok_33 rfl rfl) hl ?_
              refine DL.pure rfl (W0 rfl) rfl (Pu.move rfl rfl) ?_
              refine DL.pure rfl (W0 rfl) rfl (Pu.move rfl rfl) ?_
              obtain ⟨hi0, hi1, b_2, q_1, hs, h⟩ := h
              refine DL.pure rfl (W0 rfl) rfl (Pu.indexAddr rfl Tryz.underlying87 sz_33 rfl rfl hs hi0 hi1) ?_
              obtain ⟨v_1, hl, h⟩ := h
              refine DL.read _ rfl (W0 rfl) rfl (Rd.load ok_33 rfl rfl) hl ?_
              obtain ⟨hi0, hi1, b_3, q_2, hs, h⟩ := h
              refine DL.pure rfl (W0 rfl) rfl (Pu.indexAddr rfl Tryz.underlying87 sz_33 rfl rfl hs hi0 hi1) ?_
              refine DL.qs rfl (W0 rfl) rfl (Rsq.store v ok_33 rfl rfl rfl h) ?_
              rintro vw_4 h
              refine ⟨(by exact ⟨.inl (by kernel_rfl), ⟨.inl (by kernel_rfl), trivial⟩⟩), ?_⟩
              obtain ⟨hi0, hi1, b_4, q_3, hs, h⟩ := h
              refine DL.pure rfl (W0 rfl) rfl (Pu.indexAddr rfl Tryz.underlying87 sz_33 rfl rfl hs hi0 hi1) ?_
              refine DL.qs rfl (W0 rfl) rfl (Rsq.store v_1 ok_33 rfl rfl rfl h) ?_
              rintro vw_5 h
              refine ⟨(by exact ⟨.inl (by kernel_rfl), ⟨.inl (by kernel_rfl), trivial⟩⟩), ?_⟩
              refine DL.nil ?_
              refine Lf.thenC ?_
              obtain ⟨vk_2, h2, h⟩ := h
              refine WC.cut (α := Unit) (k := vk_2) (fun vj_2 => [(0, Sl.v data), (1, .int .i64 a), (2, .int .i64 b), (7, .int .i64 vi_1), (8, .int .i64 vi.2)]) (fun vj_2 vw_6 h => ?_) ?_
              · replace h := h2 _ _ h
                clear h2
                refine WC.seq ?_
                refine WC.region ?_
                refine WL.pure (W0 rfl) rfl (Pu.move rfl rfl) ?_
                refine WL.pure (W0 rfl) rfl (Pu.move rfl rfl) ?_
                refine WL.pure (W0 rfl) rfl (Pu.sub rfl rfl rfl) ?_
                refine WL.pure (W0 rfl) rfl (Pu.geq rfl rfl rfl) ?_
                refine WL.nil ?_
                refine Lf.thenC ?_
                refine WC.condD rfl (fun hc => ?_) (fun hc => ?_)
                · replace h := h.1 hc
                  refine WC.seq ?_
                  refine WC.region ?_
                  refine WL.pure (W0 rfl) rfl (Pu.move rfl rfl) ?_
                  refine WL.pure (W0 rfl) rfl (Pu.add rfl rfl rfl) ?_
                  refine WL.pure (W0 rfl) rfl (Pu.assign rfl rfl) ?_
                  refine WL.nil ?_
                  refine Lf.thenC ?_
                  refine WC.block ?_
                  refine WC.loop (α := Int) (fun vi_2 => [(10, .int .i64 vi_2), (0, Sl.v data), (1, .int .i64 a), (2, .int .i64 b), (7, .int .i64 vi_1), (8, .int .i64 vi.2)]) (IntKind.i64.wrap (vi_1 + (1 : Int))) (by exact ⟨rfl, rfl, rfl, rfl, rfl, rfl, trivial⟩) h (fun vJ_2 vi_2 vw_7 h => ?_)
                  refine WC.seq ?_
                  refine WC.seq ?_
                  refine WC.region ?_
                  refine WL.pure (W0 rfl) rfl (Pu.move rfl rfl) ?_
                  refine WL.pure (W0 rfl) rfl (Pu.move rfl rfl) ?_
                  refine WL.pure (W0 rfl) rfl (Pu.lss rfl rfl rfl) ?_
                  refine WL.nil ?_
                  refine Lf.thenC ?_
                  refine WC.condD rfl (fun hc => ?_) (fun hc => ?_)
                  · replace h := h.1 hc
                    refine WC.skip ?_
                    refine Lf.thenC ?_
                    refine WC.seq ?_
                    refine WC.block ?_
                    refine WC.seq ?_
                    refine WC.seq ?_
                    refine WC.draw [(0, false), (1, false), (2, false), (3, false), (4, false), (5, false), (6, false), (7, false), (8, false), (9, true), (10, false)] mixed (by kernel_rfl) ?_
                    refine DL.pure rfl (W0 rfl) rfl (Pu.move rfl rfl) ?_
                    refine DL.pure rfl (W0 rfl) rfl (Pu.move rfl rfl) ?_
                    obtain ⟨hi0, hi1, b_5, q_4, hs, h⟩ := h
                    refine DL.pure rfl (W0 rfl) rfl (Pu.indexAddr rfl Tryz.underlying87 sz_33 rfl rfl hs hi0 hi1) ?_
                    obtain ⟨v_2, hl, h⟩ := h
                    refine DL.read _ rfl (W0 rfl) rfl (Rd.load ok_33 rfl rfl) hl ?_
                    refine DL.pure rfl (W0 rfl) rfl (Pu.move rfl rfl) ?_
                    refine DL.pure rfl (W0 rfl) rfl (Pu.move rfl rfl) ?_
                    refine DL.pure rfl (W0 rfl) rfl (Pu.sub rfl rfl rfl) ?_
                    obtain ⟨hi0, hi1, b_6, q_5, hs, h⟩ := h
                    refine DL.pure rfl (W0 rfl) rfl (Pu.indexAddr rfl Tryz.underlying87 sz_33 rfl rfl hs hi0 hi1) ?_
                    obtain ⟨v_3, hl, h⟩ := h
                    refine DL.read _ rfl (W0 rfl) rfl (Rd.load ok_33 rfl rfl) hl ?_
                    refine DL.call rfl (W0 rfl) rfl (fun xa hxa => run_call (fs := []) (cs := []) (vs := [.int .u64 v_2, .int .u64 v_3]) rfl rfl rfl Tryz.func88 rfl rfl xa hxa _) h ?_
                    rintro _ vw_8 ⟨r, rfl, h⟩
                    refine ⟨(by exact ⟨.inl (by kernel_rfl), ⟨.inl (by kernel_rfl), trivial⟩⟩), ?_⟩
                    refine DL.pure rfl (W0 rfl) rfl (Pu.not rfl rfl) ?_
                    refine DL.nil ?_
                    refine Lf.thenC ?_
                    refine WC.cond rfl (fun hc => ?_) (fun hc => ?_)
                    · replace h := h.1 hc
                      refine WC.exit rfl ?_
                      exact Lf.joinA vi_1 (by exact ⟨rfl, rfl, rfl, rfl, rfl, trivial⟩) h
                    · replace h := h.2 hc
                      refine WC.skip ?_
                      refine Lf.thenC ?_
                      refine WC.draw [(0, false), (1, false), (2, false), (3, false), (4, false), (5, false), (6, false), (7, false), (8, false), (9, false), (10, false), (11, false), (12, false), (13, false), (14, false), (15, true), (16, false), (17, true)] mixed (by kernel_rfl) ?_
                      refine DL.pure rfl (W0 rfl) rfl (Pu.move rfl rfl) ?_
                      refine DL.pure rfl (W0 rfl) rfl (Pu.move rfl rfl) ?_
                      refine DL.pure rfl (W0 rfl) rfl (Pu.move rfl rfl) ?_
                      refine DL.pure rfl (W0 rfl) rfl (Pu.move rfl rfl) ?_
                      refine DL.pure rfl (W0 rfl) rfl (Pu.sub rfl rfl rfl) ?_
                      refine DL.pure rfl (W0 rfl) rfl (Pu.move rfl rfl) ?_
                      refine DL.pure rfl (W0 rfl) rfl (Pu.move rfl rfl) ?_
                      refine DL.pure rfl (W0 rfl) rfl (Pu.sub rfl rfl rfl) ?_
                      obtain ⟨hi0, hi1, b_7, q_6, hs, h⟩ := h
                      refine DL.pure rfl (W0 rfl) rfl (Pu.indexAddr rfl Tryz.underlying87 sz_33 rfl rfl hs hi0 hi1) ?_
                      obtain ⟨v_4, hl, h⟩ := h
                      refine DL.read _ rfl (W0 rfl) rfl (Rd.load ok_33 rfl rfl) hl ?_
                      refine DL.pure rfl (W0 rfl) rfl (Pu.move rfl rfl) ?_
                      refine DL.pure rfl (W0 rfl) rfl (Pu.move rfl rfl) ?_
                      obtain ⟨hi0, hi1, b_8, q_7, hs, h⟩ := h
                      refine DL.pure rfl (W0 rfl) rfl (Pu.indexAddr rfl Tryz.underlying87 sz_33 rfl rfl hs hi0 hi1) ?_
                      obtain ⟨v_5, hl, h⟩ := h
                      refine DL.read _ rfl (W0 rfl) rfl (Rd.load ok_33 rfl rfl) hl ?_
                      obtain ⟨hi0, hi1, b_9, q_8, hs, h⟩ := h
                      refine DL.pure rfl (W0 rfl) rfl (Pu.indexAddr rfl Tryz.underlying87 sz_33 rfl rfl hs hi0 hi1) ?_
                      refine DL.qs rfl (W0 rfl) rfl (Rsq.store v_4 ok_33 rfl rfl rfl h) ?_
                      rintro vw_9 h
                      refine ⟨(by exact ⟨.inl (by kernel_rfl), ⟨.inl (by kernel_rfl), trivial⟩⟩), ?_⟩
                      obtain ⟨hi0, hi1, b_10, q_9, hs, h⟩ := h
                      refine DL.pure rfl (W0 rfl) rfl (Pu.indexAddr rfl Tryz.underlying87 sz_33 rfl rfl hs hi0 hi1) ?_
                      refine DL.qs rfl (W0 rfl) rfl (Rsq.store v_5 ok_33 rfl rfl rfl h) ?_
                      rintro vw_10 h
                      refine ⟨(by exact ⟨.inl (by kernel_rfl), ⟨.inl (by kernel_rfl), trivial⟩⟩), ?_⟩
                      refine DL.nil ?_
                      refine Lf.thenC ?_
                      refine WC.region ?_
                      refine WL.pure (W0 rfl) rfl (Pu.move rfl rfl) ?_
                      refine WL.pure (W0 rfl) rfl (Pu.add rfl rfl rfl) ?_
                      refine WL.pure (W0 rfl) rfl (Pu.assign rfl rfl) ?_
                      refine WL.nil ?_
                      exact Lf.joinA (IntKind.i64.wrap (vi_2 + (1 : Int))) (by exact ⟨rfl, rfl, rfl, rfl, rfl, rfl, trivial⟩) h
                  · replace h := h.2 hc
                    refine WC.exit rfl ?_
                    exact Lf.joinA vi_1 (by exact ⟨rfl, rfl, rfl, rfl, rfl, trivial⟩) h
                · replace h := h.2 hc
                  refine WC.skip ?_
                  exact Lf.joinA vi_1 (by exact ⟨rfl, rfl, rfl, rfl, rfl, trivial⟩) h
              · clear h2
                refine WC.seq ?_
                refine WC.region ?_
                refine WL.pure (W0 rfl) rfl (Pu.move rfl rfl) ?_
                refine WL.pure (W0 rfl) rfl (Pu.move rfl rfl) ?_
                refine WL.pure (W0 rfl) rfl (Pu.sub rfl rfl rfl) ?_
                refine WL.pure (W0 rfl) rfl (Pu.geq rfl rfl rfl) ?_
                refine WL.nil ?_
                refine Lf.thenC ?_
                refine WC.condD rfl (fun hc => ?_) (fun hc => ?_)
                · replace h := h.1 hc
                  refine WC.seq ?_
                  refine WC.region ?_
                  refine WL.pure (W0 rfl) rfl (Pu.move rfl rfl) ?_
                  refine WL.pure (W0 rfl) rfl (Pu.sub rfl rfl rfl) ?_
                  refine WL.pure (W0 rfl) rfl (Pu.assign rfl rfl) ?_
                  refine WL.nil ?_
                  refine Lf.thenC ?_
                  refine WC.block ?_
                  refine WC.loop (α := Int) (fun vi_3 => [(9, .int .i64 vi_3), (0, Sl.v data), (1, .int .i64 a), (2, .int .i64 b), (7, .int .i64 vi_1), (8, .int .i64 vi.2)]) (IntKind.i64.wrap (vi_1 - (1 : Int))) (by exact ⟨rfl, rfl, rfl, rfl, rfl, rfl, trivial⟩) h (fun vJ_3 vi_3 vw_11 h => ?_)
                  refine WC.seq ?_
                  refine WC.seq ?_
                  refine WC.region ?_
                  refine WL.pure (W0 rfl) rfl (Pu.move rfl rfl) ?_
                  refine WL.pure (W0 rfl) rfl (Pu.geq rfl rfl rfl) ?_
                  refine WL.nil ?_
                  refine Lf.thenC ?_
                  refine WC.condD rfl (fun hc => ?_) (fun hc => ?_)
                  · replace h := h.1 hc
                    refine WC.skip ?_
                    refine Lf.thenC ?_
                    refine WC.seq ?_
                    refine WC.block ?_
                    refine WC.seq ?_
                    refine WC.seq ?_
                    refine WC.draw [(0, false), (1, false), (2, false), (3, false), (4, false), (5, false), (6, false), (7, false), (8, false), (9, true), (10, false)] mixed (by kernel_rfl) ?_
                    refine DL.pure rfl (W0 rfl) rfl (Pu.move rfl rfl) ?_
                    refine DL.pure rfl (W0 rfl) rfl (Pu.move rfl rfl) ?_
                    obtain ⟨hi0, hi1, b_11, q_10, hs, h⟩ := h
                    refine DL.pure rfl (W0 rfl) rfl (Pu.indexAddr rfl Tryz.underlying87 sz_33 rfl rfl hs hi0 hi1) ?_
                    obtain ⟨v_6, hl, h⟩ := h
                    refine DL.read _ rfl (W0 rfl) rfl (Rd.load ok_33 rfl rfl) hl ?_
                    refine DL.pure rfl (W0 rfl) rfl (Pu.move rfl rfl) ?_
                    refine DL.pure rfl (W0 rfl) rfl (Pu.move rfl rfl) ?_
                    refine DL.pure rfl (W0 rfl) rfl (Pu.sub rfl rfl rfl) ?_
                    obtain ⟨hi0, hi1, b_12, q_11, hs, h⟩ := h
                    refine DL.pure rfl (W0 rfl) rfl (Pu.indexAddr rfl Tryz.underlying87 sz_33 rfl rfl hs hi0 hi1) ?_
                    obtain ⟨v_7, hl, h⟩ := h
                    refine DL.read _ rfl (W0 rfl) rfl (Rd.load ok_33 rfl rfl) hl ?_
                    refine DL.call rfl (W0 rfl) rfl (fun xa hxa => run_call (fs := []) (cs := []) (vs := [.int .u64 v_6, .int .u64 v_7]) rfl rfl rfl Tryz.func88 rfl rfl xa hxa _) h ?_
                    rintro _ vw_12 ⟨r_1, rfl, h⟩
                    refine ⟨(by exact ⟨.inl (by kernel_rfl), ⟨.inl (by kernel_rfl), trivial⟩⟩), ?_⟩
                    refine DL.pure rfl (W0 rfl) rfl (Pu.not rfl rfl) ?_
                    refine DL.nil ?_
                    refine Lf.thenC ?_
                    refine WC.cond rfl (fun hc => ?_) (fun hc => ?_)
                    · replace h := h.1 hc
                      refine WC.exit rfl ?_
                      exact Lf.joinA () (by exact ⟨rfl, rfl, rfl, rfl, rfl, trivial⟩) h
                    · replace h := h.2 hc
                      refine WC.skip ?_
                      refine Lf.thenC ?_
                      refine WC.draw [(0, false), (1, false), (2, false), (3, false), (4, false), (5, false), (6, false), (7, false), (8, false), (9, false), (10, false), (11, false), (12, false), (13, false), (14, false), (15, true), (16, false), (17, true)] mixed (by kernel_rfl) ?_
                      refine DL.pure rfl (W0 rfl) rfl (Pu.move rfl rfl) ?_
                      refine DL.pure rfl (W0 rfl) rfl (Pu.move rfl rfl) ?_
                      refine DL.pure rfl (W0 rfl) rfl (Pu.move rfl rfl) ?_
                      refine DL.pure rfl (W0 rfl) rfl (Pu.move rfl rfl) ?_
                      refine DL.pure rfl (W0 rfl) rfl (Pu.sub rfl rfl rfl) ?_
                      refine DL.pure rfl (W0 rfl) rfl (Pu.move rfl rfl) ?_
                      refine DL.pure rfl (W0 rfl) rfl (Pu.move rfl rfl) ?_
                      refine DL.pure rfl (W0 rfl) rfl (Pu.sub rfl rfl rfl) ?_
                      obtain ⟨hi0, hi1, b_13, q_12, hs, h⟩ := h
                      refine DL.pure rfl (W0 rfl) rfl (Pu.indexAddr rfl Tryz.underlying87 sz_33 rfl rfl hs hi0 hi1) ?_
                      obtain ⟨v_8, hl, h⟩ := h
                      refine DL.read _ rfl (W0 rfl) rfl (Rd.load ok_33 rfl rfl) hl ?_
                      refine DL.pure rfl (W0 rfl) rfl (Pu.move rfl rfl) ?_
                      refine DL.pure rfl (W0 rfl) rfl (Pu.move rfl rfl) ?_
                      obtain ⟨hi0, hi1, b_14, q_13, hs, h⟩ := h
                      refine DL.pure rfl (W0 rfl) rfl (Pu.indexAddr rfl Tryz.underlying87 sz_33 rfl rfl hs hi0 hi1) ?_
                      obtain ⟨v_9, hl, h⟩ := h
                      refine DL.read _ rfl (W0 rfl) rfl (Rd.load ok_33 rfl rfl) hl ?_
                      obtain ⟨hi0, hi1, b_15, q_14, hs, h⟩ := h
                      refine DL.pure rfl (W0 rfl) rfl (Pu.indexAddr rfl Tryz.underlying87 sz_33 rfl rfl hs hi0 hi1) ?_
                      refine DL.qs rfl (W0 rfl) rfl (Rsq.store v_8 ok_33 rfl rfl rfl h) ?_
                      rintro vw_13 h
                      refine ⟨(by exact ⟨.inl (by kernel_rfl), ⟨.inl (by kernel_rfl), trivial⟩⟩), ?_⟩
                      obtain ⟨hi0, hi1, b_16, q_15, hs, h⟩ := h
                      refine DL.pure rfl (W0 rfl) rfl (Pu.indexAddr rfl Tryz.underlying87 sz_33 rfl rfl hs hi0 hi1) ?_
                      refine DL.qs rfl (W0 rfl) rfl (Rsq.store v_9 ok_33 rfl rfl rfl h) ?_
                      rintro vw_14 h
                      refine ⟨(by exact ⟨.inl (by kernel_rfl), ⟨.inl (by kernel_rfl), trivial⟩⟩), ?_⟩
                      refine DL.nil ?_
                      refine Lf.thenC ?_
                      refine WC.region ?_
                      refine WL.pure (W0 rfl) rfl (Pu.move rfl rfl) ?_
                      refine WL.pure (W0 rfl) rfl (Pu.sub rfl rfl rfl) ?_
                      refine WL.pure (W0 rfl) rfl (Pu.assign rfl rfl) ?_
                      refine WL.nil ?_
                      exact Lf.joinA (IntKind.i64.wrap (vi_3 - (1 : Int))) (by exact ⟨rfl, rfl, rfl, rfl, rfl, rfl, trivial⟩) h
                  · replace h := h.2 hc
                    refine WC.exit rfl ?_
                    exact Lf.joinA () (by exact ⟨rfl, rfl, rfl, rfl, rfl, trivial⟩) h
                · replace h := h.2 hc
                  refine WC.skip ?_
                  exact Lf.joinA () (by exact ⟨rfl, rfl, rfl, rfl, rfl, trivial⟩) h
      · clear h2
        refine WC.draw [(0, false), (1, false), (2, false), (3, false), (4, false), (5, false), (6, false), (7, false), (8, false), (9, false), (10, false), (11, false), (12, false), (13, true), (14, false), (15, false)] mixed (by kernel_rfl) ?_
        refine DL.pure rfl (W0 rfl) rfl (Pu.move rfl rfl) ?_
        refine DL.pure rfl (W0 rfl) rfl (Pu.move rfl rfl) ?_
        refine DL.pure rfl (W0 rfl) rfl (Pu.lss rfl rfl rfl) ?_
        refine DL.pure rfl (W0 rfl) rfl (Pu.move rfl rfl) ?_
        refine DL.boolD (t := 20) rfl (fun hc => ?_) (fun hc => ?_)
        · replace h := h.1 hc
          refine DL.pure rfl (W1 (t := 20) rfl rfl rfl rfl) rfl (Pu.move rfl rfl) ?_
          refine DL.pure rfl (W1 (t := 20) rfl rfl rfl rfl) rfl (Pu.move rfl rfl) ?_
          obtain ⟨hi0, hi1, b_17, q_16, hs, h⟩ := h
          refine DL.pure rfl (W1 (t := 20) rfl rfl rfl rfl) rfl (Pu.indexAddr rfl Tryz.underlying87 sz_33 rfl rfl hs hi0 hi1) ?_
          obtain ⟨v_10, hl, h⟩ := h
          refine DL.read _ rfl (W1 (t := 20) rfl rfl rfl rfl) rfl (Rd.load ok_33 rfl rfl) hl ?_
          refine DL.pure rfl (W1 (t := 20) rfl rfl rfl rfl) rfl (Pu.move rfl rfl) ?_
          refine DL.pure rfl (W1 (t := 20) rfl rfl rfl rfl) rfl (Pu.move rfl rfl) ?_
          refine DL.pure rfl (W1 (t := 20) rfl rfl rfl rfl) rfl (Pu.sub rfl rfl rfl) ?_
          obtain ⟨hi0, hi1, b_18, q_17, hs, h⟩ := h
          refine DL.pure rfl (W1 (t := 20) rfl rfl rfl rfl) rfl (Pu.indexAddr rfl Tryz.underlying87 sz_33 rfl rfl hs hi0 hi1) ?_
          obtain ⟨v_11, hl, h⟩ := h
          refine DL.read _ rfl (W1 (t := 20) rfl rfl rfl rfl) rfl (Rd.load ok_33 rfl rfl) hl ?_
          refine DL.call rfl (W1 (t := 20) rfl rfl rfl rfl) rfl (fun xa hxa => run_call (fs := []) (cs := []) (vs := [.int .u64 v_10, .int .u64 v_11]) rfl rfl rfl Tryz.func88 rfl rfl xa hxa _) h ?_
          rintro _ vw_15 ⟨r_2, rfl, h⟩
          refine ⟨(by exact ⟨.inl (by kernel_rfl), ⟨.inl (by kernel_rfl), trivial⟩⟩), ?_⟩
          refine DL.pure rfl (W1 (t := 20) rfl rfl rfl rfl) rfl (Pu.not rfl rfl) ?_
          refine DL.pure rfl (W0 rfl) rfl (Pu.pickT rfl rfl rfl) ?_
          refine DL.nil ?_
          exact Lf.joinA (!r_2) (by exact ⟨rfl, rfl, rfl, rfl, rfl, rfl, trivial⟩) h
        · replace h := h.2 hc
          refine DL.unwanted (t := 20) rfl rfl rfl rfl rfl rfl rfl ?_
          refine DL.unwanted (t := 20) rfl rfl rfl rfl rfl rfl rfl ?_
          refine DL.unwanted (t := 20) rfl rfl rfl rfl rfl rfl rfl ?_
          refine DL.unwanted (t := 20) rfl rfl rfl rfl rfl rfl rfl ?_
          refine DL.unwanted (t := 20) rfl rfl rfl rfl rfl rfl rfl ?_
          refine DL.unwanted (t := 20) rfl rfl rfl rfl rfl rfl rfl ?_
          refine DL.unwanted (t := 20) rfl rfl rfl rfl rfl rfl rfl ?_
          refine DL.unwanted (t := 20) rfl rfl rfl rfl rfl rfl rfl ?_
          refine DL.unwanted (t := 20) rfl rfl rfl rfl rfl rfl rfl ?_
          refine DL.unwantedT (t := 20) rfl rfl rfl rfl rfl rfl rfl ?_
          refine DL.unwanted (t := 20) rfl rfl rfl rfl rfl rfl rfl ?_
          refine DL.pure rfl (W0 rfl) rfl (Pu.pickF rfl rfl rfl) ?_
          refine DL.nil ?_
          exact Lf.joinA false (by exact ⟨rfl, rfl, rfl, rfl, rfl, rfl, trivial⟩) h
  · replace h := h.2 hc
    refine WC.exit rfl ?_
    refine Lf.thenC ?_
    refine WC.seq ?_
    refine WC.region ?_
    refine WL.pure (W0 rfl) rfl (Pu.assign rfl rfl) ?_
    refine WL.nil ?_
    refine Lf.thenC ?_
    refine WC.ret ?_
    exact Lf.ret1 rfl rfl ⟨_, rfl, h⟩
/-- slices.choosePivotOrdered[uint64] -/
def F_slices_choosePivotOrdered_uint64 (data : Sl) (a : Int) (b : Int) (w : World) (Q : Int → Int → World → Prop) : Prop :=
  al w [.int .i64 (0 : Int)] T_int (fun b_1 vw => JoinP (α := Int) (fun vj vw_1 => ld (tI .i64) vw_1 b_1 0 (fun v => ((v = (0 : Int)) → Q vj (1 : Int) vw_1) ∧
  ((¬ (v = (0 : Int))) → ((v = (12 : Int)) → Q vj (2 : Int) vw_1) ∧
  ((¬ (v = (12 : Int))) → Q vj (0 : Int) vw_1))))
  (fun vk => (((8 : Int) ≤ (IntKind.i64.wrap (b - a))) → JoinP (α := Int × Int × Int) (fun vj_1 vw_2 => CallP Tryz.prog n_slices_medianOrdered_uint64 [Sl.v data, .int .i64 vj_1.1, .int .i64 vj_1.2.1, .int .i64 vj_1.2.2, .pointer (some ⟨b_1, 0, none⟩ : Option Addr)] vw_2 (ret1 (tI .i64) (fun r vw_3 => vk r vw_3)))
  (fun vk_1 => (((50 : Int) ≤ (IntKind.i64.wrap (b - a))) → CallP Tryz.prog n_slices_medianAdjacentOrdered_uint64 [Sl.v data, .int .i64 (IntKind.i64.wrap (a + (IntKind.i64.wrap ((IntKind.i64.wrap (Int.tdiv (IntKind.i64.wrap (b - a)) (4 : Int))) * (1 : Int))))), .pointer (some ⟨b_1, 0, none⟩ : Option Addr)] vw (ret1 (tI .i64) (fun r_1 vw_4 => CallP Tryz.prog n_slices_medianAdjacentOrdered_uint64 [Sl.v data, .int .i64 (IntKind.i64.wrap (a + (IntKind.i64.wrap ((IntKind.i64.wrap (Int.tdiv (IntKind.i64.wrap (b - a)) (4 : Int))) * (2 : Int))))), .pointer (some ⟨b_1, 0, none⟩ : Option Addr)] vw_4 (ret1 (tI .i64) (fun r_2 vw_5 => CallP Tryz.prog n_slices_medianAdjacentOrdered_uint64 [Sl.v data, .int .i64 (IntKind.i64.wrap (a + (IntKind.i64.wrap ((IntKind.i64.wrap (Int.tdiv (IntKind.i64.wrap (b - a)) (4 : Int))) * (3 : Int))))), .pointer (some ⟨b_1, 0, none⟩ : Option Addr)] vw_5 (ret1 (tI .i64) (fun r_3 vw_6 => vk_1 (r_1, r_2, r_3) vw_6))))))) ∧
  ((¬ ((50 : Int) ≤ (IntKind.i64.wrap (b - a)))) → vk_1 ((IntKind.i64.wrap (a + (IntKind.i64.wrap ((IntKind.i64.wrap (Int.tdiv (IntKind.i64.wrap (b - a)) (4 : Int))) * (1 : Int))))), (IntKind.i64.wrap (a + (IntKind.i64.wrap ((IntKind.i64.wrap (Int.tdiv (IntKind.i64.wrap (b - a)) (4 : Int))) * (2 : Int))))), (IntKind.i64.wrap (a + (IntKind.i64.wrap ((IntKind.i64.wrap (Int.tdiv (IntKind.i64.wrap (b - a)) (4 : Int))) * (3 : Int)))))) vw))) ∧
  ((¬ ((8 : Int) ≤ (IntKind.i64.wrap (b - a)))) → vk (IntKind.i64.wrap (a + (IntKind.i64.wrap ((IntKind.i64.wrap (Int.tdiv (IntKind.i64.wrap (b - a)) (4 : Int))) * (2 : Int))))) vw)))
theorem vc_slices_choosePivotOrdered_uint64 (data : Sl) (a : Int) (b : Int) (w : World) (Q : Int → Int → World → Prop) (h : F_slices_choosePivotOrdered_uint64 data a b w Q) : CallP Tryz.prog n_slices_choosePivotOrdered_uint64 [Sl.v data, .int .i64 a, .int .i64 b] w (ret2 (tI .i64) (tI .i64) Q) := by
  unfold F_slices_choosePivotOrdered_uint64 at h
  refine CallP.of_body 57 Tryz.func85 rfl Tryz.ntmps85 rfl ?_
  refine WC.seq ?_
  refine WC.region ?_
  refine WL.pure (W0 rfl) rfl (Pu.assign rfl rfl) ?_
  refine WL.pure (W0 rfl) rfl (Pu.assign rfl rfl) ?_
  refine WL.nil ?_
  refine Lf.thenC ?_
  refine WC.seq ?_
  refine WC.region ?_
  refine WL.pure (W0 rfl) rfl (Pu.move rfl rfl) ?_
  refine WL.pure (W0 rfl) rfl (Pu.move rfl rfl) ?_
  refine WL.pure (W0 rfl) rfl (Pu.sub rfl rfl rfl) ?_
  refine WL.pure (W0 rfl) rfl (Pu.assign rfl rfl) ?_
  refine WL.nil ?_
  refine Lf.thenC ?_
  refine WC.seq ?_
  refine WC.region ?_
  refine WL.q (W0 rfl) rfl (Rq.alloc (cs := [.int .i64 (0 : Int)]) rfl (z := .int .i64 (0 : Int)) (by kernel_rfl) rfl h) ?_
  rintro _ vw ⟨b_1, rfl, h⟩
  refine WL.nil ?_
  refine Lf.thenC ?_
  refine WC.seq ?_
  refine WC.region ?_
  refine WL.pure (W0 rfl) rfl (Pu.move rfl rfl) ?_
  refine WL.pure (W0 rfl) rfl (Pu.move rfl rfl) ?_
  refine WL.pure (W0 rfl) rfl (Pu.quo rfl rfl rfl (by decide)) ?_
  refine WL.pure (W0 rfl) rfl (Pu.mul rfl rfl rfl) ?_
  refine WL.pure (W0 rfl) rfl (Pu.add rfl rfl rfl) ?_
  refine WL.pure (W0 rfl) rfl (Pu.assign rfl rfl) ?_
  refine WL.nil ?_
  refine Lf.thenC ?_
  refine WC.seq ?_
  refine WC.region ?_
  refine WL.pure (W0 rfl) rfl (Pu.move rfl rfl) ?_
  refine WL.pure (W0 rfl) rfl (Pu.move rfl rfl) ?_
  refine WL.pure (W0 rfl) rfl (Pu.quo rfl rfl rfl (by decide)) ?_
  refine WL.pure (W0 rfl) rfl (Pu.mul rfl rfl rfl) ?_
  refine WL.pure (W0 rfl) rfl (Pu.add rfl rfl rfl) ?_
  refine WL.pure (W0 rfl) rfl (Pu.assign rfl rfl) ?_
  refine WL.nil ?_
  refine Lf.thenC ?_
  refine WC.seq ?_
  refine WC.region ?_
  refine WL.pure (W0 rfl) rfl (Pu.move rfl rfl) ?_
  refine WL.pure (W0 rfl) rfl (Pu.move rfl rfl) ?_
  refine WL.pure (W0 rfl) rfl (Pu.quo rfl rfl rfl (by decide)) ?_
  refine WL.pure (W0 rfl) rfl (Pu.mul rfl rfl rfl) ?_
  refine WL.pure (W0 rfl) rfl (Pu.add rfl rfl rfl) ?_
  refine WL.pure (W0 rfl) rfl (Pu.assign rfl rfl) ?_
  refine WL.nil ?_
  refine Lf.thenC ?_
  obtain ⟨vk, h2, h⟩ := h
  refine WC.cut (α := Int) (k := vk) (fun vj => [(11, .int .i64 vj), (9, .pointer (some ⟨b_1, 0, none⟩ : Option Addr))]) (fun vj vw_1 h => ?_) ?_
  · replace h := h2 _ _ h
    clear h2
    refine WC.seq ?_
    refine WC.region ?_
    obtain ⟨v, hl, h⟩ := h
    refine WL.val (W0 rfl) rfl (fun xa hxa => Rd.load ok_3 rfl rfl xa hxa _ hl) ?_
    refine WL.nil ?_
    refine Lf.thenC ?_
    refine WC.block ?_
    refine WC.seq ?_
    refine WC.region ?_
    refine WL.pure (W0 rfl) rfl (Pu.eql rfl rfl rfl) ?_
    refine WL.pure (W0 rfl) rfl (Pu.assign rfl rfl) ?_
    refine WL.nil ?_
    refine Lf.thenC ?_
    refine WC.condD rfl (fun hc => ?_) (fun hc => ?_)
    · replace h := h.1 hc
      refine WC.seq ?_
      refine WC.region ?_
      refine WL.pure (W0 rfl) rfl (Pu.move rfl rfl) ?_
      refine WL.pure (W0 rfl) rfl (Pu.assign rfl rfl) ?_
      refine WL.pure (W0 rfl) rfl (Pu.assign rfl rfl) ?_
      refine WL.nil ?_
      refine Lf.thenC ?_
      refine WC.ret ?_
      exact Lf.ret2 rfl rfl rfl ⟨_, _, rfl, h⟩
    · replace h := h.2 hc
      refine WC.seq ?_
      refine WC.region ?_
      refine WL.pure (W0 rfl) rfl (Pu.eql rfl rfl rfl) ?_
      refine WL.pure (W0 rfl) rfl (Pu.assign rfl rfl) ?_
      refine WL.nil ?_
      refine Lf.thenC ?_
      refine WC.condD rfl (fun hc => ?_) (fun hc => ?_)
      · replace h := h.1 hc
        refine WC.seq ?_
        refine WC.region ?_
        refine WL.pure (W0 rfl) rfl (Pu.move rfl rfl) ?_
        refine WL.pure (W0 rfl) rfl (Pu.assign rfl rfl) ?_
        refine WL.pure (W0 rfl) rfl (Pu.assign rfl rfl) ?_
        refine WL.nil ?_
        refine Lf.thenC ?_
        refine WC.ret ?_
        exact Lf.ret2 rfl rfl rfl ⟨_, _, rfl, h⟩
      · replace h := h.2 hc
        refine WC.seq ?_
        refine WC.region ?_
        refine WL.pure (W0 rfl) rfl (Pu.move rfl rfl) ?_
        refine WL.pure (W0 rfl) rfl (Pu.assign rfl rfl) ?_
        refine WL.pure (W0 rfl) rfl (Pu.assign rfl rfl) ?_
        refine WL.nil ?_
        refine Lf.thenC ?_
        refine WC.ret ?_
        exact Lf.ret2 rfl rfl rfl ⟨_, _, rfl, h⟩
  · clear h2
    refine WC.seq ?_
    refine WC.region ?_
    refine WL.pure (W0 rfl) rfl (Pu.move rfl rfl) ?_
    refine WL.pure (W0 rfl) rfl (Pu.geq rfl rfl rfl) ?_
    refine WL.nil ?_
    refine Lf.thenC ?_
    refine WC.condD rfl (fun hc => ?_) (fun hc => ?_)
    · replace h := h.1 hc
      obtain ⟨vk_1, h2, h⟩ := h
      refine WC.cut (α := Int × Int × Int) (k := vk_1) (fun vj_1 => [(10, .int .i64 vj_1.1), (11, .int .i64 vj_1.2.1), (12, .int .i64 vj_1.2.2), (0, Sl.v data), (9, .pointer (some ⟨b_1, 0, none⟩ : Option Addr))]) (fun vj_1 vw_2 h => ?_) ?_
      · replace h := h2 _ _ h
        clear h2
        refine WC.region ?_
        refine WL.pure (W0 rfl) rfl (Pu.move rfl rfl) ?_
        refine WL.pure (W0 rfl) rfl (Pu.move rfl rfl) ?_
        refine WL.pure (W0 rfl) rfl (Pu.move rfl rfl) ?_
        refine WL.pure (W0 rfl) rfl (Pu.move rfl rfl) ?_
        refine WL.call (W0 rfl) rfl (fun xa hxa => run_call (fs := []) (cs := []) (vs := [Sl.v data, .int .i64 vj_1.1, .int .i64 vj_1.2.1, .int .i64 vj_1.2.2, .pointer (some ⟨b_1, 0, none⟩ : Option Addr)]) rfl rfl rfl Tryz.func123 rfl rfl xa hxa _) h ?_
        rintro _ vw_3 ⟨r, rfl, h⟩
        refine WL.pure (W0 rfl) rfl (Pu.assign rfl rfl) ?_
        refine WL.nil ?_
        exact Lf.joinA r (by exact ⟨rfl, rfl, trivial⟩) h
      · clear h2
        refine WC.seq ?_
        refine WC.region ?_
        refine WL.pure (W0 rfl) rfl (Pu.move rfl rfl) ?_
        refine WL.pure (W0 rfl) rfl (Pu.geq rfl rfl rfl) ?_
        refine WL.nil ?_
        refine Lf.thenC ?_
        refine WC.condD rfl (fun hc => ?_) (fun hc => ?_)
        · replace h := h.1 hc
          refine WC.seq ?_
          refine WC.region ?_
          refine WL.pure (W0 rfl) rfl (Pu.move rfl rfl) ?_
          refine WL.pure (W0 rfl) rfl (Pu.move rfl rfl) ?_
          refine WL.call (W0 rfl) rfl (fun xa hxa => run_call (fs := []) (cs := []) (vs := [Sl.v data, .int .i64 (IntKind.i64.wrap (a + (IntKind.i64.wrap ((IntKind.i64.wrap (Int.tdiv (IntKind.i64.wrap (b - a)) (4 : Int))) * (1 : Int))))), .pointer (some ⟨b_1, 0, none⟩ : Option Addr)]) rfl rfl rfl Tryz.func122 rfl rfl xa hxa _) h ?_
          rintro _ vw_4 ⟨r_1, rfl, h⟩
          refine WL.pure (W0 rfl) rfl (Pu.assign rfl rfl) ?_
          refine WL.nil ?_
          refine Lf.thenC ?_
          refine WC.seq ?_
          refine WC.region ?_
          refine WL.pure (W0 rfl) rfl (Pu.move rfl rfl) ?_
          refine WL.pure (W0 rfl) rfl (Pu.move rfl rfl) ?_
          refine WL.call (W0 rfl) rfl (fun xa hxa => run_call (fs := []) (cs := []) (vs := [Sl.v data, .int .i64 (IntKind.i64.wrap (a + (IntKind.i64.wrap ((IntKind.i64.wrap (Int.tdiv (IntKind.i64.wrap (b - a)) (4 : Int))) * (2 : Int))))), .pointer (some ⟨b_1, 0, none⟩ : Option Addr)]) rfl rfl rfl Tryz.func122 rfl rfl xa hxa _) h ?_
          rintro _ vw_5 ⟨r_2, rfl, h⟩
          refine WL.pure (W0 rfl) rfl (Pu.assign rfl rfl) ?_
          refine WL.nil ?_
          refine Lf.thenC ?_
          refine WC.region ?_
          refine WL.pure (W0 rfl) rfl (Pu.move rfl rfl) ?_
          refine WL.pure (W0 rfl) rfl (Pu.move rfl rfl) ?_
          refine WL.call (W0 rfl) rfl (fun xa hxa => run_call (fs := []) (cs := []) (vs := [Sl.v data, .int .i64 (IntKind.i64.wrap (a + (IntKind.i64.wrap ((IntKind.i64.wrap (Int.tdiv (IntKind.i64.wrap (b - a)) (4 : Int))) * (3 : Int))))), .pointer (some ⟨b_1, 0, none⟩ : Option Addr)]) rfl rfl rfl Tryz.func122 rfl rfl xa hxa _) h ?_
          rintro _ vw_6 ⟨r_3, rfl, h⟩
          refine WL.pure (W0 rfl) rfl (Pu.assign rfl rfl) ?_
          refine WL.nil ?_
          exact Lf.joinA (r_1, r_2, r_3) (by exact ⟨rfl, rfl, rfl, rfl, rfl, trivial⟩) h
        · replace h := h.2 hc
          refine WC.skip ?_
          exact Lf.joinA ((IntKind.i64.wrap (a + (IntKind.i64.wrap ((IntKind.i64.wrap (Int.tdiv (IntKind.i64.wrap (b - a)) (4 : Int))) * (1 : Int))))), (IntKind.i64.wrap (a + (IntKind.i64.wrap ((IntKind.i64.wrap (Int.tdiv (IntKind.i64.wrap (b - a)) (4 : Int))) * (2 : Int))))), (IntKind.i64.wrap (a + (IntKind.i64.wrap ((IntKind.i64.wrap (Int.tdiv (IntKind.i64.wrap (b - a)) (4 : Int))) * (3 : Int)))))) (by exact ⟨rfl, rfl, rfl, rfl, rfl, trivial⟩) h
    · replace h := h.2 hc
      refine WC.skip ?_
      exact Lf.joinA (IntKind.i64.wrap (a + (IntKind.i64.wrap ((IntKind.i64.wrap (Int.tdiv (IntKind.i64.wrap (b - a)) (4 : Int))) * (2 : Int))))) (by exact ⟨rfl, rfl, trivial⟩) h
/-- slices.pdqsortOrdered[uint64] -/
def F_slices_pdqsortOrdered_uint64 (data : Sl) (a : Int) (b : Int) (limit : Int) (w : World) (Q : World → Prop) : Prop :=
  LoopP (α := Int × Int × Int × Bool × Bool) (fun vi vw vJ => (((IntKind.i64.wrap (vi.2.1 - vi.1)) ≤ (12 : Int)) → CallP Tryz.prog n_slices_insertionSortOrdered_uint64 [Sl.v data, .int .i64 vi.1, .int .i64 vi.2.1] vw (ret0 (fun vw_1 => Q vw_1))) ∧
  ((¬ ((IntKind.i64.wrap (vi.2.1 - vi.1)) ≤ (12 : Int))) → ((vi.2.2.1 = (0 : Int)) → CallP Tryz.prog n_slices_heapSortOrdered_uint64 [Sl.v data, .int .i64 vi.1, .int .i64 vi.2.1] vw (ret0 (fun vw_2 => Q vw_2))) ∧
  ((¬ (vi.2.2.1 = (0 : Int))) → JoinP (α := Int) (fun vj vw_3 => CallP Tryz.prog n_slices_choosePivotOrdered_uint64 [Sl.v data, .int .i64 vi.1, .int .i64 vi.2.1] vw_3 (ret2 (tI .i64) (tI .i64) (fun r r_1 vw_4 => JoinP (α := Int × Int) (fun vj_1 vw_5 => JoinP (α := Unit) (fun vj_2 vw_6 => JoinP (α := Bool) (fun vj_3 vw_7 => ((vj_3 = true) → CallP Tryz.prog n_slices_partitionEqualOrdered_uint64 [Sl.v data, .int .i64 vi.1, .int .i64 vi.2.1, .int .i64 vj_1.1] vw_7 (ret1 (tI .i64) (fun r_2 vw_8 => vJ (r_2, vi.2.1, vj, vi.2.2.2.1, vi.2.2.2.2) vw_8))) ∧
  ((vj_3 = false) → CallP Tryz.prog n_slices_partitionOrdered_uint64 [Sl.v data, .int .i64 vi.1, .int .i64 vi.2.1, .int .i64 vj_1.1] vw_7 (ret2 (tI .i64) tB (fun r_3 r_4 vw_9 => (((IntKind.i64.wrap (r_3 - vi.1)) < (IntKind.i64.wrap (vi.2.1 - r_3))) → CallP Tryz.prog n_slices_pdqsortOrdered_uint64 [Sl.v data, .int .i64 vi.1, .int .i64 r_3, .int .i64 vj] vw_9 (ret0 (fun vw_10 => vJ ((IntKind.i64.wrap (r_3 + (1 : Int))), vi.2.1, vj, (decide ((IntKind.i64.wrap (Int.tdiv (IntKind.i64.wrap (vi.2.1 - vi.1)) (8 : Int))) ≤ (IntKind.i64.wrap (r_3 - vi.1)))), r_4) vw_10))) ∧
  ((¬ ((IntKind.i64.wrap (r_3 - vi.1)) < (IntKind.i64.wrap (vi.2.1 - r_3)))) → CallP Tryz.prog n_slices_pdqsortOrdered_uint64 [Sl.v data, .int .i64 (IntKind.i64.wrap (r_3 + (1 : Int))), .int .i64 vi.2.1, .int .i64 vj] vw_9 (ret0 (fun vw_11 => vJ (vi.1, r_3, vj, (decide ((IntKind.i64.wrap (Int.tdiv (IntKind.i64.wrap (vi.2.1 - vi.1)) (8 : Int))) ≤ (IntKind.i64.wrap (vi.2.1 - r_3)))), r_4) vw_11)))))))
  (fun vk_3 => (((0 : Int) < vi.1) → ixs data (IntKind.i64.wrap (vi.1 - (1 : Int))) (fun b_1 q => ld (tI .u64) (dr vw_6) b_1 (q + ((IntKind.i64.wrap (vi.1 - (1 : Int)))).toNat * 1) (fun v => ixs data vj_1.1 (fun b_2 q_1 => ld (tI .u64) (dr vw_6) b_2 (q_1 + (vj_1.1).toNat * 1) (fun v_1 => CallP Tryz.prog n_cmp_Less_uint64 [.int .u64 v, .int .u64 v_1] (dr vw_6) (ret1 tB (fun r_5 vw_12 => vk_3 (!r_5) vw_12))))))) ∧
  ((¬ ((0 : Int) < vi.1)) → vk_3 false (dr vw_6))))
  (fun vk_2 => JoinP (α := Bool) (fun vj_4 vw_13 => ((vj_4 = true) → CallP Tryz.prog n_slices_partialInsertionSortOrdered_uint64 [Sl.v data, .int .i64 vi.1, .int .i64 vi.2.1] vw_13 (ret1 tB (fun r_6 vw_14 => ((r_6 = true) → Q vw_14) ∧
  ((r_6 = false) → vk_2 () vw_14)))) ∧
  ((vj_4 = false) → vk_2 () vw_13))
  (fun vk_4 => ((vi.2.2.2.1 = true) → ((vi.2.2.2.2 = true) → vk_4 (decide (vj_1.2 = (1 : Int))) vw_5) ∧
  ((vi.2.2.2.2 = false) → vk_4 false vw_5)) ∧
  ((vi.2.2.2.1 = false) → vk_4 false vw_5))))
  (fun vk_1 => ((r_1 = (2 : Int)) → CallP Tryz.prog n_slices_reverseRangeOrdered_uint64 [Sl.v data, .int .i64 vi.1, .int .i64 vi.2.1] vw_4 (ret0 (fun vw_15 => vk_1 ((IntKind.i64.wrap ((IntKind.i64.wrap (vi.2.1 - (1 : Int))) - (IntKind.i64.wrap (r - vi.1)))), (1 : Int)) vw_15))) ∧
  ((¬ (r_1 = (2 : Int))) → vk_1 (r, r_1) vw_4)))))
  (fun vk => (((!vi.2.2.2.1) = true) → CallP Tryz.prog n_slices_breakPatternsOrdered_uint64 [Sl.v data, .int .i64 vi.1, .int .i64 vi.2.1] vw (ret0 (fun vw_16 => vk (IntKind.i64.wrap (vi.2.2.1 - (1 : Int))) vw_16))) ∧
  (((!vi.2.2.2.1) = false) → vk vi.2.2.1 vw))))) (a, b, limit, true, true) w
theorem vc_slices_pdqsortOrdered_uint64 (data : Sl) (a : Int) (b : Int) (limit : Int) (w : World) (Q : World → Prop) (h : F_slices_pdqsortOrdered_uint64 data a b limit w Q) : CallP Tryz.prog n_slices_pdqsortOrdered_uint64 [Sl.v data, .int .i64 a, .int .i64 b, .int .i64 limit] w (ret0 Q) := by
  unfold F_slices_pdqsortOrdered_uint64 at h
  refine CallP.of_body 134 Tryz.func64 rfl Tryz.ntmps64 rfl ?_
  refine WC.seq ?_
  refine WC.region ?_
  refine WL.pure (W0 rfl) rfl (Pu.assign rfl rfl) ?_
  refine WL.nil ?_
  refine Lf.thenC ?_
  refine WC.seq ?_
  refine WC.region ?_
  refine WL.pure (W0 rfl) rfl (Pu.assign rfl rfl) ?_
  refine WL.nil ?_
  refine Lf.thenC ?_
  refine WC.block ?_
  refine WC.loop (α := Int × Int × Int × Bool × Bool) (fun vi => [(1, .int .i64 vi.1), (2, .int .i64 vi.2.1), (3, .int .i64 vi.2.2.1), (8, .bool vi.2.2.2.1), (9, .bool vi.2.2.2.2), (0, Sl.v data)]) (a, b, limit, true, true) (by exact ⟨rfl, rfl, rfl, rfl, rfl, rfl, trivial⟩) h (fun vJ vi vw h => ?_)
  refine WC.block ?_
  refine WC.seq ?_
  refine WC.region ?_
  refine WL.pure (W0 rfl) rfl (Pu.move rfl rfl) ?_
  refine WL.pure (W0 rfl) rfl (Pu.move rfl rfl) ?_
  refine WL.pure (W0 rfl) rfl (Pu.sub rfl rfl rfl) ?_
  refine WL.pure (W0 rfl) rfl (Pu.assign rfl rfl) ?_
  refine WL.nil ?_
  refine Lf.thenC ?_
  refine WC.seq ?_
  refine WC.seq ?_
  refine WC.region ?_
  refine WL.pure (W0 rfl) rfl (Pu.move rfl rfl) ?_
  refine WL.pure (W0 rfl) rfl (Pu.leq rfl rfl rfl) ?_
  refine WL.nil ?_
  refine Lf.thenC ?_
  refine WC.condD rfl (fun hc => ?_) (fun hc => ?_)
  · replace h := h.1 hc
    refine WC.seq ?_
    refine WC.region ?_
    refine WL.pure (W0 rfl) rfl (Pu.move rfl rfl) ?_
    refine WL.pure (W0 rfl) rfl (Pu.move rfl rfl) ?_
    refine WL.pure (W0 rfl) rfl (Pu.move rfl rfl) ?_
    refine WL.call (W0 rfl) rfl (fun xa hxa => run_call (fs := []) (cs := []) (vs := [Sl.v data, .int .i64 vi.1, .int .i64 vi.2.1]) rfl rfl rfl Tryz.func82 rfl rfl xa hxa _) h ?_
    rintro _ vw_1 ⟨rfl, h⟩
    refine WL.nil ?_
    refine Lf.thenC ?_
    refine WC.ret ?_
    exact Lf.ret0 rfl ⟨rfl, h⟩
  · replace h := h.2 hc
    refine WC.skip ?_
    refine Lf.thenC ?_
    refine WC.seq ?_
    refine WC.seq ?_
    refine WC.region ?_
    refine WL.pure (W0 rfl) rfl (Pu.move rfl rfl) ?_
    refine WL.pure (W0 rfl) rfl (Pu.eql rfl rfl rfl) ?_
    refine WL.nil ?_
    refine Lf.thenC ?_
    refine WC.condD rfl (fun hc => ?_) (fun hc => ?_)
    · replace h := h.1 hc
      refine WC.seq ?_
      refine WC.region ?_
      refine WL.pure (W0 rfl) rfl (Pu.move rfl rfl) ?_
      refine WL.pure (W0 rfl) rfl (Pu.move rfl rfl) ?_
      refine WL.pure (W0 rfl) rfl (Pu.move rfl rfl) ?_
      refine WL.call (W0 rfl) rfl (fun xa hxa => run_call (fs := []) (cs := []) (vs := [Sl.v data, .int .i64 vi.1, .int .i64 vi.2.1]) rfl rfl rfl Tryz.func83 rfl rfl xa hxa _) h ?_
      rintro _ vw_2 ⟨rfl, h⟩
      refine WL.nil ?_
      refine Lf.thenC ?_
      refine WC.ret ?_
      exact Lf.ret0 rfl ⟨rfl, h⟩
    · replace h := h.2 hc
      refine WC.skip ?_
      refine Lf.thenC ?_
      obtain ⟨vk, h2, h⟩ := h
      refine WC.cut (α := Int) (k := vk) (fun vj => [(3, .int .i64 vj), (0, Sl.v data), (1, .int .i64 vi.1), (2, .int .i64 vi.2.1), (8, .bool vi.2.2.2.1), (9, .bool vi.2.2.2.2), (10, .int .i64 (IntKind.i64.wrap (vi.2.1 - vi.1)))]) (fun vj vw_3 h => ?_) ?_
      · replace h := h2 _ _ h
        clear h2
        refine WC.seq ?_
        refine WC.region ?_
        refine WL.pure (W0 rfl) rfl (Pu.move rfl rfl) ?_
        refine WL.pure (W0 rfl) rfl (Pu.move rfl rfl) ?_
        refine WL.pure (W0 rfl) rfl (Pu.move rfl rfl) ?_
        refine WL.call (W0 rfl) rfl (fun xa hxa => run_call (fs := []) (cs := []) (vs := [Sl.v data, .int .i64 vi.1, .int .i64 vi.2.1]) rfl rfl rfl Tryz.func85 rfl rfl xa hxa _) h ?_
        rintro _ vw_4 ⟨r, r_1, rfl, h⟩
        refine WL.pure (W0 rfl) rfl (Pu.move rfl rfl) ?_
        refine WL.pure (W0 rfl) rfl (Pu.extract (vs := [.int .i64 r, .int .i64 r_1]) rfl rfl rfl) ?_
        refine WL.pure (W0 rfl) rfl (Pu.extract (vs := [.int .i64 r, .int .i64 r_1]) rfl rfl rfl) ?_
        refine WL.pure (W0 rfl) rfl (Pu.assign rfl rfl) ?_
        refine WL.pure (W0 rfl) rfl (Pu.assign rfl rfl) ?_
        refine WL.nil ?_
        refine Lf.thenC ?_
        obtain ⟨vk_1, h2, h⟩ := h
        refine WC.cut (α := Int × Int) (k := vk_1) (fun vj_1 => [(11, .int .i64 vj_1.1), (12, .int .i64 vj_1.2), (0, Sl.v data), (1, .int .i64 vi.1), (2, .int .i64 vi.2.1), (3, .int .i64 vj), (8, .bool vi.2.2.2.1), (9, .bool vi.2.2.2.2), (10, .int .i64 (IntKind.i64.wrap (vi.2.1 - vi.1)))]) (fun vj_1 vw_5 h => ?_) ?_
        · replace h := h2 _ _ h
          clear h2
          obtain ⟨vk_2, h2, h⟩ := h
          refine WC.cut (α := Unit) (k := vk_2) (fun vj_2 => [(0, Sl.v data), (1, .int .i64 vi.1), (2, .int .i64 vi.2.1), (3, .int .i64 vj), (8, .bool vi.2.2.2.1), (9, .bool vi.2.2.2.2), (10, .int .i64 (IntKind.i64.wrap (vi.2.1 - vi.1))), (11, .int .i64 vj_1.1)]) (fun vj_2 vw_6 h => ?_) ?_
          · replace h := h2 _ _ h
            clear h2
            refine WC.seq ?_
            obtain ⟨vk_3, h2, h⟩ := h
            refine WC.cut (α := Bool) (k := vk_3) (fun vj_3 => [(87, .bool vj_3), (0, Sl.v data), (1, .int .i64 vi.1), (2, .int .i64 vi.2.1), (3, .int .i64 vj), (8, .bool vi.2.2.2.1), (9, .bool vi.2.2.2.2), (10, .int .i64 (IntKind.i64.wrap (vi.2.1 - vi.1))), (11, .int .i64 vj_1.1)]) (fun vj_3 vw_7 h => ?_) ?_
            · replace h := h2 _ _ h
              clear h2
              refine WC.cond rfl (fun hc => ?_) (fun hc => ?_)
              · replace h := h.1 hc
                refine WC.seq ?_
                refine WC.region ?_
                refine WL.pure (W0 rfl) rfl (Pu.move rfl rfl) ?_
                refine WL.pure (W0 rfl) rfl (Pu.move rfl rfl) ?_
                refine WL.pure (W0 rfl) rfl (Pu.move rfl rfl) ?_
                refine WL.pure (W0 rfl) rfl (Pu.move rfl rfl) ?_
                refine WL.call (W0 rfl) rfl (fun xa hxa => run_call (fs := []) (cs := []) (vs := [Sl.v data, .int .i64 vi.1, .int .i64 vi.2.1, .int .i64 vj_1.1]) rfl rfl rfl Tryz.func89 rfl rfl xa hxa _) h ?_
                rintro _ vw_8 ⟨r_2, rfl, h⟩
                refine WL.pure (W0 rfl) rfl (Pu.assign rfl rfl) ?_
                refine WL.nil ?_
                refine Lf.thenC ?_
                refine WC.seq ?_
                refine WC.region ?_
                refine WL.pure (W0 rfl) rfl (Pu.move rfl rfl) ?_
                refine WL.pure (W0 rfl) rfl (Pu.assign rfl rfl) ?_
                refine WL.nil ?_
                refine Lf.thenC ?_
                refine WC.exit rfl ?_
                exact Lf.joinA (r_2, vi.2.1, vj, vi.2.2.2.1, vi.2.2.2.2) (by exact ⟨rfl, rfl, rfl, rfl, rfl, rfl, trivial⟩) h
              · replace h := h.2 hc
                refine WC.skip ?_
                refine Lf.thenC ?_
                refine WC.seq ?_
                refine WC.region ?_
                refine WL.pure (W0 rfl) rfl (Pu.move rfl rfl) ?_
                refine WL.pure (W0 rfl) rfl (Pu.move rfl rfl) ?_
                refine WL.pure (W0 rfl) rfl (Pu.move rfl rfl) ?_
                refine WL.pure (W0 rfl) rfl (Pu.move rfl rfl) ?_
                refine WL.call (W0 rfl) rfl (fun xa hxa => run_call (fs := []) (cs := []) (vs := [Sl.v data, .int .i64 vi.1, .int .i64 vi.2.1, .int .i64 vj_1.1]) rfl rfl rfl Tryz.func90 rfl rfl xa hxa _) h ?_
                rintro _ vw_9 ⟨r_3, r_4, rfl, h⟩
                refine WL.pure (W0 rfl) rfl (Pu.move rfl rfl) ?_
                refine WL.pure (W0 rfl) rfl (Pu.extract (vs := [.int .i64 r_3, .bool r_4]) rfl rfl rfl) ?_
                refine WL.pure (W0 rfl) rfl (Pu.extract (vs := [.int .i64 r_3, .bool r_4]) rfl rfl rfl) ?_
                refine WL.pure (W0 rfl) rfl (Pu.assign rfl rfl) ?_
                refine WL.pure (W0 rfl) rfl (Pu.assign rfl rfl) ?_
                refine WL.nil ?_
                refine Lf.thenC ?_
                refine WC.seq ?_
                refine WC.region ?_
                refine WL.pure (W0 rfl) rfl (Pu.move rfl rfl) ?_
                refine WL.pure (W0 rfl) rfl (Pu.assign rfl rfl) ?_
                refine WL.nil ?_
                refine Lf.thenC ?_
                refine WC.seq ?_
                refine WC.region ?_
                refine WL.pure (W0 rfl) rfl (Pu.move rfl rfl) ?_
                refine WL.pure (W0 rfl) rfl (Pu.move rfl rfl) ?_
                refine WL.pure (W0 rfl) rfl (Pu.sub rfl rfl rfl) ?_
                refine WL.pure (W0 rfl) rfl (Pu.move rfl rfl) ?_
                refine WL.pure (W0 rfl) rfl (Pu.move rfl rfl) ?_
                refine WL.pure (W0 rfl) rfl (Pu.sub rfl rfl rfl) ?_
                refine WL.pure (W0 rfl) rfl (Pu.assign rfl rfl) ?_
                refine WL.pure (W0 rfl) rfl (Pu.assign rfl rfl) ?_
                refine WL.nil ?_
                refine Lf.thenC ?_
                refine WC.seq ?_
                refine WC.region ?_
                refine WL.pure (W0 rfl) rfl (Pu.move rfl rfl) ?_
                refine WL.pure (W0 rfl) rfl (Pu.quo rfl rfl rfl (by decide)) ?_
                refine WL.pure (W0 rfl) rfl (Pu.assign rfl rfl) ?_
                refine WL.nil ?_
                refine Lf.thenC ?_
                refine WC.seq ?_
                refine WC.region ?_
                refine WL.pure (W0 rfl) rfl (Pu.move rfl rfl) ?_
                refine WL.pure (W0 rfl) rfl (Pu.move rfl rfl) ?_
                refine WL.pure (W0 rfl) rfl (Pu.lss rfl rfl rfl) ?_
                refine WL.nil ?_
                refine Lf.thenC ?_
                refine WC.condD rfl (fun hc => ?_) (fun hc => ?_)
                · replace h := h.1 hc
                  refine WC.seq ?_
                  refine WC.region ?_
                  refine WL.pure (W0 rfl) rfl (Pu.move rfl rfl) ?_
                  refine WL.pure (W0 rfl) rfl (Pu.move rfl rfl) ?_
                  refine WL.pure (W0 rfl) rfl (Pu.geq rfl rfl rfl) ?_
                  refine WL.pure (W0 rfl) rfl (Pu.assign rfl rfl) ?_
                  refine WL.nil ?_
                  refine Lf.thenC ?_
                  refine WC.seq ?_
                  refine WC.region ?_
                  refine WL.pure (W0 rfl) rfl (Pu.move rfl rfl) ?_
                  refine WL.pure (W0 rfl) rfl (Pu.move rfl rfl) ?_
                  refine WL.pure (W0 rfl) rfl (Pu.move rfl rfl) ?_
                  refine WL.pure (W0 rfl) rfl (Pu.move rfl rfl) ?_
                  refine WL.call (W0 rfl) rfl (fun xa hxa => run_call (fs := []) (cs := []) (vs := [Sl.v data, .int .i64 vi.1, .int .i64 r_3, .int .i64 vj]) rfl rfl rfl Tryz.func64 rfl rfl xa hxa _) h ?_
                  rintro _ vw_10 ⟨rfl, h⟩
                  refine WL.nil ?_
                  refine Lf.thenC ?_
                  refine WC.region ?_
                  refine WL.pure (W0 rfl) rfl (Pu.move rfl rfl) ?_
                  refine WL.pure (W0 rfl) rfl (Pu.add rfl rfl rfl) ?_
                  refine WL.pure (W0 rfl) rfl (Pu.assign rfl rfl) ?_
                  refine WL.nil ?_
                  exact Lf.joinA ((IntKind.i64.wrap (r_3 + (1 : Int))), vi.2.1, vj, (decide ((IntKind.i64.wrap (Int.tdiv (IntKind.i64.wrap (vi.2.1 - vi.1)) (8 : Int))) ≤ (IntKind.i64.wrap (r_3 - vi.1)))), r_4) (by exact ⟨rfl, rfl, rfl, rfl, rfl, rfl, trivial⟩) h
                · replace h := h.2 hc
                  refine WC.seq ?_
                  refine WC.region ?_
                  refine WL.pure (W0 rfl) rfl (Pu.move rfl rfl) ?_
                  refine WL.pure (W0 rfl) rfl (Pu.move rfl rfl) ?_
                  refine WL.pure (W0 rfl) rfl (Pu.geq rfl rfl rfl) ?_
                  refine WL.pure (W0 rfl) rfl (Pu.assign rfl rfl) ?_
                  refine WL.nil ?_
                  refine Lf.thenC ?_
                  refine WC.seq ?_
                  refine WC.region ?_
                  refine WL.pure (W0 rfl) rfl (Pu.move rfl rfl) ?_
                  refine WL.pure (W0 rfl) rfl (Pu.move rfl rfl) ?_
                  refine WL.pure (W0 rfl) rfl (Pu.add rfl rfl rfl) ?_
                  refine WL.pure (W0 rfl) rfl (Pu.move rfl rfl) ?_
                  refine WL.pure (W0 rfl) rfl (Pu.move rfl rfl) ?_
                  refine WL.call (W0 rfl) rfl (fun xa hxa => run_call (fs := []) (cs := []) (vs := [Sl.v data, .int .i64 (IntKind.i64.wrap (r_3 + (1 : Int))), .int .i64 vi.2.1, .int .i64 vj]) rfl rfl rfl Tryz.func64 rfl rfl xa hxa _) h ?_
                  rintro _ vw_11 ⟨rfl, h⟩
                  refine WL.nil ?_
                  refine Lf.thenC ?_
                  refine WC.region ?_
                  refine WL.pure (W0 rfl) rfl (Pu.move rfl rfl) ?_
                  refine WL.pure (W0 rfl) rfl (Pu.assign rfl rfl) ?_
                  refine WL.nil ?_
                  exact Lf.joinA (vi.1, r_3, vj, (decide ((IntKind.i64.wrap (Int.tdiv (IntKind.i64.wrap (vi.2.1 - vi.1)) (8 : Int))) ≤ (IntKind.i64.wrap (vi.2.1 - r_3)))), r_4) (by exact ⟨rfl, rfl, rfl, rfl, rfl, rfl, trivial⟩) h
            · clear h2
              refine WC.draw [(0, false), (1, false), (2, false), (3, false), (4, false), (5, false), (6, false), (7, false), (8, false), (9, false), (10, false), (11, false), (12, true), (13, false), (14, false)] mixed (by kernel_rfl) ?_
              refine DL.pure rfl (W0 rfl) rfl (Pu.move rfl rfl) ?_
              refine DL.pure rfl (W0 rfl) rfl (Pu.gtr rfl rfl rfl) ?_
              refine DL.pure rfl (W0 rfl) rfl (Pu.move rfl rfl) ?_
              refine DL.boolD (t := 75) rfl (fun hc => ?_) (fun hc => ?_)
              · replace h := h.1 hc
                refine DL.pure rfl (W1 (t := 75) rfl rfl rfl rfl) rfl (Pu.move rfl rfl) ?_
                refine DL.pure rfl (W1 (t := 75) rfl rfl rfl rfl) rfl (Pu.move rfl rfl) ?_
                refine DL.pure rfl (W1 (t := 75) rfl rfl rfl rfl) rfl (Pu.sub rfl rfl rfl) ?_
                obtain ⟨hi0, hi1, b_1, q, hs, h⟩ := h
                refine DL.pure rfl (W1 (t := 75) rfl rfl rfl rfl) rfl (Pu.indexAddr rfl Tryz.underlying87 sz_33 rfl rfl hs hi0 hi1) ?_
                obtain ⟨v, hl, h⟩ := h
                refine DL.read _ rfl (W1 (t := 75) rfl rfl rfl rfl) rfl (Rd.load ok_33 rfl rfl) hl ?_
                refine DL.pure rfl (W1 (t := 75) rfl rfl rfl rfl) rfl (Pu.move rfl rfl) ?_
                refine DL.pure rfl (W1 (t := 75) rfl rfl rfl rfl) rfl (Pu.move rfl rfl) ?_
                obtain ⟨hi0, hi1, b_2, q_1, hs, h⟩ := h
                refine DL.pure rfl (W1 (t := 75) rfl rfl rfl rfl) rfl (Pu.indexAddr rfl Tryz.underlying87 sz_33 rfl rfl hs hi0 hi1) ?_
                obtain ⟨v_1, hl, h⟩ := h
                refine DL.read _ rfl (W1 (t := 75) rfl rfl rfl rfl) rfl (Rd.load ok_33 rfl rfl) hl ?_
                refine DL.call rfl (W1 (t := 75) rfl rfl rfl rfl) rfl (fun xa hxa => run_call (fs := []) (cs := []) (vs := [.int .u64 v, .int .u64 v_1]) rfl rfl rfl Tryz.func88 rfl rfl xa hxa _) h ?_
                rintro _ vw_12 ⟨r_5, rfl, h⟩
                refine ⟨(by exact ⟨.inl (by kernel_rfl), ⟨.inl (by kernel_rfl), trivial⟩⟩), ?_⟩
                refine DL.pure rfl (W1 (t := 75) rfl rfl rfl rfl) rfl (Pu.not rfl rfl) ?_
                refine DL.pure rfl (W0 rfl) rfl (Pu.pickT rfl rfl rfl) ?_
                refine DL.nil ?_
                exact Lf.joinA (!r_5) (by exact ⟨rfl, rfl, rfl, rfl, rfl, rfl, rfl, rfl, rfl, trivial⟩) h
              · replace h := h.2 hc
                refine DL.unwanted (t := 75) rfl rfl rfl rfl rfl rfl rfl ?_
                refine DL.unwanted (t := 75) rfl rfl rfl rfl rfl rfl rfl ?_
                refine DL.unwanted (t := 75) rfl rfl rfl rfl rfl rfl rfl ?_
                refine DL.unwanted (t := 75) rfl rfl rfl rfl rfl rfl rfl ?_
                refine DL.unwanted (t := 75) rfl rfl rfl rfl rfl rfl rfl ?_
                refine DL.unwanted (t := 75) rfl rfl rfl rfl rfl rfl rfl ?_
                refine DL.unwanted (t := 75) rfl rfl rfl rfl rfl rfl rfl ?_
                refine DL.unwanted (t := 75) rfl rfl rfl rfl rfl rfl rfl ?_
                refine DL.unwanted (t := 75) rfl rfl rfl rfl rfl rfl rfl ?_
                refine DL.unwantedT (t := 75) rfl rfl rfl rfl rfl rfl rfl ?_
                refine DL.unwanted (t := 75) rfl rfl rfl rfl rfl rfl rfl ?_
                refine DL.pure rfl (W0 rfl) rfl (Pu.pickF rfl rfl rfl) ?_
                refine DL.nil ?_
                exact Lf.joinA false (by exact ⟨rfl, rfl, rfl, rfl, rfl, rfl, rfl, rfl, rfl, trivial⟩) h
          · clear h2
            obtain ⟨vk_4, h2, h⟩ := h
            refine WC.cut (α := Bool) (k := vk_4) (fun vj_4 => [(68, .bool vj_4), (0, Sl.v data), (1, .int .i64 vi.1), (2, .int .i64 vi.2.1), (3, .int .i64 vj), (8, .bool vi.2.2.2.1), (9, .bool vi.2.2.2.2), (10, .int .i64 (IntKind.i64.wrap (vi.2.1 - vi.1))), (11, .int .i64 vj_1.1)]) (fun vj_4 vw_13 h => ?_) ?_
            · replace h := h2 _ _ h
              clear h2
              refine WC.cond rfl (fun hc => ?_) (fun hc => ?_)
              · replace h := h.1 hc
                refine WC.seq ?_
                refine WC.region ?_
                refine WL.pure (W0 rfl) rfl (Pu.move rfl rfl) ?_
                refine WL.pure (W0 rfl) rfl (Pu.move rfl rfl) ?_
                refine WL.pure (W0 rfl) rfl (Pu.move rfl rfl) ?_
                refine WL.call (W0 rfl) rfl (fun xa hxa => run_call (fs := []) (cs := []) (vs := [Sl.v data, .int .i64 vi.1, .int .i64 vi.2.1]) rfl rfl rfl Tryz.func87 rfl rfl xa hxa _) h ?_
                rintro _ vw_14 ⟨r_6, rfl, h⟩
                refine WL.nil ?_
                refine Lf.thenC ?_
                refine WC.cond rfl (fun hc => ?_) (fun hc => ?_)
                · replace h := h.1 hc
                  refine WC.ret ?_
                  exact Lf.ret0 rfl ⟨rfl, h⟩
                · replace h := h.2 hc
                  refine WC.skip ?_
                  exact Lf.joinA () (by exact ⟨rfl, rfl, rfl, rfl, rfl, rfl, rfl, rfl, trivial⟩) h
              · replace h := h.2 hc
                refine WC.skip ?_
                exact Lf.joinA () (by exact ⟨rfl, rfl, rfl, rfl, rfl, rfl, rfl, rfl, trivial⟩) h
            · clear h2
              refine WC.region ?_
              refine WL.pure (W0 rfl) rfl (Pu.move rfl rfl) ?_
              refine WL.pure (W0 rfl) rfl (Pu.move rfl rfl) ?_
              refine WL.bool (t := 62) rfl (fun hc => ?_) (fun hc => ?_)
              · replace h := h.1 hc
                refine WL.pure (W1 (t := 62) rfl rfl rfl rfl) rfl (Pu.move rfl rfl) ?_
                refine WL.pure (W0 rfl) rfl (Pu.pickT rfl rfl rfl) ?_
                refine WL.pure (W0 rfl) rfl (Pu.move rfl rfl) ?_
                refine WL.bool (t := 65) rfl (fun hc => ?_) (fun hc => ?_)
                · replace h := h.1 hc
                  refine WL.pure (W1 (t := 65) rfl rfl rfl rfl) rfl (Pu.move rfl rfl) ?_
                  refine WL.pure (W1 (t := 65) rfl rfl rfl rfl) rfl (Pu.eql rfl rfl rfl) ?_
                  refine WL.pure (W0 rfl) rfl (Pu.pickT rfl rfl rfl) ?_
                  refine WL.nil ?_
                  exact Lf.joinA (decide (vj_1.2 = (1 : Int))) (by exact ⟨rfl, rfl, rfl, rfl, rfl, rfl, rfl, rfl, rfl, trivial⟩) h
                · replace h := h.2 hc
                  refine WL.unwanted (t := 65) rfl rfl rfl rfl rfl rfl ?_
                  refine WL.unwanted (t := 65) rfl rfl rfl rfl rfl rfl ?_
                  refine WL.pure (W0 rfl) rfl (Pu.pickF rfl rfl rfl) ?_
                  refine WL.nil ?_
                  exact Lf.joinA false (by exact ⟨rfl, rfl, rfl, rfl, rfl, rfl, rfl, rfl, rfl, trivial⟩) h
              · replace h := h.2 hc
                refine WL.unwanted (t := 62) rfl rfl rfl rfl rfl rfl ?_
                refine WL.pure (W0 rfl) rfl (Pu.pickF rfl rfl rfl) ?_
                refine WL.pure (W0 rfl) rfl (Pu.move rfl rfl) ?_
                refine WL.unwanted (t := 65) rfl rfl rfl rfl rfl rfl ?_
                refine WL.unwanted (t := 65) rfl rfl rfl rfl rfl rfl ?_
                refine WL.pure (W0 rfl) rfl (Pu.pickF rfl rfl rfl) ?_
                refine WL.nil ?_
                exact Lf.joinA false (by exact ⟨rfl, rfl, rfl, rfl, rfl, rfl, rfl, rfl, rfl, trivial⟩) h
        · clear h2
          refine WC.seq ?_
          refine WC.region ?_
          refine WL.pure (W0 rfl) rfl (Pu.move rfl rfl) ?_
          refine WL.pure (W0 rfl) rfl (Pu.eql rfl rfl rfl) ?_
          refine WL.nil ?_
          refine Lf.thenC ?_
          refine WC.condD rfl (fun hc => ?_) (fun hc => ?_)
          · replace h := h.1 hc
            refine WC.seq ?_
            refine WC.region ?_
            refine WL.pure (W0 rfl) rfl (Pu.move rfl rfl) ?_
            refine WL.pure (W0 rfl) rfl (Pu.move rfl rfl) ?_
            refine WL.pure (W0 rfl) rfl (Pu.move rfl rfl) ?_
            refine WL.call (W0 rfl) rfl (fun xa hxa => run_call (fs := []) (cs := []) (vs := [Sl.v data, .int .i64 vi.1, .int .i64 vi.2.1]) rfl rfl rfl Tryz.func86 rfl rfl xa hxa _) h ?_
            rintro _ vw_15 ⟨rfl, h⟩
            refine WL.nil ?_
            refine Lf.thenC ?_
            refine WC.seq ?_
            refine WC.region ?_
            refine WL.pure (W0 rfl) rfl (Pu.move rfl rfl) ?_
            refine WL.pure (W0 rfl) rfl (Pu.sub rfl rfl rfl) ?_
            refine WL.pure (W0 rfl) rfl (Pu.move rfl rfl) ?_
            refine WL.pure (W0 rfl) rfl (Pu.move rfl rfl) ?_
            refine WL.pure (W0 rfl) rfl (Pu.sub rfl rfl rfl) ?_
            refine WL.pure (W0 rfl) rfl (Pu.sub rfl rfl rfl) ?_
            refine WL.pure (W0 rfl) rfl (Pu.assign rfl rfl) ?_
            refine WL.nil ?_
            refine Lf.thenC ?_
            refine WC.region ?_
            refine WL.pure (W0 rfl) rfl (Pu.assign rfl rfl) ?_
            refine WL.nil ?_
            exact Lf.joinA ((IntKind.i64.wrap ((IntKind.i64.wrap (vi.2.1 - (1 : Int))) - (IntKind.i64.wrap (r - vi.1)))), (1 : Int)) (by exact ⟨rfl, rfl, rfl, rfl, rfl, rfl, rfl, rfl, rfl, trivial⟩) h
          · replace h := h.2 hc
            refine WC.skip ?_
            exact Lf.joinA (r, r_1) (by exact ⟨rfl, rfl, rfl, rfl, rfl, rfl, rfl, rfl, rfl, trivial⟩) h
      · clear h2
        refine WC.seq ?_
        refine WC.region ?_
        refine WL.pure (W0 rfl) rfl (Pu.move rfl rfl) ?_
        refine WL.pure (W0 rfl) rfl (Pu.not rfl rfl) ?_
        refine WL.nil ?_
        refine Lf.thenC ?_
        refine WC.cond rfl (fun hc => ?_) (fun hc => ?_)
        · replace h := h.1 hc
          refine WC.seq ?_
          refine WC.region ?_
          refine WL.pure (W0 rfl) rfl (Pu.move rfl rfl) ?_
          refine WL.pure (W0 rfl) rfl (Pu.move rfl rfl) ?_
          refine WL.pure (W0 rfl) rfl (Pu.move rfl rfl) ?_
          refine WL.call (W0 rfl) rfl (fun xa hxa => run_call (fs := []) (cs := []) (vs := [Sl.v data, .int .i64 vi.1, .int .i64 vi.2.1]) rfl rfl rfl Tryz.func84 rfl rfl xa hxa _) h ?_
          rintro _ vw_16 ⟨rfl, h⟩
          refine WL.nil ?_
          refine Lf.thenC ?_
          refine WC.region ?_
          refine WL.pure (W0 rfl) rfl (Pu.move rfl rfl) ?_
          refine WL.pure (W0 rfl) rfl (Pu.sub rfl rfl rfl) ?_
          refine WL.pure (W0 rfl) rfl (Pu.assign rfl rfl) ?_
          refine WL.nil ?_
          exact Lf.joinA (IntKind.i64.wrap (vi.2.2.1 - (1 : Int))) (by exact ⟨rfl, rfl, rfl, rfl, rfl, rfl, rfl, trivial⟩) h
        · replace h := h.2 hc
          refine WC.skip ?_
          exact Lf.joinA vi.2.2.1 (by exact ⟨rfl, rfl, rfl, rfl, rfl, rfl, rfl, trivial⟩) h
/-- slices.Sort[[]uint64,uint64] -/
def F_slices_Sort_uint64_uint64 (vx : Sl) (w : World) (Q : World → Prop) : Prop :=
  CallP Tryz.prog n_math_bits_Len [.int .u64 (IntKind.u64.wrap (vx.len : Int))] w (ret1 (tI .i64) (fun r vw => CallP Tryz.prog n_slices_pdqsortOrdered_uint64 [Sl.v vx, .int .i64 (0), .int .i64 (vx.len : Int), .int .i64 r] vw (ret0 (fun vw_1 => Q vw_1))))
theorem vc_slices_Sort_uint64_uint64 (vx : Sl) (w : World) (Q : World → Prop) (h : F_slices_Sort_uint64_uint64 vx w Q) : CallP Tryz.prog n_slices_Sort_uint64_uint64 [Sl.v vx] w (ret0 Q) := by
  unfold F_slices_Sort_uint64_uint64 at h
  refine CallP.of_body 11 Tryz.func47 rfl Tryz.ntmps47 rfl ?_
  refine WC.seq ?_
  refine WC.region ?_
  refine WL.pure (W0 rfl) rfl (Pu.move rfl rfl) ?_
  refine WL.pure (W0 rfl) rfl (Pu.len rfl Tryz.underlying87 rfl) ?_
  refine WL.pure (W0 rfl) rfl (Pu.assign rfl rfl) ?_
  refine WL.nil ?_
  refine Lf.thenC ?_
  refine WC.region ?_
  refine WL.pure (W0 rfl) rfl (Pu.move rfl rfl) ?_
  refine WL.pure (W0 rfl) rfl (Pu.move rfl rfl) ?_
  refine WL.pure (W0 rfl) rfl (Pu.move rfl rfl) ?_
  refine WL.pure (W0 rfl) rfl (Pu.conv rfl (by rw [Tryz.underlying3]; rfl) Tryz.underlying42 rfl) ?_
  refine WL.call (W0 rfl) rfl (fun xa hxa => run_call (fs := []) (cs := []) (vs := [.int .u64 (IntKind.u64.wrap (vx.len : Int))]) rfl rfl rfl Tryz.func65 rfl rfl xa hxa _) h ?_
  rintro _ vw ⟨r, rfl, h⟩
  refine WL.call (W0 rfl) rfl (fun xa hxa => run_call (fs := []) (cs := []) (vs := [Sl.v vx, .int .i64 (0), .int .i64 (vx.len : Int), .int .i64 r]) rfl rfl rfl Tryz.func64 rfl rfl xa hxa _) h ?_
  rintro _ vw_1 ⟨rfl, h⟩
  refine WL.nil ?_
  exact Lf.ret0 rfl ⟨rfl, h⟩
end Go.Proofs.YtccebpahnnfceaaGreatDoor
