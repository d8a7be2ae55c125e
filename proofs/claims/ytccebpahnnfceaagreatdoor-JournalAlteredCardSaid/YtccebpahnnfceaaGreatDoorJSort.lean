/- slices.Sort at numbers that stand in their order: nothing is written. -/
import Derived.Test.YtccebpahnnfceaaGreatDoorV5
import Derived.Test.YtccebpahnnfceaaGreatDoorV6
import Derived.Test.YtccebpahnnfceaaGreatDoorVcMore
import Derived.Test.YtccebpahnnfceaaGreatDoorJShelf
namespace Go.Proofs.YtccebpahnnfceaaGreatDoor
open Go.Vc
set_option linter.unusedVariables false
set_option linter.unusedSimpArgs false
def u64V (n : Nat) : Value := .int .u64 (n : Int)
section
variable {B : Bs} {w : World} {S : Hp} {L : Own} {data : Sl} {xs : List Nat}
/-- The slice reads so wherever the state is this one. -/
def Rds (B : Bs) (S : Hp) (L : Own) (data : Sl) (xs : List Nat) : Prop := ∀ w', St B w' S L → RdV (hp w') 1 data (xs.map u64V)
theorem less_ok (x y : Nat) (w : World) : CallP Tryz.prog n_cmp_Less_uint64 [.int .u64 x, .int .u64 y] w (ret1 tB fun r w' => r = decide (x < y) ∧ w' = w) := by
  refine vc_cmp_Less_uint64 _ _ _ _ ?_
  unfold F_cmp_Less_uint64
  refine v_join (fun r w' => r = decide (x < y) ∧ w' = w) (fun x w' hx => hx) ?_
  refine vc_cmp_isNaN_uint64 _ _ _ ?_
  unfold F_cmp_isNaN_uint64
  refine ⟨fun hc => absurd hc (by simp), fun _ => ⟨?_, rfl⟩⟩
  by_cases h : x < y
  · rw [decide_eq_true (by omega : (x : Int) < y), decide_eq_true h]
  · rw [decide_eq_false (by omega : ¬ (x : Int) < y), decide_eq_false h]
theorem v_u64 (hr : Rds B S L data xs) (h : St B w S L) {i : Int} (h0 : 0 ≤ i) (h1 : i < xs.length) {K : Int → Prop} (k : K ((xs.getD i.toNat 0 : Nat) : Int)) : ixs data i (fun b q => ld (tI .u64) w b (q + i.toNat * 1) K) := by
  have hd := hr w h
  have hl : xs.length = data.len := by have := hd.1; simpa using this
  refine RdV.ixs hd h0 (by omega) fun b q hc => v_ld1 _ rfl ?_ k
  have hi : i.toNat < xs.length := by omega
  rw [Nat.mul_one]
  exact hc i.toNat _ (by simp [u64V, hi, List.getD])
theorem getD_lt (hs : xs.Pairwise (· < ·)) {i j : Nat} (hij : i < j) (hj : j < xs.length) : xs.getD i 0 < xs.getD j 0 := by
  have := List.pairwise_iff_getElem.1 hs i j (by omega) hj hij
  simpa [List.getD, hj, Nat.lt_trans hij hj] using this
theorem insSort_ok (hr : Rds B S L data xs) (hs : xs.Pairwise (· < ·)) (h : St B w S L) (hl : xs.length ≤ 1000000) :
    CallP Tryz.prog n_slices_insertionSortOrdered_uint64 [Sl.v data, .int .i64 0, .int .i64 xs.length] w (ret0 fun w' => St B w' S L) := by
  refine vc_slices_insertionSortOrdered_uint64 _ _ _ _ _ ?_
  unfold F_slices_insertionSortOrdered_uint64
  rw [show IntKind.i64.wrap ((0 : Int) + 1) = ((1 : Nat) : Int) from rfl]
  refine loop_by (fun (x : Int) w' => (∃ i : Nat, x = i ∧ 1 ≤ i) ∧ St B w' S L) (fun x _ => xs.length - x.toNat) ?_ ⟨⟨1, rfl, Nat.le_refl _⟩, h⟩
  rintro J x w' ⟨⟨i, rfl, hi⟩, h'⟩ k
  refine ⟨fun hc => ?_, fun hc => h'⟩
  refine loop_by (fun (y : Int) w'' => y = (i : Int) ∧ St B w'' S L) (fun _ _ => 0) ?_ ⟨rfl, h'⟩
  rintro J2 y w2 ⟨rfl, h2⟩ _
  refine v_join (fun r w3 => r = false ∧ St B w3 S L) ?_ ?_
  · rintro r w3 ⟨rfl, h3⟩
    refine ⟨fun hc => absurd hc (by simp), fun _ => ?_⟩
    have e : IntKind.i64.wrap ((i : Int) + 1) = ((i + 1 : Nat) : Int) := by rw [IntWalk.i64_in _ (by omega)]; omega
    rw [e]
    exact k _ _ ⟨⟨i + 1, rfl, by omega⟩, h3⟩ (by omega)
  · refine ⟨fun hc2 => ?_, fun hc2 => absurd (show (0 : Int) < i by omega) hc2⟩
    have e : IntKind.i64.wrap ((i : Int) - 1) = ((i - 1 : Nat) : Int) := by rw [IntWalk.i64_in _ (by omega)]; omega
    rw [e]
    refine v_u64 hr h2.dr (by omega) (by omega) (v_u64 hr h2.dr (by omega) (by omega) ?_)
    refine (less_ok _ _ _).mono1 ?_
    rintro r w3 ⟨rfl, rfl⟩
    have := getD_lt hs (show i - 1 < i by omega) (show i < xs.length by omega)
    exact ⟨decide_eq_false (by simp only [Int.toNat_natCast]; omega), h2.dr⟩
theorem order2_ok {b' : Nat} (hr : Rds B S L data xs) (hs : xs.Pairwise (· < ·)) (h : St B w S L) {a b : Nat} (hab : a < b) (hb : b < xs.length) :
    CallP Tryz.prog n_slices_order2Ordered_uint64 [Sl.v data, .int .i64 a, .int .i64 b, .pointer (some ⟨b', 0, none⟩)] w (ret2 (tI .i64) (tI .i64) fun r s w' => r = a ∧ s = b ∧ St B w' S L) := by
  refine vc_slices_order2Ordered_uint64 _ _ _ _ _ _ ?_
  unfold F_slices_order2Ordered_uint64
  refine v_u64 hr h.dr (by omega) (by omega) (v_u64 hr h.dr (by omega) (by omega) ?_)
  refine (less_ok _ _ _).mono1 ?_
  rintro r w3 ⟨rfl, rfl⟩
  have := getD_lt hs hab hb
  refine ⟨fun hc => absurd hc ?_, fun _ => ⟨rfl, rfl, h.dr⟩⟩
  simp only [Int.toNat_natCast, decide_eq_true_eq]
  omega
theorem median_ok {b' : Nat} (hr : Rds B S L data xs) (hs : xs.Pairwise (· < ·)) (h : St B w S L) {a b c : Nat} (hab : a < b) (hbc : b < c) (hb : c < xs.length) :
    CallP Tryz.prog n_slices_medianOrdered_uint64 [Sl.v data, .int .i64 a, .int .i64 b, .int .i64 c, .pointer (some ⟨b', 0, none⟩)] w (ret1 (tI .i64) fun r w' => r = b ∧ St B w' S L) := by
  refine vc_slices_medianOrdered_uint64 _ _ _ _ _ _ _ ?_
  unfold F_slices_medianOrdered_uint64
  refine (order2_ok hr hs h hab (by omega)).mono2 ?_
  rintro r s w1 ⟨rfl, rfl, h1⟩
  refine (order2_ok hr hs h1 hbc hb).mono2 ?_
  rintro r s w2 ⟨rfl, rfl, h2⟩
  refine (order2_ok hr hs h2 hab (by omega)).mono2 ?_
  rintro r s w3 ⟨rfl, rfl, h3⟩
  exact ⟨rfl, h3⟩
theorem medAdj_ok {b' : Nat} (hr : Rds B S L data xs) (hs : xs.Pairwise (· < ·)) (h : St B w S L) {a : Nat} (ha : 1 ≤ a) (hb : a + 1 < xs.length) (hl : xs.length ≤ 1000000) :
    CallP Tryz.prog n_slices_medianAdjacentOrdered_uint64 [Sl.v data, .int .i64 a, .pointer (some ⟨b', 0, none⟩)] w (ret1 (tI .i64) fun r w' => r = a ∧ St B w' S L) := by
  refine vc_slices_medianAdjacentOrdered_uint64 _ _ _ _ _ ?_
  unfold F_slices_medianAdjacentOrdered_uint64
  have e1 : IntKind.i64.wrap ((a : Int) - 1) = ((a - 1 : Nat) : Int) := by rw [IntWalk.i64_in _ (by omega)]; omega
  have e2 : IntKind.i64.wrap ((a : Int) + 1) = ((a + 1 : Nat) : Int) := by rw [IntWalk.i64_in _ (by omega)]; omega
  rw [e1, e2]
  exact median_ok hr hs h (by omega) (by omega) hb
theorem choosePivot_ok (hr : ∀ L', Rds B S (L' ++ L) data xs) (hs : xs.Pairwise (· < ·)) (h : St B w S L) (h12 : 12 < xs.length) (hl : xs.length ≤ 1000000) :
    CallP Tryz.prog n_slices_choosePivotOrdered_uint64 [Sl.v data, .int .i64 0, .int .i64 xs.length] w (ret2 (tI .i64) (tI .i64) fun r s w' => s = 1 ∧ (∃ p : Nat, r = p ∧ p < xs.length) ∧ St B w' S L) := by
  refine vc_slices_choosePivotOrdered_uint64 _ _ _ _ _ ?_
  unfold F_slices_choosePivotOrdered_uint64
  have e0 : IntKind.i64.wrap ((xs.length : Int) - 0) = (xs.length : Int) := by rw [IntWalk.i64_in _ (by omega)]; omega
  have e4 : IntKind.i64.wrap (Int.tdiv (xs.length : Int) 4) = ((xs.length / 4 : Nat) : Int) := by
    rw [Int.tdiv_eq_ediv_of_nonneg (by omega), IntWalk.i64_in _ (by omega)]; omega
  have ek : ∀ k : Nat, k ≤ 3 → IntKind.i64.wrap ((0 : Int) + IntKind.i64.wrap (((xs.length / 4 : Nat) : Int) * (k : Int))) = ((xs.length / 4 * k : Nat) : Int) := fun k hk => by
    have hm : xs.length / 4 * k ≤ xs.length / 4 * 3 := Nat.mul_le_mul_left _ hk
    have : ((xs.length / 4 : Nat) : Int) * (k : Int) = ((xs.length / 4 * k : Nat) : Int) := by simp
    rw [this, IntWalk.i64_in ((xs.length / 4 * k : Nat) : Int) (by omega), IntWalk.i64_in _ (by omega)]
    omega
  have ek1 := ek 1 (by omega)
  have ek2 := ek 2 (by omega)
  have ek3 := ek 3 (by omega)
  rw [show ((1 : Nat) : Int) = 1 from rfl] at ek1
  rw [show ((2 : Nat) : Int) = 2 from rfl] at ek2
  rw [show ((3 : Nat) : Int) = 3 from rfl] at ek3
  refine v_al h fun b w1 h1 => ?_
  have hr' := hr [(b, .cells [.int .i64 0].toArray T_int)]
  rw [e0, e4, ek1, ek2, ek3]
  refine v_join (fun r w' => (∃ p : Nat, r = p ∧ p < xs.length) ∧ St B w' S ((b, .cells [.int .i64 0].toArray T_int) :: L)) ?_ ?_
  · rintro r w' ⟨hp, h'⟩
    exact v_ldo h'.head.1 (0 : Int) ⟨fun _ => ⟨rfl, hp, h'.tail⟩, fun hc => absurd rfl hc⟩
  · refine ⟨fun _ => ?_, fun hc => absurd (show (8 : Int) ≤ xs.length by omega) hc⟩
    refine v_join (fun t w' => t = (((xs.length / 4 * 1 : Nat) : Int), ((xs.length / 4 * 2 : Nat) : Int), ((xs.length / 4 * 3 : Nat) : Int)) ∧ St B w' S ((b, .cells [.int .i64 0].toArray T_int) :: L)) ?_ ?_
    · rintro ⟨t1, t2, t3⟩ w' ⟨ht, h'⟩
      simp only [Prod.mk.injEq] at ht
      obtain ⟨rfl, rfl, rfl⟩ := ht
      refine (median_ok hr' hs h' (by omega) (by omega) (by omega)).mono1 ?_
      rintro r w2 ⟨rfl, h2⟩
      exact ⟨⟨_, rfl, by omega⟩, h2⟩
    · refine ⟨fun h50 => ?_, fun _ => ⟨rfl, h1⟩⟩
      refine (medAdj_ok hr' hs h1 (by omega) (by omega) hl).mono1 ?_
      rintro r1 w2 ⟨rfl, h2⟩
      refine (medAdj_ok hr' hs h2 (by omega) (by omega) hl).mono1 ?_
      rintro r2 w3 ⟨rfl, h3⟩
      refine (medAdj_ok hr' hs h3 (by omega) (by omega) hl).mono1 ?_
      rintro r3 w4 ⟨rfl, h4⟩
      exact ⟨rfl, h4⟩
theorem partial_ok (hr : Rds B S L data xs) (hs : xs.Pairwise (· < ·)) (h : St B w S L) (h12 : 12 < xs.length) (hl : xs.length ≤ 1000000) :
    CallP Tryz.prog n_slices_partialInsertionSortOrdered_uint64 [Sl.v data, .int .i64 0, .int .i64 xs.length] w (ret1 tB fun r w' => r = true ∧ St B w' S L) := by
  refine vc_slices_partialInsertionSortOrdered_uint64 _ _ _ _ _ ?_
  unfold F_slices_partialInsertionSortOrdered_uint64
  rw [show IntKind.i64.wrap ((0 : Int) + 1) = ((1 : Nat) : Int) from rfl]
  refine loop_by (fun (x : Int × Int) w' => x = (((1 : Nat) : Int), 0) ∧ St B w' S L) (fun _ _ => 0) ?_ ⟨rfl, h⟩
  rintro J x w' ⟨rfl, h'⟩ _
  refine ⟨fun _ => ?_, fun hc => absurd (show (0 : Int) < 5 by omega) hc⟩
  refine v_join (fun _ _ => False) (fun _ _ hf => hf.elim) ?_
  refine loop_by (fun (x : Int) w' => (∃ i : Nat, x = i ∧ 1 ≤ i ∧ i ≤ xs.length) ∧ St B w' S L) (fun x _ => xs.length - x.toNat) ?_ ⟨⟨1, rfl, Nat.le_refl _, by omega⟩, h'⟩
  rintro J2 y w2 ⟨⟨i, rfl, hi, hi2⟩, h2⟩ k
  refine v_join (fun r w3 => r = decide (i < xs.length) ∧ St B w3 S L) ?_ ?_
  · rintro r w3 ⟨rfl, h3⟩
    refine ⟨fun hc => ?_, fun hc => ⟨fun _ => ⟨rfl, h3⟩, fun hc2 => absurd ?_ hc2⟩⟩
    · have hlt : i < xs.length := by simpa using hc
      have e : IntKind.i64.wrap ((i : Int) + 1) = ((i + 1 : Nat) : Int) := by rw [IntWalk.i64_in _ (by omega)]; omega
      rw [e]
      exact k _ _ ⟨⟨i + 1, rfl, by omega, by omega⟩, h3⟩ (by omega)
    · have : ¬ i < xs.length := by simpa using hc
      omega
  · refine ⟨fun hc => ?_, fun hc => ⟨(decide_eq_false (by omega)).symm, h2.dr⟩⟩
    have e : IntKind.i64.wrap ((i : Int) - 1) = ((i - 1 : Nat) : Int) := by rw [IntWalk.i64_in _ (by omega)]; omega
    rw [e]
    refine v_u64 hr h2.dr (by omega) (by omega) (v_u64 hr h2.dr (by omega) (by omega) ?_)
    refine (less_ok _ _ _).mono1 ?_
    rintro r w3 ⟨rfl, rfl⟩
    have := getD_lt hs (show i - 1 < i by omega) (show i < xs.length by omega)
    refine ⟨?_, h2.dr⟩
    rw [decide_eq_false (by simp only [Int.toNat_natCast]; omega), decide_eq_true (by omega)]
    rfl
theorem Sort_ok (hr : ∀ L', Rds B S (L' ++ L) data xs) (hs : xs.Pairwise (· < ·)) (h : St B w S L) (hl : xs.length ≤ 1000000) :
    CallP Tryz.prog n_slices_Sort_uint64_uint64 [Sl.v data] w (ret0 fun w' => St B w' S L) := by
  have hr0 : Rds B S L data xs := hr []
  have hdl : xs.length = data.len := by have := (hr0 w h).1; simpa using this
  refine vc_slices_Sort_uint64_uint64 _ _ _ ?_
  unfold F_slices_Sort_uint64_uint64
  rw [← hdl, IntWalk.u64_in _ (by omega)]
  refine Calls.mono (Tryz.bits_Len (xs.length : Int) w (by omega) (by omega)) ?_
  rintro e w1 ⟨rfl, rfl⟩
  refine ⟨_, rfl, _, rfl, ?_⟩
  refine vc_slices_pdqsortOrdered_uint64 _ _ _ _ _ _ ?_
  unfold F_slices_pdqsortOrdered_uint64
  refine loop_by (fun (x : Int × Int × Int × Bool × Bool) w' => x = (0, (xs.length : Int), (Lib.bitLen xs.length : Int), true, true) ∧ St B w' S L) (fun _ _ => 0) ?_ ⟨rfl, h⟩
  rintro J x w' ⟨rfl, h'⟩ _
  have e0 : IntKind.i64.wrap ((xs.length : Int) - 0) = (xs.length : Int) := by rw [IntWalk.i64_in _ (by omega)]; omega
  dsimp only
  rw [e0]
  refine ⟨fun _ => insSort_ok hr0 hs h' hl, fun h12 => ⟨fun hz => ?_, fun _ => ?_⟩⟩
  · have hb := Lib.bitLen_half xs.length (by omega) (by omega)
    exact absurd hz (by rw [hb]; omega)
  · refine v_join (fun r w2 => r = (Lib.bitLen xs.length : Int) ∧ St B w2 S L) ?_ ⟨fun hc => absurd hc (by simp), fun _ => ⟨rfl, h'⟩⟩
    rintro r w2 ⟨rfl, h2⟩
    refine (choosePivot_ok hr hs h2 (by omega) hl).mono2 ?_
    rintro p s w3 ⟨rfl, hp, h3⟩
    refine v_join (fun t w4 => t = (p, 1) ∧ St B w4 S L) ?_ ⟨fun hc => absurd hc (by omega), fun _ => ⟨rfl, h3⟩⟩
    rintro ⟨t1, t2⟩ w4 ⟨ht, h4⟩
    simp only [Prod.mk.injEq] at ht
    obtain ⟨rfl, rfl⟩ := ht
    refine v_join (fun _ _ => False) (fun _ _ hf => hf.elim) ?_
    refine v_join (fun r w5 => r = true ∧ St B w5 S L) ?_ ⟨fun _ => ⟨fun _ => ⟨rfl, h4⟩, fun hc => absurd hc (by simp)⟩, fun hc => absurd hc (by simp)⟩
    rintro r w5 ⟨rfl, h5⟩
    refine ⟨fun _ => ?_, fun hc => absurd hc (by simp)⟩
    refine (partial_ok hr0 hs h5 (by omega) hl).mono1 ?_
    rintro r w6 ⟨rfl, h6⟩
    exact ⟨fun _ => h6, fun hc => absurd hc (by simp)⟩
end
end Go.Proofs.YtccebpahnnfceaaGreatDoor
