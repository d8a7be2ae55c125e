/- Behind a crash: what is read back. No program here. -/
import Derived.Test.YtccebpahnnfceaaGreatDoorJLog
namespace Go.Proofs.YtccebpahnnfceaaGreatDoor
open Go.Vc
set_option linter.unusedVariables false
set_option linter.unusedSimpArgs false
theorem cut_full {nm : ByteArray} : ∀ (pre : List Ch) (x : Nat × FM) (ys : Files), All2 CutN ((pre.map fullF ++ [x]).map (fN nm)) ys → ∃ q, ys = (pre.map fullF ++ [(x.1, q)]).map (fN nm) ∧ CutF x.2 q
  | [], x, [], h => h.elim
  | [], x, [y], h => by
    obtain ⟨⟨h1, h2⟩, _⟩ := h
    refine ⟨y.2, ?_, h2⟩
    show [y] = [(fileN nm x.1, y.2)]
    rw [← show y.1 = fileN nm x.1 from h1]
  | [], x, y :: z :: ys, h => h.2.elim
  | c :: pre, x, [], h => h.elim
  | c :: pre, x, y :: ys, h => by
    obtain ⟨⟨h1, n, hn1, hn2, hq⟩, h2⟩ := h
    obtain ⟨q, hys, hc⟩ := cut_full pre x ys h2
    refine ⟨q, ?_, hc⟩
    have hn : n = sizeOfR c.2 := by
      have : (segBytes c.2).length = sizeOfR c.2 := segBytes_len c.2
      have a1 : sizeOfR c.2 ≤ n := hn1
      have a2 : n ≤ (segBytes c.2).length := hn2
      omega
    have hy : y = fN nm (fullF c) := by
      have h1' : y.1 = fileN nm c.1 := h1
      have hq' : y.2 = ⟨segBytes c.2, sizeOfR c.2⟩ := by
        rw [hq, hn]
        have : (segBytes c.2).take (sizeOfR c.2) = segBytes c.2 := List.take_of_length_le (by rw [segBytes_len]; exact Nat.le_refl _)
        show FM.mk ((segBytes c.2).take (sizeOfR c.2)) _ = _
        rw [this]
      show y = (fileN nm c.1, ⟨segBytes c.2, sizeOfR c.2⟩)
      rw [← h1', ← hq']
    rw [hys, hy]
    rfl
theorem crash_step {nm : ByteArray} {R : List (List UInt8)} {s : Nat} {D : DM} {ys : Files} (h : CrashSt nm R s D) (hsm : small R) (hlen : R.length ≤ 120) (hc : All2 CutN D.files ys) :
    ∃ fl u, ys = fl.map (fN nm) ∧ (fl.map Prod.fst).Pairwise (· < ·) ∧ (∀ p ∈ fl, p.1 < 100000000000) ∧ fl.length ≤ 100000 ∧ total ys ≤ sizeOfR R ∧ s ≤ u ∧ u ≤ R.length ∧ recov fl = R.take u ∧ recNext fl = 1 + u := by
  rcases h with ⟨rfl, rfl, hf⟩ | ⟨pre, f, rs, sy, t, m, hR, hch, hf, hfiles, ht, hs, hsy⟩
  · rw [hf] at hc
    cases ys with
    | nil => exact ⟨[], 0, rfl, List.Pairwise.nil, by simp, by simp, Nat.zero_le _, Nat.le_refl _, Nat.zero_le _, rfl, rfl⟩
    | cons y ys => exact hc.elim
  · rw [hfiles] at hc
    obtain ⟨q, rfl, n, hn1, hn2, rfl⟩ := cut_full pre _ ys hc
    dsimp only at hn1 hn2
    have hRlen : R.length = (recsC pre).length + rs.length := by rw [hR, List.length_append]
    have hs1 : small (recsC pre) := fun r hr => hsm r (by rw [hR]; exact List.mem_append_left _ hr)
    have hs2 : small rs := fun r hr => hsm r (by rw [hR]; exact List.mem_append_right _ hr)
    rw [List.length_take] at hn2
    have hmin : min n m = n := by omega
    obtain ⟨t', ht', hrec, hmax⟩ := recs_part rs n hs2
    have htt := hmax t ht (by omega)
    have hx : ((segBytes rs).take m).take n = (segBytes rs).take n := by rw [List.take_take, hmin]
    obtain ⟨e1, e2⟩ := recov_chain ⟨((segBytes rs).take m).take n, n⟩ pre 1 f hch hs1 hf
    dsimp only at e1 e2
    rw [hx, hrec] at e1 e2
    have hcnt := hch.count
    refine ⟨_, (recsC pre).length + t', rfl, ?_, ?_, ?_, ?_, by omega, by omega, ?_, ?_⟩
    · rw [List.map_append, List.pairwise_append]
      refine ⟨?_, by simp, ?_⟩
      · rw [List.map_map]
        exact hch.sorted
      · intro a ha b hb
        simp only [List.map_cons, List.map_nil, List.mem_singleton] at hb
        rw [hb]
        rw [List.map_map] at ha
        obtain ⟨c, hc', rfl⟩ := List.mem_map.1 ha
        have := hch.bound c hc'
        show c.1 < f
        omega
    · intro p hp
      rcases List.mem_append.1 hp with hp | hp
      · obtain ⟨c, hc', rfl⟩ := List.mem_map.1 hp
        have := hch.bound c hc'
        show c.1 < _
        omega
      · simp only [List.mem_singleton] at hp; subst hp; dsimp only; omega
    · simp; omega
    · rw [total_fN, sumLen_app, total_full, hR, sizeOfR_app]
      have : sumLen [(f, (⟨((segBytes rs).take m).take n, n⟩ : FM))] = (((segBytes rs).take m).take n).length := by simp [sumLen]
      rw [this, hx, List.length_take, segBytes_len]
      omega
    · rw [hx, e1, hR, List.take_append, List.take_of_length_le (l := recsC pre) (i := (recsC pre).length + t') (by omega), show (recsC pre).length + t' - (recsC pre).length = t' by omega]
    · rw [hx, e2, List.length_append, List.length_take]; omega
end Go.Proofs.YtccebpahnnfceaaGreatDoor
