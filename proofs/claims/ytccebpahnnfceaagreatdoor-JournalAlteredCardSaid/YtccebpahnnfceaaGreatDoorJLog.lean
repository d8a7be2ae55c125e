/- The states of a journal that is written, and that is read back behind a crash. No program here. -/
import Derived.Test.YtccebpahnnfceaaGreatDoorJScan
namespace Go.Proofs.YtccebpahnnfceaaGreatDoor
open Go.Vc
set_option linter.unusedVariables false
set_option linter.unusedSimpArgs false
abbrev Ch := Nat × List (List UInt8)
def recsC (cs : List Ch) : List (List UInt8) := cs.flatMap (·.2)
def Chain : Nat → List Ch → Prop
  | _, [] => True
  | n, (f, rs) :: r => f = n ∧ 0 < rs.length ∧ Chain (n + rs.length) r
def fullF (c : Ch) : Nat × FM := (c.1, ⟨segBytes c.2, sizeOfR c.2⟩)
def segOf (c : Ch) : Nat × Nat := (c.1, sizeOfR c.2)
theorem recsC_cons (c : Ch) (cs : List Ch) : recsC (c :: cs) = c.2 ++ recsC cs := rfl
theorem recsC_app (a b : List Ch) : recsC (a ++ b) = recsC a ++ recsC b := List.flatMap_append
theorem Chain.snoc : ∀ {n : Nat} {cs : List Ch} {f : Nat} {rs : List (List UInt8)}, Chain n cs → f = n + (recsC cs).length → 0 < rs.length → Chain n (cs ++ [(f, rs)])
  | n, [], f, rs, _, hf, hr => ⟨by simpa [recsC] using hf, hr, trivial⟩
  | n, (g, qs) :: cs, f, rs, h, hf, hr => ⟨h.1, h.2.1, Chain.snoc h.2.2 (by rw [recsC_cons, List.length_append] at hf; dsimp only at hf; omega) hr⟩
theorem Chain.count : ∀ {n : Nat} {cs : List Ch}, Chain n cs → cs.length ≤ (recsC cs).length
  | _, [], _ => Nat.zero_le _
  | n, (g, qs) :: cs, h => by
    have := Chain.count h.2.2
    rw [recsC_cons, List.length_append, List.length_cons]
    have := h.2.1
    dsimp only
    omega
theorem Chain.bound : ∀ {n : Nat} {cs : List Ch}, Chain n cs → ∀ c ∈ cs, n ≤ c.1 ∧ c.1 < n + (recsC cs).length
  | n, (g, qs) :: cs, h, c, hc => by
    have h1 := h.1; have h2 := h.2.1
    rw [recsC_cons, List.length_append]
    dsimp only
    rcases List.mem_cons.1 hc with rfl | hc
    · dsimp only; omega
    · have := Chain.bound h.2.2 c hc
      omega
  | n, [], h, c, hc => absurd hc (by simp)
theorem Chain.sorted : ∀ {n : Nat} {cs : List Ch}, Chain n cs → (cs.map Prod.fst).Pairwise (· < ·)
  | _, [], _ => List.Pairwise.nil
  | n, (g, qs) :: cs, h => by
    rw [List.map_cons, List.pairwise_cons]
    refine ⟨fun x hx => ?_, Chain.sorted h.2.2⟩
    obtain ⟨c, hc, rfl⟩ := List.mem_map.1 hx
    have := Chain.bound h.2.2 c hc
    have h1 := h.1; have h2 := h.2.1
    dsimp only; omega
theorem recov_one (n : Nat) (fm : FM) : recov [(n, fm)] = recsOf (frScan fm.bytes) := by
  rw [recov.eq_def]
  dsimp only
  split <;> rfl
theorem recov_chain (fm : FM) : ∀ (cs : List Ch) (n f : Nat), Chain n cs → small (recsC cs) → f = n + (recsC cs).length → recov (cs.map fullF ++ [(f, fm)]) = recsC cs ++ recsOf (frScan fm.bytes) ∧ recNext (cs.map fullF ++ [(f, fm)]) = n + (recsC cs ++ recsOf (frScan fm.bytes)).length
  | [], n, f, _, _, hf => by
    have e : f = n := by simpa [recsC] using hf
    subst e
    exact ⟨recov_one _ _, by show f + (recov [(f, fm)]).length = _; rw [recov_one]; rfl⟩
  | (g, qs) :: cs, n, f, h, hs, hf => by
    rw [recsC_cons, List.length_append] at hf
    dsimp only at hf
    have hs1 : small qs := fun q hq => hs q (by rw [recsC_cons]; exact List.mem_append_left _ hq)
    have hs2 : small (recsC cs) := fun q hq => hs q (by rw [recsC_cons]; exact List.mem_append_right _ hq)
    have ih := recov_chain fm cs (n + qs.length) f h.2.2 hs2 (by omega)
    have hfull := recs_full qs hs1
    have hmain : recov ((fullF (g, qs)) :: (cs.map fullF ++ [(f, fm)])) = qs ++ recov (cs.map fullF ++ [(f, fm)]) := by
      cases cs with
      | nil =>
        have hf' : f = g + qs.length := by have := h.1; simp [recsC] at hf; omega
        show recov ((g, ⟨segBytes qs, sizeOfR qs⟩) :: [(f, fm)]) = _
        rw [recov.eq_def]
        dsimp only
        rw [hfull, segBytes_len, if_neg (by omega), if_pos hf']
        rfl
      | cons c cs =>
        obtain ⟨g2, q2⟩ := c
        have hg2 : g2 = g + qs.length := by have := h.1; have := h.2.2.1; omega
        show recov ((g, ⟨segBytes qs, sizeOfR qs⟩) :: (fullF (g2, q2) :: (cs.map fullF ++ [(f, fm)]))) = _
        rw [recov.eq_def]
        dsimp only [fullF]
        rw [hfull, segBytes_len, if_neg (by omega), if_pos hg2]
        rfl
    have e1 : recov (((g, qs) :: cs).map fullF ++ [(f, fm)]) = recsC ((g, qs) :: cs) ++ recsOf (frScan fm.bytes) := by
      rw [List.map_cons, List.cons_append, hmain, ih.1, recsC_cons, List.append_assoc]
    refine ⟨e1, ?_⟩
    show g + (recov (((g, qs) :: cs).map fullF ++ [(f, fm)])).length = _
    rw [e1, h.1]
/-- The journal is open and written. -/
def LogSt (nm : ByteArray) (R : List (List UInt8)) (s : Nat) (J : JM) (D : DM) : Prop :=
  D.off = false ∧ J.off = false ∧ J.recs = R ∧ J.next = 1 + R.length ∧
  ((R = [] ∧ s = 0 ∧ J.segs = [] ∧ D.files = []) ∨
   ∃ pre f rs sy t, R = recsC pre ++ rs ∧ Chain 1 pre ∧ f = 1 + (recsC pre).length ∧ 0 < rs.length ∧ J.segs = (pre ++ [(f, rs)]).map segOf ∧ D.files = (pre.map fullF ++ [(f, (⟨segBytes rs, sy⟩ : FM))]).map (fN nm) ∧ t ≤ rs.length ∧ s ≤ (recsC pre).length + t ∧ sizeOfR (rs.take t) ≤ sy)
/-- Its disk, whole or cut in the last record. -/
def CrashSt (nm : ByteArray) (R : List (List UInt8)) (s : Nat) (D : DM) : Prop :=
  (R = [] ∧ s = 0 ∧ D.files = []) ∨
  ∃ pre f rs sy t m, R = recsC pre ++ rs ∧ Chain 1 pre ∧ f = 1 + (recsC pre).length ∧ D.files = (pre.map fullF ++ [(f, (⟨(segBytes rs).take m, sy⟩ : FM))]).map (fN nm) ∧ t ≤ rs.length ∧ s ≤ (recsC pre).length + t ∧ sizeOfR (rs.take t) ≤ sy
theorem LogSt.crash {nm : ByteArray} {R : List (List UInt8)} {s : Nat} {J : JM} {D D' : DM} (h : LogSt nm R s J D) (hf : D'.files = D.files) : CrashSt nm R s D' := by
  obtain ⟨_, _, _, _, ⟨h1, h2, h3, h4⟩ | ⟨pre, f, rs, sy, t, h1, h2, h3, h4, h5, h6, h7, h8, h9⟩⟩ := h
  · exact .inl ⟨h1, h2, hf.trans h4⟩
  · exact .inr ⟨pre, f, rs, sy, t, (segBytes rs).length, h1, h2, h3, by rw [hf, h6, List.take_length], h7, h8, h9⟩
theorem sizeOfR_app (a b : List (List UInt8)) : sizeOfR (a ++ b) = sizeOfR a + sizeOfR b := by simp [sizeOfR]
theorem total_full : ∀ (cs : List Ch), sumLen (cs.map fullF) = sizeOfR (recsC cs)
  | [] => rfl
  | (g, qs) :: cs => by
    have := total_full cs
    rw [recsC_cons, sizeOfR_app, List.map_cons]
    simp only [sumLen, List.map_cons, List.sum_cons, fullF] at this ⊢
    rw [segBytes_len, this]
theorem sumLen_app (a b : List (Nat × FM)) : sumLen (a ++ b) = sumLen a + sumLen b := by simp [sumLen]
theorem small_size {R : List (List UInt8)} (h : small R) (hl : R.length ≤ 120) : sizeOfR R ≤ 361440 := by
  have : ∀ R : List (List UInt8), small R → sizeOfR R ≤ R.length * 3012 := by
    intro R
    induction R with
    | nil => intro _; simp [sizeOfR]
    | cons r R ih =>
      intro h
      have h1 := ih fun q hq => h q (List.mem_cons_of_mem _ hq)
      have h2 := h r (List.mem_cons_self ..)
      have e : sizeOfR (r :: R) = (r.length + 12) + sizeOfR R := by simp [sizeOfR]
      rw [e, List.length_cons, Nat.add_mul]; omega
  have := this R h
  have : R.length * 3012 ≤ 120 * 3012 := Nat.mul_le_mul_right _ hl
  omega
theorem name_new {nm : ByteArray} {cs : List (Nat × FM)} {n : Nat} (hn : n < 1000000000000) (h : ∀ c ∈ cs, c.1 < n) : fileN nm n ∉ (cs.map (fN nm)).map Prod.fst := by
  rw [List.map_map]
  intro hin
  obtain ⟨c, hc, e⟩ := List.mem_map.1 hin
  have := h c hc
  have := fileN_inj (nm := nm) (by omega) hn e
  omega
/-- What a put record wants to know, and what it leaves. -/
theorem append_step {nm : ByteArray} {R : List (List UInt8)} {s : Nat} {J : JM} {D : DM} (hL : LogSt nm R s J D) (b : List UInt8) (hsm : small (R ++ [b])) (hlen : R.length < 120) :
    ∃ Fs Fm g1 g2 Jm init f z fm, SyncedTo nm J D Fs ∧ (Need J → fileN nm J.next ∉ D.files.map Prod.fst) ∧ Mid nm J D Fs Jm Fm ∧ Jm.segs = init ++ [(f, z)] ∧ z ≤ 1000000 ∧ f < 1000000000000 ∧ Fm = g1 ++ (fileN nm f, fm) :: g2 ∧ total Fm = sizeOfR R ∧ J.segs.length ≤ 120 ∧
      (∀ D' : DM, (D'.files = D.files ∨ D'.files = Fs ∨ ∃ k, D'.files = g1 ++ (fileN nm f, ⟨fm.bytes ++ (encFrame 1 b).take k, fm.synced⟩) :: g2) → CrashSt nm (R ++ [b]) s D' ∨ CrashSt nm R s D') ∧
      (∀ D' : DM, D'.off = false → D'.files = g1 ++ (fileN nm f, ⟨fm.bytes ++ encFrame 1 b, fm.synced⟩) :: g2 → LogSt nm (R ++ [b]) s ⟨init ++ [(f, z + (b.length + 12))], J.recs ++ [b], J.next + 1, false⟩ D') := by
  have hb12 : sizeOfR [b] = b.length + 12 := by simp [sizeOfR]
  obtain ⟨hoff, hjoff, hrecs, hnext, hcase⟩ := hL
  have hRl : (R ++ [b]).length = R.length + 1 := by simp
  rcases hcase with ⟨rfl, rfl, hsegs, hfiles⟩ | ⟨pre, f, rs, sy, t, hR, hch, hf, hrs, hsegs, hfiles, ht, hs, hsy⟩
  · -- the first record of all
    have hn1 : J.next = 1 := by simpa using hnext
    refine ⟨[], [(fileN nm 1, ⟨[], 0⟩)], [], [], { J with segs := J.segs ++ [(J.next, 0)] }, [], 1, 0, ⟨[], 0⟩, .inl ⟨hsegs, hfiles.symm⟩, fun _ => by rw [hfiles]; simp, .inr ⟨.inl hsegs, rfl, by rw [hn1]; rfl⟩, by rw [hsegs, hn1], by omega, by omega, rfl, rfl, by rw [hsegs]; simp, ?_, ?_⟩
    · rintro D' (h | h | ⟨k, h⟩)
      · exact .inr (.inl ⟨rfl, rfl, h.trans hfiles⟩)
      · exact .inr (.inl ⟨rfl, rfl, h⟩)
      · refine .inl (.inr ⟨[], 1, [b], 0, 0, k, rfl, trivial, rfl, ?_, Nat.zero_le _, Nat.zero_le _, Nat.zero_le _⟩)
        rw [h, segBytes_one]; rfl
    · intro D' ho h
      refine ⟨ho, rfl, by rw [hrecs], by rw [hn1, hRl]; rfl, .inr ⟨[], 1, [b], 0, 0, rfl, trivial, rfl, by simp, ?_, ?_, Nat.zero_le _, Nat.zero_le _, Nat.zero_le _⟩⟩
      · simp [segOf, hb12]
      · rw [h, segBytes_one]; rfl
  · have hsR : small R := fun r hr => hsm r (List.mem_append_left _ hr)
    have hsz := small_size hsR (by omega)
    have hsegl : J.segs.length ≤ 120 := by
      rw [hsegs, List.length_map, List.length_append]
      have := hch.count
      have : R.length = (recsC pre).length + rs.length := by rw [hR, List.length_append]
      simp only [List.length_singleton]; omega
    have hRlen : R.length = (recsC pre).length + rs.length := by rw [hR, List.length_append]
    have hsz2 : sizeOfR R = sizeOfR (recsC pre) + sizeOfR rs := by rw [hR, sizeOfR_app]
    have hsegs' : J.segs = pre.map segOf ++ [(f, sizeOfR rs)] := by rw [hsegs, List.map_append]; rfl
    have hfiles' : D.files = (pre.map fullF).map (fN nm) ++ (fileN nm f, ⟨segBytes rs, sy⟩) :: [] := by rw [hfiles, List.map_append]; rfl
    have hsync : SyncedTo nm J D ((pre.map fullF).map (fN nm) ++ (fileN nm f, ⟨segBytes rs, (segBytes rs).length⟩) :: []) :=
      .inr ⟨pre.map segOf, f, sizeOfR rs, _, _, ⟨segBytes rs, sy⟩, hsegs', by omega, hfiles', rfl⟩
    by_cases hneed : 4096 ≤ sizeOfR rs
    · -- a new segment
      have hN : Need J := .inr ⟨_, _, _, hsegs', hneed⟩
      have hfull : (pre.map fullF).map (fN nm) ++ (fileN nm f, ⟨segBytes rs, (segBytes rs).length⟩) :: [] = ((pre ++ [(f, rs)]).map fullF).map (fN nm) := by
        rw [List.map_append, List.map_append, segBytes_len]; rfl
      have hch2 : Chain 1 (pre ++ [(f, rs)]) := hch.snoc hf hrs
      have hrc2 : recsC (pre ++ [(f, rs)]) = R := by rw [recsC_app, hR]; simp [recsC]
      refine ⟨_, _, ((pre ++ [(f, rs)]).map fullF).map (fN nm), [], { J with segs := J.segs ++ [(J.next, 0)] }, J.segs, J.next, 0, ⟨[], 0⟩, hsync, fun _ => ?_, .inr ⟨hN, rfl, rfl⟩, rfl, by omega, by omega, by rw [hfull], ?_, hsegl, ?_, ?_⟩
      · rw [hfiles]
        refine name_new (by omega) fun c hc => ?_
        rcases List.mem_append.1 hc with hc | hc
        · obtain ⟨q, hq, rfl⟩ := List.mem_map.1 hc
          have := hch.bound q hq
          show q.1 < _
          omega
        · simp at hc; subst hc; dsimp only; omega
      · rw [hfull]
        have : ((pre ++ [(f, rs)]).map fullF).map (fN nm) ++ [(fileN nm J.next, ⟨[], 0⟩)] = ((pre ++ [(f, rs)]).map fullF ++ [(J.next, (⟨[], 0⟩ : FM))]).map (fN nm) := by
          generalize (pre ++ [(f, rs)]).map fullF = z
          rw [List.map_append]; rfl
        rw [this, total_fN, sumLen_app, total_full, hrc2]
        rfl
      · rintro D' (h | h | ⟨k, h⟩)
        · exact .inr (.inr ⟨pre, f, rs, sy, t, (segBytes rs).length, hR, hch, hf, by rw [h, hfiles, List.take_length], ht, hs, hsy⟩)
        · refine .inr (.inr ⟨pre, f, rs, (segBytes rs).length, t, (segBytes rs).length, hR, hch, hf, ?_, ht, hs, ?_⟩)
          · rw [h, List.take_length, List.map_append]; rfl
          · rw [segBytes_len]
            have : sizeOfR rs = sizeOfR (rs.take t) + sizeOfR (rs.drop t) := by rw [← sizeOfR_app, List.take_append_drop]
            omega
        · refine .inl (.inr ⟨pre ++ [(f, rs)], J.next, [b], 0, 0, k, by rw [hrc2], hch2, by rw [hrc2, hnext], ?_, Nat.zero_le _, by rw [hrc2]; omega, Nat.zero_le _⟩)
          rw [h, segBytes_one, List.map_append, List.map_append, List.map_append, List.map_append]; rfl
      · intro D' ho h
        refine ⟨ho, rfl, by rw [hrecs], by rw [hRl]; show J.next + 1 = _; omega, .inr ⟨pre ++ [(f, rs)], J.next, [b], 0, 0, by rw [hrc2], hch2, by rw [hrc2, hnext], by simp, ?_, ?_, Nat.zero_le _, by rw [hrc2]; omega, Nat.zero_le _⟩⟩
        · rw [List.map_append, ← hsegs]
          simp [segOf, hb12]
        · rw [h, segBytes_one, List.map_append, List.map_append, List.map_append, List.map_append]; rfl
    · -- into the last segment
      have hN : ¬ Need J := by
        rintro (q | ⟨i, g, z, q, hz⟩)
        · rw [hsegs'] at q; simp at q
        · rw [hsegs'] at q
          have := (List.append_inj' q rfl).2
          simp only [List.cons.injEq, Prod.mk.injEq] at this
          omega
      refine ⟨_, D.files, (pre.map fullF).map (fN nm), [], J, pre.map segOf, f, sizeOfR rs, ⟨segBytes rs, sy⟩, hsync, fun q => absurd q hN, .inl ⟨hN, rfl, rfl⟩, hsegs', by omega, by omega, hfiles', ?_, hsegl, ?_, ?_⟩
      · rw [hfiles, total_fN, sumLen_app, total_full, hsz2, ← segBytes_len rs]
        simp [sumLen]
      · rintro D' (h | h | ⟨k, h⟩)
        · exact .inr (.inr ⟨pre, f, rs, sy, t, (segBytes rs).length, hR, hch, hf, by rw [h, hfiles, List.take_length], ht, hs, hsy⟩)
        · refine .inr (.inr ⟨pre, f, rs, (segBytes rs).length, t, (segBytes rs).length, hR, hch, hf, ?_, ht, hs, ?_⟩)
          · rw [h, List.take_length, List.map_append]; rfl
          · rw [segBytes_len]
            have : sizeOfR rs = sizeOfR (rs.take t) + sizeOfR (rs.drop t) := by rw [← sizeOfR_app, List.take_append_drop]
            omega
        · refine .inl (.inr ⟨pre, f, rs ++ [b], sy, t, (segBytes rs).length + k, by rw [hR, List.append_assoc], hch, hf, ?_, by simp; omega, hs, ?_⟩)
          · rw [h, segBytes_app, segBytes_one, List.take_append, List.take_of_length_le (l := segBytes rs) (i := (segBytes rs).length + k) (by omega), show (segBytes rs).length + k - (segBytes rs).length = k by omega, List.map_append]; rfl
          · rw [List.take_append_of_le_length ht]; exact hsy
      · intro D' ho h
        refine ⟨ho, rfl, by rw [hrecs], by rw [hRl]; show J.next + 1 = _; omega, .inr ⟨pre, f, rs ++ [b], sy, t, by rw [hR, List.append_assoc], hch, hf, by simp, ?_, ?_, by simp; omega, hs, ?_⟩⟩
        · rw [List.map_append]
          simp [segOf, sizeOfR_app, hb12]
        · rw [h, segBytes_app, segBytes_one, List.map_append]; rfl
        · rw [List.take_append_of_le_length ht]; exact hsy
end Go.Proofs.YtccebpahnnfceaaGreatDoor
