/- disk: a crash. -/
import Derived.Test.YtccebpahnnfceaaGreatDoorJNames
namespace Go.Vc
set_option linter.unusedVariables false
theorem All2.split {α β : Type} {R : α → β → Prop} {a : α} {l2 : List α} : ∀ {l1 : List α} {ys : List β}, All2 R (l1 ++ a :: l2) ys → ∃ b1 b b2, ys = b1 ++ b :: b2 ∧ All2 R l1 b1 ∧ R a b ∧ All2 R l2 b2
  | [], [], h => h.elim
  | [], b :: ys, h => ⟨[], b, ys, rfl, trivial, h.1, h.2⟩
  | x :: l1, [], h => h.elim
  | x :: l1, b :: bs, h => by
    obtain ⟨b1, c, b2, rfl, h1, h2, h3⟩ := All2.split (l1 := l1) h.2
    exact ⟨b :: b1, c, b2, rfl, ⟨h.1, h1⟩, h2, h3⟩
theorem All2.join {α β : Type} {R : α → β → Prop} {a : α} {b : β} {l2 : List α} {b2 : List β} (h : R a b) (h2 : All2 R l2 b2) : ∀ {l1 : List α} {b1 : List β}, All2 R l1 b1 → All2 R (l1 ++ a :: l2) (b1 ++ b :: b2) := fun h1 => All2.append (show All2 R (a :: l2) (b :: b2) from ⟨h, h2⟩) h1
theorem All2.monoM {α β : Type} {R R' : α → β → Prop} : ∀ {xs : List α} {ys : List β}, (∀ a ∈ xs, ∀ b ∈ ys, R a b → R' a b) → All2 R xs ys → All2 R' xs ys
  | [], [], _, _ => trivial
  | a :: xs, b :: ys, hr, h => ⟨hr _ (List.mem_cons_self ..) _ (List.mem_cons_self ..) h.1, All2.monoM (fun a ha b hb => hr a (List.mem_cons_of_mem _ ha) b (List.mem_cons_of_mem _ hb)) h.2⟩
  | [], b :: ys, _, h => h.elim
  | a :: xs, [], _, h => h.elim
theorem All2.diag {α : Type} {R : α → α → Prop} : ∀ {xs : List α}, (∀ a ∈ xs, R a a) → All2 R xs xs
  | [], _ => trivial
  | a :: xs, h => ⟨h a (List.mem_cons_self ..), All2.diag fun x hx => h x (List.mem_cons_of_mem _ hx)⟩
theorem All2.mem_right {α β : Type} {R : α → β → Prop} : ∀ {xs : List α} {ys : List β}, All2 R xs ys → ∀ b ∈ ys, ∃ a ∈ xs, R a b
  | [], [], _, b, hb => absurd hb (by simp)
  | a :: xs, b :: ys, h, x, hx => by
    rcases List.mem_cons.1 hx with rfl | hx
    · exact ⟨a, List.mem_cons_self .., h.1⟩
    · obtain ⟨c, hc, hR⟩ := All2.mem_right h.2 x hx
      exact ⟨c, List.mem_cons_of_mem _ hc, hR⟩
  | [], b :: ys, h, _, _ => h.elim
  | a :: xs, [], h, _, _ => h.elim
theorem all2_map {α β γ : Type} {f : α → γ} {g : β → γ} {R : α → β → Prop} (hr : ∀ a b, R a b → g b = f a) : ∀ {xs : List α} {ys : List β}, All2 R xs ys → ys.map g = xs.map f
  | [], [], _ => rfl
  | a :: xs, b :: ys, h => by rw [List.map_cons, List.map_cons, hr _ _ h.1, all2_map hr h.2]
  | [], b :: ys, h => h.elim
  | a :: xs, [], h => h.elim
end Go.Vc
namespace Go.Proofs.YtccebpahnnfceaaGreatDoor
open Go.Vc
set_option linter.unusedVariables false
set_option linter.unusedSimpArgs false
theorem sortN_perm (ns : List ByteArray) : (sortN ns).Perm ns := by
  unfold sortN
  refine ((List.mergeSort_perm _ _).map _).trans ?_
  rw [List.map_map]
  have : ((fun l : List UInt8 => (⟨l.toArray⟩ : ByteArray)) ∘ strL) = id := by
    funext s; cases s; simp [strL]
  rw [this, List.map_id]
/-- A file behind a crash: its first part, no less than was synced. -/
def CutF (p q : FM) : Prop := ∃ n, p.synced ≤ n ∧ n ≤ p.bytes.length ∧ q = ⟨p.bytes.take n, n⟩
def CutN (p q : ByteArray × FM) : Prop := q.1 = p.1 ∧ CutF p.2 q.2
def CrI (done : List ByteArray) (r0 r : FR) : Prop := r.name = r0.name ∧ r.blk = r0.blk ∧ r.ok ∧ ((r0.name ∈ done ∧ CutF r0.fm r.fm) ∨ (r0.name ∉ done ∧ r.fm = r0.fm))
def intV (k : Int) : Value := .int .i64 k
theorem Crash_ok {B : Bs} {w : World} {S : Hp} {F ow : Own} {d : Nat} {D : DM} {keep : Sl} {ks : List Int} (h : St B w S (ow ++ F)) (hd : DiskO d D ow) (hk : RdV S 1 keep (ks.map intV)) (hkr : ∀ k ∈ ks, k ≤ 9223372036854775807) (hn : ∀ p ∈ D.files, dNamed p.1 = true) (hl : D.files.length ≤ 1000000) (htot : total D.files ≤ 4000000000) (hkl : keep.len ≤ 9223372036854775807) :
    CallP Tryz.prog n_disk_Disk_Crash [.pointer (pt d), Sl.v keep] w (ret1 (tI .i64) fun e w' => (e ≠ 0 ∧ (∃ k ∈ ks, k < 0) ∧ St B w' S F) ∨ (e = 0 ∧ (∀ k ∈ ks, 0 ≤ k) ∧ ∃ D' S' ow', Sub S S' ∧ St B w' S' (ow' ++ F) ∧ DiskO d D' ow' ∧ D'.off = false ∧ D'.fused = false ∧ D'.room = D.room ∧ All2 CutN D.files D'.files)) := by
  obtain ⟨rs, mb, es, clock, fz, st, hD, rfl⟩ := hd
  have htr := hD.total
  refine vc_disk_Disk_Crash _ _ _ _ ?_
  unfold F_disk_Disk_Crash
  refine (none_ok h.head.1).mono1 ?_
  rintro r w1 ⟨rfl, rfl⟩
  refine ⟨fun hc => absurd hc (by simp), fun _ => ?_⟩
  have hkl2 : ks.length = keep.len := by have := hk.1; simpa using this
  refine loop_to (fun i (x : Int) w' => x = (i : Int) ∧ w' = w1 ∧ ∀ k ∈ ks.take i, 0 ≤ k) keep.len ?_ ?_ (Nat.zero_le _) ⟨rfl, rfl, by simp⟩
  · rintro J i x w' hi ⟨rfl, rfl, hpos⟩ k
    refine ⟨fun hc => ?_, fun hc => absurd (show (i : Int) < keep.len by omega) hc⟩
    refine v_ixs1 (t := tI .i64) (f := intV) (hk.sh h) (Sub.refl _) (by omega) (by omega) fun hl2 => ?_
    refine ⟨fun hneg => .inl ⟨by decide, ⟨_, List.getElem_mem hl2, hneg⟩, h.dropL⟩, fun hneg => k _ _ ⟨IntWalk.i64_in _ (by omega), rfl, fun q hq => ?_⟩⟩
    rw [List.take_succ_eq_append_getElem (by omega)] at hq
    rcases List.mem_append.1 hq with hq | hq
    · exact hpos q hq
    · simp at hq; subst hq; simp only [Int.toNat_natCast] at hneg; omega
  · rintro J x w' ⟨rfl, rfl, hpos⟩
    rw [List.take_of_length_le (by omega)] at hpos
    refine ⟨fun hc => absurd hc (by omega), fun _ => v_nz (v_ldo h.head.1 (some mb) ?_)⟩
    have hf := hD.files
    have hnm : (rs.map FR.ent).map Prod.fst = rs.map FR.name := names_ent rs
    have hrl : rs.length ≤ 1000000 := by rw [hf] at hl; simpa using hl
    refine sortedKeys_ok h h.tail.head.1 hD.map (fun p hp => ?_) (by simpa using hrl) fun S' r2 w2 hS' h2 hr2 _ hrl2 => ?_
    · obtain ⟨q, hq, rfl⟩ := List.mem_map.1 hp
      have := hn (nf q) (by rw [hf]; exact List.mem_map.2 ⟨q, hq, rfl⟩)
      unfold dNamed at this
      simp only [Bool.and_eq_true, decide_eq_true_eq] at this
      show q.name.size ≤ maxLen
      have : q.name.size ≤ 24 := this.1.2
      unfold maxLen; omega
    rw [hnm] at hr2
    have hns := sortN_perm (rs.map FR.name)
    have hnd : (sortN (rs.map FR.name)).Nodup := hns.nodup_iff.2 (by have := hD.map.keys; rwa [hnm] at this)
    generalize sortN (rs.map FR.name) = ns at hr2 hns hnd
    have hnl : ns.length = r2.len := by have := hr2.1; simpa using this
    have hrl3 : r2.len = rs.length := by simpa using hrl2
    have hk' : RdV S' 1 keep (ks.map intV) := hk.mono hS'
    have hnames : (rs.map FR.name).Nodup := by have := hD.map.keys; rwa [hnm] at this
    refine loop_to (fun i (x : Int) w' => x = (i : Int) ∧ ∃ rs', All2 (CrI (ns.take i)) rs rs' ∧ St B w' S' (dOw d D rs' mb es clock fz st ++ F)) r2.len ?_ ?_ (Nat.zero_le _) ⟨rfl, rs, All2.diag fun a ha => ⟨rfl, rfl, hD.ok a ha, .inr ⟨by simp, rfl⟩⟩, h2⟩
    · rintro J i x w' hi ⟨rfl, rs', ha, h'⟩ k
      refine ⟨fun hc => ?_, fun hc => absurd (show (i : Int) < r2.len by omega) hc⟩
      refine v_ixs1 (t := tS) (f := strV) (hr2.sh h') (Sub.refl _) (by omega) (by omega) fun hl2 => ?_
      have hil : i < ns.length := by omega
      have e0 : ns[(i : Int).toNat] = ns[i] := rfl
      rw [e0]
      have hmem : ns[i] ∈ rs.map FR.name := hns.mem_iff.1 (List.getElem_mem hil)
      obtain ⟨r, hr, hrn⟩ := List.mem_map.1 hmem
      obtain ⟨l1, l2, rfl⟩ := List.append_of_mem hr
      obtain ⟨m1, r', m2, rfl, a1, ⟨hn1, hb1, hok1, hcase⟩, a2⟩ := All2.split ha
      have hnotin : r.name ∉ ns.take i := by
        rw [hrn]
        intro hin
        obtain ⟨j, hj, e⟩ := List.mem_take_iff_getElem.1 hin
        have := (List.getElem_inj (xs := ns) (h₀ := by omega) (h₁ := hil) hnd).1 e
        omega
      have hfm : r'.fm = r.fm := by
        rcases hcase with ⟨q, _⟩ | ⟨_, q⟩
        · exact absurd q hnotin
        · exact q
      have hlk : (Instr.lookup T_map_string_p_disk_file (.map (some mb)) (.string ns[i]) false).run Tryz.prog w' = .ok (.pointer (pt r.blk)) w' := by
        rw [← hrn]; exact lookup_hit hD h'.tail.head.1
      refine v_nz (v_ldo h'.head.1 (some mb) ⟨_, hlk, ?_⟩)
      have h3 : St B w' S' ((r.blk, .cells r'.cells T_disk_file) :: (r'.ow ++ (dCell d D mb fz st :: (mb, .map es clock) :: (m1.flatMap FR.own ++ (m2.flatMap FR.own ++ F))))) := h'.fit (fun a => by rw [← hb1]; simp [dOw, FR.own]; omega)
      have hlen : r'.fm.bytes.length = r'.sl.len := hok1.1.len
      have hsy : r'.fm.synced ≤ r'.fm.bytes.length := hok1.2
      have hcp := hok1.1.cap
      have hbig : r'.fm.bytes.length ≤ 4000000000 := by
        rw [hfm]
        have : r.fm.bytes.length ≤ totR (l1 ++ r :: l2) := by unfold totR; simp; omega
        omega
      refine v_join (fun (n : Int) w'' => w''.heap = w'.heap ∧ St B w'' S' ((r.blk, .cells r'.cells T_disk_file) :: (r'.ow ++ (dCell d D mb fz st :: (mb, .map es clock) :: (m1.flatMap FR.own ++ (m2.flatMap FR.own ++ F))))) ∧ 0 ≤ n ∧ n ≤ (r'.fm.bytes.length : Int) - r'.fm.synced) ?_ ?_
      · rintro n w3 ⟨_, h4, hn0, hn2⟩
        refine v_nz (v_ldo h4.head.1 (r'.fm.synced : Int) (v_nz (v_sto h4 fun w5 h5 => ?_)))
        have hw : IntKind.i64.wrap ((r'.fm.synced : Int) + n) = ((r'.fm.synced + n.toNat : Nat) : Int) := by rw [IntWalk.i64_in _ (by omega)]; omega
        rw [hw] at h5
        have e5 : setA r'.cells (0 + 1) ((tI .i64).cells ((r'.fm.synced + n.toNat : Nat) : Int)) = #[.slice r'.sl.a r'.sl.len r'.sl.cap, .int .i64 ((r'.fm.synced + n.toNat : Nat) : Int)] := rfl
        rw [e5] at h5
        refine v_nz (v_ldo (by exact h5.head.1) r'.sl (v_nz (v_ldo (by exact h5.head.1) ((r'.fm.synced + n.toNat : Nat) : Int) ⟨by omega, by omega, by omega, by omega, v_nz (v_sto h5.dr fun w6 h6 => ?_)⟩)))
        have hcut := hok1.1.cut (j := ((r'.fm.synced + n.toNat : Nat) : Int)) (by omega) (by omega)
        have hcut' : OwnB (slS r'.sl 0 ((r'.fm.synced + n.toNat : Nat) : Int) r'.sl.cap 1) (r'.fm.bytes.take (r'.fm.synced + n.toNat)) r'.ow := by
          unfold OwnB; rw [List.map_take]; rw [Int.toNat_natCast, Nat.mul_one] at hcut; exact hcut
        refine k _ _ ⟨IntWalk.i64_in _ (by omega), m1 ++ ⟨r'.name, ⟨r'.fm.bytes.take (r'.fm.synced + n.toNat), r'.fm.synced + n.toNat⟩, r'.blk, slS r'.sl 0 ((r'.fm.synced + n.toNat : Nat) : Int) r'.sl.cap 1, r'.ow⟩ :: m2, ?_, h6.fit (fun a => ?_)⟩
        · have hoth : ∀ q ∈ l1 ++ l2, q.name ≠ r.name := fun q hq e => by
            rw [List.map_append, List.map_cons] at hnames
            have h1 := (List.perm_middle.nodup_iff.1 hnames)
            have h2 := (List.nodup_cons.1 h1).1
            apply h2
            rw [← List.map_append, ← e]
            exact List.mem_map.2 ⟨q, hq, rfl⟩
          have hst : ∀ a ∈ l1 ++ l2, ∀ b, CrI (ns.take i) a b → CrI (ns.take (i + 1)) a b := fun a ha b hb => by
            obtain ⟨q1, q2, q3, q4⟩ := hb
            have hne : a.name ≠ ns[i] := by rw [← hrn]; exact hoth a ha
            have hiff : a.name ∈ ns.take (i + 1) ↔ a.name ∈ ns.take i := by
              rw [List.take_succ_eq_append_getElem hil, List.mem_append]; simp [hne]
            exact ⟨q1, q2, q3, by rw [hiff]; exact q4⟩
          refine All2.join ⟨hn1, hb1, ⟨hcut', by simp only [List.length_take]; omega⟩, .inl ⟨?_, r'.fm.synced + n.toNat, by rw [← hfm]; omega, by rw [← hfm]; omega, by rw [hfm]⟩⟩ (a2.monoM fun a ha b _ => hst a (List.mem_append_right _ ha) b) (a1.monoM fun a ha b _ => hst a (List.mem_append_left _ ha) b)
          rw [List.take_succ_eq_append_getElem hil, hrn]; exact List.mem_append_right _ (List.mem_singleton.2 rfl)
        · have e6 : setA #[.slice r'.sl.a r'.sl.len r'.sl.cap, .int .i64 ((r'.fm.synced + n.toNat : Nat) : Int)] (0 + 0) (tSl.cells (slS r'.sl 0 ((r'.fm.synced + n.toNat : Nat) : Int) r'.sl.cap 1)) = FR.cells ⟨r'.name, ⟨r'.fm.bytes.take (r'.fm.synced + n.toNat), r'.fm.synced + n.toNat⟩, r'.blk, slS r'.sl 0 ((r'.fm.synced + n.toNat : Nat) : Int) r'.sl.cap 1, r'.ow⟩ := rfl
          rw [e6, ← hb1]
          simp [dOw, FR.own]; omega
      · refine ⟨fun hc2 => ?_, fun hc2 => ⟨rfl, h3, by omega, by omega⟩⟩
        refine v_ixs1 (t := tI .i64) (f := intV) (hk'.sh h3.dr) (Sub.refl _) (by omega) (by omega) fun hl3 => ?_
        refine v_nz (v_ldo (by exact h3.head.1) r'.sl (v_nz (v_ldo (by exact h3.head.1) (r'.fm.synced : Int) ?_)))
        have hp := hpos _ (List.getElem_mem hl3)
        have hw : IntKind.i64.wrap ((r'.sl.len : Int) - (r'.fm.synced : Int)) = (r'.fm.bytes.length : Int) - r'.fm.synced := by rw [IntWalk.i64_in _ (by omega)]; omega
        rw [hw]
        refine ⟨rfl, h3.dr, ?_, ?_⟩
        · split <;> omega
        · split <;> omega
    · rintro J x w' ⟨rfl, rs', ha, h'⟩
      refine ⟨fun hc => absurd hc (by omega), fun _ => ?_⟩
      rw [List.take_of_length_le (by omega)] at ha
      refine v_nz (v_sto h' fun w3 h3 => v_nz (v_sto h3 fun w4 h4 => v_nz (v_sto h4 fun w5 h5 => ?_)))
      have hcut : All2 CutN D.files (rs'.map nf) := by
        rw [hf]
        have : ∀ {xs ys : List FR}, All2 (CrI ns) xs ys → (∀ a ∈ xs, a.name ∈ ns) → All2 CutN (xs.map nf) (ys.map nf) := by
          intro xs
          induction xs with
          | nil => intro ys hb _; cases ys with
            | nil => trivial
            | cons b ys => exact hb.elim
          | cons a xs ih => intro ys hb hin; cases ys with
            | nil => exact hb.elim
            | cons b ys =>
              refine ⟨⟨hb.1.1, ?_⟩, ih hb.2 fun x hx => hin x (List.mem_cons_of_mem _ hx)⟩
              rcases hb.1.2.2.2 with ⟨_, q⟩ | ⟨q, _⟩
              · exact q
              · exact absurd (hin a (List.mem_cons_self ..)) q
        exact this ha fun a ha' => hns.mem_iff.2 (List.mem_map.2 ⟨a, ha', rfl⟩)
      refine .inr ⟨rfl, hpos, ⟨rs'.map nf, D.room, false, false⟩, S', dOw d ⟨rs'.map nf, D.room, false, false⟩ rs' mb es clock 0 st, hS', h5, ⟨rs', mb, es, clock, 0, st, ⟨rfl, ?_, ?_, ⟨by omega, by omega⟩, hD.room⟩, rfl⟩, rfl, rfl, rfl, hcut⟩
      · intro q hq
        obtain ⟨a, _, hR⟩ := All2.mem_right ha q hq
        exact hR.2.2.1
      · have : rs'.map FR.ent = rs.map FR.ent := all2_map (fun a b hR => by unfold FR.ent; rw [hR.1, hR.2.1]) ha
        rw [this]; exact hD.map
end Go.Proofs.YtccebpahnnfceaaGreatDoor
