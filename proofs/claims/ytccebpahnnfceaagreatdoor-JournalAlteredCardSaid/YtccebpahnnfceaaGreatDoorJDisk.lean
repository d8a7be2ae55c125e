/- disk: what its functions come to. -/
import Derived.Test.YtccebpahnnfceaaGreatDoorV1
import Derived.Test.YtccebpahnnfceaaGreatDoorV2
import Derived.Test.YtccebpahnnfceaaGreatDoorV4
import Derived.Test.YtccebpahnnfceaaGreatDoorJFrame
import Derived.Test.YtccebpahnnfceaaGreatDoorVcStr
namespace Go.Proofs.YtccebpahnnfceaaGreatDoor
open Go.Vc
set_option linter.unusedVariables false
set_option linter.unusedSimpArgs false
/-- What a disk takes as a name. -/
def dNamed (s : ByteArray) : Bool := decide (1 ≤ s.size ∧ s.size ≤ 24) && allIn 33 126 (strL s)
theorem named_ok (s : ByteArray) {B : Bs} {w : World} {S : Hp} {L : Own} (h : St B w S L) :
    CallP Tryz.prog n_disk_named [.string s] w (ret1 tB fun r w' => St B w' S L ∧ r = dNamed s) := by
  refine vc_disk_named _ _ _ ?_
  unfold F_disk_named
  refine v_join (fun r w' => w' = w ∧ r = !decide (1 ≤ s.size ∧ s.size ≤ 24)) ?_ ?_
  · rintro r w' ⟨rfl, rfl⟩
    refine ⟨fun hj => ⟨h, ?_⟩, fun hj => ?_⟩
    · have : decide (1 ≤ s.size ∧ s.size ≤ 24) = false := by rwa [Bool.not_eq_true'] at hj
      rw [dNamed, this]; rfl
    · have hsz : 1 ≤ s.size ∧ s.size ≤ 24 := by simpa using hj
      refine v_str2b h Tryz.underlying9 Tryz.underlying32 Tryz.underlying5 (by unfold maxLen; omega) fun b cap C fz w2 h2 hr => ?_
      have hlen := hr.len
      refine loop_to (fun i (x : Int) w' => x = (i : Int) ∧ w' = w2 ∧ allIn 33 126 ((strL s).take i) = true) s.size ?_ ?_ (Nat.zero_le _) ⟨rfl, rfl, rfl⟩
      · rintro J i x w' hi ⟨rfl, rfl, hal⟩ k
        refine ⟨fun hc => ?_, fun hc => absurd (show (i : Int) < s.size by omega) hc⟩
        refine RdB.at hr (Sub.refl _) (by omega) (by show (i : Int) < s.size; omega) ?_
        have ht := allIn_take 33 126 (strL s) i (by omega)
        rw [hal, Bool.true_and] at ht
        refine v_join (fun r v => v = w' ∧ r = !decide (33 ≤ ((strL s).getD i 0).toNat ∧ ((strL s).getD i 0).toNat ≤ 126)) ?_ ?_
        · rintro r v ⟨rfl, rfl⟩
          refine ⟨fun hj => ⟨h2.tail, ?_⟩, fun hj => k _ _ ⟨IntWalk.i64_in _ (by omega), rfl, ?_⟩⟩
          · have hf : decide (33 ≤ ((strL s).getD i 0).toNat ∧ ((strL s).getD i 0).toNat ≤ 126) = false := by rwa [Bool.not_eq_true'] at hj
            rw [hf] at ht
            have : allIn 33 126 (strL s) = false := by
              unfold allIn at ht ⊢
              rw [← List.take_append_drop (i + 1) (strL s), List.all_append, ht]; rfl
            rw [dNamed, this, Bool.and_false]
          · rw [ht]
            simpa using hj
        · refine ⟨fun hq => ⟨rfl, ?_⟩, fun hq => ⟨rfl, ?_⟩⟩
          · rw [eq_comm, Bool.not_eq_true', decide_eq_false_iff_not]
            simp only [Int.toNat_natCast] at hq
            omega
          · simp only [Int.toNat_natCast] at hq ⊢
            rw [← decide_not]
            congr 1
            apply propext
            omega
      · rintro J x w' ⟨rfl, rfl, hal⟩
        refine ⟨fun hc => absurd hc (by show ¬ ((s.size : Int) < s.size); omega), fun _ => ⟨h2.tail, ?_⟩⟩
        rw [List.take_of_length_le (by rw [hlen]; exact Nat.le_refl _)] at hal
        simp [dNamed, hal, hsz]
  · refine ⟨fun hq => ⟨rfl, ?_⟩, fun hq => ⟨rfl, ?_⟩⟩
    · rw [eq_comm, Bool.not_eq_true', decide_eq_false_iff_not]; omega
    · rw [← decide_not]
      congr 1
      apply propext
      omega
/-! ### The disk in memory -/
structure FM where
  bytes : List UInt8
  synced : Nat
structure FR where
  name : ByteArray
  fm : FM
  blk : Nat
  sl : Sl
  ow : Own
def FR.cells (r : FR) : Array Value := #[.slice r.sl.a r.sl.len r.sl.cap, .int .i64 r.fm.synced]
def FR.own (r : FR) : Own := (r.blk, .cells r.cells T_disk_file) :: r.ow
def FR.ok (r : FR) : Prop := OwnB r.sl r.fm.bytes r.ow ∧ r.fm.synced ≤ r.fm.bytes.length
def FR.ent (r : FR) : ByteArray × Value := (r.name, .pointer (some ⟨r.blk, 0, none⟩))
abbrev Files := List (ByteArray × FM)
structure DM where
  files : Files
  room : Nat
  fused : Bool
  off : Bool
/-- The disk's struct. -/
def dC (mb : Nat) (room : Nat) (fused : Bool) (fz : Int) (off : Bool) (st : Int) : Array Value := #[.map (some mb), .int .i64 room, .bool fused, .int .i64 fz, .bool off, .int .i64 st]
structure DiskR (d : Nat) (D : DM) (rs : List FR) (mb : Nat) (es : Array MapEntry) (clock : Nat) (fz st : Int) : Prop where
  files : D.files = rs.map fun r => (r.name, r.fm)
  ok : ∀ r ∈ rs, r.ok
  map : MapOk es clock (rs.map FR.ent)
  fuse : 0 ≤ fz ∧ fz ≤ 9223372036854775807
  room : D.room ≤ 1073741824
def dCell (d : Nat) (D : DM) (mb : Nat) (fz st : Int) : Nat × Obj := (d, .cells (dC mb D.room D.fused fz D.off st) T_disk_Disk)
def dOw (d : Nat) (D : DM) (rs : List FR) (mb : Nat) (es : Array MapEntry) (clock : Nat) (fz st : Int) : Own := dCell d D mb fz st :: (mb, .map es clock) :: rs.flatMap FR.own
def DiskO (d : Nat) (D : DM) (ow : Own) : Prop := ∃ rs mb es clock fz st, DiskR d D rs mb es clock fz st ∧ ow = dOw d D rs mb es clock fz st
abbrev pt (d : Nat) : Option Addr := some ⟨d, 0, none⟩
section
variable {B : Bs} {w : World} {S : Hp} {L F : Own} {d mb : Nat} {D : DM} {rs l1 l2 : List FR} {r : FR} {es : Array MapEntry} {clock : Nat} {fz st : Int} {name : ByteArray}
theorem none_ok {mb' : Nat} {room : Nat} {fused off : Bool} {fz st : Int} (hd : hp w d = some (.cells (dC mb' room fused fz off st) T_disk_Disk)) : CallP Tryz.prog n_disk_Disk_none [.pointer (pt d)] w (ret1 tB fun r w' => r = false ∧ w' = w) := by
  refine vc_disk_Disk_none _ _ _ ?_
  unfold F_disk_Disk_none
  refine v_join (fun r w' => r = false ∧ w' = w) (fun x w' hx => hx) ⟨fun hc => absurd hc (by simp), fun _ => v_nz ?_⟩
  exact v_ldo hd (some mb') ⟨rfl, rfl⟩
/-- A list of strings in memory. -/
def strV (s : ByteArray) : Value := .string s
theorem asked_ok {names : Sl} {ns : List ByteArray} (h : St B w S L) (hd : dCell d D mb fz st ∈ L) (hn : ∀ w', St B w' S L → RdV (hp w') 1 names (ns.map strV))
    (hoff : D.off = false) (hall : ∀ s ∈ ns, dNamed s = true) (hlen : ns.length ≤ 100) : CallP Tryz.prog n_disk_Disk_asked [.pointer (pt d), Sl.v names] w (ret1 (tI .i64) fun r w' => r = 0 ∧ St B w' S L) := by
  refine vc_disk_Disk_asked _ _ _ _ ?_
  unfold F_disk_Disk_asked
  refine (none_ok (h.mem hd)).mono1 ?_
  rintro r w1 ⟨rfl, rfl⟩
  refine ⟨fun hc => absurd hc (by simp), fun _ => v_nz ?_⟩
  refine v_ldo (h.mem hd) D.off ⟨fun hc => absurd hc (by rw [hoff]; simp), fun _ => ?_⟩
  have hl : ns.length = names.len := by have := (hn _ h).1; simpa using this
  refine loop_to (fun i (x : Int) w' => x = (i : Int) ∧ St B w' S L) names.len ?_ ?_ (Nat.zero_le _) ⟨rfl, h⟩
  · rintro J i x w' hi ⟨rfl, h'⟩ k
    refine ⟨fun hc => ?_, fun hc => absurd (show (i : Int) < names.len by omega) hc⟩
    refine v_ixs1 (t := tS) (hn _ h') (Sub.refl _) (by omega) (by omega) fun hl2 => ?_
    refine (named_ok _ h').mono1 ?_
    rintro r w2 ⟨h2, rfl⟩
    have := hall _ (List.getElem_mem hl2)
    refine ⟨fun hc => absurd hc (by rw [this]; simp), fun _ => k _ _ ⟨IntWalk.i64_in _ (by omega), h2⟩⟩
  · rintro J x w' ⟨rfl, h'⟩
    exact ⟨fun hc => absurd hc (by omega), fun _ => ⟨rfl, h'⟩⟩
/-! ### A step -/
theorem step_ok (g : Value) (hg : g.oneCell' = true) {Q : Int → World → Prop} (h : St B w S (dCell d D mb fz st :: L)) (hf : 0 ≤ fz ∧ fz ≤ 9223372036854775807)
    (hoff : D.fused = true → ∀ w', St B w' S (dCell d { D with off := true } mb fz st :: L) → Q 10 w')
    (hgo : ∀ w' fz' st', 0 ≤ fz' ∧ fz' ≤ 9223372036854775807 → St B w' S (dCell d D mb fz' st' :: L) → CallV Tryz.prog g [] w' (ret0 (Q 0))) :
    CallP Tryz.prog n_disk_Disk_step [.pointer (pt d), g] w (ret1 (tI .i64) Q) := by
  refine vc_disk_Disk_step _ ⟨g, hg⟩ _ _ ?_
  unfold F_disk_Disk_step
  refine v_join (fun r w' => w' = w ∧ (r = true ↔ D.fused = true ∧ fz = 0)) ?_ ?_
  · rintro vj w' ⟨rfl, hvj⟩
    refine ⟨fun hj => v_nz ?_, fun hj => ?_⟩
    · exact v_sto h fun w2 h2 => hoff (hvj.1 hj).1 w2 h2
    · refine v_join (fun _ w'' => ∃ fz', 0 ≤ fz' ∧ fz' ≤ 9223372036854775807 ∧ St B w'' S (dCell d D mb fz' st :: L)) ?_ ?_
      · rintro _ w2 ⟨fz', h1, h2, h3⟩
        refine v_nz (v_ldo h3.head.1 st (v_nz (v_sto h3 fun w4 h4 => ?_)))
        exact hgo w4 fz' (IntKind.i64.wrap (st + 1)) ⟨h1, h2⟩ h4
      · refine v_nz (v_ldo h.head.1 D.fused ⟨fun hfu => ?_, fun hfu => ⟨fz, hf.1, hf.2, h⟩⟩)
        refine v_nz (v_ldo h.head.1 fz (v_nz (v_sto h fun w2 h2 => ?_)))
        have hfz : fz ≠ 0 := fun e => by
          have := hvj.2 ⟨hfu, e⟩
          rw [hj] at this
          cases this
        have hw : IntKind.i64.wrap (fz - 1) = fz - 1 := IntWalk.i64_in _ (by omega)
        rw [hw] at h2
        exact ⟨fz - 1, by omega, by omega, h2⟩
  · refine v_nz (v_ldo h.head.1 D.fused ⟨fun hfu => v_nz (v_ldo h.head.1 fz ⟨rfl, by simp [hfu]⟩), fun hfu => ⟨rfl, by simp [hfu]⟩⟩)
/-! ### Lookups -/
theorem lookup_hit (hD : DiskR d D (l1 ++ r :: l2) mb es clock fz st) (hb : hp w mb = some (.map es clock)) : (Instr.lookup T_map_string_p_disk_file (.map (some mb)) (.string r.name) false).run Tryz.prog w = .ok (.pointer (pt r.blk)) w := by
  have hm := hD.map
  rw [List.map_append, List.map_cons] at hm
  exact run_lookup_hit (K := T_string) (E := T_p_disk_file) (v := .pointer (pt r.blk)) (z := .pointer none) Tryz.underlying55 Tryz.underlying9 (by kernel_rfl) hb hm
theorem names_ent (rs : List FR) : (rs.map FR.ent).map Prod.fst = rs.map FR.name := by rw [List.map_map]; rfl
theorem lookup_miss (hD : DiskR d D rs mb es clock fz st) (hb : hp w mb = some (.map es clock)) (hn : name ∉ rs.map FR.name) : (Instr.lookup T_map_string_p_disk_file (.map (some mb)) (.string name) false).run Tryz.prog w = .ok (.pointer none) w :=
  run_lookup_miss (K := T_string) (E := T_p_disk_file) (z := .pointer none) Tryz.underlying55 Tryz.underlying9 (by kernel_rfl) hb hD.map (by rw [names_ent]; exact hn)
theorem find_ok (h : St B w S (dCell d D mb fz st :: (mb, .map es clock) :: L)) (hD : DiskR d D (l1 ++ r :: l2) mb es clock fz st) (hoff : D.off = false) (hn : dNamed r.name = true) :
    CallP Tryz.prog n_disk_Disk_find [.pointer (pt d), .string r.name] w (ret2 tP (tI .i64) fun p e w' => p = pt r.blk ∧ e = 0 ∧ St B w' S (dCell d D mb fz st :: (mb, .map es clock) :: L)) := by
  refine vc_disk_Disk_find _ _ _ _ ?_
  unfold F_disk_Disk_find
  refine v_al h fun b1 w1 h1 => ?_
  have hnm : ∀ w', St B w' S ((b1, .cells [.string r.name].toArray T_string) :: dCell d D mb fz st :: (mb, .map es clock) :: L) → RdV (hp w') 1 ⟨some ⟨b1, 0, none⟩, 1, 1⟩ ([r.name].map strV) := fun w' h' =>
    (OwnSl.new T_string 1 1 b1 [.string r.name] rfl (by decide)).rd (F := dCell d D mb fz st :: (mb, .map es clock) :: L) h'
  refine (asked_ok (D := D) (mb := mb) (fz := fz) (st := st) h1 (by simp) hnm hoff (by simpa using hn) (by simp)).mono1 ?_
  rintro e w2 ⟨rfl, h2⟩
  refine ⟨fun hc => absurd rfl hc, fun _ => v_nz ?_⟩
  refine v_ldo h2.tail.head.1 (some mb) ⟨_, lookup_hit hD h2.tail.tail.head.1, fun hc => absurd hc (by simp), fun _ => ⟨rfl, rfl, h2.tail⟩⟩
/-! ### What is left -/
def total (fs : Files) : Nat := (fs.map fun p => p.2.bytes.length).sum
def totR (rs : List FR) : Nat := (rs.map fun r => r.fm.bytes.length).sum
theorem DiskR.total (hD : DiskR d D rs mb es clock fz st) : total D.files = totR rs := by
  rw [hD.files]; unfold Proofs.YtccebpahnnfceaaGreatDoor.total totR; rw [List.map_map]; rfl
theorem mem_own {r : FR} {rs : List FR} (h : r ∈ rs) : (r.blk, Obj.cells r.cells T_disk_file) ∈ rs.flatMap FR.own := List.mem_flatMap.2 ⟨r, h, List.mem_cons_self ..⟩
theorem left_ok (h : St B w S (dOw d D rs mb es clock fz st ++ F)) (hD : DiskR d D rs mb es clock fz st) (ht : totR rs ≤ 4000000000) :
    CallP Tryz.prog n_disk_Disk_left [.pointer (pt d)] w (ret1 (tI .i64) fun r w' => r = (D.room : Int) - totR rs ∧ St B w' S (dOw d D rs mb es clock fz st ++ F)) := by
  have hroom := hD.room
  refine vc_disk_Disk_left _ _ _ ?_
  unfold F_disk_Disk_left
  refine v_nz (v_ldo h.head.1 (D.room : Int) (v_nz (v_ldo h.head.1 (some mb) ?_)))
  refine v_range (E := T_p_disk_file) (K := T_string) Tryz.underlying55 h h.tail.head.1 fun it w1 h1 => ?_
  refine loop_by (fun (x : Int) w' => ∃ seen rr, St B w' S ((it, .mapIter (some mb) clock seen clock) :: (dOw d D rs mb es clock fz st ++ F)) ∧ IterSt es seen (rr.map FR.ent) ∧ (∀ r ∈ rr, r ∈ rs) ∧ x = (D.room : Int) - totR rs + totR rr ∧ totR rr ≤ totR rs) (fun _ w' => (match hp w' it with | some (.mapIter _ _ seen _) => (leftOf es seen).size | _ => 0)) ?_ ⟨#[], rs, h1, IterSt.start hD.map, fun _ q => q, by omega, Nat.le_refl _⟩
  rintro J x w' ⟨seen, rr, h', hi, hrr, hx, hle⟩ k
  refine v_next h' h'.tail.tail.head.1 hD.map hi (fun hz => ?_) (fun s t key v w2 seen' hrest hi2 h2 hb2 => ?_)
  · have : rr = [] := List.map_eq_nil_iff.1 hz
    subst this
    exact ⟨by rw [hx]; simp [totR], h'.tail⟩
  · obtain ⟨s', t2, hs1, hs2, hs3⟩ := List.map_eq_append_iff.1 hrest
    obtain ⟨r, t', ht1, ht2, ht3⟩ := List.map_eq_cons_iff.1 hs3
    subst ht1
    simp only [FR.ent, Prod.mk.injEq] at ht2
    have hr : r ∈ rs := hrr r (by rw [hs1]; simp)
    refine ⟨pt r.blk, ht2.2.symm, v_nz ?_⟩
    have hown : (r.blk, Obj.cells r.cells T_disk_file) ∈ (dOw d D rs mb es clock fz st ++ F) := List.mem_append_left _ (List.mem_cons_of_mem _ (List.mem_cons_of_mem _ (mem_own hr)))
    refine v_ldo (h2.tail.mem hown) r.sl ?_
    have hlen : r.fm.bytes.length = r.sl.len := (hD.ok r hr).1.len
    have htr : totR rr = totR (s' ++ t') + r.sl.len := by rw [hs1, ← hlen]; unfold totR; simp; omega
    have hw : IntKind.i64.wrap (x - (r.sl.len : Int)) = (D.room : Int) - totR rs + totR (s' ++ t') := by
      rw [IntWalk.i64_in _ (by omega)]; omega
    refine k _ _ ⟨seen', s' ++ t', h2, by rw [List.map_append, hs2, ht3]; exact hi2, fun q hq => hrr q (by rw [hs1]; simp at hq ⊢; rcases hq with hq | hq; exact .inl hq; exact .inr (.inr hq)), hw, by omega⟩ ?_
    have e1 := h'.head.1
    have e2 := h2.head.1
    simp only [e1, e2]
    have l1 := hi.length_eq
    have l2 := hi2.length_eq
    simp only [List.length_map] at l1 l2
    have l3 : rr.length = (s ++ t).length + 1 := by rw [hs1, ← hs2, ← ht3]; simp; omega
    have q1 : (leftOf es seen).size = (leftOf es seen).toList.length := by simp
    have q2 : (leftOf es seen').size = (leftOf es seen').toList.length := by simp
    omega
/-! ### Make -/
/-- How a call that takes a step ends. -/
def Went (D D' : DM) (e : Int) : Prop := D'.room = D.room ∧ D'.fused = D.fused ∧ ((e = 0 ∧ D'.off = false) ∨ (e = 10 ∧ D'.off = true ∧ D.fused = true))
theorem DiskR.turnedOff (hD : DiskR d D rs mb es clock fz st) : DiskR d { D with off := true } rs mb es clock fz st := ⟨hD.files, hD.ok, hD.map, hD.fuse, hD.room⟩
theorem DiskR.retime (hD : DiskR d D rs mb es clock fz st) {fz' st' : Int} (h : 0 ≤ fz' ∧ fz' ≤ 9223372036854775807) : DiskR d D rs mb es clock fz' st' := ⟨hD.files, hD.ok, hD.map, h, hD.room⟩
theorem Make_ok {ow : Own} (h : St B w S (ow ++ F)) (hd : DiskO d D ow) (hoff : D.off = false) (hn : dNamed name = true) (hnew : name ∉ D.files.map Prod.fst) :
    CallP Tryz.prog n_disk_Disk_Make [.pointer (pt d), .string name] w (ret1 (tI .i64) fun e w' => ∃ D' ow', St B w' S (ow' ++ F) ∧ DiskO d D' ow' ∧ Went D D' e ∧ D'.files = if e = 0 then D.files ++ [(name, ⟨[], 0⟩)] else D.files) := by
  obtain ⟨rs, mb, es, clock, fz, st, hD, rfl⟩ := hd
  have hnm : name ∉ rs.map FR.name := by
    rw [hD.files, List.map_map] at hnew
    exact hnew
  refine vc_disk_Disk_Make _ _ _ _ ?_
  unfold F_disk_Disk_Make
  refine v_al h fun b w1 h1 => v_al h1 fun b1 w2 h2 => ?_
  refine v_ldo h2.tail.head.1 (pt d) (v_ldo h2.head.1 name (v_al h2 fun b2 w3 h3 => ?_))
  refine (asked_ok (D := D) (mb := mb) (fz := fz) (st := st) (ns := [name]) h3 (by simp [dOw]) (fun w' h' => (OwnSl.new T_string 1 1 b2 [.string name] rfl (by decide)).rd (F := _ :: _ :: (dOw d D rs mb es clock fz st ++ F)) h') hoff (by simpa using hn) (by simp)).mono1 ?_
  rintro e w4 ⟨rfl, h4⟩
  refine ⟨fun hc => absurd rfl hc, fun _ => ?_⟩
  refine v_ldo (by exact h4.tail.tail.head.1) (pt d) (v_nz (v_ldo (by exact h4.tail.tail.tail.head.1) (some mb) (v_ldo (by exact h4.tail.head.1) name ⟨_, lookup_miss hD (by exact h4.tail.tail.tail.tail.head.1) hnm, fun hc => absurd hc (by simp), fun _ => ?_⟩)))
  refine v_ldo (by exact h4.tail.tail.head.1) (pt d) ?_
  have h5 : St B (dr w4) S (dCell d D mb fz st :: (mb, .map es clock) :: (b, .cells [.pointer (pt d)].toArray T_p_disk_Disk) :: (b1, .cells [.string name].toArray T_string) :: (rs.flatMap FR.own ++ F)) := h4.dr.fit (fun a => by simp [dOw]; omega)
  refine step_ok _ rfl h5 hD.fuse (fun hfu w' h' => ?_) (fun w' fz' st' hf' h' => ?_)
  · exact ⟨{ D with off := true }, dOw d { D with off := true } rs mb es clock fz st, h'.fit (fun a => by simp [dOw]; omega), ⟨rs, mb, es, clock, fz, st, hD.turnedOff, rfl⟩, ⟨rfl, rfl, .inr ⟨rfl, rfl, hfu⟩⟩, rfl⟩
  · refine ⟨n_disk_Disk_Make_c1, [], [.pointer (pt b), .pointer (pt b1)], Tryz.f68, rfl, Tryz.func68, by kernel_rfl, by kernel_rfl, ?_⟩
    show CallP Tryz.prog n_disk_Disk_Make_c1 [.pointer (pt b), .pointer (pt b1)] w' _
    refine vc_disk_Disk_Make_c1 _ _ _ _ ?_
    unfold F_disk_Disk_Make_c1
    refine v_nz (v_ldo (by exact h'.tail.tail.head.1) (pt d) (v_nz (v_ldo (by exact h'.head.1) (some mb) (v_nz (v_ldo (by exact h'.tail.tail.tail.head.1) name ?_)))))
    refine v_al h'.dr fun b3 w6 h6 => ⟨⟨v_at h6.tail.tail.tail.tail.head.1, v_at h6.tail.head.1, v_at h6.tail.tail.tail.head.1⟩, ?_⟩
    have h7 : St B w6 S ((mb, .map es clock) :: dCell d D mb fz' st' :: (b3, .cells [.slice none 0 0, .int .i64 0].toArray T_disk_file) :: (rs.flatMap FR.own ++ F)) := h6.fit (fun a => by simp; omega)
    refine v_mapset_miss (K := T_string) (E := T_p_disk_file) Tryz.underlying55 Tryz.underlying9 h7 hD.map (by rw [names_ent]; exact hnm) fun w8 es' h8 hm8 => ?_
    refine ⟨{ D with files := D.files ++ [(name, ⟨[], 0⟩)] }, dOw d { D with files := D.files ++ [(name, ⟨[], 0⟩)] } (rs ++ [⟨name, ⟨[], 0⟩, b3, ⟨none, 0, 0⟩, []⟩]) mb es' (clock + 1) fz' st', h8.fit (fun a => ?_), ⟨_, mb, es', clock + 1, fz', st', ⟨?_, ?_, ?_, hf', hD.room⟩, rfl⟩, ⟨rfl, rfl, .inl ⟨rfl, hoff⟩⟩, rfl⟩
    · simp [dOw, FR.own, FR.cells, dCell]; omega
    · rw [hD.files]; simp
    · intro r hr
      rcases List.mem_append.1 hr with hr | hr
      · exact hD.ok r hr
      · simp at hr; subst hr
        exact ⟨OwnSl.nil _ _, Nat.le_refl _⟩
    · rw [List.map_append]; exact hm8
/-! ### A file is changed -/
def nf (r : FR) : ByteArray × FM := (r.name, r.fm)
theorem DiskR.split (hD : DiskR d D rs mb es clock fz st) {f1 f2 : Files} {fm : FM} (hf : D.files = f1 ++ (name, fm) :: f2) : ∃ l1 r l2, rs = l1 ++ r :: l2 ∧ f1 = l1.map nf ∧ f2 = l2.map nf ∧ r.name = name ∧ r.fm = fm := by
  have h := hD.files
  rw [hf] at h
  obtain ⟨l1, l3, h1, h2, h3⟩ := List.map_eq_append_iff.1 h.symm
  obtain ⟨r, l2, h4, h5, h6⟩ := List.map_eq_cons_iff.1 h3
  simp only [Prod.mk.injEq] at h5
  exact ⟨l1, r, l2, by rw [h1, h4], h2.symm, h6.symm, h5.1, h5.2⟩
theorem DiskR.put (hD : DiskR d D (l1 ++ r :: l2) mb es clock fz st) (r' : FR) (hn : r'.name = r.name) (hb : r'.blk = r.blk) (hok : r'.ok) {fz' st' : Int} (hf : 0 ≤ fz' ∧ fz' ≤ 9223372036854775807) : DiskR d { D with files := l1.map nf ++ (r.name, r'.fm) :: l2.map nf } (l1 ++ r' :: l2) mb es clock fz' st' := by
  refine ⟨?_, ?_, ?_, hf, hD.room⟩
  · rw [List.map_append, List.map_cons, hn]; rfl
  · intro q hq
    rcases List.mem_append.1 hq with h | h
    · exact hD.ok q (List.mem_append_left _ h)
    · rcases List.mem_cons.1 h with rfl | h
      · exact hok
      · exact hD.ok q (List.mem_append_right _ (List.mem_cons_of_mem _ h))
  · have := hD.map
    rw [List.map_append, List.map_cons] at this ⊢
    have e : r'.ent = r.ent := by unfold FR.ent; rw [hn, hb]
    rw [e]
    exact this
/-! ### Sync -/
theorem Sync_ok {ow : Own} {f1 f2 : Files} {fm : FM} (h : St B w S (ow ++ F)) (hd : DiskO d D ow) (hoff : D.off = false) (hn : dNamed name = true) (hf : D.files = f1 ++ (name, fm) :: f2) :
    CallP Tryz.prog n_disk_Disk_Sync [.pointer (pt d), .string name] w (ret1 (tI .i64) fun e w' => ∃ D' ow', St B w' S (ow' ++ F) ∧ DiskO d D' ow' ∧ Went D D' e ∧ D'.files = if e = 0 then f1 ++ (name, ⟨fm.bytes, fm.bytes.length⟩) :: f2 else D.files) := by
  obtain ⟨rs, mb, es, clock, fz, st, hD, rfl⟩ := hd
  obtain ⟨l1, r, l2, rfl, rfl, rfl, rfl, rfl⟩ := hD.split hf
  refine vc_disk_Disk_Sync _ _ _ _ ?_
  unfold F_disk_Disk_Sync
  refine (find_ok h hD hoff hn).mono2 ?_
  rintro p e w1 ⟨rfl, rfl, h1⟩
  refine v_al h1 fun b w2 h2 => v_sto h2 fun w3 h3 => ⟨fun hc => absurd rfl hc, fun _ => ?_⟩
  have h4 : St B w3 S (dCell d D mb fz st :: (mb, .map es clock) :: (b, .cells [.pointer (pt r.blk)].toArray T_p_disk_file) :: (r.blk, .cells r.cells T_disk_file) :: (r.ow ++ (l1.flatMap FR.own ++ (l2.flatMap FR.own ++ F)))) := h3.fit (fun a => by
    have : setA [.pointer none].toArray 0 (tP.cells (pt r.blk)) = [.pointer (pt r.blk)].toArray := rfl
    rw [this]
    simp [FR.own]; omega)
  refine step_ok _ rfl h4 hD.fuse (fun hfu w' h' => ?_) (fun w' fz' st' hf' h' => ?_)
  · exact ⟨{ D with off := true }, dOw d { D with off := true } (l1 ++ r :: l2) mb es clock fz st, h'.fit (fun a => by simp [dOw, FR.own]; omega), ⟨_, mb, es, clock, fz, st, hD.turnedOff, rfl⟩, ⟨rfl, rfl, .inr ⟨rfl, rfl, hfu⟩⟩, rfl⟩
  · refine ⟨n_disk_Disk_Sync_c1, [], [.pointer (pt b)], Tryz.f43, rfl, Tryz.func43, by kernel_rfl, by kernel_rfl, ?_⟩
    show CallP Tryz.prog n_disk_Disk_Sync_c1 [.pointer (pt b)] w' _
    refine vc_disk_Disk_Sync_c1 _ _ _ ?_
    unfold F_disk_Disk_Sync_c1
    have hlen : r.fm.bytes.length = r.sl.len := (hD.ok r (by simp)).1.len
    refine v_nz (v_ldo (by exact h'.tail.tail.head.1) (pt r.blk) (v_nz (v_ldo (by exact h'.tail.tail.head.1) (pt r.blk) (v_nz (v_ldo (by exact h'.tail.tail.tail.head.1) r.sl (v_nz ?_))))))
    have h5 : St B (dr w') S ((r.blk, .cells r.cells T_disk_file) :: dCell d D mb fz' st' :: (mb, .map es clock) :: (r.ow ++ (l1.flatMap FR.own ++ (l2.flatMap FR.own ++ F)))) := h'.dr.fit (fun a => by simp; omega)
    refine v_sto h5 fun w6 h6 => ?_
    refine ⟨_, dOw d { D with files := l1.map nf ++ (r.name, ⟨r.fm.bytes, r.fm.bytes.length⟩) :: l2.map nf } (l1 ++ { r with fm := ⟨r.fm.bytes, r.fm.bytes.length⟩ } :: l2) mb es clock fz' st', h6.fit (fun a => ?_), ⟨_, mb, es, clock, fz', st', hD.put { r with fm := ⟨r.fm.bytes, r.fm.bytes.length⟩ } rfl rfl ⟨(hD.ok r (by simp)).1, Nat.le_refl _⟩ hf', rfl⟩, ⟨rfl, rfl, .inl ⟨rfl, hoff⟩⟩, rfl⟩
    have e : setA r.cells (0 + 1) ((tI .i64).cells (r.sl.len : Int)) = FR.cells { r with fm := ⟨r.fm.bytes, r.fm.bytes.length⟩ } := by
      unfold FR.cells; rw [hlen]; rfl
    rw [e]
    simp [dOw, FR.own, dCell]; omega
/-! ### Append -/
/-- The length of the slice in a box. -/
def lenAt (w : World) (b : Nat) : Nat :=
  match hp w b with
  | some (.cells c _ _) => (match c[0]? with | some (Value.slice _ n _) => n | _ => 0)
  | _ => 0
theorem lenAt_eq {w : World} {b : Nat} {c : Array Value} {e : TypeId} {fz : Nat × Nat} (h : hp w b = some (.cells c e fz)) {a : Option Addr} {n m : Nat} (hc : c[0]? = some (.slice a n m) := by rfl) : lenAt w b = n := by
  unfold lenAt
  simp only [h, hc]
theorem DAppend_ok {ow : Own} {f1 f2 : Files} {fm : FM} {b : Sl} {data : List UInt8} (h : St B w S (ow ++ F)) (hd : DiskO d D ow) (hoff : D.off = false) (hn : dNamed name = true) (hf : D.files = f1 ++ (name, fm) :: f2)
    (hb : RdB S b data) (hcap : b.cap ≤ maxLen) (hroom : total D.files + data.length ≤ D.room) :
    CallP Tryz.prog n_disk_Disk_Append [.pointer (pt d), .string name, Sl.v b] w (ret1 (tI .i64) fun e w' => ∃ D' ow' k, St B w' S (ow' ++ F) ∧ DiskO d D' ow' ∧ Went D D' e ∧ k ≤ data.length ∧ (e = 0 → k = data.length) ∧ D'.files = f1 ++ (name, ⟨fm.bytes ++ data.take k, fm.synced⟩) :: f2) := by
  obtain ⟨rs, mb, es, clock, fz, st, hD, rfl⟩ := hd
  obtain ⟨l1, r, l2, rfl, rfl, rfl, rfl, rfl⟩ := hD.split hf
  have htot := hD.total
  have hrm := hD.room
  have hdl := hb.len
  have hm : maxLen = 9223372036854775807 := rfl
  rw [htot] at hroom
  refine vc_disk_Disk_Append _ _ _ _ _ ?_
  unfold F_disk_Disk_Append
  refine v_al h fun b1 w1 h1 => ?_
  have h1' : St B w1 S (dCell d D mb fz st :: (mb, .map es clock) :: ((l1 ++ r :: l2).flatMap FR.own ++ ((b1, .cells [.slice b.a b.len b.cap].toArray T_sl_uint8) :: F))) := h1.fit (fun a => by simp [dOw]; omega)
  refine (find_ok h1' hD hoff hn).mono2 ?_
  rintro p e w2 ⟨rfl, rfl, h2⟩
  refine v_al h2 fun b2 w3 h3 => v_sto h3 fun w4 h4 => ⟨fun hc => absurd rfl hc, fun _ => ?_⟩
  have h5 : St B w4 S (dOw d D (l1 ++ r :: l2) mb es clock fz st ++ ((b1, .cells [.slice b.a b.len b.cap].toArray T_sl_uint8) :: (b2, .cells [.pointer (pt r.blk)].toArray T_p_disk_file) :: F)) := h4.fit (fun a => by
    have : setA [.pointer none].toArray 0 (tP.cells (pt r.blk)) = [.pointer (pt r.blk)].toArray := rfl
    rw [this]
    simp [dOw]; omega)
  have hb1 : ∀ {w' : World} {X : Own}, St B w' S (X ++ ((b1, .cells [.slice b.a b.len b.cap].toArray T_sl_uint8) :: (b2, .cells [.pointer (pt r.blk)].toArray T_p_disk_file) :: F)) → hp w' b1 = some (.cells [.slice b.a b.len b.cap].toArray T_sl_uint8) := fun h' => h'.dropL.head.1
  refine v_ldo (hb1 h5.dr) b ?_
  refine (left_ok h5.dr hD (by omega)).mono1 ?_
  rintro lf w6 ⟨rfl, h6⟩
  refine ⟨v_at (hb1 h6), fun hc => absurd hc (by omega), fun _ => ?_⟩
  refine loop_by (fun (_ : Unit) w' => ∃ k sb r' fz' st', St B w' S (dCell d D mb fz' st' :: (mb, .map es clock) :: (r'.own ++ (l1.flatMap FR.own ++ (l2.flatMap FR.own ++ ((b1, .cells [.slice sb.a sb.len sb.cap].toArray T_sl_uint8) :: (b2, .cells [.pointer (pt r.blk)].toArray T_p_disk_file) :: F))))) ∧
    RdB S sb (data.drop k) ∧ sb.cap ≤ maxLen ∧ k ≤ data.length ∧ r'.name = r.name ∧ r'.blk = r.blk ∧ r'.ok ∧ r'.fm = ⟨r.fm.bytes ++ data.take k, r.fm.synced⟩ ∧ 0 ≤ fz' ∧ fz' ≤ 9223372036854775807)
    (fun _ w' => lenAt w' b1) ?_ ⟨0, b, r, fz, st, h6.fit (fun a => by simp [dOw]; omega), hb, hcap, Nat.zero_le _, rfl, rfl, hD.ok r (by simp), by simp, hD.fuse.1, hD.fuse.2⟩
  rintro J x w' ⟨k, sb, r', fz', st', h', hsb, hsc, hk, hrn, hrb, hrok, hrf, hfz1, hfz2⟩ kk
  have e1 : ∀ {w' : World} {X : Own} {y : Nat × Obj} {o : Obj}, St B w' S (X ++ ((b1, o) :: y :: F)) → hp w' b1 = some o := fun h' => h'.dropL.head.1
  have hsl := hsb.len
  simp only [List.length_drop] at hsl
  have g1 : hp w' b1 = some (.cells [.slice sb.a sb.len sb.cap].toArray T_sl_uint8) := h'.mem (by simp)
  refine v_ldo g1 sb ⟨fun hc => ?_, fun hc => ?_⟩
  · refine v_ldo g1 sb (v_al h' fun b3 w7 h7 => v_sto h7 fun w8 h8 => ?_)
    obtain ⟨n, hn0, hn1⟩ : ∃ n : Nat, (if (64 : Int) < (sb.len : Int) then (64 : Int) else (sb.len : Int)) = n ∧ 0 < n ∧ n ≤ sb.len := by
      split
      · exact ⟨64, rfl, by omega, by omega⟩
      · exact ⟨sb.len, rfl, by omega, Nat.le_refl _⟩
    rw [hn0] at h8
    have h9 : St B w8 S (dCell d D mb fz' st' :: (b3, .cells [.int .i64 (n : Int)].toArray T_int) :: (b1, .cells [.slice sb.a sb.len sb.cap].toArray T_sl_uint8) :: (b2, .cells [.pointer (pt r.blk)].toArray T_p_disk_file) :: (r'.blk, .cells r'.cells T_disk_file) :: (r'.ow ++ ((mb, .map es clock) :: (l1.flatMap FR.own ++ (l2.flatMap FR.own ++ F))))) := h8.fit (fun a => by
      have : setA [.int .i64 0].toArray 0 ((tI .i64).cells (n : Int)) = [.int .i64 (n : Int)].toArray := rfl
      rw [this]
      simp [FR.own]; omega)
    refine step_ok _ rfl h9 ⟨hfz1, hfz2⟩ (fun hfu w9 h10 => ?_) (fun w9 fz2 st2 hf2 h10 => ?_)
    · refine ⟨fun _ => ?_, fun hc => absurd (by decide) hc⟩
      have hD2 := hD.put r' hrn hrb hrok ⟨hfz1, hfz2⟩ (st' := st')
      refine ⟨{ D with files := l1.map nf ++ (r.name, r'.fm) :: l2.map nf, off := true }, dOw d { D with files := l1.map nf ++ (r.name, r'.fm) :: l2.map nf, off := true } (l1 ++ r' :: l2) mb es clock fz' st', k, h10.fit (fun a => by simp [dOw, FR.own, dCell]; omega), ⟨_, mb, es, clock, fz', st', hD2.turnedOff, rfl⟩, ⟨rfl, rfl, .inr ⟨rfl, rfl, hfu⟩⟩, hk, fun q => absurd q (by decide), by rw [hrf]⟩
    · refine ⟨n_disk_Disk_Append_c1, [], [.pointer (pt b2), .pointer (pt b1), .pointer (pt b3)], Tryz.f55, rfl, Tryz.func55, by kernel_rfl, by kernel_rfl, ?_⟩
      show CallP Tryz.prog n_disk_Disk_Append_c1 [.pointer (pt b2), .pointer (pt b1), .pointer (pt b3)] w9 _
      refine vc_disk_Disk_Append_c1 _ _ _ _ _ ?_
      unfold F_disk_Disk_Append_c1
      have hcs : sb.len ≤ sb.cap := hsb.2.1
      refine v_nz (v_ldo (by exact h10.tail.tail.tail.head.1) (pt r.blk) (v_nz (v_ldo (by exact h10.tail.tail.tail.head.1) (pt r.blk) (v_nz ?_))))
      rw [← hrb]
      refine v_ldo (by exact h10.tail.tail.tail.tail.head.1) r'.sl (v_nz (v_ldo (by exact h10.tail.tail.head.1) sb (v_nz (v_ldo (by exact h10.tail.head.1) (n : Int) ⟨by omega, by omega, by omega, by omega, ?_⟩))))
      have h11 : St B (dr w9) S (r'.ow ++ ((r'.blk, .cells r'.cells T_disk_file) :: dCell d D mb fz2 st2 :: (b3, .cells [.int .i64 (n : Int)].toArray T_int) :: (b1, .cells [.slice sb.a sb.len sb.cap].toArray T_sl_uint8) :: (b2, .cells [.pointer (pt r.blk)].toArray T_p_disk_file) :: ((mb, .map es clock) :: (l1.flatMap FR.own ++ (l2.flatMap FR.own ++ F))))) := h10.dr.fit (fun a => by simp; omega)
      have hxr : RdB (hp (dr w9)) (slS sb 0 (n : Int) sb.cap 1) ((data.drop k).take n) := by
        have := RdB.slice (i := 0) (j := (n : Int)) (m := sb.cap) (hsb.sh h11) (by omega) (by omega) (by omega) (by omega) (by omega)
        simpa using this
      have hrl : r'.fm.bytes.length = r'.sl.len := hrok.1.len
      have hxl : (slS sb 0 (n : Int) sb.cap 1).len = n := by simp [slS]
      have hbl : r.fm.bytes.length ≤ totR (l1 ++ r :: l2) := by unfold totR; simp; omega
      have hrl2 : r'.fm.bytes.length = r.fm.bytes.length + k := by rw [hrf]; simp; omega
      refine v_app ety_u8 h11 hrok.1 hxr (bV_one _) (by rw [hxl]; omega) (by rw [hxl, hm]; omega) fun s6 w12 ow6 h12 ho6 hl6 _ => ?_
      refine ⟨v_at h12.dropL.tail.tail.tail.tail.head.1 (by rw [hrb]; rfl), v_nz ?_⟩
      have h13 := h12.fr1
      refine v_sto h13 fun w14 h14 => ⟨fun q => absurd rfl q, fun _ => ?_⟩
      refine v_ldo h14.tail.dropL.tail.tail.head.1 sb (v_ldo h14.tail.dropL.tail.head.1 (n : Int) ⟨by omega, by omega, by omega, by omega, ?_⟩)
      have h15 : St B w14 S ((b1, .cells [.slice sb.a sb.len sb.cap].toArray T_sl_uint8) :: (r'.blk, .cells (setA r'.cells (0 + 0) (tSl.cells s6)) T_disk_file) :: (ow6 ++ (dCell d D mb fz2 st2 :: (b2, .cells [.pointer (pt r.blk)].toArray T_p_disk_file) :: ((mb, .map es clock) :: (l1.flatMap FR.own ++ (l2.flatMap FR.own ++ F)))))) := h14.fit (fun a => by simp; omega)
      refine v_sto h15 fun w16 h16 => ?_
      have ho6' : OwnB s6 (r'.fm.bytes ++ (data.drop k).take n) ow6 := by unfold OwnB; rw [List.map_append]; exact ho6
      have htk : data.take (k + n) = data.take k ++ (data.drop k).take n := by rw [List.take_add]
      refine kk _ _ ⟨k + n, slS sb n sb.len sb.cap 1, ⟨r'.name, ⟨r.fm.bytes ++ data.take (k + n), r.fm.synced⟩, r'.blk, s6, ow6⟩, fz2, st2, h16.fit (fun a => ?_), ?_, ?_, by omega, hrn, hrb, ⟨?_, ?_⟩, rfl, hf2.1, hf2.2⟩ ?_
      · have e : setA r'.cells (0 + 0) (tSl.cells s6) = FR.cells ⟨r'.name, ⟨r.fm.bytes ++ data.take (k + n), r.fm.synced⟩, r'.blk, s6, ow6⟩ := by
          unfold FR.cells
          rw [hrf]; rfl
        rw [e]
        have e2 : setA [.slice sb.a sb.len sb.cap].toArray 0 (tSl.cells (slS sb n sb.len sb.cap 1)) = [.slice (slS sb n sb.len sb.cap 1).a (slS sb n sb.len sb.cap 1).len (slS sb n sb.len sb.cap 1).cap].toArray := rfl
        rw [e2]
        simp [FR.own]; omega
      · have := RdB.slice (i := (n : Int)) (j := sb.len) (m := sb.cap) hsb (by omega) (by omega) (by omega) (by omega) (by omega)
        rw [show (n : Int).toNat = n by omega, List.drop_drop, List.take_of_length_le (by simp; omega)] at this
        exact this
      · simp only [slS]; omega
      · rw [htk, ← List.append_assoc]
        have : r'.fm.bytes = r.fm.bytes ++ data.take k := by rw [hrf]
        rw [← this]
        exact ho6'
      · have := (hD.ok r (by simp)).2
        simp only [List.length_append]; omega
      · have g2 := h16.head.1
        rw [lenAt_eq g1, lenAt_eq g2]
        show (slS sb n sb.len sb.cap 1).len < sb.len
        simp only [slS]; omega
  · have hkl : k = data.length := by omega
    have hD2 := hD.put r' hrn hrb hrok ⟨hfz1, hfz2⟩ (st' := st')
    exact ⟨{ D with files := l1.map nf ++ (r.name, r'.fm) :: l2.map nf }, dOw d { D with files := l1.map nf ++ (r.name, r'.fm) :: l2.map nf } (l1 ++ r' :: l2) mb es clock fz' st', k, h'.fit (fun a => by simp [dOw, FR.own, dCell]; omega), ⟨_, mb, es, clock, fz', st', hD2, rfl⟩, ⟨rfl, rfl, .inl ⟨rfl, hoff⟩⟩, hk, fun _ => hkl, by rw [hrf]⟩
/-! ### Clone, Read -/
theorem Clone_ok {b : Sl} {l : List UInt8} (h : St B w S F) (hb : ∀ w', St B w' S F → RdB (hp w') b l) (hl : l.length ≤ 100000000000) :
    CallP Tryz.prog n_bytes_Clone [Sl.v b] w (ret1 tSl fun r w' => ∃ S', Sub S S' ∧ St B w' S' F ∧ RdB S' r l ∧ r.cap ≤ maxLen) := by
  refine vc_bytes_Clone _ _ _ ?_
  unfold F_bytes_Clone
  have hlen := (hb _ h).len
  have hm : maxLen = 9223372036854775807 := rfl
  refine ⟨fun hn => ⟨S, Sub.refl S, h, ?_, Nat.zero_le _⟩, fun hn => ?_⟩
  · have h0 : b.len = 0 := by
      rcases Nat.eq_zero_or_pos b.len with q | q
      · exact q
      · obtain ⟨_, _, ha, _⟩ := (hb _ h).2.2 q
        rw [ha] at hn; cases hn
    rw [h0] at hlen
    rw [List.eq_nil_of_length_eq_zero hlen]
    exact RdV.nil S 1
  · refine v_al h fun b1 w1 h1 => ?_
    refine v_app (ow := [(b1, .cells [].toArray T_uint8)]) (F := F) (s := ⟨some ⟨b1, 0, none⟩, 0, 0⟩) (xs := []) ety_u8 h1 (OwnSl.new T_uint8 1 0 b1 [] rfl (Nat.zero_le _)) (hb _ h1.tail) (bV_one _) (by show (0 + b.len) * 1 ≤ _; omega) (by show 0 + b.len ≤ maxLen; omega) fun s2 w2 ow2 h2 ho2 hl2 _ => ?_
    obtain ⟨S', hS, h3, hr⟩ := OwnB.share (l := l) ho2 h2
    exact ⟨S', hS, h3, hr, ho2.cap.1⟩
theorem DRead_ok {ow : Own} {f1 f2 : Files} {fm : FM} (h : St B w S (ow ++ F)) (hd : DiskO d D ow) (hoff : D.off = false) (hn : dNamed name = true) (hf : D.files = f1 ++ (name, fm) :: f2) (hlen : fm.bytes.length ≤ 100000000000) :
    CallP Tryz.prog n_disk_Disk_Read [.pointer (pt d), .string name] w (ret2 tSl (tI .i64) fun r e w' => e = 0 ∧ ∃ S', Sub S S' ∧ St B w' S' (ow ++ F) ∧ RdB S' r fm.bytes ∧ r.cap ≤ maxLen) := by
  obtain ⟨rs, mb, es, clock, fz, st, hD, rfl⟩ := hd
  obtain ⟨l1, r, l2, rfl, rfl, rfl, rfl, rfl⟩ := hD.split hf
  refine vc_disk_Disk_Read _ _ _ _ ?_
  unfold F_disk_Disk_Read
  refine (find_ok h hD hoff hn).mono2 ?_
  rintro p e w1 ⟨rfl, rfl, h1⟩
  have hin : (r.blk, Obj.cells r.cells T_disk_file) ∈ (dOw d D (l1 ++ r :: l2) mb es clock fz st ++ F) := List.mem_append_left _ (List.mem_cons_of_mem _ (List.mem_cons_of_mem _ (mem_own (by simp))))
  refine ⟨fun hc => absurd rfl hc, fun _ => v_nz (v_ldo (h1.mem hin) r.sl ?_)⟩
  refine (Clone_ok h1 (fun w' h' => ?_) hlen).mono1 ?_
  · have h2 : St B w' S (r.ow ++ ((r.blk, .cells r.cells T_disk_file) :: dCell d D mb fz st :: (mb, .map es clock) :: (l1.flatMap FR.own ++ (l2.flatMap FR.own ++ F)))) := h'.fit (fun a => by simp [FR.own]; omega)
    exact (hD.ok r (by simp)).1.rd h2
  · rintro x w2 ⟨S', hS, h2, hr, hc⟩
    exact ⟨rfl, S', hS, h2, hr, hc⟩
/-! ### Remove, Rename -/
theorem Remove_ok {ow : Own} {f1 f2 : Files} {fm : FM} (h : St B w S (ow ++ F)) (hd : DiskO d D ow) (hoff : D.off = false) (hn : dNamed name = true) (hf : D.files = f1 ++ (name, fm) :: f2) :
    CallP Tryz.prog n_disk_Disk_Remove [.pointer (pt d), .string name] w (ret1 (tI .i64) fun e w' => ∃ D' ow', St B w' S (ow' ++ F) ∧ DiskO d D' ow' ∧ Went D D' e ∧ D'.files = if e = 0 then f1 ++ f2 else D.files) := by
  obtain ⟨rs, mb, es, clock, fz, st, hD, rfl⟩ := hd
  obtain ⟨l1, r, l2, rfl, rfl, rfl, rfl, rfl⟩ := hD.split hf
  refine vc_disk_Disk_Remove _ _ _ _ ?_
  unfold F_disk_Disk_Remove
  refine v_al h fun b w1 h1 => v_al h1 fun b1 w2 h2 => ?_
  refine v_ldo h2.tail.head.1 (pt d) (v_ldo h2.head.1 r.name ?_)
  have h3 : St B w2 S (dCell d D mb fz st :: (mb, .map es clock) :: (b, .cells [.pointer (pt d)].toArray T_p_disk_Disk) :: (b1, .cells [.string r.name].toArray T_string) :: ((l1 ++ r :: l2).flatMap FR.own ++ F)) := h2.fit (fun a => by simp [dOw]; omega)
  refine (find_ok h3 hD hoff hn).mono2 ?_
  rintro p e w3 ⟨rfl, rfl, h4⟩
  refine ⟨fun hc => absurd rfl hc, fun _ => v_ldo h4.tail.tail.head.1 (pt d) ?_⟩
  refine step_ok _ rfl h4 hD.fuse (fun hfu w' h' => ?_) (fun w' fz' st' hf' h' => ?_)
  · exact ⟨{ D with off := true }, dOw d { D with off := true } (l1 ++ r :: l2) mb es clock fz st, h'.fit (fun a => by simp [dOw]; omega), ⟨_, mb, es, clock, fz, st, hD.turnedOff, rfl⟩, ⟨rfl, rfl, .inr ⟨rfl, rfl, hfu⟩⟩, rfl⟩
  · refine ⟨n_disk_Disk_Remove_c1, [], [.pointer (pt b), .pointer (pt b1)], Tryz.f61, rfl, Tryz.func61, by kernel_rfl, by kernel_rfl, ?_⟩
    show CallP Tryz.prog n_disk_Disk_Remove_c1 [.pointer (pt b), .pointer (pt b1)] w' _
    refine vc_disk_Disk_Remove_c1 _ _ _ _ ?_
    unfold F_disk_Disk_Remove_c1
    refine v_nz (v_ldo (by exact h'.tail.tail.head.1) (pt d) (v_nz (v_ldo (by exact h'.head.1) (some mb) (v_nz (v_ldo (by exact h'.tail.tail.tail.head.1) r.name ?_)))))
    have h7 : St B (dr w') S ((mb, .map es clock) :: dCell d D mb fz' st' :: ((l1 ++ l2).flatMap FR.own ++ F)) := h'.dr.fit (fun a => by simp; omega)
    have hm := hD.map
    rw [List.map_append, List.map_cons] at hm
    refine v_mapdel_hit (K := T_string) (E := T_p_disk_file) (v := .pointer (pt r.blk)) Tryz.underlying55 Tryz.underlying9 h7 hm fun w8 es' h8 hm8 => ?_
    refine ⟨{ D with files := l1.map nf ++ l2.map nf }, dOw d { D with files := l1.map nf ++ l2.map nf } (l1 ++ l2) mb es' clock fz' st', h8.fit (fun a => by simp [dOw, dCell]; omega), ⟨_, mb, es', clock, fz', st', ⟨?_, ?_, ?_, hf', hD.room⟩, rfl⟩, ⟨rfl, rfl, .inl ⟨rfl, hoff⟩⟩, rfl⟩
    · rw [List.map_append]; rfl
    · intro q hq
      exact hD.ok q (by simp at hq ⊢; rcases hq with hq | hq; exact .inl hq; exact .inr (.inr hq))
    · rw [List.map_append]; exact hm8
theorem Rename_ok {ow : Own} {f1 f2 g1 g2 : Files} {fm fm0 : FM} {to : ByteArray} (h : St B w S (ow ++ F)) (hd : DiskO d D ow) (hoff : D.off = false) (hn : dNamed name = true) (hn2 : dNamed to = true) (hne : name ≠ to)
    (hf : D.files = f1 ++ (name, fm) :: f2) (hg : f1 ++ f2 = g1 ++ (to, fm0) :: g2) :
    CallP Tryz.prog n_disk_Disk_Rename [.pointer (pt d), .string name, .string to] w (ret1 (tI .i64) fun e w' => ∃ D' ow', St B w' S (ow' ++ F) ∧ DiskO d D' ow' ∧ Went D D' e ∧ D'.files = if e = 0 then g1 ++ (to, fm) :: g2 else D.files) := by
  obtain ⟨rs, mb, es, clock, fz, st, hD, rfl⟩ := hd
  obtain ⟨l1, r, l2, rfl, rfl, rfl, rfl, rfl⟩ := hD.split hf
  rw [← List.map_append] at hg
  obtain ⟨m1, m3, hm1, rfl, hm3⟩ := List.map_eq_append_iff.1 hg
  obtain ⟨q, m2, rfl, hm5, rfl⟩ := List.map_eq_cons_iff.1 hm3
  simp only [nf, Prod.mk.injEq] at hm5
  obtain ⟨rfl, rfl⟩ := hm5
  refine vc_disk_Disk_Rename _ _ _ _ _ ?_
  unfold F_disk_Disk_Rename
  refine v_al h fun b w1 h1 => v_al h1 fun b1 w2 h2 => v_al h2 fun b2 w3 h3 => ?_
  refine v_ldo h3.tail.tail.head.1 (pt d) (v_ldo h3.tail.head.1 r.name (v_ldo h3.head.1 q.name ?_))
  refine v_al h3 fun b3 w4 h4 => ?_
  refine (asked_ok (D := D) (mb := mb) (fz := fz) (st := st) (ns := [r.name, q.name]) h4 (by simp [dOw]) (fun w' h' => (OwnSl.new T_string 1 2 b3 [.string r.name, .string q.name] rfl (by decide)).rd (F := _ :: _ :: _ :: (dOw d D (l1 ++ r :: l2) mb es clock fz st ++ F)) h') hoff (by simpa using ⟨hn, hn2⟩) (by simp)).mono1 ?_
  rintro e w5 ⟨rfl, h5⟩
  have h5' := h5.tail
  refine ⟨fun hc => absurd rfl hc, fun _ => ?_⟩
  have hlk := lookup_hit (w := dr w5) hD (by exact h5'.tail.tail.tail.tail.head.1)
  refine v_ldo (by exact h5'.tail.tail.head.1) (pt d) (v_nz (v_ldo (by exact h5'.tail.tail.tail.head.1) (some mb) (v_ldo (by exact h5'.tail.head.1) r.name ⟨_, hlk, ?_⟩)))
  refine v_al h5'.dr fun b5 w6 h6 => ⟨⟨lookup_hit hD h6.tail.tail.tail.tail.tail.head.1, v_at h6.tail.tail.head.1, v_at h6.tail.tail.tail.tail.head.1, v_at h6.tail.tail.tail.head.1⟩, v_sto h6 fun w7 h7 => ?_⟩
  refine v_ldo h7.head.1 (pt r.blk) ⟨fun hc => absurd hc (by simp), fun _ => ?_⟩
  refine v_ldo h7.tail.tail.head.1 r.name (v_ldo h7.tail.head.1 q.name ⟨fun hc => absurd hc hne, fun _ => v_ldo h7.tail.tail.tail.head.1 (pt d) ?_⟩)
  have h8 : St B w7 S (dCell d D mb fz st :: (mb, .map es clock) :: (b, .cells [.pointer (pt d)].toArray T_p_disk_Disk) :: (b1, .cells [.string r.name].toArray T_string) :: (b2, .cells [.string q.name].toArray T_string) :: (b5, .cells [.pointer (pt r.blk)].toArray T_p_disk_file) :: ((l1 ++ r :: l2).flatMap FR.own ++ F)) := h7.fit (fun a => by
    have : setA [.pointer none].toArray 0 (tP.cells (pt r.blk)) = [.pointer (pt r.blk)].toArray := rfl
    rw [this]
    simp [dOw]; omega)
  refine step_ok _ rfl h8 hD.fuse (fun hfu w' h' => ?_) (fun w' fz' st' hf' h' => ?_)
  · exact ⟨{ D with off := true }, dOw d { D with off := true } (l1 ++ r :: l2) mb es clock fz st, h'.fit (fun a => by simp [dOw]; omega), ⟨_, mb, es, clock, fz, st, hD.turnedOff, rfl⟩, ⟨rfl, rfl, .inr ⟨rfl, rfl, hfu⟩⟩, rfl⟩
  · refine ⟨n_disk_Disk_Rename_c1, [], [.pointer (pt b), .pointer (pt b1), .pointer (pt b5), .pointer (pt b2)], Tryz.f94, rfl, Tryz.func94, by kernel_rfl, by kernel_rfl, ?_⟩
    show CallP Tryz.prog n_disk_Disk_Rename_c1 [.pointer (pt b), .pointer (pt b1), .pointer (pt b5), .pointer (pt b2)] w' _
    refine vc_disk_Disk_Rename_c1 _ _ _ _ _ _ ?_
    unfold F_disk_Disk_Rename_c1
    refine v_nz (v_ldo (by exact h'.tail.tail.head.1) (pt d) (v_nz (v_ldo (by exact h'.head.1) (some mb) (v_nz (v_ldo (by exact h'.tail.tail.tail.head.1) r.name ?_)))))
    have h9 : St B (dr w') S ((mb, .map es clock) :: dCell d D mb fz' st' :: (b, .cells [.pointer (pt d)].toArray T_p_disk_Disk) :: (b2, .cells [.string q.name].toArray T_string) :: (b5, .cells [.pointer (pt r.blk)].toArray T_p_disk_file) :: (r.own ++ ((l1 ++ l2).flatMap FR.own ++ F))) := h'.dr.fit (fun a => by simp; omega)
    have hm := hD.map
    rw [List.map_append, List.map_cons] at hm
    refine v_mapdel_hit (K := T_string) (E := T_p_disk_file) (v := .pointer (pt r.blk)) Tryz.underlying55 Tryz.underlying9 h9 hm fun w10 es' h10 hm10 => ?_
    refine v_nz (v_ldo (by exact h10.tail.tail.head.1) (pt d) (v_nz (v_ldo (by exact h10.tail.head.1) (some mb) (v_nz (v_ldo (by exact h10.tail.tail.tail.head.1) q.name (v_nz (v_ldo (by exact h10.tail.tail.tail.tail.head.1) (pt r.blk) ?_)))))))
    rw [← List.map_append, hm1, List.map_append, List.map_cons] at hm10
    rw [hm1] at h10
    refine v_mapset_hit (K := T_string) (E := T_p_disk_file) (ty := 0) Tryz.underlying55 Tryz.underlying9 h10.dr hm10 fun w12 es2 h12 hm12 => ?_
    refine ⟨{ D with files := m1.map nf ++ (q.name, r.fm) :: m2.map nf }, dOw d { D with files := m1.map nf ++ (q.name, r.fm) :: m2.map nf } (m1 ++ { r with name := q.name } :: m2) mb es2 clock fz' st', h12.fit (fun a => ?_), ⟨_, mb, es2, clock, fz', st', ⟨?_, ?_, ?_, hf', hD.room⟩, rfl⟩, ⟨rfl, rfl, .inl ⟨rfl, hoff⟩⟩, rfl⟩
    · have e : ({ r with name := q.name } : FR).own = r.own := rfl
      simp [dOw, dCell, e]; omega
    · rw [List.map_append, List.map_cons]; rfl
    · have hin : ∀ x ∈ m1 ++ q :: m2, x.ok := fun x hx => hD.ok x (by rw [← hm1] at hx; simp at hx ⊢; rcases hx with hx | hx; exact .inl hx; exact .inr (.inr hx))
      intro x hx
      simp at hx
      rcases hx with hx | rfl | hx
      · exact hin x (by simp [hx])
      · exact hD.ok r (by simp)
      · exact hin x (by simp [hx])
    · rw [List.map_append, List.map_cons]; exact hm12
/-! ### On, Fuse, New, Turn -/
theorem On_ok {ow : Own} (h : St B w S (ow ++ F)) (hd : DiskO d D ow) : CallP Tryz.prog n_disk_Disk_On [.pointer (pt d)] w (ret1 tB fun r w' => r = !D.off ∧ w' = w) := by
  obtain ⟨rs, mb, es, clock, fz, st, hD, rfl⟩ := hd
  refine vc_disk_Disk_On _ _ _ ?_
  unfold F_disk_Disk_On
  refine v_join (fun r w' => r = !D.off ∧ w' = w) (fun x w' hx => hx) ?_
  refine (none_ok h.head.1).mono1 ?_
  rintro r w1 ⟨rfl, rfl⟩
  exact ⟨fun _ => v_nz (v_ldo h.head.1 D.off ⟨rfl, rfl⟩), fun hc => absurd hc (by simp)⟩
theorem New_ok {room : Nat} (h : St B w S F) (hr : room ≤ 1073741824) : CallP Tryz.prog n_disk_New [.int .i64 room] w (ret2 tP (tI .i64) fun p e w' => e = 0 ∧ ∃ d ow, p = pt d ∧ St B w' S (ow ++ F) ∧ DiskO d ⟨[], room, false, false⟩ ow) := by
  refine vc_disk_New _ _ _ ?_
  unfold F_disk_New
  refine v_join (fun r w' => r = false ∧ w' = w) ?_ ⟨fun hc => absurd hc (by omega), fun _ => ⟨by simp; omega, rfl⟩⟩
  rintro r w' ⟨rfl, rfl⟩
  refine ⟨fun hc => absurd hc (by simp), fun _ => v_alM h fun m w1 h1 => v_al h1 fun b w2 h2 => ?_⟩
  exact ⟨rfl, b, dOw b ⟨[], room, false, false⟩ [] m #[] 0 0 0, rfl, h2, [], m, #[], 0, 0, 0, ⟨rfl, fun _ q => absurd q (by simp), MapOk.nil, ⟨by omega, by omega⟩, hr⟩, rfl⟩
theorem Fuse_ok {ow : Own} {n : Int} (h : St B w S (ow ++ F)) (hd : DiskO d D ow) (hoff : D.off = false) (h0 : 0 ≤ n) (h1 : n ≤ 9223372036854775807) :
    CallP Tryz.prog n_disk_Disk_Fuse [.pointer (pt d), .int .i64 n] w (ret1 (tI .i64) fun e w' => e = 0 ∧ ∃ ow', St B w' S (ow' ++ F) ∧ DiskO d { D with fused := true } ow') := by
  obtain ⟨rs, mb, es, clock, fz, st, hD, rfl⟩ := hd
  refine vc_disk_Disk_Fuse _ _ _ _ ?_
  unfold F_disk_Disk_Fuse
  refine (asked_ok (D := D) (mb := mb) (fz := fz) (st := st) (ns := []) h (by simp [dOw]) (fun w' h' => RdV.nil _ _) hoff (by simp) (by simp)).mono1 ?_
  rintro e w1 ⟨rfl, h2⟩
  refine ⟨fun hc => absurd rfl hc, fun _ => ⟨fun hc => absurd hc (by omega), fun _ => v_nz ?_⟩⟩
  refine v_sto h2 fun w3 h3 => v_nz (v_sto h3 fun w4 h4 => ⟨rfl, dOw d { D with fused := true } rs mb es clock n st, h4, rs, mb, es, clock, n, st, ⟨hD.files, hD.ok, hD.map, ⟨h0, h1⟩, hD.room⟩, rfl⟩)
theorem setL_bytes (l : List UInt8) (i : Nat) (c : UInt8) (h : i < l.length) : setL (l.map bV) i [bV c] = (l.set i c).map bV := by
  apply List.ext_getElem?
  intro j
  rw [setL_get (by simp; omega), List.getElem?_map, List.getElem?_map, List.getElem?_set]
  simp only [List.length_singleton]
  by_cases e : i = j
  · subst e
    simp [h]
  · rw [if_neg (by omega), if_neg e]
theorem Turn_ok {ow : Own} {f1 f2 : Files} {fm : FM} {at' : Nat} {c : UInt8} (h : St B w S (ow ++ F)) (hd : DiskO d D ow) (hn : dNamed name = true) (hf : D.files = f1 ++ (name, fm) :: f2) (hat : at' < fm.bytes.length) :
    CallP Tryz.prog n_disk_Disk_Turn [.pointer (pt d), .string name, .int .i64 at', .int .u8 c.toNat] w (ret1 (tI .i64) fun e w' => e = 0 ∧ ∃ ow', St B w' S (ow' ++ F) ∧ DiskO d { D with files := f1 ++ (name, ⟨fm.bytes.set at' (fm.bytes.getD at' 0 ^^^ c), fm.synced⟩) :: f2 } ow') := by
  obtain ⟨rs, mb, es, clock, fz, st, hD, rfl⟩ := hd
  obtain ⟨l1, r, l2, rfl, rfl, rfl, rfl, rfl⟩ := hD.split hf
  have hlen : r.fm.bytes.length = r.sl.len := (hD.ok r (by simp)).1.len
  refine vc_disk_Disk_Turn _ _ _ _ _ _ ?_
  unfold F_disk_Disk_Turn
  refine (none_ok h.head.1).mono1 ?_
  rintro e w1 ⟨rfl, rfl⟩
  refine ⟨fun hc => absurd hc (by simp), fun _ => ?_⟩
  refine (named_ok _ h).mono1 ?_
  rintro e w2 ⟨h2, rfl⟩
  refine ⟨fun hc => absurd hc (by rw [hn]; simp), fun _ => v_nz (v_ldo h2.head.1 (some mb) ⟨_, lookup_hit hD h2.tail.head.1, ?_⟩)⟩
  have h3 : St B w2 S (r.ow ++ ((r.blk, .cells r.cells T_disk_file) :: dCell d D mb fz st :: (mb, .map es clock) :: (l1.flatMap FR.own ++ (l2.flatMap FR.own ++ F)))) := h2.fit (fun a => by simp [FR.own, dOw]; omega)
  refine v_join (fun x w' => x = false ∧ w' = w2) ?_ ?_
  · rintro x w' ⟨rfl, rfl⟩
    refine ⟨fun hc => absurd hc (by simp), fun _ => v_nz (v_ldo h3.dropL.head.1 r.sl ?_)⟩
    have hr := (hD.ok r (by simp)).1
    refine RdB.at (hr.rd h3) (Sub.refl _) (by omega) (by omega) ?_
    have hx : bits .xor .u8 (((r.fm.bytes.getD (at' : Int).toNat 0).toNat : Nat) : Int) ((c.toNat : Nat) : Int) = (((r.fm.bytes.getD at' 0 ^^^ c).toNat : Nat) : Int) := bits_xor8 (r.fm.bytes.getD at' 0).toBitVec c.toBitVec
    rw [hx]
    refine v_ixs_st hr h3 (by omega) (by omega) rfl fun w4 ow4 h4 ho4 => ?_
    have e4 : setL (r.fm.bytes.map bV) ((at' : Int).toNat * 1) ((tI .u8).cells (((r.fm.bytes.getD at' 0 ^^^ c).toNat : Nat) : Int)) = (r.fm.bytes.set at' (r.fm.bytes.getD at' 0 ^^^ c)).map bV := by
      rw [Int.toNat_natCast, Nat.mul_one]
      exact setL_bytes _ _ _ hat
    rw [e4] at ho4
    have hok : FR.ok ⟨r.name, ⟨r.fm.bytes.set at' (r.fm.bytes.getD at' 0 ^^^ c), r.fm.synced⟩, r.blk, r.sl, ow4⟩ := ⟨ho4, by rw [List.length_set]; exact (hD.ok r (by simp)).2⟩
    exact ⟨rfl, dOw d { D with files := l1.map nf ++ (r.name, ⟨r.fm.bytes.set at' (r.fm.bytes.getD at' 0 ^^^ c), r.fm.synced⟩) :: l2.map nf } (l1 ++ ⟨r.name, ⟨r.fm.bytes.set at' (r.fm.bytes.getD at' 0 ^^^ c), r.fm.synced⟩, r.blk, r.sl, ow4⟩ :: l2) mb es clock fz st, h4.fit (fun a => by simp [dOw, dCell, FR.own, FR.cells]; omega), _, mb, es, clock, fz, st, hD.put ⟨r.name, ⟨r.fm.bytes.set at' (r.fm.bytes.getD at' 0 ^^^ c), r.fm.synced⟩, r.blk, r.sl, ow4⟩ rfl rfl hok hD.fuse, rfl⟩
  · refine ⟨fun hc => absurd hc (by simp), fun _ => ⟨fun hc => absurd hc (by omega), fun _ => v_nz (v_ldo h3.dropL.head.1 r.sl ⟨by simp; omega, rfl⟩)⟩⟩
end
end Go.Proofs.YtccebpahnnfceaaGreatDoor
