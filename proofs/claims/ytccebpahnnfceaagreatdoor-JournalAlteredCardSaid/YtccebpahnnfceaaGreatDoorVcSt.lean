/- A small separation logic over worlds: S: blocks that nobody writes any more; L: blocks that are owned. -/
import Derived.Test.YtccebpahnnfceaaGreatDoorVcMem
namespace Go.Vc
set_option linter.unusedVariables false
set_option linter.unusedSimpArgs false
abbrev Hp := Nat → Option Obj
def hp (w : World) : Hp := fun b => w.heap[b]?
def cellH (H : Hp) (b q : Nat) : Option Value := match H b with
  | some (.cells c _ _) => c[q]?
  | _ => none
theorem cell_hp (w : World) (b q : Nat) : w.cell? ⟨b, q, none⟩ = cellH (hp w) b q := by
  unfold World.cell? cellH hp
  cases w.heap[b]? with
  | none => rfl
  | some o => cases o <;> simp
def Sub (S S' : Hp) : Prop := ∀ b o, S b = some o → S' b = some o
theorem Sub.refl (S : Hp) : Sub S S := fun _ _ h => h
theorem Sub.trans {S S' S'' : Hp} (h : Sub S S') (k : Sub S' S'') : Sub S S'' := fun b o q => k b o (h b o q)
theorem Sub.cell {S S' : Hp} (h : Sub S S') {b q : Nat} {v : Value} (hc : cellH S b q = some v) : cellH S' b q = some v := by
  unfold cellH at *
  cases hb : S b with
  | none => rw [hb] at hc; cases hc
  | some o => rw [hb] at hc; rw [h b o hb]; exact hc
abbrev Bs := Os × Array (Nat × ByteArray)
abbrev Own := List (Nat × Obj)
structure St (B : Bs) (w : World) (S : Hp) (L : Own) : Prop where
  os : w.os = B.1
  out : w.output = B.2
  sh : Sub S (hp w)
  own : ∀ p ∈ L, hp w p.1 = some p.2 ∧ S p.1 = none
  nd : (L.map Prod.fst).Nodup
variable {P : Program} {B : Bs} {w : World} {S : Hp} {L : Own}
theorem St.get (h : St B w S L) {i b : Nat} {o : Obj} (hi : L[i]? = some (b, o)) : hp w b = some o := (h.own _ (List.mem_of_getElem? hi)).1
theorem St.mem (h : St B w S L) {b : Nat} {o : Obj} (hi : (b, o) ∈ L) : hp w b = some o := (h.own _ hi).1
theorem St.perm {L' : Own} (h : St B w S L) (hp : L.Perm L') : St B w S L' := ⟨h.os, h.out, h.sh, fun p hp' => h.own p (hp.mem_iff.2 hp'), (hp.map _).nodup_iff.1 h.nd⟩
theorem St.sublist {L' : Own} (h : St B w S L) (hs : List.Sublist L' L) : St B w S L' := ⟨h.os, h.out, h.sh, fun p hp' => h.own p (hs.subset hp'), (hs.map _).nodup h.nd⟩
theorem St.dropL {L1 L2 : Own} (h : St B w S (L1 ++ L2)) : St B w S L2 := h.sublist (List.sublist_append_right _ _)
theorem St.tail {p : Nat × Obj} {L2 : Own} (h : St B w S (p :: L2)) : St B w S L2 := h.sublist (List.sublist_cons_self _ _)
theorem St.dr (h : St B w S L) : St B (dr w) S L := ⟨h.os, h.out, h.sh, h.own, h.nd⟩
theorem St.lt (h : St B w S L) {p : Nat × Obj} (hp' : p ∈ L) : p.1 < w.heap.size := by
  have := (h.own p hp').1
  exact (Array.getElem?_eq_some_iff.1 this).1
theorem St.ltS (h : St B w S L) {b : Nat} {o : Obj} (hb : S b = some o) : b < w.heap.size := (Array.getElem?_eq_some_iff.1 (h.sh b o hb)).1
theorem hp_alloc (w : World) (o : Obj) (b : Nat) : hp (w.alloc o) b = if b = w.heap.size then some o else hp w b := by
  show (w.heap.push o)[b]? = _
  rw [Array.getElem?_push]
  rfl
theorem St.alloc (h : St B w S L) (o : Obj) : St B (w.alloc o) S ((w.heap.size, o) :: L) := by
  refine ⟨h.os, h.out, fun b q hb => ?_, fun p hp' => ?_, ?_⟩
  · rw [hp_alloc, if_neg (Nat.ne_of_lt (h.ltS hb))]; exact h.sh b q hb
  · cases hp' with
    | head =>
      refine ⟨by rw [hp_alloc, if_pos rfl], ?_⟩
      cases hs : S w.heap.size with
      | none => rfl
      | some q => exact absurd (h.ltS hs) (Nat.lt_irrefl _)
    | tail _ hm => exact ⟨by rw [hp_alloc, if_neg (Nat.ne_of_lt (h.lt hm))]; exact (h.own p hm).1, (h.own p hm).2⟩
  · rw [List.map_cons, List.nodup_cons]
    refine ⟨fun hm => ?_, h.nd⟩
    obtain ⟨p, hp', e⟩ := List.mem_map.1 hm
    exact absurd e (Nat.ne_of_lt (h.lt hp'))
/-- A block's cells, some of them set. -/
def setA (c : Array Value) : Nat → List Value → Array Value
  | _, [] => c
  | q, v :: r => setA (c.setIfInBounds q v) (q + 1) r
theorem setA_size : ∀ (vs : List Value) (c : Array Value) (q : Nat), (setA c q vs).size = c.size
  | [], c, q => rfl
  | v :: r, c, q => by rw [setA, setA_size r]; simp
theorem hp_setCells {b : Nat} {e : TypeId} {fz : Nat × Nat} : ∀ (vs : List Value) (c : Array Value) (q : Nat) (w : World), hp w b = some (.cells c e fz) → ∀ x, hp (w.setCells b q vs) x = if x = b then some (.cells (setA c q vs) e fz) else hp w x
  | [], c, q, w, h, x => by
    simp only [World.setCells, setA]
    split
    · rename_i e; rw [e]; exact h
    · rfl
  | v :: r, c, q, w, h, x => by
    have h1 : ∀ y, hp (w.setCell ⟨b, q, none⟩ v) y = if y = b then some (.cells (c.setIfInBounds q v) e fz) else hp w y := by
      intro y
      simp only [hp, World.setCell, Array.getElem?_modify]
      by_cases hy : y = b
      · subst hy
        have h' : w.heap[y]? = some (.cells c e fz) := h
        simp [h']
      · rw [if_neg (fun e => hy e.symm), if_neg hy]
    rw [World.setCells, hp_setCells (e := e) (fz := fz) r (c.setIfInBounds q v) (q + 1) _ (by rw [h1]; simp) x, setA]
    split
    · rfl
    · rename_i hx; rw [h1, if_neg hx]
theorem setCells_os : ∀ (vs : List Value) (b q : Nat) (w : World), (w.setCells b q vs).os = w.os ∧ (w.setCells b q vs).output = w.output
  | [], _, _, _ => ⟨rfl, rfl⟩
  | v :: r, b, q, w => by
    rw [World.setCells]
    exact ⟨(setCells_os r b (q + 1) _).1.trans rfl, (setCells_os r b (q + 1) _).2.trans rfl⟩
/-- An owned block is changed. -/
theorem St.change {w' : World} (h : St B w S L) {i b : Nat} {o o' : Obj} (hi : L[i]? = some (b, o)) (hos : w'.os = w.os) (hout : w'.output = w.output) (hh : ∀ x, hp w' x = if x = b then some o' else hp w x) : St B w' S (L.set i (b, o')) := by
  have hlt : i < L.length := (List.getElem?_eq_some_iff.1 hi).1
  have hget : L[i] = (b, o) := (List.getElem?_eq_some_iff.1 hi).2
  have hmap : (L.set i (b, o')).map Prod.fst = L.map Prod.fst := by
    rw [List.map_set]
    apply List.ext_getElem?
    intro j
    by_cases hj : j = i
    · subst hj; simp [hlt, hget]
    · rw [List.getElem?_set_ne (fun e => hj e.symm)]
  have hSb : S b = none := (h.own _ (List.mem_of_getElem? hi)).2
  refine ⟨hos.trans h.os, hout.trans h.out, fun x q hx => ?_, fun p hp' => ?_, by rw [hmap]; exact h.nd⟩
  · rw [hh, if_neg (fun e => by subst e; rw [hSb] at hx; cases hx)]
    exact h.sh x q hx
  · obtain ⟨j, hj⟩ := List.mem_iff_getElem?.1 hp'
    by_cases e : j = i
    · subst e
      rw [List.getElem?_set_self hlt] at hj
      cases hj
      exact ⟨by rw [hh, if_pos rfl], hSb⟩
    · rw [List.getElem?_set_ne (fun q => e q.symm)] at hj
      have hne : p.1 ≠ b := fun q => by
        have h1 : (L.map Prod.fst)[j]? = some b := by simp [hj, q]
        have h2 : (L.map Prod.fst)[i]? = some b := by simp [hi]
        exact e ((List.getElem?_inj (by simpa using (List.getElem?_eq_some_iff.1 hj).1) h.nd).1 (h1.trans h2.symm))
      have := h.own p (List.mem_of_getElem? hj)
      exact ⟨by rw [hh, if_neg hne]; exact this.1, this.2⟩
/-- Nothing that is known is touched: new blocks only. -/
theorem St.grow {w' : World} (h : St B w S L) (hos : w'.os = w.os) (hout : w'.output = w.output) (hh : ∀ x, x < w.heap.size → hp w' x = hp w x) : St B w' S L :=
  ⟨hos.trans h.os, hout.trans h.out, fun x q hx => by rw [hh x (h.ltS hx)]; exact h.sh x q hx, fun p hp' => ⟨by rw [hh _ (h.lt hp')]; exact (h.own p hp').1, (h.own p hp').2⟩, h.nd⟩
/-- An owned block is given to all. -/
def addH (S : Hp) (b : Nat) (o : Obj) : Hp := fun x => if x = b then some o else S x
theorem St.share {b : Nat} {o : Obj} (h : St B w S ((b, o) :: L)) : St B w (addH S b o) L := by
  have hb := h.own _ (List.mem_cons_self ..)
  have hnd := h.nd
  rw [List.map_cons, List.nodup_cons] at hnd
  refine ⟨h.os, h.out, fun x q hx => ?_, fun p hp' => ⟨(h.own p (List.mem_cons_of_mem _ hp')).1, ?_⟩, hnd.2⟩
  · unfold addH at hx
    split at hx
    · rename_i e; subst e; cases hx; exact hb.1
    · exact h.sh x q hx
  · unfold addH
    rw [if_neg (fun e => hnd.1 (List.mem_map.2 ⟨p, hp', e⟩))]
    exact (h.own p (List.mem_cons_of_mem _ hp')).2
theorem sub_addH {b : Nat} {o : Obj} (hb : S b = none) : Sub S (addH S b o) := fun x q hx => by
  unfold addH
  rw [if_neg (fun e => by subst e; rw [hb] at hx; cases hx)]
  exact hx
theorem St.head {b : Nat} {o : Obj} (h : St B w S ((b, o) :: L)) : hp w b = some o ∧ S b = none := h.own _ (List.mem_cons_self ..)

/-- Orders have been drawn, nothing else. -/
structure SameW (w w' : World) : Prop where
  heap : w'.heap = w.heap
  os : w'.os = w.os
  out : w'.output = w.output
theorem SameW.refl (w : World) : SameW w w := ⟨rfl, rfl, rfl⟩
theorem SameW.trans {a b c : World} (h : SameW a b) (k : SameW b c) : SameW a c := ⟨k.heap.trans h.heap, k.os.trans h.os, k.out.trans h.out⟩
theorem SameW.dr (w : World) : SameW w (dr w) := ⟨rfl, rfl, rfl⟩
theorem SameW.hp {w w' : World} (h : SameW w w') : hp w' = hp w := by unfold Vc.hp; rw [h.heap]
theorem St.same {w' : World} (h : St B w S L) (hs : SameW w w') : St B w' S L := ⟨hs.os.trans h.os, hs.out.trans h.out, by rw [hs.hp]; exact h.sh, by rw [hs.hp]; exact h.own, h.nd⟩
theorem hp_dr (w : World) : hp (dr w) = hp w := rfl

/-! ### The conditions' words -/
theorem v_al {cs : List Value} {T : TypeId} {K : Nat → World → Prop} (h : St B w S L) (k : ∀ b w', St B w' S ((b, .cells cs.toArray T) :: L) → K b w') : al w cs T K := k _ _ (h.alloc _)
theorem v_alM {K : Nat → World → Prop} (h : St B w S L) (k : ∀ b w', St B w' S ((b, .map #[] 0) :: L) → K b w') : alM w K := k _ _ (h.alloc _)
theorem v_ld {α : Type} {t : Ty α} {b q : Nat} {K : α → Prop} {c : Array Value} {e : TypeId} {fz : Nat × Nat} (hb : hp w b = some (.cells c e fz)) (x : α) (hc : ∀ j v, (t.cells x)[j]? = some v → c[q + j]? = some v) (k : K x) : ld t w b q K :=
  ⟨x, fun j v hj => by rw [cell_hp]; unfold cellH; rw [hb]; exact hc j v hj, k⟩
theorem v_ldH {α : Type} {t : Ty α} {b q : Nat} {K : α → Prop} (x : α) (hc : ∀ j v, (t.cells x)[j]? = some v → cellH (hp w) b (q + j) = some v) (k : K x) : ld t w b q K :=
  ⟨x, fun j v hj => by rw [cell_hp]; exact hc j v hj, k⟩
/-- A load of one cell. -/
theorem v_ld1 {α : Type} {t : Ty α} {b q : Nat} {K : α → Prop} (x : α) {v : Value} (ht : t.cells x = [v]) (hc : cellH (hp w) b q = some v) (k : K x) : ld t w b q K :=
  v_ldH x (fun j u hj => by
    rw [ht] at hj
    cases j with
    | zero => simp at hj; subst hj; exact hc
    | succ j => simp at hj) k
theorem v_st {α : Type} {t : Ty α} {b q i : Nat} {x : α} {K : World → Prop} {c : Array Value} {e : TypeId} (h : St B w S L) (hi : L[i]? = some (b, .cells c e)) (hq : q + (t.cells x).length ≤ c.size)
    (k : ∀ w', St B w' S (L.set i (b, .cells (setA c q (t.cells x)) e)) → K w') : st t w b q x K := by
  have hb := h.get hi
  refine ⟨fun j hj => ⟨?_, ?_⟩, k _ (h.change hi (setCells_os _ _ _ _).1 (setCells_os _ _ _ _).2 (hp_setCells _ c q w hb))⟩
  · rw [cell_hp]; unfold cellH; rw [hb]
    show (c[q + j]?).isSome = true
    rw [Array.getElem?_eq_getElem (by omega)]; rfl
  · unfold World.frozen?
    have hb' : w.heap[b]? = some (.cells c e) := hb
    simp [hb']
theorem v_nz {b q : Nat} {K : Nat → Nat → Prop} (k : K b q) : nz (some ⟨b, q, none⟩) K := ⟨b, q, rfl, k⟩
theorem v_join {α : Type} {V2 : α → World → Prop} {V1 : (α → World → Prop) → Prop} (k : α → World → Prop) (h2 : ∀ x w, k x w → V2 x w) (h1 : V1 k) : JoinP V2 V1 := ⟨k, h2, h1⟩
theorem v_call {f : FuncId} {args : List Value} {Q Q' : Value → World → Prop} (h : CallP P f args w Q) (k : ∀ v w', Q v w' → Q' v w') : CallP P f args w Q' := h.mono k

/-! ### Slices that read as lists -/
/-- The slice's elements' cells are these. -/
def RdV (H : Hp) (size : Nat) (s : Sl) (vs : List Value) : Prop :=
  vs.length = s.len * size ∧ s.len ≤ s.cap ∧ (0 < s.len → ∃ b q, s.a = some ⟨b, q, none⟩ ∧ ∀ j v, vs[j]? = some v → cellH H b (q + j) = some v)
theorem RdV.mono {S S' : Hp} {size : Nat} {s : Sl} {vs : List Value} (h : RdV S size s vs) (hs : Sub S S') : RdV S' size s vs :=
  ⟨h.1, h.2.1, fun hl => by
    obtain ⟨b, q, h1, h2⟩ := h.2.2 hl
    exact ⟨b, q, h1, fun j v hj => hs.cell (h2 j v hj)⟩⟩
theorem RdV.nil (H : Hp) (size : Nat) : RdV H size ⟨none, 0, 0⟩ [] := ⟨by simp, Nat.le_refl _, fun h => absurd h (by simp)⟩
/-- An element's place: the condition of an index. -/
theorem RdV.ixs {H : Hp} {size : Nat} {s : Sl} {vs : List Value} (h : RdV H size s vs) {i : Int} (h0 : 0 ≤ i) (h1 : i < s.len) {K : Nat → Nat → Prop}
    (k : ∀ b q, (∀ j v, vs[j]? = some v → cellH H b (q + j) = some v) → K b q) : ixs s i K := by
  obtain ⟨b, q, ha, hc⟩ := h.2.2 (by omega)
  exact ⟨h0, h1, b, q, ha, k b q hc⟩
/-- Bytes. -/
def bV (c : UInt8) : Value := .int .u8 c.toNat
def RdB (H : Hp) (s : Sl) (l : List UInt8) : Prop := RdV H 1 s (l.map bV)
theorem RdB.len {H : Hp} {s : Sl} {l : List UInt8} (h : RdB H s l) : l.length = s.len := by have := h.1; simpa using this
theorem RdB.mono {S S' : Hp} {s : Sl} {l : List UInt8} (h : RdB S s l) (hs : Sub S S') : RdB S' s l := RdV.mono h hs
theorem RdB.at {H : Hp} {s : Sl} {l : List UInt8} (h : RdB H s l) {w : World} (hH : Sub H (hp w)) {i : Int} (h0 : 0 ≤ i) (h1 : i < s.len) {K : Int → Prop} (k : K ((l.getD i.toNat 0).toNat : Int)) : ixs s i (fun b q => ld (tI .u8) w b (q + i.toNat * 1) K) := by
  refine RdV.ixs h h0 h1 fun b q hc => v_ld1 _ rfl ?_ k
  have hl : i.toNat < l.length := by rw [h.len]; omega
  rw [Nat.mul_one]
  exact hH.cell (hc i.toNat _ (by simp [bV, hl, List.getD]))
/-- A part of a slice. -/
theorem RdV.slice {H : Hp} {size : Nat} {s : Sl} {vs : List Value} (h : RdV H size s vs) {i j m : Int} (h0 : 0 ≤ i) (h1 : i ≤ j) (h2 : j ≤ s.len) (h3 : j ≤ m) (h4 : m ≤ s.cap) : RdV H size (slS s i j m size) ((vs.drop (i.toNat * size)).take ((j.toNat - i.toNat) * size)) := by
  have hlen : vs.length = s.len * size := h.1
  have hmul : j.toNat * size ≤ s.len * size := Nat.mul_le_mul_right _ (by omega)
  have hsub : (j.toNat - i.toNat) * size = j.toNat * size - i.toNat * size := Nat.sub_mul ..
  refine ⟨?_, ?_, fun hl => ?_⟩
  · simp only [slS, List.length_take, List.length_drop]
    omega
  · simp only [slS]; omega
  · simp only [slS] at hl
    obtain ⟨b, q, ha, hc⟩ := h.2.2 (by omega)
    have hne : ¬ m.toNat = i.toNat := by omega
    refine ⟨b, q + i.toNat * size, ?_, fun k v hk => ?_⟩
    · simp only [slS, if_neg hne, ha, Option.map_some, Addr.add_lit]
    · rw [List.getElem?_take] at hk
      split at hk
      · rw [List.getElem?_drop] at hk
        rw [Nat.add_assoc]
        exact hc _ v hk
      · cases hk
theorem RdB.slice {H : Hp} {s : Sl} {l : List UInt8} (h : RdB H s l) {i j m : Int} (h0 : 0 ≤ i) (h1 : i ≤ j) (h2 : j ≤ s.len) (h3 : j ≤ m) (h4 : m ≤ s.cap) : RdB H (slS s i j m 1) ((l.drop i.toNat).take (j.toNat - i.toNat)) := by
  have := RdV.slice h h0 h1 h2 h3 h4
  simpa [RdB, List.map_take, List.map_drop] using this
/-! ### Loops -/
/-- A loop that counts from i up to n. -/
theorem loop_to {α : Type} {Body : α → World → (α → World → Prop) → Prop} (I : Nat → α → World → Prop) (n : Nat)
    (step : ∀ (J : α → World → Prop) i x w, i < n → I i x w → (∀ y w', I (i + 1) y w' → J y w') → Body x w J)
    (last : ∀ (J : α → World → Prop) x w, I n x w → Body x w J) {i : Nat} {x : α} {w : World} (hi : i ≤ n) (h : I i x w) : LoopP Body x w := by
  intro J hJ
  obtain ⟨d, hd⟩ : ∃ d, d = n - i := ⟨_, rfl⟩
  induction d generalizing i x w with
  | zero =>
    obtain rfl : i = n := by omega
    exact hJ x w (last J x w h)
  | succ d ih => exact hJ x w (step J i x w (by omega) h fun y w' hy => ih (by omega) hy (by omega))
/-- A loop with a measure. -/
theorem loop_by {α : Type} {Body : α → World → (α → World → Prop) → Prop} (I : α → World → Prop) (μ : α → World → Nat)
    (step : ∀ (J : α → World → Prop) x w, I x w → (∀ y w', I y w' → μ y w' < μ x w → J y w') → Body x w J) {x : α} {w : World} (h : I x w) : LoopP Body x w := by
  intro J hJ
  obtain ⟨d, hd⟩ : ∃ d, d = μ x w := ⟨_, rfl⟩
  induction d using Nat.strongRecOn generalizing x w with
  | _ d ih => exact hJ x w (step J x w h fun y w' hy hlt => ih (μ y w') (by omega) hy rfl)
end Go.Vc
