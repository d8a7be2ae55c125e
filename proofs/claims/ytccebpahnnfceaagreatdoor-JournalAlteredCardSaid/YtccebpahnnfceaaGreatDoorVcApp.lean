/- Slices that the code owns: append, cuts, reading. -/
import Derived.Test.YtccebpahnnfceaaGreatDoorVcInt
import Derived.Laws.AppendOwn
namespace Go.Vc
set_option linter.unusedVariables false
set_option linter.unusedSimpArgs false
/-- T: a slice type of elements E, of so many cells and bytes. -/
structure ETy (P : Program) (T E : TypeId) (size bytes : Nat) : Prop where
  slice : P.underlying T = some (.slice E)
  info : ∃ i z, P.info? E = some i ∧ i.size = size ∧ i.bytes = bytes ∧ i.zero = some z ∧ z.cells.size = size
  pos : 0 < size
theorem ETy.of {P : Program} {T E : TypeId} {size bytes : Nat} {z : Value} (hT : P.underlying T = some (.slice E)) (hi : (P.info? E).map (fun i => (i.size, i.bytes, i.zero)) = some (size, bytes, some z)) (hz : (z.cells.size == size) = true) (h0 : Nat.blt 0 size = true) : ETy P T E size bytes := by
  refine ⟨hT, ?_, by have := h0; simp [Nat.blt] at this; omega⟩
  cases h : P.info? E with
  | none => rw [h] at hi; cases hi
  | some i =>
    rw [h] at hi
    simp only [Option.map_some, Option.some.injEq, Prod.mk.injEq] at hi
    exact ⟨i, z, rfl, hi.1, hi.2.1, hi.2.2, by simpa using hz⟩
/-- The slice is owned: nil, or the whole of a block of its own. -/
def OwnSl (E : TypeId) (size : Nat) (s : Sl) (xs : List Value) (ow : Own) : Prop :=
  xs.length = s.len * size ∧ ((s = ⟨none, 0, 0⟩ ∧ ow = []) ∨ ∃ b cur, s.a = some ⟨b, 0, none⟩ ∧ ow = [(b, .cells cur E)] ∧ s.len ≤ s.cap ∧ s.cap ≤ maxLen ∧ cur.size = s.cap * size ∧ cur.toList.take (s.len * size) = xs)
theorem OwnSl.nil (E : TypeId) (size : Nat) : OwnSl E size ⟨none, 0, 0⟩ [] [] := ⟨by simp, .inl ⟨rfl, rfl⟩⟩
theorem OwnSl.new (E : TypeId) (size k : Nat) (b : Nat) (cs : List Value) (hl : cs.length = k * size) (hk : k ≤ maxLen) : OwnSl E size ⟨some ⟨b, 0, none⟩, k, k⟩ cs [(b, .cells cs.toArray E)] :=
  ⟨hl, .inr ⟨b, _, rfl, rfl, Nat.le_refl _, hk, by simpa using hl, by simp [List.take_of_length_le, hl]⟩⟩
section
variable {P : Program} {B : Bs} {w : World} {S : Hp} {F ow : Own} {E : TypeId} {size : Nat} {s : Sl} {xs : List Value}
theorem OwnSl.rd (ho : OwnSl E size s xs ow) (h : St B w S (ow ++ F)) : RdV (hp w) size s xs := by
  refine ⟨ho.1, ?_, fun hl => ?_⟩
  · rcases ho.2 with ⟨rfl, _⟩ | ⟨b, cur, ha, rfl, hle, _⟩
    · exact Nat.le_refl _
    · exact hle
  · rcases ho.2 with ⟨rfl, _⟩ | ⟨b, cur, ha, rfl, hle, _, hsz, ht⟩
    · exact absurd hl (by simp)
    · refine ⟨b, 0, ha, fun j v hj => ?_⟩
      have hb := h.mem (b := b) (o := .cells cur E) (by simp)
      unfold cellH
      rw [hb]
      rw [← ht, List.getElem?_take] at hj
      split at hj
      · simpa using hj
      · cases hj
theorem OwnSl.cap (ho : OwnSl E size s xs ow) : s.cap ≤ maxLen ∧ s.len ≤ s.cap := by
  rcases ho.2 with ⟨rfl, _⟩ | ⟨b, cur, ha, rfl, hle, hm, _⟩
  · exact ⟨Nat.zero_le _, Nat.le_refl _⟩
  · exact ⟨hm, hle⟩
/-- Its first part, in place. -/
theorem OwnSl.cut (ho : OwnSl E size s xs ow) {j : Int} (h0 : 0 ≤ j) (h1 : j ≤ s.len) : OwnSl E size (slS s 0 j s.cap size) (xs.take (j.toNat * size)) ow := by
  have hj : j.toNat ≤ s.len := by omega
  have hmul : j.toNat * size ≤ s.len * size := Nat.mul_le_mul_right _ hj
  have hlen := ho.1
  refine ⟨by simp only [slS, List.length_take]; simp; omega, ?_⟩
  rcases ho.2 with ⟨rfl, rfl⟩ | ⟨b, cur, ha, rfl, hle, hm, hsz, ht⟩
  · refine .inl ⟨?_, rfl⟩
    simp at h1
    have : j = 0 := by omega
    subst this
    rfl
  · refine .inr ⟨b, cur, ?_, rfl, by simp only [slS]; simp; omega, by simp only [slS]; simp; omega, by simp only [slS]; simpa using hsz, ?_⟩
    · simp only [slS, ha]
      split
      · rfl
      · simp [Addr.add]
    · simp only [slS]
      rw [← ht, List.take_take, Nat.min_eq_left hmul]
      simp
theorem RdV.cells {H : Hp} {k : Nat} {x : Sl} {ys : List Value} (h : RdV H k x ys) {w : World} (hH : Sub H (hp w)) (hx : 0 < x.len) : ∃ b q, x.a = some ⟨b, q, none⟩ ∧ ∀ j v, ys[j]? = some v → w.cell? ((⟨b, q, none⟩ : Addr).add j) = some v := by
  obtain ⟨b, q, ha, hc⟩ := h.2.2 hx
  exact ⟨b, q, ha, fun j v hj => by rw [Addr.add_lit, cell_hp]; exact hH.cell (hc j v hj)⟩
theorem hp_setRow (w : World) (g : Nat) (cur cs : Array Value) (E : TypeId) (h : hp w g = some (.cells cur E)) (x : Nat) : hp (w.setRow g cs) x = if x = g then some (.cells cs E) else hp w x := by
  split
  · rename_i e; subst e; exact setRow_heap w x cur cs E _ h
  · rename_i hne; exact setRow_other w g x cs hne
/-- 'append' onto a slice that is owned. -/
theorem v_app {T : TypeId} {bytes : Nat} (he : ETy P T E size bytes) (h : St B w S (ow ++ F)) (ho : OwnSl E size s xs ow) {x : Sl} {ys : List Value} (hx : RdV (hp w) size x ys) (h1 : ∀ v ∈ ys, v.oneCell' = true)
    (hb : (s.len + x.len) * bytes ≤ 140737488355328) (hm : s.len + x.len ≤ maxLen) {ty : TypeId} {K : Sl → World → Prop}
    (k : ∀ s' w' ow', St B w' S (ow' ++ F) → OwnSl E size s' (xs ++ ys) ow' → s'.len = s.len + x.len → (s'.a = none ↔ s.a = none ∧ x.len = 0) → K s' w') :
    RunV P (Builtin.append_ #[T, T] ty #[s.v, x.v]) w (ret1 tSl K) := by
  obtain ⟨i, z, hi, hsz, hby, hz, hzs⟩ := he.info
  subst hsz; subst hby
  have hm' : s.len + x.len ≤ 9223372036854775807 := by simpa [maxLen] using hm
  have hcl := ho.cap
  by_cases hx0 : x.len = 0
  · have hys : ys = [] := List.eq_nil_of_length_eq_zero (by rw [hx.1, hx0, Nat.zero_mul])
    subst hys
    refine ⟨s.v, w, ?_, s, rfl, k s w ow h (by rw [List.append_nil]; exact ho) (by omega) (by simp [hx0])⟩
    have hf : (Builtin.firstCells i.size 0 (Value.slice x.a 0 x.cap)).run P w = .ok #[] w := by
      cases x.a with
      | none => simp [Builtin.firstCells]
      | some a => simp [Builtin.firstCells, loadCells, loadCellsFrom]
    have hst : ∀ a : Addr, (storeCells a [] 0).run P w = .ok () w := fun a => rfl
    cases ha : s.a <;> simp [Builtin.append_, run_underlying he.slice, sizeOf, typeInfo, hi, Builtin.lenOf, Sl.v, hx0, hcl.2, hf, ha, hst]
  · have hx1 : 0 < x.len := by omega
    obtain ⟨ab, aq, hxa, hxc⟩ := hx.cells (Sub.refl _) hx1
    have hyl : ys.length = x.len * i.size := hx.1
    have hge : s.len + x.len ≤ grownCap w (s.len + x.len) s.cap E := grownCap_ge w _ _ _
    have hcm : grownCap w (s.len + x.len) s.cap E ≤ maxLen := grownCap_le_maxLen w _ _ _ hm
    rcases ho.2 with ⟨rfl, rfl⟩ | ⟨b, cur, ha, rfl, hle, hmx, hcs, ht⟩
    · have hxs : xs = [] := List.eq_nil_of_length_eq_zero (by rw [ho.1]; simp)
      subst hxs
      simp only [Nat.zero_add] at hm' hb hge hcm
      have hr := run_append_nil (P := P) w T ty E i z he.slice hi hz ⟨ab, aq, none⟩ x.len x.cap ys hyl hxc hx1 (by omega) (by omega)
      refine ⟨_, _, (by simp only [Sl.v, hxa]; exact hr), ⟨some ⟨w.heap.size, 0, none⟩, x.len, grownCap w x.len 0 E⟩, rfl, ?_⟩
      refine k _ _ [(w.heap.size, .cells (ys.toArray ++ Builtin.zeroCells z.cells (grownCap w x.len 0 E - x.len)) E)] ?_ ⟨by simpa using hyl, .inr ⟨_, _, rfl, rfl, hge, hcm, ?_, ?_⟩⟩ (by simp) (by simp; omega)
      · exact (h.dr).alloc _
      · simp only [Array.size_append, List.size_toArray, size_zeroCells, hzs, hyl, ← Nat.add_mul]
        congr 1
        omega
      · simp only [List.nil_append, Array.toList_append]
        rw [← hyl]
        exact List.take_left
    · have hb0 : w.heap[b]? = some (.cells cur E) := h.mem (by simp)
      have hlen : xs.length = s.len * i.size := ho.1
      by_cases hroom : s.len + x.len ≤ s.cap
      · have hfit : s.len * i.size + ys.length ≤ cur.size := by rw [hyl, hcs, ← Nat.add_mul]; exact Nat.mul_le_mul_right _ hroom
        have hr := run_append_room (P := P) w T ty E i he.slice hi b s.len s.cap cur hb0 ⟨ab, aq, none⟩ x.len x.cap ys hyl hxc h1 hroom hfit
        refine ⟨_, _, (by simp only [Sl.v, hxa, ha]; exact hr), ⟨some ⟨b, 0, none⟩, s.len + x.len, s.cap⟩, rfl, ?_⟩
        refine k _ _ [(b, .cells (cur.toList.take (s.len * i.size) ++ ys ++ cur.toList.drop (s.len * i.size + ys.length)).toArray E)] ?_ ⟨?_, .inr ⟨_, _, rfl, rfl, hroom, hmx, ?_, ?_⟩⟩ rfl (by simp [ha])
        · have := h.change (i := 0) (o' := .cells (cur.toList.take (s.len * i.size) ++ ys ++ cur.toList.drop (s.len * i.size + ys.length)).toArray E) (w' := w.setRow b (cur.toList.take (s.len * i.size) ++ ys ++ cur.toList.drop (s.len * i.size + ys.length)).toArray) rfl rfl rfl (hp_setRow w b cur _ E hb0)
          exact this
        · rw [List.length_append, hlen, hyl, Nat.add_mul]
        · simp only [List.size_toArray, List.length_append, List.length_take, List.length_drop, Array.length_toList]
          omega
        · show List.take ((s.len + x.len) * i.size) _ = _
          rw [ht, List.toList_toArray]
          have : (s.len + x.len) * i.size = (xs ++ ys).length := by rw [List.length_append, hlen, hyl, Nat.add_mul]
          rw [this]
          exact List.take_left
      · have holds : ∀ j u, xs[j]? = some u → w.cell? ((⟨b, 0, none⟩ : Addr).add j) = some u := fun j u hj => by
          rw [Addr.add_lit, cell_hp]
          obtain ⟨b', q', e', hc'⟩ := (ho.rd h).2.2 (by
            rcases Nat.eq_zero_or_pos s.len with h0 | h0
            · rw [h0, Nat.zero_mul] at hlen
              rw [List.eq_nil_of_length_eq_zero hlen] at hj
              simp at hj
            · exact h0)
          rw [ha] at e'
          cases e'
          exact hc' j u hj
        have hr := run_append_grow (P := P) w T ty E i z he.slice hi hz ⟨b, 0, none⟩ s.len s.cap xs hlen holds ⟨ab, aq, none⟩ x.len x.cap ys hyl hxc (by omega) (by omega) (growslice_fits (by omega) hb)
        refine ⟨_, _, (by simp only [Sl.v, hxa, ha]; exact hr), ⟨some ⟨w.heap.size, 0, none⟩, s.len + x.len, grownCap w (s.len + x.len) s.cap E⟩, rfl, ?_⟩
        refine k _ _ [(w.heap.size, .cells (xs.toArray ++ ys.toArray ++ Builtin.zeroCells z.cells (grownCap w (s.len + x.len) s.cap E - (s.len + x.len))) E)] ?_ ⟨?_, .inr ⟨_, _, rfl, rfl, hge, hcm, ?_, ?_⟩⟩ rfl ⟨fun q => (by cases q), fun q => (by rw [ha] at q; cases q.1)⟩
        · exact (h.tail.dr).alloc _
        · rw [List.length_append, hlen, hyl, Nat.add_mul]
        · simp only [Array.size_append, List.size_toArray, size_zeroCells, hzs, hlen, hyl, ← Nat.add_mul]
          congr 1
          omega
        · simp only [Array.toList_append, List.append_assoc]
          rw [← List.append_assoc]
          have : (s.len + x.len) * i.size = (xs ++ ys).length := by rw [List.length_append, hlen, hyl, Nat.add_mul]
          rw [this]
          exact List.take_left
end
end Go.Vc
