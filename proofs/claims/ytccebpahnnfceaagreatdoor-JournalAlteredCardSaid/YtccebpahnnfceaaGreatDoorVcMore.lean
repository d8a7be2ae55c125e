/- Ownership counted; loads and stores at owned blocks. -/
import Derived.Test.YtccebpahnnfceaaGreatDoorVcApp
namespace Go.Vc
set_option linter.unusedVariables false
set_option linter.unusedSimpArgs false
open Classical in
noncomputable def one (a p : Nat × Obj) : Nat := if p = a then 1 else 0
noncomputable def cnt (a : Nat × Obj) : Own → Nat
  | [] => 0
  | p :: L => one a p + cnt a L
@[simp] theorem cnt_nil (a : Nat × Obj) : cnt a [] = 0 := rfl
@[simp] theorem cnt_cons (a p : Nat × Obj) (L : Own) : cnt a (p :: L) = one a p + cnt a L := rfl
@[simp] theorem cnt_append (a : Nat × Obj) : ∀ (L M : Own), cnt a (L ++ M) = cnt a L + cnt a M
  | [], M => by simp
  | p :: L, M => by rw [List.cons_append, cnt_cons, cnt_cons, cnt_append a L M, Nat.add_assoc]
theorem one_self (a : Nat × Obj) : one a a = 1 := by simp [one]
theorem cnt_perm {a : Nat × Obj} {L M : Own} (h : L.Perm M) : cnt a L = cnt a M := by
  induction h with
  | nil => rfl
  | cons x _ ih => simp [ih]
  | swap x y l => simp; omega
  | trans _ _ h1 h2 => exact h1.trans h2
theorem mem_of_cnt {a : Nat × Obj} : ∀ {L : Own}, 0 < cnt a L → a ∈ L
  | [], h => absurd h (by simp)
  | p :: L, h => by
    by_cases e : p = a
    · subst e; exact List.mem_cons_self ..
    · exact List.mem_cons_of_mem _ (mem_of_cnt (by simpa [one, e] using h))
theorem perm_of_cnt {L' : Own} : ∀ {L : Own}, (∀ a, cnt a L' ≤ cnt a L) → ∃ R, L.Perm (L' ++ R) := by
  induction L' with
  | nil => exact fun {L} _ => ⟨L, List.Perm.refl _⟩
  | cons p L' ih =>
    intro L h
    have hm : p ∈ L := mem_of_cnt (by have := h p; rw [cnt_cons, one_self] at this; omega)
    obtain ⟨s, t, rfl⟩ := List.append_of_mem hm
    obtain ⟨R, hR⟩ := @ih (s ++ t) (fun a => by have := h a; simp at this ⊢; omega)
    exact ⟨R, List.perm_middle.trans (hR.cons p)⟩
section
variable {B : Bs} {w : World} {S : Hp} {L L' : Own}
theorem St.fit (h : St B w S L) (hc : ∀ a, cnt a L' ≤ cnt a L) : St B w S L' := by
  obtain ⟨R, hR⟩ := perm_of_cnt hc
  exact (h.perm hR).sublist (List.sublist_append_left _ _)
theorem St.mid1 {p : Nat × Obj} {ow F : Own} (h : St B w S (p :: (ow ++ F))) : St B w S (ow ++ (p :: F)) := h.perm List.perm_middle.symm
theorem St.mid2 {p q : Nat × Obj} {ow F : Own} (h : St B w S (p :: q :: (ow ++ F))) : St B w S (ow ++ (p :: q :: F)) := h.perm ((List.Perm.cons p List.perm_middle.symm).trans List.perm_middle.symm)
theorem St.fr1 {p : Nat × Obj} {ow F : Own} (h : St B w S (ow ++ (p :: F))) : St B w S (p :: (ow ++ F)) := h.perm List.perm_middle
theorem St.swap {ow F : Own} (h : St B w S (ow ++ F)) : St B w S (F ++ ow) := h.perm List.perm_append_comm
theorem St.at (h : St B w S L) {b : Nat} {o : Obj} (hc : 0 < cnt (b, o) L) : hp w b = some o := h.mem (mem_of_cnt hc)
/-- A load of one cell of a block that is known. -/
theorem v_ldo {α : Type} {t : Ty α} {b q : Nat} {K : α → Prop} {c : Array Value} {e : TypeId} {fz : Nat × Nat} (hb : hp w b = some (.cells c e fz)) (x : α) (k : K x) {v : Value} (ht : t.cells x = [v] := by rfl) (hc : c[q]? = some v := by rfl) : ld t w b q K :=
  v_ld1 x ht (by unfold cellH; rw [hb]; exact hc) k
/-- Of any. -/
theorem v_ldn {α : Type} {t : Ty α} {b q : Nat} {K : α → Prop} {c : Array Value} {e : TypeId} {fz : Nat × Nat} (hb : hp w b = some (.cells c e fz)) (x : α) (k : K x) (hc : (c.toList.drop q).take (t.cells x).length = t.cells x := by rfl) : ld t w b q K :=
  v_ld hb x (fun j v hj => by
    rw [← hc, List.getElem?_take, List.getElem?_drop] at hj
    split at hj
    · simpa using hj
    · cases hj) k
theorem v_at {b q : Nat} {c : Array Value} {e : TypeId} {fz : Nat × Nat} {cs : List Value} (hb : hp w b = some (.cells c e fz)) (hc : (c.toList.drop q).take cs.length = cs := by rfl) : CellsAt w b q cs := fun j v hj => by
  rw [← hc, List.getElem?_take, List.getElem?_drop] at hj
  rw [cell_hp]; unfold cellH; rw [hb]
  split at hj
  · simpa using hj
  · cases hj
theorem v_at1 {b q : Nat} {v : Value} (hc : cellH (hp w) b q = some v) : CellsAt w b q [v] := fun j u hj => by
  rw [cell_hp]
  cases j with
  | zero => simp at hj; subst hj; exact hc
  | succ j => simp at hj
/-- A store into the first owned block. -/
theorem v_sto {α : Type} {t : Ty α} {b q : Nat} {x : α} {K : World → Prop} {c : Array Value} {e : TypeId} (h : St B w S ((b, .cells c e) :: L)) (k : ∀ w', St B w' S ((b, .cells (setA c q (t.cells x)) e) :: L) → K w')
    (hq : Nat.ble (q + (t.cells x).length) c.size = true := by rfl) : st t w b q x K :=
  v_st h (i := 0) rfl (Nat.le_of_ble_eq_true hq) fun w' h' => k w' h'
theorem v_al0 {cs : List Value} {T : TypeId} {K : Nat → World → Prop} (h : St B w S L) (k : ∀ b w', St B w' S ((b, .cells cs.toArray T) :: L) → K b w') : al w cs T K := v_al h k
theorem RdB.sh {s : Sl} {l : List UInt8} (hr : RdB S s l) (h : St B w S L) : RdB (hp w) s l := hr.mono h.sh
theorem RdV.sh {n : Nat} {s : Sl} {l : List Value} (hr : RdV S n s l) (h : St B w S L) : RdV (hp w) n s l := hr.mono h.sh
end
theorem St.shareH {B : Bs} {w : World} {S : Hp} {L : Own} {b : Nat} {o : Obj} (h : St B w S ((b, o) :: L)) : ∃ S', Sub S S' ∧ S' b = some o ∧ St B w S' L :=
  ⟨addH S b o, sub_addH h.head.2, by simp [addH], h.share⟩
/-- What was owned is given to all: it is never written again. -/
theorem OwnSl.share {B : Bs} {w : World} {S : Hp} {F ow : Own} {E : TypeId} {size : Nat} {s : Sl} {xs : List Value} (ho : OwnSl E size s xs ow) (h : St B w S (ow ++ F)) : ∃ S', Sub S S' ∧ St B w S' F ∧ RdV S' size s xs := by
  have hc := ho.cap
  rcases ho.2 with ⟨rfl, rfl⟩ | ⟨b, cur, ha, rfl, hle, hm, hsz, ht⟩
  · exact ⟨S, Sub.refl S, h, ho.1, Nat.le_refl _, fun hl => absurd hl (by simp)⟩
  · obtain ⟨S', hs, hb, h'⟩ := h.shareH
    refine ⟨S', hs, h', ho.1, hle, fun hl => ⟨b, 0, ha, fun j v hj => ?_⟩⟩
    unfold cellH
    rw [hb]
    rw [← ht, List.getElem?_take] at hj
    split at hj
    · simpa using hj
    · cases hj
/-- Two lists, element by element. -/
def All2 {α β : Type} (R : α → β → Prop) : List α → List β → Prop
  | [], [] => True
  | a :: as, b :: bs => R a b ∧ All2 R as bs
  | _, _ => False
theorem All2.len {α β : Type} {R : α → β → Prop} : ∀ {as : List α} {bs : List β}, All2 R as bs → as.length = bs.length
  | [], [], _ => rfl
  | a :: as, b :: bs, h => by simp [All2.len h.2]
  | [], b :: bs, h => h.elim
  | a :: as, [], h => h.elim
theorem All2.mono {α β : Type} {R R' : α → β → Prop} (hr : ∀ a b, R a b → R' a b) : ∀ {as : List α} {bs : List β}, All2 R as bs → All2 R' as bs
  | [], [], _ => trivial
  | a :: as, b :: bs, h => ⟨hr _ _ h.1, All2.mono hr h.2⟩
  | [], b :: bs, h => h.elim
  | a :: as, [], h => h.elim
theorem All2.append {α β : Type} {R : α → β → Prop} {cs : List α} {ds : List β} (k : All2 R cs ds) : ∀ {as : List α} {bs : List β}, All2 R as bs → All2 R (as ++ cs) (bs ++ ds)
  | [], [], _ => k
  | a :: as, b :: bs, h => ⟨h.1, All2.append k h.2⟩
  | [], b :: bs, h => h.elim
  | a :: as, [], h => h.elim
theorem All2.get {α β : Type} {R : α → β → Prop} : ∀ {as : List α} {bs : List β}, All2 R as bs → ∀ (i : Nat) (h : i < as.length) (h' : i < bs.length), R as[i] bs[i]
  | a :: as, b :: bs, h, 0, _, _ => h.1
  | a :: as, b :: bs, h, i + 1, h1, h2 => All2.get h.2 i (by simpa using h1) (by simpa using h2)
  | [], _, _, i, h1, _ => absurd h1 (by simp)
  | a :: as, [], h, _, _, _ => h.elim
theorem All2.take {α β : Type} {R : α → β → Prop} : ∀ {as : List α} {bs : List β} (k : Nat), All2 R as bs → All2 R (as.take k) (bs.take k)
  | [], [], k, _ => by simp [All2]
  | a :: as, b :: bs, 0, h => trivial
  | a :: as, b :: bs, k + 1, h => ⟨h.1, All2.take k h.2⟩
  | [], b :: bs, _, h => h.elim
  | a :: as, [], _, h => h.elim
/-- The cells of an element of a list of elements that have as many cells each. -/
theorem flat_get {α : Type} {c : α → List Value} {n : Nat} (hc : ∀ a, (c a).length = n) : ∀ (l : List α) (i : Nat) (h : i < l.length) (j : Nat), j < n → (l.flatMap c)[i * n + j]? = (c l[i])[j]?
  | a :: l, 0, h, j, hj => by
    rw [List.flatMap_cons, Nat.zero_mul, Nat.zero_add, List.getElem?_append_left (by rw [hc]; exact hj)]
    rfl
  | a :: l, i + 1, h, j, hj => by
    rw [List.flatMap_cons, List.getElem?_append_right (by rw [hc, Nat.add_mul]; omega), hc, show (i + 1) * n + j - n = i * n + j by rw [Nat.add_mul]; omega]
    exact flat_get hc l i (by simpa using h) j hj
theorem flat_len {α : Type} {c : α → List Value} {n : Nat} (hc : ∀ a, (c a).length = n) (l : List α) : (l.flatMap c).length = l.length * n := by
  induction l with
  | nil => simp
  | cons a l ih => rw [List.flatMap_cons, List.length_append, hc, ih, List.length_cons, Nat.add_mul]; omega
/-- A load of an element of a slice that reads as a list. -/
theorem v_ixs {α : Type} {t : Ty α} {n : Nat} (hp0 : 0 < n) (hc : ∀ a, (t.cells a).length = n) {H : Hp} {s : Sl} {l : List α} (h : RdV H n s (l.flatMap t.cells)) {w : World} (hH : Sub H (hp w)) {i : Int} (h0 : 0 ≤ i) (h1 : i < s.len) {K : α → Prop} (k : ∀ (hl : i.toNat < l.length), K l[i.toNat]) : ixs s i (fun b q => ld t w b (q + i.toNat * n) K) := by
  have hlen : l.length * n = s.len * n := by rw [← h.1, flat_len hc]
  refine RdV.ixs h h0 h1 fun b q hb => ?_
  · have hl : i.toNat < l.length := by
      have := Nat.eq_of_mul_eq_mul_right hp0 hlen
      omega
    refine v_ldH l[i.toNat] (fun j v hj => ?_) (k hl)
    have hj' : j < n := by rw [← hc l[i.toNat]]; exact (List.getElem?_eq_some_iff.1 hj).1
    rw [Nat.add_assoc]
    exact hH.cell (hb _ v (by rw [flat_get hc l _ hl j hj']; exact hj))
/-! ### Stores into owned slices -/
theorem setA_get : ∀ (vs : List Value) (c : Array Value) (q j : Nat), q + vs.length ≤ c.size → (setA c q vs)[j]? = if q ≤ j ∧ j < q + vs.length then vs[j - q]? else c[j]?
  | [], c, q, j, h => by
    rw [setA, if_neg (by intro hh; simp at hh; omega)]
  | v :: r, c, q, j, h => by
    rw [setA, setA_get r _ (q + 1) j (by simp at h ⊢; omega)]
    simp only [List.length_cons] at h ⊢
    by_cases h1 : q + 1 ≤ j ∧ j < q + 1 + r.length
    · rw [if_pos h1, if_pos (by omega), show j - q = (j - (q + 1)) + 1 by omega]
      rfl
    · rw [if_neg h1, Array.getElem?_setIfInBounds]
      by_cases h2 : q = j
      · subst h2
        rw [if_pos rfl, if_pos (by omega), if_pos ⟨Nat.le_refl _, by omega⟩, Nat.sub_self, List.getElem?_cons_zero]
      · rw [if_neg h2, if_neg (by omega)]
def setL (xs : List Value) (k : Nat) (cs : List Value) : List Value := xs.take k ++ cs ++ xs.drop (k + cs.length)
theorem setL_len {xs cs : List Value} {k : Nat} (h : k + cs.length ≤ xs.length) : (setL xs k cs).length = xs.length := by
  simp only [setL, List.length_append, List.length_take, List.length_drop]; omega
theorem setL_get {xs cs : List Value} {k : Nat} (h : k + cs.length ≤ xs.length) (j : Nat) : (setL xs k cs)[j]? = if k ≤ j ∧ j < k + cs.length then cs[j - k]? else xs[j]? := by
  unfold setL
  by_cases h1 : j < k
  · rw [if_neg (by omega), List.append_assoc, List.getElem?_append_left (by simp; omega), List.getElem?_take, if_pos h1]
  · rw [List.append_assoc, List.getElem?_append_right (by simp; omega)]
    simp only [List.length_take, Nat.min_eq_left (show k ≤ xs.length by omega)]
    by_cases h2 : j < k + cs.length
    · rw [if_pos (by omega), List.getElem?_append_left (by omega)]
    · rw [if_neg (by omega), List.getElem?_append_right (by omega), List.getElem?_drop]
      congr 1; omega
theorem setA_take {c : Array Value} {k n : Nat} {cs : List Value} (h1 : k + cs.length ≤ n) (h2 : n ≤ c.size) : (setA c k cs).toList.take n = setL (c.toList.take n) k cs := by
  apply List.ext_getElem?
  intro j
  rw [setL_get (by simp; omega), List.getElem?_take, List.getElem?_take, Array.getElem?_toList, setA_get _ _ _ _ (by omega), Array.getElem?_toList]
  by_cases hj : j < n
  · rw [if_pos hj, if_pos hj, Array.getElem?_toList]
  · rw [if_neg hj, if_neg hj, if_neg (by omega)]
theorem v_stO {B : Bs} {w : World} {S : Hp} {F ow : Own} {E : TypeId} {size : Nat} {s : Sl} {xs : List Value} {α : Type} {t : Ty α} {x : α} {K : World → Prop} {b k : Nat} (ho : OwnSl E size s xs ow) (h : St B w S (ow ++ F)) (ha : s.a = some ⟨b, 0, none⟩) (hk : k + (t.cells x).length ≤ xs.length)
    (kk : ∀ w' ow', St B w' S (ow' ++ F) → OwnSl E size s (setL xs k (t.cells x)) ow' → K w') : st t w b k x K := by
  rcases ho.2 with ⟨rfl, rfl⟩ | ⟨b', cur, ha', rfl, hle, hm, hsz, ht⟩
  · cases ha
  · rw [ha] at ha'
    cases ha'
    have hx : xs.length = s.len * size := ho.1
    have hmul : s.len * size ≤ s.cap * size := Nat.mul_le_mul_right _ hle
    refine v_st h (i := 0) rfl (by omega) fun w' h' => kk w' [(b, .cells (setA cur k (t.cells x)) E)] h' ⟨by rw [setL_len hk]; exact hx, .inr ⟨b, _, ha, rfl, hle, hm, by rw [setA_size]; exact hsz, ?_⟩⟩
    rw [setA_take (by omega) (by omega), ht]
/-- A store into an element. -/
theorem v_ixs_st {B : Bs} {w : World} {S : Hp} {F ow : Own} {E : TypeId} {size : Nat} {s : Sl} {xs : List Value} {α : Type} {t : Ty α} {x : α} {K : World → Prop} {i : Int} (ho : OwnSl E size s xs ow) (h : St B w S (ow ++ F)) (h0 : 0 ≤ i) (h1 : i < s.len) (hc : (t.cells x).length = size)
    (kk : ∀ w' ow', St B w' S (ow' ++ F) → OwnSl E size s (setL xs (i.toNat * size) (t.cells x)) ow' → K w') : ixs s i (fun b q => st t w b (q + i.toNat * size) x K) := by
  rcases ho.2 with ⟨rfl, rfl⟩ | ⟨b, cur, ha, hrest⟩
  · exact absurd h1 (by simp; omega)
  · refine ⟨h0, h1, b, 0, ha, ?_⟩
    show st t w b (0 + i.toNat * size) x K
    rw [Nat.zero_add]
    refine v_stO ho h ha ?_ kk
    have hx : xs.length = s.len * size := ho.1
    have : (i.toNat + 1) * size ≤ s.len * size := Nat.mul_le_mul_right _ (by omega)
    rw [hc, hx]
    rw [Nat.add_mul] at this
    omega
theorem flat1 {α : Type} {c : α → List Value} {f : α → Value} (hc : ∀ a, c a = [f a]) (l : List α) : l.flatMap c = l.map f := by
  induction l with
  | nil => rfl
  | cons a l ih => rw [List.flatMap_cons, hc, ih]; rfl
theorem v_ixs1 {α : Type} {t : Ty α} {f : α → Value} {H : Hp} {s : Sl} {l : List α} (h : RdV H 1 s (l.map f)) {w : World} (hH : Sub H (hp w)) {i : Int} (h0 : 0 ≤ i) (h1 : i < s.len) {K : α → Prop} (k : ∀ (hl : i.toNat < l.length), K l[i.toNat]) (hc : ∀ a, t.cells a = [f a] := by intro _; rfl) : ixs s i (fun b q => ld t w b (q + i.toNat * 1) K) :=
  v_ixs (by omega) (fun a => by rw [hc]; rfl) (by rw [flat1 hc]; exact h) hH h0 h1 k
/-- A call's condition, at what is known of the call. -/
theorem cp1 {P : Program} {w : World} {f : FuncId} {args : List Value} {α : Type} {t : Ty α} {K K' : α → World → Prop} (h : CallP P f args w (ret1 t K)) (hq : ∀ x w', K x w' → K' x w') : CallP P f args w (ret1 t K') := h.mono1 hq
end Go.Vc
