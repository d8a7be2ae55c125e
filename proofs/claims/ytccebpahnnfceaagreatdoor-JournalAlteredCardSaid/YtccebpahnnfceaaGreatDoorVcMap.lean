/- Maps that the code owns, their keys strings. -/
import Derived.Test.YtccebpahnnfceaaGreatDoorVcMore
import Derived.Laws.IdiomRangeMap
import Derived.MapKept
namespace Go.Vc
set_option linter.unusedVariables false
set_option linter.unusedSimpArgs false
abbrev MapL := List (ByteArray × Value)
def kvE (e : MapEntry) : Value × Value := (e.key, e.val)
def kvM (p : ByteArray × Value) : Value × Value := (.string p.1, p.2)
structure MapOk (es : Array MapEntry) (clock : Nat) (m : MapL) : Prop where
  kv : es.toList.map kvE = m.map kvM
  keys : (m.map Prod.fst).Nodup
  borns : (es.toList.map (·.born)).Nodup
  old : ∀ e ∈ es.toList, e.born < clock
theorem MapOk.nil : MapOk #[] 0 [] := ⟨rfl, List.nodup_nil, List.nodup_nil, by simp⟩
def mfind (k : ByteArray) : MapL → Nat → Option (Nat × Value)
  | [], _ => none
  | (a, v) :: m, i => if k = a then some (i, v) else mfind k m (i + 1)
theorem findNow_str (k : ByteArray) : ∀ (l : List MapEntry) (m : MapL) (i : Nat), l.map kvE = m.map kvM → Instr.findNow .string (.string k) l i = some (mfind k m i)
  | [], [], i, _ => rfl
  | [], p :: m, i, h => by simp at h
  | e :: l, [], i, h => by simp at h
  | e :: l, (a, v) :: m, i, h => by
    simp only [List.map_cons, List.cons.injEq, kvE, kvM, Prod.mk.injEq] at h
    obtain ⟨⟨h1, h2⟩, h3⟩ := h
    rw [Instr.findNow, h1, mfind]
    by_cases e' : k = a
    · subst e'
      simp [Instr.sameNow, h2, (MapKept.bytes_beq k k).2 rfl]
    · have hne : (k == a) = false := Bool.eq_false_iff.2 fun q => e' ((MapKept.bytes_beq k a).1 q)
      have : Instr.sameNow .string (.string k) (.string a) = some false := by simp [Instr.sameNow, hne]
      rw [this, if_neg e']
      exact findNow_str k l m (i + 1) h3
theorem mfind_hit (k : ByteArray) (v : Value) (l2 : MapL) : ∀ (l1 : MapL) (i : Nat), k ∉ l1.map Prod.fst → mfind k (l1 ++ (k, v) :: l2) i = some (i + l1.length, v)
  | [], i, _ => by simp [mfind]
  | (a, u) :: l1, i, h => by
    simp only [List.map_cons, List.mem_cons, not_or] at h
    rw [List.cons_append, mfind, if_neg h.1, mfind_hit k v l2 l1 (i + 1) h.2]
    simp; omega
theorem mfind_miss (k : ByteArray) : ∀ (m : MapL) (i : Nat), k ∉ m.map Prod.fst → mfind k m i = none
  | [], i, _ => rfl
  | (a, u) :: l1, i, h => by
    simp only [List.map_cons, List.mem_cons, not_or] at h
    rw [mfind, if_neg h.1, mfind_miss k l1 (i + 1) h.2]
theorem not_mem_left {l1 l2 : MapL} {k : ByteArray} {v : Value} (h : ((l1 ++ (k, v) :: l2).map Prod.fst).Nodup) : k ∉ l1.map Prod.fst := by
  rw [List.map_append, List.map_cons, List.nodup_append] at h
  intro hm
  exact h.2.2 k hm k (List.mem_cons_self ..) rfl
theorem map_eraseIdx {α β : Type} (f : α → β) : ∀ (l : List α) (i : Nat), (l.eraseIdx i).map f = (l.map f).eraseIdx i
  | [], i => rfl
  | a :: l, 0 => rfl
  | a :: l, i + 1 => by simp [map_eraseIdx f l i]
section
variable {P : Program} {B : Bs} {w : World} {S : Hp} {L : Own} {T K E : TypeId} {r : Nat} {es : Array MapEntry} {clock : Nat} {m l1 l2 : MapL} {k : ByteArray} {v v0 z : Value}
theorem run_findKeyS (hK : P.underlying K = some .string) (hm : MapOk es clock m) : (Instr.findKey K (.string k) es.toList).run P w = .ok (mfind k m 0) w := by
  simp [Instr.findKey, run_underlying hK, findNow_str k _ m 0 hm.kv]
theorem run_checkKeyS (hK : P.underlying K = some .string) (e : Bool) : (Instr.checkKey e 10000 K (.string k)).run P w = .ok () w := by
  exact MapKept.run_checkKey hK (by simp [MapKept.IsKey]) e 9999
theorem run_lookupS (hT : P.underlying T = some (.map K E)) (hK : P.underlying K = some .string) (hz : (P.info? E).bind (·.zero) = some z) (hb : hp w r = some (.map es clock)) (hm : MapOk es clock m) :
    (Instr.lookup T (.map (some r)) (.string k) false).run P w = .ok (match mfind k m 0 with | some (_, v) => v | none => z) w := by
  obtain ⟨i, hi, hzi⟩ : ∃ i, P.info? E = some i ∧ i.zero = some z := by
    cases hi : P.info? E with
    | none => rw [hi] at hz; cases hz
    | some i => rw [hi] at hz; exact ⟨i, rfl, hz⟩
  have hg := MapKept.run_getObj_map (P := P) (w := w) hb
  cases hf : mfind k m 0 with
  | none => simp [Instr.lookup, run_underlying hT, hg, run_checkKeyS hK, run_findKeyS hK hm, hf, zeroValue, typeInfo, hi, hzi]
  | some p => simp [Instr.lookup, run_underlying hT, hg, run_checkKeyS hK, run_findKeyS hK hm, hf]
theorem run_lookup_hit (hT : P.underlying T = some (.map K E)) (hK : P.underlying K = some .string) (hz : (P.info? E).bind (·.zero) = some z) (hb : hp w r = some (.map es clock)) (hm : MapOk es clock (l1 ++ (k, v) :: l2)) :
    (Instr.lookup T (.map (some r)) (.string k) false).run P w = .ok v w := by
  rw [run_lookupS hT hK hz hb hm, mfind_hit k v l2 l1 0 (not_mem_left hm.keys)]
theorem run_lookup_miss (hT : P.underlying T = some (.map K E)) (hK : P.underlying K = some .string) (hz : (P.info? E).bind (·.zero) = some z) (hb : hp w r = some (.map es clock)) (hm : MapOk es clock m) (hk : k ∉ m.map Prod.fst) :
    (Instr.lookup T (.map (some r)) (.string k) false).run P w = .ok z w := by
  rw [run_lookupS hT hK hz hb hm, mfind_miss k m 0 hk]
theorem hp_set (w : World) (r : Nat) (o o' : Obj) (h : hp w r = some o) (x : Nat) : hp { w with heap := w.heap.setIfInBounds r o' } x = if x = r then some o' else hp w x := by
  have hlt : r < w.heap.size := (Array.getElem?_eq_some_iff.1 h).1
  show (w.heap.setIfInBounds r o')[x]? = _
  rw [Array.getElem?_setIfInBounds]
  by_cases e : x = r
  · subst e; simp [hlt]
  · rw [if_neg (fun q => e q.symm), if_neg e]; rfl
theorem St.set {o o' : Obj} (h : St B w S ((r, o) :: L)) : St B { w with heap := w.heap.setIfInBounds r o' } S ((r, o') :: L) :=
  h.change (i := 0) rfl rfl rfl (hp_set w r o o' h.head.1)
/-- The entry at a place. -/
theorem kv_at (hkv : es.toList.map kvE = (l1 ++ (k, v) :: l2).map kvM) : ∃ e, es[l1.length]? = some e ∧ e.key = .string k ∧ e.val = v := by
  have h := congrArg (fun l => l[l1.length]?) hkv
  simp only [List.getElem?_map, List.map_append, List.map_cons] at h
  rw [List.getElem?_append_right (by simp)] at h
  simp only [List.length_map, Nat.sub_self, List.getElem?_cons_zero, Array.getElem?_toList, Option.map_eq_some_iff] at h
  obtain ⟨e, h1, h2⟩ := h
  simp only [kvE, kvM, Prod.mk.injEq] at h2
  exact ⟨e, h1, h2.1, h2.2⟩
theorem v_mapset_hit {ty : TypeId} {Q : World → Prop} (hT : P.underlying T = some (.map K E)) (hK : P.underlying K = some .string) (h : St B w S ((r, .map es clock) :: L)) (hm : MapOk es clock (l1 ++ (k, v0) :: l2))
    (kk : ∀ w' es', St B w' S ((r, .map es' clock) :: L) → MapOk es' clock (l1 ++ (k, v) :: l2) → Q w') : RunU P (Instr.mapUpdate T (.map (some r)) (.string k) v) w Q := by
  have hb := h.head.1
  have hg := MapKept.run_getObj_map (P := P) (w := w) hb
  obtain ⟨e, he, hek, hev⟩ := kv_at hm.kv
  have hst : (Instr.keyThatStays (.string k) (.string k)).run P w = .ok (.string k) w := by simp [Instr.keyThatStays, Instr.sameBits, (MapKept.bytes_beq k k).2 rfl]
  refine ⟨_, ?_, kk _ (es.modify l1.length fun e => { e with key := .string k, val := v }) h.set ⟨?_, ?_, ?_, ?_⟩⟩
  · simp only [Instr.mapUpdate, Sem.run_bind, run_underlying hT, Result.andThen_ok, hg, run_checkKeyS hK, run_findKeyS hK hm, mfind_hit k v0 l2 l1 0 (not_mem_left hm.keys), Nat.zero_add, he, Option.map_some, Option.getD_some, hek, hst, MapKept.run_setObj_map _ hb]
  · have hkv := hm.kv
    rw [Array.toList_modify]
    apply List.ext_getElem?
    intro j
    have hj := congrArg (fun l => l[j]?) hkv
    simp only [List.getElem?_map, List.map_append, List.map_cons, List.getElem?_modify] at hj ⊢
    by_cases e' : j = l1.length
    · subst e'
      rw [List.getElem?_append_right (by simp)]
      simp [he, kvE, kvM]
    · have e'' : ¬ l1.length = j := fun q => e' q.symm
      simp only [if_neg e'', id_map']
      rcases Nat.lt_or_ge j l1.length with hlt | hge
      · rw [List.getElem?_append_left (by simpa using hlt)] at hj ⊢
        simpa using hj
      · rw [List.getElem?_append_right (by simpa using hge)] at hj ⊢
        simp only [List.length_map] at hj ⊢
        obtain ⟨d, hd⟩ : ∃ d, j - l1.length = d + 1 := ⟨j - l1.length - 1, by omega⟩
        rw [hd] at hj ⊢
        simpa using hj
  · have := hm.keys; simpa using this
  · rw [Array.toList_modify]
    have : (es.toList.modify l1.length fun e => { e with key := .string k, val := v }).map (·.born) = es.toList.map (·.born) := by
      apply List.ext_getElem?
      intro j
      simp only [List.getElem?_map, List.getElem?_modify]
      cases es.toList[j]? with
      | none => rfl
      | some e => by_cases q : l1.length = j <;> simp [q]
    rw [this]
    exact hm.borns
  · intro x hx
    rw [Array.toList_modify] at hx
    obtain ⟨j, hj⟩ := List.mem_iff_getElem?.1 hx
    rw [List.getElem?_modify] at hj
    cases hq : es.toList[j]? with
    | none => rw [hq] at hj; cases hj
    | some y =>
      rw [hq] at hj
      have := hm.old y (List.mem_of_getElem? hq)
      by_cases q : l1.length = j
      · simp [q] at hj; rw [← hj]; exact this
      · simp [q] at hj; rw [← hj]; exact this
theorem v_mapset_miss {Q : World → Prop} (hT : P.underlying T = some (.map K E)) (hK : P.underlying K = some .string) (h : St B w S ((r, .map es clock) :: L)) (hm : MapOk es clock m) (hk : k ∉ m.map Prod.fst)
    (kk : ∀ w' es', St B w' S ((r, .map es' (clock + 1)) :: L) → MapOk es' (clock + 1) (m ++ [(k, v)]) → Q w') : RunU P (Instr.mapUpdate T (.map (some r)) (.string k) v) w Q := by
  have hb := h.head.1
  have hg := MapKept.run_getObj_map (P := P) (w := w) hb
  refine ⟨_, ?_, kk _ (es.push { key := .string k, val := v, born := clock }) h.set ⟨?_, ?_, ?_, ?_⟩⟩
  · simp only [Instr.mapUpdate, Sem.run_bind, run_underlying hT, Result.andThen_ok, hg, run_checkKeyS hK, run_findKeyS hK hm, mfind_miss k m 0 hk, MapKept.run_setObj_map _ hb]
  · rw [Array.toList_push, List.map_append, List.map_append, hm.kv]; rfl
  · rw [List.map_append, List.nodup_append]
    refine ⟨hm.keys, by simp, ?_⟩
    intro a ha b hb' e
    simp at hb'
    subst e; subst hb'
    exact hk ha
  · rw [Array.toList_push, List.map_append, List.nodup_append]
    refine ⟨hm.borns, by simp, ?_⟩
    intro a ha b hb' e
    simp at hb'
    subst e; subst hb'
    obtain ⟨x, hx, e⟩ := List.mem_map.1 ha
    have := hm.old x hx
    omega
  · intro x hx
    rw [Array.toList_push, List.mem_append] at hx
    rcases hx with hx | hx
    · have := hm.old x hx; omega
    · simp at hx; subst hx; simp
theorem v_mapdel_hit {ty : TypeId} {Q : World → Prop} (hT : P.underlying T = some (.map K E)) (hK : P.underlying K = some .string) (h : St B w S ((r, .map es clock) :: L)) (hm : MapOk es clock (l1 ++ (k, v) :: l2))
    (kk : ∀ w' es', St B w' S ((r, .map es' clock) :: L) → MapOk es' clock (l1 ++ l2) → Q w') : RunV P (Builtin.delete_ #[T, K] ty #[.map (some r), .string k]) w (ret0 Q) := by
  have hb := h.head.1
  have hg := MapKept.run_getObj_map (P := P) (w := w) hb
  have her : ∀ {α : Type} (l : List α) (f : MapEntry → α), (es.eraseIdxIfInBounds l1.length).toList.map f = (es.toList.map f).eraseIdx l1.length := fun l f => by
    rw [Array.toList_eraseIdxIfInBounds, map_eraseIdx]
  refine ⟨.tuple #[], _, ?_, rfl, kk _ (es.eraseIdxIfInBounds l1.length) h.set ⟨?_, ?_, ?_, ?_⟩⟩
  · simp [Builtin.delete_, run_underlying hT, hg, run_checkKeyS hK, run_findKeyS hK hm, mfind_hit k v l2 l1 0 (not_mem_left hm.keys), MapKept.run_setObj_map _ hb]
  · rw [her [] kvE, hm.kv, List.map_append, List.map_cons, List.eraseIdx_append_of_length_le (by simp)]
    simp
  · have := hm.keys
    rw [List.map_append, List.map_cons] at this
    rw [List.map_append]
    exact (List.Sublist.append (List.Sublist.refl _) (List.sublist_cons_self _ _)).nodup this
  · rw [her [] (·.born)]
    exact (List.eraseIdx_sublist _ _).nodup hm.borns
  · intro x hx
    rw [Array.toList_eraseIdxIfInBounds] at hx
    exact hm.old x ((List.eraseIdx_sublist _ _).subset hx)
theorem v_mapdel_miss {ty : TypeId} {Q : World → Prop} (hT : P.underlying T = some (.map K E)) (hK : P.underlying K = some .string) (h : St B w S ((r, .map es clock) :: L)) (hm : MapOk es clock m) (hk : k ∉ m.map Prod.fst)
    (kk : ∀ w', St B w' S ((r, .map es clock) :: L) → Q w') : RunV P (Builtin.delete_ #[T, K] ty #[.map (some r), .string k]) w (ret0 Q) := by
  have hb := h.head.1
  have hg := MapKept.run_getObj_map (P := P) (w := w) hb
  refine ⟨.tuple #[], _, ?_, rfl, kk _ h.set⟩
  simp [Builtin.delete_, run_underlying hT, hg, run_checkKeyS hK, run_findKeyS hK hm, mfind_miss k m 0 hk, MapKept.run_setObj_map _ hb]
/-! ### Going through a map -/
theorem v_range {K' : Option Addr → World → Prop} (hT : P.underlying T = some (.map K E)) (h : St B w S L) (hb : hp w r = some (.map es clock)) (kk : ∀ it w', St B w' S ((it, .mapIter (some r) clock #[] clock) :: L) → K' (some ⟨it, 0, none⟩) w') :
    RunV P (Instr.range T (.map (some r))) w (ret1 tP K') :=
  ⟨_, _, run_range_map w T K E r es clock hT hb, some ⟨w.heap.size, 0, none⟩, rfl, kk _ _ (h.alloc _)⟩
/-- What the iterator has not handed out yet. -/
def IterSt (es : Array MapEntry) (seen : Array Nat) (rest : MapL) : Prop := ((leftOf es seen).toList.map kvE).Perm (rest.map kvM)
theorem IterSt.start (hm : MapOk es clock m) : IterSt es #[] m := by
  unfold IterSt
  rw [← hm.kv]
  have : leftOf es #[] = es := by unfold leftOf; simp
  rw [this]
theorem perm_split {α : Type} {a : α} {l : List α} {l' : List α} (h : (a :: l).Perm l') : ∃ s t, l' = s ++ a :: t ∧ l.Perm (s ++ t) := by
  obtain ⟨s, t, rfl⟩ := List.append_of_mem (h.mem_iff.1 (List.mem_cons_self ..))
  exact ⟨s, t, rfl, (h.trans List.perm_middle).cons_inv⟩
theorem IterSt.step {seen : Array Nat} {rest : MapL} (hm : MapOk es clock m) (hi : IterSt es seen rest) {e : MapEntry} (he : e ∈ (leftOf es seen).toList) : ∃ s t key, e.key = .string key ∧ rest = s ++ (key, e.val) :: t ∧ IterSt es (seen.push e.born) (s ++ t) := by
  obtain ⟨a, b, hab⟩ := List.append_of_mem he
  have hnd : ((leftOf es seen).toList.map (·.born)).Nodup := by
    have : List.Sublist (leftOf es seen).toList es.toList := by unfold leftOf; rw [Array.toList_filter]; exact List.filter_sublist
    exact (this.map _).nodup hm.borns
  have hperm : (kvE e :: (a ++ b).map kvE).Perm (rest.map kvM) := by
    refine List.Perm.trans ?_ hi
    rw [hab, List.map_append, List.map_append, List.map_cons]
    exact List.perm_middle.symm
  obtain ⟨s', t', hst, hp'⟩ := perm_split hperm
  obtain ⟨s, t2, hs1, hs2, hs3⟩ := List.map_eq_append_iff.1 hst
  obtain ⟨p, t, ht1, ht2, ht3⟩ := List.map_eq_cons_iff.1 hs3
  subst ht1
  simp only [kvM, kvE, Prod.mk.injEq] at ht2
  refine ⟨s, t, p.1, ht2.1.symm, by rw [hs1, ← ht2.2], ?_⟩
  unfold IterSt
  have hleft : (leftOf es (seen.push e.born)).toList = a ++ b := by
    have h1 : (leftOf es (seen.push e.born)).toList = (leftOf es seen).toList.filter (fun x => !(x.born == e.born)) := by
      unfold leftOf
      rw [Array.toList_filter, Array.toList_filter, List.filter_filter]
      congr 1
      funext x
      rw [contains_push]
      cases seen.contains x.born <;> cases (x.born == e.born) <;> rfl
    rw [h1, hab, List.filter_append, List.filter_cons]
    rw [hab, List.map_append, List.map_cons, List.nodup_append] at hnd
    have hb1 := (List.nodup_cons.1 hnd.2.1).1
    simp only [beq_self_eq_true, Bool.not_true, Bool.false_eq_true, if_false]
    congr 1
    · refine List.filter_eq_self.2 fun x hx => ?_
      have := hnd.2.2 x.born (List.mem_map.2 ⟨x, hx, rfl⟩) e.born (List.mem_cons_self ..)
      simpa using this
    · refine List.filter_eq_self.2 fun x hx => ?_
      have : x.born ≠ e.born := fun q => hb1 (List.mem_map.2 ⟨x, hx, q⟩)
      simpa using this
  rw [hleft, (show (s ++ t).map kvM = s' ++ t' by rw [List.map_append, hs2, ht3])]
  exact hp'
theorem IterSt.done {seen : Array Nat} {rest : MapL} (hi : IterSt es seen rest) (h : (leftOf es seen).size = 0) : rest = [] := by
  have : (leftOf es seen).toList = [] := List.eq_nil_of_length_eq_zero (by simpa using h)
  unfold IterSt at hi
  rw [this] at hi
  have := hi.length_eq
  simp at this
  exact List.eq_nil_of_length_eq_zero this.symm
/-- A step of the iterator, and its reading. -/
theorem v_next {it : Nat} {seen : Array Nat} {rest : MapL} {β : Type} {t2 : Ty β} {D : World → Prop} {Kb : ByteArray → β → World → Prop} (h : St B w S ((it, .mapIter (some r) clock seen clock) :: L)) (hb : hp w r = some (.map es clock)) (hm : MapOk es clock m) (hi : IterSt es seen rest)
    (hd : rest = [] → D w)
    (hk : ∀ s t key v w' seen', rest = s ++ (key, v) :: t → IterSt es seen' (s ++ t) → St B w' S ((it, .mapIter (some r) clock seen' clock) :: L) → hp w' r = some (.map es clock) → ∃ x, v = t2.val x ∧ Kb key x w') :
    (∃ w2, (Instr.next (.pointer (some ⟨it, 0, none⟩)) false 0).run P w = .ok (.tuple [.bool false].toArray) w2 ∧ D w2) ∨
    (∃ rs w3, (Instr.next (.pointer (some ⟨it, 0, none⟩)) false 0).run P w = .ok (.tuple (.bool true :: rs).toArray) w3 ∧ RunV P (Instr.entry (.pointer (some ⟨it, 0, none⟩))) w3 (ret2 tS t2 Kb)) := by
  have hit := h.head.1
  have hne : r ≠ it := fun e => by subst e; rw [hit] at hb; cases hb
  have hit' : w.heap[it]? = some (.mapIter (some r) clock seen clock) := hit
  have hb' : w.heap[r]? = some (.map es clock) := hb
  simp only [Instr.next, getObj, Sem.run_bind, Sem.run, hit', hb', Result.andThen, next_test_false seen es clock clock hm.old (Nat.le_refl _), Bool.false_eq_true, if_false]
  have hl : es.filter (fun e => !seen.contains e.born) = leftOf es seen := rfl
  simp only [hl]
  have hmem : ∀ x ∈ (leftOf es seen).toList, x.born < clock := fun x hx => hm.old x (mem_left hx).1
  have hin : ∀ e ∈ (leftOf es seen).toList, e ∈ es.toList := fun e he => (mem_left he).1
  have hstep := fun e he => IterSt.step (e := e) hm hi he
  have hdone := fun q => hi.done q
  generalize leftOf es seen = Lf at hmem hin hstep hdone ⊢
  have e1 : Lf.filter (fun x => decide (x.born < clock)) = Lf := Array.filter_eq_self.2 (fun x hx => by simpa using hmem x (by simpa using hx))
  have e2 : Lf.filter (fun x => decide (x.born ≥ clock)) = #[] := by
    rw [Array.filter_eq_empty_iff]
    intro x hx
    have := hmem x (by simpa using hx)
    simp
    omega
  simp only [e1, e2, Array.append_empty]
  by_cases h0 : Lf.size = 0
  · left
    have hd' := hd (hdone h0)
    have : Lf = #[] := Array.eq_empty_of_size_eq_zero h0
    subst this
    refine ⟨w, ?_, hd'⟩
    simp [choose, Sem.run, Question.forced]
  · right
    have hne : Lf.isEmpty = false := by simp [Array.isEmpty, h0]
    simp only [hne, Bool.false_eq_true, if_false, Array.empty_append, Array.size_map]
    have hch : ∃ (j : Nat) (w1 : World), j < Lf.size ∧ SameW w w1 ∧ (choose (Question.mapNext Lf.size)).run P w = .ok j w1 := by
      by_cases hf : Lf.size ≤ 1
      · exact ⟨0, w, by omega, SameW.refl w, by simp [choose, Sem.run, Question.forced, hf]⟩
      · exact ⟨_, w.drew, Nat.mod_lt _ (by omega), ⟨rfl, rfl, rfl⟩, by
          simp only [choose, Sem.run, Question.forced, decide_eq_true_eq, hf, if_false, Question.cut]
          rfl⟩
    obtain ⟨j, w1, hj, hal, hrun⟩ := hch
    obtain ⟨s, t, key, hkey, hrest, hi'⟩ := hstep Lf[j] (by simp)
    have h1 : St B w1 S ((it, .mapIter (some r) clock seen clock) :: L) := h.same hal
    have hset : (setObj it (.mapIter (some r) clock (seen.push (Lf[j]).born) clock)).run P w1 = .ok () { w1 with heap := w1.heap.setIfInBounds it (.mapIter (some r) clock (seen.push (Lf[j]).born) clock) } := by
      have : w1.heap[it]? = some (.mapIter (some r) clock seen clock) := h1.head.1
      simp only [setObj, Sem.run, this]
    have h2 : St B _ S ((it, .mapIter (some r) clock (seen.push (Lf[j]).born) clock) :: L) := h1.set
    have hb1 : hp w1 r = some (.map es clock) := by rw [hal.hp]; exact hb
    have hb2 := hp_set w1 it _ (.mapIter (some r) clock (seen.push (Lf[j]).born) clock) h1.head.1 r
    rw [if_neg ‹r ≠ it›, hb1] at hb2
    obtain ⟨x, hx, hK⟩ := hk s t key (Lf[j]).val _ _ hrest hi' h2 hb2
    refine ⟨[(Lf[j]).key, (Lf[j]).val], { w1 with heap := w1.heap.setIfInBounds it (.mapIter (some r) clock (seen.push (Lf[j]).born) clock) }, ?_, .tuple #[(Lf[j]).key, (Lf[j]).val], _, ?_, key, x, by rw [hkey, hx]; rfl, hK⟩
    · simp only [hrun, Array.getElem?_map, Array.getElem?_eq_getElem hj, Option.map_some, Sem.run_bind, hset, Result.andThen]
      rfl
    · have hf : es.find? (·.born == (Lf[j]).born) = some Lf[j] := by rw [← Array.find?_toList]; exact find_born Lf[j] es.toList hm.borns (hin _ (by simp))
      have q1 := h2.head.1
      unfold hp at q1 hb2
      simp only [Instr.entry, getObj, Sem.run_bind, Sem.run, q1, hb2, Result.andThen, Array.back?_push, bne_self_eq_false, Bool.false_eq_true, if_false, hf]
      rfl
end
end Go.Vc
