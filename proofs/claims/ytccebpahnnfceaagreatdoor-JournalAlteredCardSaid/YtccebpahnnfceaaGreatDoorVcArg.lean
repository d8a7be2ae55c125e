/- Arguments that came in, as lists. -/
import Derived.Test.YtccebpahnnfceaaGreatDoorVcMap
import Derived.ProofKit
import Derived.Deep.Slices
namespace Go.Vc
set_option linter.unusedVariables false
set_option linter.unusedSimpArgs false
section
variable {H : Type} {enc : TypeId × Value → H} {P : Program} {w : World} {base : Nat} {sp : Nat → Bool} {held : Bool} {t e : TypeId} {fuel : Nat}
theorem open_sl {cs : List Value} {x : DataW H × List MemPlace} (ht : P.underlying t = some (.slice e)) (hc : P.cellsOf e = 1) (h : DataW.trod enc P w base sp held fuel t cs = some x) :
    ∃ s vs, cs = [Sl.v s] ∧ s.cap ≤ maxLen ∧ RdV (hp w) 1 s vs ∧ ∀ v ∈ vs, ∃ n y, DataW.trod enc P w base sp held n e [v] = some y := by
  rcases Deep.open_slice1 ht hc h with ⟨rfl, _⟩ | ⟨a, len, cap, m, n, V, D, Pl, rfl, _, hl, hm, hmm, _, hV⟩
  · exact ⟨⟨none, 0, 0⟩, [], rfl, Nat.zero_le _, RdV.nil _ _, by simp⟩
  · have hlm : len ≤ m := by rw [hmm]; split <;> omega
    refine ⟨⟨some a, len, cap⟩, (List.range len).map V, rfl, hm, ⟨by simp, hl, fun hpos => ?_⟩, fun v hv => ?_⟩
    · have h0 := (hV 0 (Nat.lt_of_lt_of_le hpos hlm)).1
      have hspot : a.spot = none := by simpa [Addr.add] using World.cell?_spot h0
      obtain ⟨b, q, s⟩ := a
      dsimp only at hspot
      subst hspot
      refine ⟨b, q, rfl, fun j v hj => ?_⟩
      simp only [List.getElem?_map, Option.map_eq_some_iff] at hj
      obtain ⟨i, hi, rfl⟩ := hj
      obtain ⟨hlt, rfl⟩ := List.getElem?_eq_some_iff.1 hi
      simp only [List.length_range] at hlt
      simp only [List.getElem_range]
      have := (hV j (by omega)).1
      rw [Addr.add_lit, cell_hp] at this
      exact this
    · obtain ⟨i, hi, rfl⟩ := List.mem_map.1 hv
      exact ⟨n, _, (hV i (by have := List.mem_range.1 hi; omega)).2⟩
theorem list_of {α : Type} {f : α → Value} {R : α → Prop} : ∀ (vs : List Value), (∀ v ∈ vs, ∃ a, v = f a ∧ R a) → ∃ l : List α, vs = l.map f ∧ ∀ a ∈ l, R a
  | [], _ => ⟨[], rfl, by simp⟩
  | v :: vs, h => by
    obtain ⟨a, rfl, ha⟩ := h v (List.mem_cons_self ..)
    obtain ⟨l, rfl, hl⟩ := list_of vs fun u hu => h u (List.mem_cons_of_mem _ hu)
    refine ⟨a :: l, rfl, fun b hb => ?_⟩
    rcases List.mem_cons.1 hb with rfl | hb
    · exact ha
    · exact hl b hb
theorem all2_of {α β : Type} {R : α → β → Prop} : ∀ (as' : List α), (∀ a ∈ as', ∃ b, R a b) → ∃ bs, All2 R as' bs
  | [], _ => ⟨[], trivial⟩
  | a :: as', h => by
    obtain ⟨b, hb⟩ := h a (List.mem_cons_self ..)
    obtain ⟨bs, hbs⟩ := all2_of as' fun x hx => h x (List.mem_cons_of_mem _ hx)
    exact ⟨b :: bs, hb, hbs⟩
theorem open_u8 {v : Value} {y : DataW H × List MemPlace} (ht : P.underlying t = some (.int .u8)) (h : DataW.trod enc P w base sp held fuel t [v] = some y) : ∃ c : UInt8, v = bV c := by
  obtain ⟨k, e1, _, hw⟩ := DataW.trod_int ht h
  simp only [List.cons.injEq, and_true] at e1
  subst e1
  simp only [Lit.wf, IntKind.has, Bool.and_eq_true, decide_eq_true_eq] at hw
  refine ⟨UInt8.ofNat k.toNat, ?_⟩
  have h0 : 0 ≤ k := hw.1
  have h1 : k ≤ 255 := hw.2
  unfold bV
  rw [UInt8.toNat_ofNat']
  congr 1
  omega
theorem open_bl {v : Value} {y : DataW H × List MemPlace} (ht : P.underlying t = some .bool) (h : DataW.trod enc P w base sp held fuel t [v] = some y) : ∃ c : Bool, v = .bool c := by
  obtain ⟨k, e1, _⟩ := DataW.trod_bool ht h
  simp only [List.cons.injEq, and_true] at e1
  exact ⟨k, e1⟩
theorem open_i64 {v : Value} {y : DataW H × List MemPlace} (ht : P.underlying t = some (.int .i64)) (h : DataW.trod enc P w base sp held fuel t [v] = some y) : ∃ c : Int, v = .int .i64 c ∧ -9223372036854775808 ≤ c ∧ c ≤ 9223372036854775807 := by
  obtain ⟨k, e1, _, hw⟩ := DataW.trod_int ht h
  simp only [List.cons.injEq, and_true] at e1
  subst e1
  simp only [Lit.wf, IntKind.has, Bool.and_eq_true, decide_eq_true_eq] at hw
  exact ⟨k, rfl, hw.1, hw.2⟩
end
/-- The state in which a call begins: all that is there is given to all. -/
theorem St.start (w : World) : St (w.os, w.output) w (hp w) [] := ⟨rfl, rfl, Sub.refl _, by simp, List.nodup_nil⟩
theorem Stays {W W' : World} (h : St (W.os, W.output) W' (hp W) []) : ∀ k, k < W.heap.size → W'.heap[k]? = W.heap[k]? := fun k hk => by
  have e : W.heap[k]? = some W.heap[k] := Array.getElem?_eq_getElem hk
  rw [e]
  exact h.sh k _ e
end Go.Vc
