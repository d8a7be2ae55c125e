/- Verification conditions over the model's weakest preconditions: frames as lists of slots, rules for code and operations. -/
import Derived.WalkKit
import Derived.Laws.IdiomCopy
import Derived.Deep.Draws
import Derived.KernelRfl
namespace Go.Vc
set_option linter.unusedVariables false
set_option linter.unusedSimpArgs false

/-! ### 1. Frames -/
abbrev Fr := List (Nat × Value)
def look : Fr → Nat → Option Value
  | [], _ => none
  | p :: r, t => bif Nat.beq p.1 t then some p.2 else look r t
def ev (l : Fr) : Operand → Option Value
  | .tmp t => look l t
  | .const v => some v
  | .global g => some (.pointer (some ⟨g, 0, none⟩))
  | .func f => some (.func (.func f) #[] #[])
structure Ag (n : Nat) (a : Act) (l : Fr) : Prop where
  defers : a.defers = []
  size : a.tmps.size = n
  at_ : ∀ t v, look l t = some v → t < n ∧ a.tmps.getD t undef = v
theorem Ag.eval {n : Nat} {a : Act} {l : Fr} (h : Ag n a l) {x : Operand} {v : Value} (hx : ev l x = some v) : a.eval x = v := by
  cases x with
  | tmp t => exact (h.at_ t v hx).2
  | const c => simpa [ev, Act.eval] using hx
  | global g => simpa [ev, Act.eval] using hx
  | func f => simpa [ev, Act.eval] using hx
def putF (l : Fr) : Option Nat → Value → Fr
  | some d, v => (d, v) :: l
  | none, _ => l
def dstOk (n : Nat) : Option Nat → Bool
  | some d => Nat.ble (d + 1) n
  | none => true
theorem Ag.put {n : Nat} {a : Act} {l : Fr} (h : Ag n a l) {d : Option Nat} (hd : dstOk n d = true) (v : Value) : Ag n (a.put d v) (putF l d v) := by
  cases d with
  | none => exact h
  | some d =>
    have hd' : d < n := Nat.le_of_ble_eq_true hd
    refine ⟨h.defers, by simp [Act.put, h.size], fun t u ht => ?_⟩
    simp only [putF, look] at ht
    by_cases e : d = t
    · subst e
      have : Nat.beq d d = true := Nat.beq_refl d
      rw [this] at ht
      simp only [cond_true, Option.some.injEq] at ht
      subst ht
      exact ⟨hd', by simp [Act.put, Array.getD, h.size, hd']⟩
    · have hb : Nat.beq d t = false := by
        cases hq : Nat.beq d t with
        | false => rfl
        | true => exact absurd (Nat.eq_of_beq_eq_true hq) e
      rw [hb] at ht
      simp only [cond_false] at ht
      obtain ⟨h1, h2⟩ := h.at_ t u ht
      refine ⟨h1, ?_⟩
      rw [← h2]
      simp [Act.put, Array.getD, h.size, h1, Array.getElem_setIfInBounds, e]
def AllIn : Fr → Fr → Prop
  | [], _ => True
  | p :: r, l => look l p.1 = some p.2 ∧ AllIn r l
theorem AllIn.look {l' l : Fr} (h : AllIn l' l) {t : Nat} {v : Value} (ht : look l' t = some v) : look l t = some v := by
  induction l' with
  | nil => cases ht
  | cons p r ih =>
    simp only [Vc.look] at ht
    cases hq : Nat.beq p.1 t with
    | true =>
      rw [hq] at ht
      simp only [cond_true, Option.some.injEq] at ht
      subst ht
      rw [← Nat.eq_of_beq_eq_true hq]
      exact h.1
    | false =>
      rw [hq] at ht
      exact ih h.2 ht
theorem Ag.sub {n : Nat} {a : Act} {l l' : Fr} (h : Ag n a l) (hs : AllIn l' l) : Ag n a l' :=
  ⟨h.defers, h.size, fun t v ht => h.at_ t v (hs.look ht)⟩
/-- The first frame of a call: the arguments, then nothing known. -/
def argsF : Nat → List Value → Fr
  | _, [] => []
  | k, v :: r => (k, v) :: argsF (k + 1) r
theorem look_argsF : ∀ (vs : List Value) (k t : Nat) (v : Value), look (argsF k vs) t = some v → k ≤ t ∧ vs[t - k]? = some v
  | [], k, t, v, h => by cases h
  | u :: r, k, t, v, h => by
    simp only [argsF, look] at h
    cases hq : Nat.beq k t with
    | true =>
      rw [hq] at h
      have := Nat.eq_of_beq_eq_true hq
      subst this
      simpa using h
    | false =>
      rw [hq] at h
      obtain ⟨h1, h2⟩ := look_argsF r (k + 1) t v h
      refine ⟨by omega, ?_⟩
      rw [show t - k = (t - (k + 1)) + 1 by omega]
      simpa using h2
theorem Ag.start (n : Nat) (vs : List Value) (hn : Nat.ble vs.length n = true) :
    Ag n { tmps := vs.toArray ++ Array.replicate (n - vs.toArray.size) undef, defers := [] } (argsF 0 vs) := by
  have hn' := Nat.le_of_ble_eq_true hn
  refine ⟨rfl, by simp; omega, fun t v ht => ?_⟩
  obtain ⟨_, h2⟩ := look_argsF vs 0 t v ht
  simp only [Nat.sub_zero] at h2
  have hlt : t < vs.length := (List.getElem?_eq_some_iff.1 h2).1
  refine ⟨by omega, ?_⟩
  have hget := (List.getElem?_eq_some_iff.1 h2).2
  simp [Array.getD, Array.getElem_append, hlt, hget]
  omega

/-! ### 2. Code -/
abbrev Kont := Act → World → Prop
def lookX : List (Nat × Kont) → Nat → Kont
  | [], _ => fun _ _ => False
  | p :: r, i => bif Nat.beq p.1 i then p.2 else lookX r i
def mkQ (K : Kont) (E : List (Nat × Kont)) (R : Kont) : Exit → Act → World → Prop
  | .normal, a, w => K a w
  | .exit i, a, w => lookX E i a w
  | .ret, a, w => R a w
  | _, _, _ => False
variable {P : Program} {n : Nat} {ops : Array Oper} {K : Kont} {E : List (Nat × Kont)} {R : Kont} {l : Fr} {w : World}
def WC (P : Program) (n : Nat) (c : Code) (K : Kont) (E : List (Nat × Kont)) (R : Kont) (l : Fr) (w : World) : Prop := ∀ a, Ag n a l → c.wp P (mkQ K E R) a w
def WL (P : Program) (n : Nat) (ops : Array Oper) (K : Kont) (E : List (Nat × Kont)) (R : Kont) (rest : List Oper) (l : Fr) (w : World) : Prop := ∀ a, Ag n a l → wpList P ops (mkQ K E R) rest a w
def Lf (n : Nat) (X : Kont) (l : Fr) (w : World) : Prop := ∀ a, Ag n a l → X a w
def thenC (P : Program) (c : Code) (K : Kont) (E : List (Nat × Kont)) (R : Kont) : Kont := fun a w => c.wp P (mkQ K E R) a w
def joinA {α : Type} (n : Nat) (fr : α → Fr) (k : α → World → Prop) : Kont := fun a w => ∃ x, Ag n a (fr x) ∧ k x w

theorem WC.seq {c d : Code} (h : WC P n c (thenC P d K E R) E R l w) : WC P n (.seq c d) K E R l w := fun a ha =>
  wp_seq (wp_mono (h a ha) fun e a w q => by cases e <;> exact q)
theorem WC.cut {α : Type} {c d : Code} {k : α → World → Prop} (fr : α → Fr) (hd : ∀ x w, k x w → WC P n d K E R (fr x) w) (h : WC P n c (joinA n fr k) E R l w) : WC P n (.seq c d) K E R l w := fun a ha =>
  wp_seq (wp_mono (h a ha) fun e a w q => by
    cases e with
    | normal => obtain ⟨x, hx, hk⟩ := q; exact hd x w hk a hx
    | _ => exact q)
theorem WC.cond {c : Operand} {x y : Code} {b : Bool} (hc : ev l c = some (.bool b)) (ht : b = true → WC P n x K E R l w) (hf : b = false → WC P n y K E R l w) : WC P n (.cond c x y) K E R l w := fun a ha =>
  wp_cond_split (ha.eval hc) (fun h => ht h a ha) (fun h => hf h a ha)
theorem WC.condT {c : Operand} {x y : Code} (hc : ev l c = some (.bool true)) (h : WC P n x K E R l w) : WC P n (.cond c x y) K E R l w := WC.cond hc (fun _ => h) (fun e => by cases e)
theorem WC.condF {c : Operand} {x y : Code} (hc : ev l c = some (.bool false)) (h : WC P n y K E R l w) : WC P n (.cond c x y) K E R l w := WC.cond hc (fun e => by cases e) (fun _ => h)
theorem WC.condD {c : Operand} {x y : Code} {p : Prop} [Decidable p] (hc : ev l c = some (.bool (decide p))) (ht : p → WC P n x K E R l w) (hf : ¬ p → WC P n y K E R l w) : WC P n (.cond c x y) K E R l w :=
  WC.cond hc (fun h => ht (of_decide_eq_true h)) (fun h => hf (of_decide_eq_false h))
theorem WC.block {i : Nat} {c : Code} (h : WC P n c K ((i, K) :: E) R l w) : WC P n (.block i c) K E R l w := fun a ha =>
  wp_block (wp_mono (h a ha) fun e a w q => by
    cases e with
    | exit j =>
      simp only [mkQ, lookX] at q
      by_cases e : j = i
      · subst e
        have : Nat.beq j j = true := Nat.beq_refl j
        rw [this] at q
        simpa [Exit.inBlock, mkQ] using q
      · have hb : Nat.beq i j = false := by
          cases hq : Nat.beq i j with
          | false => rfl
          | true => exact absurd (Nat.eq_of_beq_eq_true hq).symm e
        rw [hb] at q
        simpa [Exit.inBlock, e, mkQ] using q
    | _ => exact q)
theorem WC.skip (h : Lf n K l w) : WC P n .skip K E R l w := fun a ha => wp_skip (h a ha)
theorem WC.exit {i : Nat} {X : Kont} (hX : lookX E i = X) (h : Lf n X l w) : WC P n (.exit i) K E R l w := fun a ha => wp_exit (by show lookX E i a w; rw [hX]; exact h a ha)
theorem WC.ret (h : Lf n R l w) : WC P n .ret K E R l w := fun a ha => wp_ret (h a ha)
theorem WC.region {i : Nat} {ol : List Oper} (h : WL P n ol.toArray K E R ol l w) : WC P n (.region i ol.toArray false) K E R l w := fun a ha => wp_region_lit (h a ha)
theorem WC.sub {c : Code} {l' : Fr} (hs : AllIn l' l) (h : WC P n c K E R l' w) : WC P n c K E R l w := fun a ha => h a (ha.sub hs)
theorem WL.sub {rest : List Oper} {l' : Fr} (hs : AllIn l' l) (h : WL P n ops K E R rest l' w) : WL P n ops K E R rest l w := fun a ha => h a (ha.sub hs)
theorem Lf.thenC {c : Code} {K' : Kont} {E' : List (Nat × Kont)} {R' : Kont} (h : WC P n c K' E' R' l w) : Lf n (thenC P c K' E' R') l w := fun a ha => h a ha
theorem Lf.joinA {α : Type} {fr : α → Fr} {k : α → World → Prop} (x : α) (hs : AllIn (fr x) l) (h : k x w) : Lf n (joinA n fr k) l w := fun a ha => ⟨x, ha.sub hs, h⟩

/-- A loop, from its body on. -/
def LoopIn (P : Program) (c : Code) (Q : Exit → Act → World → Prop) (a : Act) (w : World) : Prop :=
  ∀ (b : Frame) (k : List Item) (cs : List Frame), ∃ e a' w', Q e a' w' ∧ Arrives P (lone (b.at a (.code c :: .inLoop c :: k)) cs w) b k cs e a' w'
theorem LoopIn.round {c : Code} {Q : Exit → Act → World → Prop} {a : Act} {w : World} (h : c.wp P (Exit.then (LoopIn P c Q) Q) a w) : LoopIn P c Q a w := by
  intro b k cs
  obtain ⟨e, a₁, w₁, hq, harr⟩ := h b (.inLoop c :: k) cs
  cases e with
  | normal =>
    obtain ⟨e₂, a₂, w₂, hq₂, harr₂⟩ := hq b k cs
    exact ⟨e₂, a₂, w₂, hq₂, .of_steps (Steps.trans harr (.one step_inLoop)) harr₂⟩
  | exit id => exact ⟨_, a₁, w₁, hq, .pass (x := .inLoop c) rfl (fun _ _ => .inl (by simp)) harr⟩
  | goto l => exact ⟨_, a₁, w₁, hq, .pass (x := .inLoop c) rfl (fun _ _ => .inl (by simp)) harr⟩
  | ret => exact ⟨_, a₁, w₁, hq, .pass (x := .inLoop c) rfl (fun _ _ => .inl (by simp)) harr⟩
  | panic ch => exact ⟨_, a₁, w₁, hq, .pass (x := .inLoop c) rfl (fun _ _ => .inl (by simp)) harr⟩
  | outgrown => exact ⟨_, a₁, w₁, hq, .pass (x := .inLoop c) rfl (fun _ _ => .inl (by simp)) harr⟩
theorem LoopIn.wp {c : Code} {Q : Exit → Act → World → Prop} {a : Act} {w : World} (h : LoopIn P c Q a w) : (Code.loop c).wp P Q a w := fun b k cs =>
  let ⟨e, a', w', q, r⟩ := h b k cs; ⟨e, a', w', q, .of_steps (.one step_loop) r⟩
/-- The least relation that a loop's rounds close: what a loop must show of its first state. -/
def LoopP {α : Type} (Body : α → World → (α → World → Prop) → Prop) (x : α) (w : World) : Prop :=
  ∀ J : α → World → Prop, (∀ x w, Body x w J → J x w) → J x w
theorem WC.loop {α : Type} {c : Code} (fr : α → Fr) {Body : α → World → (α → World → Prop) → Prop} (x : α) (hs : AllIn (fr x) l) (h : LoopP Body x w)
    (hb : ∀ (J : α → World → Prop) x w, Body x w J → WC P n c (joinA n fr J) E R (fr x) w) : WC P n (.loop c) K E R l w := by
  have key : ∀ a, Ag n a (fr x) → LoopIn P c (mkQ K E R) a w := by
    refine h (fun x w => ∀ a, Ag n a (fr x) → LoopIn P c (mkQ K E R) a w) fun x w hB a ha => ?_
    refine LoopIn.round (wp_mono (hb _ x w hB a ha) fun e a w q => ?_)
    cases e with
    | normal => obtain ⟨y, hy, hk⟩ := q; exact hk a hy
    | _ => exact q
  exact fun a ha => (key a (ha.sub hs)).wp

/-! ### 3. Operations -/
structure Wanted (n : Nat) (ops : Array Oper) (l : Fr) (o : Oper) : Prop where
  out : ∀ a, Ag n a l → Region.wanted o (yielded ops a.tmps) = true
theorem W0 {o : Oper} (h : o.guard = none) : Wanted n ops l o := ⟨fun a _ => by simp [Region.wanted, h]⟩
theorem yielded_of {j t : Nat} {o : Oper} {b : Bool} (ho : ops[j]? = some o) (hd : o.dst = some t) (hl : look l t = some (.bool b)) {a : Act} (ha : Ag n a l) : yielded ops a.tmps j = some b := by
  obtain ⟨h1, h2⟩ := ha.at_ t _ hl
  have hsz : t < a.tmps.size := by rw [ha.size]; exact h1
  have : a.tmps[t]? = some (.bool b) := by
    rw [← h2]
    simp [Array.getD, hsz]
  simp [yielded, ho, hd, this]
theorem W1 {o o' : Oper} {j t : Nat} {b : Bool} (h : o.guard = some (j, b)) (ho : ops[j]? = some o') (hd : o'.dst = some t) (hl : look l t = some (.bool b)) : Wanted n ops l o :=
  ⟨fun a ha => by simp [Region.wanted, h, yielded_of ho hd hl ha]⟩
theorem WL.unwanted {o o' : Oper} {j t : Nat} {b c : Bool} {rest : List Oper} (h : o.guard = some (j, b)) (ho : ops[j]? = some o') (hd : o'.dst = some t) (hl : look l t = some (.bool c)) (hne : (b == c) = false) (hdst : dstOk n o.dst = true)
    (k : WL P n ops K E R rest (putF l o.dst undef) w) : WL P n ops K E R (o :: rest) l w := fun a ha => by
  have hw : Region.wanted o (yielded ops a.tmps) = false := by
    have := yielded_of ho hd hl ha
    simp only [Region.wanted, h, this]
    cases b <;> cases c <;> simp_all
  unfold wpList
  rw [hw]
  simp only [Bool.false_eq_true, if_false]
  exact k _ (ha.put hdst _)
theorem WL.nil (h : Lf n K l w) : WL P n ops K E R [] l w := fun a ha => wpList_nil (h a ha)
theorem WL.val {o : Oper} {rest : List Oper} {v : Value} {w' : World} (hW : Wanted n ops l o) (hd : dstOk n o.dst = true) (hr : ∀ a, Ag n a l → (execOp a.eval o).run P w = .ok (.value v) w')
    (k : WL P n ops K E R rest (putF l o.dst v) w') : WL P n ops K E R (o :: rest) l w := fun a ha => by
  unfold wpList
  rw [hW.out a ha]
  simp only [if_true]
  refine .inl ?_
  unfold Oper.wp
  rw [hr a ha]
  exact k _ (ha.put hd v)
theorem WL.skp {o : Oper} {rest : List Oper} {w' : World} (hW : Wanted n ops l o) (hd : o.dst = none) (hr : ∀ a, Ag n a l → (execOp a.eval o).run P w = .ok .skip w')
    (k : WL P n ops K E R rest l w') : WL P n ops K E R (o :: rest) l w := fun a ha => by
  unfold wpList
  rw [hW.out a ha]
  simp only [if_true]
  refine .inl ?_
  unfold Oper.wp
  rw [hr a ha]
  show wpList P ops _ rest (a.put o.dst undef) w'
  rw [hd]
  exact k _ ha
/-- What a call must show: it returns, and then this holds. -/
def CallP (P : Program) (f : FuncId) (args : List Value) (w : World) (Q : Value → World → Prop) : Prop := Calls P f args.toArray w fun e w' => ∃ v, e = .returned v ∧ Q v w'
theorem WL.call {o : Oper} {rest : List Oper} {f : FuncId} {args : List Value} {Q : Value → World → Prop} (hW : Wanted n ops l o) (hd : dstOk n o.dst = true) (hr : ∀ a, Ag n a l → (execOp a.eval o).run P w = .ok (.enter f args.toArray) w)
    (h : CallP P f args w Q) (k : ∀ v w', Q v w' → WL P n ops K E R rest (putF l o.dst v) w') : WL P n ops K E R (o :: rest) l w := fun a ha => by
  unfold wpList
  rw [hW.out a ha]
  simp only [if_true]
  refine .inl ?_
  unfold Oper.wp
  rw [hr a ha]
  refine Calls.mono h ?_
  rintro e w' ⟨v, rfl, hq⟩
  exact k v w' hq _ (ha.put hd v)
/-- A slot's bool is parted. -/
theorem WL.bool {rest : List Oper} {t : Nat} {b : Bool} (hl : look l t = some (.bool b)) (ht : b = true → WL P n ops K E R rest ((t, .bool true) :: l) w) (hf : b = false → WL P n ops K E R rest ((t, .bool false) :: l) w) : WL P n ops K E R rest l w := by
  have sub : ∀ c, b = c → AllIn l l → True := fun _ _ _ => trivial
  intro a ha
  have add : ∀ c, b = c → Ag n a ((t, .bool c) :: l) := fun c e => ⟨ha.defers, ha.size, fun s v hs => by
    simp only [look] at hs
    cases hq : Nat.beq t s with
    | true =>
      rw [hq] at hs
      simp only [cond_true, Option.some.injEq] at hs
      have := Nat.eq_of_beq_eq_true hq
      subst this; subst hs; subst e
      exact ha.at_ t _ hl
    | false =>
      rw [hq] at hs
      exact ha.at_ s v hs⟩
  cases b with
  | true => exact ht rfl a (add true rfl)
  | false => exact hf rfl a (add false rfl)

/-! ### 4. A function -/
def retA (P : Program) (fn : Func) (Q : Value → World → Prop) : Kont := fun a w => a.defers = [] ∧ ∃ v, (results fn a.tmps).run P w = .ok v w ∧ Q v w
theorem CallP.of_body {f : FuncId} {fn : Func} {c : Code} {args : List Value} {Q : Value → World → Prop} (n : Nat) (hf : P.funcs[f]? = some fn) (hb : fn.body = some c) (hn : fn.ntmps = n) (ha : Nat.ble args.length n = true)
    (h : WC P n c (retA P fn Q) [] (retA P fn Q) (argsF 0 args) w) : CallP P f args w Q := by
  refine calls_of_wp hf hb ?_
  have hst := Ag.start n args ha
  rw [hn]
  refine wp_mono (h _ hst) fun e a w q => ?_
  cases e with
  | normal => obtain ⟨hd, v, hr, hq⟩ := q; exact ⟨hd, v, hr, v, rfl, hq⟩
  | ret => obtain ⟨hd, v, hr, hq⟩ := q; exact ⟨hd, v, hr, v, rfl, hq⟩
  | exit i => exact q
  | _ => exact q.elim
theorem Lf.ret0 {fn : Func} {Q : Value → World → Prop} (hr : fn.results = #[]) (h : Q (.tuple #[]) w) : Lf n (retA P fn Q) l w := fun a ha => ⟨ha.defers, _, results_none hr _ _ _, h⟩
theorem Lf.ret1 {fn : Func} {t : Nat} {v : Value} {Q : Value → World → Prop} (hr : fn.results = #[.tmp t]) (hl : look l t = some v) (h : Q v w) : Lf n (retA P fn Q) l w := fun a ha => ⟨ha.defers, _, results_tmp hr _ _ _, by rw [(ha.at_ t v hl).2]; exact h⟩
theorem Lf.ret2 {fn : Func} {t u : Nat} {v x : Value} {Q : Value → World → Prop} (hr : fn.results = #[.tmp t, .tmp u]) (hl : look l t = some v) (hx : look l u = some x) (h : Q (.tuple #[v, x]) w) : Lf n (retA P fn Q) l w :=
  fun a ha => ⟨ha.defers, _, results_tmp2 hr _ _ _, by rw [(ha.at_ t v hl).2, (ha.at_ u x hx).2]; exact h⟩
theorem Lf.ret3 {fn : Func} {t u s : Nat} {v x y : Value} {Q : Value → World → Prop} (hr : fn.results = #[.tmp t, .tmp u, .tmp s]) (hl : look l t = some v) (hx : look l u = some x) (hy : look l s = some y) (h : Q (.tuple #[v, x, y]) w) : Lf n (retA P fn Q) l w :=
  fun a ha => ⟨ha.defers, .tuple #[a.tmps.getD t undef, a.tmps.getD u undef, a.tmps.getD s undef], by simp [results, hr], by rw [(ha.at_ t v hl).2, (ha.at_ u x hx).2, (ha.at_ s y hy).2]; exact h⟩
end Go.Vc
