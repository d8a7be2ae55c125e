/- Verification conditions: operations on memory, calls. -/
import Derived.Test.YtccebpahnnfceaaGreatDoorVcDraw
import Derived.Scope
namespace Go.Vc
set_option linter.unusedVariables false
set_option linter.unusedSimpArgs false
variable {P : Program} {n : Nat} {l : Fr} {w : World} {o : Oper}
/-- The operation yields v and leaves w'. -/
def Rn (P : Program) (n : Nat) (l : Fr) (o : Oper) (w : World) (v : Value) (w' : World) : Prop := ∀ a, Ag n a l → (execOp a.eval o).run P w = .ok (.value v) w'
def Rs (P : Program) (n : Nat) (l : Fr) (o : Oper) (w w' : World) : Prop := ∀ a, Ag n a l → (execOp a.eval o).run P w = .ok .skip w'
theorem Pu.rn {v : Value} (h : Pu P n l o v) (w : World) : Rn P n l o w v w := fun a ha => h a ha w
theorem Ag.evals {a : Act} (ha : Ag n a l) : ∀ (xs : List Operand) (vs : List Value), xs.map (ev l) = vs.map some → xs.map a.eval = vs
  | [], vs, h => by cases vs <;> simp_all
  | x :: xs, vs, h => by
    cases vs with
    | nil => simp at h
    | cons v vs =>
      simp only [List.map_cons, List.cons.injEq] at h ⊢
      exact ⟨ha.eval h.1, Ag.evals ha xs vs h.2⟩
/-! ### Loads, stores, new blocks -/
theorem Rd.load {T : TypeId} {α : Type} {t : Ty α} {x : Operand} {b q : Nat} {u : α} (ht : TyOk P T t) (ho : o.op = .load T x) (hx : ev l x = some (.pointer (some ⟨b, q, none⟩))) : ∀ a, Ag n a l → ∀ w, CellsAt w b q (t.cells u) → (execOp a.eval o).run P w = .ok (.value (t.val u)) w := fun a ha w hc => by
  simp [execOp, ho, Instr.loadAt, ha.eval hx, Instr.sureAddr, run_loadVar ht hc]
theorem Rs.store {T : TypeId} {α : Type} {t : Ty α} {x y : Operand} {b q : Nat} {u : α} (ht : TyOk P T t) (ho : o.op = .store T x y) (hx : ev l x = some (.pointer (some ⟨b, q, none⟩))) (hy : ev l y = some (t.val u)) (hc : WrAt w b q (t.cells u).length) : Rs P n l o w (w.setCells b q (t.cells u)) := fun a ha => by
  simp [execOp, ho, Instr.storeAt, ha.eval hx, ha.eval hy, Instr.sureAddr, run_storeVar ht hc]
theorem Rn.alloc {T : TypeId} {z : Value} {cs : List Value} (ho : o.op = .alloc T) (hz : (P.info? T).bind (·.zero) = some z) (hc : z.cells = cs.toArray) : Rn P n l o w (.pointer (some ⟨w.heap.size, 0, none⟩)) (w.alloc (.cells cs.toArray T)) := fun a ha => by
  obtain ⟨i, hi, hzi⟩ : ∃ i, P.info? T = some i ∧ i.zero = some z := by
    cases hi : P.info? T with
    | none => rw [hi] at hz; cases hz
    | some i => rw [hi] at hz; exact ⟨i, rfl, hz⟩
  simp [execOp, ho, Instr.alloc, zeroValue, typeInfo, hi, hzi, newVar, newRow, hc]
theorem Rn.box {T : TypeId} {x : Operand} {v : Value} {cs : List Value} (ho : o.op = .box T x) (hx : ev l x = some v) (hc : v.cells = cs.toArray) : Rn P n l o w (.pointer (some ⟨w.heap.size, 0, none⟩)) (w.alloc (.cells cs.toArray T)) := fun a ha => by
  simp [execOp, ho, Instr.box, ha.eval hx, newVar, newRow, hc]
theorem Rn.makeMap {T : TypeId} (ho : o.op = .makeMap T none) : Rn P n l o w (.map (some w.heap.size)) (w.alloc (.map #[] 0)) := fun a ha => by
  simp [execOp, ho, Instr.makeMap]
theorem parts_eval {a : Act} (ha : Ag n a l) {parts : List (Nat × Operand)} {vs : List (Nat × Value)} (hv : parts.map (fun p => (p.1, ev l p.2)) = vs.map (fun p => (p.1, some p.2))) : parts.toArray.map (fun (i, x) => (i, a.eval x)) = vs.toArray := by
  have : ∀ (parts : List (Nat × Operand)) (vs : List (Nat × Value)), parts.map (fun p => (p.1, ev l p.2)) = vs.map (fun p => (p.1, some p.2)) → parts.map (fun p => (p.1, a.eval p.2)) = vs := by
    intro ps
    induction ps with
    | nil => intro vs h; cases vs <;> simp_all
    | cons p ps ih =>
      intro vs h
      cases vs with
      | nil => simp at h
      | cons v vs =>
        simp only [List.map_cons, List.cons.injEq, Prod.mk.injEq] at h ⊢
        refine ⟨?_, ih vs h.2⟩
        rw [ha.eval h.1.2, h.1.1]
  have h := this _ _ hv
  rw [← h]
  simp
theorem Pu.build {T : TypeId} {parts : List (Nat × Operand)} {vs : List (Nat × Value)} {v : Value} (ho : o.op = .build T parts.toArray) (hv : parts.map (fun p => (p.1, ev l p.2)) = vs.map (fun p => (p.1, some p.2))) (hr : ∀ w, (Instr.build T vs.toArray).run P w = .ok v w) : Pu P n l o v := fun a ha w => by
  have hp := parts_eval ha hv
  simp only [execOp, ho, hp, Sem.run_bind, hr, Result.andThen_ok, Sem.run_pure]
theorem Rn.buildSlice {T E : TypeId} {k : Nat} {parts : List (Nat × Operand)} {vs : List (Nat × Value)} {cs : List Value} (ho : o.op = .buildSlice T k parts.toArray) (hv : parts.map (fun p => (p.1, ev l p.2)) = vs.map (fun p => (p.1, some p.2)))
    (hr : ∀ w, (Instr.buildSlice T k vs.toArray).run P w = .ok (.slice (some ⟨w.heap.size, 0, none⟩) k k) (w.alloc (.cells cs.toArray E))) : Rn P n l o w (Sl.v ⟨some ⟨w.heap.size, 0, none⟩, k, k⟩) (w.alloc (.cells cs.toArray E)) := fun a ha => by
  have hp := parts_eval ha hv
  simp only [execOp, ho, hp, Sem.run_bind, hr, Result.andThen_ok, Sem.run_pure, Sl.v]
/-! ### What is told by its run -/
/-- What a piece of the model must come to. -/
def RunV (P : Program) (s : Sem Value) (w : World) (Q : Value → World → Prop) : Prop := ∃ v w', s.run P w = .ok v w' ∧ Q v w'
def RunU (P : Program) (s : Sem Unit) (w : World) (Q : World → Prop) : Prop := ∃ w', s.run P w = .ok () w' ∧ Q w'
section
variable {x y z : Operand} {u v r : Value} {w' : World} {U : Array TypeId} {T : TypeId}
theorem Rn.append (ho : o.op = .call { callee := .builtin .append, args := #[x, y], argTypes := U }) (hx : ev l x = some u) (hy : ev l y = some v) (hr : (Builtin.append_ U o.type #[u, v]).run P w = .ok r w') : Rn P n l o w r w' := fun a ha => by
  simp [execOp, ho, resolve, invoke, builtin, ha.eval hx, ha.eval hy, hr]
theorem Rn.copy (ho : o.op = .call { callee := .builtin .copy, args := #[x, y], argTypes := U }) (hx : ev l x = some u) (hy : ev l y = some v) (hr : (Builtin.copy_ U o.type #[u, v]).run P w = .ok r w') : Rn P n l o w r w' := fun a ha => by
  simp [execOp, ho, resolve, invoke, builtin, ha.eval hx, ha.eval hy, hr]
theorem Rn.delete (ho : o.op = .call { callee := .builtin .delete, args := #[x, y], argTypes := U }) (hx : ev l x = some u) (hy : ev l y = some v) (hr : (Builtin.delete_ U o.type #[u, v]).run P w = .ok r w') : Rn P n l o w r w' := fun a ha => by
  simp [execOp, ho, resolve, invoke, builtin, ha.eval hx, ha.eval hy, hr]
theorem Rn.lenM (ho : o.op = .call { callee := .builtin .len, args := #[x], argTypes := U }) (hx : ev l x = some u) (hr : (Builtin.len_ U o.type #[u]).run P w = .ok r w') : Rn P n l o w r w' := fun a ha => by
  simp [execOp, ho, resolve, invoke, builtin, ha.eval hx, hr]
theorem Rn.lookup {b : Bool} (ho : o.op = .lookup T x y b) (hx : ev l x = some u) (hy : ev l y = some v) (hr : (Instr.lookup T u v b).run P w = .ok r w') : Rn P n l o w r w' := fun a ha => by
  simp [execOp, ho, ha.eval hx, ha.eval hy, hr]
theorem Rs.mapUpdate {t : Value} (ho : o.op = .mapUpdate T x y z) (hx : ev l x = some u) (hy : ev l y = some v) (hz : ev l z = some t) (hr : (Instr.mapUpdate T u v t).run P w = .ok () w') : Rs P n l o w w' := fun a ha => by
  simp [execOp, ho, ha.eval hx, ha.eval hy, ha.eval hz, hr]
theorem Rn.range (ho : o.op = .range T x) (hx : ev l x = some u) (hr : (Instr.range T u).run P w = .ok r w') : Rn P n l o w r w' := fun a ha => by
  simp [execOp, ho, ha.eval hx, hr]
theorem Rn.next {b : Bool} (ho : o.op = .next x b) (hx : ev l x = some u) (hr : (Instr.next u b o.type).run P w = .ok r w') : Rn P n l o w r w' := fun a ha => by
  simp [execOp, ho, ha.eval hx, hr]
theorem Rn.entry (ho : o.op = .entry x) (hx : ev l x = some u) (hr : (Instr.entry u).run P w = .ok r w') : Rn P n l o w r w' := fun a ha => by
  simp [execOp, ho, ha.eval hx, hr]
theorem Rn.conv {S D : TypeId} (ho : o.op = .convert S D x) (hx : ev l x = some u) (hr : (convert S D u).run P w = .ok r w') : Rn P n l o w r w' := fun a ha => by
  simp [execOp, ho, ha.eval hx, hr]
theorem Rn.makeSlice (ho : o.op = .makeSlice T x y) (hx : ev l x = some u) (hy : ev l y = some v) (hr : (Instr.makeSlice T u v).run P w = .ok r w') : Rn P n l o w r w' := fun a ha => by
  simp [execOp, ho, ha.eval hx, ha.eval hy, hr]
theorem Rn.bin {op : BinOp} {T' : TypeId} (ho : o.op = .binOp op T x y T') (hx : ev l x = some u) (hy : ev l y = some v) (hg : ∀ x y, eqGuard op T x y u v = pure ()) (hr : (binOp op T u v).run P w = .ok r w') : Rn P n l o w r w' := fun a ha => by
  simp [execOp, ho, ha.eval hx, ha.eval hy, hg, hr]
end
/-! ### Calls -/
theorem run_call {x : Operand} {as : List Operand} {U : Array TypeId} {f : FuncId} {fs cs vs : List Value} {fn : Func} (ho : o.op = .call { callee := .value x, args := as.toArray, argTypes := U }) (hx : ev l x = some (.func (.func f) fs.toArray cs.toArray)) (hargs : as.map (ev l) = vs.map some)
    (hf : P.funcs[f]? = some fn) (hb : fn.body.isSome = true) (hn : (fn.name == "runtime.NumGoroutine") = false) : ∀ a, Ag n a l → ∀ w, (execOp a.eval o).run P w = .ok (.enter f (fs ++ vs ++ cs).toArray) w := fun a ha w => by
  have hv := ha.evals as vs hargs
  have hb' : fn.body.isNone = false := by cases h : fn.body <;> simp_all
  have hn' : ¬ fn.name = "runtime.NumGoroutine" := by simpa using hn
  obtain ⟨c, hc⟩ := Option.isSome_iff_exists.1 hb
  simp [execOp, ho, resolve, ha.eval hx, Deferred.ofValue, invoke, callFunc, program, Sem.run, hf, hc, hn', hv]
/-- What a call of a value that is a function must show. -/
def CallV (P : Program) (g : Value) (args : List Value) (w : World) (Q : Value → World → Prop) : Prop :=
  ∃ f fs cs fn, g = .func (.func f) (List.toArray fs) (List.toArray cs) ∧ P.funcs[f]? = some fn ∧ fn.body.isSome = true ∧ (fn.name == "runtime.NumGoroutine") = false ∧ CallP P f (fs ++ args ++ cs) w Q
/-- What a call hands back. -/
def ret0 (K : World → Prop) : Value → World → Prop := fun v w => v = .tuple #[] ∧ K w
def ret1 {α : Type} (t : Ty α) (K : α → World → Prop) : Value → World → Prop := fun v w => ∃ x, v = t.val x ∧ K x w
def ret2 {α β : Type} (t : Ty α) (s : Ty β) (K : α → β → World → Prop) : Value → World → Prop := fun v w => ∃ x y, v = .tuple #[t.val x, s.val y] ∧ K x y w
def ret3 {α β γ : Type} (t : Ty α) (s : Ty β) (r : Ty γ) (K : α → β → γ → World → Prop) : Value → World → Prop := fun v w => ∃ x y z, v = .tuple #[t.val x, s.val y, r.val z] ∧ K x y z w
theorem CallP.mono {f : FuncId} {args : List Value} {Q Q' : Value → World → Prop} (h : CallP P f args w Q) (hq : ∀ v w', Q v w' → Q' v w') : CallP P f args w Q' :=
  Calls.mono h fun e w' ⟨v, he, q⟩ => ⟨v, he, hq v w' q⟩
theorem CallP.mono1 {f : FuncId} {args : List Value} {α : Type} {t : Ty α} {K K' : α → World → Prop} (h : CallP P f args w (ret1 t K)) (hq : ∀ x w', K x w' → K' x w') : CallP P f args w (ret1 t K') :=
  h.mono fun v w' ⟨x, hv, k⟩ => ⟨x, hv, hq x w' k⟩
theorem CallP.mono0 {f : FuncId} {args : List Value} {K K' : World → Prop} (h : CallP P f args w (ret0 K)) (hq : ∀ w', K w' → K' w') : CallP P f args w (ret0 K') :=
  h.mono fun v w' ⟨hv, k⟩ => ⟨hv, hq w' k⟩
theorem CallP.mono2 {f : FuncId} {args : List Value} {α β : Type} {t : Ty α} {s : Ty β} {K K' : α → β → World → Prop} (h : CallP P f args w (ret2 t s K)) (hq : ∀ x y w', K x y w' → K' x y w') : CallP P f args w (ret2 t s K') :=
  h.mono fun v w' ⟨x, y, hv, k⟩ => ⟨x, y, hv, hq x y w' k⟩
theorem CallP.mono3 {f : FuncId} {args : List Value} {α β γ : Type} {t : Ty α} {s : Ty β} {r : Ty γ} {K K' : α → β → γ → World → Prop} (h : CallP P f args w (ret3 t s r K)) (hq : ∀ x y z w', K x y z w' → K' x y z w') : CallP P f args w (ret3 t s r K') :=
  h.mono fun v w' ⟨x, y, z, hv, k⟩ => ⟨x, y, z, hv, hq x y z w' k⟩
/-! ### Words of the conditions -/
def nz (p : Option Addr) (K : Nat → Nat → Prop) : Prop := ∃ b q, p = some ⟨b, q, none⟩ ∧ K b q
def ixs (s : Sl) (i : Int) (K : Nat → Nat → Prop) : Prop := 0 ≤ i ∧ i < s.len ∧ ∃ b q, s.a = some ⟨b, q, none⟩ ∧ K b q
theorem pe {p r : Option Addr} (h : p = r) : some (Value.pointer p) = some (Value.pointer r) := by rw [h]
def alM (w : World) (K : Nat → World → Prop) : Prop := K w.heap.size (w.alloc (.map #[] 0))
theorem Pu.notD {U : TypeId} {x : Operand} {p : Prop} [Decidable p] (ho : o.op = .unOp .not U x) (hx : ev l x = some (.bool (decide p))) : Pu P n l o (.bool (decide (¬ p))) := by
  have h : Pu P n l o _ := Pu.not ho hx
  rwa [← decide_not] at h
theorem WL.boolD {ops : List Oper} {os : Array Oper} {K : Kont} {E : List (Nat × Kont)} {R : Kont} {t : Nat} {p : Prop} [Decidable p] (hl : look l t = some (.bool (decide p))) (ht : p → WL P n os K E R ops ((t, .bool true) :: l) w) (hf : ¬ p → WL P n os K E R ops ((t, .bool false) :: l) w) : WL P n os K E R ops l w :=
  WL.bool hl (fun h => ht (of_decide_eq_true h)) (fun h => hf (of_decide_eq_false h))
theorem DL.boolD {r : List (Nat × Bool)} {F : Fl} {os : Array Oper} {K : Kont} {E : List (Nat × Kont)} {R : Kont} {t : Nat} {p : Prop} [Decidable p] (hl : look l t = some (.bool (decide p))) (ht : p → DL P n os K E R r F ((t, .bool true) :: l) w) (hf : ¬ p → DL P n os K E R r F ((t, .bool false) :: l) w) : DL P n os K E R r F l w :=
  DL.bool hl (fun h => ht (of_decide_eq_true h)) (fun h => hf (of_decide_eq_false h))
theorem WL.pure {ops : List Oper} {os : Array Oper} {K : Kont} {E : List (Nat × Kont)} {R : Kont} {v : Value} (hW : Wanted n os l o) (hd : dstOk n o.dst = true) (hr : Pu P n l o v)
    (k : WL P n os K E R ops (putF l o.dst v) w) : WL P n os K E R (o :: ops) l w := WL.val hW hd (hr.rn w) k
theorem WC.scope {c : Code} {K : Kont} {E : List (Nat × Kont)} {R : Kont} (h : WC P n c K E R l w) : WC P n (.scope c) K E R l w := fun a ha =>
  wp_scope_straight (wp_mono (h a ha) fun e a w q => by cases e <;> first | exact q | exact q.elim)
theorem WC.label {i : Nat} {K : Kont} {E : List (Nat × Kont)} {R : Kont} (h : Lf n K l w) : WC P n (.label i) K E R l w := fun a ha => wp_label (h a ha)
/-- The results, some of them in memory. -/
def resOk (P : Program) (l : Fr) (w : World) : List ResultVar → List Value → Prop
  | [], [] => True
  | .tmp t :: r, v :: vs => look l t = some v ∧ resOk P l w r vs
  | .cell a T :: r, v :: vs => (∃ b q, look l a = some (.pointer (some ⟨b, q, none⟩)) ∧ (loadVar T ⟨b, q, none⟩).run P w = .ok v w) ∧ resOk P l w r vs
  | _, _ => False
def resF (a : Act) : ResultVar → Sem Value
  | .tmp t => pure (a.tmps.getD t undef)
  | .cell x t => do loadVar t (← asAddr (a.tmps.getD x undef))
theorem resOk.run {a : Act} (ha : Ag n a l) : ∀ (rs : List ResultVar) (vs : List Value), resOk P l w rs vs → (rs.mapM (resF a)).run P w = .ok vs w
  | [], vs, h => by
    cases vs with
    | nil => rfl
    | cons v vs => exact h.elim
  | .tmp t :: r, vs, h => by
    cases vs with
    | nil => exact h.elim
    | cons v vs =>
      have ih := resOk.run ha r vs h.2
      have h1 : (resF a (.tmp t)).run P w = .ok v w := by
        show (pure (a.tmps.getD t undef) : Sem Value).run P w = _
        rw [(ha.at_ t v h.1).2]; rfl
      rw [List.mapM_cons]
      simp only [Sem.run_bind, Sem.run_pure, Result.andThen_ok, h1, ih]
  | .cell x T :: r, vs, h => by
    cases vs with
    | nil => exact h.elim
    | cons v vs =>
      obtain ⟨⟨b, q, hl, hr⟩, h2⟩ := h
      have ih := resOk.run ha r vs h2
      have h1 : (resF a (.cell x T)).run P w = .ok v w := by
        show (do loadVar T (← asAddr (a.tmps.getD x undef)) : Sem Value).run P w = _
        rw [(ha.at_ x _ hl).2]
        simpa [asAddr] using hr
      rw [List.mapM_cons]
      simp only [Sem.run_bind, Sem.run_pure, Result.andThen_ok, h1, ih]
theorem run_results {fn : Func} {rs : List ResultVar} {vs : List Value} {a : Act} (ha : Ag n a l) (hr : fn.results = rs.toArray) (h : resOk P l w rs vs) : (results fn a.tmps).run P w = .ok (if h : vs.toArray.size = 1 then vs.toArray[0] else .tuple vs.toArray) w := by
  have h1 := resOk.run ha rs _ h
  have h2 : results fn a.tmps = (do let vs ← fn.results.mapM (resF a); pure (if h : vs.size = 1 then vs[0] else .tuple vs)) := rfl
  rw [h2, hr, List.mapM_toArray, map_eq_pure_bind]
  simp only [Sem.run_bind, Sem.run_pure, Result.andThen_ok, h1]
theorem Lf.retM {fn : Func} {rs : List ResultVar} (vs : List Value) {Q : Value → World → Prop} (hr : fn.results = rs.toArray) (hn : (vs.length == 1) = false) (h : resOk P l w rs vs) (hq : Q (.tuple vs.toArray) w) : Lf n (retA P fn Q) l w := fun a ha =>
  ⟨ha.defers, .tuple vs.toArray, by
    rw [run_results ha hr h]
    have : ¬ vs.toArray.size = 1 := by simpa using hn
    rw [dif_neg this], hq⟩
theorem Lf.retM1 {fn : Func} {rs : List ResultVar} (v : Value) {Q : Value → World → Prop} (hr : fn.results = rs.toArray) (h : resOk P l w rs [v]) (hq : Q v w) : Lf n (retA P fn Q) l w := fun a ha =>
  ⟨ha.defers, v, by rw [run_results ha hr h]; simp, hq⟩
/-- The operation yields something of which Q holds. -/
def Rq (P : Program) (n : Nat) (l : Fr) (o : Oper) (w : World) (Q : Value → World → Prop) : Prop := ∃ v w', Rn P n l o w v w' ∧ Q v w'
def Rsq (P : Program) (n : Nat) (l : Fr) (o : Oper) (w : World) (Q : World → Prop) : Prop := ∃ w', Rs P n l o w w' ∧ Q w'
def atNew (K : Nat → World → Prop) : Value → World → Prop := fun v w => ∃ b, v = .pointer (some ⟨b, 0, none⟩) ∧ K b w
theorem Rq.alloc {T : TypeId} {z : Value} {cs : List Value} {K : Nat → World → Prop} (ho : o.op = .alloc T) (hz : (P.info? T).bind (·.zero) = some z) (hc : z.cells = cs.toArray) (h : al w cs T K) : Rq P n l o w (atNew K) := ⟨_, _, Rn.alloc ho hz hc, _, rfl, h⟩
theorem Rq.box {T : TypeId} {x : Operand} {v : Value} {cs : List Value} {K : Nat → World → Prop} (ho : o.op = .box T x) (hx : ev l x = some v) (hc : v.cells = cs.toArray) (h : al w cs T K) : Rq P n l o w (atNew K) := ⟨_, _, Rn.box ho hx hc, _, rfl, h⟩
theorem Rq.makeMap {T : TypeId} {K : Nat → World → Prop} (ho : o.op = .makeMap T none) (h : alM w K) : Rq P n l o w (fun v w => ∃ b, v = .map (some b) ∧ K b w) := ⟨_, _, Rn.makeMap ho, _, rfl, h⟩
theorem Rq.buildSlice {T E : TypeId} {k : Nat} {parts : List (Nat × Operand)} {vs : List (Nat × Value)} {cs : List Value} {K : Nat → World → Prop} (ho : o.op = .buildSlice T k parts.toArray) (hv : parts.map (fun p => (p.1, ev l p.2)) = vs.map (fun p => (p.1, some p.2)))
    (hr : ∀ w, (Instr.buildSlice T k vs.toArray).run P w = .ok (.slice (some ⟨w.heap.size, 0, none⟩) k k) (w.alloc (.cells cs.toArray E))) (h : al w cs E K) : Rq P n l o w (fun v w => ∃ b, v = Sl.v ⟨some ⟨b, 0, none⟩, k, k⟩ ∧ K b w) := ⟨_, _, Rn.buildSlice ho hv hr, _, rfl, h⟩
theorem Rsq.store {T : TypeId} {α : Type} {t : Ty α} {x y : Operand} {b q : Nat} (u : α) {K : World → Prop} (ht : TyOk P T t) (ho : o.op = .store T x y) (hx : ev l x = some (.pointer (some ⟨b, q, none⟩))) (hy : ev l y = some (t.val u)) (h : st t w b q u K) : Rsq P n l o w K := ⟨_, Rs.store ht ho hx hy h.1, h.2⟩
theorem WL.q {ops : List Oper} {os : Array Oper} {K : Kont} {E : List (Nat × Kont)} {R : Kont} {Q : Value → World → Prop} (hW : Wanted n os l o) (hd : dstOk n o.dst = true) (hr : Rq P n l o w Q)
    (k : ∀ v w', Q v w' → WL P n os K E R ops (putF l o.dst v) w') : WL P n os K E R (o :: ops) l w := by
  obtain ⟨v, w', h, hq⟩ := hr
  exact WL.val hW hd h (k v w' hq)
theorem WL.qs {ops : List Oper} {os : Array Oper} {K : Kont} {E : List (Nat × Kont)} {R : Kont} {Q : World → Prop} (hW : Wanted n os l o) (hd : o.dst = none) (hr : Rsq P n l o w Q)
    (k : ∀ w', Q w' → WL P n os K E R ops l w') : WL P n os K E R (o :: ops) l w := by
  obtain ⟨w', h, hq⟩ := hr
  exact WL.skp hW hd h (k w' hq)
theorem DL.q {i : Nat} {r : List (Nat × Bool)} {F : Fl} {os : Array Oper} {K : Kont} {E : List (Nat × Kont)} {R : Kont} {Q : Value → World → Prop} (ho : os[i]? = some o) (hW : Wanted n os l o) (hd : dstOk n o.dst = true) (hr : Rq P n l o w Q)
    (k : ∀ v w', Q v w' → Kept (befB os) i w' F ∧ DL P n os K E R r F (putF l o.dst v) w') : DL P n os K E R ((i, true) :: r) F l w := by
  obtain ⟨v, w', h, hq⟩ := hr
  exact DL.val ho hW hd h (k v w' hq).1 (k v w' hq).2
theorem DL.qs {i : Nat} {r : List (Nat × Bool)} {F : Fl} {os : Array Oper} {K : Kont} {E : List (Nat × Kont)} {R : Kont} {Q : World → Prop} (ho : os[i]? = some o) (hW : Wanted n os l o) (hd : o.dst = none) (hr : Rsq P n l o w Q)
    (k : ∀ w', Q w' → Kept (befB os) i w' F ∧ DL P n os K E R r F l w') : DL P n os K E R ((i, true) :: r) F l w := by
  obtain ⟨w', h, hq⟩ := hr
  exact DL.skp ho hW hd h (k w' hq).1 (k w' hq).2
/-- Is it an interface value? Is it nil? -/
def isI : Value → Bool
  | .nilIface => true
  | .iface _ _ => true
  | _ => false
def nilI : Value → Bool
  | .nilIface => true
  | _ => false
theorem run_eq_inil (d : Nat) {T : TypeId} {ms : Array (String × TypeId)} (hu : P.underlying T = some (.interface ms)) {v : Value} (hv : isI v = true) : (Op.equalIn (d + 1) T v .nilIface).run P w = .ok (nilI v) w := by
  cases v <;> simp [isI] at hv <;> simp [Op.equalIn, run_underlying hu, nilI]
theorem Pu.inil {T T' : TypeId} {x : Operand} {v : Value} {ms : Array (String × TypeId)} (ho : o.op = .binOp .eql T x (.const .nilIface) T') (hu : P.underlying T = some (.interface ms)) (hx : ev l x = some v) (hv : isI v = true) : Pu P n l o (.bool (nilI v)) := fun a ha w => by
  have h := run_eq_inil (P := P) (w := w) 9999 hu hv
  have hg : eqGuard .eql T x (.const .nilIface) v .nilIface = pure () := by cases v <;> simp [isI] at hv <;> first | exact eqGuard_nil_constR .. | exact eqGuard_at_iface ..
  have hb : binOp .eql T v .nilIface = (do pure (.bool (← Op.equal T v .nilIface))) := by cases v <;> simp [isI] at hv <;> rfl
  have hc : a.eval (.const .nilIface) = .nilIface := rfl
  simp only [execOp, ho, ha.eval hx, hc, hg, hb, Op.equal, Op.maxDepth]
  simp only [Sem.run_bind, Sem.run_pure, Result.andThen_ok, h]
theorem Pu.innil {T T' : TypeId} {x : Operand} {v : Value} {ms : Array (String × TypeId)} (ho : o.op = .binOp .neq T x (.const .nilIface) T') (hu : P.underlying T = some (.interface ms)) (hx : ev l x = some v) (hv : isI v = true) : Pu P n l o (.bool (!nilI v)) := fun a ha w => by
  have h := run_eq_inil (P := P) (w := w) 9999 hu hv
  have hg : eqGuard .neq T x (.const .nilIface) v .nilIface = pure () := by cases v <;> simp [isI] at hv <;> first | exact eqGuard_nil_constR .. | exact eqGuard_at_iface ..
  have hb : binOp .neq T v .nilIface = (do pure (.bool (!(← Op.equal T v .nilIface)))) := by cases v <;> simp [isI] at hv <;> rfl
  have hc : a.eval (.const .nilIface) = .nilIface := rfl
  simp only [execOp, ho, ha.eval hx, hc, hg, hb, Op.equal, Op.maxDepth]
  simp only [Sem.run_bind, Sem.run_pure, Result.andThen_ok, h]
/-- A join: what the ways hand on is named once. -/
def JoinP {α : Type} (V2 : α → World → Prop) (V1 : (α → World → Prop) → Prop) : Prop := ∃ k : α → World → Prop, (∀ x w, k x w → V2 x w) ∧ V1 k
theorem JoinP.into {α : Type} {V2 : α → World → Prop} {V1 : (α → World → Prop) → Prop} (h : V1 V2) : JoinP V2 V1 := ⟨V2, fun _ _ h => h, h⟩
end Go.Vc
