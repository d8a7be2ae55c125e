/- Regions that draw their order: one canonical order serves every order, if what is read early still reads so later. -/
import Derived.Test.YtccebpahnnfceaaGreatDoorVcOps
import Derived.OrdersHeld
namespace Go.Vc
set_option linter.unusedVariables false
section
variable {P : Program} {ops : Array Oper} {Q : Exit → Act → World → Prop} {B : Nat → Nat → Bool}
abbrev Fl := List (Nat × (World → Prop))
/-- What was read early still reads so behind an operation that need not come later. -/
def Keep (B : Nat → Nat → Bool) (F : Fl) (i : Nat) (w w' : World) : Prop := ∀ p ∈ F, B p.1 i = false → p.2 w → p.2 w'
def wpAnyF (P : Program) (ops : Array Oper) (Q : Exit → Act → World → Prop) (B : Nat → Nat → Bool) : Nat → Array Bool → Fl → Act → World → Prop
  | 0, listed, _, a, w => Region.ready .any ops listed = [] ∧ Q .normal a w
  | fuel + 1, listed, F, a, w =>
    (Region.ready .any ops listed = [] → Q .normal a w) ∧
    ∀ i ∈ Region.ready .any ops listed, wpOp P ops Q i (fun a' w' => Keep B F i w w' ∧ wpAnyF P ops Q B fuel (listed.setIfInBounds i true) F a' w') a w
theorem wpAnyF.any : ∀ (fuel : Nat) (listed : Array Bool) (F : Fl) (a : Act) (w : World), wpAnyF P ops Q B fuel listed F a w → wpAny P .any ops Q fuel listed a w
  | 0, _, _, _, _, h => h
  | fuel + 1, _, F, _, _, h => ⟨h.1, fun i hi => wpOp_mono (fun a' w' h' => wpAnyF.any fuel _ F a' w' h'.2) (h.2 i hi)⟩
theorem wpAnyF.drop {x : Nat × (World → Prop)} : ∀ (fuel : Nat) (listed : Array Bool) (F : Fl) (a : Act) (w : World), wpAnyF P ops Q B fuel listed (x :: F) a w → wpAnyF P ops Q B fuel listed F a w
  | 0, _, _, _, _, h => h
  | fuel + 1, _, F, _, _, h => ⟨h.1, fun i hi => wpOp_mono (fun a' w' h' => ⟨fun p hp => h'.1 p (List.mem_cons_of_mem _ hp), wpAnyF.drop fuel _ F a' w' h'.2⟩) (h.2 i hi)⟩
/-- Each operation that has come up: what it waits for has come up. -/
def Closed (ops : Array Oper) (listed : Array Bool) : Prop := ∀ j o, ops[j]? = some o → listed.getD j false = true → ∀ e ∈ o.after, Region.binds .any e = true → listed.getD e.on false = true
/-- B tells only what comes ahead indeed. -/
def chkB (ops : Array Oper) (B : Nat → Nat → Bool) : Bool :=
  ops.toList.zipIdx.all fun (o, j) => o.after.all (fun e => !Region.binds .any e || decide (e.on < j)) && (List.range ops.size).all fun i => !B i j || o.after.any fun e => Region.binds .any e && (e.on == i || B i e.on)
theorem chkB_spec (h : chkB ops B = true) {j : Nat} {o : Oper} (ho : ops[j]? = some o) : (∀ e ∈ o.after, Region.binds .any e = true → e.on < j) ∧ ∀ i, i < ops.size → B i j = true → ∃ e ∈ o.after, Region.binds .any e = true ∧ (e.on = i ∨ B i e.on = true) := by
  unfold chkB at h
  rw [List.all_eq_true] at h
  have hm : (o, j) ∈ ops.toList.zipIdx := by
    rw [List.mem_zipIdx_iff_getElem?]
    simpa using ho
  have := h _ hm
  simp only [Bool.and_eq_true, List.all_eq_true, Array.all_eq_true', List.mem_range] at this
  refine ⟨fun e he hb => ?_, fun i hi hB => ?_⟩
  · have := this.1 e he
    simpa [hb] using this
  · have := this.2 i hi
    simp only [hB, Bool.not_true, Bool.false_or, Array.any_eq_true', Bool.and_eq_true, Bool.or_eq_true, beq_iff_eq] at this
    obtain ⟨e, he, h1, h2⟩ := this
    exact ⟨e, he, h1, h2⟩
theorem Closed.back (hB : chkB ops B = true) {listed : Array Bool} (hc : Closed ops listed) {i : Nat} (hi : i < ops.size) : ∀ (j : Nat) (o : Oper), ops[j]? = some o → listed.getD j false = true → B i j = true → listed.getD i false = true := by
  intro j
  induction j using Nat.strongRecOn with
  | _ j ih =>
    intro o ho hl hb
    obtain ⟨hlt, hex⟩ := chkB_spec hB ho
    obtain ⟨e, he, hbd, h⟩ := hex i hi hb
    have hl' := hc j o ho hl e he hbd
    rcases h with h | h
    · rw [← h]; exact hl'
    · have hlt' := hlt e he hbd
      have hsz : e.on < ops.size := Nat.lt_trans hlt' (Array.getElem?_eq_some_iff.1 ho).1
      exact ih e.on hlt' _ (Array.getElem?_eq_getElem hsz) hl' h
theorem Closed.step {listed : Array Bool} (hc : Closed ops listed) {j : Nat} (hj : j ∈ Region.ready .any ops listed) : Closed ops (listed.setIfInBounds j true) := by
  intro k o ho hl e he hb
  obtain ⟨_, oj, hoj, hall⟩ := mem_ready.1 hj
  by_cases e1 : j = k
  · subst e1
    have : oj = o := by rw [hoj] at ho; exact Option.some.inj ho
    subst this
    exact getD_set_true (hall e he hb)
  · rw [getD_set_ne false e1] at hl
    exact getD_set_true (hc k o ho hl e he hb)
theorem wpAnyF.first {i : Nat} {oi : Oper} {v : Value} {S : World → Prop} (hB : chkB ops B = true) (hi : ops[i]? = some oi) (hsel : ∀ (j : Nat) (o : Oper) cs b, ops[j]? = some o → o.op ≠ .select cs b)
    (hQ : ∀ c a w, Q (.panic c) (a.put oi.dst v) w → Q (.panic c) a w) :
    ∀ (fuel : Nat) (listed : Array Bool) (F : Fl) (a : Act) (w : World),
      (∀ j oj, ops[j]? = some oj → j ≠ i → listed.getD j true = false → (∀ e ∈ oj.after, Region.binds .any e = true → e.on ≠ i) → oi.apart ops oj = true) →
      Closed ops listed → i ∈ Region.ready .any ops listed → YieldsIf P ops S oi v a → S w →
      wpAnyF P ops Q B fuel (listed.setIfInBounds i true) ((i, S) :: F) (a.put oi.dst v) w → wpAnyF P ops Q B (fuel + 1) listed F a w := by
  intro fuel
  induction fuel with
  | zero =>
    intro listed F a w _ hcl hr hy hS H
    refine ⟨fun h => (by rw [h] at hr; cases hr), fun j hj => ?_⟩
    by_cases hji : j = i
    · subst hji; exact hy.wpOp hi hS ⟨fun _ _ _ h => h, H⟩
    · have := ready_mono hj hji
      rw [H.1] at this
      cases this
  | succ fuel ih =>
    intro listed F a w hfree hcl hr hy hS H
    refine ⟨fun h => (by rw [h] at hr; cases hr), fun j hj => ?_⟩
    by_cases hji : j = i
    · subst hji; exact hy.wpOp hi hS ⟨fun _ _ _ h => h, H.drop⟩
    · have h1 := H.2 j (ready_mono hj hji)
      obtain ⟨hjun, oj, hoj, hall⟩ := mem_ready.1 hj
      have hiun := (mem_ready.1 hr).1
      have hnoti : ∀ b, listed.getD i b = true → False := fun b h => by
        rcases Nat.lt_or_ge i listed.size with h' | h'
        · simp [h'] at hiun h; rw [hiun] at h; cases h
        · simp [Array.getElem?_eq_none h'] at hiun
      have hnot : ∀ e ∈ oj.after, Region.binds .any e = true → e.on ≠ i := fun e he hb heq => by
        have h1 := hall e he hb
        rw [heq] at h1
        exact hnoti _ h1
      have hBij : B i j = false := by
        cases hb : B i j with
        | false => rfl
        | true =>
          have hsz : i < ops.size := (Array.getElem?_eq_some_iff.1 hi).1
          obtain ⟨hlt, hex⟩ := chkB_spec hB hoj
          obtain ⟨e, he, hbd, h⟩ := hex i hsz hb
          have hl := hall e he hbd
          rcases h with h | h
          · exact absurd h (hnot e he hbd)
          · have hs2 : e.on < ops.size := Nat.lt_trans (hlt e he hbd) (Array.getElem?_eq_some_iff.1 hoj).1
            exact (hnoti _ (hcl.back hB hsz e.on _ (Array.getElem?_eq_getElem hs2) hl h)).elim
      have h2 := wpOp_putIf hoj (hfree j oj hoj hji hjun hnot) (fun cs b => hsel i oi cs b hi) (fun cs b => hsel j oj cs b hoj) hQ hy h1
      have hfree' : ∀ k ok, ops[k]? = some ok → k ≠ i → (listed.setIfInBounds j true).getD k true = false →
          (∀ e ∈ ok.after, Region.binds .any e = true → e.on ≠ i) → oi.apart ops ok = true := fun k ok hk hki hun hno => by
        refine hfree k ok hk hki ?_ hno
        by_cases hjk : j = k
        · subst hjk; exact hjun
        · rw [getD_set_ne true hjk] at hun; exact hun
      refine wpOp_mono (fun a' w' h3 => ⟨fun p hp => h3.2.1 p (List.mem_cons_of_mem _ hp), ih (listed.setIfInBounds j true) F a' w' hfree' (hcl.step hj) (ready_mono hr (Ne.symm hji)) h3.1 (h3.2.1 (i, S) (List.mem_cons_self ..) hBij hS) ?_⟩) h2
      rw [Array.setIfInBounds_comm _ _ hji]
      exact h3.2.2
/-- The canonical order: what only reads is taken as soon as it may come; what acts waits till nothing else may come. -/
def DW (P : Program) (ops : Array Oper) (Q : Exit → Act → World → Prop) (B : Nat → Nat → Bool) : List (Nat × Bool) → Fl → Act → World → Prop
  | [], _, a, w => Q .normal a w
  | (i, false) :: r, F, a, w => ∃ oi v, ∃ S : World → Prop, ops[i]? = some oi ∧ YieldsIf P ops S oi v a ∧ S w ∧ DW P ops Q B r ((i, S) :: F) (a.put oi.dst v) w
  | (i, true) :: r, F, a, w => wpOp P ops Q i (fun a' w' => Keep B F i w w' ∧ DW P ops Q B r F a' w') a w
def chkO (ops : Array Oper) : List (Nat × Bool) → Array Bool → Bool
  | [], listed => (Region.ready .any ops listed).isEmpty
  | (i, false) :: r, listed => (Region.ready .any ops listed).contains i && Region.free .any ops listed i && chkO ops r (listed.setIfInBounds i true)
  | (i, true) :: r, listed => (Region.ready .any ops listed == [i]) && chkO ops r (listed.setIfInBounds i true)
theorem DW.sound (hB : chkB ops B = true) (hs : Region.noSelect ops = true) (hQ : ∀ c a w, ¬ Q (.panic c) a w) : ∀ (ord : List (Nat × Bool)) (listed : Array Bool) (F : Fl) (a : Act) (w : World), Closed ops listed → chkO ops ord listed = true → DW P ops Q B ord F a w → wpAnyF P ops Q B ord.length listed F a w
  | [], listed, F, a, w, _, hc, h => ⟨by simpa [chkO] using hc, h⟩
  | (i, false) :: r, listed, F, a, w, hcl, hc, h => by
    obtain ⟨oi, v, S, hi, hy, hS, hd⟩ := h
    simp only [chkO, Bool.and_eq_true] at hc
    have hr : i ∈ Region.ready .any ops listed := by simpa using hc.1.1
    exact wpAnyF.first hB hi (Region.noSelect_spec hs) (fun c a w q => (hQ _ _ _ q).elim) _ listed F a w (Region.free_spec hi hc.1.2) hcl hr hy hS
      (DW.sound hB hs hQ r _ _ _ _ (hcl.step hr) hc.2 hd)
  | (i, true) :: r, listed, F, a, w, hcl, hc, h => by
    simp only [chkO, Bool.and_eq_true, beq_iff_eq] at hc
    have hr : i ∈ Region.ready .any ops listed := by rw [hc.1]; simp
    refine ⟨fun h0 => (by rw [h0] at hc; cases hc.1), fun j hj => ?_⟩
    obtain rfl : j = i := by rw [hc.1] at hj; simpa using hj
    exact wpOp_mono (fun a' w' h' => ⟨h'.1, DW.sound hB hs hQ r _ _ _ _ (hcl.step hr) hc.2 h'.2⟩) h
def befB (ops : Array Oper) : Nat → Nat → Bool := fun i j => ((Region.before ops).getD j 0).testBit i
def chkD (ops : Array Oper) (ord : List (Nat × Bool)) : Bool := chkB ops (befB ops) && Region.noSelect ops && chkO ops ord (Array.replicate ops.size false) && ord.length == ops.size
theorem wp_region_DW {id : Nat} {a : Act} {w : World} (ord : List (Nat × Bool)) (hm : P.follows .mixedOrders = true) (hc : chkD ops ord = true) (hQ : ∀ c a w, ¬ Q (.panic c) a w)
    (h : DW P ops Q (befB ops) ord [] a { w with drawn := w.drawn + 1 }) : (Code.region id ops true).wp P Q a w := by
  simp only [chkD, Bool.and_eq_true, beq_iff_eq] at hc
  refine wp_region_any hm (wpAnyF.any (B := befB ops) _ _ [] _ _ ?_)
  rw [← hc.2]
  refine DW.sound hc.1.1.1 hc.1.1.2 hQ ord _ _ _ _ ?_ (by rw [hc.2]; exact hc.1.2) h
  intro j o ho hl
  exfalso
  simp only [Array.getD_eq_getD_getElem?, Array.getElem?_replicate] at hl
  split at hl <;> simp at hl
end
section
variable {P : Program} {n : Nat} {ops : Array Oper} {K : Kont} {E : List (Nat × Kont)} {R : Kont} {l : Fr} {w : World} {F : Fl}
def DL (P : Program) (n : Nat) (ops : Array Oper) (K : Kont) (E : List (Nat × Kont)) (R : Kont) (ord : List (Nat × Bool)) (F : Fl) (l : Fr) (w : World) : Prop := ∀ a, Ag n a l → DW P ops (mkQ K E R) (befB ops) ord F a w
def dr (w : World) : World := { w with drawn := w.drawn + 1 }
theorem WC.draw {i : Nat} (ord : List (Nat × Bool)) (hm : P.follows .mixedOrders = true) (hc : chkD ops ord = true) (h : DL P n ops K E R ord [] l (dr w)) : WC P n (.region i ops true) K E R l w := fun a ha =>
  wp_region_DW ord hm hc (fun _ _ _ q => q) (h a ha)
theorem DL.nil (h : Lf n K l w) : DL P n ops K E R [] F l w := fun a ha => h a ha
theorem DL.sub {ord : List (Nat × Bool)} {l' : Fr} (hs : AllIn l' l) (h : DL P n ops K E R ord F l' w) : DL P n ops K E R ord F l w := fun a ha => h a (ha.sub hs)
/-- It reads: S is what it leans on. -/
theorem DL.read {i : Nat} {o : Oper} {r : List (Nat × Bool)} {v : Value} (S : World → Prop) (ho : ops[i]? = some o) (hW : Wanted n ops l o) (hd : dstOk n o.dst = true) (hr : ∀ a, Ag n a l → ∀ w, S w → (execOp a.eval o).run P w = .ok (.value v) w) (hS : S w)
    (k : DL P n ops K E R r ((i, S) :: F) (putF l o.dst v) w) : DL P n ops K E R ((i, false) :: r) F l w := fun a ha =>
  ⟨o, v, S, ho, .inl ⟨hW.out a ha, hr a ha⟩, hS, k _ (ha.put hd v)⟩
theorem DW.less {Q : Exit → Act → World → Prop} {B : Nat → Nat → Bool} : ∀ (r : List (Nat × Bool)) (F F' : Fl) (a : Act) (w : World), (∀ p ∈ F', p ∈ F ∨ ∀ w, p.2 w) → DW P ops Q B r F a w → DW P ops Q B r F' a w
  | [], _, _, _, _, _, h => h
  | (i, false) :: r, F, F', a, w, hs, ⟨oi, v, S, h1, h2, h3, h4⟩ => ⟨oi, v, S, h1, h2, h3, DW.less r _ _ _ _ (fun p hp => by
      cases hp with
      | head => exact .inl (List.mem_cons_self ..)
      | tail _ hp => exact (hs p hp).imp (List.mem_cons_of_mem _) id) h4⟩
  | (i, true) :: r, F, F', a, w, hs, h => wpOp_mono (fun a' w' h' => ⟨fun p hp hb hw => (hs p hp).elim (fun q => h'.1 p q hb hw) (fun q => q _), DW.less r F F' a' w' hs h'.2⟩) h
theorem DL.pure {i : Nat} {o : Oper} {r : List (Nat × Bool)} {v : Value} (ho : ops[i]? = some o) (hW : Wanted n ops l o) (hd : dstOk n o.dst = true) (hr : Pu P n l o v)
    (k : DL P n ops K E R r F (putF l o.dst v) w) : DL P n ops K E R ((i, false) :: r) F l w := fun a ha =>
  ⟨o, v, fun _ => True, ho, .inl ⟨hW.out a ha, fun w _ => hr a ha w⟩, trivial, DW.less r F _ _ _ (fun p hp => by
    cases hp with
    | head => exact .inr fun _ => trivial
    | tail _ hp => exact .inl hp) (k _ (ha.put hd v))⟩
theorem DL.unwanted {i : Nat} {o o' : Oper} {j t : Nat} {b c : Bool} {r : List (Nat × Bool)} (hi : ops[i]? = some o) (h : o.guard = some (j, b)) (ho : ops[j]? = some o') (hd : o'.dst = some t) (hl : look l t = some (.bool c)) (hne : (b == c) = false) (hdst : dstOk n o.dst = true)
    (k : DL P n ops K E R r F (putF l o.dst undef) w) : DL P n ops K E R ((i, false) :: r) F l w := fun a ha => by
  have hw : Region.wanted o (yielded ops a.tmps) = false := by
    have := yielded_of ho hd hl ha
    simp only [Region.wanted, h, this]
    cases b <;> cases c <;> simp_all
  exact ⟨o, undef, fun _ => True, hi, .inr ⟨hw, rfl⟩, trivial, DW.less r F _ _ _ (fun p hp => by
    cases hp with
    | head => exact .inr fun _ => trivial
    | tail _ hp => exact .inl hp) (k _ (ha.put hdst undef))⟩
/-- A list of what must be kept, one by one. -/
def Kept (B : Nat → Nat → Bool) (i : Nat) (w' : World) : Fl → Prop
  | [] => True
  | p :: r => (B p.1 i = true ∨ p.2 w') ∧ Kept B i w' r
theorem Kept.keep {B : Nat → Nat → Bool} {i : Nat} {w w' : World} : ∀ {F : Fl}, Kept B i w' F → Keep B F i w w'
  | [], _, p, hp, _, _ => by cases hp
  | q :: r, h, p, hp, hb, hw => by
    cases hp with
    | head => exact h.1.elim (fun e => by rw [hb] at e; cases e) id
    | tail _ hp => exact Kept.keep h.2 p hp hb hw
theorem DL.val {i : Nat} {o : Oper} {r : List (Nat × Bool)} {v : Value} {w' : World} (ho : ops[i]? = some o) (hW : Wanted n ops l o) (hd : dstOk n o.dst = true) (hr : ∀ a, Ag n a l → (execOp a.eval o).run P w = .ok (.value v) w')
    (hk : Kept (befB ops) i w' F) (k : DL P n ops K E R r F (putF l o.dst v) w') : DL P n ops K E R ((i, true) :: r) F l w := fun a ha => by
  show wpOp _ _ _ _ _ _ _
  unfold wpOp
  simp only [ho, hW.out a ha, if_true]
  refine .inl ?_
  unfold Oper.wp
  rw [hr a ha]
  exact ⟨hk.keep, k _ (ha.put hd v)⟩
theorem DL.skp {i : Nat} {o : Oper} {r : List (Nat × Bool)} {w' : World} (ho : ops[i]? = some o) (hW : Wanted n ops l o) (hd : o.dst = none) (hr : ∀ a, Ag n a l → (execOp a.eval o).run P w = .ok .skip w')
    (hk : Kept (befB ops) i w' F) (k : DL P n ops K E R r F l w') : DL P n ops K E R ((i, true) :: r) F l w := fun a ha => by
  show wpOp _ _ _ _ _ _ _
  unfold wpOp
  simp only [ho, hW.out a ha, if_true]
  refine .inl ?_
  unfold Oper.wp
  rw [hr a ha]
  refine ⟨hk.keep, ?_⟩
  show DW _ _ _ _ _ _ (a.put o.dst undef) w'
  rw [hd]
  exact k _ ha
theorem DL.call {i : Nat} {o : Oper} {r : List (Nat × Bool)} {f : FuncId} {args : List Value} {Q : Value → World → Prop} (ho : ops[i]? = some o) (hW : Wanted n ops l o) (hd : dstOk n o.dst = true) (hr : ∀ a, Ag n a l → (execOp a.eval o).run P w = .ok (.enter f args.toArray) w)
    (h : CallP P f args w Q) (k : ∀ v w', Q v w' → Kept (befB ops) i w' F ∧ DL P n ops K E R r F (putF l o.dst v) w') : DL P n ops K E R ((i, true) :: r) F l w := fun a ha => by
  show wpOp _ _ _ _ _ _ _
  unfold wpOp
  simp only [ho, hW.out a ha, if_true]
  refine .inl ?_
  unfold Oper.wp
  rw [hr a ha]
  refine Calls.mono h ?_
  rintro e w' ⟨v, rfl, hq⟩
  exact ⟨(k v w' hq).1.keep, (k v w' hq).2 _ (ha.put hd v)⟩
theorem DL.unwantedT {i : Nat} {o o' : Oper} {j t : Nat} {b c : Bool} {r : List (Nat × Bool)} (hi : ops[i]? = some o) (h : o.guard = some (j, b)) (ho : ops[j]? = some o') (hd : o'.dst = some t) (hl : look l t = some (.bool c)) (hne : (b == c) = false) (hdst : dstOk n o.dst = true)
    (k : DL P n ops K E R r F (putF l o.dst undef) w) : DL P n ops K E R ((i, true) :: r) F l w := fun a ha => by
  have hw : Region.wanted o (yielded ops a.tmps) = false := by
    have := yielded_of ho hd hl ha
    simp only [Region.wanted, h, this]
    cases b <;> cases c <;> simp_all
  show wpOp _ _ _ _ _ _ _
  unfold wpOp
  simp only [hi, hw, Bool.false_eq_true, if_false]
  exact ⟨fun p hp hb h => h, k _ (ha.put hdst undef)⟩
theorem Ag.bool {a : Act} {t : Nat} {b : Bool} (ha : Ag n a l) (hl : look l t = some (.bool b)) : Ag n a ((t, .bool b) :: l) := ⟨ha.defers, ha.size, fun s v hs => by
    simp only [look] at hs
    cases hq : Nat.beq t s with
    | true =>
      rw [hq] at hs
      simp only [cond_true, Option.some.injEq] at hs
      have := Nat.eq_of_beq_eq_true hq
      subst this; subst hs
      exact ha.at_ t _ hl
    | false =>
      rw [hq] at hs
      exact ha.at_ s v hs⟩
theorem DL.bool {r : List (Nat × Bool)} {t : Nat} {b : Bool} (hl : look l t = some (.bool b)) (ht : b = true → DL P n ops K E R r F ((t, .bool true) :: l) w) (hf : b = false → DL P n ops K E R r F ((t, .bool false) :: l) w) : DL P n ops K E R r F l w := fun a ha => by
  cases b with
  | true => exact ht rfl a (ha.bool hl)
  | false => exact hf rfl a (ha.bool hl)
end
end Go.Vc
