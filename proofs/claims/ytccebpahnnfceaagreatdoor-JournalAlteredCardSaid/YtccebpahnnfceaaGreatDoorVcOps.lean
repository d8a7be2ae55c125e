/- Verification conditions: types as cells, and what each operation comes to. -/
import Derived.Test.YtccebpahnnfceaaGreatDoorVcBase
namespace Go.Vc
set_option linter.unusedVariables false
set_option linter.unusedSimpArgs false
variable {P : Program} {n : Nat} {l : Fr} {w : World} {o : Oper}

/-! ### 1. Types -/
structure Ty (α : Type) where
  cells : α → List Value
  val : α → Value
def tI (k : IntKind) : Ty Int := ⟨fun x => [.int k x], fun x => .int k x⟩
def tB : Ty Bool := ⟨fun x => [.bool x], fun x => .bool x⟩
def tS : Ty ByteArray := ⟨fun x => [.string x], fun x => .string x⟩
def tP : Ty (Option Addr) := ⟨fun x => [.pointer x], fun x => .pointer x⟩
def tM : Ty (Option Nat) := ⟨fun x => [.map x], fun x => .map x⟩
structure Sl where
  a : Option Addr
  len : Nat
  cap : Nat
def Sl.v (s : Sl) : Value := .slice s.a s.len s.cap
def tSl : Ty Sl := ⟨fun s => [.slice s.a s.len s.cap], fun s => .slice s.a s.len s.cap⟩
abbrev V1 := { v : Value // v.oneCell' = true }
def tV : Ty V1 := ⟨fun x => [x.1], fun x => x.1⟩
def aggD : TypeDesc → Bool
  | .struct _ => true
  | .array _ _ => true
  | _ => false
structure TyOk (P : Program) (T : TypeId) {α : Type} (t : Ty α) : Prop where
  size : ∃ i, P.info? T = some i ∧ ∀ x, (t.cells x).length = i.size
  one : ∀ x, ∀ v ∈ t.cells x, v.oneCell' = true
  vcells : ∀ x, (t.val x).cells.toList = t.cells x
  form : ∃ d, P.underlying T = some d ∧ ((aggD d = true ∧ ∀ x, t.val x = .agg (t.cells x).toArray) ∨ (aggD d = false ∧ ∀ x, t.cells x = [t.val x]))
theorem TyOk.scalar {T : TypeId} {α : Type} {t : Ty α} {d : TypeDesc} (hd : P.underlying T = some d) (hs : (P.info? T).map (·.size) = some 1) (hn : aggD d = false) (hc : ∀ x, t.cells x = [t.val x]) (h1 : ∀ x, (t.val x).oneCell' = true) : TyOk P T t := by
  obtain ⟨i, hi, hz⟩ : ∃ i, P.info? T = some i ∧ i.size = 1 := by
    cases hi : P.info? T with
    | none => rw [hi] at hs; cases hs
    | some i => rw [hi] at hs; exact ⟨i, rfl, by simpa using hs⟩
  refine ⟨⟨i, hi, fun x => by rw [hc, hz]; rfl⟩, fun x v hv => ?_, fun x => ?_, d, hd, .inr ⟨hn, hc⟩⟩
  · rw [hc] at hv
    have : v = t.val x := by simpa using hv
    rw [this]; exact h1 x
  · have := h1 x
    rw [hc]
    cases hv : t.val x <;> rw [hv] at this <;> first | rfl | (simp [Value.oneCell'] at this)
theorem TyOk.agg {T : TypeId} {α : Type} {t : Ty α} {d : TypeDesc} (k : Nat) (hd : P.underlying T = some d) (hs : (P.info? T).map (·.size) = some k) (hn : aggD d = true) (hl : ∀ x, (t.cells x).length = k)
    (h1 : ∀ x, (t.cells x).all Value.oneCell' = true) (hv : ∀ x, t.val x = .agg (t.cells x).toArray) : TyOk P T t := by
  obtain ⟨i, hi, hz⟩ : ∃ i, P.info? T = some i ∧ i.size = k := by
    cases hi : P.info? T with
    | none => rw [hi] at hs; cases hs
    | some i => rw [hi] at hs; exact ⟨i, rfl, by simpa using hs⟩
  exact ⟨⟨i, hi, fun x => by rw [hl, hz]⟩, fun x v hv' => List.all_eq_true.1 (h1 x) v hv', fun x => by rw [hv]; rfl, d, hd, .inl ⟨hn, hv⟩⟩
theorem tI_ok {T : TypeId} {k : IntKind} (hd : P.underlying T = some (.int k)) (hs : (P.info? T).map (·.size) = some 1) : TyOk P T (tI k) := .scalar hd hs rfl (fun _ => rfl) (fun _ => rfl)
theorem tB_ok {T : TypeId} (hd : P.underlying T = some .bool) (hs : (P.info? T).map (·.size) = some 1) : TyOk P T tB := .scalar hd hs rfl (fun _ => rfl) (fun _ => rfl)
theorem tS_ok {T : TypeId} (hd : P.underlying T = some .string) (hs : (P.info? T).map (·.size) = some 1) : TyOk P T tS := .scalar hd hs rfl (fun _ => rfl) (fun _ => rfl)
theorem tP_ok {T E : TypeId} (hd : P.underlying T = some (.pointer E)) (hs : (P.info? T).map (·.size) = some 1) : TyOk P T tP := .scalar hd hs rfl (fun _ => rfl) (fun _ => rfl)
theorem tM_ok {T A B : TypeId} (hd : P.underlying T = some (.map A B)) (hs : (P.info? T).map (·.size) = some 1) : TyOk P T tM := .scalar hd hs rfl (fun _ => rfl) (fun _ => rfl)
theorem tSl_ok {T E : TypeId} (hd : P.underlying T = some (.slice E)) (hs : (P.info? T).map (·.size) = some 1) : TyOk P T tSl := .scalar hd hs rfl (fun _ => rfl) (fun _ => rfl)
theorem tV_ok {T : TypeId} {d : TypeDesc} (hd : P.underlying T = some d) (hn : aggD d = false) (hs : (P.info? T).map (·.size) = some 1) : TyOk P T tV := .scalar hd hs hn (fun _ => rfl) (fun x => x.2)

/-! ### 2. Memory -/
def CellsAt (w : World) (b o : Nat) (cs : List Value) : Prop := ∀ j v, cs[j]? = some v → w.cell? ⟨b, o + j, none⟩ = some v
def WrAt (w : World) (b o k : Nat) : Prop := ∀ j, j < k → (w.cell? ⟨b, o + j, none⟩).isSome = true ∧ w.frozen? ⟨b, o + j, none⟩ = false
/-- A load. -/
def ld {α : Type} (t : Ty α) (w : World) (b q : Nat) (K : α → Prop) : Prop := ∃ x, CellsAt w b q (t.cells x) ∧ K x
/-- A store. -/
def st {α : Type} (t : Ty α) (w : World) (b q : Nat) (x : α) (K : World → Prop) : Prop := WrAt w b q (t.cells x).length ∧ K (w.setCells b q (t.cells x))
/-- A new block. -/
def al (w : World) (cs : List Value) (T : TypeId) (K : Nat → World → Prop) : Prop := K w.heap.size (w.alloc (.cells cs.toArray T))
theorem run_loadVar {T : TypeId} {α : Type} {t : Ty α} (ht : TyOk P T t) {b q : Nat} {x : α} (hc : CellsAt w b q (t.cells x)) : (loadVar T ⟨b, q, none⟩).run P w = .ok (t.val x) w := by
  obtain ⟨i, hi, hsz⟩ := ht.size
  obtain ⟨d, hd, hf⟩ := ht.form
  have hc' : ∀ j v, (t.cells x)[j]? = some v → w.cell? ((⟨b, q, none⟩ : Addr).add j) = some v := fun j v hj => by rw [Addr.add_lit]; exact hc j v hj
  rcases hf with ⟨ha, hv⟩ | ⟨ha, hv⟩
  · have hag : (isAgg T).run P w = .ok true w := by
      simp only [isAgg, Sem.run_bind, run_underlying hd, Result.andThen_ok]
      cases d <;> first | rfl | (simp [aggD] at ha)
    have hlc := run_loadCells_list (P := P) w ⟨b, q, none⟩ (t.cells x) hc'
    rw [hsz x] at hlc
    simp [loadVar, hag, sizeOf, typeInfo, hi, hlc, hv]
  · have hag : (isAgg T).run P w = .ok false w := by
      simp only [isAgg, Sem.run_bind, run_underlying hd, Result.andThen_ok]
      cases d <;> first | rfl | (simp [aggD] at ha)
    have h0 := hc 0 (t.val x) (by rw [hv]; rfl)
    simp at h0
    simp [loadVar, hag, load, Sem.run, h0]
theorem run_storeVar {T : TypeId} {α : Type} {t : Ty α} (ht : TyOk P T t) {b q : Nat} {x : α} (hc : WrAt w b q (t.cells x).length) : (storeVar T ⟨b, q, none⟩ (t.val x)).run P w = .ok () (w.setCells b q (t.cells x)) := by
  obtain ⟨i, hi, hsz⟩ := ht.size
  have hlen : (t.val x).cells.size = i.size := by rw [← hsz x, ← ht.vcells x]; simp
  have hst := run_storeCells_cells (P := P) b q (t.cells x) 0 w (fun j hj => by simpa using (hc j hj).1) (fun j hj => by simpa using (hc j hj).2) (ht.one x)
  simp only [Nat.add_zero] at hst
  simp [storeVar, sizeOf, typeInfo, hi, hlen, ht.vcells x, hst]

/-! ### 3. Operations that touch no memory -/
/-- The operation yields v whatever the world is. -/
def Pu (P : Program) (n : Nat) (l : Fr) (o : Oper) (v : Value) : Prop := ∀ a, Ag n a l → ∀ w, (execOp a.eval o).run P w = .ok (.value v) w
theorem Pu.move {x : Operand} {v : Value} (ho : o.op = .move x) (hx : ev l x = some v) : Pu P n l o v := fun a ha w => by simp [execOp, ho, ha.eval hx]
theorem Pu.assign {x : Operand} {v : Value} (ho : o.op = .assign x) (hx : ev l x = some v) : Pu P n l o v := fun a ha w => by simp [execOp, ho, ha.eval hx]
theorem Pu.pickT {c x y : Operand} {v : Value} (ho : o.op = .pick c x y) (hc : ev l c = some (.bool true)) (hx : ev l x = some v) : Pu P n l o v := fun a ha w => by simp [execOp, ho, ha.eval hx, ha.eval hc, asBool]
theorem Pu.pickF {c x y : Operand} {v : Value} (ho : o.op = .pick c x y) (hc : ev l c = some (.bool false)) (hx : ev l y = some v) : Pu P n l o v := fun a ha w => by simp [execOp, ho, ha.eval hx, ha.eval hc, asBool]
section
variable {T T' : TypeId} {x y : Operand} {k : IntKind} {i j : Int}
theorem Pu.add (ho : o.op = .binOp .add T x y T') (hx : ev l x = some (.int k i)) (hy : ev l y = some (.int k j)) : Pu P n l o (.int k (k.wrap (i + j))) := fun a ha w => by simp [execOp, ho, ha.eval hx, ha.eval hy, eqGuard_at_int, binOp_add, Op.intArith]
theorem Pu.sub (ho : o.op = .binOp .sub T x y T') (hx : ev l x = some (.int k i)) (hy : ev l y = some (.int k j)) : Pu P n l o (.int k (k.wrap (i - j))) := fun a ha w => by simp [execOp, ho, ha.eval hx, ha.eval hy, eqGuard_at_int, binOp_sub, Op.intArith]
theorem Pu.mul (ho : o.op = .binOp .mul T x y T') (hx : ev l x = some (.int k i)) (hy : ev l y = some (.int k j)) : Pu P n l o (.int k (k.wrap (i * j))) := fun a ha w => by simp [execOp, ho, ha.eval hx, ha.eval hy, eqGuard_at_int, binOp_mul, Op.intArith]
theorem Pu.quo (ho : o.op = .binOp .quo T x y T') (hx : ev l x = some (.int k i)) (hy : ev l y = some (.int k j)) (hj : j ≠ 0) : Pu P n l o (.int k (k.wrap (i.tdiv j))) := fun a ha w => by simp [execOp, ho, ha.eval hx, ha.eval hy, eqGuard_at_int, binOp_quo, Op.intDiv, hj]
theorem Pu.rem (ho : o.op = .binOp .rem T x y T') (hx : ev l x = some (.int k i)) (hy : ev l y = some (.int k j)) (hj : j ≠ 0) : Pu P n l o (.int k (i.tmod j)) := fun a ha w => by simp [execOp, ho, ha.eval hx, ha.eval hy, eqGuard_at_int, binOp_rem, Op.intDiv, hj]
theorem Pu.and (ho : o.op = .binOp .and T x y T') (hx : ev l x = some (.int k i)) (hy : ev l y = some (.int k j)) : Pu P n l o (.int k (bits .and k i j)) := fun a ha w => by simp [execOp, ho, ha.eval hx, ha.eval hy, eqGuard_at_int, binOp_and, intBits_and]
theorem Pu.or (ho : o.op = .binOp .or T x y T') (hx : ev l x = some (.int k i)) (hy : ev l y = some (.int k j)) : Pu P n l o (.int k (bits .or k i j)) := fun a ha w => by simp [execOp, ho, ha.eval hx, ha.eval hy, eqGuard_at_int, binOp_or, intBits_or]
theorem Pu.xor (ho : o.op = .binOp .xor T x y T') (hx : ev l x = some (.int k i)) (hy : ev l y = some (.int k j)) : Pu P n l o (.int k (bits .xor k i j)) := fun a ha w => by simp [execOp, ho, ha.eval hx, ha.eval hy, eqGuard_at_int, binOp_xor, intBits_xor]
theorem Pu.andNot (ho : o.op = .binOp .andNot T x y T') (hx : ev l x = some (.int k i)) (hy : ev l y = some (.int k j)) : Pu P n l o (.int k (bits .andNot k i j)) := fun a ha w => by simp [execOp, ho, ha.eval hx, ha.eval hy, eqGuard_at_int, binOp_andNot, intBits_andNot]
def shlV (k : IntKind) (i j : Int) : Int := k.wrap (i * 2 ^ min j.toNat k.bits)
def shrV (k : IntKind) (i j : Int) : Int := i.fdiv (2 ^ min j.toNat k.bits)
theorem Pu.shl {k' : IntKind} (ho : o.op = .binOp .shl T x y T') (hx : ev l x = some (.int k i)) (hy : ev l y = some (.int k' j)) (hj : 0 ≤ j) : Pu P n l o (.int k (shlV k i j)) := fun a ha w => by simp [execOp, ho, ha.eval hx, ha.eval hy, eqGuard_at_int, binOp_shl, Op.shift, show ¬ j < 0 by omega, shlV]
theorem Pu.shr {k' : IntKind} (ho : o.op = .binOp .shr T x y T') (hx : ev l x = some (.int k i)) (hy : ev l y = some (.int k' j)) (hj : 0 ≤ j) : Pu P n l o (.int k (shrV k i j)) := fun a ha w => by simp [execOp, ho, ha.eval hx, ha.eval hy, eqGuard_at_int, binOp_shr, Op.shift, show ¬ j < 0 by omega, shrV]
theorem Pu.eql (ho : o.op = .binOp .eql T x y T') (hx : ev l x = some (.int k i)) (hy : ev l y = some (.int k j)) : Pu P n l o (.bool (decide (i = j))) := fun a ha w => by
  simp [execOp, ho, ha.eval hx, ha.eval hy, eqGuard_at_int, binOp_eql]; rfl
theorem Pu.neq (ho : o.op = .binOp .neq T x y T') (hx : ev l x = some (.int k i)) (hy : ev l y = some (.int k j)) : Pu P n l o (.bool (decide (i ≠ j))) := fun a ha w => by
  simp only [execOp, ho, ha.eval hx, ha.eval hy, eqGuard_at_int, binOp_neq]
  have : (i != j) = decide (i ≠ j) := by rw [Bool.eq_iff_iff]; simp
  simp [this]
theorem Pu.lss (ho : o.op = .binOp .lss T x y T') (hx : ev l x = some (.int k i)) (hy : ev l y = some (.int k j)) : Pu P n l o (.bool (decide (i < j))) := fun a ha w => by simp [execOp, ho, ha.eval hx, ha.eval hy, eqGuard_at_int, binOp_lss]
theorem Pu.leq (ho : o.op = .binOp .leq T x y T') (hx : ev l x = some (.int k i)) (hy : ev l y = some (.int k j)) : Pu P n l o (.bool (decide (i ≤ j))) := fun a ha w => by simp [execOp, ho, ha.eval hx, ha.eval hy, eqGuard_at_int, binOp_leq]
theorem Pu.gtr (ho : o.op = .binOp .gtr T x y T') (hx : ev l x = some (.int k i)) (hy : ev l y = some (.int k j)) : Pu P n l o (.bool (decide (j < i))) := fun a ha w => by simp [execOp, ho, ha.eval hx, ha.eval hy, eqGuard_at_int, binOp_gtr]
theorem Pu.geq (ho : o.op = .binOp .geq T x y T') (hx : ev l x = some (.int k i)) (hy : ev l y = some (.int k j)) : Pu P n l o (.bool (decide (j ≤ i))) := fun a ha w => by simp [execOp, ho, ha.eval hx, ha.eval hy, eqGuard_at_int, binOp_geq]
theorem Pu.neg {U : TypeId} (ho : o.op = .unOp .neg U x) (hx : ev l x = some (.int k i)) : Pu P n l o (.int k (k.wrap (0 - i))) := fun a ha w => by simp [execOp, ho, ha.eval hx, Op.unary, Op.intArith]
theorem Pu.not {U : TypeId} {b : Bool} (ho : o.op = .unOp .not U x) (hx : ev l x = some (.bool b)) : Pu P n l o (.bool (!b)) := fun a ha w => by simp [execOp, ho, ha.eval hx, Op.unary]
theorem Pu.cpl {U : TypeId} (ho : o.op = .unOp .xor U x) (hx : ev l x = some (.int k i)) : Pu P n l o (.int k (bits .xor k (if k.signed then -1 else k.max) i)) := fun a ha w => by simp [execOp, ho, ha.eval hx, Op.unary, intBits_xor]
theorem Pu.conv {s d : TypeId} {k' : IntKind} (ho : o.op = .convert s d x) (hs : (P.underlying s).isSome = true) (hd : P.underlying d = some (.int k')) (hx : ev l x = some (.int k i)) : Pu P n l o (.int k' (k'.wrap i)) := fun a ha w => by
  obtain ⟨ds, hs⟩ := Option.isSome_iff_exists.1 hs
  simp only [execOp, ho, ha.eval hx, convert, Sem.run_bind, run_underlying hs, run_underlying hd, Result.andThen_ok]
  cases ds <;> simp [Conv.intToInt]
/-- From a type to another one of the same strings. -/
theorem Pu.convS {s d : TypeId} {q : ByteArray} {ds : TypeDesc} (ho : o.op = .convert s d x) (hs : P.underlying s = some ds) (hd : P.underlying d = some .string) (hx : ev l x = some (.string q)) : Pu P n l o (.string q) := fun a ha w => by
  simp only [execOp, ho, ha.eval hx, convert, Sem.run_bind, run_underlying hs, run_underlying hd, Result.andThen_ok]
  cases ds <;> simp
end
section
variable {T T' : TypeId} {x y : Operand} {p q : ByteArray}
theorem toList_beq (p q : ByteArray) : (p.toList == q.toList) = decide (p = q) := by
  rw [ByteArray.toList_eq, ByteArray.toList_eq, Bool.eq_iff_iff]
  simp only [beq_iff_eq, decide_eq_true_eq]
  constructor
  · intro h
    have : p.data = q.data := Array.toList_inj.1 h
    cases p; cases q; simp_all
  · intro h; rw [h]
theorem Pu.sadd (ho : o.op = .binOp .add T x y T') (hx : ev l x = some (.string p)) (hy : ev l y = some (.string q)) (hb : p.size + q.size ≤ 9223372036854775807) : Pu P n l o (.string (p ++ q)) := fun a ha w => by
  have hm : ¬ (((p.size + q.size : Nat) : Int) > IntKind.i64.max) := by simp only [IntKind.max_i64]; omega
  simp [execOp, ho, ha.eval hx, ha.eval hy, eqGuard_at_string, binOp, Op.stringOp]
  omega
theorem Pu.seql (ho : o.op = .binOp .eql T x y T') (hx : ev l x = some (.string p)) (hy : ev l y = some (.string q)) : Pu P n l o (.bool (decide (p = q))) := fun a ha w => by simp [execOp, ho, ha.eval hx, ha.eval hy, eqGuard_at_string, binOp, Op.stringOp, toList_beq]
theorem Pu.sneq (ho : o.op = .binOp .neq T x y T') (hx : ev l x = some (.string p)) (hy : ev l y = some (.string q)) : Pu P n l o (.bool (decide (p ≠ q))) := fun a ha w => by simp [execOp, ho, ha.eval hx, ha.eval hy, eqGuard_at_string, binOp, Op.stringOp, toList_beq]
/-- The order of texts. -/
def slt (p q : ByteArray) : Bool := Op.bytesLess p.toList q.toList
theorem Pu.slss (ho : o.op = .binOp .lss T x y T') (hx : ev l x = some (.string p)) (hy : ev l y = some (.string q)) : Pu P n l o (.bool (slt p q)) := fun a ha w => by simp [execOp, ho, ha.eval hx, ha.eval hy, eqGuard_at_string, binOp, Op.stringOp, slt]
theorem Pu.sgtr (ho : o.op = .binOp .gtr T x y T') (hx : ev l x = some (.string p)) (hy : ev l y = some (.string q)) : Pu P n l o (.bool (!(slt p q || decide (p = q)))) := fun a ha w => by simp [execOp, ho, ha.eval hx, ha.eval hy, eqGuard_at_string, binOp, Op.stringOp, slt, toList_beq]
theorem Pu.sleq (ho : o.op = .binOp .leq T x y T') (hx : ev l x = some (.string p)) (hy : ev l y = some (.string q)) : Pu P n l o (.bool (slt p q || decide (p = q))) := fun a ha w => by simp [execOp, ho, ha.eval hx, ha.eval hy, eqGuard_at_string, binOp, Op.stringOp, slt, toList_beq]
theorem Pu.sgeq (ho : o.op = .binOp .geq T x y T') (hx : ev l x = some (.string p)) (hy : ev l y = some (.string q)) : Pu P n l o (.bool (!slt p q)) := fun a ha w => by simp [execOp, ho, ha.eval hx, ha.eval hy, eqGuard_at_string, binOp, Op.stringOp, slt]
theorem Pu.slen {U : TypeId} (ho : o.op = .call { callee := .builtin .len, args := #[x], argTypes := #[U] }) (hu : P.underlying U = some .string) (hx : ev l x = some (.string p)) : Pu P n l o (.int .i64 p.size) := fun a ha w => by
  simp [execOp, ho, resolve, invoke, builtin, ha.eval hx, Builtin.len_, run_underlying hu, goInt]
/-- A byte of a text. -/
def sAt (p : ByteArray) (i : Int) : Int := ((p.data[i.toNat]?).getD 0).toNat
theorem Pu.sidx {U : TypeId} {k : IntKind} {i : Int} (ho : o.op = .index U x y) (hu : P.underlying U = some .string) (hx : ev l x = some (.string p)) (hy : ev l y = some (.int k i)) (h0 : 0 ≤ i) (h1 : i < p.size) : Pu P n l o (.int .u8 (sAt p i)) := fun a ha w => by
  have hlt : i.toNat < p.size := by omega
  have hg : p[i.toNat]? = some (p[i.toNat]'hlt) := by simp [hlt]
  have hs : p.data[i.toNat]? = some (p[i.toNat]'hlt) := by
    have : i.toNat < p.data.size := hlt
    rw [Array.getElem?_eq_getElem this]; rfl
  simp [execOp, ho, Instr.index, ha.eval hx, ha.eval hy, asIntOf, run_underlying hu, h0, hg, sAt, hs]
/-- A bound of a cut, or what stands for it. -/
def bnd (l : Fr) : Option Operand → Int → Option Int
  | none, d => some d
  | some x, _ => match ev l x with
    | some (.int _ i) => some i
    | _ => none
theorem run_sliceBound {a : Act} (ha : Ag n a l) {x : Operand} {i d : Int} (hx : bnd l (some x) d = some i) {y : Nat} (h0 : 0 ≤ i) (h1 : i ≤ y) (code : BoundsCode) : (Instr.sliceBound (a.eval x) y code).run P w = .ok i.toNat w := by
  simp only [bnd] at hx
  split at hx
  · rename_i k j he
    obtain rfl : j = i := by simpa using hx
    simp [Instr.sliceBound, ha.eval he, asIntOf, h0, h1]
  · cases hx
theorem run_sliceBounds {a : Act} (ha : Ag n a l) {lo hi mx : Option Operand} {i j m : Int} {len cap : Nat} (b : Bool) (hmx : bnd l mx cap = some m) (hhi : bnd l hi len = some j) (hlo : bnd l lo 0 = some i)
    (hh : mx.isSome = true → hi.isSome = true) (h0 : 0 ≤ i) (h1 : i ≤ j) (h2 : j ≤ m) (h3 : m ≤ cap) : (Instr.sliceBounds b len cap (lo.map a.eval) (hi.map a.eval) (mx.map a.eval)).run P w = .ok (i.toNat, j.toNat, m.toNat) w := by
  have hm0 : 0 ≤ m := by omega
  have hj0 : 0 ≤ j := by omega
  cases mx with
  | none =>
    obtain rfl : (cap : Int) = m := by simpa [bnd] using hmx
    cases hi with
    | none =>
      obtain rfl : (len : Int) = j := by simpa [bnd] using hhi
      cases lo with
      | none =>
        obtain rfl : (0 : Int) = i := by simpa [bnd] using hlo
        simp [Instr.sliceBounds]
      | some x => simp [Instr.sliceBounds, run_sliceBound ha hlo h0 h1]
    | some y =>
      cases lo with
      | none =>
        obtain rfl : (0 : Int) = i := by simpa [bnd] using hlo
        simp [Instr.sliceBounds, run_sliceBound ha hhi hj0 h2]
      | some x => simp [Instr.sliceBounds, run_sliceBound ha hhi hj0 h2, run_sliceBound ha hlo h0 (show i ≤ (j.toNat : Int) by omega)]
  | some z =>
    cases hi with
    | none => simp at hh
    | some y =>
      cases lo with
      | none =>
        obtain rfl : (0 : Int) = i := by simpa [bnd] using hlo
        simp [Instr.sliceBounds, run_sliceBound ha hmx hm0 h3, run_sliceBound ha hhi hj0 (show j ≤ (m.toNat : Int) by omega)]
      | some x => simp [Instr.sliceBounds, run_sliceBound ha hmx hm0 h3, run_sliceBound ha hhi hj0 (show j ≤ (m.toNat : Int) by omega), run_sliceBound ha hlo h0 (show i ≤ (j.toNat : Int) by omega)]
theorem Pu.sslice {U : TypeId} {lo hi : Option Operand} {i j : Int} (ho : o.op = .slice U x lo hi none) (hu : P.underlying U = some .string) (hx : ev l x = some (.string p))
    (hlo : bnd l lo 0 = some i) (hhi : bnd l hi p.size = some j) (h0 : 0 ≤ i) (h1 : i ≤ j) (h2 : j ≤ p.size) : Pu P n l o (.string (p.extract i.toNat j.toNat)) := fun a ha w => by
  have hb := run_sliceBounds (P := P) (w := w) ha (mx := none) (cap := p.size) false rfl hhi hlo (by simp) h0 h1 h2 (Int.le_refl _)
  simp only [Option.map_none] at hb
  simp [execOp, ho, Instr.sliceAt, run_underlying hu, Instr.slice, ha.eval hx, hb]
end
section
variable {x y : Operand} {s : Sl}
/-- A cut of a slice. -/
def slS (s : Sl) (i j m : Int) (size : Nat) : Sl := ⟨if m.toNat = i.toNat then s.a else s.a.map (·.add (i.toNat * size)), j.toNat - i.toNat, m.toNat - i.toNat⟩
theorem Pu.slice {U T : TypeId} {lo hi mx : Option Operand} {i j m : Int} {size : Nat} (ho : o.op = .slice U x lo hi mx) (hu : P.underlying U = some (.slice T)) (hT : (P.info? T).map (·.size) = some size) (hx : ev l x = some s.v)
    (hlo : bnd l lo 0 = some i) (hhi : bnd l hi s.len = some j) (hmx : bnd l mx s.cap = some m) (hh : (!mx.isSome || hi.isSome) = true) (h0 : 0 ≤ i) (h1 : i ≤ j) (h2 : j ≤ m) (h3 : m ≤ s.cap) : Pu P n l o (slS s i j m size).v := fun a ha w => by
  have hb := run_sliceBounds (P := P) (w := w) ha (cap := s.cap) true hmx hhi hlo (by intro h; simpa [h] using hh) h0 h1 h2 h3
  obtain ⟨i0, hi0, hz⟩ : ∃ i, P.info? T = some i ∧ i.size = size := by
    cases hi : P.info? T with
    | none => rw [hi] at hT; cases hT
    | some i => rw [hi] at hT; exact ⟨i, rfl, by simpa using hT⟩
  simp [execOp, ho, Instr.sliceAt, run_underlying hu, Instr.slice, ha.eval hx, hb, Sl.v, sizeOf, typeInfo, hi0, hz, slS]
/-- A part of an array that lies in memory. -/
theorem Pu.sliceA {U T : TypeId} {lo hi mx : Option Operand} {i j m : Int} {size k b q : Nat} (ho : o.op = .slice U x lo hi mx) (hu : P.underlying U = some (.array k T)) (hT : (P.info? T).map (·.size) = some size) (hx : ev l x = some (.pointer (some ⟨b, q, none⟩)))
    (hlo : bnd l lo 0 = some i) (hhi : bnd l hi k = some j) (hmx : bnd l mx k = some m) (hh : (!mx.isSome || hi.isSome) = true) (h0 : 0 ≤ i) (h1 : i ≤ j) (h2 : j ≤ m) (h3 : m ≤ k) : Pu P n l o (slS ⟨some ⟨b, q, none⟩, k, k⟩ i j m size).v := fun a ha w => by
  have hb := run_sliceBounds (P := P) (w := w) ha (len := k) (cap := k) false hmx hhi hlo (by intro h; simpa [h] using hh) h0 h1 h2 h3
  obtain ⟨i0, hi0, hz⟩ : ∃ i, P.info? T = some i ∧ i.size = size := by
    cases hi : P.info? T with
    | none => rw [hi] at hT; cases hT
    | some i => rw [hi] at hT; exact ⟨i, rfl, by simpa using hT⟩
  simp [execOp, ho, Instr.sliceAt, run_underlying hu, Instr.sureAddr, ha.eval hx, hb, Sl.v, sizeOf, typeInfo, hi0, hz, slS]
  split <;> rfl
theorem Pu.len {U T : TypeId} (ho : o.op = .call { callee := .builtin .len, args := #[x], argTypes := #[U] }) (hu : P.underlying U = some (.slice T)) (hx : ev l x = some s.v) : Pu P n l o (.int .i64 s.len) := fun a ha w => by
  simp [execOp, ho, resolve, invoke, builtin, ha.eval hx, Builtin.len_, run_underlying hu, goInt, Sl.v]
theorem Pu.cap {U T : TypeId} (ho : o.op = .call { callee := .builtin .cap, args := #[x], argTypes := #[U] }) (hu : P.underlying U = some (.slice T)) (hx : ev l x = some s.v) : Pu P n l o (.int .i64 s.cap) := fun a ha w => by
  simp [execOp, ho, resolve, invoke, builtin, ha.eval hx, Builtin.cap_, run_underlying hu, goInt, Sl.v]
theorem Pu.min {U : Array TypeId} {k k' : IntKind} {i j : Int} (ho : o.op = .call { callee := .builtin .min, args := #[x, y], argTypes := U }) (hx : ev l x = some (.int k i)) (hy : ev l y = some (.int k' j)) : Pu P n l o (.int k (if j < i then j else i)) := fun a ha w => by
  simp [execOp, ho, resolve, invoke, builtin, ha.eval hx, ha.eval hy, Builtin.min_, Builtin.min2]
theorem Pu.max {U : Array TypeId} {k k' : IntKind} {i j : Int} (ho : o.op = .call { callee := .builtin .max, args := #[x, y], argTypes := U }) (hx : ev l x = some (.int k i)) (hy : ev l y = some (.int k' j)) : Pu P n l o (.int k (if j > i then j else i)) := fun a ha w => by
  simp [execOp, ho, resolve, invoke, builtin, ha.eval hx, ha.eval hy, Builtin.max_, Builtin.max2]
theorem run_eq_slnil (d : Nat) {T E : TypeId} (hu : P.underlying T = some (.slice E)) (a : Option Addr) (m c : Nat) : (Op.equalIn (d + 1) T (.slice a m c) (.slice none 0 0)).run P w = .ok a.isNone w := by
  cases a <;> simp [Op.equalIn, run_underlying hu]
theorem run_eq_pnil (d : Nat) {T E : TypeId} (hu : P.underlying T = some (.pointer E)) (a : Option Addr) : (Op.equalIn (d + 1) T (.pointer a) (.pointer none)).run P w = .ok a.isNone w := by
  cases a <;> simp [Op.equalIn, run_underlying hu]
theorem run_eq_mnil (d : Nat) {T A B : TypeId} (hu : P.underlying T = some (.map A B)) (r : Option Nat) : (Op.equalIn (d + 1) T (.map r) (.map none)).run P w = .ok r.isNone w := by
  cases r <;> simp [Op.equalIn, run_underlying hu]
theorem run_eq_bool (d : Nat) {T : TypeId} (hu : P.underlying T = some .bool) (b c : Bool) : (Op.equalIn (d + 1) T (.bool b) (.bool c)).run P w = .ok (b == c) w := by
  simp [Op.equalIn, run_underlying hu]
theorem run_eq_func (d : Nat) {T : TypeId} {A B : Array TypeId} {v : Bool} (hu : P.underlying T = some (.func A B v)) (f : Fn) (b c : Array Value) : (Op.equalIn (d + 1) T (.func f b c) .nilFunc).run P w = .ok false w := by
  simp [Op.equalIn, run_underlying hu]
theorem Pu.eqOf {T T' : TypeId} {u v : Value} {b : Bool} (ho : o.op = .binOp .eql T x y T') (hx : ev l x = some u) (hy : ev l y = some v) (hg : ∀ x y, eqGuard .eql T x y u v = pure ()) (hb : binOp .eql T u v = (do pure (.bool (← Op.equal T u v)))) (he : ∀ d w, (Op.equalIn (d + 1) T u v).run P w = .ok b w) : Pu P n l o (.bool b) := fun a ha w => by
  have h := he 9999 w
  simp only [execOp, ho, ha.eval hx, ha.eval hy, hg, hb, Op.equal, Op.maxDepth]
  simp only [Sem.run_bind, Sem.run_pure, Result.andThen_ok, h]
theorem Pu.neOf {T T' : TypeId} {u v : Value} {b : Bool} (ho : o.op = .binOp .neq T x y T') (hx : ev l x = some u) (hy : ev l y = some v) (hg : ∀ x y, eqGuard .neq T x y u v = pure ()) (hb : binOp .neq T u v = (do pure (.bool (!(← Op.equal T u v))))) (he : ∀ d w, (Op.equalIn (d + 1) T u v).run P w = .ok b w) : Pu P n l o (.bool (!b)) := fun a ha w => by
  have h := he 9999 w
  simp only [execOp, ho, ha.eval hx, ha.eval hy, hg, hb, Op.equal, Op.maxDepth]
  simp only [Sem.run_bind, Sem.run_pure, Result.andThen_ok, h]
theorem Pu.slnil {T T' : TypeId} {E : TypeId} (ho : o.op = .binOp .eql T x (.const (.slice none 0 0)) T') (hu : P.underlying T = some (.slice E)) (hx : ev l x = some s.v) : Pu P n l o (.bool s.a.isNone) :=
  Pu.eqOf ho hx rfl (fun _ _ => eqGuard_at_slice ..) (by simp [binOp, Sl.v]) fun d w => run_eq_slnil d hu _ _ _
theorem Pu.slnnil {T T' : TypeId} {E : TypeId} (ho : o.op = .binOp .neq T x (.const (.slice none 0 0)) T') (hu : P.underlying T = some (.slice E)) (hx : ev l x = some s.v) : Pu P n l o (.bool (!s.a.isNone)) :=
  Pu.neOf ho hx rfl (fun _ _ => eqGuard_at_slice ..) (by simp [binOp, Sl.v]) fun d w => run_eq_slnil d hu _ _ _
end
section
variable {x y : Operand} {p : Option Addr}
theorem Pu.pnil {T T' : TypeId} {E : TypeId} (ho : o.op = .binOp .eql T x (.const (.pointer none)) T') (hu : P.underlying T = some (.pointer E)) (hx : ev l x = some (.pointer p)) : Pu P n l o (.bool p.isNone) :=
  Pu.eqOf ho hx rfl (fun _ _ => eqGuard_at_pointer ..) (by simp [binOp]) fun d w => run_eq_pnil d hu _
theorem Pu.pnnil {T T' : TypeId} {E : TypeId} (ho : o.op = .binOp .neq T x (.const (.pointer none)) T') (hu : P.underlying T = some (.pointer E)) (hx : ev l x = some (.pointer p)) : Pu P n l o (.bool (!p.isNone)) :=
  Pu.neOf ho hx rfl (fun _ _ => eqGuard_at_pointer ..) (by simp [binOp]) fun d w => run_eq_pnil d hu _
theorem Pu.mnil {T T' : TypeId} {A B : TypeId} {r : Option Nat} (ho : o.op = .binOp .eql T x (.const (.map none)) T') (hu : P.underlying T = some (.map A B)) (hx : ev l x = some (.map r)) : Pu P n l o (.bool r.isNone) :=
  Pu.eqOf ho hx rfl (fun _ _ => eqGuard_at_map ..) (by simp [binOp]) fun d w => run_eq_mnil d hu _
theorem Pu.mnnil {T T' : TypeId} {A B : TypeId} {r : Option Nat} (ho : o.op = .binOp .neq T x (.const (.map none)) T') (hu : P.underlying T = some (.map A B)) (hx : ev l x = some (.map r)) : Pu P n l o (.bool (!r.isNone)) :=
  Pu.neOf ho hx rfl (fun _ _ => eqGuard_at_map ..) (by simp [binOp]) fun d w => run_eq_mnil d hu _
theorem Pu.beql {T T' : TypeId} {b c : Bool} (ho : o.op = .binOp .eql T x y T') (hu : P.underlying T = some .bool) (hx : ev l x = some (.bool b)) (hy : ev l y = some (.bool c)) : Pu P n l o (.bool (b == c)) :=
  Pu.eqOf ho hx hy (fun _ _ => eqGuard_at_bool ..) (by simp [binOp]) fun d w => run_eq_bool d hu _ _
theorem Pu.bneq {T T' : TypeId} {b c : Bool} (ho : o.op = .binOp .neq T x y T') (hu : P.underlying T = some .bool) (hx : ev l x = some (.bool b)) (hy : ev l y = some (.bool c)) : Pu P n l o (.bool (!(b == c))) :=
  Pu.neOf ho hx hy (fun _ _ => eqGuard_at_bool ..) (by simp [binOp]) fun d w => run_eq_bool d hu _ _
theorem Pu.fnil {T T' : TypeId} {A B : Array TypeId} {v : Bool} {f : Fn} {c d : Array Value} (ho : o.op = .binOp .eql T x (.const .nilFunc) T') (hu : P.underlying T = some (.func A B v)) (hx : ev l x = some (.func f c d)) : Pu P n l o (.bool false) :=
  Pu.eqOf ho hx rfl (fun _ _ => eqGuard_at_func ..) (by simp [binOp]) fun d w => run_eq_func d hu _ _ _
/-- 'nilCheck': the pointer is none of nil. -/
theorem Pu.nilCheck {q : Addr} (ho : o.op = .nilCheck x) (hx : ev l x = some (.pointer (some q))) : Pu P n l o (.pointer (some q)) := fun a ha w => by simp [execOp, ho, ha.eval hx]
theorem Pu.fieldAddr {S : TypeId} {i b q : Nat} {fs : Array Field} {f : Field} (k : Nat) (ho : o.op = .fieldAddr S x i) (hu : P.underlying S = some (.struct fs)) (hf : fs[i]? = some f) (hk : f.offset = k) (hz : (P.info? f.type).any (fun i => i.size != 0) = true) (hx : ev l x = some (.pointer (some ⟨b, q, none⟩))) :
    Pu P n l o (.pointer (some ⟨b, q + k, none⟩)) := fun a ha w => by
  obtain ⟨i0, hi0, hz⟩ : ∃ i, P.info? f.type = some i ∧ i.size ≠ 0 := by
    cases hi : P.info? f.type with
    | none => rw [hi] at hz; simp at hz
    | some i => rw [hi] at hz; exact ⟨i, rfl, by simpa using hz⟩
  subst hk
  simp [execOp, ho, Instr.fieldAt, run_underlying hu, hf, ha.eval hx, Instr.sureAddr, fieldPlace, sizeOf, typeInfo, hi0, hz, Addr.add_lit]
theorem Pu.indexAddr {U T : TypeId} {s : Sl} {i : Int} {k : IntKind} {b q size : Nat} (ho : o.op = .indexAddr U x y) (hu : P.underlying U = some (.slice T)) (hT : (P.info? T).map (·.size) = some size) (hx : ev l x = some s.v) (hy : ev l y = some (.int k i)) (hs : s.a = some ⟨b, q, none⟩) (h0 : 0 ≤ i) (h1 : i < s.len) :
    Pu P n l o (.pointer (some ⟨b, q + i.toNat * size, none⟩)) := fun a ha w => by
  obtain ⟨i0, hi0, hz⟩ : ∃ i, P.info? T = some i ∧ i.size = size := by
    cases hi : P.info? T with
    | none => rw [hi] at hT; cases hT
    | some i => rw [hi] at hT; exact ⟨i, rfl, by simpa using hT⟩
  simp [execOp, ho, Instr.indexAt, ha.eval hx, ha.eval hy, asIntOf, run_underlying hu, Sl.v, hs, h0, h1, sizeOf, typeInfo, hi0, hz, Addr.add_lit]
/-- The place of an element of an array that lies in memory. -/
theorem Pu.indexAddrA {U T : TypeId} {len : Nat} {i : Int} {k : IntKind} {b q size : Nat} (ho : o.op = .indexAddr U x y) (hu : P.underlying U = some (.array len T)) (hT : (P.info? T).map (·.size) = some size) (hx : ev l x = some (.pointer (some ⟨b, q, none⟩))) (hy : ev l y = some (.int k i)) (h0 : 0 ≤ i) (h1 : i < len) :
    Pu P n l o (.pointer (some ⟨b, q + i.toNat * size, none⟩)) := fun a ha w => by
  obtain ⟨i0, hi0, hz⟩ : ∃ i, P.info? T = some i ∧ i.size = size := by
    cases hi : P.info? T with
    | none => rw [hi] at hT; cases hT
    | some i => rw [hi] at hT; exact ⟨i, rfl, by simpa using hT⟩
  simp [execOp, ho, Instr.indexAt, ha.eval hx, ha.eval hy, asIntOf, run_underlying hu, Instr.sureAddr, h0, h1, sizeOf, typeInfo, hi0, hz, Addr.add_lit]
theorem Pu.extract {i : Nat} {vs : List Value} {v : Value} (ho : o.op = .extract x i) (hx : ev l x = some (.tuple vs.toArray)) (hv : vs[i]? = some v) : Pu P n l o v := fun a ha w => by simp [execOp, ho, Instr.extract, ha.eval hx, hv]
theorem Pu.makeFunc {fn : Fn} {first captured : List Operand} {fs cs : List Value} (ho : o.op = .makeFunc fn first.toArray captured.toArray) (hf : first.map (ev l) = fs.map some) (hc : captured.map (ev l) = cs.map some) : Pu P n l o (.func fn fs.toArray cs.toArray) := fun a ha w => by
  have hmap : ∀ (xs : List Operand) (vs : List Value), xs.map (ev l) = vs.map some → xs.map a.eval = vs := by
    intro xs
    induction xs with
    | nil => intro vs h; cases vs <;> simp_all
    | cons x xs ih =>
      intro vs h
      cases vs with
      | nil => simp at h
      | cons v vs =>
        simp only [List.map_cons, List.cons.injEq] at h ⊢
        exact ⟨ha.eval h.1, ih vs h.2⟩
  simp [execOp, ho, Instr.makeFunc, hmap _ _ hf, hmap _ _ hc]
theorem Pu.makeIface {T : TypeId} {d : TypeDesc} {v : Value} (ho : o.op = .makeInterface T x) (hu : P.underlying T = some d) (hd : (match d with | .interface _ => false | _ => true) = true) (hx : ev l x = some v) : Pu P n l o (.iface T v) := fun a ha w => by
  simp only [execOp, ho, Instr.makeInterface, Sem.run_bind, run_underlying hu, Result.andThen_ok, ha.eval hx]
  cases d <;> first | rfl | (simp at hd)
/-- A field of a struct that is no struct itself. -/
theorem Pu.field {S : TypeId} {i : Nat} {fs : Array Field} {f : Field} {d : TypeDesc} {cs : List Value} {v : Value} (k : Nat) (ho : o.op = .field S x i) (hu : P.underlying S = some (.struct fs)) (hf : fs[i]? = some f) (hk : f.offset = k) (hd : P.underlying f.type = some d) (hn : aggD d = false)
    (hx : ev l x = some (.agg cs.toArray)) (hv : cs[k]? = some v) : Pu P n l o v := fun a ha w => by
  subst hk
  have hag : (isAgg f.type).run P w = .ok false w := by
    simp only [isAgg, Sem.run_bind, run_underlying hd, Result.andThen_ok]
    cases d <;> first | rfl | (simp [aggD] at hn)
  simp [execOp, ho, Instr.field, run_underlying hu, hf, ha.eval hx, asAgg, part, hag, hv]
/-- A field of a struct that is one itself. -/
theorem Pu.fieldA {S : TypeId} {i : Nat} {fs : Array Field} {f : Field} {d : TypeDesc} {cs : List Value} (k size : Nat) {vs : List Value} (ho : o.op = .field S x i) (hu : P.underlying S = some (.struct fs)) (hf : fs[i]? = some f) (hk : f.offset = k) (hd : P.underlying f.type = some d) (hn : aggD d = true)
    (hT : (P.info? f.type).map (·.size) = some size) (hx : ev l x = some (.agg cs.toArray)) (hv : (cs.drop k).take size = vs) : Pu P n l o (.agg vs.toArray) := fun a ha w => by
  subst hk
  have hag : (isAgg f.type).run P w = .ok true w := by
    simp only [isAgg, Sem.run_bind, run_underlying hd, Result.andThen_ok]
    cases d <;> first | rfl | (simp [aggD] at hn)
  obtain ⟨i0, hi0, hz⟩ : ∃ i, P.info? f.type = some i ∧ i.size = size := by
    cases hi : P.info? f.type with
    | none => rw [hi] at hT; cases hT
    | some i => rw [hi] at hT; exact ⟨i, rfl, by simpa using hT⟩
  have hex : cs.toArray.extract f.offset (f.offset + size) = vs.toArray := by
    rw [← hv]
    apply Array.ext'
    simp [List.extract_eq_take_drop]
  simp [execOp, ho, Instr.field, run_underlying hu, hf, ha.eval hx, asAgg, part, hag, sizeOf, typeInfo, hi0, hz]
  exact hv
end
end Go.Vc
