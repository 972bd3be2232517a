/-
  What each kind of operation comes to. Conditions: none.
-/
import Derived.Test.YtcomjkbfmklfnaaDoorSepE
set_option linter.unusedSimpArgs false
set_option linter.unusedVariables false
namespace Go.Sep
open Go.Conc

section
variable {P : Program} {H : Hp}

/-- The type of one cell. -/
def oneT (P : Program) (t : TypeId) : Bool := match P.underlying t with | some (.struct _) => false | some (.array _ _) => false | some _ => true | none => false

/-- No interface type. -/
def concT (P : Program) (t : TypeId) : Bool := match P.underlying t with | some (.interface _) => false | some _ => true | none => false

theorem semS_indexAt {t e : TypeId} (hu : P.underlying t = some (.slice e)) {ti : TypeInfo} (hi : P.info? e = some ti) (b off len cap : Nat) (i : Nat) (h : i < len) (K : Value → Hp → Prop) :
    SemS P (Instr.indexAt t (.slice (some ⟨b, off, none⟩) len cap) (.int .i64 i)) H K = K (.pointer (some ⟨b, off + i * ti.size, none⟩)) H := by
  have h' : (0 : Int) ≤ (i : Int) ∧ (i : Int) < (len : Int) := by omega
  simp only [Instr.indexAt, asIntOf, semS_bind, semS_pure, semS_underlying, hu, semS_ite, h', semS_sizeOf, hi, if_true, and_self, Int.toNat_natCast, add_none]

theorem semS_loadAt {t : TypeId} (hu : oneT P t = true) {a : Addr} {v : Value} (hc : H.cell a = some v) (K : Value → Hp → Prop) :
    SemS P (Instr.loadAt t (.pointer (some a))) H K = K v H := by
  unfold oneT at hu
  simp only [Instr.loadAt, Instr.sureAddr, loadVar, semS_bind, semS_pure, semS_isAgg]
  cases h : P.underlying t with
  | none => rw [h] at hu; cases hu
  | some d => rw [h] at hu; cases d <;> simp_all

theorem semS_loadCells1 {b off : Nat} {x : Value} (h0 : H.cell ⟨b, off, none⟩ = some x) (K : Array Value → Hp → Prop) : SemS P (loadCells ⟨b, off, none⟩ 1) H K = K #[x] H := by
  simp [loadCells, loadCellsFrom, add_none, h0]
theorem semS_loadCells2 {b off : Nat} {x y : Value} (h0 : H.cell ⟨b, off, none⟩ = some x) (h1 : H.cell ⟨b, off + 1, none⟩ = some y) (K : Array Value → Hp → Prop) : SemS P (loadCells ⟨b, off, none⟩ 2) H K = K #[x, y] H := by
  simp [loadCells, loadCellsFrom, add_none, h0, h1]
theorem semS_loadCells3 {b off : Nat} {x y z : Value} (h0 : H.cell ⟨b, off, none⟩ = some x) (h1 : H.cell ⟨b, off + 1, none⟩ = some y) (h2 : H.cell ⟨b, off + 2, none⟩ = some z) (K : Array Value → Hp → Prop) : SemS P (loadCells ⟨b, off, none⟩ 3) H K = K #[x, y, z] H := by
  simp [loadCells, loadCellsFrom, add_none, h0, h1, h2]

theorem semS_loadAt2 {t : TypeId} {fs : Array Field} (hu : P.underlying t = some (.struct fs)) {ti : TypeInfo} (hi : P.info? t = some ti) (hz : ti.size = 2) {b off : Nat} {x y : Value} (h0 : H.cell ⟨b, off, none⟩ = some x) (h1 : H.cell ⟨b, off + 1, none⟩ = some y) (K : Value → Hp → Prop) :
    SemS P (Instr.loadAt t (.pointer (some ⟨b, off, none⟩))) H K = K (.agg #[x, y]) H := by
  simp only [Instr.loadAt, Instr.sureAddr, loadVar, semS_bind, semS_pure, semS_isAgg, hu, if_true, semS_sizeOf, hi, hz, semS_loadCells2 h0 h1]
theorem semS_loadAt3 {t : TypeId} {fs : Array Field} (hu : P.underlying t = some (.struct fs)) {ti : TypeInfo} (hi : P.info? t = some ti) (hz : ti.size = 3) {b off : Nat} {x y z : Value} (h0 : H.cell ⟨b, off, none⟩ = some x) (h1 : H.cell ⟨b, off + 1, none⟩ = some y) (h2 : H.cell ⟨b, off + 2, none⟩ = some z) (K : Value → Hp → Prop) :
    SemS P (Instr.loadAt t (.pointer (some ⟨b, off, none⟩))) H K = K (.agg #[x, y, z]) H := by
  simp only [Instr.loadAt, Instr.sureAddr, loadVar, semS_bind, semS_pure, semS_isAgg, hu, if_true, semS_sizeOf, hi, hz, semS_loadCells3 h0 h1 h2]

theorem cells_one {v : Value} (h : oneCell v = true) : v.cells = #[v] := by cases v <;> first | rfl | cases h

/-- A store of one cell into a block of one's own. -/
theorem semS_storeAt {t : TypeId} {ti : TypeInfo} (hi : P.info? t = some ti) (hz : ti.size = 1) {b off : Nat} {c : Array Value} {te : TypeId} (hb : H.own b = some (.cells c te (0, 0))) (ho : off < c.size) {v : Value} (hv : oneCell v = true) (K : Unit → Hp → Prop) :
    SemS P (Instr.storeAt t (.pointer (some ⟨b, off, none⟩)) v) H K = K () (H.set b (.cells (c.setIfInBounds off v) te (0, 0))) := by
  simp only [Instr.storeAt, Instr.sureAddr, storeVar, semS_bind, semS_pure, semS_sizeOf, hi, hz, cells_one hv, List.size_toArray, List.length_cons, List.length_nil]
  simp [storeCells, add_none, semS_store_own hb ho v hv]

theorem set_set (b : Nat) (o o' : Obj) : (H.set b o).set b o' = H.set b o' := by
  unfold Hp.set
  congr 1
  funext b'
  by_cases h : b' = b <;> simp [h]

theorem semS_storeAt2 {t : TypeId} {ti : TypeInfo} (hi : P.info? t = some ti) (hz : ti.size = 2) {b off : Nat} {c : Array Value} {te : TypeId} (hb : H.own b = some (.cells c te (0, 0))) (ho : off + 1 < c.size) {x y : Value} (hx : oneCell x = true) (hy : oneCell y = true) (K : Unit → Hp → Prop) :
    SemS P (Instr.storeAt t (.pointer (some ⟨b, off, none⟩)) (.agg #[x, y])) H K = K () (H.set b (.cells ((c.setIfInBounds off x).setIfInBounds (off + 1) y) te (0, 0))) := by
  simp only [Instr.storeAt, Instr.sureAddr, storeVar, semS_bind, semS_pure, semS_sizeOf, hi, hz, Value.cells, List.size_toArray, List.length_cons, List.length_nil]
  simp only [ne_eq, Nat.reduceAdd, not_true_eq_false, semS_ite, if_false, storeCells, semS_bind, semS_pure, add_none, Nat.add_zero, semS_store_own hb (show off < c.size by omega) x hx]
  rw [semS_store_own (H := H.set b _) (set_own_same _ _ _) (by simpa using ho) y hy, set_set]
theorem semS_storeAt3 {t : TypeId} {ti : TypeInfo} (hi : P.info? t = some ti) (hz : ti.size = 3) {b off : Nat} {c : Array Value} {te : TypeId} (hb : H.own b = some (.cells c te (0, 0))) (ho : off + 2 < c.size) {x y z : Value} (hx : oneCell x = true) (hy : oneCell y = true) (hzz : oneCell z = true) (K : Unit → Hp → Prop) :
    SemS P (Instr.storeAt t (.pointer (some ⟨b, off, none⟩)) (.agg #[x, y, z])) H K = K () (H.set b (.cells (((c.setIfInBounds off x).setIfInBounds (off + 1) y).setIfInBounds (off + 2) z) te (0, 0))) := by
  simp only [Instr.storeAt, Instr.sureAddr, storeVar, semS_bind, semS_pure, semS_sizeOf, hi, hz, Value.cells, List.size_toArray, List.length_cons, List.length_nil]
  simp only [ne_eq, Nat.reduceAdd, not_true_eq_false, semS_ite, if_false, storeCells, semS_bind, semS_pure, add_none, Nat.add_zero, semS_store_own hb (show off < c.size by omega) x hx]
  rw [semS_store_own (H := H.set b _) (set_own_same _ _ _) (by simp; omega) y hy, set_set]
  rw [semS_store_own (H := H.set b _) (set_own_same _ _ _) (by simp; omega) z hzz, set_set]

/-- A new variable, nought. -/
theorem semS_alloc {t : TypeId} {ti : TypeInfo} (hi : P.info? t = some ti) {z : Value} (hz : ti.zero = some z) (K : Value → Hp → Prop) :
    SemS P (Instr.alloc t true (.tuple #[])) H K = ∀ n, H.own n = none → H.ro n = none → K (.pointer (some ⟨n, 0, none⟩)) (H.set n (.cells z.cells t (0, 0))) := by
  simp only [Instr.alloc, newVar, newRow, semS_bind, semS_zeroValue, hi, hz, semS_newObj, semS_pure]
theorem semS_box {t : TypeId} (v : Value) (K : Value → Hp → Prop) :
    SemS P (Instr.box t v) H K = ∀ n, H.own n = none → H.ro n = none → K (.pointer (some ⟨n, 0, none⟩)) (H.set n (.cells v.cells t (0, 0))) := by
  simp only [Instr.box, newVar, newRow, semS_bind, semS_newObj, semS_pure]

theorem semS_fieldAt {s : TypeId} {fs : Array Field} (hu : P.underlying s = some (.struct fs)) {i : Nat} {f : Field} (hf : fs[i]? = some f) {ti : TypeInfo} (hi : P.info? f.type = some ti) (hz : ti.size ≠ 0) (b off : Nat) (K : Value → Hp → Prop) :
    SemS P (Instr.fieldAt s (.pointer (some ⟨b, off, none⟩)) i) H K = K (.pointer (some ⟨b, off + f.offset, none⟩)) H := by
  simp only [Instr.fieldAt, Instr.sureAddr, semS_bind, semS_pure, semS_underlying, hu, hf, fieldPlace, semS_sizeOf, hi, semS_ite, hz, if_false, add_none]

/-! ### numbers -/
theorem semS_eqGuard_int (op : BinOp) (t : TypeId) (x y : Operand) (k k' : IntKind) (a b : Int) (K : Unit → Hp → Prop) : SemS P (eqGuard op t x y (.int k a) (.int k' b)) H K = K () H := by
  cases op <;> simp [eqGuard]
theorem semS_add (t : TypeId) (k : IntKind) (a b : Int) (K : Value → Hp → Prop) : SemS P (binOp .add t (.int k a) (.int k b)) H K = K (.int k (k.wrap (a + b))) H := by simp [binOp, Op.intArith]
theorem semS_sub (t : TypeId) (k : IntKind) (a b : Int) (K : Value → Hp → Prop) : SemS P (binOp .sub t (.int k a) (.int k b)) H K = K (.int k (k.wrap (a - b))) H := by simp [binOp, Op.intArith]
theorem semS_mul (t : TypeId) (k : IntKind) (a b : Int) (K : Value → Hp → Prop) : SemS P (binOp .mul t (.int k a) (.int k b)) H K = K (.int k (k.wrap (a * b))) H := by simp [binOp, Op.intArith]
theorem semS_quo (t : TypeId) (k : IntKind) (a b : Int) (hb : b ≠ 0) (K : Value → Hp → Prop) : SemS P (binOp .quo t (.int k a) (.int k b)) H K = K (.int k (k.wrap (a.tdiv b))) H := by simp [binOp, Op.intDiv, hb]
theorem semS_rem (t : TypeId) (k : IntKind) (a b : Int) (hb : b ≠ 0) (K : Value → Hp → Prop) : SemS P (binOp .rem t (.int k a) (.int k b)) H K = K (.int k (a.tmod b)) H := by simp [binOp, Op.intDiv, hb]
theorem semS_eql (t : TypeId) (k : IntKind) (a b : Int) (K : Value → Hp → Prop) : SemS P (binOp .eql t (.int k a) (.int k b)) H K = K (.bool (a == b)) H := by simp [binOp, Op.intCmp]
theorem semS_neq (t : TypeId) (k : IntKind) (a b : Int) (K : Value → Hp → Prop) : SemS P (binOp .neq t (.int k a) (.int k b)) H K = K (.bool (a != b)) H := by simp [binOp, Op.intCmp]
theorem semS_lss (t : TypeId) (k : IntKind) (a b : Int) (K : Value → Hp → Prop) : SemS P (binOp .lss t (.int k a) (.int k b)) H K = K (.bool (decide (a < b))) H := by simp [binOp, Op.intCmp]
theorem semS_leq (t : TypeId) (k : IntKind) (a b : Int) (K : Value → Hp → Prop) : SemS P (binOp .leq t (.int k a) (.int k b)) H K = K (.bool (decide (a ≤ b))) H := by simp [binOp, Op.intCmp]
theorem semS_gtr (t : TypeId) (k : IntKind) (a b : Int) (K : Value → Hp → Prop) : SemS P (binOp .gtr t (.int k a) (.int k b)) H K = K (.bool (decide (a > b))) H := by simp [binOp, Op.intCmp]
theorem semS_geq (t : TypeId) (k : IntKind) (a b : Int) (K : Value → Hp → Prop) : SemS P (binOp .geq t (.int k a) (.int k b)) H K = K (.bool (decide (a ≥ b))) H := by simp [binOp, Op.intCmp]
theorem semS_not (b : Bool) (K : Value → Hp → Prop) : SemS P (Op.unary .not (.bool b)) H K = K (.bool (!b)) H := by simp [Op.unary]
theorem semS_conv {src dst : TypeId} {k : IntKind} {d : TypeDesc} (h1 : P.underlying src = some d) (h2 : P.underlying dst = some (.int k)) (k' : IntKind) (n : Int) (K : Value → Hp → Prop) : SemS P (convert src dst (.int k' n)) H K = K (.int k (k.wrap n)) H := by
  simp only [convert, semS_bind, semS_underlying, h1, h2]
  cases d <;> simp [Conv.intToInt]

/-! ### others -/
theorem semS_len {t e : TypeId} (hu : P.underlying t = some (.slice e)) (ty : TypeId) (a : Option Addr) (n c : Nat) (K : Value → Hp → Prop) : SemS P (Builtin.len_ #[t] ty #[.slice a n c]) H K = K (.int .i64 n) H := by
  simp [Builtin.len_, hu, goInt]
theorem semS_makeInterface {t : TypeId} (hu : concT P t = true) (v : Value) (K : Value → Hp → Prop) : SemS P (Instr.makeInterface t v) H K = K (.iface t v) H := by
  unfold concT at hu
  simp only [Instr.makeInterface, semS_bind, semS_underlying]
  cases h : P.underlying t with
  | none => rw [h] at hu; cases hu
  | some d => rw [h] at hu; cases d <;> simp_all
theorem semS_typeAssert {t xt : TypeId} (hu : concT P t = true) (v : Value) (K : Value → Hp → Prop) : SemS P (Instr.typeAssert (.iface t v) xt t false) H K = K v H := by
  unfold concT at hu
  simp only [Instr.typeAssert, semS_bind, semS_underlying]
  cases h : P.underlying t with
  | none => rw [h] at hu; cases hu
  | some d => rw [h] at hu; cases d <;> simp_all
theorem semS_callFunc {f : FuncId} {fn : Func} (hf : P.funcs[f]? = some fn) (hn : (fn.name == "runtime.NumGoroutine") = false) (hb : fn.body.isNone = false) (args : Array Value) (K : Next → Hp → Prop) : SemS P (callFunc f args) H K = K (.enter f args) H := by
  simp only [callFunc, semS_bind, semS_program, hf, hn, hb]
  simp
theorem semS_equalIn_nil (d : Nat) {t : TypeId} {ms : Array (String × TypeId)} (hu : P.underlying t = some (.interface ms)) (v : Value) (hv : v = .nilIface ∨ ∃ t' x, v = .iface t' x) (K : Bool → Hp → Prop) :
    SemS P (Op.equalIn (d + 1) t v .nilIface) H K = K (match v with | .nilIface => true | _ => false) H := by
  rcases hv with rfl | ⟨t', x, rfl⟩ <;> simp [Op.equalIn, hu]
theorem semS_neqNil {t : TypeId} {ms : Array (String × TypeId)} (hu : P.underlying t = some (.interface ms)) (v : Value) (hv : v = .nilIface ∨ ∃ t' x, v = .iface t' x) (K : Value → Hp → Prop) :
    SemS P (binOp .neq t v .nilIface) H K = K (.bool (match v with | .nilIface => false | _ => true)) H := by
  have e : SemS P (binOp .neq t v .nilIface) H K = SemS P (Op.equalIn (9999 + 1) t v .nilIface) H (fun b H' => K (.bool (!b)) H') := by
    rcases hv with rfl | ⟨t', x, rfl⟩ <;> (simp only [binOp, Op.equal, Op.maxDepth, semS_bind, semS_pure])
  rw [e, semS_equalIn_nil 9999 hu v hv]
  rcases hv with rfl | ⟨t', x, rfl⟩ <;> rfl
theorem semS_eqlNil {t : TypeId} {ms : Array (String × TypeId)} (hu : P.underlying t = some (.interface ms)) (v : Value) (hv : v = .nilIface ∨ ∃ t' x, v = .iface t' x) (K : Value → Hp → Prop) :
    SemS P (binOp .eql t v .nilIface) H K = K (.bool (match v with | .nilIface => true | _ => false)) H := by
  have e : SemS P (binOp .eql t v .nilIface) H K = SemS P (Op.equalIn (9999 + 1) t v .nilIface) H (fun b H' => K (.bool b) H') := by
    rcases hv with rfl | ⟨t', x, rfl⟩ <;> (simp only [binOp, Op.equal, Op.maxDepth, semS_bind, semS_pure])
  rw [e, semS_equalIn_nil 9999 hu v hv]
theorem semS_eqGuardNil (op : BinOp) (t : TypeId) (x : Operand) (v : Value) (hv : v = .nilIface ∨ ∃ t' x, v = .iface t' x) (K : Unit → Hp → Prop) : SemS P (eqGuard op t x (.const .nilIface) v .nilIface) H K = K () H := by
  rcases hv with rfl | ⟨t', x, rfl⟩ <;> cases op <;> simp [eqGuard]

end
end Go.Sep
