import Derived.Test.YtcomjkbfmklfnaaDoorWj
set_option linter.unusedSimpArgs false
set_option linter.unusedVariables false
namespace Go.Proofs.YtcomjkbfmklfnaaDoor
open Go.Conc Go.Sep Go.Extern Go
theorem semS_callExtern {P : Program} {H : Hp} {f : FuncId} {fn : Func} {e : Array Value → Sem Value} (hf : P.funcs[f]? = some fn) (hn : (fn.name == "runtime.NumGoroutine") = false) (hb : fn.body.isNone = true) (hx : (Extern.findNext fn).isNone = true) (he : Extern.find fn = some e) (args : Array Value) (K : Next → Hp → Prop) :
    SemS P (callFunc f args) H K = SemS P (e args) H (fun v H' => K (.value v) H') := by
  have hx' : Extern.findNext fn = none := by simpa using hx
  have hb' : fn.body = none := by simpa using hb
  have hn' : ¬ fn.name = "runtime.NumGoroutine" := by simpa using hn
  simp [callFunc, hf, hn', hb', hx', he]
theorem x_type58 {H : Hp} (K : Value → Hp → Prop) (a : Addr) : SemS Tryd.prog (ReflectliteValue.methodAny (ReflectliteValue.valueError "reflectlite.Value.Type" 0) (fun t _ _ _ => ReflectliteType.toType t) #[.agg #[.pointer (some ⟨1, 58, none⟩), .pointer (some a), .int .u64 150]]) H K = K (.iface 109 (.agg #[.pointer (some ⟨1, 58, none⟩)])) H := by kernel_rfl
theorem x_typeOf31 {H : Hp} (K : Value → Hp → Prop) (v : Value) : SemS Tryd.prog (ReflectliteType.typeOf #[.iface 31 v]) H K = K (.iface 109 (.agg #[.pointer (some ⟨1, 31, none⟩)])) H := by kernel_rfl
theorem x_valueOf58 {H : Hp} (K : Value → Hp → Prop) (t : Addr) : SemS Tryd.prog (ReflectliteValue.unpack (.iface 58 (.pointer (some t)))) H K = ∀ n, H.own n = none → H.ro n = none → K (.agg #[.pointer (some ⟨1, 58, none⟩), .pointer (some ⟨n, 0, none⟩), .int .u64 150]) (H.set n (.cells #[.pointer (some t)] 58 (0, 0))) := by kernel_rfl
theorem x_kind58 {H : Hp} (K : Value → Hp → Prop) : SemS Tryd.prog ((ReflectliteType.abiMethod fun t => (fun a : Nat => Value.int IntKind.u8 (a : Int)) <$> Rtype.kind t) #[.pointer (some ⟨1, 58, none⟩)]) H K = K (.int .u8 22) H := by kernel_rfl
theorem x_kind31 {H : Hp} (K : Value → Hp → Prop) : SemS Tryd.prog ((ReflectliteType.abiMethod fun t => (fun a : Nat => Value.int IntKind.u8 (a : Int)) <$> Rtype.kind t) #[.pointer (some ⟨1, 31, none⟩)]) H K = K (.int .u8 2) H := by kernel_rfl
theorem x_elem58 {H : Hp} (K : Value → Hp → Prop) : SemS Tryd.prog (ReflectliteType.method ReflectliteType.elem #[.agg #[.pointer (some ⟨1, 58, none⟩)]]) H K = K (.iface 109 (.agg #[.pointer (some ⟨1, 31, none⟩)])) H := by kernel_rfl
theorem x_implements31 {H : Hp} (K : Value → Hp → Prop) : SemS Tryd.prog (ReflectliteType.relation "Implements" ReflectliteType.implements_ #[.agg #[.pointer (some ⟨1, 31, none⟩)], .iface 109 (.agg #[.pointer (some ⟨1, 27, none⟩)])]) H K = K (.bool true) H := by kernel_rfl
theorem x_assignable31 {H : Hp} (K : Value → Hp → Prop) : SemS Tryd.prog (ReflectliteType.relation "AssignableTo" ReflectliteType.assignableTo #[.agg #[.pointer (some ⟨1, 31, none⟩)], .iface 109 (.agg #[.pointer (some ⟨1, 31, none⟩)])]) H K = K (.bool true) H := by kernel_rfl
theorem x_valueOf31 {H : Hp} (K : Value → Hp → Prop) (c : Int) : SemS Tryd.prog (ReflectliteValue.unpack (.iface 31 (.int .i64 c))) H K = ∀ n, H.own n = none → H.ro n = none → K (.agg #[.pointer (some ⟨1, 31, none⟩), .pointer (some ⟨n, 0, none⟩), .int .u64 130]) (H.set n (.cells #[.int .i64 c] 31 (0, 0))) := by kernel_rfl
theorem rlm (z : Sem Value) (f : TypeId → Addr → Nat → Nat → Sem Value) (v : Value) :
    ReflectliteValue.method z f #[v] = (do match ← ReflectliteValue.parts v with | none => z | some (t, a, fl) => f t a fl (fl % 32)) := rfl
theorem x_parts58 {H : Hp} (K : Option (TypeId × Addr × Nat) → Hp → Prop) (a : Addr) : SemS Tryd.prog (ReflectliteValue.parts (.agg #[.pointer (some ⟨1, 58, none⟩), .pointer (some a), .int .u64 150])) H K = K (some (58, a, 150)) H := by kernel_rfl
theorem x_parts31a {H : Hp} (K : Option (TypeId × Addr × Nat) → Hp → Prop) (a : Addr) : SemS Tryd.prog (ReflectliteValue.parts (.agg #[.pointer (some ⟨1, 31, none⟩), .pointer (some a), .int .u64 386])) H K = K (some (31, a, 386)) H := by kernel_rfl
theorem x_parts31 {H : Hp} (K : Option (TypeId × Addr × Nat) → Hp → Prop) (a : Addr) : SemS Tryd.prog (ReflectliteValue.parts (.agg #[.pointer (some ⟨1, 31, none⟩), .pointer (some a), .int .u64 130])) H K = K (some (31, a, 130)) H := by kernel_rfl
theorem x_elemOf58 {H : Hp} (K : Option TypeId → Hp → Prop) : SemS Tryd.prog (Rtype.elem? 58) H K = K (some 31) H := by kernel_rfl
theorem x_mk31 {H : Hp} (K : Value → Hp → Prop) (p : Addr) : SemS Tryd.prog (ReflectliteValue.mk 31 p ReflectliteValue.flagAddr) H K = K (.agg #[.pointer (some ⟨1, 31, none⟩), .pointer (some p), .int .u64 386]) H := by kernel_rfl
theorem x_direct31 {H : Hp} (K : Bool → Hp → Prop) : SemS Tryd.prog (Rtype.directlyAssignable 31 31) H K = K true H := by kernel_rfl
theorem x_isNil58 {H : Hp} (K : Value → Hp → Prop) {a p : Addr} (ha : H.cell a = some (.pointer (some p))) : SemS Tryd.prog (ReflectliteValue.method (ReflectliteValue.valueError "reflectlite.Value.IsNil" 0) ReflectliteValue.isNil #[.agg #[.pointer (some ⟨1, 58, none⟩), .pointer (some a), .int .u64 150]]) H K = K (.bool false) H := by
  rw [rlm]
  simp [x_parts58, ReflectliteValue.isNil, loadVar, Tryd.underlying58, ha]
theorem x_elemV58 {H : Hp} (K : Value → Hp → Prop) {a p : Addr} (ha : H.cell a = some (.pointer (some p))) : SemS Tryd.prog (ReflectliteValue.method (ReflectliteValue.valueError "reflectlite.Value.Elem" 0) ReflectliteValue.elem #[.agg #[.pointer (some ⟨1, 58, none⟩), .pointer (some a), .int .u64 150]]) H K = K (.agg #[.pointer (some ⟨1, 31, none⟩), .pointer (some p), .int .u64 386]) H := by
  rw [rlm]
  simp [x_parts58, ReflectliteValue.elem, loadVar, Tryd.underlying58, ha, x_elemOf58, x_mk31]
theorem rls (v x : Value) : ReflectliteValue.set #[v, x] = (do
    let (some (dst, a, fl), some (src, b, _)) := (← ReflectliteValue.parts v, ← ReflectliteValue.parts x)
      | unsupported (.noEntry "extern/(internal/reflectlite.Value).Set.zeroValue")
    if fl / ReflectliteValue.flagAddr % 2 == 0 then unsupported (.noEntry "extern/(internal/reflectlite.Value).Set.unaddressable")
    let val ← loadVar src b
    if ← Rtype.directlyAssignable dst src then storeVar dst a val
    else if ← Rtype.implements dst src then
      if (← Rtype.kind src) == 20 then
        match val with
        | .nilIface => unsupported (.noEntry "extern/reflectlite: a nil value of one interface type handed on as a value of another")
        | _ => storeVar dst a val
      else storeVar dst a (.iface src val)
    else panicString ("reflectlite.Set: value of type " ++ (← Rtype.spelt src) ++ " is not assignable to type " ++ (← Rtype.spelt dst))
    pure (.tuple #[])) := rfl
theorem x_set31 {H : Hp} (K : Value → Hp → Prop) {ta b : Nat} {c old : Int} (hb : H.cell ⟨b, 0, none⟩ = some (.int .i64 c)) (ht : H.own ta = some (.cells #[.int .i64 old] 31 (0, 0))) :
    SemS Tryd.prog (ReflectliteValue.set #[.agg #[.pointer (some ⟨1, 31, none⟩), .pointer (some ⟨ta, 0, none⟩), .int .u64 386], .agg #[.pointer (some ⟨1, 31, none⟩), .pointer (some ⟨b, 0, none⟩), .int .u64 130]]) H K = K (.tuple #[]) (H.set ta (.cells #[.int .i64 c] 31 (0, 0))) := by
  rw [rls]
  simp only [semS_bind, x_parts31a, x_parts31]
  simp [ReflectliteValue.flagAddr, loadVar, Tryd.underlying31, hb, x_direct31, storeVar, Value.cells, storeCells, add_none, info31, size31]
  rw [semS_store_own ht (by simp) _ rfl]
  simp
end Go.Proofs.YtcomjkbfmklfnaaDoor
