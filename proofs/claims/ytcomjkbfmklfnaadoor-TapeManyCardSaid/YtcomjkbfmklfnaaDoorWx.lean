/-
  Tell, by its contract. Conditions: none.
-/
import Derived.Test.YtcomjkbfmklfnaaDoorWk
set_option linter.unusedSimpArgs false
set_option linter.unusedVariables false
namespace Go.Proofs.YtcomjkbfmklfnaaDoor
open Go.Conc Go.Sep
open Go.Extern

noncomputable def fs86 : Array Field := match Tryd.prog.underlying 86 with | some (.struct fs) => fs | _ => #[]
theorem str86 : Tryd.prog.underlying 86 = some (.struct fs86) := by kernel_rfl
theorem if20 : Tryd.prog.underlying 20 = some (.interface #[]) := Tryd.underlying20
theorem one89 : oneT Tryd.prog 89 = true := by kernel_rfl
theorem conc58' : concT Tryd.prog 58 = true := by kernel_rfl
theorem mKind (n : Nat) (h : Value) (H : Hp) (K : FuncId × Value → Hp → Prop) : SemS Tryd.prog (Go.method (n + 1) 109 (.agg #[h]) "Kind") H K = K (69, h) H := by kernel_rfl
theorem mElem (n : Nat) (h : Value) (H : Hp) (K : FuncId × Value → Hp → Prop) : SemS Tryd.prog (Go.method (n + 1) 109 (.agg #[h]) "Elem") H K = K (87, .agg #[h]) H := by kernel_rfl
theorem mImpl (n : Nat) (h : Value) (H : Hp) (K : FuncId × Value → Hp → Prop) : SemS Tryd.prog (Go.method (n + 1) 109 (.agg #[h]) "Implements") H K = K (88, .agg #[h]) H := by kernel_rfl
theorem mAssign (n : Nat) (h : Value) (H : Hp) (K : FuncId × Value → Hp → Prop) : SemS Tryd.prog (Go.method (n + 1) 109 (.agg #[h]) "AssignableTo") H K = K (85, .agg #[h]) H := by kernel_rfl
theorem invKind {H : Hp} (h : Value) (args : Array Value) (K : Next → Hp → Prop) : SemS Tryd.prog (callMethod (.iface 109 (.agg #[h])) "Kind" args) H K = SemS Tryd.prog (callFunc 69 (#[h] ++ args)) H K := by
  obtain ⟨n, hn⟩ := fuel
  simp only [callMethod, semS_bind, semS_program, hn, mKind]
theorem invElem {H : Hp} (h : Value) (args : Array Value) (K : Next → Hp → Prop) : SemS Tryd.prog (callMethod (.iface 109 (.agg #[h])) "Elem" args) H K = SemS Tryd.prog (callFunc 87 (#[.agg #[h]] ++ args)) H K := by
  obtain ⟨n, hn⟩ := fuel
  simp only [callMethod, semS_bind, semS_program, hn, mElem]
theorem invImplements {H : Hp} (h : Value) (args : Array Value) (K : Next → Hp → Prop) : SemS Tryd.prog (callMethod (.iface 109 (.agg #[h])) "Implements" args) H K = SemS Tryd.prog (callFunc 88 (#[.agg #[h]] ++ args)) H K := by
  obtain ⟨n, hn⟩ := fuel
  simp only [callMethod, semS_bind, semS_program, hn, mImpl]
theorem invAssignableTo {H : Hp} (h : Value) (args : Array Value) (K : Next → Hp → Prop) : SemS Tryd.prog (callMethod (.iface 109 (.agg #[h])) "AssignableTo" args) H K = SemS Tryd.prog (callFunc 85 (#[.agg #[h]] ++ args)) H K := by
  obtain ⟨n, hn⟩ := fuel
  simp only [callMethod, semS_bind, semS_program, hn, mAssign]
theorem cx41 {H : Hp} (args : Array Value) (K : Next → Hp → Prop) : SemS Tryd.prog (callFunc 41 args) H K = SemS Tryd.prog ((fun args => ReflectliteValue.unpack (args.getD 0 (.tuple #[]))) args) H (fun v H' => K (.value v) H') :=
  semS_callExtern (e := fun args => ReflectliteValue.unpack (args.getD 0 (.tuple #[]))) Tryd.func41 (by kernel_rfl) (by kernel_rfl) (by kernel_rfl) (by kernel_rfl) args K
theorem cx42 {H : Hp} (args : Array Value) (K : Next → Hp → Prop) : SemS Tryd.prog (callFunc 42 args) H K = SemS Tryd.prog ((ReflectliteValue.methodAny (ReflectliteValue.valueError "reflectlite.Value.Type" 0) (fun t _ _ _ => ReflectliteType.toType t)) args) H (fun v H' => K (.value v) H') :=
  semS_callExtern (e := ReflectliteValue.methodAny (ReflectliteValue.valueError "reflectlite.Value.Type" 0) (fun t _ _ _ => ReflectliteType.toType t)) Tryd.func42 (by kernel_rfl) (by kernel_rfl) (by kernel_rfl) (by kernel_rfl) args K
theorem cx43 {H : Hp} (args : Array Value) (K : Next → Hp → Prop) : SemS Tryd.prog (callFunc 43 args) H K = SemS Tryd.prog ((ReflectliteValue.method (ReflectliteValue.valueError "reflectlite.Value.IsNil" 0) ReflectliteValue.isNil) args) H (fun v H' => K (.value v) H') :=
  semS_callExtern (e := ReflectliteValue.method (ReflectliteValue.valueError "reflectlite.Value.IsNil" 0) ReflectliteValue.isNil) Tryd.func43 (by kernel_rfl) (by kernel_rfl) (by kernel_rfl) (by kernel_rfl) args K
theorem cx69 {H : Hp} (args : Array Value) (K : Next → Hp → Prop) : SemS Tryd.prog (callFunc 69 args) H K = SemS Tryd.prog ((ReflectliteType.abiMethod fun t => do pure (.int .u8 (← Rtype.kind t))) args) H (fun v H' => K (.value v) H') :=
  semS_callExtern (e := ReflectliteType.abiMethod fun t => do pure (.int .u8 (← Rtype.kind t))) Tryd.func69 (by kernel_rfl) (by kernel_rfl) (by kernel_rfl) (by kernel_rfl) args K
theorem cx87 {H : Hp} (args : Array Value) (K : Next → Hp → Prop) : SemS Tryd.prog (callFunc 87 args) H K = SemS Tryd.prog ((ReflectliteType.method ReflectliteType.elem) args) H (fun v H' => K (.value v) H') :=
  semS_callExtern (e := ReflectliteType.method ReflectliteType.elem) Tryd.func87 (by kernel_rfl) (by kernel_rfl) (by kernel_rfl) (by kernel_rfl) args K
theorem cx88 {H : Hp} (args : Array Value) (K : Next → Hp → Prop) : SemS Tryd.prog (callFunc 88 args) H K = SemS Tryd.prog ((ReflectliteType.relation "Implements" ReflectliteType.implements_) args) H (fun v H' => K (.value v) H') :=
  semS_callExtern (e := ReflectliteType.relation "Implements" ReflectliteType.implements_) Tryd.func88 (by kernel_rfl) (by kernel_rfl) (by kernel_rfl) (by kernel_rfl) args K
theorem cx52 {H : Hp} (args : Array Value) (K : Next → Hp → Prop) : SemS Tryd.prog (callFunc 52 args) H K = SemS Tryd.prog ((ReflectliteType.typeOf) args) H (fun v H' => K (.value v) H') :=
  semS_callExtern (e := ReflectliteType.typeOf) Tryd.func52 (by kernel_rfl) (by kernel_rfl) (by kernel_rfl) (by kernel_rfl) args K
theorem cx85 {H : Hp} (args : Array Value) (K : Next → Hp → Prop) : SemS Tryd.prog (callFunc 85 args) H K = SemS Tryd.prog ((ReflectliteType.relation "AssignableTo" ReflectliteType.assignableTo) args) H (fun v H' => K (.value v) H') :=
  semS_callExtern (e := ReflectliteType.relation "AssignableTo" ReflectliteType.assignableTo) Tryd.func85 (by kernel_rfl) (by kernel_rfl) (by kernel_rfl) (by kernel_rfl) args K
theorem cx53 {H : Hp} (args : Array Value) (K : Next → Hp → Prop) : SemS Tryd.prog (callFunc 53 args) H K = SemS Tryd.prog ((ReflectliteValue.method (ReflectliteValue.valueError "reflectlite.Value.Elem" 0) ReflectliteValue.elem) args) H (fun v H' => K (.value v) H') :=
  semS_callExtern (e := ReflectliteValue.method (ReflectliteValue.valueError "reflectlite.Value.Elem" 0) ReflectliteValue.elem) Tryd.func53 (by kernel_rfl) (by kernel_rfl) (by kernel_rfl) (by kernel_rfl) args K
theorem cx54 {H : Hp} (args : Array Value) (K : Next → Hp → Prop) : SemS Tryd.prog (callFunc 54 args) H K = SemS Tryd.prog ((ReflectliteValue.set) args) H (fun v H' => K (.value v) H') :=
  semS_callExtern (e := ReflectliteValue.set) Tryd.func54 (by kernel_rfl) (by kernel_rfl) (by kernel_rfl) (by kernel_rfl) args K
theorem x_kd (t : Nat) : (ReflectliteType.abiMethod fun t => do pure (.int .u8 (← Rtype.kind t))) #[.pointer (some ⟨1, t, none⟩)] = (ReflectliteType.abiMethod fun t => (fun a : Nat => Value.int IntKind.u8 (a : Int)) <$> Rtype.kind t) #[.pointer (some ⟨1, t, none⟩)] := rfl

set_option maxRecDepth 100000 in
set_option maxHeartbeats 4000000 in
theorem as_calls {Γ κ : Type} (Y : Proto Γ κ) (main : Bool) {H : Hp} {γ : Γ} {ta n1 : Nat} {c old : Int} (hta : H.own ta = some (.cells #[.int .i64 old] 31 (0, 0))) (hn1 : H.cell ⟨n1, 0, none⟩ = some (.pointer (some ⟨ta, 0, none⟩))) :
    CallsT Tryd.prog Y main 44 #[.iface 31 (.int .i64 c), .iface 58 (.pointer (some ⟨ta, 0, none⟩)), .agg #[.pointer (some ⟨1, 58, none⟩), .pointer (some ⟨n1, 0, none⟩), .int .u64 150], .iface 109 (.agg #[.pointer (some ⟨1, 31, none⟩)])] H γ (fun v H' γ' => v = .bool true ∧ γ' = γ ∧ H' = H.set ta (.cells #[.int .i64 c] 31 (0, 0))) := by
  refine callsT_enter (T := [.iface 31 (.int .i64 c), .iface 58 (.pointer (some ⟨ta, 0, none⟩)), .agg #[.pointer (some ⟨1, 58, none⟩), .pointer (some ⟨n1, 0, none⟩), .int .u64 150], .iface 109 (.agg #[.pointer (some ⟨1, 31, none⟩)]), undef, undef, undef, undef, undef, undef, undef, undef, undef, undef, undef, undef, undef, undef, undef, undef, undef, undef, undef, undef, undef, undef, undef, undef, undef, undef, undef, undef, undef, undef, undef, undef, undef, undef, undef, undef, undef, undef, undef, undef, undef, undef, undef, undef, undef, undef, undef, undef, undef, undef, undef, undef, undef, undef, undef, undef, undef, undef]) Tryd.func44 rfl Tryd.ntmps44 rfl (fun Q hret hnorm hless => ?_)
  refine wpT_seq_reg (fun K hK => ?_)
  refine opsL_cons rfl (fun K1 hK1 => ?_)
  simp only [execOp, uponT, resolve, Deferred.ofValue, invoke, builtin, asBool, Instr.makeFunc, Instr.extract, sx, Act.put, Act.eval, nrm, semS_box, Value.cells]
  intro b6 h61 h62
  refine hK1 _ _ _ ?_; clear hK1 K1
  refine opsL_cons rfl (fun K1 hK1 => ?_)
  simp only [execOp, uponT, resolve, Deferred.ofValue, invoke, builtin, asBool, Instr.makeFunc, Instr.extract, sx, Act.put, Act.eval, nrm]
  refine hK1 _ _ _ ?_; clear hK1 K1
  refine opsL_nil (hK _ _ _ ?_); clear hK K
  have o6 := set_own_same H b6 (.cells #[.pointer (some ⟨1, 58, none⟩), .pointer (some ⟨n1, 0, none⟩), .int .u64 150] 86 (0, 0))
  have g6 := Grow.set (.cells #[.pointer (some ⟨1, 58, none⟩), .pointer (some ⟨n1, 0, none⟩), .int .u64 150] 86 (0, 0)) h61 h62
  have l6 := less_set (.cells #[.pointer (some ⟨1, 58, none⟩), .pointer (some ⟨n1, 0, none⟩), .int .u64 150] 86 (0, 0)) h61
  have n6 : ta ≠ b6 := own_ne hta h61
  have ota : (H.set b6 (.cells #[.pointer (some ⟨1, 58, none⟩), .pointer (some ⟨n1, 0, none⟩), .int .u64 150] 86 (0, 0))).own ta = some (.cells #[.int .i64 old] 31 (0, 0)) := by rw [set_own_ne _ _ n6]; exact hta
  have hn1' := g6 _ _ hn1
  generalize hH1 : H.set b6 (.cells #[.pointer (some ⟨1, 58, none⟩), .pointer (some ⟨n1, 0, none⟩), .int .u64 150] 86 (0, 0)) = H1 at o6 l6 ota hn1' ⊢
  have c0 := (cell_own o6 0).trans (show _ = some (Value.pointer (some ⟨1, 58, none⟩)) from rfl)
  have c1 := (cell_own o6 1).trans (show _ = some (Value.pointer (some ⟨n1, 0, none⟩)) from rfl)
  have c2 := (cell_own o6 2).trans (show _ = some (Value.int .u64 150) from rfl)
  refine wpT_block_loop (fun a' Hc γc => a' = ⟨#[.iface 31 (.int .i64 c), .iface 58 (.pointer (some ⟨ta, 0, none⟩)), .agg #[.pointer (some ⟨1, 58, none⟩), .pointer (some ⟨n1, 0, none⟩), .int .u64 150], .iface 109 (.agg #[.pointer (some ⟨1, 31, none⟩)]), undef, undef, .pointer (some ⟨b6, 0, none⟩), undef, .bool false, undef, undef, undef, undef, undef, undef, undef, undef, undef, undef, undef, undef, undef, undef, undef, undef, undef, undef, undef, undef, undef, undef, undef, undef, undef, undef, undef, undef, undef, undef, undef, undef, undef, undef, undef, undef, undef, undef, undef, undef, undef, undef, undef, undef, undef, undef, undef, undef, undef, undef, undef, undef, undef], []⟩ ∧ Hc = H1 ∧ γc = γ) (fun _ _ _ => 0) ⟨rfl, rfl, rfl⟩ ?_
  rintro _ Hc _ ⟨rfl, hHc, rfl⟩ Again Out hAgain hOut
  have hHc' := hHc.symm
  clear hHc
  subst hHc'
  refine wpT_block ?_
  refine wpT_seq ?_
  refine wpT_seq_reg (fun K hK => ?_)
  refine opsL_cons rfl (fun K1 hK1 => ?_)
  simp only [execOp, uponT, resolve, Deferred.ofValue, invoke, builtin, asBool, Instr.makeFunc, Instr.extract, sx, Act.put, Act.eval, nrm]
  refine hK1 _ _ _ ?_; clear hK1 K1
  refine opsL_cons rfl (fun K1 hK1 => ?_)
  simp only [execOp, uponT, resolve, Deferred.ofValue, invoke, builtin, asBool, Instr.makeFunc, Instr.extract, sx, Act.put, Act.eval, nrm, cx52, x_typeOf31]
  refine hK1 _ _ _ ?_; clear hK1 K1
  refine opsL_cons rfl (fun K1 hK1 => ?_)
  simp only [execOp, uponT, resolve, Deferred.ofValue, invoke, builtin, asBool, Instr.makeFunc, Instr.extract, sx, Act.put, Act.eval, nrm]
  refine hK1 _ _ _ ?_; clear hK1 K1
  refine opsL_cons rfl (fun K1 hK1 => ?_)
  simp only [execOp, uponT, resolve, Deferred.ofValue, invoke, builtin, asBool, Instr.makeFunc, Instr.extract, sx, Act.put, Act.eval, nrm, List.extract_toArray, List.extract_eq_take_drop, List.drop_succ_cons, List.drop_zero, List.take_succ_cons, List.take_zero, List.size_toArray, List.length_cons, List.length_nil, Nat.reduceAdd, Nat.reduceSub, invAssignableTo, cx85, x_assignable31]
  refine hK1 _ _ _ ?_; clear hK1 K1
  refine opsL_nil (hK _ _ _ ?_); clear hK K
  refine wpT_cond (t := true) rfl ?_
  simp only [if_true, if_false, Bool.false_eq_true, reduceIte]
  refine wpT_seq_reg (fun K hK => ?_)
  refine opsL_cons rfl (fun K1 hK1 => ?_)
  simp only [execOp, uponT, resolve, Deferred.ofValue, invoke, builtin, asBool, Instr.makeFunc, Instr.extract, sx, Act.put, Act.eval, nrm, semS_loadAt3 str86 info86 size86 c0 c1 c2]
  refine hK1 _ _ _ ?_; clear hK1 K1
  refine opsL_cons rfl (fun K1 hK1 => ?_)
  simp only [execOp, uponT, resolve, Deferred.ofValue, invoke, builtin, asBool, Instr.makeFunc, Instr.extract, sx, Act.put, Act.eval, nrm, cx53, x_elemV58 _ hn1']
  refine hK1 _ _ _ ?_; clear hK1 K1
  refine opsL_cons rfl (fun K1 hK1 => ?_)
  simp only [execOp, uponT, resolve, Deferred.ofValue, invoke, builtin, asBool, Instr.makeFunc, Instr.extract, sx, Act.put, Act.eval, nrm]
  refine hK1 _ _ _ ?_; clear hK1 K1
  refine opsL_cons rfl (fun K1 hK1 => ?_)
  simp only [execOp, uponT, resolve, Deferred.ofValue, invoke, builtin, asBool, Instr.makeFunc, Instr.extract, sx, Act.put, Act.eval, nrm, cx41, x_valueOf31]
  intro b7 h71 h72
  refine hK1 _ _ _ ?_; clear hK1 K1
  have o7 := set_own_same H1 b7 (.cells #[.int .i64 c] 31 (0, 0))
  have c7 := (cell_own o7 0).trans (show _ = some (Value.int .i64 c) from rfl)
  have n7 : ta ≠ b7 := own_ne ota h71
  have ota7 : (H1.set b7 (.cells #[.int .i64 c] 31 (0, 0))).own ta = some (.cells #[.int .i64 old] 31 (0, 0)) := by rw [set_own_ne _ _ n7]; exact ota
  have l7 := less_set (.cells #[.int .i64 c] 31 (0, 0)) h71
  refine opsL_cons rfl (fun K1 hK1 => ?_)
  simp only [execOp, uponT, resolve, Deferred.ofValue, invoke, builtin, asBool, Instr.makeFunc, Instr.extract, sx, Act.put, Act.eval, nrm, cx54, x_set31 _ c7 ota7]
  refine hK1 _ _ _ ?_; clear hK1 K1
  refine opsL_nil (hK _ _ _ ?_); clear hK K
  refine wpT_seq_reg (fun K hK => ?_)
  refine opsL_cons rfl (fun K1 hK1 => ?_)
  simp only [execOp, uponT, resolve, Deferred.ofValue, invoke, builtin, asBool, Instr.makeFunc, Instr.extract, sx, Act.put, Act.eval, nrm]
  refine hK1 _ _ _ ?_; clear hK1 K1
  refine opsL_nil (hK _ _ _ ?_); clear hK K
  refine wpT_ret (hless _ _ _ _ _ (less_of_set (.cells #[.int .i64 c] 31 (0, 0)) (l7.trans l6)) (hret _ _ _ (bodyPost_ret1 rfl ?_)))
  exact ⟨rfl, rfl, rfl⟩

set_option maxRecDepth 100000 in
set_option maxHeartbeats 4000000 in
theorem errorsAs_calls {Γ κ : Type} (Y : Proto Γ κ) (main : Bool) {H : Hp} {γ : Γ} {ta : Nat} {c old : Int} (hta : H.own ta = some (.cells #[.int .i64 old] 31 (0, 0))) (hg : H.cell ⟨0, 0, none⟩ = some (.iface 109 (.agg #[.pointer (some ⟨1, 27, none⟩)]))) :
    CallsT Tryd.prog Y main 14 #[.iface 31 (.int .i64 c), .iface 58 (.pointer (some ⟨ta, 0, none⟩))] H γ (fun v H' γ' => v = .bool true ∧ γ' = γ ∧ H' = H.set ta (.cells #[.int .i64 c] 31 (0, 0))) := by
  refine callsT_enter (T := [.iface 31 (.int .i64 c), .iface 58 (.pointer (some ⟨ta, 0, none⟩)), undef, undef, undef, undef, undef, undef, undef, undef, undef, undef, undef, undef, undef, undef, undef, undef, undef, undef, undef, undef, undef, undef, undef, undef, undef, undef, undef, undef, undef, undef, undef, undef, undef, undef, undef, undef, undef, undef, undef, undef]) Tryd.func14 rfl Tryd.ntmps14 rfl (fun Q hret hnorm hless => ?_)
  refine wpT_seq_reg (fun K hK => ?_)
  refine opsL_cons rfl (fun K1 hK1 => ?_)
  simp only [execOp, uponT, resolve, Deferred.ofValue, invoke, builtin, asBool, Instr.makeFunc, Instr.extract, sx, Act.put, Act.eval, nrm]
  refine hK1 _ _ _ ?_; clear hK1 K1
  refine opsL_nil (hK _ _ _ ?_); clear hK K
  refine wpT_seq ?_
  refine wpT_seq_reg (fun K hK => ?_)
  refine opsL_cons rfl (fun K1 hK1 => ?_)
  simp only [execOp, uponT, resolve, Deferred.ofValue, invoke, builtin, asBool, Instr.makeFunc, Instr.extract, sx, Act.put, Act.eval, nrm]
  refine hK1 _ _ _ ?_; clear hK1 K1
  refine opsL_cons rfl (fun K1 hK1 => ?_)
  simp only [execOp, uponT, resolve, Deferred.ofValue, invoke, builtin, asBool, Instr.makeFunc, Instr.extract, sx, Act.put, Act.eval, nrm, semS_eqGuardNil _ _ _ _ (.inr ⟨_, _, rfl⟩), semS_eqlNil if27 _ (.inr ⟨_, _, rfl⟩)]
  refine hK1 _ _ _ ?_; clear hK1 K1
  refine opsL_nil (hK _ _ _ ?_); clear hK K
  refine wpT_cond (t := false) rfl ?_
  simp only [if_true, if_false, Bool.false_eq_true, reduceIte]
  refine wpT_skip ?_
  simp only [thenT]
  refine wpT_seq ?_
  refine wpT_seq_reg (fun K hK => ?_)
  refine opsL_cons rfl (fun K1 hK1 => ?_)
  simp only [execOp, uponT, resolve, Deferred.ofValue, invoke, builtin, asBool, Instr.makeFunc, Instr.extract, sx, Act.put, Act.eval, nrm]
  refine hK1 _ _ _ ?_; clear hK1 K1
  refine opsL_cons rfl (fun K1 hK1 => ?_)
  simp only [execOp, uponT, resolve, Deferred.ofValue, invoke, builtin, asBool, Instr.makeFunc, Instr.extract, sx, Act.put, Act.eval, nrm, semS_eqGuardNil _ _ _ _ (.inr ⟨_, _, rfl⟩), semS_eqlNil if20 _ (.inr ⟨_, _, rfl⟩)]
  refine hK1 _ _ _ ?_; clear hK1 K1
  refine opsL_nil (hK _ _ _ ?_); clear hK K
  refine wpT_cond (t := false) rfl ?_
  simp only [if_true, if_false, Bool.false_eq_true, reduceIte]
  refine wpT_skip ?_
  simp only [thenT]
  refine wpT_seq_reg (fun K hK => ?_)
  refine opsL_cons rfl (fun K1 hK1 => ?_)
  simp only [execOp, uponT, resolve, Deferred.ofValue, invoke, builtin, asBool, Instr.makeFunc, Instr.extract, sx, Act.put, Act.eval, nrm]
  refine hK1 _ _ _ ?_; clear hK1 K1
  refine opsL_cons rfl (fun K1 hK1 => ?_)
  simp only [execOp, uponT, resolve, Deferred.ofValue, invoke, builtin, asBool, Instr.makeFunc, Instr.extract, sx, Act.put, Act.eval, nrm, cx41, x_valueOf58]
  intro n1 h11 h12
  refine hK1 _ _ _ ?_; clear hK1 K1
  have o1 := set_own_same H n1 (.cells #[.pointer (some ⟨ta, 0, none⟩)] 58 (0, 0))
  have k1 := (cell_own o1 0).trans (show _ = some (Value.pointer (some ⟨ta, 0, none⟩)) from rfl)
  have g1 := Grow.set (.cells #[.pointer (some ⟨ta, 0, none⟩)] 58 (0, 0)) h11 h12
  have l1 := less_set (.cells #[.pointer (some ⟨ta, 0, none⟩)] 58 (0, 0)) h11
  have ota1 : (H.set n1 (.cells #[.pointer (some ⟨ta, 0, none⟩)] 58 (0, 0))).own ta = some (.cells #[.int .i64 old] 31 (0, 0)) := by rw [set_own_ne _ _ (own_ne hta h11)]; exact hta
  have hg1 := g1 _ _ hg
  generalize hH1 : H.set n1 (.cells #[.pointer (some ⟨ta, 0, none⟩)] 58 (0, 0)) = H1 at o1 l1 k1 ota1 hg1 ⊢
  refine opsL_cons rfl (fun K1 hK1 => ?_)
  simp only [execOp, uponT, resolve, Deferred.ofValue, invoke, builtin, asBool, Instr.makeFunc, Instr.extract, sx, Act.put, Act.eval, nrm, semS_alloc info86 zero86, Value.cells]
  intro b5 h51 h52
  refine hK1 _ _ _ ?_; clear hK1 K1
  refine opsL_cons rfl (fun K1 hK1 => ?_)
  simp only [execOp, uponT, resolve, Deferred.ofValue, invoke, builtin, asBool, Instr.makeFunc, Instr.extract, sx, Act.put, Act.eval, nrm, semS_storeAt3 info86 size86 (set_own_same _ _ _) (off := 0) (show 0 + 2 < (#[Value.pointer none, Value.pointer none, Value.int IntKind.u64 0] : Array Value).size by simp) (x := .pointer (some ⟨1, 58, none⟩)) (y := .pointer (some ⟨n1, 0, none⟩)) (z := .int .u64 150) rfl rfl rfl, set_set]
  refine hK1 _ _ _ ?_; clear hK1 K1
  refine opsL_nil (hK _ _ _ ?_); clear hK K
  have o5 := set_own_same H1 b5 (.cells #[.pointer (some ⟨1, 58, none⟩), .pointer (some ⟨n1, 0, none⟩), .int .u64 150] 86 (0, 0))
  have g5 := Grow.set (.cells #[.pointer (some ⟨1, 58, none⟩), .pointer (some ⟨n1, 0, none⟩), .int .u64 150] 86 (0, 0)) h51 h52
  have l5 := less_set (.cells #[.pointer (some ⟨1, 58, none⟩), .pointer (some ⟨n1, 0, none⟩), .int .u64 150] 86 (0, 0)) h51
  have ota5 : (H1.set b5 (.cells #[.pointer (some ⟨1, 58, none⟩), .pointer (some ⟨n1, 0, none⟩), .int .u64 150] 86 (0, 0))).own ta = some (.cells #[.int .i64 old] 31 (0, 0)) := by rw [set_own_ne _ _ (own_ne ota1 h51)]; exact ota1
  have hg5 := g5 _ _ hg1
  have k5 := g5 _ _ k1
  generalize hH2 : H1.set b5 (.cells #[.pointer (some ⟨1, 58, none⟩), .pointer (some ⟨n1, 0, none⟩), .int .u64 150] 86 (0, 0)) = H2 at o5 l5 k5 ota5 hg5 ⊢
  have c0 := (cell_own o5 0).trans (show _ = some (Value.pointer (some ⟨1, 58, none⟩)) from rfl)
  have c1 := (cell_own o5 1).trans (show _ = some (Value.pointer (some ⟨n1, 0, none⟩)) from rfl)
  have c2 := (cell_own o5 2).trans (show _ = some (Value.int .u64 150) from rfl)
  have e1 : ((22 : Int) != 22) = false := rfl
  have e2 : ((2 : Int) != 20) = true := rfl
  refine wpT_seq_reg (fun K hK => ?_)
  refine opsL_cons rfl (fun K1 hK1 => ?_)
  simp only [execOp, uponT, resolve, Deferred.ofValue, invoke, builtin, asBool, Instr.makeFunc, Instr.extract, sx, Act.put, Act.eval, nrm, semS_loadAt3 str86 info86 size86 c0 c1 c2]
  refine hK1 _ _ _ ?_; clear hK1 K1
  refine opsL_cons rfl (fun K1 hK1 => ?_)
  simp only [execOp, uponT, resolve, Deferred.ofValue, invoke, builtin, asBool, Instr.makeFunc, Instr.extract, sx, Act.put, Act.eval, nrm, cx42, x_type58]
  refine hK1 _ _ _ ?_; clear hK1 K1
  refine opsL_cons rfl (fun K1 hK1 => ?_)
  simp only [execOp, uponT, resolve, Deferred.ofValue, invoke, builtin, asBool, Instr.makeFunc, Instr.extract, sx, Act.put, Act.eval, nrm]
  refine hK1 _ _ _ ?_; clear hK1 K1
  refine opsL_nil (hK _ _ _ ?_); clear hK K
  refine wpT_seq ?_
  refine wpT_seq_reg (fun K hK => ?_)
  refine opsL_cons rfl (fun K1 hK1 => ?_)
  simp only [execOp, uponT, resolve, Deferred.ofValue, invoke, builtin, asBool, Instr.makeFunc, Instr.extract, sx, Act.put, Act.eval, nrm]
  refine hK1 _ _ _ ?_; clear hK1 K1
  refine opsL_cons rfl (fun K1 hK1 => ?_)
  simp only [execOp, uponT, resolve, Deferred.ofValue, invoke, builtin, asBool, Instr.makeFunc, Instr.extract, sx, Act.put, Act.eval, nrm, List.extract_toArray, List.extract_eq_take_drop, List.drop_succ_cons, List.drop_zero, List.take_succ_cons, List.take_zero, List.size_toArray, List.length_cons, List.length_nil, Nat.reduceAdd, Nat.reduceSub, invKind, cx69, x_kd, x_kind58]
  refine hK1 _ _ _ ?_; clear hK1 K1
  refine opsL_cons rfl (fun K1 hK1 => ?_)
  simp only [execOp, uponT, resolve, Deferred.ofValue, invoke, builtin, asBool, Instr.makeFunc, Instr.extract, sx, Act.put, Act.eval, nrm, e1]
  refine hK1 _ _ _ ?_; clear hK1 K1
  refine opsL_cons rfl (fun K1 hK1 => ?_)
  simp only [execOp, uponT, resolve, Deferred.ofValue, invoke, builtin, asBool, Instr.makeFunc, Instr.extract, sx, Act.put, Act.eval, nrm]
  refine hK1 _ _ _ ?_; clear hK1 K1
  refine opsL_cons rfl (fun K1 hK1 => ?_)
  simp only [execOp, uponT, resolve, Deferred.ofValue, invoke, builtin, asBool, Instr.makeFunc, Instr.extract, sx, Act.put, Act.eval, nrm, semS_loadAt3 str86 info86 size86 c0 c1 c2]
  refine hK1 _ _ _ ?_; clear hK1 K1
  refine opsL_cons rfl (fun K1 hK1 => ?_)
  simp only [execOp, uponT, resolve, Deferred.ofValue, invoke, builtin, asBool, Instr.makeFunc, Instr.extract, sx, Act.put, Act.eval, nrm, cx43, x_isNil58 _ k5]
  refine hK1 _ _ _ ?_; clear hK1 K1
  refine opsL_cons rfl (fun K1 hK1 => ?_)
  simp only [execOp, uponT, resolve, Deferred.ofValue, invoke, builtin, asBool, Instr.makeFunc, Instr.extract, sx, Act.put, Act.eval, nrm, Bool.false_eq_true, if_false]
  refine hK1 _ _ _ ?_; clear hK1 K1
  refine opsL_nil (hK _ _ _ ?_); clear hK K
  refine wpT_cond (t := false) rfl ?_
  simp only [if_true, if_false, Bool.false_eq_true, reduceIte]
  refine wpT_skip ?_
  simp only [thenT]
  refine wpT_seq_reg (fun K hK => ?_)
  refine opsL_cons rfl (fun K1 hK1 => ?_)
  simp only [execOp, uponT, resolve, Deferred.ofValue, invoke, builtin, asBool, Instr.makeFunc, Instr.extract, sx, Act.put, Act.eval, nrm]
  refine hK1 _ _ _ ?_; clear hK1 K1
  refine opsL_cons rfl (fun K1 hK1 => ?_)
  simp only [execOp, uponT, resolve, Deferred.ofValue, invoke, builtin, asBool, Instr.makeFunc, Instr.extract, sx, Act.put, Act.eval, nrm, List.extract_toArray, List.extract_eq_take_drop, List.drop_succ_cons, List.drop_zero, List.take_succ_cons, List.take_zero, List.size_toArray, List.length_cons, List.length_nil, Nat.reduceAdd, Nat.reduceSub, invElem, cx87, x_elem58]
  refine hK1 _ _ _ ?_; clear hK1 K1
  refine opsL_cons rfl (fun K1 hK1 => ?_)
  simp only [execOp, uponT, resolve, Deferred.ofValue, invoke, builtin, asBool, Instr.makeFunc, Instr.extract, sx, Act.put, Act.eval, nrm]
  refine hK1 _ _ _ ?_; clear hK1 K1
  refine opsL_nil (hK _ _ _ ?_); clear hK K
  refine wpT_seq ?_
  refine wpT_seq_reg (fun K hK => ?_)
  refine opsL_cons rfl (fun K1 hK1 => ?_)
  simp only [execOp, uponT, resolve, Deferred.ofValue, invoke, builtin, asBool, Instr.makeFunc, Instr.extract, sx, Act.put, Act.eval, nrm]
  refine hK1 _ _ _ ?_; clear hK1 K1
  refine opsL_cons rfl (fun K1 hK1 => ?_)
  simp only [execOp, uponT, resolve, Deferred.ofValue, invoke, builtin, asBool, Instr.makeFunc, Instr.extract, sx, Act.put, Act.eval, nrm, List.extract_toArray, List.extract_eq_take_drop, List.drop_succ_cons, List.drop_zero, List.take_succ_cons, List.take_zero, List.size_toArray, List.length_cons, List.length_nil, Nat.reduceAdd, Nat.reduceSub, invKind, cx69, x_kd, x_kind31]
  refine hK1 _ _ _ ?_; clear hK1 K1
  refine opsL_cons rfl (fun K1 hK1 => ?_)
  simp only [execOp, uponT, resolve, Deferred.ofValue, invoke, builtin, asBool, Instr.makeFunc, Instr.extract, sx, Act.put, Act.eval, nrm, e2]
  refine hK1 _ _ _ ?_; clear hK1 K1
  refine opsL_cons rfl (fun K1 hK1 => ?_)
  simp only [execOp, uponT, resolve, Deferred.ofValue, invoke, builtin, asBool, Instr.makeFunc, Instr.extract, sx, Act.put, Act.eval, nrm]
  refine hK1 _ _ _ ?_; clear hK1 K1
  refine opsL_cons rfl (fun K1 hK1 => ?_)
  simp only [execOp, uponT, resolve, Deferred.ofValue, invoke, builtin, asBool, Instr.makeFunc, Instr.extract, sx, Act.put, Act.eval, nrm]
  refine hK1 _ _ _ ?_; clear hK1 K1
  refine opsL_cons rfl (fun K1 hK1 => ?_)
  simp only [execOp, uponT, resolve, Deferred.ofValue, invoke, builtin, asBool, Instr.makeFunc, Instr.extract, sx, Act.put, Act.eval, nrm, semS_loadAt one89 hg5]
  refine hK1 _ _ _ ?_; clear hK1 K1
  refine opsL_cons rfl (fun K1 hK1 => ?_)
  simp only [execOp, uponT, resolve, Deferred.ofValue, invoke, builtin, asBool, Instr.makeFunc, Instr.extract, sx, Act.put, Act.eval, nrm, List.extract_toArray, List.extract_eq_take_drop, List.drop_succ_cons, List.drop_zero, List.take_succ_cons, List.take_zero, List.size_toArray, List.length_cons, List.length_nil, Nat.reduceAdd, Nat.reduceSub, invImplements, cx88, x_implements31]
  refine hK1 _ _ _ ?_; clear hK1 K1
  refine opsL_cons rfl (fun K1 hK1 => ?_)
  simp only [execOp, uponT, resolve, Deferred.ofValue, invoke, builtin, asBool, Instr.makeFunc, Instr.extract, sx, Act.put, Act.eval, nrm, Bool.not_true]
  refine hK1 _ _ _ ?_; clear hK1 K1
  refine opsL_cons rfl (fun K1 hK1 => ?_)
  simp only [execOp, uponT, resolve, Deferred.ofValue, invoke, builtin, asBool, Instr.makeFunc, Instr.extract, sx, Act.put, Act.eval, nrm, if_true]
  refine hK1 _ _ _ ?_; clear hK1 K1
  refine opsL_nil (hK _ _ _ ?_); clear hK K
  refine wpT_cond (t := false) rfl ?_
  simp only [if_true, if_false, Bool.false_eq_true, reduceIte]
  refine wpT_skip ?_
  simp only [thenT]
  refine wpT_seq_reg (fun K hK => ?_)
  refine opsL_cons rfl (fun K1 hK1 => ?_)
  simp only [execOp, uponT, resolve, Deferred.ofValue, invoke, builtin, asBool, Instr.makeFunc, Instr.extract, sx, Act.put, Act.eval, nrm]
  refine hK1 _ _ _ ?_; clear hK1 K1
  refine opsL_cons rfl (fun K1 hK1 => ?_)
  simp only [execOp, uponT, resolve, Deferred.ofValue, invoke, builtin, asBool, Instr.makeFunc, Instr.extract, sx, Act.put, Act.eval, nrm]
  refine hK1 _ _ _ ?_; clear hK1 K1
  refine opsL_cons rfl (fun K1 hK1 => ?_)
  simp only [execOp, uponT, resolve, Deferred.ofValue, invoke, builtin, asBool, Instr.makeFunc, Instr.extract, sx, Act.put, Act.eval, nrm, semS_loadAt3 str86 info86 size86 c0 c1 c2]
  refine hK1 _ _ _ ?_; clear hK1 K1
  refine opsL_cons rfl (fun K1 hK1 => ?_)
  simp only [execOp, uponT, resolve, Deferred.ofValue, invoke, builtin, asBool, Instr.makeFunc, Instr.extract, sx, Act.put, Act.eval, nrm]
  refine hK1 _ _ _ ?_; clear hK1 K1
  refine opsL_cons rfl (fun K1 hK1 => ?_)
  simp only [execOp, uponT, resolve, Deferred.ofValue, invoke, builtin, asBool, Instr.makeFunc, Instr.extract, sx, Act.put, Act.eval, nrm, List.extract_toArray, List.extract_eq_take_drop, List.drop_succ_cons, List.drop_zero, List.take_succ_cons, List.take_zero, List.size_toArray, List.length_cons, List.length_nil, Nat.reduceAdd, Nat.reduceSub, call44]
  refine (as_calls Y main ota5 k5).mono ?_
  rintro _ H3 _ ⟨rfl, rfl, rfl⟩
  refine hK1 _ _ _ ?_; clear hK1 K1
  refine opsL_cons rfl (fun K1 hK1 => ?_)
  simp only [execOp, uponT, resolve, Deferred.ofValue, invoke, builtin, asBool, Instr.makeFunc, Instr.extract, sx, Act.put, Act.eval, nrm]
  refine hK1 _ _ _ ?_; clear hK1 K1
  refine opsL_nil (hK _ _ _ ?_); clear hK K
  refine wpT_ret (hless _ _ _ _ _ (less_of_set (.cells #[.int .i64 c] 31 (0, 0)) (l5.trans l1)) (hret _ _ _ (bodyPost_ret1 rfl ?_)))
  exact ⟨rfl, rfl, rfl⟩

set_option maxRecDepth 100000 in
theorem tell_nil {Γ κ : Type} (Y : Proto Γ κ) (main : Bool) {H : Hp} {γ : Γ} : CallsT Tryd.prog Y main 7 #[.nilIface] H γ (fun v H' γ' => v = .int .i64 0 ∧ γ' = γ ∧ H' = H) := by
  refine callsT_enter (T := [.nilIface, undef, undef, undef, undef, undef, undef, undef, undef, undef]) Tryd.func7 rfl Tryd.ntmps7 rfl (fun Q hret hnorm hless => ?_)
  refine wpT_seq_reg (fun K hK => ?_)
  refine opsL_cons rfl (fun K1 hK1 => ?_)
  simp only [execOp, uponT, resolve, Deferred.ofValue, invoke, builtin, asBool, Instr.makeFunc, Instr.extract, sx, Act.put, Act.eval, nrm]
  refine hK1 _ _ _ ?_; clear hK1 K1
  refine opsL_nil (hK _ _ _ ?_); clear hK K
  refine wpT_seq ?_
  refine wpT_seq_reg (fun K hK => ?_)
  refine opsL_cons rfl (fun K1 hK1 => ?_)
  simp only [execOp, uponT, resolve, Deferred.ofValue, invoke, builtin, asBool, Instr.makeFunc, Instr.extract, sx, Act.put, Act.eval, nrm]
  refine hK1 _ _ _ ?_; clear hK1 K1
  refine opsL_cons rfl (fun K1 hK1 => ?_)
  simp only [execOp, uponT, resolve, Deferred.ofValue, invoke, builtin, asBool, Instr.makeFunc, Instr.extract, sx, Act.put, Act.eval, nrm, semS_eqGuardNil _ _ _ _ (.inl rfl), semS_eqlNil if27 _ (.inl rfl)]
  refine hK1 _ _ _ ?_; clear hK1 K1
  refine opsL_nil (hK _ _ _ ?_); clear hK K
  refine wpT_cond (t := true) rfl ?_
  simp only [if_true, if_false, Bool.false_eq_true, reduceIte]
  refine wpT_seq_reg (fun K hK => ?_)
  refine opsL_cons rfl (fun K1 hK1 => ?_)
  simp only [execOp, uponT, resolve, Deferred.ofValue, invoke, builtin, asBool, Instr.makeFunc, Instr.extract, sx, Act.put, Act.eval, nrm]
  refine hK1 _ _ _ ?_; clear hK1 K1
  refine opsL_nil (hK _ _ _ ?_); clear hK K
  refine wpT_ret (hret _ _ _ (bodyPost_ret1 rfl ?_))
  exact ⟨rfl, rfl, rfl⟩

set_option maxRecDepth 100000 in
theorem tell_err {Γ κ : Type} (Y : Proto Γ κ) (main : Bool) {H : Hp} {γ : Γ} {c : Int} (hg : H.cell ⟨0, 0, none⟩ = some (.iface 109 (.agg #[.pointer (some ⟨1, 27, none⟩)]))) : CallsT Tryd.prog Y main 7 #[.iface 31 (.int .i64 c)] H γ (fun v H' γ' => v = .int .i64 c ∧ γ' = γ ∧ H' = H) := by
  refine callsT_enter (T := [.iface 31 (.int .i64 c), undef, undef, undef, undef, undef, undef, undef, undef, undef]) Tryd.func7 rfl Tryd.ntmps7 rfl (fun Q hret hnorm hless => ?_)
  refine wpT_seq_reg (fun K hK => ?_)
  refine opsL_cons rfl (fun K1 hK1 => ?_)
  simp only [execOp, uponT, resolve, Deferred.ofValue, invoke, builtin, asBool, Instr.makeFunc, Instr.extract, sx, Act.put, Act.eval, nrm]
  refine hK1 _ _ _ ?_; clear hK1 K1
  refine opsL_nil (hK _ _ _ ?_); clear hK K
  refine wpT_seq ?_
  refine wpT_seq_reg (fun K hK => ?_)
  refine opsL_cons rfl (fun K1 hK1 => ?_)
  simp only [execOp, uponT, resolve, Deferred.ofValue, invoke, builtin, asBool, Instr.makeFunc, Instr.extract, sx, Act.put, Act.eval, nrm]
  refine hK1 _ _ _ ?_; clear hK1 K1
  refine opsL_cons rfl (fun K1 hK1 => ?_)
  simp only [execOp, uponT, resolve, Deferred.ofValue, invoke, builtin, asBool, Instr.makeFunc, Instr.extract, sx, Act.put, Act.eval, nrm, semS_eqGuardNil _ _ _ _ (.inr ⟨_, _, rfl⟩), semS_eqlNil if27 _ (.inr ⟨_, _, rfl⟩)]
  refine hK1 _ _ _ ?_; clear hK1 K1
  refine opsL_nil (hK _ _ _ ?_); clear hK K
  refine wpT_cond (t := false) rfl ?_
  simp only [if_true, if_false, Bool.false_eq_true, reduceIte]
  refine wpT_skip ?_
  simp only [thenT]
  refine wpT_seq_reg (fun K hK => ?_)
  refine opsL_cons rfl (fun K1 hK1 => ?_)
  simp only [execOp, uponT, resolve, Deferred.ofValue, invoke, builtin, asBool, Instr.makeFunc, Instr.extract, sx, Act.put, Act.eval, nrm, semS_alloc info31 zero31, Value.cells]
  intro ta h1 h2
  refine hK1 _ _ _ ?_; clear hK1 K1
  refine opsL_nil (hK _ _ _ ?_); clear hK K
  have ota := set_own_same H ta (.cells #[.int .i64 0] 31 (0, 0))
  have hg1 := (Grow.set (.cells #[.int .i64 0] 31 (0, 0)) h1 h2) _ _ hg
  have l1 := less_set (.cells #[.int .i64 0] 31 (0, 0)) h1
  refine wpT_seq ?_
  refine wpT_seq_reg (fun K hK => ?_)
  refine opsL_cons rfl (fun K1 hK1 => ?_)
  simp only [execOp, uponT, resolve, Deferred.ofValue, invoke, builtin, asBool, Instr.makeFunc, Instr.extract, sx, Act.put, Act.eval, nrm]
  refine hK1 _ _ _ ?_; clear hK1 K1
  refine opsL_cons rfl (fun K1 hK1 => ?_)
  simp only [execOp, uponT, resolve, Deferred.ofValue, invoke, builtin, asBool, Instr.makeFunc, Instr.extract, sx, Act.put, Act.eval, nrm, semS_makeInterface conc58]
  refine hK1 _ _ _ ?_; clear hK1 K1
  refine opsL_cons rfl (fun K1 hK1 => ?_)
  simp only [execOp, uponT, resolve, Deferred.ofValue, invoke, builtin, asBool, Instr.makeFunc, Instr.extract, sx, Act.put, Act.eval, nrm, List.extract_toArray, List.extract_eq_take_drop, List.drop_succ_cons, List.drop_zero, List.take_succ_cons, List.take_zero, List.size_toArray, List.length_cons, List.length_nil, Nat.reduceAdd, Nat.reduceSub, call14]
  refine (errorsAs_calls Y main ota hg1).mono ?_
  rintro _ H3 _ ⟨rfl, rfl, rfl⟩
  rw [set_set]
  refine hK1 _ _ _ ?_; clear hK1 K1
  refine opsL_nil (hK _ _ _ ?_); clear hK K
  refine wpT_cond (t := true) rfl ?_
  simp only [if_true, if_false, Bool.false_eq_true, reduceIte]
  have c3 := (cell_own (set_own_same H ta (.cells #[.int .i64 c] 31 (0, 0))) 0).trans (show _ = some (Value.int .i64 c) from rfl)
  refine wpT_seq_reg (fun K hK => ?_)
  refine opsL_cons rfl (fun K1 hK1 => ?_)
  simp only [execOp, uponT, resolve, Deferred.ofValue, invoke, builtin, asBool, Instr.makeFunc, Instr.extract, sx, Act.put, Act.eval, nrm, semS_loadAt one31 c3]
  refine hK1 _ _ _ ?_; clear hK1 K1
  refine opsL_cons rfl (fun K1 hK1 => ?_)
  simp only [execOp, uponT, resolve, Deferred.ofValue, invoke, builtin, asBool, Instr.makeFunc, Instr.extract, sx, Act.put, Act.eval, nrm]
  refine hK1 _ _ _ ?_; clear hK1 K1
  refine opsL_nil (hK _ _ _ ?_); clear hK K
  refine wpT_ret (hless _ _ _ _ _ (less_set (.cells #[.int .i64 c] 31 (0, 0)) h1) (hret _ _ _ (bodyPost_ret1 rfl ?_)))
  exact ⟨rfl, rfl, rfl⟩
end Go.Proofs.YtcomjkbfmklfnaaDoor
