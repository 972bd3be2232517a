/-
  A method of the house's clock, called on an interface value: which function is entered. Conditions: none.
-/
import Derived.Test.YtcomjkbfmklfnaaDoorSepH
set_option linter.unusedSimpArgs false
set_option linter.unusedVariables false
namespace Go.Proofs.YtcomjkbfmklfnaaDoor
open Go.Conc Go.Sep

theorem fuel : ∃ n, Tryd.prog.types.size + Made.depth = n + 1 := ⟨Tryd.prog.types.size + Made.depth - 1, by
  have : 0 < Tryd.prog.types.size := of_decide_eq_true (by kernel_rfl)
  omega⟩
theorem nilChk_some (ats : Array TypeId) (ty : TypeId) (a : Addr) (s m : String) : Builtin.ssaWrapNilChk_ ats ty #[.pointer (some a), strVal s, strVal m] = pure (.pointer (some a)) := rfl
theorem ptr63 : Tryd.prog.underlying 63 = some (.pointer 61) := by kernel_rfl
noncomputable def mLen : Method := (ti63.methods.find? (·.name == "Len")).getD default
theorem mLen_find : ti63.methods.find? (·.name == "Len") = some mLen := by kernel_rfl
theorem mLen_path : mLen.path = #[] := by kernel_rfl
theorem mLen_func : mLen.func = some (17, false) := by kernel_rfl
theorem invokeLen {H : Hp} {bc : Nat} {v : Value} (hc : H.cell ⟨bc, 0, none⟩ = some v) (args : Array Value) (K : Next → Hp → Prop) : SemS Tryd.prog (callMethod (.iface 63 (.pointer (some ⟨bc, 0, none⟩))) "Len" args) H K = K (.enter 17 (#[v] ++ args)) H := by
  obtain ⟨n, hn⟩ := fuel
  have hl : ∀ K' : Value → Hp → Prop, SemS Tryd.prog (loadVar 61 ⟨bc, 0, none⟩) H K' = K' v H := fun K' => by
    have := semS_loadAt (P := Tryd.prog) one61 hc K'
    simpa only [Instr.loadAt, Instr.sureAddr, semS_bind, semS_pure] using this
  simp only [callMethod, semS_bind, semS_program, hn, method, semS_typeInfo, info63, mLen_find, mLen_path, mLen_func, List.toList_toArray, follow, semS_pure, receiverAt, semS_underlying, ptr63, Place.get, Array.isEmpty, List.size_toArray, List.length_nil, decide_true, if_true, nilChk_some, asAddr, hl, call17]
noncomputable def mLess : Method := (ti63.methods.find? (·.name == "Less")).getD default
theorem mLess_find : ti63.methods.find? (·.name == "Less") = some mLess := by kernel_rfl
theorem mLess_path : mLess.path = #[] := by kernel_rfl
theorem mLess_func : mLess.func = some (74, false) := by kernel_rfl
theorem invokeLess {H : Hp} {bc : Nat} {v : Value} (hc : H.cell ⟨bc, 0, none⟩ = some v) (args : Array Value) (K : Next → Hp → Prop) : SemS Tryd.prog (callMethod (.iface 63 (.pointer (some ⟨bc, 0, none⟩))) "Less" args) H K = K (.enter 74 (#[v] ++ args)) H := by
  obtain ⟨n, hn⟩ := fuel
  have hl : ∀ K' : Value → Hp → Prop, SemS Tryd.prog (loadVar 61 ⟨bc, 0, none⟩) H K' = K' v H := fun K' => by
    have := semS_loadAt (P := Tryd.prog) one61 hc K'
    simpa only [Instr.loadAt, Instr.sureAddr, semS_bind, semS_pure] using this
  simp only [callMethod, semS_bind, semS_program, hn, method, semS_typeInfo, info63, mLess_find, mLess_path, mLess_func, List.toList_toArray, follow, semS_pure, receiverAt, semS_underlying, ptr63, Place.get, Array.isEmpty, List.size_toArray, List.length_nil, decide_true, if_true, nilChk_some, asAddr, hl, call74]
noncomputable def mSwap : Method := (ti63.methods.find? (·.name == "Swap")).getD default
theorem mSwap_find : ti63.methods.find? (·.name == "Swap") = some mSwap := by kernel_rfl
theorem mSwap_path : mSwap.path = #[] := by kernel_rfl
theorem mSwap_func : mSwap.func = some (75, false) := by kernel_rfl
theorem invokeSwap {H : Hp} {bc : Nat} {v : Value} (hc : H.cell ⟨bc, 0, none⟩ = some v) (args : Array Value) (K : Next → Hp → Prop) : SemS Tryd.prog (callMethod (.iface 63 (.pointer (some ⟨bc, 0, none⟩))) "Swap" args) H K = K (.enter 75 (#[v] ++ args)) H := by
  obtain ⟨n, hn⟩ := fuel
  have hl : ∀ K' : Value → Hp → Prop, SemS Tryd.prog (loadVar 61 ⟨bc, 0, none⟩) H K' = K' v H := fun K' => by
    have := semS_loadAt (P := Tryd.prog) one61 hc K'
    simpa only [Instr.loadAt, Instr.sureAddr, semS_bind, semS_pure] using this
  simp only [callMethod, semS_bind, semS_program, hn, method, semS_typeInfo, info63, mSwap_find, mSwap_path, mSwap_func, List.toList_toArray, follow, semS_pure, receiverAt, semS_underlying, ptr63, Place.get, Array.isEmpty, List.size_toArray, List.length_nil, decide_true, if_true, nilChk_some, asAddr, hl, call75]
noncomputable def mPop : Method := (ti63.methods.find? (·.name == "Pop")).getD default
theorem mPop_find : ti63.methods.find? (·.name == "Pop") = some mPop := by kernel_rfl
theorem mPop_path : mPop.path = #[] := by kernel_rfl
theorem mPop_func : mPop.func = some (76, true) := by kernel_rfl
theorem invokePop {H : Hp} (v : Value) (args : Array Value) (K : Next → Hp → Prop) : SemS Tryd.prog (callMethod (.iface 63 v) "Pop" args) H K = K (.enter 76 (#[v] ++ args)) H := by
  obtain ⟨n, hn⟩ := fuel
  simp only [callMethod, semS_bind, semS_program, hn, method, semS_typeInfo, info63, mPop_find, mPop_path, mPop_func, List.toList_toArray, follow, semS_pure, receiverAt, semS_underlying, ptr63, Place.get, call76]
noncomputable def mPush : Method := (ti63.methods.find? (·.name == "Push")).getD default
theorem mPush_find : ti63.methods.find? (·.name == "Push") = some mPush := by kernel_rfl
theorem mPush_path : mPush.path = #[] := by kernel_rfl
theorem mPush_func : mPush.func = some (77, true) := by kernel_rfl
theorem invokePush {H : Hp} (v : Value) (args : Array Value) (K : Next → Hp → Prop) : SemS Tryd.prog (callMethod (.iface 63 v) "Push" args) H K = K (.enter 77 (#[v] ++ args)) H := by
  obtain ⟨n, hn⟩ := fuel
  simp only [callMethod, semS_bind, semS_program, hn, method, semS_typeInfo, info63, mPush_find, mPush_path, mPush_func, List.toList_toArray, follow, semS_pure, receiverAt, semS_underlying, ptr63, Place.get, call77]
end Go.Proofs.YtcomjkbfmklfnaaDoor
