/-
  A block of one's own is shared: nobody writes it any more. Conditions: none.
-/
import Derived.Test.YtcomjkbfmklfnaaDoorSepE
set_option linter.unusedSimpArgs false
set_option linter.unusedVariables false
namespace Go.Sep
open Go.Conc

/-- A block of one's own, not to be written any more. -/
def Hp.share (H : Hp) (b : Nat) : Hp := { own := fun b' => if b' = b then none else H.own b', ro := fun b' => if b' = b then H.own b else H.ro b', d := H.d }
/-- The company lets one share. -/
def Pub {Γ κ : Type} (Y : Proto Γ κ) : Prop := ∀ (H : Hp) (γ : Γ) (b : Nat) (o : Obj), H.own b = some o → Y.Gs H γ (H.share b) γ
theorem share_cell {H : Hp} {b : Nat} {o : Obj} (hb : H.own b = some o) (a : Addr) : (H.share b).cell a = H.cell a := by
  by_cases h : a.block = b
  · simp [Hp.cell, Hp.look, Hp.share, h, hb]
  · simp [Hp.cell, Hp.look, Hp.share, h]
theorem share_own_ne {H : Hp} {b b' : Nat} (h : b' ≠ b) : (H.share b).own b' = H.own b' := by simp [Hp.share, h]
theorem share_own {H : Hp} {b : Nat} : (H.share b).own b = none := by simp [Hp.share]
theorem share_ro_ne {H : Hp} {b b' : Nat} (h : b' ≠ b) : (H.share b).ro b' = H.ro b' := by simp [Hp.share, h]
theorem opsL_ghost {Γ κ : Type} {P : Program} {Y : Proto Γ κ} {main : Bool} {fn : FuncId} {a : Act} {H H' : Hp} {γ γ' : Γ} {ops : Array Oper} {os : List Oper} {K : Act → Hp → Γ → Prop} (hl : Y.Gs H γ H' γ') (h : OpsL P Y main fn ops os K a H' γ') : OpsL P Y main fn ops os K a H γ :=
  fun pre hp => fun b k cs hb hk hc => .ghost hl (h pre hp b k cs hb hk hc)

end Go.Sep
