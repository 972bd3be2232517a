/-
  tape.Play, by its contract. Conditions: none.
-/
import Derived.Test.YtcomjkbfmklfnaaDoorWh
set_option linter.unusedSimpArgs false
set_option linter.unusedVariables false
namespace Go.Proofs.YtcomjkbfmklfnaaDoor
open Go.Conc Go.Sep

def nth : List Value → Nat → Value
  | [], _ => undef
  | x :: _, 0 => x
  | _ :: xs, n + 1 => nth xs n
def slot (a : Act) (i : Nat) : Value := nth a.tmps.toList i
theorem slots {F : (Nat → Value) → Act} {a : Act} (h : a = F (slot a)) : ∃ S, a = F S := ⟨_, h⟩

noncomputable def ms27 := match Tryd.prog.underlying 27 with | some (.interface ms) => ms | _ => #[]
theorem if27 : Tryd.prog.underlying 27 = some (.interface ms27) := by kernel_rfl

theorem pm_start (H : Hp) (bl bo B Bf bc : Nat) {aL : Option Addr} {ls : List Tap} {agn : Nat} {csB csf : Array Value} {X1 X3 : Obj} (hl1 : H.own bl = none) (hl2 : H.ro bl = none)
    (hB1 : (H.set bl X1).own B = none) (hB2 : (H.set bl X1).ro B = none) (ho1 : ((H.set bl X1).set B (.cells csB 37 (0, 0))).own bo = none) (ho2 : ((H.set bl X1).set B (.cells csB 37 (0, 0))).ro bo = none)
    (hf1 : (((H.set bl X1).set B (.cells csB 37 (0, 0))).set bo X3).own Bf = none) (hf2 : (((H.set bl X1).set B (.cells csB 37 (0, 0))).set bo X3).ro Bf = none)
    (hc1 : ((((H.set bl X1).set B (.cells csB 37 (0, 0))).set bo X3).set Bf (.cells csf 3 (0, 0))).own bc = none) (hc2 : ((((H.set bl X1).set B (.cells csB 37 (0, 0))).set bo X3).set Bf (.cells csf 3 (0, 0))).ro bc = none)
    (hls : Taps H aL ls) (hfar : ∀ x, 0 < ls.length → aL = some x → H.own x.block = none) (capA : Nat) (e1 : X1 = .cells #[.slice aL ls.length capA] 23 (0, 0)) (e3 : X3 = .cells #[.slice (some ⟨B, 0, none⟩) ls.length ls.length] 33 (0, 0))
    (hF : Fates csB (List.replicate ls.length (0, 0))) (hsB : csB.size = ls.length * 2) (hfi : Ints csf 0 (List.replicate agn 0)) (hsf : csf.size = agn) :
    PM H (((((H.set bl X1).set B (.cells csB 37 (0, 0))).set bo X3).set Bf (.cells csf 3 (0, 0))).set bc (.cells #[.slice none 0 0] 61 (0, 0))) bl bo B Bf bc none none 0 none aL ls (List.replicate ls.length (0, 0)) (List.replicate agn 0) [] [] := by
  have n1 : bl ≠ B := own_ne (set_own_same _ _ _) hB1
  have g1 : (H.set bl X1).own bl = some X1 := set_own_same _ _ _
  have g2 : ((H.set bl X1).set B (.cells csB 37 (0, 0))).own bl = some X1 := by rw [set_own_ne _ _ n1]; exact g1
  have g3 : ((H.set bl X1).set B (.cells csB 37 (0, 0))).own B = some (.cells csB 37 (0, 0)) := set_own_same _ _ _
  have n2 : bl ≠ bo := own_ne g2 ho1
  have n3 : B ≠ bo := own_ne g3 ho1
  have g4 : (((H.set bl X1).set B (.cells csB 37 (0, 0))).set bo X3).own bl = some X1 := by rw [set_own_ne _ _ n2]; exact g2
  have g5 : (((H.set bl X1).set B (.cells csB 37 (0, 0))).set bo X3).own B = some (.cells csB 37 (0, 0)) := by rw [set_own_ne _ _ n3]; exact g3
  have g6 : (((H.set bl X1).set B (.cells csB 37 (0, 0))).set bo X3).own bo = some X3 := set_own_same _ _ _
  have n4 : bl ≠ Bf := own_ne g4 hf1
  have n5 : B ≠ Bf := own_ne g5 hf1
  have n6 : bo ≠ Bf := own_ne g6 hf1
  have g7 : ((((H.set bl X1).set B (.cells csB 37 (0, 0))).set bo X3).set Bf (.cells csf 3 (0, 0))).own bl = some X1 := by rw [set_own_ne _ _ n4]; exact g4
  have g8 : ((((H.set bl X1).set B (.cells csB 37 (0, 0))).set bo X3).set Bf (.cells csf 3 (0, 0))).own B = some (.cells csB 37 (0, 0)) := by rw [set_own_ne _ _ n5]; exact g5
  have g9 : ((((H.set bl X1).set B (.cells csB 37 (0, 0))).set bo X3).set Bf (.cells csf 3 (0, 0))).own bo = some X3 := by rw [set_own_ne _ _ n6]; exact g6
  have g10 : ((((H.set bl X1).set B (.cells csB 37 (0, 0))).set bo X3).set Bf (.cells csf 3 (0, 0))).own Bf = some (.cells csf 3 (0, 0)) := set_own_same _ _ _
  have n7 : bl ≠ bc := own_ne g7 hc1
  have n8 : B ≠ bc := own_ne g8 hc1
  have n9 : bo ≠ bc := own_ne g9 hc1
  have n10 : Bf ≠ bc := own_ne g10 hc1
  have w1 : New H bl := ⟨hl1, hl2⟩
  have w2 : New H B := ⟨by rw [set_own_ne _ _ (Ne.symm n1)] at hB1; exact hB1, hB2⟩
  have w3 : New H bo := ⟨by rw [set_own_ne _ _ (Ne.symm n3), set_own_ne _ _ (Ne.symm n2)] at ho1; exact ho1, ho2⟩
  have w4 : New H Bf := ⟨by rw [set_own_ne _ _ (Ne.symm n6), set_own_ne _ _ (Ne.symm n5), set_own_ne _ _ (Ne.symm n4)] at hf1; exact hf1, hf2⟩
  have w5 : New H bc := ⟨by rw [set_own_ne _ _ (Ne.symm n10), set_own_ne _ _ (Ne.symm n9), set_own_ne _ _ (Ne.symm n8), set_own_ne _ _ (Ne.symm n7)] at hc1; exact hc1, hc2⟩
  have gr : Grow H (((((H.set bl X1).set B (.cells csB 37 (0, 0))).set bo X3).set Bf (.cells csf 3 (0, 0))).set bc (.cells #[.slice none 0 0] 61 (0, 0))) :=
    grow_set_new (grow_set_new (grow_set_new (grow_set_new (grow_set_new (Grow.refl H) _ w1) _ w2) _ w3) _ w4) _ w5
  have le : Less (((((H.set bl X1).set B (.cells csB 37 (0, 0))).set bo X3).set Bf (.cells csf 3 (0, 0))).set bc (.cells #[.slice none 0 0] 61 (0, 0))) H :=
    less_set_new (less_set_new (less_set_new (less_set_new (less_set_new (Less.refl H) _ w1) _ w2) _ w3) _ w4) _ w5
  have far : ∀ x, 0 < ls.length → aL = some x → x.block ≠ bl ∧ x.block ≠ B ∧ x.block ≠ bo ∧ x.block ≠ Bf ∧ x.block ≠ bc := by
    intro x l e
    obtain ⟨B', off, e', hT⟩ := hls.resolve_left (by omega)
    rw [e] at e'; cases e'
    have hc := (hT 0 l).1
    have : ∀ b, New H b → B' ≠ b := by
      rintro b hb rfl
      simp only [Hp.cell, Hp.look, hb.1, hb.2] at hc
      cases hc
    exact ⟨this _ w1, this _ w2, this _ w3, this _ w4, this _ w5⟩
  refine ⟨le, gr, ⟨capA, ?_⟩, hls.grow gr, ?_, ?_, ⟨csB, ?_, hF, by rw [List.length_replicate]; exact hsB⟩, ⟨csf, ?_, hfi, by rw [List.length_replicate]; exact hsf⟩, ⟨set_own_same _ _ _, rfl⟩, .inl ⟨rfl, rfl, rfl⟩, fun _ _ e => (by cases e), List.length_replicate, ⟨w1, w3, w2, w4, w5⟩, fun _ e => (by cases e), fun _ e => (by cases e), fun _ _ e => (by cases e), ⟨n2, n1, n4, n7, Ne.symm n3, n6, n9, n5, n8, n10⟩, fun _ e => (by cases e), fun _ e => (by cases e), fun _ _ e => (by cases e), fun _ _ e => (by cases e), fun _ _ _ e => (by cases e), fun _ _ _ e => (by cases e)⟩
  · rw [set_own_ne _ _ n7, g7, e1]
  · intro x l e
    obtain ⟨f1, f2, f3, f4, f5⟩ := far x l e
    rw [set_own_ne _ _ f5, set_own_ne _ _ f4, set_own_ne _ _ f3, set_own_ne _ _ f2, set_own_ne _ _ f1]
    exact hfar x l e
  · rw [set_own_ne _ _ n9, g9, e3, List.length_replicate]
  · rw [set_own_ne _ _ n8, g8]
  · rw [set_own_ne _ _ n10, g10]

set_option maxRecDepth 100000 in
set_option maxHeartbeats 8000000 in
theorem play_calls {Γ κ : Type} (Y : Proto Γ κ) (main : Bool) (H : Hp) (γ : Γ) {aL : Option Addr} {capA : Nat} {ls : List Tap} (hls : Taps H aL ls) (hfar : ∀ x, 0 < ls.length → aL = some x → H.own x.block = none) (ag : Int) :
    CallsT Tryd.prog Y main 8 #[.slice aL ls.length capA, .int .i64 ag] H γ (fun v H' γ' => γ' = γ ∧ match playR ls ag with
      | .inl e => v = .tuple #[.slice none 0 0, .iface 31 (.int .i64 e)] ∧ H' = H
      | .inr out => ∃ B cs, New H B ∧ v = .tuple #[.slice (some ⟨B, 0, none⟩) out.length out.length, .nilIface] ∧ H' = H.set B (.cells cs 37 (0, 0)) ∧ Fates cs out ∧ cs.size = out.length * 2) := by
  refine callsT_enter (T := [.slice aL ls.length capA, .int .i64 ag, undef, undef, undef, undef, undef, undef, undef, undef, undef, undef, undef, undef, undef, undef, undef, undef, undef, undef, undef, undef, undef, undef, undef, undef, undef, undef, undef, undef, undef, undef, undef, undef, undef, undef, undef, undef, undef, undef, undef, undef, undef, undef, undef, undef, undef, undef, undef, undef, undef, undef, undef, undef, undef, undef, undef, undef, undef, undef, undef, undef, undef, undef, undef, undef, undef, undef, undef, undef, undef, undef, undef, undef, undef, undef, undef, undef, undef, undef, undef, undef, undef, undef, undef, undef, undef, undef, undef, undef, undef, undef, undef, undef, undef, undef, undef, undef, undef, undef, undef, undef, undef, undef, undef, undef, undef, undef, undef, undef, undef, undef, undef, undef, undef, undef, undef, undef, undef]) Tryd.func8 rfl Tryd.ntmps8 rfl (fun Q hret hnorm hless => ?_)
  refine wpT_seq_reg (fun K hK => ?_)
  refine opsL_cons rfl (fun K1 hK1 => ?_)
  simp only [execOp, uponT, resolve, Deferred.ofValue, invoke, builtin, asBool, Instr.makeFunc, Instr.extract, sx, Act.put, Act.eval, nrm, semS_box, Value.cells]
  intro bl hl1 hl2
  refine hK1 _ _ _ ?_; clear hK1 K1
  refine opsL_cons rfl (fun K1 hK1 => ?_)
  simp only [execOp, uponT, resolve, Deferred.ofValue, invoke, builtin, asBool, Instr.makeFunc, Instr.extract, sx, Act.put, Act.eval, nrm]
  refine hK1 _ _ _ ?_; clear hK1 K1
  refine opsL_cons rfl (fun K1 hK1 => ?_)
  simp only [execOp, uponT, resolve, Deferred.ofValue, invoke, builtin, asBool, Instr.makeFunc, Instr.extract, sx, Act.put, Act.eval, nrm]
  refine hK1 _ _ _ ?_; clear hK1 K1
  refine opsL_nil (hK _ _ _ ?_); clear hK K
  have hlb := set_own_same H bl (.cells #[.slice aL ls.length capA] 23 (0, 0))
  have hlc := (cell_own hlb 0).trans (show _ = some (Value.slice aL ls.length capA) from rfl)
  have hle1 := less_set (.cells #[.slice aL ls.length capA] 23 (0, 0)) hl1
  have hgr1 := Grow.set (.cells #[.slice aL ls.length capA] 23 (0, 0)) hl1 hl2
  have hls1 := hls.grow hgr1
  refine wpT_seq ?_
  refine wpT_seq_reg (fun K hK => ?_)
  refine opsL_cons rfl (fun K1 hK1 => ?_)
  simp only [execOp, uponT, resolve, Deferred.ofValue, invoke, builtin, asBool, Instr.makeFunc, Instr.extract, sx, Act.put, Act.eval, nrm, semS_loadAt one23 hlc]
  refine hK1 _ _ _ ?_; clear hK1 K1
  refine opsL_cons rfl (fun K1 hK1 => ?_)
  simp only [execOp, uponT, resolve, Deferred.ofValue, invoke, builtin, asBool, Instr.makeFunc, Instr.extract, sx, Act.put, Act.eval, nrm, List.extract_toArray, List.extract_eq_take_drop, List.drop_succ_cons, List.drop_zero, List.take_succ_cons, List.take_zero, List.size_toArray, List.length_cons, List.length_nil, Nat.reduceAdd, Nat.reduceSub, call15]
  refine (check_calls Y main _ _ hls1).mono ?_
  rintro _ H3 γ ⟨rfl, rfl, rfl⟩
  refine hK1 _ _ _ ?_; clear hK1 K1
  refine opsL_cons rfl (fun K1 hK1 => ?_)
  simp only [execOp, uponT, resolve, Deferred.ofValue, invoke, builtin, asBool, Instr.makeFunc, Instr.extract, sx, Act.put, Act.eval, nrm]
  refine hK1 _ _ _ ?_; clear hK1 K1
  refine opsL_nil (hK _ _ _ ?_); clear hK K
  cases hck : checkL ls with
  | some e =>
    have hR : playR ls ag = .inl e := by simp only [playR, hck]
    simp only [errV]
    refine wpT_seq_reg (fun K hK => ?_)
    refine opsL_cons rfl (fun K1 hK1 => ?_)
    simp only [execOp, uponT, resolve, Deferred.ofValue, invoke, builtin, asBool, Instr.makeFunc, Instr.extract, sx, Act.put, Act.eval, nrm]
    refine hK1 _ _ _ ?_; clear hK1 K1
    refine opsL_cons rfl (fun K1 hK1 => ?_)
    simp only [execOp, uponT, resolve, Deferred.ofValue, invoke, builtin, asBool, Instr.makeFunc, Instr.extract, sx, Act.put, Act.eval, nrm, semS_eqGuardNil _ _ _ _ (.inr ⟨_, _, rfl⟩), semS_neqNil if27 _ (.inr ⟨_, _, rfl⟩)]
    refine hK1 _ _ _ ?_; clear hK1 K1
    refine opsL_nil (hK _ _ _ ?_); clear hK K
    refine wpT_cond (t := true) rfl ?_
    simp only [if_true, if_false, Bool.false_eq_true, reduceIte]
    refine wpT_seq_reg (fun K hK => ?_)
    refine opsL_cons rfl (fun K1 hK1 => ?_)
    simp only [execOp, uponT, resolve, Deferred.ofValue, invoke, builtin, asBool, Instr.makeFunc, Instr.extract, sx, Act.put, Act.eval, nrm]
    refine hK1 _ _ _ ?_; clear hK1 K1
    refine opsL_cons rfl (fun K1 hK1 => ?_)
    simp only [execOp, uponT, resolve, Deferred.ofValue, invoke, builtin, asBool, Instr.makeFunc, Instr.extract, sx, Act.put, Act.eval, nrm]
    refine hK1 _ _ _ ?_; clear hK1 K1
    refine opsL_cons rfl (fun K1 hK1 => ?_)
    simp only [execOp, uponT, resolve, Deferred.ofValue, invoke, builtin, asBool, Instr.makeFunc, Instr.extract, sx, Act.put, Act.eval, nrm]
    refine hK1 _ _ _ ?_; clear hK1 K1
    refine opsL_nil (hK _ _ _ ?_); clear hK K
    refine wpT_ret (hless _ _ _ _ _ hle1 (hret _ _ _ (bodyPost_ret2 rfl ?_)))
    rw [hR]
    exact ⟨rfl, rfl, rfl⟩
  | none =>
    have hn60 := checkL_none hck
    simp only [errV]
    refine wpT_seq_reg (fun K hK => ?_)
    refine opsL_cons rfl (fun K1 hK1 => ?_)
    simp only [execOp, uponT, resolve, Deferred.ofValue, invoke, builtin, asBool, Instr.makeFunc, Instr.extract, sx, Act.put, Act.eval, nrm]
    refine hK1 _ _ _ ?_; clear hK1 K1
    refine opsL_cons rfl (fun K1 hK1 => ?_)
    simp only [execOp, uponT, resolve, Deferred.ofValue, invoke, builtin, asBool, Instr.makeFunc, Instr.extract, sx, Act.put, Act.eval, nrm, semS_eqGuardNil _ _ _ _ (.inl rfl), semS_neqNil if27 _ (.inl rfl)]
    refine hK1 _ _ _ ?_; clear hK1 K1
    refine opsL_nil (hK _ _ _ ?_); clear hK K
    refine wpT_cond (t := false) rfl ?_
    simp only [if_true, if_false, Bool.false_eq_true, reduceIte]
    refine wpT_skip ?_
    simp only [thenT]
    refine wpT_seq ?_
    by_cases ha0 : ag < 0
    ·
      have c1 : decide (ag < 0) = true := decide_eq_true ha0
      have hR : playR ls ag = .inl 4 := by simp only [playR, hck]; rw [if_pos (.inl ha0)]
      refine wpT_seq_reg (fun K hK => ?_)
      refine opsL_cons rfl (fun K1 hK1 => ?_)
      simp only [execOp, uponT, resolve, Deferred.ofValue, invoke, builtin, asBool, Instr.makeFunc, Instr.extract, sx, Act.put, Act.eval, nrm]
      refine hK1 _ _ _ ?_; clear hK1 K1
      refine opsL_cons rfl (fun K1 hK1 => ?_)
      simp only [execOp, uponT, resolve, Deferred.ofValue, invoke, builtin, asBool, Instr.makeFunc, Instr.extract, sx, Act.put, Act.eval, nrm, c1]
      refine hK1 _ _ _ ?_; clear hK1 K1
      refine opsL_cons rfl (fun K1 hK1 => ?_)
      simp only [execOp, uponT, resolve, Deferred.ofValue, invoke, builtin, asBool, Instr.makeFunc, Instr.extract, sx, Act.put, Act.eval, nrm]
      refine hK1 _ _ _ ?_; clear hK1 K1
      refine opsL_unwanted rfl ?_
      simp only [Act.put, Act.eval, nrm]
      refine opsL_unwanted rfl ?_
      simp only [Act.put, Act.eval, nrm]
      refine opsL_cons rfl (fun K1 hK1 => ?_)
      simp only [execOp, uponT, resolve, Deferred.ofValue, invoke, builtin, asBool, Instr.makeFunc, Instr.extract, sx, Act.put, Act.eval, nrm, if_true]
      refine hK1 _ _ _ ?_; clear hK1 K1
      refine opsL_nil (hK _ _ _ ?_); clear hK K
      refine wpT_cond (t := true) rfl ?_
      simp only [if_true, if_false, Bool.false_eq_true, reduceIte]
      refine wpT_seq_reg (fun K hK => ?_)
      refine opsL_cons rfl (fun K1 hK1 => ?_)
      simp only [execOp, uponT, resolve, Deferred.ofValue, invoke, builtin, asBool, Instr.makeFunc, Instr.extract, sx, Act.put, Act.eval, nrm, semS_makeInterface conc31]
      refine hK1 _ _ _ ?_; clear hK1 K1
      refine opsL_cons rfl (fun K1 hK1 => ?_)
      simp only [execOp, uponT, resolve, Deferred.ofValue, invoke, builtin, asBool, Instr.makeFunc, Instr.extract, sx, Act.put, Act.eval, nrm]
      refine hK1 _ _ _ ?_; clear hK1 K1
      refine opsL_cons rfl (fun K1 hK1 => ?_)
      simp only [execOp, uponT, resolve, Deferred.ofValue, invoke, builtin, asBool, Instr.makeFunc, Instr.extract, sx, Act.put, Act.eval, nrm]
      refine hK1 _ _ _ ?_; clear hK1 K1
      refine opsL_nil (hK _ _ _ ?_); clear hK K
      refine wpT_ret (hless _ _ _ _ _ hle1 (hret _ _ _ (bodyPost_ret2 rfl ?_)))
      rw [hR]
      exact ⟨rfl, rfl, rfl⟩
    have c1 : decide (ag < 0) = false := decide_eq_false ha0
    by_cases ha1 : ag > 20
    ·
      have c2 : decide (ag > 20) = true := decide_eq_true ha1
      have hR : playR ls ag = .inl 4 := by simp only [playR, hck]; rw [if_pos (.inr ha1)]
      refine wpT_seq_reg (fun K hK => ?_)
      refine opsL_cons rfl (fun K1 hK1 => ?_)
      simp only [execOp, uponT, resolve, Deferred.ofValue, invoke, builtin, asBool, Instr.makeFunc, Instr.extract, sx, Act.put, Act.eval, nrm]
      refine hK1 _ _ _ ?_; clear hK1 K1
      refine opsL_cons rfl (fun K1 hK1 => ?_)
      simp only [execOp, uponT, resolve, Deferred.ofValue, invoke, builtin, asBool, Instr.makeFunc, Instr.extract, sx, Act.put, Act.eval, nrm, c1]
      refine hK1 _ _ _ ?_; clear hK1 K1
      refine opsL_cons rfl (fun K1 hK1 => ?_)
      simp only [execOp, uponT, resolve, Deferred.ofValue, invoke, builtin, asBool, Instr.makeFunc, Instr.extract, sx, Act.put, Act.eval, nrm]
      refine hK1 _ _ _ ?_; clear hK1 K1
      refine opsL_cons rfl (fun K1 hK1 => ?_)
      simp only [execOp, uponT, resolve, Deferred.ofValue, invoke, builtin, asBool, Instr.makeFunc, Instr.extract, sx, Act.put, Act.eval, nrm]
      refine hK1 _ _ _ ?_; clear hK1 K1
      refine opsL_cons rfl (fun K1 hK1 => ?_)
      simp only [execOp, uponT, resolve, Deferred.ofValue, invoke, builtin, asBool, Instr.makeFunc, Instr.extract, sx, Act.put, Act.eval, nrm, c2]
      refine hK1 _ _ _ ?_; clear hK1 K1
      refine opsL_cons rfl (fun K1 hK1 => ?_)
      simp only [execOp, uponT, resolve, Deferred.ofValue, invoke, builtin, asBool, Instr.makeFunc, Instr.extract, sx, Act.put, Act.eval, nrm, Bool.false_eq_true, if_false]
      refine hK1 _ _ _ ?_; clear hK1 K1
      refine opsL_nil (hK _ _ _ ?_); clear hK K
      refine wpT_cond (t := true) rfl ?_
      simp only [if_true, if_false, Bool.false_eq_true, reduceIte]
      refine wpT_seq_reg (fun K hK => ?_)
      refine opsL_cons rfl (fun K1 hK1 => ?_)
      simp only [execOp, uponT, resolve, Deferred.ofValue, invoke, builtin, asBool, Instr.makeFunc, Instr.extract, sx, Act.put, Act.eval, nrm, semS_makeInterface conc31]
      refine hK1 _ _ _ ?_; clear hK1 K1
      refine opsL_cons rfl (fun K1 hK1 => ?_)
      simp only [execOp, uponT, resolve, Deferred.ofValue, invoke, builtin, asBool, Instr.makeFunc, Instr.extract, sx, Act.put, Act.eval, nrm]
      refine hK1 _ _ _ ?_; clear hK1 K1
      refine opsL_cons rfl (fun K1 hK1 => ?_)
      simp only [execOp, uponT, resolve, Deferred.ofValue, invoke, builtin, asBool, Instr.makeFunc, Instr.extract, sx, Act.put, Act.eval, nrm]
      refine hK1 _ _ _ ?_; clear hK1 K1
      refine opsL_nil (hK _ _ _ ?_); clear hK K
      refine wpT_ret (hless _ _ _ _ _ hle1 (hret _ _ _ (bodyPost_ret2 rfl ?_)))
      rw [hR]
      exact ⟨rfl, rfl, rfl⟩
    have c2 : decide (ag > 20) = false := decide_eq_false ha1
    have hR : playR ls ag = .inr (playF ls (3 * ls.length + 1) (clk0 ls) [] 0 (List.replicate ag.toNat 0) (List.replicate ls.length (0, 0))) := by simp only [playR, hck]; rw [if_neg (by omega)]
    refine wpT_seq_reg (fun K hK => ?_)
    refine opsL_cons rfl (fun K1 hK1 => ?_)
    simp only [execOp, uponT, resolve, Deferred.ofValue, invoke, builtin, asBool, Instr.makeFunc, Instr.extract, sx, Act.put, Act.eval, nrm]
    refine hK1 _ _ _ ?_; clear hK1 K1
    refine opsL_cons rfl (fun K1 hK1 => ?_)
    simp only [execOp, uponT, resolve, Deferred.ofValue, invoke, builtin, asBool, Instr.makeFunc, Instr.extract, sx, Act.put, Act.eval, nrm, c1]
    refine hK1 _ _ _ ?_; clear hK1 K1
    refine opsL_cons rfl (fun K1 hK1 => ?_)
    simp only [execOp, uponT, resolve, Deferred.ofValue, invoke, builtin, asBool, Instr.makeFunc, Instr.extract, sx, Act.put, Act.eval, nrm]
    refine hK1 _ _ _ ?_; clear hK1 K1
    refine opsL_cons rfl (fun K1 hK1 => ?_)
    simp only [execOp, uponT, resolve, Deferred.ofValue, invoke, builtin, asBool, Instr.makeFunc, Instr.extract, sx, Act.put, Act.eval, nrm]
    refine hK1 _ _ _ ?_; clear hK1 K1
    refine opsL_cons rfl (fun K1 hK1 => ?_)
    simp only [execOp, uponT, resolve, Deferred.ofValue, invoke, builtin, asBool, Instr.makeFunc, Instr.extract, sx, Act.put, Act.eval, nrm, c2]
    refine hK1 _ _ _ ?_; clear hK1 K1
    refine opsL_cons rfl (fun K1 hK1 => ?_)
    simp only [execOp, uponT, resolve, Deferred.ofValue, invoke, builtin, asBool, Instr.makeFunc, Instr.extract, sx, Act.put, Act.eval, nrm, Bool.false_eq_true, if_false]
    refine hK1 _ _ _ ?_; clear hK1 K1
    refine opsL_nil (hK _ _ _ ?_); clear hK K
    refine wpT_cond (t := false) rfl ?_
    simp only [if_true, if_false, Bool.false_eq_true, reduceIte]
    refine wpT_skip ?_
    simp only [thenT]
    obtain ⟨agn, rfl⟩ : ∃ n : Nat, ag = (n : Int) := ⟨ag.toNat, by omega⟩
    rw [Int.toNat_natCast] at hR
    refine wpT_seq_reg (fun K hK => ?_)
    refine opsL_cons rfl (fun K1 hK1 => ?_)
    simp only [execOp, uponT, resolve, Deferred.ofValue, invoke, builtin, asBool, Instr.makeFunc, Instr.extract, sx, Act.put, Act.eval, nrm, semS_loadAt one23 hlc]
    refine hK1 _ _ _ ?_; clear hK1 K1
    refine opsL_cons rfl (fun K1 hK1 => ?_)
    simp only [execOp, uponT, resolve, Deferred.ofValue, invoke, builtin, asBool, Instr.makeFunc, Instr.extract, sx, Act.put, Act.eval, nrm]
    refine hK1 _ _ _ ?_; clear hK1 K1
    refine opsL_cons rfl (fun K1 hK1 => ?_)
    simp only [execOp, uponT, resolve, Deferred.ofValue, invoke, builtin, asBool, Instr.makeFunc, Instr.extract, sx, Act.put, Act.eval, nrm]
    refine semS_makeFates Tryd.underlying33 info37 size37 bytes37 zero37 ls.length (by omega) _ (fun B csB hB1 hB2 hF hsB => ?_)
    refine hK1 _ _ _ ?_; clear hK1 K1
    refine opsL_cons rfl (fun K1 hK1 => ?_)
    simp only [execOp, uponT, resolve, Deferred.ofValue, invoke, builtin, asBool, Instr.makeFunc, Instr.extract, sx, Act.put, Act.eval, nrm, semS_alloc info33 zero33, Value.cells]
    intro bo ho1 ho2
    refine hK1 _ _ _ ?_; clear hK1 K1
    refine opsL_cons rfl (fun K1 hK1 => ?_)
    simp only [execOp, uponT, resolve, Deferred.ofValue, invoke, builtin, asBool, Instr.makeFunc, Instr.extract, sx, Act.put, Act.eval, nrm, semS_storeAt info33 size33 (set_own_same _ _ _) (off := 0) (show 0 < (#[Value.slice none 0 0] : Array Value).size by simp) (v := .slice (some ⟨B, 0, none⟩) ls.length ls.length) rfl, set_set]
    refine hK1 _ _ _ ?_; clear hK1 K1
    refine opsL_nil (hK _ _ _ ?_); clear hK K
    refine wpT_seq_reg (fun K hK => ?_)
    refine opsL_cons rfl (fun K1 hK1 => ?_)
    simp only [execOp, uponT, resolve, Deferred.ofValue, invoke, builtin, asBool, Instr.makeFunc, Instr.extract, sx, Act.put, Act.eval, nrm]
    refine hK1 _ _ _ ?_; clear hK1 K1
    refine opsL_cons rfl (fun K1 hK1 => ?_)
    simp only [execOp, uponT, resolve, Deferred.ofValue, invoke, builtin, asBool, Instr.makeFunc, Instr.extract, sx, Act.put, Act.eval, nrm]
    refine semS_makeInts Tryd.underlying60 info3 size3 bytes3 zero3 agn (by omega) _ (fun Bf csf hf1 hf2 hfi hsf => ?_)
    refine hK1 _ _ _ ?_; clear hK1 K1
    refine opsL_cons rfl (fun K1 hK1 => ?_)
    simp only [execOp, uponT, resolve, Deferred.ofValue, invoke, builtin, asBool, Instr.makeFunc, Instr.extract, sx, Act.put, Act.eval, nrm]
    refine hK1 _ _ _ ?_; clear hK1 K1
    refine opsL_nil (hK _ _ _ ?_); clear hK K
    refine wpT_seq_reg (fun K hK => ?_)
    refine opsL_cons rfl (fun K1 hK1 => ?_)
    simp only [execOp, uponT, resolve, Deferred.ofValue, invoke, builtin, asBool, Instr.makeFunc, Instr.extract, sx, Act.put, Act.eval, nrm, semS_alloc info61 zero61, Value.cells]
    intro bc hc1 hc2
    refine hK1 _ _ _ ?_; clear hK1 K1
    refine opsL_nil (hK _ _ _ ?_); clear hK K
    have pm0 := pm_start H bl bo B Bf bc hl1 hl2 hB1 hB2 ho1 ho2 hf1 hf2 hc1 hc2 hls hfar capA rfl rfl hF hsB hfi hsf
    generalize hH0 : (((((H.set bl (.cells #[.slice aL ls.length capA] 23 (0, 0))).set B (.cells csB 37 (0, 0))).set bo (.cells #[.slice (some ⟨B, 0, none⟩) ls.length ls.length] 33 (0, 0))).set Bf (.cells csf 3 (0, 0))).set bc (.cells #[.slice none 0 0] 61 (0, 0))) = Hp0 at pm0 ⊢
    clear hH0 hle1 hgr1 hls1 hlb hlc hl1 hl2 hB1 hB2 ho1 ho2 hf1 hf2 hc1 hc2 hF hsB hfi hsf csB csf
    obtain ⟨capL, hbl⟩ := pm0.hl
    have hblc : Hp0.cell ⟨bl, 0, none⟩ = some (.slice aL ls.length capL) := (cell_own hbl 0).trans rfl
    refine wpT_seq ?_
    refine wpT_seq_reg (fun K hK => ?_)
    refine opsL_cons rfl (fun K1 hK1 => ?_)
    simp only [execOp, uponT, resolve, Deferred.ofValue, invoke, builtin, asBool, Instr.makeFunc, Instr.extract, sx, Act.put, Act.eval, nrm, semS_loadAt one23 hblc]
    refine hK1 _ _ _ ?_; clear hK1 K1
    refine opsL_cons rfl (fun K1 hK1 => ?_)
    simp only [execOp, uponT, resolve, Deferred.ofValue, invoke, builtin, asBool, Instr.makeFunc, Instr.extract, sx, Act.put, Act.eval, nrm]
    refine hK1 _ _ _ ?_; clear hK1 K1
    refine opsL_cons rfl (fun K1 hK1 => ?_)
    simp only [execOp, uponT, resolve, Deferred.ofValue, invoke, builtin, asBool, Instr.makeFunc, Instr.extract, sx, Act.put, Act.eval, nrm]
    refine hK1 _ _ _ ?_; clear hK1 K1
    refine opsL_nil (hK _ _ _ ?_); clear hK K
    refine wpT_block_loop (fun a' Hc γc => ∃ (k : Nat) (oB : Option Nat), γc = γ ∧ PM H Hc bl bo B Bf bc oB none 0 none aL ls (List.replicate ls.length (0, 0)) (List.replicate agn 0) (clk0 (ls.take k)) [] ∧ k ≤ ls.length ∧ ∃ S : Nat → Value, a' = ⟨#[.slice aL ls.length capA, .int .i64 agn, .pointer (some ⟨bl, 0, none⟩), S 3, S 4, S 5, S 6, .pointer (some ⟨bo, 0, none⟩), .slice (some ⟨Bf, 0, none⟩) agn agn, .pointer (some ⟨bc, 0, none⟩), S 10, S 11, S 12, S 13, S 14, S 15, S 16, S 17, S 18, S 19, S 20, S 21, S 22, S 23, S 24, S 25, S 26, S 27, S 28, S 29, S 30, S 31, S 32, S 33, .slice aL ls.length capL, .int .i64 ls.length, .int .i64 k, S 37, S 38, S 39, S 40, S 41, S 42, S 43, S 44, S 45, S 46, S 47, S 48, S 49, S 50, S 51, S 52, S 53, S 54, S 55, S 56, S 57, S 58, S 59, S 60, S 61, S 62, S 63, S 64, S 65, S 66, S 67, S 68, S 69, S 70, S 71, S 72, S 73, S 74, S 75, S 76, S 77, S 78, S 79, S 80, S 81, S 82, S 83, S 84, S 85, S 86, S 87, S 88, S 89, S 90, S 91, S 92, S 93, S 94, S 95, S 96, S 97, S 98, S 99, S 100, S 101, S 102, S 103, S 104, S 105, S 106, S 107, S 108, S 109, S 110, S 111, S 112, S 113, S 114, S 115, S 116, S 117, S 118], []⟩) (fun a' _ _ => ls.length - slotNat a' 36) ?_ ?_
    · exact ⟨0, none, rfl, pm0, by omega, slots rfl⟩
    clear pm0 hblc hbl Hp0
    rintro _ Hc γ ⟨k, oB, rfl, pm, hk, S, rfl⟩ Again Out hAgain hOut
    by_cases hkl : k < ls.length
    ·
      have c3 : decide ((k : Int) < (ls.length : Int)) = true := decide_eq_true (by omega)
      have m1 : IntKind.i64.wrap ((k : Int) + 1) = ((k + 1 : Nat) : Int) := wrap_succ _ (by omega)
      obtain ⟨BL, offL, rfl, hT⟩ := pm.hls.resolve_left (by omega)
      have hcl := clk0_length ls k hk
      refine wpT_seq_reg (fun K hK => ?_)
      refine opsL_cons rfl (fun K1 hK1 => ?_)
      simp only [execOp, uponT, resolve, Deferred.ofValue, invoke, builtin, asBool, Instr.makeFunc, Instr.extract, sx, Act.put, Act.eval, nrm, c3]
      refine hK1 _ _ _ ?_; clear hK1 K1
      refine opsL_nil (hK _ _ _ ?_); clear hK K
      refine wpT_seq ?_
      refine wpT_cond (t := true) rfl ?_
      simp only [if_true, if_false, Bool.false_eq_true, reduceIte]
      refine wpT_skip ?_
      simp only [thenT]
      refine wpT_seq ?_
      refine wpT_block ?_
      refine wpT_seq_reg (fun K hK => ?_)
      refine opsL_cons rfl (fun K1 hK1 => ?_)
      simp only [execOp, uponT, resolve, Deferred.ofValue, invoke, builtin, asBool, Instr.makeFunc, Instr.extract, sx, Act.put, Act.eval, nrm, semS_indexAt Tryd.underlying23 info56 _ _ _ _ _ hkl, size56]
      refine hK1 _ _ _ ?_; clear hK1 K1
      refine opsL_cons rfl (fun K1 hK1 => ?_)
      simp only [execOp, uponT, resolve, Deferred.ofValue, invoke, builtin, asBool, Instr.makeFunc, Instr.extract, sx, Act.put, Act.eval, nrm, semS_loadAt3 str56 info56 size56 (hT k hkl).1 (hT k hkl).2.1 (hT k hkl).2.2]
      refine hK1 _ _ _ ?_; clear hK1 K1
      refine opsL_cons rfl (fun K1 hK1 => ?_)
      simp only [execOp, uponT, resolve, Deferred.ofValue, invoke, builtin, asBool, Instr.makeFunc, Instr.extract, sx, Act.put, Act.eval, nrm, semS_alloc info56 zero56]
      intro bx hx1 hx2
      refine hK1 _ _ _ ?_; clear hK1 K1
      refine opsL_cons rfl (fun K1 hK1 => ?_)
      simp only [execOp, uponT, resolve, Deferred.ofValue, invoke, builtin, asBool, Instr.makeFunc, Instr.extract, sx, Act.put, Act.eval, nrm, semS_storeAt3 info56 size56 (set_own_same _ _ _) (off := 0) (show 0 + 2 < (#[Value.int IntKind.i64 0, Value.int IntKind.i64 0, Value.int IntKind.i64 0] : Array Value).size by simp) (x := .int .i64 (ls.getD k default).at_) (y := .int .i64 (ls.getD k default).long) (z := .int .i64 (ls.getD k default).pat) rfl rfl rfl, set_set, Value.cells]
      refine hK1 _ _ _ ?_; clear hK1 K1
      refine opsL_nil (hK _ _ _ ?_); clear hK K
      have pm1 := pm.box ⟨hx1, hx2⟩ (.cells #[.int .i64 (ls.getD k default).at_, .int .i64 (ls.getD k default).long, .int .i64 (ls.getD k default).pat] 56 (0, 0))
      have x0 := (cell_own (pm1.hx _ _ rfl) 0).trans (show _ = some (.int .i64 (ls.getD k default).at_) from rfl)
      refine wpT_seq_reg (fun K hK => ?_)
      refine opsL_cons rfl (fun K1 hK1 => ?_)
      simp only [execOp, uponT, resolve, Deferred.ofValue, invoke, builtin, asBool, Instr.makeFunc, Instr.extract, sx, Act.put, Act.eval, nrm, semS_makeInterface conc63]
      refine hK1 _ _ _ ?_; clear hK1 K1
      refine opsL_cons rfl (fun K1 hK1 => ?_)
      simp only [execOp, uponT, resolve, Deferred.ofValue, invoke, builtin, asBool, Instr.makeFunc, Instr.extract, sx, Act.put, Act.eval, nrm, field56x0, Nat.zero_add]
      refine hK1 _ _ _ ?_; clear hK1 K1
      refine opsL_cons rfl (fun K1 hK1 => ?_)
      simp only [execOp, uponT, resolve, Deferred.ofValue, invoke, builtin, asBool, Instr.makeFunc, Instr.extract, sx, Act.put, Act.eval, nrm, semS_loadAt one3 x0]
      refine hK1 _ _ _ ?_; clear hK1 K1
      refine opsL_cons rfl (fun K1 hK1 => ?_)
      simp only [execOp, uponT, resolve, Deferred.ofValue, invoke, builtin, asBool, Instr.makeFunc, Instr.extract, sx, Act.put, Act.eval, nrm, semS_makeInterface conc3]
      refine hK1 _ _ _ ?_; clear hK1 K1
      refine opsL_cons rfl (fun K1 hK1 => ?_)
      simp only [execOp, uponT, resolve, Deferred.ofValue, invoke, builtin, asBool, Instr.makeFunc, Instr.extract, sx, Act.put, Act.eval, nrm, List.extract_toArray, List.extract_eq_take_drop, List.drop_succ_cons, List.drop_zero, List.take_succ_cons, List.take_zero, List.size_toArray, List.length_cons, List.length_nil, Nat.reduceAdd, Nat.reduceSub, call16]
      refine (hpush_calls Y main _ _ pm1.hc (by omega) _).mono ?_
      rintro _ H3 γ ⟨rfl, rfl, k1, o1, o1', rfl, hk1, hc1⟩
      refine hK1 _ _ _ ?_; clear hK1 K1
      refine opsL_nil (hK _ _ _ ?_); clear hK K
      have pm2 := pm1.clk' hk1 hc1
      have y0 := (cell_own (pm2.hx _ _ rfl) 0).trans (show _ = some (.int .i64 (ls.getD k default).at_) from rfl)
      have y2 := (cell_own (pm2.hx _ _ rfl) 2).trans (show _ = some (.int .i64 (ls.getD k default).pat) from rfl)
      refine wpT_reg (fun K hK => ?_)
      refine opsL_cons rfl (fun K1 hK1 => ?_)
      simp only [execOp, uponT, resolve, Deferred.ofValue, invoke, builtin, asBool, Instr.makeFunc, Instr.extract, sx, Act.put, Act.eval, nrm, semS_makeInterface conc63]
      refine hK1 _ _ _ ?_; clear hK1 K1
      refine opsL_cons rfl (fun K1 hK1 => ?_)
      simp only [execOp, uponT, resolve, Deferred.ofValue, invoke, builtin, asBool, Instr.makeFunc, Instr.extract, sx, Act.put, Act.eval, nrm, field56x0, Nat.zero_add]
      refine hK1 _ _ _ ?_; clear hK1 K1
      refine opsL_cons rfl (fun K1 hK1 => ?_)
      simp only [execOp, uponT, resolve, Deferred.ofValue, invoke, builtin, asBool, Instr.makeFunc, Instr.extract, sx, Act.put, Act.eval, nrm, semS_loadAt one3 y0]
      refine hK1 _ _ _ ?_; clear hK1 K1
      refine opsL_cons rfl (fun K1 hK1 => ?_)
      simp only [execOp, uponT, resolve, Deferred.ofValue, invoke, builtin, asBool, Instr.makeFunc, Instr.extract, sx, Act.put, Act.eval, nrm, field56x2, Nat.zero_add]
      refine hK1 _ _ _ ?_; clear hK1 K1
      refine opsL_cons rfl (fun K1 hK1 => ?_)
      simp only [execOp, uponT, resolve, Deferred.ofValue, invoke, builtin, asBool, Instr.makeFunc, Instr.extract, sx, Act.put, Act.eval, nrm, semS_loadAt one3 y2]
      refine hK1 _ _ _ ?_; clear hK1 K1
      refine opsL_cons rfl (fun K1 hK1 => ?_)
      simp only [execOp, uponT, resolve, Deferred.ofValue, invoke, builtin, asBool, Instr.makeFunc, Instr.extract, sx, Act.put, Act.eval, nrm]
      refine hK1 _ _ _ ?_; clear hK1 K1
      refine opsL_cons rfl (fun K1 hK1 => ?_)
      simp only [execOp, uponT, resolve, Deferred.ofValue, invoke, builtin, asBool, Instr.makeFunc, Instr.extract, sx, Act.put, Act.eval, nrm, semS_makeInterface conc3]
      refine hK1 _ _ _ ?_; clear hK1 K1
      refine opsL_cons rfl (fun K1 hK1 => ?_)
      simp only [execOp, uponT, resolve, Deferred.ofValue, invoke, builtin, asBool, Instr.makeFunc, Instr.extract, sx, Act.put, Act.eval, nrm, List.extract_toArray, List.extract_eq_take_drop, List.drop_succ_cons, List.drop_zero, List.take_succ_cons, List.take_zero, List.size_toArray, List.length_cons, List.length_nil, Nat.reduceAdd, Nat.reduceSub, call16]
      refine (hpush_calls Y main _ _ pm2.hc (by rw [pushL_length]; omega) _).mono ?_
      rintro _ H3 γ ⟨rfl, rfl, k2, o2, o2', rfl, hk2, hc2⟩
      refine hK1 _ _ _ ?_; clear hK1 K1
      refine opsL_nil (hK _ _ _ ?_); clear hK K
      have pm3 := (pm2.clk' hk2 hc2).unbox
      rw [← clk0_take ls k hkl] at pm3
      simp only [thenT, inBlockT]
      refine wpT_reg (fun K hK => ?_)
      refine opsL_cons rfl (fun K1 hK1 => ?_)
      simp only [execOp, uponT, resolve, Deferred.ofValue, invoke, builtin, asBool, Instr.makeFunc, Instr.extract, sx, Act.put, Act.eval, nrm, m1]
      refine hK1 _ _ _ ?_; clear hK1 K1
      refine opsL_cons rfl (fun K1 hK1 => ?_)
      simp only [execOp, uponT, resolve, Deferred.ofValue, invoke, builtin, asBool, Instr.makeFunc, Instr.extract, sx, Act.put, Act.eval, nrm]
      refine hK1 _ _ _ ?_; clear hK1 K1
      refine opsL_nil (hK _ _ _ ?_); clear hK K
      simp only [thenT, inBlockT, loopQ, reduceIte, Nat.reduceEqDiff]
      refine hAgain _ _ _ ?_ ?_
      · exact ⟨k + 1, some k2, rfl, pm3, hkl, slots rfl⟩
      · simp only [slotNat, slotLen, Array.getD_eq_getD_getElem?, List.getElem?_toArray, List.getElem?_cons_succ, List.getElem?_cons_zero, Option.getD_some, Int.toNat_natCast]; omega
    have c3 : decide ((k : Int) < (ls.length : Int)) = false := decide_eq_false (by omega)
    obtain rfl : k = ls.length := by omega
    rw [List.take_length] at pm
    have hcl0 : (clk0 ls).length = 2 * ls.length := by have := clk0_length ls ls.length (Nat.le_refl _); rwa [List.take_length] at this
    refine wpT_seq_reg (fun K hK => ?_)
    refine opsL_cons rfl (fun K1 hK1 => ?_)
    simp only [execOp, uponT, resolve, Deferred.ofValue, invoke, builtin, asBool, Instr.makeFunc, Instr.extract, sx, Act.put, Act.eval, nrm, c3]
    refine hK1 _ _ _ ?_; clear hK1 K1
    refine opsL_nil (hK _ _ _ ?_); clear hK K
    refine wpT_seq ?_
    refine wpT_cond (t := false) rfl ?_
    simp only [if_true, if_false, Bool.false_eq_true, reduceIte]
    refine wpT_exit ?_
    simp only [thenT, inBlockT, loopQ, reduceIte, Nat.reduceEqDiff]
    refine hOut _ _ _ ?_
    simp only [thenT]
    clear hAgain hOut
    refine wpT_seq_reg (fun K hK => ?_)
    refine opsL_cons rfl (fun K1 hK1 => ?_)
    simp only [execOp, uponT, resolve, Deferred.ofValue, invoke, builtin, asBool, Instr.makeFunc, Instr.extract, sx, Act.put, Act.eval, nrm]
    refine hK1 _ _ _ ?_; clear hK1 K1
    refine opsL_nil (hK _ _ _ ?_); clear hK K
    refine wpT_seq_reg (fun K hK => ?_)
    refine opsL_cons rfl (fun K1 hK1 => ?_)
    simp only [execOp, uponT, resolve, Deferred.ofValue, invoke, builtin, asBool, Instr.makeFunc, Instr.extract, sx, Act.put, Act.eval, nrm]
    refine hK1 _ _ _ ?_; clear hK1 K1
    refine opsL_nil (hK _ _ _ ?_); clear hK K
    refine wpT_seq_loop (fun a' Hc γc => ∃ (f : Nat) (oB : Option Nat) (aw : Option Addr) (capw : Nat) (clk free : List Int) (wait : List Nat) (next : Nat) (out : List (Int × Int)), γc = γ ∧ PM H Hc bl bo B Bf bc oB aw capw none aL ls out free clk wait ∧ free.length = agn ∧ next ≤ ls.length ∧ (∀ x, x ∈ wait → x < ls.length) ∧ clk.length + (ls.length - next) + wait.length < f ∧ f ≤ 3 * ls.length + 1 ∧ playF ls f clk wait next free out = playF ls (3 * ls.length + 1) (clk0 ls) [] 0 (List.replicate agn 0) (List.replicate ls.length (0, 0)) ∧ ∃ S : Nat → Value, a' = ⟨#[.slice aL ls.length capA, .int .i64 agn, .pointer (some ⟨bl, 0, none⟩), S 3, S 4, S 5, S 6, .pointer (some ⟨bo, 0, none⟩), .slice (some ⟨Bf, 0, none⟩) agn agn, .pointer (some ⟨bc, 0, none⟩), S 10, S 11, .slice aw wait.length capw, .int .i64 next, S 14, S 15, S 16, S 17, S 18, S 19, S 20, S 21, S 22, S 23, S 24, S 25, S 26, S 27, S 28, S 29, S 30, S 31, S 32, S 33, S 34, S 35, S 36, S 37, S 38, S 39, S 40, S 41, S 42, S 43, S 44, S 45, S 46, S 47, S 48, S 49, S 50, S 51, S 52, S 53, S 54, S 55, S 56, S 57, S 58, S 59, S 60, S 61, S 62, S 63, S 64, S 65, S 66, S 67, S 68, S 69, S 70, S 71, S 72, S 73, S 74, S 75, S 76, S 77, S 78, S 79, S 80, S 81, S 82, S 83, S 84, S 85, S 86, S 87, S 88, S 89, S 90, S 91, S 92, S 93, S 94, S 95, S 96, S 97, S 98, S 99, S 100, S 101, S 102, S 103, S 104, S 105, S 106, S 107, S 108, S 109, S 110, S 111, S 112, S 113, S 114, S 115, S 116, S 117, S 118], []⟩) (fun a' Hc _ => clkLen Hc bc + (ls.length - slotNat a' 13) + slotLen a' 12) ?_ ?_
    · exact ⟨3 * ls.length + 1, oB, none, 0, clk0 ls, List.replicate agn 0, [], 0, List.replicate ls.length (0, 0), rfl, pm, List.length_replicate, by omega, fun x hx => (by cases hx), by rw [hcl0, List.length_nil]; omega, by omega, rfl, slots rfl⟩
    clear pm
    rintro _ Hc γ ⟨f, oB, aw, capw, clk, free, wait, next, out, rfl, pm, hfl, hnx, hwt, hfu, hf3, hpl, S, rfl⟩ Again Out hAgain hOut
    have hμ : clkLen Hc bc = clk.length := pm.hc.len
    refine wpT_seq ?_
    obtain ⟨aC, capC, hbc, _⟩ := pm.hc.cell
    have hbcc := (cell_own hbc 0).trans (show _ = some (Value.slice aC clk.length capC) from rfl)
    by_cases hc0 : clk.length = 0
    ·
      have c4 : decide ((clk.length : Int) > 0) = false := decide_eq_false (by omega)
      refine wpT_seq_reg (fun K hK => ?_)
      refine opsL_cons rfl (fun K1 hK1 => ?_)
      simp only [execOp, uponT, resolve, Deferred.ofValue, invoke, builtin, asBool, Instr.makeFunc, Instr.extract, sx, Act.put, Act.eval, nrm, semS_loadAt one61 hbcc]
      refine hK1 _ _ _ ?_; clear hK1 K1
      refine opsL_cons rfl (fun K1 hK1 => ?_)
      simp only [execOp, uponT, resolve, Deferred.ofValue, invoke, builtin, asBool, Instr.makeFunc, Instr.extract, sx, Act.put, Act.eval, nrm, List.extract_toArray, List.extract_eq_take_drop, List.drop_succ_cons, List.drop_zero, List.take_succ_cons, List.take_zero, List.size_toArray, List.length_cons, List.length_nil, Nat.reduceAdd, Nat.reduceSub, call17]
      refine (len_calls Y main _ _ _ _ _).mono ?_
      rintro _ H3 γ ⟨rfl, rfl, rfl⟩
      refine hK1 _ _ _ ?_; clear hK1 K1
      refine opsL_cons rfl (fun K1 hK1 => ?_)
      simp only [execOp, uponT, resolve, Deferred.ofValue, invoke, builtin, asBool, Instr.makeFunc, Instr.extract, sx, Act.put, Act.eval, nrm, c4]
      refine hK1 _ _ _ ?_; clear hK1 K1
      refine opsL_nil (hK _ _ _ ?_); clear hK K
      refine wpT_cond (t := false) rfl ?_
      simp only [if_true, if_false, Bool.false_eq_true, reduceIte]
      refine wpT_exit ?_
      simp only [thenT, inBlockT, loopQ, reduceIte, Nat.reduceEqDiff]
      refine hOut _ _ _ ?_
      clear hAgain hOut
      rw [playF_stop _ _ _ _ _ _ _ hc0] at hpl
      rw [← hpl] at hR
      obtain ⟨csB, hB, hF, hsB⟩ := pm.hB
      have hboc := (cell_own pm.ho 0).trans (show _ = some (Value.slice (some ⟨B, 0, none⟩) out.length out.length) from rfl)
      refine wpT_seq_reg (fun K hK => ?_)
      refine opsL_cons rfl (fun K1 hK1 => ?_)
      simp only [execOp, uponT, resolve, Deferred.ofValue, invoke, builtin, asBool, Instr.makeFunc, Instr.extract, sx, Act.put, Act.eval, nrm, semS_loadAt one33 hboc]
      refine hK1 _ _ _ ?_; clear hK1 K1
      refine opsL_cons rfl (fun K1 hK1 => ?_)
      simp only [execOp, uponT, resolve, Deferred.ofValue, invoke, builtin, asBool, Instr.makeFunc, Instr.extract, sx, Act.put, Act.eval, nrm]
      refine hK1 _ _ _ ?_; clear hK1 K1
      refine opsL_cons rfl (fun K1 hK1 => ?_)
      simp only [execOp, uponT, resolve, Deferred.ofValue, invoke, builtin, asBool, Instr.makeFunc, Instr.extract, sx, Act.put, Act.eval, nrm]
      refine hK1 _ _ _ ?_; clear hK1 K1
      refine opsL_nil (hK _ _ _ ?_); clear hK K
      refine wpT_ret (hless _ _ _ _ _ (less_set_own pm.less hB) (hret _ _ _ (bodyPost_ret2 rfl ?_)))
      rw [hR]
      exact ⟨rfl, B, csB, pm.new.2.2.1, rfl, rfl, hF, hsB⟩
    have c4 : decide ((clk.length : Int) > 0) = true := decide_eq_true (by omega)
    obtain ⟨f, rfl⟩ : ∃ f', f = f' + 1 := ⟨f - 1, by omega⟩
    rw [playF_go _ _ _ _ _ _ _ hc0] at hpl
    obtain ⟨kB, rfl⟩ : ∃ kB, oB = some kB := by
      cases oB with
      | none => have := pm.hc.2; rw [this] at hc0; exact absurd rfl hc0
      | some k => exact ⟨k, rfl⟩
    refine wpT_seq_reg (fun K hK => ?_)
    refine opsL_cons rfl (fun K1 hK1 => ?_)
    simp only [execOp, uponT, resolve, Deferred.ofValue, invoke, builtin, asBool, Instr.makeFunc, Instr.extract, sx, Act.put, Act.eval, nrm, semS_loadAt one61 hbcc]
    refine hK1 _ _ _ ?_; clear hK1 K1
    refine opsL_cons rfl (fun K1 hK1 => ?_)
    simp only [execOp, uponT, resolve, Deferred.ofValue, invoke, builtin, asBool, Instr.makeFunc, Instr.extract, sx, Act.put, Act.eval, nrm, List.extract_toArray, List.extract_eq_take_drop, List.drop_succ_cons, List.drop_zero, List.take_succ_cons, List.take_zero, List.size_toArray, List.length_cons, List.length_nil, Nat.reduceAdd, Nat.reduceSub, call17]
    refine (len_calls Y main _ _ _ _ _).mono ?_
    rintro _ H3 γ ⟨rfl, rfl, rfl⟩
    refine hK1 _ _ _ ?_; clear hK1 K1
    refine opsL_cons rfl (fun K1 hK1 => ?_)
    simp only [execOp, uponT, resolve, Deferred.ofValue, invoke, builtin, asBool, Instr.makeFunc, Instr.extract, sx, Act.put, Act.eval, nrm, c4]
    refine hK1 _ _ _ ?_; clear hK1 K1
    refine opsL_nil (hK _ _ _ ?_); clear hK K
    refine wpT_cond (t := true) rfl ?_
    simp only [if_true, if_false, Bool.false_eq_true, reduceIte]
    refine wpT_skip ?_
    simp only [thenT]
    refine wpT_block ?_
    refine wpT_seq_reg (fun K hK => ?_)
    refine opsL_cons rfl (fun K1 hK1 => ?_)
    simp only [execOp, uponT, resolve, Deferred.ofValue, invoke, builtin, asBool, Instr.makeFunc, Instr.extract, sx, Act.put, Act.eval, nrm, semS_makeInterface conc63]
    refine hK1 _ _ _ ?_; clear hK1 K1
    refine opsL_cons rfl (fun K1 hK1 => ?_)
    simp only [execOp, uponT, resolve, Deferred.ofValue, invoke, builtin, asBool, Instr.makeFunc, Instr.extract, sx, Act.put, Act.eval, nrm, List.extract_toArray, List.extract_eq_take_drop, List.drop_succ_cons, List.drop_zero, List.take_succ_cons, List.take_zero, List.size_toArray, List.length_cons, List.length_nil, Nat.reduceAdd, Nat.reduceSub, call18]
    refine (hpop_calls Y main _ _ pm.hc (by omega)).mono ?_
    rintro _ H3 γ ⟨rfl, rfl, o1, o1', rfl, hc1⟩
    refine hK1 _ _ _ ?_; clear hK1 K1
    refine opsL_cons rfl (fun K1 hK1 => ?_)
    simp only [execOp, uponT, resolve, Deferred.ofValue, invoke, builtin, asBool, Instr.makeFunc, Instr.extract, sx, Act.put, Act.eval, nrm, semS_typeAssert conc3]
    refine hK1 _ _ _ ?_; clear hK1 K1
    refine opsL_cons rfl (fun K1 hK1 => ?_)
    simp only [execOp, uponT, resolve, Deferred.ofValue, invoke, builtin, asBool, Instr.makeFunc, Instr.extract, sx, Act.put, Act.eval, nrm, semS_alloc info3 zero3, Value.cells]
    intro bn hn1 hn2
    refine hK1 _ _ _ ?_; clear hK1 K1
    refine opsL_cons rfl (fun K1 hK1 => ?_)
    simp only [execOp, uponT, resolve, Deferred.ofValue, invoke, builtin, asBool, Instr.makeFunc, Instr.extract, sx, Act.put, Act.eval, nrm, semS_storeAt info3 size3 (set_own_same _ _ _) (off := 0) (show 0 < (#[Value.int IntKind.i64 0] : Array Value).size by simp) (v := .int .i64 (popV clk)) rfl, set_set]
    refine hK1 _ _ _ ?_; clear hK1 K1
    refine opsL_nil (hK _ _ _ ?_); clear hK K
    have pm1 := (pm.clk' (.inl rfl) hc1).box ⟨hn1, hn2⟩ (.cells #[.int .i64 (popV clk)] 3 (0, 0))
    have hpl1 : (popL clk).length + 1 = clk.length := by rw [popL_length]; omega
    generalize popV clk = now at *
    generalize popL clk = clk1 at *
    generalize (((Hc.set kB o1).set bc o1').set bn (.cells #[.int .i64 now] 3 (0, 0))) = Hd at *
    clear hbcc hbc hn1 hn2 hc1 pm
    have hti := takeIn_ok ls now ls.length wait next hnx hwt
    refine wpT_seq_mid (fun a' He γc => ∃ (aw' : Option Addr) (capw' : Nat) (w' : List Nat) (n' : Nat), γc = γ ∧ PM H He bl bo B Bf bc (some kB) aw' capw' (some (bn, .cells #[.int .i64 now] 3 (0, 0))) aL ls out free clk1 w' ∧ takeIn ls now ls.length wait next = (w', n') ∧ ∃ S : Nat → Value, a' = ⟨#[.slice aL ls.length capA, .int .i64 agn, .pointer (some ⟨bl, 0, none⟩), S 3, S 4, S 5, S 6, .pointer (some ⟨bo, 0, none⟩), .slice (some ⟨Bf, 0, none⟩) agn agn, .pointer (some ⟨bc, 0, none⟩), S 10, S 11, .slice aw' w'.length capw', .int .i64 n', .pointer (some ⟨bn, 0, none⟩), S 15, S 16, S 17, S 18, S 19, S 20, S 21, S 22, S 23, S 24, S 25, S 26, S 27, S 28, S 29, S 30, S 31, S 32, S 33, S 34, S 35, S 36, S 37, S 38, S 39, S 40, S 41, S 42, S 43, S 44, S 45, S 46, S 47, S 48, S 49, S 50, S 51, S 52, S 53, S 54, S 55, S 56, S 57, S 58, S 59, S 60, S 61, S 62, S 63, S 64, S 65, S 66, S 67, S 68, S 69, S 70, S 71, S 72, S 73, S 74, S 75, S 76, S 77, S 78, S 79, S 80, S 81, S 82, S 83, S 84, S 85, S 86, S 87, S 88, S 89, S 90, S 91, S 92, S 93, S 94, S 95, S 96, S 97, S 98, S 99, S 100, S 101, S 102, S 103, S 104, S 105, S 106, S 107, S 108, S 109, S 110, S 111, S 112, S 113, S 114, S 115, S 116, S 117, S 118], []⟩) ?_ ?_
    ·
      refine wpT_block_loop (fun a' He γc => ∃ (g : Nat) (aw' : Option Addr) (capw' : Nat) (w' : List Nat) (n' : Nat), γc = γ ∧ PM H He bl bo B Bf bc (some kB) aw' capw' (some (bn, .cells #[.int .i64 now] 3 (0, 0))) aL ls out free clk1 w' ∧ takeIn ls now ls.length wait next = takeIn ls now g w' n' ∧ n' ≤ ls.length ∧ ls.length - n' ≤ g ∧ w'.length + (ls.length - n') = wait.length + (ls.length - next) ∧ ∃ S : Nat → Value, a' = ⟨#[.slice aL ls.length capA, .int .i64 agn, .pointer (some ⟨bl, 0, none⟩), S 3, S 4, S 5, S 6, .pointer (some ⟨bo, 0, none⟩), .slice (some ⟨Bf, 0, none⟩) agn agn, .pointer (some ⟨bc, 0, none⟩), S 10, S 11, .slice aw' w'.length capw', .int .i64 n', .pointer (some ⟨bn, 0, none⟩), S 15, S 16, S 17, S 18, S 19, S 20, S 21, S 22, S 23, S 24, S 25, S 26, S 27, S 28, S 29, S 30, S 31, S 32, S 33, S 34, S 35, S 36, S 37, S 38, S 39, S 40, S 41, S 42, S 43, S 44, S 45, S 46, S 47, S 48, S 49, S 50, S 51, S 52, S 53, S 54, S 55, S 56, S 57, S 58, S 59, S 60, S 61, S 62, S 63, S 64, S 65, S 66, S 67, S 68, S 69, S 70, S 71, S 72, S 73, S 74, S 75, S 76, S 77, S 78, S 79, S 80, S 81, S 82, S 83, S 84, S 85, S 86, S 87, S 88, S 89, S 90, S 91, S 92, S 93, S 94, S 95, S 96, S 97, S 98, S 99, S 100, S 101, S 102, S 103, S 104, S 105, S 106, S 107, S 108, S 109, S 110, S 111, S 112, S 113, S 114, S 115, S 116, S 117, S 118], []⟩) (fun a' _ _ => ls.length - slotNat a' 13) ?_ ?_
      · exact ⟨ls.length, aw, capw, wait, next, rfl, pm1, rfl, hnx, by omega, rfl, slots rfl⟩
      clear hAgain hOut
      rintro _ He γ ⟨g, aw', capw', w', n', rfl, pm, hta, hn', hg, hwn, S, rfl⟩ Again Out hAgain hOut
      obtain ⟨capL', hbl⟩ := pm.hl
      have hblc : He.cell ⟨bl, 0, none⟩ = some (.slice aL ls.length capL') := (cell_own hbl 0).trans rfl
      have hnc := (cell_own (pm.hx _ _ rfl) 0).trans (show _ = some (Value.int .i64 now) from rfl)
      by_cases hnl : n' < ls.length
      ·
        have c5 : decide ((n' : Int) < (ls.length : Int)) = true := decide_eq_true (by omega)
        obtain ⟨BL, offL, rfl, hT⟩ := pm.hls.resolve_left (by omega)
        refine wpT_seq ?_
        refine wpT_seq_quiet mixed (by kernel_rfl) (by kernel_rfl) (fun K hK => ?_)
        apply quietL_cons
        · rfl
        · intro K1 hK1
          simp only [execOp, uponT, resolve, Deferred.ofValue, invoke, builtin, asBool, Instr.makeFunc, Instr.extract, sx, Act.put, Act.eval, nrm]
          exact hK1
        simp only [Act.put, Act.eval, nrm]
        apply quietL_cons
        · rfl
        · intro K1 hK1
          simp only [execOp, uponT, resolve, Deferred.ofValue, invoke, builtin, asBool, Instr.makeFunc, Instr.extract, sx, Act.put, Act.eval, nrm, semS_loadAt one23 hblc]
          exact hK1
        simp only [Act.put, Act.eval, nrm]
        apply quietL_cons
        · rfl
        · intro K1 hK1
          simp only [execOp, uponT, resolve, Deferred.ofValue, invoke, builtin, asBool, Instr.makeFunc, Instr.extract, sx, Act.put, Act.eval, nrm]
          exact hK1
        simp only [Act.put, Act.eval, nrm]
        apply quietL_cons
        · rfl
        · intro K1 hK1
          simp only [execOp, uponT, resolve, Deferred.ofValue, invoke, builtin, asBool, Instr.makeFunc, Instr.extract, sx, Act.put, Act.eval, nrm, c5]
          exact hK1
        simp only [Act.put, Act.eval, nrm]
        apply quietL_cons
        · rfl
        · intro K1 hK1
          simp only [execOp, uponT, resolve, Deferred.ofValue, invoke, builtin, asBool, Instr.makeFunc, Instr.extract, sx, Act.put, Act.eval, nrm]
          exact hK1
        simp only [Act.put, Act.eval, nrm]
        apply quietL_cons
        · rfl
        · intro K1 hK1
          simp only [execOp, uponT, resolve, Deferred.ofValue, invoke, builtin, asBool, Instr.makeFunc, Instr.extract, sx, Act.put, Act.eval, nrm, semS_loadAt one23 hblc]
          exact hK1
        simp only [Act.put, Act.eval, nrm]
        apply quietL_cons
        · rfl
        · intro K1 hK1
          simp only [execOp, uponT, resolve, Deferred.ofValue, invoke, builtin, asBool, Instr.makeFunc, Instr.extract, sx, Act.put, Act.eval, nrm]
          exact hK1
        simp only [Act.put, Act.eval, nrm]
        apply quietL_cons
        · rfl
        · intro K1 hK1
          simp only [execOp, uponT, resolve, Deferred.ofValue, invoke, builtin, asBool, Instr.makeFunc, Instr.extract, sx, Act.put, Act.eval, nrm, semS_indexAt Tryd.underlying23 info56 _ _ _ _ _ hnl, size56]
          exact hK1
        simp only [Act.put, Act.eval, nrm]
        apply quietL_cons
        · rfl
        · intro K1 hK1
          simp only [execOp, uponT, resolve, Deferred.ofValue, invoke, builtin, asBool, Instr.makeFunc, Instr.extract, sx, Act.put, Act.eval, nrm, field56x0, Nat.add_zero]
          exact hK1
        simp only [Act.put, Act.eval, nrm]
        apply quietL_cons
        · rfl
        · intro K1 hK1
          simp only [execOp, uponT, resolve, Deferred.ofValue, invoke, builtin, asBool, Instr.makeFunc, Instr.extract, sx, Act.put, Act.eval, nrm, semS_loadAt one3 (hT n' hnl).1]
          exact hK1
        simp only [Act.put, Act.eval, nrm]
        apply quietL_cons
        · rfl
        · intro K1 hK1
          simp only [execOp, uponT, resolve, Deferred.ofValue, invoke, builtin, asBool, Instr.makeFunc, Instr.extract, sx, Act.put, Act.eval, nrm, semS_loadAt one3 hnc]
          exact hK1
        simp only [Act.put, Act.eval, nrm]
        apply quietL_cons
        · rfl
        · intro K1 hK1
          simp only [execOp, uponT, resolve, Deferred.ofValue, invoke, builtin, asBool, Instr.makeFunc, Instr.extract, sx, Act.put, Act.eval, nrm]
          exact hK1
        simp only [Act.put, Act.eval, nrm]
        apply quietL_cons
        · rfl
        · intro K1 hK1
          simp only [execOp, uponT, resolve, Deferred.ofValue, invoke, builtin, asBool, Instr.makeFunc, Instr.extract, sx, Act.put, Act.eval, nrm, if_true]
          exact hK1
        simp only [Act.put, Act.eval, nrm]
        refine quietL_nil (hK _ ?_); clear hK K
        by_cases hat : (ls.getD n' default).at_ ≤ now
        ·
          have c6 : decide ((ls.getD n' default).at_ ≤ now) = true := decide_eq_true hat
          simp only [c6]
          have m2 : IntKind.i64.wrap ((n' : Int) + 1) = ((n' + 1 : Nat) : Int) := wrap_succ _ (by omega)
          obtain ⟨g, rfl⟩ : ∃ g', g = g' + 1 := ⟨g - 1, by omega⟩
          rw [takeIn, if_pos ⟨hnl, hat⟩] at hta
          have q1 : ls.length - (n' + 1) ≤ g := by omega
          have q2 : (w' ++ [n']).length + (ls.length - (n' + 1)) = wait.length + (ls.length - next) := by rw [List.length_append, List.length_singleton]; omega
          have q3 : w'.length < 256 := by omega
          have q4 : ls.length - (n' + 1) < ls.length - n' := by omega
          refine wpT_cond (t := true) rfl ?_
          simp only [if_true, if_false, Bool.false_eq_true, reduceIte]
          refine wpT_skip ?_
          simp only [thenT]
          refine wpT_block ?_
          refine wpT_seq_reg (fun K hK => ?_)
          refine opsL_cons rfl (fun K1 hK1 => ?_)
          simp only [execOp, uponT, resolve, Deferred.ofValue, invoke, builtin, asBool, Instr.makeFunc, Instr.extract, sx, Act.put, Act.eval, nrm]
          refine hK1 _ _ _ ?_; clear hK1 K1
          refine opsL_cons rfl (fun K1 hK1 => ?_)
          simp only [execOp, uponT, resolve, Deferred.ofValue, invoke, builtin, asBool, Instr.makeFunc, Instr.extract, sx, Act.put, Act.eval, nrm]
          refine hK1 _ _ _ ?_; clear hK1 K1
          refine opsL_cons rfl (fun K1 hK1 => ?_)
          simp only [execOp, uponT, resolve, Deferred.ofValue, invoke, builtin, asBool, Instr.makeFunc, Instr.extract, sx, Act.put, Act.eval, nrm, semS_lit1 Tryd.underlying60 info3 size3 zero3]
          intro g1 hg1 hg2
          refine hK1 _ _ _ ?_; clear hK1 K1
          refine opsL_cons rfl (fun K1 hK1 => ?_)
          simp only [execOp, uponT, resolve, Deferred.ofValue, invoke, builtin, asBool, Instr.makeFunc, Instr.extract, sx, Act.put, Act.eval, nrm]
          rw [← nI_length w']
          refine semS_append Tryd.underlying60 info3 size3 bytes3 zero3 _ (pm.hw.grow _ hg1) (by rw [nI_length]; exact q3) (by rw [cell_own (set_own_same _ _ _)]; rfl) _ (fun Bn off cap' cs t h1 h2 h3 h4 => ?_)
          simp only [nI_length] at h4 ⊢
          refine hK1 _ _ _ ?_; clear hK1 K1
          refine opsL_less (less_of_set _ (less_set _ hg1)) ?_
          have hnew : (∃ x, aw' = some x ∧ x.block = Bn) ∨ New He Bn := by
            rcases h1 with h1 | ⟨_, h1, h1'⟩
            · exact .inl ⟨_, h1, rfl⟩
            · refine .inr ⟨?_, h1'⟩
              have hne : Bn ≠ g1 := by rintro rfl; rw [set_own_same] at h1; cases h1
              rwa [set_own_ne _ _ hne] at h1
          have pm2 := pm.wait' (n := Bn) (off := off) (capw' := cap') (o := .cells cs t (0, 0)) (wait' := w' ++ [n']) hnew (.inr ⟨Bn, off, cs, t, rfl, set_own_same _ _ _, by rw [nI, List.map_append]; exact h2, h3, by rw [nI_length, List.length_append, List.length_singleton]; exact h4⟩)
          refine opsL_cons rfl (fun K1 hK1 => ?_)
          simp only [execOp, uponT, resolve, Deferred.ofValue, invoke, builtin, asBool, Instr.makeFunc, Instr.extract, sx, Act.put, Act.eval, nrm]
          refine hK1 _ _ _ ?_; clear hK1 K1
          refine opsL_nil (hK _ _ _ ?_); clear hK K
          rw [show w'.length + 1 = (w' ++ [n']).length by simp]
          refine wpT_reg (fun K hK => ?_)
          refine opsL_cons rfl (fun K1 hK1 => ?_)
          simp only [execOp, uponT, resolve, Deferred.ofValue, invoke, builtin, asBool, Instr.makeFunc, Instr.extract, sx, Act.put, Act.eval, nrm]
          refine hK1 _ _ _ ?_; clear hK1 K1
          refine opsL_cons rfl (fun K1 hK1 => ?_)
          simp only [execOp, uponT, resolve, Deferred.ofValue, invoke, builtin, asBool, Instr.makeFunc, Instr.extract, sx, Act.put, Act.eval, nrm, m2]
          refine hK1 _ _ _ ?_; clear hK1 K1
          refine opsL_cons rfl (fun K1 hK1 => ?_)
          simp only [execOp, uponT, resolve, Deferred.ofValue, invoke, builtin, asBool, Instr.makeFunc, Instr.extract, sx, Act.put, Act.eval, nrm]
          refine hK1 _ _ _ ?_; clear hK1 K1
          refine opsL_nil (hK _ _ _ ?_); clear hK K
          simp only [thenT, inBlockT, loopQ, reduceIte, Nat.reduceEqDiff]
          refine hAgain _ _ _ ?_ ?_
          · exact ⟨g, _, cap', w' ++ [n'], n' + 1, rfl, pm2, hta, hnl, q1, q2, slots rfl⟩
          · simp only [slotNat, slotLen, Array.getD_eq_getD_getElem?, List.getElem?_toArray, List.getElem?_cons_succ, List.getElem?_cons_zero, Option.getD_some, Int.toNat_natCast]; exact q4
        have c6 : decide ((ls.getD n' default).at_ ≤ now) = false := decide_eq_false hat
        simp only [c6]
        rw [takeIn_stop _ _ _ _ _ (fun h => hat h.2)] at hta
        refine wpT_cond (t := false) rfl ?_
        simp only [if_true, if_false, Bool.false_eq_true, reduceIte]
        refine wpT_exit ?_
        simp only [thenT, inBlockT, loopQ, reduceIte, Nat.reduceEqDiff]
        refine hOut _ _ _ ?_
        exact ⟨aw', capw', w', n', rfl, pm, hta, slots rfl⟩
      have c5 : decide ((n' : Int) < (ls.length : Int)) = false := decide_eq_false (by omega)
      rw [takeIn_stop _ _ _ _ _ (fun h => hnl h.1)] at hta
      refine wpT_seq ?_
      refine wpT_seq_quiet mixed (by kernel_rfl) (by kernel_rfl) (fun K hK => ?_)
      apply quietL_cons
      · rfl
      · intro K1 hK1
        simp only [execOp, uponT, resolve, Deferred.ofValue, invoke, builtin, asBool, Instr.makeFunc, Instr.extract, sx, Act.put, Act.eval, nrm]
        exact hK1
      simp only [Act.put, Act.eval, nrm]
      apply quietL_cons
      · rfl
      · intro K1 hK1
        simp only [execOp, uponT, resolve, Deferred.ofValue, invoke, builtin, asBool, Instr.makeFunc, Instr.extract, sx, Act.put, Act.eval, nrm, semS_loadAt one23 hblc]
        exact hK1
      simp only [Act.put, Act.eval, nrm]
      apply quietL_cons
      · rfl
      · intro K1 hK1
        simp only [execOp, uponT, resolve, Deferred.ofValue, invoke, builtin, asBool, Instr.makeFunc, Instr.extract, sx, Act.put, Act.eval, nrm]
        exact hK1
      simp only [Act.put, Act.eval, nrm]
      apply quietL_cons
      · rfl
      · intro K1 hK1
        simp only [execOp, uponT, resolve, Deferred.ofValue, invoke, builtin, asBool, Instr.makeFunc, Instr.extract, sx, Act.put, Act.eval, nrm, c5]
        exact hK1
      simp only [Act.put, Act.eval, nrm]
      apply quietL_cons
      · rfl
      · intro K1 hK1
        simp only [execOp, uponT, resolve, Deferred.ofValue, invoke, builtin, asBool, Instr.makeFunc, Instr.extract, sx, Act.put, Act.eval, nrm]
        exact hK1
      simp only [Act.put, Act.eval, nrm]
      refine quietL_unwanted rfl ?_
      simp only [Act.put, Act.eval, nrm]
      refine quietL_unwanted rfl ?_
      simp only [Act.put, Act.eval, nrm]
      refine quietL_unwanted rfl ?_
      simp only [Act.put, Act.eval, nrm]
      refine quietL_unwanted rfl ?_
      simp only [Act.put, Act.eval, nrm]
      refine quietL_unwanted rfl ?_
      simp only [Act.put, Act.eval, nrm]
      refine quietL_unwanted rfl ?_
      simp only [Act.put, Act.eval, nrm]
      refine quietL_unwanted rfl ?_
      simp only [Act.put, Act.eval, nrm]
      apply quietL_cons
      · rfl
      · intro K1 hK1
        simp only [execOp, uponT, resolve, Deferred.ofValue, invoke, builtin, asBool, Instr.makeFunc, Instr.extract, sx, Act.put, Act.eval, nrm, Bool.false_eq_true, if_false]
        exact hK1
      simp only [Act.put, Act.eval, nrm]
      refine quietL_nil (hK _ ?_); clear hK K
      refine wpT_cond (t := false) rfl ?_
      simp only [if_true, if_false, Bool.false_eq_true, reduceIte]
      refine wpT_exit ?_
      simp only [thenT, inBlockT, loopQ, reduceIte, Nat.reduceEqDiff]
      refine hOut _ _ _ ?_
      exact ⟨aw', capw', w', n', rfl, pm, hta, slots rfl⟩
    clear pm1
    rintro _ Hd γ ⟨aw, capw, w1, n1, rfl, pm1, hta, S, rfl⟩
    rw [hta] at hti hpl
    simp only [] at hti hpl
    obtain ⟨hn1, hw1, hsum⟩ := hti
    have hso := serve_ok ls now w1 clk1 free out hw1
    refine wpT_seq_mid (fun a' He γc => ∃ (kB : Nat) (aw' : Option Addr) (capw' : Nat) (w' : List Nat) (clk' free' : List Int) (out' : List (Int × Int)), γc = γ ∧ PM H He bl bo B Bf bc (some kB) aw' capw' (some (bn, .cells #[.int .i64 now] 3 (0, 0))) aL ls out' free' clk' w' ∧ serve ls now w1 clk1 free out = ⟨w', clk', free', out'⟩ ∧ ∃ S : Nat → Value, a' = ⟨#[.slice aL ls.length capA, .int .i64 agn, .pointer (some ⟨bl, 0, none⟩), S 3, S 4, S 5, S 6, .pointer (some ⟨bo, 0, none⟩), .slice (some ⟨Bf, 0, none⟩) agn agn, .pointer (some ⟨bc, 0, none⟩), S 10, S 11, .slice aw' w'.length capw', .int .i64 n1, .pointer (some ⟨bn, 0, none⟩), S 15, S 16, S 17, S 18, S 19, S 20, S 21, S 22, S 23, S 24, S 25, S 26, S 27, S 28, S 29, S 30, S 31, S 32, S 33, S 34, S 35, S 36, S 37, S 38, S 39, S 40, S 41, S 42, S 43, S 44, S 45, S 46, S 47, S 48, S 49, S 50, S 51, S 52, S 53, S 54, S 55, S 56, S 57, S 58, S 59, S 60, S 61, S 62, S 63, S 64, S 65, S 66, S 67, S 68, S 69, S 70, S 71, S 72, S 73, S 74, S 75, S 76, S 77, S 78, S 79, S 80, S 81, S 82, S 83, S 84, S 85, S 86, S 87, S 88, S 89, S 90, S 91, S 92, S 93, S 94, S 95, S 96, S 97, S 98, S 99, S 100, S 101, S 102, S 103, S 104, S 105, S 106, S 107, S 108, S 109, S 110, S 111, S 112, S 113, S 114, S 115, S 116, S 117, S 118], []⟩) ?_ ?_
    ·
      refine wpT_block_loop (fun a' He γc => ∃ (kB : Nat) (aw' : Option Addr) (capw' : Nat) (w' : List Nat) (clk' free' : List Int) (out' : List (Int × Int)), γc = γ ∧ PM H He bl bo B Bf bc (some kB) aw' capw' (some (bn, .cells #[.int .i64 now] 3 (0, 0))) aL ls out' free' clk' w' ∧ serve ls now w1 clk1 free out = serve ls now w' clk' free' out' ∧ free'.length = agn ∧ clk'.length + w'.length = clk1.length + w1.length ∧ (∀ x, x ∈ w' → x < ls.length) ∧ ∃ S : Nat → Value, a' = ⟨#[.slice aL ls.length capA, .int .i64 agn, .pointer (some ⟨bl, 0, none⟩), S 3, S 4, S 5, S 6, .pointer (some ⟨bo, 0, none⟩), .slice (some ⟨Bf, 0, none⟩) agn agn, .pointer (some ⟨bc, 0, none⟩), S 10, S 11, .slice aw' w'.length capw', .int .i64 n1, .pointer (some ⟨bn, 0, none⟩), S 15, S 16, S 17, S 18, S 19, S 20, S 21, S 22, S 23, S 24, S 25, S 26, S 27, S 28, S 29, S 30, S 31, S 32, S 33, S 34, S 35, S 36, S 37, S 38, S 39, S 40, S 41, S 42, S 43, S 44, S 45, S 46, S 47, S 48, S 49, S 50, S 51, S 52, S 53, S 54, S 55, S 56, S 57, S 58, S 59, S 60, S 61, S 62, S 63, S 64, S 65, S 66, S 67, S 68, S 69, S 70, S 71, S 72, S 73, S 74, S 75, S 76, S 77, S 78, S 79, S 80, S 81, S 82, S 83, S 84, S 85, S 86, S 87, S 88, S 89, S 90, S 91, S 92, S 93, S 94, S 95, S 96, S 97, S 98, S 99, S 100, S 101, S 102, S 103, S 104, S 105, S 106, S 107, S 108, S 109, S 110, S 111, S 112, S 113, S 114, S 115, S 116, S 117, S 118], []⟩) (fun a' _ _ => slotLen a' 12) ?_ ?_
      · exact ⟨kB, aw, capw, w1, clk1, free, out, rfl, pm1, rfl, hfl, rfl, hw1, slots rfl⟩
      clear hAgain hOut pm1
      rintro _ He γ ⟨kB, aw', capw', w', clk', free', out', rfl, pm, hsv, hfl', hcw, hw', S, rfl⟩ Again Out hAgain hOut
      have hnc := (cell_own (pm.hx _ _ rfl) 0).trans (show _ = some (Value.int .i64 now) from rfl)
      cases w' with
      | nil =>
        refine wpT_seq ?_
        have c7 : decide ((([] : List Nat).length : Int) > 0) = false := rfl
        refine wpT_seq_reg (fun K hK => ?_)
        refine opsL_cons rfl (fun K1 hK1 => ?_)
        simp only [execOp, uponT, resolve, Deferred.ofValue, invoke, builtin, asBool, Instr.makeFunc, Instr.extract, sx, Act.put, Act.eval, nrm]
        refine hK1 _ _ _ ?_; clear hK1 K1
        refine opsL_cons rfl (fun K1 hK1 => ?_)
        simp only [execOp, uponT, resolve, Deferred.ofValue, invoke, builtin, asBool, Instr.makeFunc, Instr.extract, sx, Act.put, Act.eval, nrm]
        refine hK1 _ _ _ ?_; clear hK1 K1
        refine opsL_cons rfl (fun K1 hK1 => ?_)
        simp only [execOp, uponT, resolve, Deferred.ofValue, invoke, builtin, asBool, Instr.makeFunc, Instr.extract, sx, Act.put, Act.eval, nrm, c7]
        refine hK1 _ _ _ ?_; clear hK1 K1
        refine opsL_nil (hK _ _ _ ?_); clear hK K
        refine wpT_cond (t := false) rfl ?_
        simp only [if_true, if_false, Bool.false_eq_true, reduceIte]
        refine wpT_exit ?_
        simp only [thenT, inBlockT, loopQ, reduceIte, Nat.reduceEqDiff]
        refine hOut _ _ _ ?_
        exact ⟨kB, aw', capw', [], clk', free', out', rfl, pm, hsv, slots rfl⟩
      | cons i rest =>
        have c7 : decide (((i :: rest).length : Int) > 0) = true := decide_eq_true (by rw [List.length_cons]; omega)
        have hil : i < ls.length := hw' i List.mem_cons_self
        have hrl : (i :: rest).length = rest.length + 1 := List.length_cons
        refine wpT_seq ?_
        refine wpT_seq_reg (fun K hK => ?_)
        refine opsL_cons rfl (fun K1 hK1 => ?_)
        simp only [execOp, uponT, resolve, Deferred.ofValue, invoke, builtin, asBool, Instr.makeFunc, Instr.extract, sx, Act.put, Act.eval, nrm]
        refine hK1 _ _ _ ?_; clear hK1 K1
        refine opsL_cons rfl (fun K1 hK1 => ?_)
        simp only [execOp, uponT, resolve, Deferred.ofValue, invoke, builtin, asBool, Instr.makeFunc, Instr.extract, sx, Act.put, Act.eval, nrm]
        refine hK1 _ _ _ ?_; clear hK1 K1
        refine opsL_cons rfl (fun K1 hK1 => ?_)
        simp only [execOp, uponT, resolve, Deferred.ofValue, invoke, builtin, asBool, Instr.makeFunc, Instr.extract, sx, Act.put, Act.eval, nrm, c7]
        refine hK1 _ _ _ ?_; clear hK1 K1
        refine opsL_nil (hK _ _ _ ?_); clear hK K
        refine wpT_cond (t := true) rfl ?_
        simp only [if_true, if_false, Bool.false_eq_true, reduceIte]
        refine wpT_skip ?_
        simp only [thenT]
        refine wpT_block ?_
        obtain ⟨csf, hbf, hfi, hsf⟩ := pm.hf
        have hidx := index_calls Y main He γ (a := some ⟨Bf, 0, none⟩) (cap := agn) (xs := free') 20 #[.pointer (some ⟨bn, 0, none⟩)] (fun H args K => call20 H args K) (fun t => decide (t ≤ now)) (fun _ H' => H' = He) (by omega)
          (.inr ⟨Bf, 0, rfl, fun k H' e hk => by rw [e]; exact hfi.cell (t := 3) (fr := (0, 0)) (look_own hbf) hk⟩)
          (fun k H' hk _ e => by
            subst e
            refine (free_calls Y main H' γ hnc _).mono ?_
            rintro v H'' γ'' ⟨h1, h2, h3⟩
            exact ⟨h1, h2, h3⟩) rfl
        rw [hfl'] at hidx
        refine wpT_seq_reg (fun K hK => ?_)
        refine opsL_cons rfl (fun K1 hK1 => ?_)
        simp only [execOp, uponT, resolve, Deferred.ofValue, invoke, builtin, asBool, Instr.makeFunc, Instr.extract, sx, Act.put, Act.eval, nrm]
        refine hK1 _ _ _ ?_; clear hK1 K1
        refine opsL_cons rfl (fun K1 hK1 => ?_)
        simp only [execOp, uponT, resolve, Deferred.ofValue, invoke, builtin, asBool, Instr.makeFunc, Instr.extract, sx, Act.put, Act.eval, nrm]
        refine hK1 _ _ _ ?_; clear hK1 K1
        refine opsL_cons rfl (fun K1 hK1 => ?_)
        simp only [execOp, uponT, resolve, Deferred.ofValue, invoke, builtin, asBool, Instr.makeFunc, Instr.extract, sx, Act.put, Act.eval, nrm, List.extract_toArray, List.extract_eq_take_drop, List.drop_succ_cons, List.drop_zero, List.take_succ_cons, List.take_zero, List.size_toArray, List.length_cons, List.length_nil, Nat.reduceAdd, Nat.reduceSub, call19]
        refine hidx.mono ?_
        rintro v H2 γ ⟨rfl, hv⟩
        rcases hv with ⟨k, hk, rfl, hpre, hgk, he⟩ | ⟨rfl, hall, he⟩
        ·
          obtain rfl := he.symm
          refine hK1 _ _ _ ?_; clear hK1 K1 hidx
          have hff : firstFree free' now = some k := firstFree_some (by omega) hpre hgk
          rw [serve_some hff] at hsv
          have c8 : decide ((k : Int) < 0) = false := decide_eq_false (by omega)
          refine opsL_cons rfl (fun K1 hK1 => ?_)
          simp only [execOp, uponT, resolve, Deferred.ofValue, invoke, builtin, asBool, Instr.makeFunc, Instr.extract, sx, Act.put, Act.eval, nrm]
          refine hK1 _ _ _ ?_; clear hK1 K1
          refine opsL_nil (hK _ _ _ ?_); clear hK K
          refine wpT_seq ?_
          refine wpT_seq_reg (fun K hK => ?_)
          refine opsL_cons rfl (fun K1 hK1 => ?_)
          simp only [execOp, uponT, resolve, Deferred.ofValue, invoke, builtin, asBool, Instr.makeFunc, Instr.extract, sx, Act.put, Act.eval, nrm]
          refine hK1 _ _ _ ?_; clear hK1 K1
          refine opsL_cons rfl (fun K1 hK1 => ?_)
          simp only [execOp, uponT, resolve, Deferred.ofValue, invoke, builtin, asBool, Instr.makeFunc, Instr.extract, sx, Act.put, Act.eval, nrm, c8]
          refine hK1 _ _ _ ?_; clear hK1 K1
          refine opsL_nil (hK _ _ _ ?_); clear hK K
          refine wpT_cond (t := false) rfl ?_
          simp only [if_true, if_false, Bool.false_eq_true, reduceIte]
          refine wpT_skip ?_
          simp only [thenT]
          obtain ⟨Bw, offw, csw, tw, rfl, hbw, hxw, hsw, hlw⟩ := pm.hw.resolve_left (by rintro ⟨_, _, h⟩; cases h)
          have hi0 : He.cell ⟨Bw, offw, none⟩ = some (.int .i64 (i : Int)) := hxw.cell (t := tw) (fr := (0, 0)) (look_own hbw) (i := 0) (by rw [nI_length]; omega)
          have htail := intsl_tail (show IntSl He (some ⟨Bw, offw, none⟩) capw' ((i : Int) :: nI rest) from pm.hw)
          refine wpT_seq_reg (fun K hK => ?_)
          refine opsL_cons rfl (fun K1 hK1 => ?_)
          simp only [execOp, uponT, resolve, Deferred.ofValue, invoke, builtin, asBool, Instr.makeFunc, Instr.extract, sx, Act.put, Act.eval, nrm]
          refine hK1 _ _ _ ?_; clear hK1 K1
          refine opsL_cons rfl (fun K1 hK1 => ?_)
          simp only [execOp, uponT, resolve, Deferred.ofValue, invoke, builtin, asBool, Instr.makeFunc, Instr.extract, sx, Act.put, Act.eval, nrm, semS_indexAt0 Tryd.underlying60 info3 _ _ _ _ (show 0 < rest.length + 1 by omega)]
          refine hK1 _ _ _ ?_; clear hK1 K1
          refine opsL_cons rfl (fun K1 hK1 => ?_)
          simp only [execOp, uponT, resolve, Deferred.ofValue, invoke, builtin, asBool, Instr.makeFunc, Instr.extract, sx, Act.put, Act.eval, nrm, semS_loadAt one3 hi0]
          refine hK1 _ _ _ ?_; clear hK1 K1
          refine opsL_cons rfl (fun K1 hK1 => ?_)
          simp only [execOp, uponT, resolve, Deferred.ofValue, invoke, builtin, asBool, Instr.makeFunc, Instr.extract, sx, Act.put, Act.eval, nrm]
          refine hK1 _ _ _ ?_; clear hK1 K1
          refine opsL_nil (hK _ _ _ ?_); clear hK K
          refine wpT_seq_reg (fun K hK => ?_)
          refine opsL_cons rfl (fun K1 hK1 => ?_)
          simp only [execOp, uponT, resolve, Deferred.ofValue, invoke, builtin, asBool, Instr.makeFunc, Instr.extract, sx, Act.put, Act.eval, nrm]
          refine hK1 _ _ _ ?_; clear hK1 K1
          refine opsL_cons rfl (fun K1 hK1 => ?_)
          simp only [execOp, uponT, resolve, Deferred.ofValue, invoke, builtin, asBool, Instr.makeFunc, Instr.extract, sx, Act.put, Act.eval, nrm, Option.map_none, Option.map_some, semS_sliceLo1 Tryd.underlying60 info3 (some ⟨Bw, offw, none⟩) (rest.length + 1) capw' (by omega), size3]
          refine hK1 _ _ _ ?_; clear hK1 K1
          refine opsL_cons rfl (fun K1 hK1 => ?_)
          simp only [execOp, uponT, resolve, Deferred.ofValue, invoke, builtin, asBool, Instr.makeFunc, Instr.extract, sx, Act.put, Act.eval, nrm]
          refine hK1 _ _ _ ?_; clear hK1 K1
          refine opsL_nil (hK _ _ _ ?_); clear hK K
          have pm2 : PM H He bl bo B Bf bc (some kB) (if capw' = 1 then some (⟨Bw, offw, none⟩ : Addr) else some ((⟨Bw, offw, none⟩ : Addr).add 1)) (capw' - 1) (some (bn, .cells #[.int .i64 now] 3 (0, 0))) aL ls out' free' clk' rest := pm.rewait (wait' := rest) htail.2 htail.1
          rw [show rest.length + 1 - 1 = rest.length from rfl]
          clear htail
          generalize (if capw' = 1 then some (⟨Bw, offw, none⟩ : Addr) else some ((⟨Bw, offw, none⟩ : Addr).add 1)) = aw2 at *
          clear hi0 hbw hxw hsw hlw
          obtain ⟨csB, hB, hF, hsB⟩ := pm2.hB
          have hboc := (cell_own pm2.ho 0).trans (show _ = some (Value.slice (some ⟨B, 0, none⟩) out'.length out'.length) from rfl)
          have hio : i < out'.length := by rw [pm2.olen]; exact hil
          refine wpT_seq_reg (fun K hK => ?_)
          refine opsL_cons rfl (fun K1 hK1 => ?_)
          simp only [execOp, uponT, resolve, Deferred.ofValue, invoke, builtin, asBool, Instr.makeFunc, Instr.extract, sx, Act.put, Act.eval, nrm, semS_loadAt one33 hboc]
          refine hK1 _ _ _ ?_; clear hK1 K1
          refine opsL_cons rfl (fun K1 hK1 => ?_)
          simp only [execOp, uponT, resolve, Deferred.ofValue, invoke, builtin, asBool, Instr.makeFunc, Instr.extract, sx, Act.put, Act.eval, nrm]
          refine hK1 _ _ _ ?_; clear hK1 K1
          refine opsL_cons rfl (fun K1 hK1 => ?_)
          simp only [execOp, uponT, resolve, Deferred.ofValue, invoke, builtin, asBool, Instr.makeFunc, Instr.extract, sx, Act.put, Act.eval, nrm]
          refine hK1 _ _ _ ?_; clear hK1 K1
          refine opsL_cons rfl (fun K1 hK1 => ?_)
          simp only [execOp, uponT, resolve, Deferred.ofValue, invoke, builtin, asBool, Instr.makeFunc, Instr.extract, sx, Act.put, Act.eval, nrm, semS_loadAt one3 hnc]
          refine hK1 _ _ _ ?_; clear hK1 K1
          refine opsL_cons rfl (fun K1 hK1 => ?_)
          simp only [execOp, uponT, resolve, Deferred.ofValue, invoke, builtin, asBool, Instr.makeFunc, Instr.extract, sx, Act.put, Act.eval, nrm, build37]
          refine hK1 _ _ _ ?_; clear hK1 K1
          refine opsL_cons rfl (fun K1 hK1 => ?_)
          simp only [execOp, uponT, resolve, Deferred.ofValue, invoke, builtin, asBool, Instr.makeFunc, Instr.extract, sx, Act.put, Act.eval, nrm, semS_indexAt Tryd.underlying33 info37 _ _ _ _ _ hio, size37, Nat.zero_add]
          refine hK1 _ _ _ ?_; clear hK1 K1
          refine opsL_cons rfl (fun K1 hK1 => ?_)
          simp only [execOp, uponT, resolve, Deferred.ofValue, invoke, builtin, asBool, Instr.makeFunc, Instr.extract, sx, Act.put, Act.eval, nrm, semS_storeAt2 info37 size37 hB (off := i * 2) (show i * 2 + 1 < csB.size by omega) (x := .int .i64 k) (y := .int .i64 now) rfl rfl]
          refine hK1 _ _ _ ?_; clear hK1 K1
          refine opsL_nil (hK _ _ _ ?_); clear hK K
          have pm3 := pm2.out' (hF.set hsB hio ((k : Int), now)) (by simpa using hsB) (List.length_set ..)
          simp only [] at pm3
          generalize (He.set B (.cells ((csB.setIfInBounds (i * 2) (.int .i64 k)).setIfInBounds (i * 2 + 1) (.int .i64 now)) 37 (0, 0))) = Hf at *
          obtain ⟨csf3, hbf3, hfi3, hsf3⟩ := pm3.hf
          obtain ⟨capL', hbl⟩ := pm3.hl
          have hblc : Hf.cell ⟨bl, 0, none⟩ = some (.slice aL ls.length capL') := (cell_own hbl 0).trans rfl
          have hnc3 := (cell_own (pm3.hx _ _ rfl) 0).trans (show _ = some (Value.int .i64 now) from rfl)
          obtain ⟨BL, offL, rfl, hT⟩ := pm3.hls.resolve_left (by omega)
          have hkf : k < free'.length := by omega
          refine wpT_seq_run [10] [] mixed (by kernel_rfl) (by kernel_rfl) (fun K hK => ?_)
          apply runL_pure
          · rfl
          · rfl
          · rfl
          · intro H1 K1 hK1
            simp only [execOp, uponT, resolve, Deferred.ofValue, invoke, builtin, asBool, Instr.makeFunc, Instr.extract, sx, Act.put, Act.eval, nrm]
            exact hK1
          simp only [Act.put, Act.eval, nrm]
          apply runL_pure
          · rfl
          · rfl
          · rfl
          · intro H1 K1 hK1
            simp only [execOp, uponT, resolve, Deferred.ofValue, invoke, builtin, asBool, Instr.makeFunc, Instr.extract, sx, Act.put, Act.eval, nrm]
            exact hK1
          simp only [Act.put, Act.eval, nrm]
          apply runL_read
          · rfl
          · rfl
          · kernel_rfl
          · rfl
          · intro H1 gr K1 hK1
            simp only [execOp, uponT, resolve, Deferred.ofValue, invoke, builtin, asBool, Instr.makeFunc, Instr.extract, sx, Act.put, Act.eval, nrm, semS_loadAt one3 (gr _ _ hnc3)]
            exact hK1
          simp only [Act.put, Act.eval, nrm]
          apply runL_read
          · rfl
          · rfl
          · kernel_rfl
          · rfl
          · intro H1 gr K1 hK1
            simp only [execOp, uponT, resolve, Deferred.ofValue, invoke, builtin, asBool, Instr.makeFunc, Instr.extract, sx, Act.put, Act.eval, nrm, semS_loadAt one23 (gr _ _ hblc)]
            exact hK1
          simp only [Act.put, Act.eval, nrm]
          apply runL_pure
          · rfl
          · rfl
          · rfl
          · intro H1 K1 hK1
            simp only [execOp, uponT, resolve, Deferred.ofValue, invoke, builtin, asBool, Instr.makeFunc, Instr.extract, sx, Act.put, Act.eval, nrm]
            exact hK1
          simp only [Act.put, Act.eval, nrm]
          apply runL_pure
          · rfl
          · rfl
          · rfl
          · intro H1 K1 hK1
            simp only [execOp, uponT, resolve, Deferred.ofValue, invoke, builtin, asBool, Instr.makeFunc, Instr.extract, sx, Act.put, Act.eval, nrm, semS_indexAt Tryd.underlying23 info56 _ _ _ _ _ hil, size56]
            exact hK1
          simp only [Act.put, Act.eval, nrm]
          apply runL_pure
          · rfl
          · rfl
          · rfl
          · intro H1 K1 hK1
            simp only [execOp, uponT, resolve, Deferred.ofValue, invoke, builtin, asBool, Instr.makeFunc, Instr.extract, sx, Act.put, Act.eval, nrm, field56x1]
            exact hK1
          simp only [Act.put, Act.eval, nrm]
          apply runL_read
          · rfl
          · rfl
          · kernel_rfl
          · rfl
          · intro H1 gr K1 hK1
            simp only [execOp, uponT, resolve, Deferred.ofValue, invoke, builtin, asBool, Instr.makeFunc, Instr.extract, sx, Act.put, Act.eval, nrm, semS_loadAt one3 (gr _ _ (hT i hil).2.1)]
            exact hK1
          simp only [Act.put, Act.eval, nrm]
          apply runL_pure
          · rfl
          · rfl
          · rfl
          · intro H1 K1 hK1
            simp only [execOp, uponT, resolve, Deferred.ofValue, invoke, builtin, asBool, Instr.makeFunc, Instr.extract, sx, Act.put, Act.eval, nrm]
            exact hK1
          simp only [Act.put, Act.eval, nrm]
          apply runL_pure
          · rfl
          · rfl
          · rfl
          · intro H1 K1 hK1
            simp only [execOp, uponT, resolve, Deferred.ofValue, invoke, builtin, asBool, Instr.makeFunc, Instr.extract, sx, Act.put, Act.eval, nrm, semS_indexAt Tryd.underlying60 info3 _ _ _ _ _ hk, size3, Nat.mul_one]
            exact hK1
          simp only [Act.put, Act.eval, nrm]
          refine runL_eff rfl rfl rfl (fun K1 hK1 => ?_)
          simp only [execOp, uponT, resolve, Deferred.ofValue, invoke, builtin, asBool, Instr.makeFunc, Instr.extract, sx, Act.put, Act.eval, nrm, semS_storeAt info3 size3 hbf3 (off := 0 + k) (show 0 + k < csf3.size by omega) (v := .int .i64 (IntKind.i64.wrap (now + (ls.getD i default).long))) rfl]
          refine hK1 _ _ _ ?_; clear hK1 K1
          refine runL_nil (hK _ _ _ ?_); clear hK K
          have hfi4 := hfi3.set (by omega) hkf (IntKind.i64.wrap (now + (ls.getD i default).long))
          have pm4 := pm3.free' hfi4 (by simpa using hsf3)
          have hk4 : k < (free'.set k (IntKind.i64.wrap (now + (ls.getD i default).long))).length := by rw [List.length_set]; exact hkf
          obtain ⟨csf4, hbf4, hfi4', hsf4⟩ := pm4.hf
          have hk5 := hfi4'.cell (t := 3) (fr := (0, 0)) (look_own hbf4) hk4
          rw [show (free'.set k (IntKind.i64.wrap (now + (ls.getD i default).long))).getD k 0 = IntKind.i64.wrap (now + (ls.getD i default).long) by simp [List.getD_eq_getElem?_getD, hkf]] at hk5
          have hcl4 : clk'.length < 255 := by omega
          refine wpT_reg (fun K hK => ?_)
          refine opsL_cons rfl (fun K1 hK1 => ?_)
          simp only [execOp, uponT, resolve, Deferred.ofValue, invoke, builtin, asBool, Instr.makeFunc, Instr.extract, sx, Act.put, Act.eval, nrm, semS_makeInterface conc63]
          refine hK1 _ _ _ ?_; clear hK1 K1
          refine opsL_cons rfl (fun K1 hK1 => ?_)
          simp only [execOp, uponT, resolve, Deferred.ofValue, invoke, builtin, asBool, Instr.makeFunc, Instr.extract, sx, Act.put, Act.eval, nrm]
          refine hK1 _ _ _ ?_; clear hK1 K1
          refine opsL_cons rfl (fun K1 hK1 => ?_)
          simp only [execOp, uponT, resolve, Deferred.ofValue, invoke, builtin, asBool, Instr.makeFunc, Instr.extract, sx, Act.put, Act.eval, nrm]
          refine hK1 _ _ _ ?_; clear hK1 K1
          refine opsL_cons rfl (fun K1 hK1 => ?_)
          simp only [execOp, uponT, resolve, Deferred.ofValue, invoke, builtin, asBool, Instr.makeFunc, Instr.extract, sx, Act.put, Act.eval, nrm, semS_indexAt Tryd.underlying60 info3 _ _ _ _ _ hk, size3, Nat.mul_one]
          refine hK1 _ _ _ ?_; clear hK1 K1
          refine opsL_cons rfl (fun K1 hK1 => ?_)
          simp only [execOp, uponT, resolve, Deferred.ofValue, invoke, builtin, asBool, Instr.makeFunc, Instr.extract, sx, Act.put, Act.eval, nrm, semS_loadAt one3 hk5]
          refine hK1 _ _ _ ?_; clear hK1 K1
          refine opsL_cons rfl (fun K1 hK1 => ?_)
          simp only [execOp, uponT, resolve, Deferred.ofValue, invoke, builtin, asBool, Instr.makeFunc, Instr.extract, sx, Act.put, Act.eval, nrm, semS_makeInterface conc3]
          refine hK1 _ _ _ ?_; clear hK1 K1
          refine opsL_cons rfl (fun K1 hK1 => ?_)
          simp only [execOp, uponT, resolve, Deferred.ofValue, invoke, builtin, asBool, Instr.makeFunc, Instr.extract, sx, Act.put, Act.eval, nrm, List.extract_toArray, List.extract_eq_take_drop, List.drop_succ_cons, List.drop_zero, List.take_succ_cons, List.take_zero, List.size_toArray, List.length_cons, List.length_nil, Nat.reduceAdd, Nat.reduceSub, call16]
          refine (hpush_calls Y main _ _ pm4.hc hcl4 _).mono ?_
          rintro _ H3 γ ⟨rfl, rfl, k2, o2, o2', rfl, hk2, hc2⟩
          refine hK1 _ _ _ ?_; clear hK1 K1
          refine opsL_nil (hK _ _ _ ?_); clear hK K
          have pm5 := pm4.clk' hk2 hc2
          simp only [thenT, inBlockT, loopQ, reduceIte, Nat.reduceEqDiff]
          refine hAgain _ _ _ ?_ ?_
          · exact ⟨k2, aw2, capw' - 1, rest, _, _, _, rfl, pm5, hsv, by rw [List.length_set]; exact hfl', by rw [pushL_length]; omega, fun x hx => hw' x (List.mem_cons_of_mem _ hx), slots rfl⟩
          · simp only [slotNat, slotLen, Array.getD_eq_getD_getElem?, List.getElem?_toArray, List.getElem?_cons_succ, List.getElem?_cons_zero, Option.getD_some, Int.toNat_natCast]; omega
        ·
          obtain rfl := he.symm
          refine hK1 _ _ _ ?_; clear hK1 K1 hidx
          have hff : firstFree free' now = none := firstFree_none (by rw [hfl']; exact hall)
          rw [serve_none hff] at hsv
          have c8 : decide ((-1 : Int) < 0) = true := rfl
          refine opsL_cons rfl (fun K1 hK1 => ?_)
          simp only [execOp, uponT, resolve, Deferred.ofValue, invoke, builtin, asBool, Instr.makeFunc, Instr.extract, sx, Act.put, Act.eval, nrm]
          refine hK1 _ _ _ ?_; clear hK1 K1
          refine opsL_nil (hK _ _ _ ?_); clear hK K
          refine wpT_seq ?_
          refine wpT_seq_reg (fun K hK => ?_)
          refine opsL_cons rfl (fun K1 hK1 => ?_)
          simp only [execOp, uponT, resolve, Deferred.ofValue, invoke, builtin, asBool, Instr.makeFunc, Instr.extract, sx, Act.put, Act.eval, nrm]
          refine hK1 _ _ _ ?_; clear hK1 K1
          refine opsL_cons rfl (fun K1 hK1 => ?_)
          simp only [execOp, uponT, resolve, Deferred.ofValue, invoke, builtin, asBool, Instr.makeFunc, Instr.extract, sx, Act.put, Act.eval, nrm, c8]
          refine hK1 _ _ _ ?_; clear hK1 K1
          refine opsL_nil (hK _ _ _ ?_); clear hK K
          refine wpT_cond (t := true) rfl ?_
          simp only [if_true, if_false, Bool.false_eq_true, reduceIte]
          refine wpT_exit ?_
          simp only [thenT, inBlockT, loopQ, reduceIte, Nat.reduceEqDiff]
          refine hOut _ _ _ ?_
          exact ⟨kB, aw', capw', i :: rest, clk', free', out', rfl, pm, hsv, slots rfl⟩
    clear pm1
    rintro _ Hd γ ⟨kB, aw2, capw2, w2, clk2, free2, out2, rfl, pm2, hsv, S, rfl⟩
    rw [hsv] at hso hpl
    simp only [] at hso hpl
    obtain ⟨hs1, hs2, hs3, hs4⟩ := hso
    obtain ⟨csB, hB, hF, hsB⟩ := pm2.hB
    have d := pm2.dis
    have dx := pm2.dx _ _ rfl
    have ge : GE Hd bl bn bo B aL ls now out2 csB 37 := ⟨pm2.hl, pm2.hls, pm2.far, pm2.hx _ _ rfl, ⟨_, pm2.ho⟩, hB, hF, hsB, pm2.olen, d.2.1, Ne.symm dx.2.2.1, d.2.2.2.2.1⟩
    have hdl := delW_le ls now w2
    refine wpT_reg (fun K hK => ?_)
    refine opsL_cons rfl (fun K1 hK1 => ?_)
    simp only [execOp, uponT, resolve, Deferred.ofValue, invoke, builtin, asBool, Instr.makeFunc, Instr.extract, sx, Act.put, Act.eval, nrm]
    refine hK1 _ _ _ ?_; clear hK1 K1
    refine opsL_cons rfl (fun K1 hK1 => ?_)
    simp only [execOp, uponT, resolve, Deferred.ofValue, invoke, builtin, asBool, Instr.makeFunc, Instr.extract, sx, Act.put, Act.eval, nrm]
    refine hK1 _ _ _ ?_; clear hK1 K1
    refine opsL_cons rfl (fun K1 hK1 => ?_)
    simp only [execOp, uponT, resolve, Deferred.ofValue, invoke, builtin, asBool, Instr.makeFunc, Instr.extract, sx, Act.put, Act.eval, nrm, List.extract_toArray, List.extract_eq_take_drop, List.drop_succ_cons, List.drop_zero, List.take_succ_cons, List.take_zero, List.size_toArray, List.length_cons, List.length_nil, Nat.reduceAdd, Nat.reduceSub, call21]
    refine (delete_calls Y main _ _ ge pm2.hw (fun x e => ⟨Ne.symm (pm2.dw x e).1, Ne.symm (pm2.dwx x _ _ e rfl), Ne.symm (pm2.dw x e).2.1, Ne.symm (pm2.dw x e).2.2.1⟩) hs4 (by omega)).mono ?_
    rintro _ H3 γ ⟨rfl, cs', rfl, ge', hw', hH'⟩
    refine hK1 _ _ _ ?_; clear hK1 K1
    refine opsL_cons rfl (fun K1 hK1 => ?_)
    simp only [execOp, uponT, resolve, Deferred.ofValue, invoke, builtin, asBool, Instr.makeFunc, Instr.extract, sx, Act.put, Act.eval, nrm]
    refine hK1 _ _ _ ?_; clear hK1 K1
    refine opsL_nil (hK _ _ _ ?_); clear hK K
    have pm3 : PM H H3 bl bo B Bf bc (some kB) aw2 capw2 (some (bn, .cells #[.int .i64 now] 3 (0, 0))) aL ls (delOut ls now out2 w2) free2 clk2 (delW ls now w2) := by
      have hp := pm2.out' ge'.hF (by rw [ge'.hs, delOut_length]) (delOut_length _ _ _ _)
      rcases hH' with rfl | ⟨x, o, hx, rfl⟩
      · exact hp.rewait (fun x' e => ⟨x', e, rfl⟩) hw'
      · subst hx
        obtain ⟨Bw, offw, csw, tw, hxe, _⟩ := hw'.resolve_left (by rintro ⟨h, _⟩; cases h)
        cases hxe
        exact hp.wait' (.inl ⟨_, rfl, rfl⟩) hw'
    have hμ2 := pm3.hc.len
    simp only [thenT, inBlockT, loopQ, reduceIte, Nat.reduceEqDiff]
    refine hAgain _ _ _ ?_ ?_
    · exact ⟨f, some kB, aw2, capw2, clk2, free2, _, n1, _, rfl, pm3.unbox, by omega, hn1, delW_mem hs4, by omega, by omega, hpl, slots rfl⟩
    · simp only [slotNat, slotLen, Array.getD_eq_getD_getElem?, List.getElem?_toArray, List.getElem?_cons_succ, List.getElem?_cons_zero, Option.getD_some, Int.toNat_natCast]; rw [hμ, hμ2]; omega
end Go.Proofs.YtcomjkbfmklfnaaDoor
