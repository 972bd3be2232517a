/-
  A worker: Many$1. Conditions: none.
-/
import Derived.Test.YtcomjkbfmklfnaaDoorWn
set_option linter.unusedSimpArgs false
set_option linter.unusedVariables false
namespace Go.Proofs.YtcomjkbfmklfnaaDoor
open Go.Conc Go.Sep

/-- A worker's registers. -/
def wkT (φ : Ph) (bt bp bd : Nat) (S : Nat → Value) : List Value :=
  [.pointer (some ⟨φ.wg, 0, none⟩), .pointer (some ⟨bt, 0, none⟩), .pointer (some ⟨bp, 0, none⟩), .pointer (some ⟨φ.pc, 0, none⟩), .pointer (some ⟨bd, 0, none⟩), S 5, S 6, S 7, .chan (some φ.td), S 9, S 10, S 11, S 12, S 13, S 14, S 15, S 16, S 17, S 18, S 19, S 20, S 21, S 22, S 23, S 24, S 25]
def wkLeft : Gh → Nat
  | .wk φ nx _ => φ.m - nx
  | _ => 0

noncomputable def body10 : Code := Tryd.f10.body.getD .skip

set_option maxRecDepth 100000 in
set_option maxHeartbeats 4000000 in
theorem worker_body {Q : Value → Prop} {φ : Ph} {tss : List (List Tap)} {ag : Int} {bt bp bd : Nat} {H : Hp} (j : Job H φ tss ag bt bp bd) (ho : H.own = fun _ => none) {R : Exit → Act → Hp → Gh → Prop}
    (hQ : ∀ a' H', H'.d = 0 → H'.ro φ.pc = some (.cells #[φ.vC] 3) → a'.defers = [dcall 11 #[.pointer (some ⟨φ.wg, 0, none⟩)]] → R .normal a' H' (.wc φ)) :
    wpT Tryd.prog (company Tryd.prog Q) false 10 body10 R ⟨#[.pointer (some ⟨φ.wg, 0, none⟩), .pointer (some ⟨bt, 0, none⟩), .pointer (some ⟨bp, 0, none⟩), .pointer (some ⟨φ.pc, 0, none⟩), .pointer (some ⟨bd, 0, none⟩), undef, undef, undef, undef, undef, undef, undef, undef, undef, undef, undef, undef, undef, undef, undef, undef, undef, undef, undef, undef, undef], []⟩ H (.wk φ 0 none) := by
  simp only [body10, Tryd.f10, Option.getD_some]
  have own0 : ∀ b, H.own b = none := fun b => by rw [ho]
  refine wpT_seq_reg (fun K hK => ?_)
  refine opsL_cons rfl (fun K1 hK1 => ?_)
  simp only [execOp, uponT, resolve, Deferred.ofValue, invoke, builtin, asBool, Instr.makeFunc, Instr.extract, sx, Act.put, Act.eval, nrm]
  refine hK1 _ _ _ ?_; clear hK1 K1
  refine opsL_nil (hK _ _ _ ?_); clear hK K
  have ct := cell_ro0 j.td (own0 bt)
  refine wpT_seq_reg (fun K hK => ?_)
  refine opsL_cons rfl (fun K1 hK1 => ?_)
  simp only [execOp, uponT, resolve, Deferred.ofValue, invoke, builtin, asBool, Instr.makeFunc, Instr.extract, sx, Act.put, Act.eval, nrm, semS_loadAt one40 ct]
  refine hK1 _ _ _ ?_; clear hK1 K1
  refine opsL_nil (hK _ _ _ ?_); clear hK K
  refine wpT_block_loop (fun a' Hc γc => ∃ nx, γc = .wk φ nx none ∧ Job Hc φ tss ag bt bp bd ∧ Hc.own = (fun _ => none) ∧ ∃ S : Nat → Value, a' = ⟨(wkT φ bt bp bd S).toArray, [dcall 11 #[.pointer (some ⟨φ.wg, 0, none⟩)]]⟩) (fun _ _ γc => wkLeft γc) ?_ ?_
  · exact ⟨0, rfl, j, ho, fun _ => undef, rfl⟩
  clear own0 ct ho j H
  rintro _ H _ ⟨nx, rfl, j, ho, S, rfl⟩ Again Out hAgain hOut
  have own0 : ∀ b, H.own b = none := fun b => by rw [ho]
  simp only [wkT]
  refine wpT_seq_reg (fun K hK => ?_)
  refine opsL_comm .recvT rfl (cases := #[rcase φ.td z0]) (shape := .recv true) (fun w => by simp [go_sem, rcase, z0]) (fun w => by simp [go_sem]) (fun g hs hg => ⟨rfl, φ, nx, rfl, j.d, hs, fun w _ => hg w⟩) (fun g g' H' γ' hx => ?_)
  obtain ⟨φ', nx', e, hH, hx⟩ := hx
  cases e
  rw [hH]
  clear hH
  rcases hx with ⟨k, hk1, hk2, rfl, rfl⟩ | ⟨rfl, rfl⟩
  · refine ⟨_, rfl, ?_⟩
    simp only [Act.put, Act.eval, nrm]
    refine opsL_cons rfl (fun K1 hK1 => ?_)
    simp only [execOp, uponT, resolve, Deferred.ofValue, invoke, builtin, asBool, Instr.makeFunc, Instr.extract, sx, Act.put, Act.eval, nrm]
    refine hK1 _ _ _ ?_; clear hK1 K1
    refine opsL_nil (hK _ _ _ ?_); clear hK K
    refine wpT_seq ?_
    refine wpT_cond (t := true) rfl ?_
    simp only [if_true, if_false, Bool.false_eq_true, reduceIte]
    refine wpT_skip ?_
    simp only [thenT]
    refine wpT_block ?_
    refine wpT_seq_reg (fun K hK => ?_)
    refine opsL_cons rfl (fun K1 hK1 => ?_)
    simp only [execOp, uponT, resolve, Deferred.ofValue, invoke, builtin, asBool, Instr.makeFunc, Instr.extract, sx, Act.put, Act.eval, nrm]
    refine hK1 _ _ _ ?_; clear hK1 K1
    refine opsL_cons rfl (fun K1 hK1 => ?_)
    simp only [execOp, uponT, resolve, Deferred.ofValue, invoke, builtin, asBool, Instr.makeFunc, Instr.extract, sx, Act.put, Act.eval, nrm]
    refine hK1 _ _ _ ?_; clear hK1 K1
    refine opsL_nil (hK _ _ _ ?_); clear hK K
    obtain ⟨a, cap, hbp, hts⟩ := j.tp
    have cp := cell_ro0 hbp (own0 bp)
    have cc := cell_ro0 j.pc (own0 φ.pc)
    have cd := cell_ro0 j.dn (own0 bd)
    have hkt : k < tss.length := j.m ▸ hk2
    obtain ⟨B0, off, rfl, hks⟩ := hts.resolve_left (by omega)
    obtain ⟨aL, capL, hk3, hk4⟩ := hks k hkt
    have hk3' := roCell_cell hk3 (own0 _)
    have hk4' : Taps H aL (tss.getD k []) := Taps.grow hk4 fun x v h => roCell_cell h (own0 _)
    have hres : ∀ v car, φ.res k v car ↔ resOf tss ag k v car := fun v car => by rw [j.res]
    simp only [numV]
    refine wpT_seq_run [5] [] mixed (by kernel_rfl) (by kernel_rfl) (fun K hK => ?_)
    apply runL_read
    · rfl
    · rfl
    · kernel_rfl
    · rfl
    · intro H1 gr K1 hK1
      simp only [execOp, uponT, resolve, Deferred.ofValue, invoke, builtin, asBool, Instr.makeFunc, Instr.extract, sx, Act.put, Act.eval, nrm, semS_loadAt one22 (gr _ _ cp)]
      exact hK1
    simp only [Act.put, Act.eval, nrm]
    apply runL_pure
    · rfl
    · rfl
    · rfl
    · intro H1 K1 hK1
      simp only [execOp, uponT, resolve, Deferred.ofValue, invoke, builtin, asBool, Instr.makeFunc, Instr.extract, sx, Act.put, Act.eval, nrm]
      exact hK1
    simp only [Act.put, Act.eval, nrm]
    apply runL_pure
    · rfl
    · rfl
    · rfl
    · intro H1 K1 hK1
      simp only [execOp, uponT, resolve, Deferred.ofValue, invoke, builtin, asBool, Instr.makeFunc, Instr.extract, sx, Act.put, Act.eval, nrm, semS_indexAt Tryd.underlying22 info23 _ _ _ _ _ hkt, size23, Nat.mul_one]
      exact hK1
    simp only [Act.put, Act.eval, nrm]
    apply runL_read
    · rfl
    · rfl
    · kernel_rfl
    · rfl
    · intro H1 gr K1 hK1
      simp only [execOp, uponT, resolve, Deferred.ofValue, invoke, builtin, asBool, Instr.makeFunc, Instr.extract, sx, Act.put, Act.eval, nrm, semS_loadAt one23 (gr _ _ hk3')]
      exact hK1
    simp only [Act.put, Act.eval, nrm]
    apply runL_read
    · rfl
    · rfl
    · kernel_rfl
    · rfl
    · intro H1 gr K1 hK1
      simp only [execOp, uponT, resolve, Deferred.ofValue, invoke, builtin, asBool, Instr.makeFunc, Instr.extract, sx, Act.put, Act.eval, nrm, semS_loadAt one3 (gr _ _ cc)]
      exact hK1
    simp only [Act.put, Act.eval, nrm]
    refine runL_eff rfl rfl rfl (fun K1 hK1 => ?_)
    simp only [execOp, uponT, resolve, Deferred.ofValue, invoke, builtin, asBool, Instr.makeFunc, Instr.extract, sx, Act.put, Act.eval, nrm, List.extract_toArray, List.extract_eq_take_drop, List.drop_succ_cons, List.drop_zero, List.take_succ_cons, List.take_zero, List.size_toArray, List.length_cons, List.length_nil, Nat.reduceAdd, Nat.reduceSub, call8]
    refine (play_calls (company Tryd.prog Q) false H _ hk4' (fun x _ _ => own0 _) ag).mono ?_
    rintro v H3 _ ⟨rfl, hv⟩
    revert hv
    cases hR : playR (tss.getD k []) ag with
    | inl e =>
      rintro ⟨rfl, rfl⟩
      refine hK1 _ _ _ ?_; clear hK1 K1
      apply runL_pure
      · rfl
      · rfl
      · rfl
      · intro H1 K1 hK1
        simp only [execOp, uponT, resolve, Deferred.ofValue, invoke, builtin, asBool, Instr.makeFunc, Instr.extract, sx, Act.put, Act.eval, nrm]
        exact hK1
      simp only [Act.put, Act.eval, nrm]
      apply runL_pure
      · rfl
      · rfl
      · rfl
      · intro H1 K1 hK1
        simp only [execOp, uponT, resolve, Deferred.ofValue, invoke, builtin, asBool, Instr.makeFunc, Instr.extract, sx, Act.put, Act.eval, nrm]
        exact hK1
      simp only [Act.put, Act.eval, nrm]
      apply runL_pure
      · rfl
      · rfl
      · rfl
      · intro H1 K1 hK1
        simp only [execOp, uponT, resolve, Deferred.ofValue, invoke, builtin, asBool, Instr.makeFunc, Instr.extract, sx, Act.put, Act.eval, nrm]
        exact hK1
      simp only [Act.put, Act.eval, nrm]
      apply runL_pure
      · rfl
      · rfl
      · rfl
      · intro H1 K1 hK1
        simp only [execOp, uponT, resolve, Deferred.ofValue, invoke, builtin, asBool, Instr.makeFunc, Instr.extract, sx, Act.put, Act.eval, nrm]
        exact hK1
      simp only [Act.put, Act.eval, nrm]
      apply runL_pure
      · rfl
      · rfl
      · rfl
      · intro H1 K1 hK1
        simp only [execOp, uponT, resolve, Deferred.ofValue, invoke, builtin, asBool, Instr.makeFunc, Instr.extract, sx, Act.put, Act.eval, nrm]
        exact hK1
      simp only [Act.put, Act.eval, nrm]
      refine runL_nil (hK _ _ _ ?_); clear hK K
      refine wpT_reg (fun K hK => ?_)
      refine opsL_cons rfl (fun K1 hK1 => ?_)
      simp only [execOp, uponT, resolve, Deferred.ofValue, invoke, builtin, asBool, Instr.makeFunc, Instr.extract, sx, Act.put, Act.eval, nrm, semS_loadAt one41 cd]
      refine hK1 _ _ _ ?_; clear hK1 K1
      refine opsL_cons rfl (fun K1 hK1 => ?_)
      simp only [execOp, uponT, resolve, Deferred.ofValue, invoke, builtin, asBool, Instr.makeFunc, Instr.extract, sx, Act.put, Act.eval, nrm]
      refine hK1 _ _ _ ?_; clear hK1 K1
      refine opsL_cons rfl (fun K1 hK1 => ?_)
      simp only [execOp, uponT, resolve, Deferred.ofValue, invoke, builtin, asBool, Instr.makeFunc, Instr.extract, sx, Act.put, Act.eval, nrm]
      refine hK1 _ _ _ ?_; clear hK1 K1
      refine opsL_cons rfl (fun K1 hK1 => ?_)
      simp only [execOp, uponT, resolve, Deferred.ofValue, invoke, builtin, asBool, Instr.makeFunc, Instr.extract, sx, Act.put, Act.eval, nrm]
      refine hK1 _ _ _ ?_; clear hK1 K1
      refine opsL_cons rfl (fun K1 hK1 => ?_)
      simp only [execOp, uponT, resolve, Deferred.ofValue, invoke, builtin, asBool, Instr.makeFunc, Instr.extract, sx, Act.put, Act.eval, nrm, build54 _ _ _ _ (.iface 31 (.int .i64 e)) rfl]
      refine hK1 _ _ _ ?_; clear hK1 K1
      refine opsL_comm .sendD rfl (cases := #[scase φ.dn (.agg #[numV k, .slice none 0 0, .iface 31 (.int .i64 e)]) (.tuple #[])]) (shape := .send) (fun w => by simp [go_sem, scase, numV]) (fun w => by simp [go_sem])
        (fun g hs hg => ⟨rfl, φ, k + 1, k, _, none, _, rfl, j.d, (hres _ _).2 (by unfold resOf; rw [hR]; exact ⟨rfl, rfl⟩), (fun _ _ x => by cases x), hs, fun w _ => hg w⟩) (fun g g' H' γ' hx => ?_)
      obtain ⟨φ', nx', k', e, hH, rfl, rfl⟩ := hx
      cases e
      rw [hH]
      clear hH
      refine ⟨_, rfl, ?_⟩
      simp only [Act.put, Act.eval, nrm]
      refine opsL_nil (hK _ _ _ ?_); clear hK K
      simp only [thenT, inBlockT, loopQ, reduceIte, Nat.reduceEqDiff]
      refine hAgain _ _ _ ⟨k + 1, rfl, j, ho, slots rfl⟩ ?_
      simp only [wkLeft]; omega
    | inr out =>
      rintro ⟨B, cs, hB, rfl, rfl, hF, hsz⟩
      obtain ⟨s1, s2, s3, s4⟩ := share_set (o := .cells cs 37 (0, 0)) hB
      have j' := j.mono (s4.trans j.d) s2
      refine hK1 _ _ _ ?_; clear hK1 K1
      apply runL_pure
      · rfl
      · rfl
      · rfl
      · intro H1 K1 hK1
        simp only [execOp, uponT, resolve, Deferred.ofValue, invoke, builtin, asBool, Instr.makeFunc, Instr.extract, sx, Act.put, Act.eval, nrm]
        exact hK1
      simp only [Act.put, Act.eval, nrm]
      apply runL_pure
      · rfl
      · rfl
      · rfl
      · intro H1 K1 hK1
        simp only [execOp, uponT, resolve, Deferred.ofValue, invoke, builtin, asBool, Instr.makeFunc, Instr.extract, sx, Act.put, Act.eval, nrm]
        exact hK1
      simp only [Act.put, Act.eval, nrm]
      apply runL_pure
      · rfl
      · rfl
      · rfl
      · intro H1 K1 hK1
        simp only [execOp, uponT, resolve, Deferred.ofValue, invoke, builtin, asBool, Instr.makeFunc, Instr.extract, sx, Act.put, Act.eval, nrm]
        exact hK1
      simp only [Act.put, Act.eval, nrm]
      apply runL_pure
      · rfl
      · rfl
      · rfl
      · intro H1 K1 hK1
        simp only [execOp, uponT, resolve, Deferred.ofValue, invoke, builtin, asBool, Instr.makeFunc, Instr.extract, sx, Act.put, Act.eval, nrm]
        exact hK1
      simp only [Act.put, Act.eval, nrm]
      apply runL_pure
      · rfl
      · rfl
      · rfl
      · intro H1 K1 hK1
        simp only [execOp, uponT, resolve, Deferred.ofValue, invoke, builtin, asBool, Instr.makeFunc, Instr.extract, sx, Act.put, Act.eval, nrm]
        exact hK1
      simp only [Act.put, Act.eval, nrm]
      refine runL_nil (hK _ _ _ ?_); clear hK K
      refine wpT_reg (fun K hK => ?_)
      refine opsL_ghost (company_pub _ _ _ _ B _ (set_own_same _ _ _)) ?_
      generalize ((H.set B (.cells cs 37 (0, 0))).share B) = H9 at s1 s2 s3 s4 j' ⊢
      have cd := cell_ro0 j'.dn (show H9.own bd = none by rw [s1]; exact own0 _)
      refine opsL_cons rfl (fun K1 hK1 => ?_)
      simp only [execOp, uponT, resolve, Deferred.ofValue, invoke, builtin, asBool, Instr.makeFunc, Instr.extract, sx, Act.put, Act.eval, nrm, semS_loadAt one41 cd]
      refine hK1 _ _ _ ?_; clear hK1 K1
      refine opsL_cons rfl (fun K1 hK1 => ?_)
      simp only [execOp, uponT, resolve, Deferred.ofValue, invoke, builtin, asBool, Instr.makeFunc, Instr.extract, sx, Act.put, Act.eval, nrm]
      refine hK1 _ _ _ ?_; clear hK1 K1
      refine opsL_cons rfl (fun K1 hK1 => ?_)
      simp only [execOp, uponT, resolve, Deferred.ofValue, invoke, builtin, asBool, Instr.makeFunc, Instr.extract, sx, Act.put, Act.eval, nrm]
      refine hK1 _ _ _ ?_; clear hK1 K1
      refine opsL_cons rfl (fun K1 hK1 => ?_)
      simp only [execOp, uponT, resolve, Deferred.ofValue, invoke, builtin, asBool, Instr.makeFunc, Instr.extract, sx, Act.put, Act.eval, nrm]
      refine hK1 _ _ _ ?_; clear hK1 K1
      refine opsL_cons rfl (fun K1 hK1 => ?_)
      simp only [execOp, uponT, resolve, Deferred.ofValue, invoke, builtin, asBool, Instr.makeFunc, Instr.extract, sx, Act.put, Act.eval, nrm, build54 _ _ _ _ .nilIface rfl]
      refine hK1 _ _ _ ?_; clear hK1 K1
      refine opsL_comm .sendD rfl (cases := #[scase φ.dn (.agg #[numV k, .slice (some ⟨B, 0, none⟩) out.length out.length, .nilIface]) (.tuple #[])]) (shape := .send) (fun w => by simp [go_sem, scase, numV]) (fun w => by simp [go_sem])
        (fun g hs hg => ⟨rfl, φ, k + 1, k, _, some (B, .cells cs 37 (0, 0)), _, rfl, j'.d, (hres _ _).2 (by unfold resOf; rw [hR]; exact ⟨B, cs, rfl, rfl, hF, hsz⟩), (fun _ _ x => by cases x; exact s3), hs, fun w _ => hg w⟩) (fun g g' H' γ' hx => ?_)
      obtain ⟨φ', nx', k', e, hH, rfl, rfl⟩ := hx
      cases e
      rw [hH]
      clear hH
      refine ⟨_, rfl, ?_⟩
      simp only [Act.put, Act.eval, nrm]
      refine opsL_nil (hK _ _ _ ?_); clear hK K
      simp only [thenT, inBlockT, loopQ, reduceIte, Nat.reduceEqDiff]
      refine hAgain _ _ _ ⟨k + 1, rfl, j', s1.trans ho, slots rfl⟩ ?_
      simp only [wkLeft]; omega
  · refine ⟨_, rfl, ?_⟩
    simp only [Act.put, Act.eval, nrm]
    refine opsL_cons rfl (fun K1 hK1 => ?_)
    simp only [execOp, uponT, resolve, Deferred.ofValue, invoke, builtin, asBool, Instr.makeFunc, Instr.extract, sx, Act.put, Act.eval, nrm]
    refine hK1 _ _ _ ?_; clear hK1 K1
    refine opsL_nil (hK _ _ _ ?_); clear hK K
    refine wpT_seq ?_
    refine wpT_cond (t := false) rfl ?_
    simp only [if_true, if_false, Bool.false_eq_true, reduceIte]
    refine wpT_exit ?_
    simp only [thenT, inBlockT, loopQ, reduceIte, Nat.reduceEqDiff]
    exact hOut _ _ _ (hQ _ _ j.d (j.vC ▸ j.pc) rfl)

/-- A goroutine's lowest frame, once its one call is entered. -/
noncomputable def bot : Frame := { (default : Frame) with fn := Tryd.prog.funcs.size, defers := [], mode := .panicking [goexitEntry] }
def wkCall (φ : Ph) (bt bp bd : Nat) : Deferred := { target := .fn (.func 10) #[.pointer (some ⟨φ.wg, 0, none⟩), .pointer (some ⟨bt, 0, none⟩), .pointer (some ⟨bp, 0, none⟩), .pointer (some ⟨φ.pc, 0, none⟩), .pointer (some ⟨bd, 0, none⟩)], args := #[] }

theorem quits10 (T : Array Value) : QuitsD Tryd.prog 2 0 (G { (baseD 10).at ⟨T, []⟩ [] with mode := .returning } [bot]) := by
  refine QuitsD.ctl (g' := G bot []) rfl (fun w => ?_) ?_
  · simp [G, stepG, Go.unwind, doReturn, results, Frame.at, baseD, bot, Tryd.func10, Tryd.f10, seen, GStep.after, goexitEntry]
  refine QuitsD.ctl (g' := { G bot [] with status := .finished }) rfl (fun w => ?_) ⟨rfl, rfl⟩
  simp [G, stepG, Go.unwind, bot, goexitEntry, Frame.catches]
  rfl

set_option maxRecDepth 100000 in
theorem worker_tree {Q : Value → Prop} {φ : Ph} {tss : List (List Tap)} {ag : Int} {bt bp bd : Nat} {H : Hp} (j : Job H φ tss ag bt bp bd) (ho : H.own = fun _ => none) :
    Tree Tryd.prog (company Tryd.prog Q) false (born Tryd.prog (wkCall φ bt bp bd)) H (.wk φ 0 none) := by
  refine .ctl (g' := G ((baseD 10).at ⟨#[.pointer (some ⟨φ.wg, 0, none⟩), .pointer (some ⟨bt, 0, none⟩), .pointer (some ⟨bp, 0, none⟩), .pointer (some ⟨φ.pc, 0, none⟩), .pointer (some ⟨bd, 0, none⟩), undef, undef, undef, undef, undef, undef, undef, undef, undef, undef, undef, undef, undef, undef, undef, undef, undef, undef, undef, undef, undef], []⟩ [.code body10]) [bot]) rfl (fun w => ?_) ?_
  · simp [born, wkCall, stepG, Go.unwind, callDeferred, invoke, callFunc, Tryd.func10, Tryd.f10, seen, GStep.after, G, Frame.enter, Frame.at, baseD, bot, body10]
  refine worker_body j ho (fun a' H' hd hp hdef => ?_) (baseD 10) [] [bot] rfl (by simp [baseD]) (fun e a' H' γ' q => (q : (fun e a' H' γ' => After Tryd.prog (company Tryd.prog Q) false (baseD 10) [] [bot] e a' H' γ') e a' H' γ'))
  obtain ⟨tmps, ds⟩ := a'
  simp only at hdef
  subst hdef
  refine .ctl rfl (fun w => stepG_end) ?_
  refine .ctl rfl (fun w => stepG_unwind_enter (b := baseD 10) (a := ⟨tmps, _⟩) rfl Tryd.func11 (by kernel_rfl) rfl) ?_
  exact done_tree (φ := φ) hd hp rfl (quits10 tmps)
end Go.Proofs.YtcomjkbfmklfnaaDoor
