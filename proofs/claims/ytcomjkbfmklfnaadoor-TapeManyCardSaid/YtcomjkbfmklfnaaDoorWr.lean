/-
  The feeder: Many$2. Conditions: none.
-/
import Derived.Test.YtcomjkbfmklfnaaDoorWq
import Derived.Test.YtcomjkbfmklfnaaDoorWo
set_option linter.unusedSimpArgs false
set_option linter.unusedVariables false
namespace Go.Sep
open Go.Conc
section
variable {Γ κ : Type} {P : Program} {Y : Proto Γ κ} {main : Bool} {fn : FuncId} {a : Act} {H : Hp} {γ : Γ}
theorem tree_seq {b : Frame} {k : List Item} {cs : List Frame} {x y : Code} (hb : b.fn = fn) (hk : b.kind ≠ .early)
    (h : ∀ R : Exit → Act → Hp → Γ → Prop, (∀ a' H' γ', Tree P Y main (G (b.at a' (.code y :: k)) cs) H' γ' → R .normal a' H' γ') → wpT P Y main fn x R a H γ) : Tree P Y main (G (b.at a (.code (.seq x y) :: k)) cs) H γ :=
  .ctl rfl (fun w => stepG_seq) (h (fun e a' H' γ' => e = .normal ∧ Tree P Y main (G (b.at a' (.code y :: k)) cs) H' γ') (fun _ _ _ x => ⟨rfl, x⟩) b (.code y :: k) cs hb hk fun e a' H' γ' q => by obtain ⟨rfl, t⟩ := q; exact t)
end
end Go.Sep
namespace Go.Proofs.YtcomjkbfmklfnaaDoor
open Go.Conc Go.Sep
open Go.ConcR (KK wgBlock WgAt stA smA)
open Go.Conc.Lib

theorem closeEv_eq (c : Nat) : closeEvents c = closeEv c := rfl

def fdLeft : Gh → Nat
  | .fd φ k => φ.m - k
  | _ => 0
noncomputable def body12 : Code := Tryd.f12.body.getD .skip
def fdCall (φ : Ph) (bt bp bd : Nat) : Deferred := { target := .fn (.func 12) #[.pointer (some ⟨bp, 0, none⟩), .pointer (some ⟨bt, 0, none⟩), .pointer (some ⟨φ.wg, 0, none⟩), .pointer (some ⟨bd, 0, none⟩)], args := #[] }

theorem quits12 (T : Array Value) : QuitsD Tryd.prog 2 0 (G { (baseD 12).at ⟨T, []⟩ [] with mode := .returning } [bot]) := by
  refine QuitsD.ctl (g' := G bot []) rfl (fun w => ?_) ?_
  · simp [G, stepG, Go.unwind, doReturn, results, Frame.at, baseD, bot, Tryd.func12, Tryd.f12, seen, GStep.after, goexitEntry]
  refine QuitsD.ctl (g' := { G bot [] with status := .finished }) rfl (fun w => ?_) ⟨rfl, rfl⟩
  simp [G, stepG, Go.unwind, bot, goexitEntry, Frame.catches]
  rfl
theorem loud12 : (Tryd.prog.funcs[12]?).any (·.norace) = false := by kernel_rfl

section
variable {Q : Value → Prop} {φ : Ph} {H : Hp} {fn : FuncId} {ops : Array Oper} {o : Oper} {os : List Oper} {K : Act → Hp → Gh → Prop} {a : Act} {ats : Array TypeId}
theorem opsL_closeT {x : Operand} (hd : H.d = 0) (hw : Region.wanted o (yielded ops a.tmps) = true) (hop : o.op = .call { callee := .builtin .close, args := #[x], argTypes := ats }) (hx : a.eval x = .chan (some φ.td)) (hq : (Tryd.prog.funcs[fn]?).any (·.norace) = false)
    (h : OpsL Tryd.prog (company Tryd.prog Q) false fn ops os K (a.put o.dst (.tuple #[])) H (.fw φ (.load φ.n))) :
    OpsL Tryd.prog (company Tryd.prog Q) false fn ops (o :: os) K a H (.fd φ φ.m) := by
  refine opsL_meet .closeT fun fr i rest k cs ho hk hfn => ?_
  have fit : ∀ w s r tm, View H w → w.heap[φ.td]? = some (.chan 0 #[] false s r tm) → stepG Tryd.prog false (G (fr.at a (.inRegion ops (i :: rest) :: k)) cs) w = .go (G (fr.at (a.put o.dst (.tuple #[])) (.inRegion ops rest :: k)) cs) (w.setChan φ.td 0 #[] true s r tm) (closeEv φ.td) :=
    fun w s r tm _ hc => stepG_close ho hw hk hop hx hc (by rw [hfn]; exact hq)
  refine ⟨⟨rfl, φ, _, rfl, hd, rfl, by simp [mayWake, G, Frame.at, ho, hop], rfl, fit⟩, fun g' H' γ' hout => ?_⟩
  obtain ⟨φ', e, hH, rfl, h3⟩ := hout
  cases e
  rw [hH]
  exact ⟨_, h3 _ fit, h⟩

theorem tree_op {b : Frame} {i : Nat} {rest : List Nat} {k : List Item} {cs : List Frame} {γ : Gh} (ho : ops[i]? = some o) (hw : Region.wanted o (yielded ops a.tmps) = true) (hk : b.kind ≠ .early)
    (h : SemS Tryd.prog (execOp a.eval o) H fun nx H' => ∃ v, nx = .value v ∧ Tree Tryd.prog (company Tryd.prog Q) false (G (b.at (a.put o.dst v) (.inRegion ops rest :: k)) cs) H' γ) :
    Tree Tryd.prog (company Tryd.prog Q) false (G (b.at a (.inRegion ops (i :: rest) :: k)) cs) H γ := by
  refine .lone rfl fun w v => ?_
  obtain ⟨nx, w', H', hr, hu, x, rfl, hK⟩ := h.op v
  exact ⟨_, w', _, H', stepG_value ho hw hk hr, hu.seen b.fn, hK⟩
end

set_option maxRecDepth 100000 in
set_option maxHeartbeats 4000000 in
theorem feeder_body {Q : Value → Prop} {φ : Ph} (hn16 : φ.n ≤ 16) {tss : List (List Tap)} {ag : Int} {bt bp bd : Nat} {H : Hp} (j : Job H φ tss ag bt bp bd) (ho : H.own = fun _ => none) :
    Tree Tryd.prog (company Tryd.prog Q) false (G ((baseD 12).at ⟨#[.pointer (some ⟨bp, 0, none⟩), .pointer (some ⟨bt, 0, none⟩), .pointer (some ⟨φ.wg, 0, none⟩), .pointer (some ⟨bd, 0, none⟩), undef, undef, undef, undef, undef, undef, undef, undef, undef, undef, undef, undef], []⟩ [.code body12]) [bot]) H (.fd φ 0) := by
  simp only [body12, Tryd.f12, Option.getD_some]
  have own0 : ∀ b, H.own b = none := fun b => by rw [ho]
  obtain ⟨a, cap, hbp, hts⟩ := j.tp
  have cp := cell_ro0 hbp (own0 bp)
  have ct := cell_ro0 j.td (own0 bt)
  have cd := cell_ro0 j.dn (own0 bd)
  have hm := j.m
  have hm20 := j.m20
  refine tree_seq rfl (by simp [baseD]) (fun R hR => ?_)
  refine wpT_seq_reg (fun K hK => ?_)
  refine opsL_cons rfl (fun K1 hK1 => ?_)
  simp only [execOp, uponT, resolve, Deferred.ofValue, invoke, builtin, asBool, Instr.makeFunc, Instr.extract, sx, Act.put, Act.eval, nrm, semS_loadAt one22 cp]
  refine hK1 _ _ _ ?_; clear hK1 K1
  refine opsL_cons rfl (fun K1 hK1 => ?_)
  simp only [execOp, uponT, resolve, Deferred.ofValue, invoke, builtin, asBool, Instr.makeFunc, Instr.extract, sx, Act.put, Act.eval, nrm]
  refine hK1 _ _ _ ?_; clear hK1 K1
  refine opsL_cons rfl (fun K1 hK1 => ?_)
  simp only [execOp, uponT, resolve, Deferred.ofValue, invoke, builtin, asBool, Instr.makeFunc, Instr.extract, sx, Act.put, Act.eval, nrm]
  refine hK1 _ _ _ ?_; clear hK1 K1
  refine opsL_nil (hK _ _ _ ?_); clear hK K
  refine wpT_block_loop (fun a' Hc γc => Hc = H ∧ ∃ k : Nat, k ≤ φ.m ∧ γc = .fd φ k ∧ ∃ S : Nat → Value, a' = ⟨#[.pointer (some ⟨bp, 0, none⟩), .pointer (some ⟨bt, 0, none⟩), .pointer (some ⟨φ.wg, 0, none⟩), .pointer (some ⟨bd, 0, none⟩), S 4, S 5, .int .i64 tss.length, .int .i64 k, S 8, S 9, S 10, S 11, S 12, S 13, S 14, S 15], []⟩) (fun _ _ γc => fdLeft γc) ?_ ?_
  · exact ⟨rfl, 0, Nat.zero_le _, rfl, slots rfl⟩
  rintro _ _ _ ⟨rfl, k, hk, rfl, S, rfl⟩ Again Out hAgain hOut
  by_cases hkm : k < φ.m
  ·
    have c1 : decide ((k : Int) < (tss.length : Int)) = true := decide_eq_true (by omega)
    have m1 : IntKind.i64.wrap ((k : Int) + 1) = ((k + 1 : Nat) : Int) := wrap_succ _ (by omega)
    refine wpT_seq_reg (fun K hK => ?_)
    refine opsL_cons rfl (fun K1 hK1 => ?_)
    simp only [execOp, uponT, resolve, Deferred.ofValue, invoke, builtin, asBool, Instr.makeFunc, Instr.extract, sx, Act.put, Act.eval, nrm, c1]
    refine hK1 _ _ _ ?_; clear hK1 K1
    refine opsL_nil (hK _ _ _ ?_); clear hK K
    refine wpT_seq ?_
    refine wpT_cond (t := true) rfl ?_
    simp only [if_true, if_false, Bool.false_eq_true, reduceIte]
    refine wpT_skip ?_
    simp only [thenT]
    refine wpT_seq ?_
    refine wpT_block ?_
    refine wpT_seq_reg (fun K hK => ?_)
    refine opsL_cons rfl (fun K1 hK1 => ?_)
    simp only [execOp, uponT, resolve, Deferred.ofValue, invoke, builtin, asBool, Instr.makeFunc, Instr.extract, sx, Act.put, Act.eval, nrm]
    refine hK1 _ _ _ ?_; clear hK1 K1
    refine opsL_cons rfl (fun K1 hK1 => ?_)
    simp only [execOp, uponT, resolve, Deferred.ofValue, invoke, builtin, asBool, Instr.makeFunc, Instr.extract, sx, Act.put, Act.eval, nrm]
    refine hK1 _ _ _ ?_; clear hK1 K1
    refine opsL_nil (hK _ _ _ ?_); clear hK K
    refine wpT_reg (fun K hK => ?_)
    refine opsL_cons rfl (fun K1 hK1 => ?_)
    simp only [execOp, uponT, resolve, Deferred.ofValue, invoke, builtin, asBool, Instr.makeFunc, Instr.extract, sx, Act.put, Act.eval, nrm, semS_loadAt one40 ct]
    refine hK1 _ _ _ ?_; clear hK1 K1
    refine opsL_cons rfl (fun K1 hK1 => ?_)
    simp only [execOp, uponT, resolve, Deferred.ofValue, invoke, builtin, asBool, Instr.makeFunc, Instr.extract, sx, Act.put, Act.eval, nrm]
    refine hK1 _ _ _ ?_; clear hK1 K1
    refine opsL_comm .sendT rfl (cases := #[scase φ.td (numV k) (.tuple #[])]) (shape := .send) (fun w => by simp [go_sem, scase, numV]) (fun w => by simp [go_sem])
      (fun g hs hg => ⟨rfl, φ, k, _, rfl, hkm, j.d, hs, fun w _ => hg w⟩) (fun g g' H' γ' hx => ?_)
    obtain ⟨φ', k', e, hH, rfl, rfl⟩ := hx
    cases e
    rw [hH]
    clear hH
    refine ⟨_, rfl, ?_⟩
    simp only [Act.put, Act.eval, nrm]
    refine opsL_nil (hK _ _ _ ?_); clear hK K
    simp only [thenT, inBlockT]
    refine wpT_reg (fun K hK => ?_)
    refine opsL_cons rfl (fun K1 hK1 => ?_)
    simp only [execOp, uponT, resolve, Deferred.ofValue, invoke, builtin, asBool, Instr.makeFunc, Instr.extract, sx, Act.put, Act.eval, nrm, m1]
    refine hK1 _ _ _ ?_; clear hK1 K1
    refine opsL_cons rfl (fun K1 hK1 => ?_)
    simp only [execOp, uponT, resolve, Deferred.ofValue, invoke, builtin, asBool, Instr.makeFunc, Instr.extract, sx, Act.put, Act.eval, nrm]
    refine hK1 _ _ _ ?_; clear hK1 K1
    refine opsL_nil (hK _ _ _ ?_); clear hK K
    simp only [thenT, inBlockT, loopQ, reduceIte, Nat.reduceEqDiff]
    refine hAgain _ _ _ ⟨rfl, k + 1, hkm, rfl, slots rfl⟩ ?_
    simp only [fdLeft]; omega
  ·
    have c1 : decide ((k : Int) < (tss.length : Int)) = false := decide_eq_false (by omega)
    obtain rfl : k = φ.m := by omega
    refine wpT_seq_reg (fun K hK => ?_)
    refine opsL_cons rfl (fun K1 hK1 => ?_)
    simp only [execOp, uponT, resolve, Deferred.ofValue, invoke, builtin, asBool, Instr.makeFunc, Instr.extract, sx, Act.put, Act.eval, nrm, c1]
    refine hK1 _ _ _ ?_; clear hK1 K1
    refine opsL_nil (hK _ _ _ ?_); clear hK K
    refine wpT_seq ?_
    refine wpT_cond (t := false) rfl ?_
    simp only [if_true, if_false, Bool.false_eq_true, reduceIte]
    refine wpT_exit ?_
    simp only [thenT, inBlockT, loopQ, reduceIte, Nat.reduceEqDiff]
    refine hOut _ _ _ (hR _ _ _ ?_)
    clear hOut hAgain hR
    refine tree_seq rfl (by simp [baseD]) (fun R hR => ?_)
    refine wpT_reg (fun K hK => ?_)
    refine opsL_cons rfl (fun K1 hK1 => ?_)
    simp only [execOp, uponT, resolve, Deferred.ofValue, invoke, builtin, asBool, Instr.makeFunc, Instr.extract, sx, Act.put, Act.eval, nrm, semS_loadAt one40 ct]
    refine hK1 _ _ _ ?_; clear hK1 K1
    refine opsL_closeT j.d rfl rfl rfl loud12 ?_
    simp only [Act.put, Act.eval, nrm]
    refine opsL_nil (hK _ _ _ ?_); clear hK K
    refine hR _ _ _ ?_
    clear hR
    refine tree_seq rfl (by simp [baseD]) (fun R hR => ?_)
    refine wpT_reg (fun K hK => ?_)
    refine opsL_cons rfl (fun K1 hK1 => ?_)
    simp only [execOp, uponT, resolve, Deferred.ofValue, invoke, builtin, asBool, Instr.makeFunc, Instr.extract, sx, Act.put, Act.eval, nrm, List.extract_toArray, List.extract_eq_take_drop, List.drop_succ_cons, List.drop_zero, List.take_succ_cons, List.take_zero, List.size_toArray, List.length_cons, List.length_nil, Nat.reduceAdd, Nat.reduceSub, call13]
    refine (wait_calls hn16 j.d).mono ?_
    rintro _ H3 γ3 ⟨hH3, hγ3⟩
    rw [hH3, hγ3]
    clear hH3 hγ3
    refine hK1 _ _ _ ?_; clear hK1 K1
    refine opsL_nil (hK _ _ _ ?_); clear hK K
    refine hR _ _ _ ?_
    clear hR
    refine .ctl rfl (fun w => stepG_region) ?_
    simp only [List.size_toArray, List.length_cons, List.length_nil, Nat.reduceAdd, Nat.zero_add, List.range, List.range.loop]
    refine tree_op rfl rfl (by simp [baseD]) ?_
    simp only [List.getElem_toArray, List.getElem_cons_zero]
    simp only [execOp, uponT, resolve, Deferred.ofValue, invoke, builtin, asBool, Instr.makeFunc, Instr.extract, sx, Act.put, Act.eval, nrm, semS_loadAt one41 cd]
    refine ⟨_, rfl, ?_⟩
    refine .meet .closeD ⟨rfl, φ, _, 4, rfl, j.d, rfl, by simp [mayWake, G, Frame.at], ?_, fun w buf s r tm v hc => stepG_close rfl rfl (by simp [baseD]) rfl rfl hc loud12⟩ fun _ _ _ h => h.elim
    simp only [Act.put, Act.eval, nrm]
    refine QuitsD.ctl rfl (fun _ => stepG_region_end) ?_
    refine QuitsD.ctl rfl (fun _ => stepG_end) ?_
    exact quits12 _

set_option maxRecDepth 100000 in
theorem feeder_tree {Q : Value → Prop} {φ : Ph} (hn16 : φ.n ≤ 16) {tss : List (List Tap)} {ag : Int} {bt bp bd : Nat} {H : Hp} (j : Job H φ tss ag bt bp bd) (ho : H.own = fun _ => none) :
    Tree Tryd.prog (company Tryd.prog Q) false (born Tryd.prog (fdCall φ bt bp bd)) H (.fd φ 0) := by
  refine .ctl rfl (fun w => ?_) (feeder_body hn16 j ho)
  simp [born, fdCall, stepG, Go.unwind, callDeferred, invoke, callFunc, Tryd.func12, Tryd.f12, seen, GStep.after, G, Frame.enter, Frame.at, baseD, bot, body12]
end Go.Proofs.YtcomjkbfmklfnaaDoor
