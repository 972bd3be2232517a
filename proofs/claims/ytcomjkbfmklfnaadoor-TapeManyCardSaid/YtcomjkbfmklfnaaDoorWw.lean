/-
  Many, by its contract. Conditions: none.
-/
import Derived.Test.YtcomjkbfmklfnaaDoorWv
set_option linter.unusedSimpArgs false
set_option linter.unusedVariables false
namespace Go.Proofs.YtcomjkbfmklfnaaDoor
open Go.Conc Go.Sep
open Go.ConcR (KK wgBlock)

set_option maxRecDepth 100000 in
set_option maxHeartbeats 8000000 in
theorem many_calls {Qv : Value → Prop} {H₀ : Hp} (hap : Ap H₀) (hd : H₀.d = 0) {tss : List (List Tap)} (hm : tss.length ≤ 20) {a : Option Addr} {cap : Nat} (hts : TapesR H₀.ro a tss) (ag : Int) {n : Nat} (hn1 : 1 ≤ n) (hn16 : n ≤ 16) :
    CallsT Tryd.prog (company Tryd.prog Qv) true 5 #[.slice a tss.length cap, .int .i64 ag, .int .i64 n] H₀ .lone (fun v H' γ' => γ' = .lone ∧ ManyPost tss ag H₀ H' v) := by
  refine callsT_enter (T := [.slice a tss.length cap, .int .i64 ag, .int .i64 n, undef, undef, undef, undef, undef, undef, undef, undef, undef, undef, undef, undef, undef, undef, undef, undef, undef, undef, undef, undef, undef, undef, undef, undef, undef, undef, undef, undef, undef, undef, undef, undef, undef, undef, undef, undef, undef, undef, undef, undef, undef, undef, undef, undef, undef, undef, undef, undef, undef, undef, undef, undef, undef, undef, undef, undef, undef, undef, undef, undef, undef, undef, undef, undef, undef]) Tryd.func5 rfl Tryd.ntmps5 rfl (fun Q hret hnorm hless => ?_)
  refine wpT_seq_reg (fun K hK => ?_)
  refine opsL_cons rfl (fun K1 hK1 => ?_)
  simp only [execOp, uponT, resolve, Deferred.ofValue, invoke, builtin, asBool, Instr.makeFunc, Instr.extract, sx, Act.put, Act.eval, nrm, semS_box, Value.cells]
  intro bp hp1 hp2
  generalize e1 : H₀.set bp (.cells #[.slice a tss.length cap] 22 (0, 0)) = H1 at hK1 ⊢
  refine hK1 _ _ _ ?_; clear hK1 K1
  refine opsL_cons rfl (fun K1 hK1 => ?_)
  simp only [execOp, uponT, resolve, Deferred.ofValue, invoke, builtin, asBool, Instr.makeFunc, Instr.extract, sx, Act.put, Act.eval, nrm, semS_box, Value.cells]
  intro pc hq1 hq2
  generalize e2 : H1.set pc (.cells #[.int .i64 ag] 3 (0, 0)) = H2 at hK1 ⊢
  refine hK1 _ _ _ ?_; clear hK1 K1
  refine opsL_cons rfl (fun K1 hK1 => ?_)
  simp only [execOp, uponT, resolve, Deferred.ofValue, invoke, builtin, asBool, Instr.makeFunc, Instr.extract, sx, Act.put, Act.eval, nrm]
  refine hK1 _ _ _ ?_; clear hK1 K1
  refine opsL_cons rfl (fun K1 hK1 => ?_)
  simp only [execOp, uponT, resolve, Deferred.ofValue, invoke, builtin, asBool, Instr.makeFunc, Instr.extract, sx, Act.put, Act.eval, nrm]
  refine hK1 _ _ _ ?_; clear hK1 K1
  refine opsL_nil (hK _ _ _ ?_); clear hK K
  have x1 : Ext H₀ H1 := e1 ▸ (Ext.refl hap).new hp1 hp2 _
  have x2 : Ext H1 H2 := e2 ▸ (Ext.refl x1.ap).new hq1 hq2 _
  have obp : H2.own bp = some (.cells #[.slice a tss.length cap] 22 (0, 0)) := x2.own _ _ (by rw [← e1]; exact set_own_same _ _ _)
  have cbp := (cell_own obp 0).trans (show _ = some (Value.slice a tss.length cap) from rfl)
  have c1 : decide ((tss.length : Int) > 100) = false := decide_eq_false (by omega)
  have c2 : decide ((n : Int) < 1) = false := decide_eq_false (by omega)
  have c3 : decide ((n : Int) > 16) = false := decide_eq_false (by omega)
  refine wpT_seq ?_
  refine wpT_seq_reg (fun K hK => ?_)
  refine opsL_cons rfl (fun K1 hK1 => ?_)
  simp only [execOp, uponT, resolve, Deferred.ofValue, invoke, builtin, asBool, Instr.makeFunc, Instr.extract, sx, Act.put, Act.eval, nrm, semS_loadAt one22 cbp]
  refine hK1 _ _ _ ?_; clear hK1 K1
  refine opsL_cons rfl (fun K1 hK1 => ?_)
  simp only [execOp, uponT, resolve, Deferred.ofValue, invoke, builtin, asBool, Instr.makeFunc, Instr.extract, sx, Act.put, Act.eval, nrm]
  refine hK1 _ _ _ ?_; clear hK1 K1
  refine opsL_cons rfl (fun K1 hK1 => ?_)
  simp only [execOp, uponT, resolve, Deferred.ofValue, invoke, builtin, asBool, Instr.makeFunc, Instr.extract, sx, Act.put, Act.eval, nrm, c1]
  refine hK1 _ _ _ ?_; clear hK1 K1
  refine opsL_cons rfl (fun K1 hK1 => ?_)
  simp only [execOp, uponT, resolve, Deferred.ofValue, invoke, builtin, asBool, Instr.makeFunc, Instr.extract, sx, Act.put, Act.eval, nrm]
  refine hK1 _ _ _ ?_; clear hK1 K1
  refine opsL_cons rfl (fun K1 hK1 => ?_)
  simp only [execOp, uponT, resolve, Deferred.ofValue, invoke, builtin, asBool, Instr.makeFunc, Instr.extract, sx, Act.put, Act.eval, nrm]
  refine hK1 _ _ _ ?_; clear hK1 K1
  refine opsL_cons rfl (fun K1 hK1 => ?_)
  simp only [execOp, uponT, resolve, Deferred.ofValue, invoke, builtin, asBool, Instr.makeFunc, Instr.extract, sx, Act.put, Act.eval, nrm, c2]
  refine hK1 _ _ _ ?_; clear hK1 K1
  refine opsL_cons rfl (fun K1 hK1 => ?_)
  simp only [execOp, uponT, resolve, Deferred.ofValue, invoke, builtin, asBool, Instr.makeFunc, Instr.extract, sx, Act.put, Act.eval, nrm, Bool.false_eq_true, if_false]
  refine hK1 _ _ _ ?_; clear hK1 K1
  refine opsL_cons rfl (fun K1 hK1 => ?_)
  simp only [execOp, uponT, resolve, Deferred.ofValue, invoke, builtin, asBool, Instr.makeFunc, Instr.extract, sx, Act.put, Act.eval, nrm]
  refine hK1 _ _ _ ?_; clear hK1 K1
  refine opsL_cons rfl (fun K1 hK1 => ?_)
  simp only [execOp, uponT, resolve, Deferred.ofValue, invoke, builtin, asBool, Instr.makeFunc, Instr.extract, sx, Act.put, Act.eval, nrm]
  refine hK1 _ _ _ ?_; clear hK1 K1
  refine opsL_cons rfl (fun K1 hK1 => ?_)
  simp only [execOp, uponT, resolve, Deferred.ofValue, invoke, builtin, asBool, Instr.makeFunc, Instr.extract, sx, Act.put, Act.eval, nrm, c3]
  refine hK1 _ _ _ ?_; clear hK1 K1
  refine opsL_cons rfl (fun K1 hK1 => ?_)
  simp only [execOp, uponT, resolve, Deferred.ofValue, invoke, builtin, asBool, Instr.makeFunc, Instr.extract, sx, Act.put, Act.eval, nrm, Bool.false_eq_true, if_false]
  refine hK1 _ _ _ ?_; clear hK1 K1
  refine opsL_nil (hK _ _ _ ?_); clear hK K
  refine wpT_cond (t := false) rfl ?_
  simp only [if_true, if_false, Bool.false_eq_true, reduceIte]
  refine wpT_skip ?_
  simp only [thenT]
  refine wpT_seq ?_
  refine region3' (company Tryd.prog Qv) true x2.ap rfl (fun T hT c0 c1 b2 b3 H h3 => ?_)
  have hT2 : T 2 = .int .i64 n := hT 2 (by decide)
  have hT3 : T 3 = .pointer (some ⟨bp, 0, none⟩) := hT 3 (by decide)
  have hT4 : T 4 = .pointer (some ⟨pc, 0, none⟩) := hT 4 (by decide)
  clear hT c2 c3 cbp obp x1 x2
  simp only [thenT, mnT, ptrO, chO, hT2, hT3, hT4]
  refine wpT_seq_reg (fun K hK => ?_)
  refine opsL_cons rfl (fun K1 hK1 => ?_)
  simp only [execOp, uponT, resolve, Deferred.ofValue, invoke, builtin, asBool, Instr.makeFunc, Instr.extract, sx, Act.put, Act.eval, nrm, semS_alloc info51 zero51, Value.cells]
  intro wg hw1 hw2
  refine hK1 _ _ _ ?_; clear hK1 K1
  refine opsL_nil (hK _ _ _ ?_); clear hK K
  obtain ⟨H5, hopen, mn, ok⟩ := open_mn hap hd hm hts hp1 hp2 e1.symm hq1 hq2 e2.symm h3 hw1 hw2 hn1 hn16
  refine hopen _ _ _ _ ?_
  have hφn : (phOf c0 c1 wg n pc tss ag).n = n := rfl
  have hφwg : (phOf c0 c1 wg n pc tss ag).wg = wg := rfl
  have hφpc : (phOf c0 c1 wg n pc tss ag).pc = pc := rfl
  have hφdn : (phOf c0 c1 wg n pc tss ag).dn = c1 := rfl
  have hφm : (phOf c0 c1 wg n pc tss ag).m = tss.length := rfl
  have hφz : (phOf c0 c1 wg n pc tss ag).zw = zw54 := rfl
  have hφr : (phOf c0 c1 wg n pc tss ag).res = resOf tss ag := rfl
  generalize phOf c0 c1 wg n pc tss ag = φ at mn ok hφn hφwg hφpc hφdn hφm hφz hφr ⊢
  clear hopen h3 hw1 hw2 hq1 hq2 hp1 hp2 e1 e2 H H1 H2
  refine wpT_seq ?_
  refine wpT_seq_reg (fun K hK => ?_)
  refine opsL_cons rfl (fun K1 hK1 => ?_)
  simp only [execOp, uponT, resolve, Deferred.ofValue, invoke, builtin, asBool, Instr.makeFunc, Instr.extract, sx, Act.put, Act.eval, nrm]
  refine hK1 _ _ _ ?_; clear hK1 K1
  refine opsL_cons rfl (fun K1 hK1 => ?_)
  simp only [execOp, uponT, resolve, Deferred.ofValue, invoke, builtin, asBool, Instr.makeFunc, Instr.extract, sx, Act.put, Act.eval, nrm]
  refine hK1 _ _ _ ?_; clear hK1 K1
  refine opsL_nil (hK _ _ _ ?_); clear hK K
  refine wpT_block_loop (fun a' Hc γc => ∃ j : Nat, j ≤ n ∧ γc = .opn φ j ∧ Mn H₀ Hc φ tss ag b2 bp b3 j ∧ ∃ S : Nat → Value, a' = ⟨#[S 0, S 1, .int .i64 n, .pointer (some ⟨bp, 0, none⟩), .pointer (some ⟨pc, 0, none⟩), S 5, S 6, S 7, .pointer (some ⟨b2, 0, none⟩), .pointer (some ⟨b3, 0, none⟩), .pointer (some ⟨wg, 0, none⟩), S 11, S 12, S 13, S 14, S 15, S 16, S 17, S 18, S 19, S 20, S 21, S 22, S 23, S 24, S 25, S 26, S 27, .int .i64 n, .int .i64 j, S 30, S 31, S 32, S 33, S 34, S 35, S 36, S 37, S 38, S 39, S 40, S 41, S 42, S 43, S 44, S 45, S 46, S 47, S 48, S 49, S 50, S 51, S 52, S 53, S 54, S 55, S 56, S 57, S 58, S 59, S 60, S 61, S 62, S 63, S 64, S 65, S 66, S 67], []⟩) (fun _ _ γc => mainLeft γc) ?_ ?_
  · exact ⟨0, Nat.zero_le _, rfl, mn, slots rfl⟩
  clear mn H5
  rintro _ Hc _ ⟨j, hj, rfl, mn, S, rfl⟩ Again Out hAgain hOut
  by_cases hjn : j < n
  ·
    have d1 : decide ((j : Int) < (n : Int)) = true := decide_eq_true (by omega)
    have m1 : IntKind.i64.wrap ((j : Int) + 1) = ((j + 1 : Nat) : Int) := wrap_succ _ (by omega)
    have owg := mn.wg
    rw [hφwg] at owg
    refine wpT_seq_reg (fun K hK => ?_)
    refine opsL_cons rfl (fun K1 hK1 => ?_)
    simp only [execOp, uponT, resolve, Deferred.ofValue, invoke, builtin, asBool, Instr.makeFunc, Instr.extract, sx, Act.put, Act.eval, nrm, d1]
    refine hK1 _ _ _ ?_; clear hK1 K1
    refine opsL_nil (hK _ _ _ ?_); clear hK K
    refine wpT_seq ?_
    refine wpT_cond (t := true) rfl ?_
    simp only [if_true, if_false, Bool.false_eq_true, reduceIte]
    refine wpT_skip ?_
    simp only [thenT]
    refine wpT_seq ?_
    refine wpT_block ?_
    refine wpT_seq_reg (fun K hK => ?_)
    refine opsL_cons rfl (fun K1 hK1 => ?_)
    simp only [execOp, uponT, resolve, Deferred.ofValue, invoke, builtin, asBool, Instr.makeFunc, Instr.extract, sx, Act.put, Act.eval, nrm, List.extract_toArray, List.extract_eq_take_drop, List.drop_succ_cons, List.drop_zero, List.take_succ_cons, List.take_zero, List.size_toArray, List.length_cons, List.length_nil, Nat.reduceAdd, Nat.reduceSub, call9]
    refine (add_calls (company Tryd.prog Qv) true (show j < 16 by omega) owg).mono ?_
    rintro x H6 _ ⟨hH6, rfl⟩
    have mn' := mn.next
    rw [hφwg, ← hH6] at mn'
    clear hH6 owg mn
    refine hK1 _ _ _ ?_; clear hK1 K1
    refine opsL_nil (hK _ _ _ ?_); clear hK K
    refine wpT_reg (fun K hK => ?_)
    refine opsL_cons rfl (fun K1 hK1 => ?_)
    simp only [execOp, uponT, resolve, Deferred.ofValue, invoke, builtin, asBool, Instr.makeFunc, Instr.extract, sx, Act.put, Act.eval, nrm]
    refine hK1 _ _ _ ?_; clear hK1 K1
    refine opsL_go (d := wkCall φ b2 bp b3) rfl (fun w => by simp [go_sem, wkCall, Deferred.ofValue, hφwg, hφpc]) (fun w => by simp [go_sem, Deferred.ofValue]) rfl ⟨mn'.job.d, rfl, .inl ⟨φ, j, rfl, by omega, rfl, rfl, rfl⟩⟩ (worker_tree mn'.job.kid rfl) ?_
    simp only [Act.put, Act.eval, nrm]
    refine opsL_nil (hK _ _ _ ?_); clear hK K
    simp only [thenT, inBlockT]
    refine wpT_reg (fun K hK => ?_)
    refine opsL_cons rfl (fun K1 hK1 => ?_)
    simp only [execOp, uponT, resolve, Deferred.ofValue, invoke, builtin, asBool, Instr.makeFunc, Instr.extract, sx, Act.put, Act.eval, nrm, m1]
    refine hK1 _ _ _ ?_; clear hK1 K1
    refine opsL_cons rfl (fun K1 hK1 => ?_)
    simp only [execOp, uponT, resolve, Deferred.ofValue, invoke, builtin, asBool, Instr.makeFunc, Instr.extract, sx, Act.put, Act.eval, nrm]
    refine hK1 _ _ _ ?_; clear hK1 K1
    refine opsL_nil (hK _ _ _ ?_); clear hK K
    simp only [thenT, inBlockT, loopQ, reduceIte, Nat.reduceEqDiff]
    refine hAgain _ _ _ ⟨j + 1, hjn, rfl, mn', slots rfl⟩ ?_
    simp only [mainLeft]; omega
  ·
    have d1 : decide ((j : Int) < (n : Int)) = false := decide_eq_false (by omega)
    obtain rfl : j = n := by omega
    refine wpT_seq_reg (fun K hK => ?_)
    refine opsL_cons rfl (fun K1 hK1 => ?_)
    simp only [execOp, uponT, resolve, Deferred.ofValue, invoke, builtin, asBool, Instr.makeFunc, Instr.extract, sx, Act.put, Act.eval, nrm, d1]
    refine hK1 _ _ _ ?_; clear hK1 K1
    refine opsL_nil (hK _ _ _ ?_); clear hK K
    refine wpT_seq ?_
    refine wpT_cond (t := false) rfl ?_
    simp only [if_true, if_false, Bool.false_eq_true, reduceIte]
    refine wpT_exit ?_
    simp only [thenT, inBlockT, loopQ, reduceIte, Nat.reduceEqDiff]
    refine hOut _ _ _ ?_
    simp only [thenT]
    clear hOut hAgain d1
    refine wpT_seq_reg (fun K hK => ?_)
    refine opsL_cons rfl (fun K1 hK1 => ?_)
    simp only [execOp, uponT, resolve, Deferred.ofValue, invoke, builtin, asBool, Instr.makeFunc, Instr.extract, sx, Act.put, Act.eval, nrm]
    refine hK1 _ _ _ ?_; clear hK1 K1
    have hwg : Hc.own φ.wg = some (wgBlock 51 ((φ.n : Int) * KK) 0) := by rw [mn.wg, hφn]; rfl
    have xd := mn.ext.drop1 mn.wg0
    have jd : Job (Hc.drop1 φ.wg) φ tss ag b2 bp b3 := mn.job.mono mn.job.d (fun _ _ x => x)
    refine opsL_go (d := fdCall φ b2 bp b3) rfl (fun w => by simp [go_sem, fdCall, Deferred.ofValue, hφwg]) (fun w => by simp [go_sem, Deferred.ofValue]) rfl ⟨mn.job.d, rfl, .inr ⟨φ, by rw [hφn], hwg, rfl, rfl, rfl⟩⟩ (feeder_tree (by omega) mn.job.kid rfl) ?_
    clear hwg mn
    generalize Hc.drop1 φ.wg = H6 at xd jd ⊢
    simp only [Act.put, Act.eval, nrm]
    refine opsL_nil (hK _ _ _ ?_); clear hK K
    obtain ⟨ax, capx, rbp, rts⟩ := jd.tp
    have cbp := cell_ro0 rbp (xd.ap _ (by rw [rbp]; simp))
    refine wpT_seq_reg (fun K hK => ?_)
    refine opsL_cons rfl (fun K1 hK1 => ?_)
    simp only [execOp, uponT, resolve, Deferred.ofValue, invoke, builtin, asBool, Instr.makeFunc, Instr.extract, sx, Act.put, Act.eval, nrm, semS_loadAt one22 cbp]
    refine hK1 _ _ _ ?_; clear hK1 K1
    refine opsL_cons rfl (fun K1 hK1 => ?_)
    simp only [execOp, uponT, resolve, Deferred.ofValue, invoke, builtin, asBool, Instr.makeFunc, Instr.extract, sx, Act.put, Act.eval, nrm]
    refine hK1 _ _ _ ?_; clear hK1 K1
    refine opsL_cons rfl (fun K1 hK1 => ?_)
    simp only [execOp, uponT, resolve, Deferred.ofValue, invoke, builtin, asBool, Instr.makeFunc, Instr.extract, sx, Act.put, Act.eval, nrm]
    refine semS_makeSl Tryd.underlying25 info33 size33 bytes33 zero33 tss.length (by omega) _ (fun OB cs0 hO1 hO2 hO hOs => ?_)
    refine hK1 _ _ _ ?_; clear hK1 K1
    refine opsL_cons rfl (fun K1 hK1 => ?_)
    simp only [execOp, uponT, resolve, Deferred.ofValue, invoke, builtin, asBool, Instr.makeFunc, Instr.extract, sx, Act.put, Act.eval, nrm]
    refine hK1 _ _ _ ?_; clear hK1 K1
    refine opsL_nil (hK _ _ _ ?_); clear hK K
    have xo := xd.new hO1 hO2 (.cells cs0 33 (0, 0))
    have oOB := set_own_same H6 OB (.cells cs0 33 (0, 0))
    have jo : Job (H6.set OB (.cells cs0 33 (0, 0))) φ tss ag b2 bp b3 := jd.mono jd.d (fun _ _ x => x)
    have zOB := xd.none' hO1
    have cbp' := cell_ro0 (H := H6.set OB (.cells cs0 33 (0, 0))) rbp (xo.ap _ (by rw [set_ro, rbp]; simp))
    generalize H6.set OB (.cells cs0 33 (0, 0)) = H7 at xo oOB jo cbp' ⊢
    refine wpT_seq_reg (fun K hK => ?_)
    refine opsL_cons rfl (fun K1 hK1 => ?_)
    simp only [execOp, uponT, resolve, Deferred.ofValue, invoke, builtin, asBool, Instr.makeFunc, Instr.extract, sx, Act.put, Act.eval, nrm, semS_loadAt one22 cbp']
    refine hK1 _ _ _ ?_; clear hK1 K1
    refine opsL_cons rfl (fun K1 hK1 => ?_)
    simp only [execOp, uponT, resolve, Deferred.ofValue, invoke, builtin, asBool, Instr.makeFunc, Instr.extract, sx, Act.put, Act.eval, nrm]
    refine hK1 _ _ _ ?_; clear hK1 K1
    refine opsL_cons rfl (fun K1 hK1 => ?_)
    simp only [execOp, uponT, resolve, Deferred.ofValue, invoke, builtin, asBool, Instr.makeFunc, Instr.extract, sx, Act.put, Act.eval, nrm, build54at]
    refine hK1 _ _ _ ?_; clear hK1 K1
    refine opsL_cons rfl (fun K1 hK1 => ?_)
    simp only [execOp, uponT, resolve, Deferred.ofValue, invoke, builtin, asBool, Instr.makeFunc, Instr.extract, sx, Act.put, Act.eval, nrm, semS_alloc info54 zero54, Value.cells]
    intro bf hf1 hf2
    refine hK1 _ _ _ ?_; clear hK1 K1
    refine opsL_cons rfl (fun K1 hK1 => ?_)
    simp only [execOp, uponT, resolve, Deferred.ofValue, invoke, builtin, asBool, Instr.makeFunc, Instr.extract, sx, Act.put, Act.eval, nrm, semS_storeAt3 info54 size54 (set_own_same _ _ _) (off := 0) (show 0 + 2 < (#[Value.int IntKind.i64 0, Value.slice none 0 0, Value.nilIface] : Array Value).size by simp) (x := .int .i64 tss.length) (y := .slice none 0 0) (z := .nilIface) rfl rfl rfl, set_set]
    refine hK1 _ _ _ ?_; clear hK1 K1
    refine opsL_nil (hK _ _ _ ?_); clear hK K
    have zbf := xo.none' hf1
    have xf := xo.new hf1 hf2 (.cells #[.int .i64 (tss.length : Int), .slice none 0 0, .nilIface] 54 (0, 0))
    have oBF := set_own_same H7 bf (.cells #[.int .i64 (tss.length : Int), .slice none 0 0, .nilIface] 54 (0, 0))
    have nOB : OB ≠ bf := by rintro rfl; rw [oOB] at hf1; cases hf1
    have oOB' : (H7.set bf (.cells #[.int .i64 (tss.length : Int), .slice none 0 0, .nilIface] 54 (0, 0))).own OB = some (.cells cs0 33 (0, 0)) := by rw [set_own_ne _ _ nOB]; exact oOB
    have jf : Job (H7.set bf (.cells #[.int .i64 (tss.length : Int), .slice none 0 0, .nilIface] 54 (0, 0))) φ tss ag b2 bp b3 := jo.mono jo.d (fun _ _ x => x)
    have rc : Rc H₀ (H7.set bf (.cells #[.int .i64 (tss.length : Int), .slice none 0 0, .nilIface] 54 (0, 0))) tss ag OB bf [] tss.length .nilIface cs0 :=
      ⟨xf, zOB, zbf, oOB', hOs, fun k hk => (by cases hk), oBF, .inl ⟨rfl, rfl, fun k hk => (by cases hk)⟩⟩
    generalize H7.set bf (.cells #[.int .i64 (tss.length : Int), .slice none 0 0, .nilIface] 54 (0, 0)) = H8 at rc jf ⊢
    clear rts xf oBF nOB oOB' zbf xo oOB jo zOB cbp' hO1 hO2 hO hOs hf1 hf2 H7 xd jd rbp cbp H6 Hc
    have cdn := cell_ro0 jf.dn (rc.ext.ap _ (by rw [jf.dn]; simp))
    refine wpT_seq ?_
    refine wpT_seq_reg (fun K hK => ?_)
    refine opsL_cons rfl (fun K1 hK1 => ?_)
    simp only [execOp, uponT, resolve, Deferred.ofValue, invoke, builtin, asBool, Instr.makeFunc, Instr.extract, sx, Act.put, Act.eval, nrm, semS_loadAt one41 cdn]
    refine hK1 _ _ _ ?_; clear hK1 K1
    refine opsL_nil (hK _ _ _ ?_); clear hK K
    refine wpT_block_loop (fun a' Hc γc => ∃ (got : List Nat) (at_ : Nat) (er : Value) (cs : Array Value), γc = .fed φ got ∧ Hc.d = 0 ∧ Rc H₀ Hc tss ag OB bf got at_ er cs ∧ ∃ S : Nat → Value, a' = ⟨#[S 0, S 1, S 2, S 3, S 4, S 5, S 6, S 7, S 8, S 9, S 10, .slice (some ⟨OB, 0, none⟩) tss.length tss.length, .pointer (some ⟨bf, 0, none⟩), S 13, S 14, S 15, S 16, S 17, S 18, S 19, S 20, S 21, S 22, S 23, S 24, S 25, S 26, S 27, S 28, S 29, S 30, S 31, S 32, S 33, S 34, S 35, S 36, S 37, S 38, S 39, S 40, .chan (some φ.dn), S 42, S 43, S 44, S 45, S 46, S 47, S 48, S 49, S 50, S 51, S 52, S 53, S 54, S 55, S 56, S 57, S 58, S 59, S 60, S 61, S 62, S 63, S 64, S 65, S 66, S 67], []⟩) (fun _ _ γc => mainLeft γc) ?_ ?_
    · exact ⟨[], tss.length, .nilIface, cs0, rfl, jf.d, rc, slots rfl⟩
    clear rc jf cdn cs0 H8
    rintro _ Hc _ ⟨got, at_, er, cs, rfl, hd0, rc, S, rfl⟩ Again Out hAgain hOut
    refine wpT_seq_reg (fun K hK => ?_)
    refine opsL_comm .recvD rfl (cases := #[rcase φ.dn φ.zw]) (shape := .recv true) (fun w => by simp [go_sem, rcase, hφz, zw54]) (fun w => by simp [go_sem]) (fun g hs hg => ⟨rfl, φ, got, rfl, hd0, hs, fun w _ => hg w⟩) (fun g g' H' γ' hx => ?_)
    obtain ⟨φ', got', e, hx⟩ := hx
    cases e
    rcases hx with ⟨k, v, car, hk, hkg, _, _, hres, hcar, hH, rfl, rfl⟩ | ⟨hall, hH, rfl, rfl⟩
    · refine ⟨_, rfl, ?_⟩
      simp only [Act.put, Act.eval, nrm]
      rw [hH]
      clear hH
      rw [hφm] at hk
      rw [hφr] at hres
      have rc1 := rc.learn hcar
      have hd1 : (Hc.learn car).d = 0 := by cases car <;> exact hd0
      have hm1 : notYet (k :: got) φ.m < notYet got φ.m := notYet_lt hkg _ (by omega)
      unfold resOf at hres
      revert hres
      cases hR : playR (tss.getD k []) ag with
      | inl e =>
        rintro ⟨rfl, rfl⟩
        have hE : isE tss ag k = some e := by simp only [isE, hR]
        simp only [numV]
        refine opsL_cons rfl (fun K1 hK1 => ?_)
        simp only [execOp, uponT, resolve, Deferred.ofValue, invoke, builtin, asBool, Instr.makeFunc, Instr.extract, sx, Act.put, Act.eval, nrm]
        refine hK1 _ _ _ ?_; clear hK1 K1
        refine opsL_nil (hK _ _ _ ?_); clear hK K
        refine wpT_seq ?_
        refine wpT_cond (t := true) rfl ?_
        simp only [if_true, if_false, Bool.false_eq_true, reduceIte]
        refine wpT_skip ?_
        simp only [thenT]
        refine wpT_block ?_
        refine wpT_seq_reg (fun K hK => ?_)
        refine opsL_cons rfl (fun K1 hK1 => ?_)
        simp only [execOp, uponT, resolve, Deferred.ofValue, invoke, builtin, asBool, Instr.makeFunc, Instr.extract, sx, Act.put, Act.eval, nrm]
        refine hK1 _ _ _ ?_; clear hK1 K1
        refine opsL_cons rfl (fun K1 hK1 => ?_)
        simp only [execOp, uponT, resolve, Deferred.ofValue, invoke, builtin, asBool, Instr.makeFunc, Instr.extract, sx, Act.put, Act.eval, nrm, semS_alloc info54 zero54, Value.cells]
        intro bx hx1 hx2
        refine hK1 _ _ _ ?_; clear hK1 K1
        refine opsL_cons rfl (fun K1 hK1 => ?_)
        simp only [execOp, uponT, resolve, Deferred.ofValue, invoke, builtin, asBool, Instr.makeFunc, Instr.extract, sx, Act.put, Act.eval, nrm, semS_storeAt3 info54 size54 (set_own_same _ _ _) (off := 0) (show 0 + 2 < (#[Value.int IntKind.i64 0, Value.slice none 0 0, Value.nilIface] : Array Value).size by simp) (x := .int .i64 k) (y := .slice none 0 0) (z := .iface 31 (.int .i64 e)) rfl rfl rfl, set_set]
        refine hK1 _ _ _ ?_; clear hK1 K1
        refine opsL_nil (hK _ _ _ ?_); clear hK K
        have rc2 := rc1.box hx1 hx2 (.cells #[.int .i64 (k : Int), .slice none 0 0, .iface 31 (.int .i64 e)] 54 (0, 0))
        have obx := set_own_same (Hc.learn none) bx (.cells #[.int .i64 (k : Int), .slice none 0 0, .iface 31 (.int .i64 e)] 54 (0, 0))
        have hd2 : ((Hc.learn none).set bx (.cells #[.int .i64 (k : Int), .slice none 0 0, .iface 31 (.int .i64 e)] 54 (0, 0))).d = 0 := hd1
        generalize (Hc.learn none).set bx (.cells #[.int .i64 (k : Int), .slice none 0 0, .iface 31 (.int .i64 e)] 54 (0, 0)) = H9 at rc2 obx hd2  ⊢
        have x0 := (cell_own obx 0).trans (show _ = some (Value.int .i64 k) from rfl)
        have x1 := (cell_own obx 1).trans (show _ = some (.slice none 0 0) from rfl)
        refine wpT_seq_reg (fun K hK => ?_)
        refine opsL_cons rfl (fun K1 hK1 => ?_)
        simp only [execOp, uponT, resolve, Deferred.ofValue, invoke, builtin, asBool, Instr.makeFunc, Instr.extract, sx, Act.put, Act.eval, nrm]
        refine hK1 _ _ _ ?_; clear hK1 K1
        refine opsL_cons rfl (fun K1 hK1 => ?_)
        simp only [execOp, uponT, resolve, Deferred.ofValue, invoke, builtin, asBool, Instr.makeFunc, Instr.extract, sx, Act.put, Act.eval, nrm, field54x0, Nat.zero_add]
        refine hK1 _ _ _ ?_; clear hK1 K1
        refine opsL_cons rfl (fun K1 hK1 => ?_)
        simp only [execOp, uponT, resolve, Deferred.ofValue, invoke, builtin, asBool, Instr.makeFunc, Instr.extract, sx, Act.put, Act.eval, nrm, semS_loadAt one3 x0]
        refine hK1 _ _ _ ?_; clear hK1 K1
        refine opsL_cons rfl (fun K1 hK1 => ?_)
        simp only [execOp, uponT, resolve, Deferred.ofValue, invoke, builtin, asBool, Instr.makeFunc, Instr.extract, sx, Act.put, Act.eval, nrm, field54x1, Nat.zero_add]
        refine hK1 _ _ _ ?_; clear hK1 K1
        refine opsL_cons rfl (fun K1 hK1 => ?_)
        simp only [execOp, uponT, resolve, Deferred.ofValue, invoke, builtin, asBool, Instr.makeFunc, Instr.extract, sx, Act.put, Act.eval, nrm, semS_loadAt one33 x1]
        refine hK1 _ _ _ ?_; clear hK1 K1
        refine opsL_cons rfl (fun K1 hK1 => ?_)
        simp only [execOp, uponT, resolve, Deferred.ofValue, invoke, builtin, asBool, Instr.makeFunc, Instr.extract, sx, Act.put, Act.eval, nrm, semS_indexAt Tryd.underlying25 info33 _ _ _ _ _ hk, size33, Nat.mul_one, Nat.zero_add]
        refine hK1 _ _ _ ?_; clear hK1 K1
        refine opsL_cons rfl (fun K1 hK1 => ?_)
        simp only [execOp, uponT, resolve, Deferred.ofValue, invoke, builtin, asBool, Instr.makeFunc, Instr.extract, sx, Act.put, Act.eval, nrm, semS_storeAt info33 size33 rc2.ob (off := k) (show k < cs.size by rw [rc2.sz]; exact hk) (v := .slice none 0 0) rfl]
        refine hK1 _ _ _ ?_; clear hK1 K1
        refine opsL_nil (hK _ _ _ ?_); clear hK K
        have rc3 := rc2.put hkg (.slice none 0 0)
        have nbx : OB ≠ bx := by rintro rfl; have := rc2.ob; rw [obx] at this; simp at this
        have obx' : (H9.set OB (.cells (cs.setIfInBounds k (.slice none 0 0)) 33 (0, 0))).own bx = some (.cells #[.int .i64 (k : Int), .slice none 0 0, .iface 31 (.int .i64 e)] 54 (0, 0)) := by rw [set_own_ne _ _ (Ne.symm nbx)]; exact obx
        have hd3 : (H9.set OB (.cells (cs.setIfInBounds k (.slice none 0 0)) 33 (0, 0))).d = 0 := hd2
        generalize H9.set OB (.cells (cs.setIfInBounds k (.slice none 0 0)) 33 (0, 0)) = H10 at rc3 obx' hd3  ⊢
        have y0 := (cell_own obx' 0).trans (show _ = some (Value.int .i64 k) from rfl)
        have y1 := (cell_own obx' 1).trans (show _ = some (.slice none 0 0) from rfl)
        have y2 := (cell_own obx' 2).trans (show _ = some (.iface 31 (.int .i64 e)) from rfl)
        refine wpT_seq_reg (fun K hK => ?_)
        refine opsL_cons rfl (fun K1 hK1 => ?_)
        simp only [execOp, uponT, resolve, Deferred.ofValue, invoke, builtin, asBool, Instr.makeFunc, Instr.extract, sx, Act.put, Act.eval, nrm, field54x2, Nat.zero_add]
        refine hK1 _ _ _ ?_; clear hK1 K1
        refine opsL_cons rfl (fun K1 hK1 => ?_)
        simp only [execOp, uponT, resolve, Deferred.ofValue, invoke, builtin, asBool, Instr.makeFunc, Instr.extract, sx, Act.put, Act.eval, nrm, semS_loadAt one27 y2]
        refine hK1 _ _ _ ?_; clear hK1 K1
        refine opsL_cons rfl (fun K1 hK1 => ?_)
        simp only [execOp, uponT, resolve, Deferred.ofValue, invoke, builtin, asBool, Instr.makeFunc, Instr.extract, sx, Act.put, Act.eval, nrm, semS_eqGuardNil _ _ _ _ (.inr ⟨_, _, rfl⟩), semS_neqNil if27 _ (.inr ⟨_, _, rfl⟩)]
        refine hK1 _ _ _ ?_; clear hK1 K1
        refine opsL_cons rfl (fun K1 hK1 => ?_)
        simp only [execOp, uponT, resolve, Deferred.ofValue, invoke, builtin, asBool, Instr.makeFunc, Instr.extract, sx, Act.put, Act.eval, nrm]
        refine hK1 _ _ _ ?_; clear hK1 K1
        have z0 := (cell_own rc3.bfo 0).trans (show _ = some (Value.int .i64 at_) from rfl)
        refine opsL_cons rfl (fun K1 hK1 => ?_)
        simp only [execOp, uponT, resolve, Deferred.ofValue, invoke, builtin, asBool, Instr.makeFunc, Instr.extract, sx, Act.put, Act.eval, nrm, field54x0, Nat.zero_add]
        refine hK1 _ _ _ ?_; clear hK1 K1
        refine opsL_cons rfl (fun K1 hK1 => ?_)
        simp only [execOp, uponT, resolve, Deferred.ofValue, invoke, builtin, asBool, Instr.makeFunc, Instr.extract, sx, Act.put, Act.eval, nrm, semS_loadAt one3 y0]
        refine hK1 _ _ _ ?_; clear hK1 K1
        refine opsL_cons rfl (fun K1 hK1 => ?_)
        simp only [execOp, uponT, resolve, Deferred.ofValue, invoke, builtin, asBool, Instr.makeFunc, Instr.extract, sx, Act.put, Act.eval, nrm, field54x0, Nat.zero_add]
        refine hK1 _ _ _ ?_; clear hK1 K1
        refine opsL_cons rfl (fun K1 hK1 => ?_)
        simp only [execOp, uponT, resolve, Deferred.ofValue, invoke, builtin, asBool, Instr.makeFunc, Instr.extract, sx, Act.put, Act.eval, nrm, semS_loadAt one3 z0]
        refine hK1 _ _ _ ?_; clear hK1 K1
        refine opsL_cons rfl (fun K1 hK1 => ?_)
        simp only [execOp, uponT, resolve, Deferred.ofValue, invoke, builtin, asBool, Instr.makeFunc, Instr.extract, sx, Act.put, Act.eval, nrm]
        refine hK1 _ _ _ ?_; clear hK1 K1
        refine opsL_cons rfl (fun K1 hK1 => ?_)
        simp only [execOp, uponT, resolve, Deferred.ofValue, invoke, builtin, asBool, Instr.makeFunc, Instr.extract, sx, Act.put, Act.eval, nrm, if_true]
        refine hK1 _ _ _ ?_; clear hK1 K1
        refine opsL_nil (hK _ _ _ ?_); clear hK K
        by_cases hlt : k < at_
        ·
          have d1 : decide ((k : Int) < (at_ : Int)) = true := decide_eq_true (by omega)
          rw [d1]
          refine wpT_cond (t := true) rfl ?_
          simp only [if_true, if_false, Bool.false_eq_true, reduceIte]
          refine wpT_reg (fun K hK => ?_)
          refine opsL_cons rfl (fun K1 hK1 => ?_)
          simp only [execOp, uponT, resolve, Deferred.ofValue, invoke, builtin, asBool, Instr.makeFunc, Instr.extract, sx, Act.put, Act.eval, nrm, semS_loadAt3 str54 info54 size54 y0 y1 y2]
          refine hK1 _ _ _ ?_; clear hK1 K1
          refine opsL_cons rfl (fun K1 hK1 => ?_)
          simp only [execOp, uponT, resolve, Deferred.ofValue, invoke, builtin, asBool, Instr.makeFunc, Instr.extract, sx, Act.put, Act.eval, nrm, semS_storeAt3 info54 size54 rc3.bfo (off := 0) (show 0 + 2 < (#[Value.int IntKind.i64 (at_ : Int), Value.slice none 0 0, er] : Array Value).size by simp) (x := .int .i64 k) (y := .slice none 0 0) (z := .iface 31 (.int .i64 e)) rfl rfl rfl]
          refine hK1 _ _ _ ?_; clear hK1 K1
          refine opsL_nil (hK _ _ _ ?_); clear hK K
          simp only [thenT, inBlockT, loopQ, reduceIte, Nat.reduceEqDiff]
          exact hAgain _ _ _ ⟨_, k, _, _, rfl, hd3, rc3.low hk hE hlt, slots rfl⟩ hm1
        ·
          have d1 : decide ((k : Int) < (at_ : Int)) = false := decide_eq_false (by omega)
          rw [d1]
          refine wpT_cond (t := false) rfl ?_
          simp only [if_true, if_false, Bool.false_eq_true, reduceIte]
          refine wpT_skip ?_
          simp only [thenT, inBlockT, loopQ, reduceIte, Nat.reduceEqDiff]
          exact hAgain _ _ _ ⟨_, at_, _, _, rfl, hd3, rc3.high hk hE hlt, slots rfl⟩ hm1
      | inr out =>
        rintro ⟨B, bs, rfl, rfl, hF, hsz⟩
        have hE : isE tss ag k = none := by simp only [isE, hR]
        have rB : (Hc.learn (some (B, .cells bs 37 (0, 0)))).ro B = some (.cells bs 37 (0, 0)) := by simp [Hp.learn]
        simp only [numV]
        refine opsL_cons rfl (fun K1 hK1 => ?_)
        simp only [execOp, uponT, resolve, Deferred.ofValue, invoke, builtin, asBool, Instr.makeFunc, Instr.extract, sx, Act.put, Act.eval, nrm]
        refine hK1 _ _ _ ?_; clear hK1 K1
        refine opsL_nil (hK _ _ _ ?_); clear hK K
        refine wpT_seq ?_
        refine wpT_cond (t := true) rfl ?_
        simp only [if_true, if_false, Bool.false_eq_true, reduceIte]
        refine wpT_skip ?_
        simp only [thenT]
        refine wpT_block ?_
        refine wpT_seq_reg (fun K hK => ?_)
        refine opsL_cons rfl (fun K1 hK1 => ?_)
        simp only [execOp, uponT, resolve, Deferred.ofValue, invoke, builtin, asBool, Instr.makeFunc, Instr.extract, sx, Act.put, Act.eval, nrm]
        refine hK1 _ _ _ ?_; clear hK1 K1
        refine opsL_cons rfl (fun K1 hK1 => ?_)
        simp only [execOp, uponT, resolve, Deferred.ofValue, invoke, builtin, asBool, Instr.makeFunc, Instr.extract, sx, Act.put, Act.eval, nrm, semS_alloc info54 zero54, Value.cells]
        intro bx hx1 hx2
        refine hK1 _ _ _ ?_; clear hK1 K1
        refine opsL_cons rfl (fun K1 hK1 => ?_)
        simp only [execOp, uponT, resolve, Deferred.ofValue, invoke, builtin, asBool, Instr.makeFunc, Instr.extract, sx, Act.put, Act.eval, nrm, semS_storeAt3 info54 size54 (set_own_same _ _ _) (off := 0) (show 0 + 2 < (#[Value.int IntKind.i64 0, Value.slice none 0 0, Value.nilIface] : Array Value).size by simp) (x := .int .i64 k) (y := .slice (some ⟨B, 0, none⟩) out.length out.length) (z := .nilIface) rfl rfl rfl, set_set]
        refine hK1 _ _ _ ?_; clear hK1 K1
        refine opsL_nil (hK _ _ _ ?_); clear hK K
        have rc2 := rc1.box hx1 hx2 (.cells #[.int .i64 (k : Int), .slice (some ⟨B, 0, none⟩) out.length out.length, .nilIface] 54 (0, 0))
        have obx := set_own_same (Hc.learn (some (B, .cells bs 37 (0, 0)))) bx (.cells #[.int .i64 (k : Int), .slice (some ⟨B, 0, none⟩) out.length out.length, .nilIface] 54 (0, 0))
        have hd2 : ((Hc.learn (some (B, .cells bs 37 (0, 0)))).set bx (.cells #[.int .i64 (k : Int), .slice (some ⟨B, 0, none⟩) out.length out.length, .nilIface] 54 (0, 0))).d = 0 := hd1
        have rB2 : ((Hc.learn (some (B, .cells bs 37 (0, 0)))).set bx (.cells #[.int .i64 (k : Int), .slice (some ⟨B, 0, none⟩) out.length out.length, .nilIface] 54 (0, 0))).ro B = some (.cells bs 37 (0, 0)) := rB
        generalize (Hc.learn (some (B, .cells bs 37 (0, 0)))).set bx (.cells #[.int .i64 (k : Int), .slice (some ⟨B, 0, none⟩) out.length out.length, .nilIface] 54 (0, 0)) = H9 at rc2 obx hd2 rB2 ⊢
        have x0 := (cell_own obx 0).trans (show _ = some (Value.int .i64 k) from rfl)
        have x1 := (cell_own obx 1).trans (show _ = some (.slice (some ⟨B, 0, none⟩) out.length out.length) from rfl)
        refine wpT_seq_reg (fun K hK => ?_)
        refine opsL_cons rfl (fun K1 hK1 => ?_)
        simp only [execOp, uponT, resolve, Deferred.ofValue, invoke, builtin, asBool, Instr.makeFunc, Instr.extract, sx, Act.put, Act.eval, nrm]
        refine hK1 _ _ _ ?_; clear hK1 K1
        refine opsL_cons rfl (fun K1 hK1 => ?_)
        simp only [execOp, uponT, resolve, Deferred.ofValue, invoke, builtin, asBool, Instr.makeFunc, Instr.extract, sx, Act.put, Act.eval, nrm, field54x0, Nat.zero_add]
        refine hK1 _ _ _ ?_; clear hK1 K1
        refine opsL_cons rfl (fun K1 hK1 => ?_)
        simp only [execOp, uponT, resolve, Deferred.ofValue, invoke, builtin, asBool, Instr.makeFunc, Instr.extract, sx, Act.put, Act.eval, nrm, semS_loadAt one3 x0]
        refine hK1 _ _ _ ?_; clear hK1 K1
        refine opsL_cons rfl (fun K1 hK1 => ?_)
        simp only [execOp, uponT, resolve, Deferred.ofValue, invoke, builtin, asBool, Instr.makeFunc, Instr.extract, sx, Act.put, Act.eval, nrm, field54x1, Nat.zero_add]
        refine hK1 _ _ _ ?_; clear hK1 K1
        refine opsL_cons rfl (fun K1 hK1 => ?_)
        simp only [execOp, uponT, resolve, Deferred.ofValue, invoke, builtin, asBool, Instr.makeFunc, Instr.extract, sx, Act.put, Act.eval, nrm, semS_loadAt one33 x1]
        refine hK1 _ _ _ ?_; clear hK1 K1
        refine opsL_cons rfl (fun K1 hK1 => ?_)
        simp only [execOp, uponT, resolve, Deferred.ofValue, invoke, builtin, asBool, Instr.makeFunc, Instr.extract, sx, Act.put, Act.eval, nrm, semS_indexAt Tryd.underlying25 info33 _ _ _ _ _ hk, size33, Nat.mul_one, Nat.zero_add]
        refine hK1 _ _ _ ?_; clear hK1 K1
        refine opsL_cons rfl (fun K1 hK1 => ?_)
        simp only [execOp, uponT, resolve, Deferred.ofValue, invoke, builtin, asBool, Instr.makeFunc, Instr.extract, sx, Act.put, Act.eval, nrm, semS_storeAt info33 size33 rc2.ob (off := k) (show k < cs.size by rw [rc2.sz]; exact hk) (v := .slice (some ⟨B, 0, none⟩) out.length out.length) rfl]
        refine hK1 _ _ _ ?_; clear hK1 K1
        refine opsL_nil (hK _ _ _ ?_); clear hK K
        have rc3 := rc2.put hkg (.slice (some ⟨B, 0, none⟩) out.length out.length)
        have nbx : OB ≠ bx := by rintro rfl; have := rc2.ob; rw [obx] at this; simp at this
        have obx' : (H9.set OB (.cells (cs.setIfInBounds k (.slice (some ⟨B, 0, none⟩) out.length out.length)) 33 (0, 0))).own bx = some (.cells #[.int .i64 (k : Int), .slice (some ⟨B, 0, none⟩) out.length out.length, .nilIface] 54 (0, 0)) := by rw [set_own_ne _ _ (Ne.symm nbx)]; exact obx
        have hd3 : (H9.set OB (.cells (cs.setIfInBounds k (.slice (some ⟨B, 0, none⟩) out.length out.length)) 33 (0, 0))).d = 0 := hd2
        have rB3 : (H9.set OB (.cells (cs.setIfInBounds k (.slice (some ⟨B, 0, none⟩) out.length out.length)) 33 (0, 0))).ro B = some (.cells bs 37 (0, 0)) := rB2
        generalize H9.set OB (.cells (cs.setIfInBounds k (.slice (some ⟨B, 0, none⟩) out.length out.length)) 33 (0, 0)) = H10 at rc3 obx' hd3 rB3 ⊢
        have y0 := (cell_own obx' 0).trans (show _ = some (Value.int .i64 k) from rfl)
        have y1 := (cell_own obx' 1).trans (show _ = some (.slice (some ⟨B, 0, none⟩) out.length out.length) from rfl)
        have y2 := (cell_own obx' 2).trans (show _ = some (.nilIface) from rfl)
        refine wpT_seq_reg (fun K hK => ?_)
        refine opsL_cons rfl (fun K1 hK1 => ?_)
        simp only [execOp, uponT, resolve, Deferred.ofValue, invoke, builtin, asBool, Instr.makeFunc, Instr.extract, sx, Act.put, Act.eval, nrm, field54x2, Nat.zero_add]
        refine hK1 _ _ _ ?_; clear hK1 K1
        refine opsL_cons rfl (fun K1 hK1 => ?_)
        simp only [execOp, uponT, resolve, Deferred.ofValue, invoke, builtin, asBool, Instr.makeFunc, Instr.extract, sx, Act.put, Act.eval, nrm, semS_loadAt one27 y2]
        refine hK1 _ _ _ ?_; clear hK1 K1
        refine opsL_cons rfl (fun K1 hK1 => ?_)
        simp only [execOp, uponT, resolve, Deferred.ofValue, invoke, builtin, asBool, Instr.makeFunc, Instr.extract, sx, Act.put, Act.eval, nrm, semS_eqGuardNil _ _ _ _ (.inl rfl), semS_neqNil if27 _ (.inl rfl)]
        refine hK1 _ _ _ ?_; clear hK1 K1
        refine opsL_cons rfl (fun K1 hK1 => ?_)
        simp only [execOp, uponT, resolve, Deferred.ofValue, invoke, builtin, asBool, Instr.makeFunc, Instr.extract, sx, Act.put, Act.eval, nrm]
        refine hK1 _ _ _ ?_; clear hK1 K1
        refine opsL_unwanted rfl ?_
        simp only [Act.put, Act.eval, nrm]
        refine opsL_unwanted rfl ?_
        simp only [Act.put, Act.eval, nrm]
        refine opsL_unwanted rfl ?_
        simp only [Act.put, Act.eval, nrm]
        refine opsL_unwanted rfl ?_
        simp only [Act.put, Act.eval, nrm]
        refine opsL_unwanted rfl ?_
        simp only [Act.put, Act.eval, nrm]
        refine opsL_cons rfl (fun K1 hK1 => ?_)
        simp only [execOp, uponT, resolve, Deferred.ofValue, invoke, builtin, asBool, Instr.makeFunc, Instr.extract, sx, Act.put, Act.eval, nrm, Bool.false_eq_true, if_false]
        refine hK1 _ _ _ ?_; clear hK1 K1
        refine opsL_nil (hK _ _ _ ?_); clear hK K
        refine wpT_cond (t := false) rfl ?_
        simp only [if_true, if_false, Bool.false_eq_true, reduceIte]
        refine wpT_skip ?_
        simp only [thenT, inBlockT, loopQ, reduceIte, Nat.reduceEqDiff]
        have hrow : Row H10 tss ag (cs.setIfInBounds k (.slice (some ⟨B, 0, none⟩) out.length out.length)) k := fun out' ho => by
          rw [hR] at ho
          cases ho
          exact ⟨B, bs, Array.getElem?_setIfInBounds_self_of_lt (by rw [rc.sz]; exact hk), rB3, hF⟩
        exact hAgain _ _ _ ⟨_, at_, _, _, rfl, hd3, rc3.ok hrow hE, slots rfl⟩ hm1
    · refine ⟨_, rfl, ?_⟩
      simp only [Act.put, Act.eval, nrm]
      rw [hH]
      clear hH
      rw [hφm] at hall
      refine opsL_cons rfl (fun K1 hK1 => ?_)
      simp only [execOp, uponT, resolve, Deferred.ofValue, invoke, builtin, asBool, Instr.makeFunc, Instr.extract, sx, Act.put, Act.eval, nrm]
      refine hK1 _ _ _ ?_; clear hK1 K1
      refine opsL_nil (hK _ _ _ ?_); clear hK K
      refine wpT_seq ?_
      refine wpT_cond (t := false) rfl ?_
      simp only [if_true, if_false, Bool.false_eq_true, reduceIte]
      refine wpT_exit ?_
      simp only [thenT, inBlockT, loopQ, reduceIte, Nat.reduceEqDiff]
      refine hOut _ _ _ ?_
      simp only [thenT]
      clear hOut hAgain
      have y2 := (cell_own rc.bfo 2).trans (show _ = some er from rfl)
      rcases rc.fst with ⟨rfl, rfl, hno⟩ | ⟨e, h0, h1, h2, rfl, h4⟩
      ·
        refine wpT_seq ?_
        refine wpT_seq_reg (fun K hK => ?_)
        refine opsL_cons rfl (fun K1 hK1 => ?_)
        simp only [execOp, uponT, resolve, Deferred.ofValue, invoke, builtin, asBool, Instr.makeFunc, Instr.extract, sx, Act.put, Act.eval, nrm, field54x2, Nat.zero_add]
        refine hK1 _ _ _ ?_; clear hK1 K1
        refine opsL_cons rfl (fun K1 hK1 => ?_)
        simp only [execOp, uponT, resolve, Deferred.ofValue, invoke, builtin, asBool, Instr.makeFunc, Instr.extract, sx, Act.put, Act.eval, nrm, semS_loadAt one27 y2]
        refine hK1 _ _ _ ?_; clear hK1 K1
        refine opsL_cons rfl (fun K1 hK1 => ?_)
        simp only [execOp, uponT, resolve, Deferred.ofValue, invoke, builtin, asBool, Instr.makeFunc, Instr.extract, sx, Act.put, Act.eval, nrm, semS_eqGuardNil _ _ _ _ (.inl rfl), semS_neqNil if27 _ (.inl rfl)]
        refine hK1 _ _ _ ?_; clear hK1 K1
        refine opsL_nil (hK _ _ _ ?_); clear hK K
        refine wpT_cond (t := false) rfl ?_
        simp only [if_true, if_false, Bool.false_eq_true, reduceIte]
        refine wpT_skip ?_
        simp only [thenT]
        refine wpT_seq_reg (fun K hK => ?_)
        refine opsL_cons rfl (fun K1 hK1 => ?_)
        simp only [execOp, uponT, resolve, Deferred.ofValue, invoke, builtin, asBool, Instr.makeFunc, Instr.extract, sx, Act.put, Act.eval, nrm]
        refine hK1 _ _ _ ?_; clear hK1 K1
        refine opsL_cons rfl (fun K1 hK1 => ?_)
        simp only [execOp, uponT, resolve, Deferred.ofValue, invoke, builtin, asBool, Instr.makeFunc, Instr.extract, sx, Act.put, Act.eval, nrm]
        refine hK1 _ _ _ ?_; clear hK1 K1
        refine opsL_cons rfl (fun K1 hK1 => ?_)
        simp only [execOp, uponT, resolve, Deferred.ofValue, invoke, builtin, asBool, Instr.makeFunc, Instr.extract, sx, Act.put, Act.eval, nrm]
        refine hK1 _ _ _ ?_; clear hK1 K1
        refine opsL_nil (hK _ _ _ ?_); clear hK K
        refine wpT_ret (hret _ _ _ (bodyPost_ret2 rfl ?_))
        exact ⟨rfl, rc.ext, .inr ⟨fun k hk => hno k (hall k hk), OB, cs, rc.ob0, rc.ob, rfl, fun k hk => rc.rows k (hall k hk)⟩⟩
      ·
        refine wpT_seq ?_
        refine wpT_seq_reg (fun K hK => ?_)
        refine opsL_cons rfl (fun K1 hK1 => ?_)
        simp only [execOp, uponT, resolve, Deferred.ofValue, invoke, builtin, asBool, Instr.makeFunc, Instr.extract, sx, Act.put, Act.eval, nrm, field54x2, Nat.zero_add]
        refine hK1 _ _ _ ?_; clear hK1 K1
        refine opsL_cons rfl (fun K1 hK1 => ?_)
        simp only [execOp, uponT, resolve, Deferred.ofValue, invoke, builtin, asBool, Instr.makeFunc, Instr.extract, sx, Act.put, Act.eval, nrm, semS_loadAt one27 y2]
        refine hK1 _ _ _ ?_; clear hK1 K1
        refine opsL_cons rfl (fun K1 hK1 => ?_)
        simp only [execOp, uponT, resolve, Deferred.ofValue, invoke, builtin, asBool, Instr.makeFunc, Instr.extract, sx, Act.put, Act.eval, nrm, semS_eqGuardNil _ _ _ _ (.inr ⟨_, _, rfl⟩), semS_neqNil if27 _ (.inr ⟨_, _, rfl⟩)]
        refine hK1 _ _ _ ?_; clear hK1 K1
        refine opsL_nil (hK _ _ _ ?_); clear hK K
        refine wpT_cond (t := true) rfl ?_
        simp only [if_true, if_false, Bool.false_eq_true, reduceIte]
        refine wpT_seq_quiet mixed (by kernel_rfl) (by kernel_rfl) (fun K hK => ?_)
        apply quietL_cons
        · rfl
        · intro K1 hK1
          simp only [execOp, uponT, resolve, Deferred.ofValue, invoke, builtin, asBool, Instr.makeFunc, Instr.extract, sx, Act.put, Act.eval, nrm, field54x2, Nat.zero_add]
          exact hK1
        simp only [Act.put, Act.eval, nrm]
        apply quietL_cons
        · rfl
        · intro K1 hK1
          simp only [execOp, uponT, resolve, Deferred.ofValue, invoke, builtin, asBool, Instr.makeFunc, Instr.extract, sx, Act.put, Act.eval, nrm, semS_loadAt one27 y2]
          exact hK1
        simp only [Act.put, Act.eval, nrm]
        apply quietL_cons
        · rfl
        · intro K1 hK1
          simp only [execOp, uponT, resolve, Deferred.ofValue, invoke, builtin, asBool, Instr.makeFunc, Instr.extract, sx, Act.put, Act.eval, nrm]
          exact hK1
        simp only [Act.put, Act.eval, nrm]
        apply quietL_cons
        · rfl
        · intro K1 hK1
          simp only [execOp, uponT, resolve, Deferred.ofValue, invoke, builtin, asBool, Instr.makeFunc, Instr.extract, sx, Act.put, Act.eval, nrm]
          exact hK1
        simp only [Act.put, Act.eval, nrm]
        refine quietL_nil (hK _ ?_); clear hK K
        refine wpT_ret (hret _ _ _ (bodyPost_ret2 rfl ?_))
        refine ⟨rfl, rc.ext, .inl ⟨at_, e, h0, h2, fun j hj => ?_, rfl⟩⟩
        cases hx : isE tss ag j with
        | none => rfl
        | some x => have := h4 j (hall j (by omega)) (by rw [hx]; simp); omega
end Go.Proofs.YtcomjkbfmklfnaaDoor
