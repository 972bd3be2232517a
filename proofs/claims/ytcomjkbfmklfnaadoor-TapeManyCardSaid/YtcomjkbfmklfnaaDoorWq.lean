/-
  The feeder's Wait, by its contract. Conditions: none.
-/
import Derived.Test.YtcomjkbfmklfnaaDoorWp
import Derived.Conc.WgArith
set_option linter.unusedSimpArgs false
set_option linter.unusedVariables false
namespace Go.Proofs.YtcomjkbfmklfnaaDoor
open Go.Conc Go.Sep
open Go.ConcR (KK wgBlock WgAt stA smA)
open Go.Conc.Lib

theorem semS_shr32 {P : Program} {H : Hp} (t : TypeId) (S : Int) (K : Value → Hp → Prop) : SemS P (binOp .shr t (.int .u64 S) (.int .u64 32)) H K = K (.int .u64 (S / 4294967296)) H := by
  rw [show binOp .shr t (.int .u64 S) (.int .u64 32) = pure (.int .u64 (S / 2 ^ (32 : Int).toNat)) from shift_shr .u64 .u64 S 32 (by decide) (by decide)]
  rfl
theorem semS_and {P : Program} {H : Hp} (t : TypeId) (k : IntKind) (a b : Int) (K : Value → Hp → Prop) : SemS P (binOp .and t (.int k a) (.int k b)) H K = K (.int k (bits .and k a b)) H := by simp only [binOp_and, intBits_and, semS_pure]

set_option maxRecDepth 100000 in
theorem uload_calls {Q : Value → Prop} {φ : Ph} {H : Hp} {b : Nat} : CallsT Tryd.prog (company Tryd.prog Q) false 32 #[.pointer (some ⟨φ.wg, 0, none⟩)] H (.fw φ (.load b)) (fun x H' γ' => ∃ v : Nat, v ≤ b ∧ v ≤ φ.n ∧ x = .int .u64 ((v : Int) * KK) ∧ H' = H ∧ γ' = .fw φ (if v = 0 then .acq else .cas v)) := by
  refine callsT_enter (T := [.pointer (some ⟨φ.wg, 0, none⟩), undef, undef, undef, undef, undef, undef]) Tryd.func32 rfl Tryd.ntmps32 rfl (fun Q hret hnorm hless => ?_)
  refine wpT_seq_reg (fun K hK => ?_)
  refine opsL_cons rfl (fun K1 hK1 => ?_)
  simp only [execOp, uponT, resolve, Deferred.ofValue, invoke, builtin, asBool, Instr.makeFunc, Instr.extract, sx, Act.put, Act.eval, nrm]
  refine hK1 _ _ _ ?_; clear hK1 K1
  refine opsL_nil (hK _ _ _ ?_); clear hK K
  refine wpT_seq_reg (fun K hK => ?_)
  refine opsL_cons rfl (fun K1 hK1 => ?_)
  simp only [execOp, uponT, resolve, Deferred.ofValue, invoke, builtin, asBool, Instr.makeFunc, Instr.extract, sx, Act.put, Act.eval, nrm]
  refine hK1 _ _ _ ?_; clear hK1 K1
  refine opsL_cons rfl (fun K1 hK1 => ?_)
  simp only [execOp, uponT, resolve, Deferred.ofValue, invoke, builtin, asBool, Instr.makeFunc, Instr.extract, sx, Act.put, Act.eval, nrm]
  refine hK1 _ _ _ ?_; clear hK1 K1
  refine opsL_cons rfl (fun K1 hK1 => ?_)
  simp only [execOp, uponT, resolve, Deferred.ofValue, invoke, builtin, asBool, Instr.makeFunc, Instr.extract, sx, Act.put, Act.eval, nrm, field48x2, Nat.add_zero]
  refine hK1 _ _ _ ?_; clear hK1 K1
  refine opsL_load rfl rfl rfl (fun v hv1 hv2 => ?_)
  simp only [Act.put, Act.eval, nrm]
  refine opsL_cons rfl (fun K1 hK1 => ?_)
  simp only [execOp, uponT, resolve, Deferred.ofValue, invoke, builtin, asBool, Instr.makeFunc, Instr.extract, sx, Act.put, Act.eval, nrm]
  refine hK1 _ _ _ ?_; clear hK1 K1
  refine opsL_nil (hK _ _ _ ?_); clear hK K
  refine wpT_ret (hret _ _ _ (bodyPost_ret1 rfl ?_))
  exact ⟨v, hv1, hv2, rfl, rfl, rfl⟩

set_option maxRecDepth 100000 in
theorem uload2_calls {Q : Value → Prop} {φ : Ph} {H : Hp} : CallsT Tryd.prog (company Tryd.prog Q) false 32 #[.pointer (some ⟨φ.wg, 0, none⟩)] H (.fw φ .load2) (fun x H' γ' => x = .int .u64 0 ∧ H' = H ∧ γ' = .fw φ .acq) := by
  refine callsT_enter (T := [.pointer (some ⟨φ.wg, 0, none⟩), undef, undef, undef, undef, undef, undef]) Tryd.func32 rfl Tryd.ntmps32 rfl (fun Q hret hnorm hless => ?_)
  refine wpT_seq_reg (fun K hK => ?_)
  refine opsL_cons rfl (fun K1 hK1 => ?_)
  simp only [execOp, uponT, resolve, Deferred.ofValue, invoke, builtin, asBool, Instr.makeFunc, Instr.extract, sx, Act.put, Act.eval, nrm]
  refine hK1 _ _ _ ?_; clear hK1 K1
  refine opsL_nil (hK _ _ _ ?_); clear hK K
  refine wpT_seq_reg (fun K hK => ?_)
  refine opsL_cons rfl (fun K1 hK1 => ?_)
  simp only [execOp, uponT, resolve, Deferred.ofValue, invoke, builtin, asBool, Instr.makeFunc, Instr.extract, sx, Act.put, Act.eval, nrm]
  refine hK1 _ _ _ ?_; clear hK1 K1
  refine opsL_cons rfl (fun K1 hK1 => ?_)
  simp only [execOp, uponT, resolve, Deferred.ofValue, invoke, builtin, asBool, Instr.makeFunc, Instr.extract, sx, Act.put, Act.eval, nrm]
  refine hK1 _ _ _ ?_; clear hK1 K1
  refine opsL_cons rfl (fun K1 hK1 => ?_)
  simp only [execOp, uponT, resolve, Deferred.ofValue, invoke, builtin, asBool, Instr.makeFunc, Instr.extract, sx, Act.put, Act.eval, nrm, field48x2, Nat.add_zero]
  refine hK1 _ _ _ ?_; clear hK1 K1
  refine opsL_load2 rfl rfl rfl ?_
  simp only [Act.put, Act.eval, nrm]
  refine opsL_cons rfl (fun K1 hK1 => ?_)
  simp only [execOp, uponT, resolve, Deferred.ofValue, invoke, builtin, asBool, Instr.makeFunc, Instr.extract, sx, Act.put, Act.eval, nrm]
  refine hK1 _ _ _ ?_; clear hK1 K1
  refine opsL_nil (hK _ _ _ ?_); clear hK K
  refine wpT_ret (hret _ _ _ (bodyPost_ret1 rfl ?_))
  exact ⟨rfl, rfl, rfl⟩

set_option maxRecDepth 100000 in
theorem ucas_calls {Q : Value → Prop} {φ : Ph} {H : Hp} {v : Nat} (hv : 1 ≤ v) : CallsT Tryd.prog (company Tryd.prog Q) false 38 #[.pointer (some ⟨φ.wg, 0, none⟩), .int .u64 ((v : Int) * KK), .int .u64 ((v : Int) * KK + 1)] H (.fw φ (.cas v)) (fun x H' γ' => ∃ t : Bool, x = .bool t ∧ H' = H ∧ γ' = .fw φ (if t then .say else .load (v - 1))) := by
  refine callsT_enter (T := [.pointer (some ⟨φ.wg, 0, none⟩), .int .u64 ((v : Int) * KK), .int .u64 ((v : Int) * KK + 1), undef, undef, undef, undef, undef, undef, undef, undef, undef, undef]) Tryd.func38 rfl Tryd.ntmps38 rfl (fun Q hret hnorm hless => ?_)
  refine wpT_seq_reg (fun K hK => ?_)
  refine opsL_cons rfl (fun K1 hK1 => ?_)
  simp only [execOp, uponT, resolve, Deferred.ofValue, invoke, builtin, asBool, Instr.makeFunc, Instr.extract, sx, Act.put, Act.eval, nrm]
  refine hK1 _ _ _ ?_; clear hK1 K1
  refine opsL_nil (hK _ _ _ ?_); clear hK K
  refine wpT_seq_reg (fun K hK => ?_)
  refine opsL_cons rfl (fun K1 hK1 => ?_)
  simp only [execOp, uponT, resolve, Deferred.ofValue, invoke, builtin, asBool, Instr.makeFunc, Instr.extract, sx, Act.put, Act.eval, nrm]
  refine hK1 _ _ _ ?_; clear hK1 K1
  refine opsL_cons rfl (fun K1 hK1 => ?_)
  simp only [execOp, uponT, resolve, Deferred.ofValue, invoke, builtin, asBool, Instr.makeFunc, Instr.extract, sx, Act.put, Act.eval, nrm]
  refine hK1 _ _ _ ?_; clear hK1 K1
  refine opsL_cons rfl (fun K1 hK1 => ?_)
  simp only [execOp, uponT, resolve, Deferred.ofValue, invoke, builtin, asBool, Instr.makeFunc, Instr.extract, sx, Act.put, Act.eval, nrm, field48x2, Nat.add_zero]
  refine hK1 _ _ _ ?_; clear hK1 K1
  refine opsL_cons rfl (fun K1 hK1 => ?_)
  simp only [execOp, uponT, resolve, Deferred.ofValue, invoke, builtin, asBool, Instr.makeFunc, Instr.extract, sx, Act.put, Act.eval, nrm]
  refine hK1 _ _ _ ?_; clear hK1 K1
  refine opsL_cons rfl (fun K1 hK1 => ?_)
  simp only [execOp, uponT, resolve, Deferred.ofValue, invoke, builtin, asBool, Instr.makeFunc, Instr.extract, sx, Act.put, Act.eval, nrm]
  refine hK1 _ _ _ ?_; clear hK1 K1
  refine opsL_cas hv rfl rfl rfl rfl rfl ?_ ?_
  ·
    simp only [Act.put, Act.eval, nrm]
    refine opsL_cons rfl (fun K1 hK1 => ?_)
    simp only [execOp, uponT, resolve, Deferred.ofValue, invoke, builtin, asBool, Instr.makeFunc, Instr.extract, sx, Act.put, Act.eval, nrm]
    refine hK1 _ _ _ ?_; clear hK1 K1
    refine opsL_nil (hK _ _ _ ?_); clear hK K
    refine wpT_ret (hret _ _ _ (bodyPost_ret1 rfl ?_))
    exact ⟨true, rfl, rfl, rfl⟩
  ·
    simp only [Act.put, Act.eval, nrm]
    refine opsL_cons rfl (fun K1 hK1 => ?_)
    simp only [execOp, uponT, resolve, Deferred.ofValue, invoke, builtin, asBool, Instr.makeFunc, Instr.extract, sx, Act.put, Act.eval, nrm]
    refine hK1 _ _ _ ?_; clear hK1 K1
    refine opsL_nil (hK _ _ _ ?_); clear hK K
    refine wpT_ret (hret _ _ _ (bodyPost_ret1 rfl ?_))
    exact ⟨false, rfl, rfl, rfl⟩

def fwLeft : Gh → Nat
  | .fw _ (.load b) => b
  | _ => 0

set_option maxRecDepth 100000 in
set_option maxHeartbeats 4000000 in
theorem wait_calls {Qv : Value → Prop} {φ : Ph} (hn16 : φ.n ≤ 16) {H : Hp} (hd : H.d = 0) : CallsT Tryd.prog (company Tryd.prog Qv) false 13 #[.pointer (some ⟨φ.wg, 0, none⟩)] H (.fw φ (.load φ.n)) (fun _ H' γ' => H' = H ∧ γ' = .fw φ .close) := by
  refine callsT_enter (T := [.pointer (some ⟨φ.wg, 0, none⟩), undef, undef, undef, undef, undef, undef, undef, undef, undef, undef, undef, undef, undef, undef, undef, undef, undef, undef, undef, undef, undef, undef, undef, undef, undef, undef, undef, undef, undef, undef, undef, undef, undef, undef, undef, undef, undef, undef, undef, undef, undef, undef, undef, undef, undef, undef, undef, undef, undef, undef, undef, undef, undef, undef, undef, undef, undef, undef, undef, undef, undef, undef, undef, undef, undef, undef, undef, undef, undef, undef, undef, undef, undef, undef, undef, undef, undef, undef, undef, undef, undef, undef, undef]) Tryd.func13 rfl Tryd.ntmps13 rfl (fun Q hret hnorm hless => ?_)
  refine wpT_seq ?_
  refine wpT_cond (t := true) rfl ?_
  simp only [if_true, if_false, Bool.false_eq_true, reduceIte]
  refine wpT_reg (fun K hK => ?_)
  refine opsL_cons rfl (fun K1 hK1 => ?_)
  simp only [execOp, uponT, resolve, Deferred.ofValue, invoke, builtin, asBool, Instr.makeFunc, Instr.extract, sx, Act.put, Act.eval, nrm, callx24]
  refine hK1 _ _ _ ?_; clear hK1 K1
  refine opsL_nil (hK _ _ _ ?_); clear hK K
  simp only [thenT]
  refine wpT_block_loop (fun a' Hc γc => Hc = { H with d := H.d + 1 } ∧ ∃ b, b ≤ φ.n ∧ γc = .fw φ (.load b) ∧ ∃ S : Nat → Value, a' = ⟨#[.pointer (some ⟨φ.wg, 0, none⟩), S 1, S 2, S 3, S 4, S 5, S 6, S 7, S 8, S 9, S 10, S 11, S 12, S 13, S 14, S 15, S 16, S 17, S 18, S 19, S 20, S 21, S 22, S 23, S 24, S 25, S 26, S 27, S 28, S 29, S 30, S 31, S 32, S 33, S 34, S 35, S 36, S 37, S 38, S 39, S 40, S 41, S 42, S 43, S 44, S 45, S 46, S 47, S 48, S 49, S 50, S 51, S 52, S 53, S 54, S 55, S 56, S 57, S 58, S 59, S 60, S 61, S 62, S 63, S 64, S 65, S 66, S 67, S 68, S 69, S 70, S 71, S 72, S 73, S 74, S 75, S 76, S 77, S 78, S 79, S 80, S 81, S 82, S 83], []⟩) (fun _ _ γc => fwLeft γc) ?_ ?_
  · exact ⟨rfl, φ.n, Nat.le_refl _, rfl, slots rfl⟩
  rintro _ Hc _ ⟨hHc, b, hb, rfl, S, rfl⟩ Again Out hAgain hOut
  refine wpT_block ?_
  refine wpT_seq_reg (fun K hK => ?_)
  refine opsL_cons rfl (fun K1 hK1 => ?_)
  simp only [execOp, uponT, resolve, Deferred.ofValue, invoke, builtin, asBool, Instr.makeFunc, Instr.extract, sx, Act.put, Act.eval, nrm]
  refine hK1 _ _ _ ?_; clear hK1 K1
  refine opsL_cons rfl (fun K1 hK1 => ?_)
  simp only [execOp, uponT, resolve, Deferred.ofValue, invoke, builtin, asBool, Instr.makeFunc, Instr.extract, sx, Act.put, Act.eval, nrm]
  refine hK1 _ _ _ ?_; clear hK1 K1
  refine opsL_cons rfl (fun K1 hK1 => ?_)
  simp only [execOp, uponT, resolve, Deferred.ofValue, invoke, builtin, asBool, Instr.makeFunc, Instr.extract, sx, Act.put, Act.eval, nrm, field51x1, Nat.add_zero]
  refine hK1 _ _ _ ?_; clear hK1 K1
  refine opsL_cons rfl (fun K1 hK1 => ?_)
  simp only [execOp, uponT, resolve, Deferred.ofValue, invoke, builtin, asBool, Instr.makeFunc, Instr.extract, sx, Act.put, Act.eval, nrm, List.extract_toArray, List.extract_eq_take_drop, List.drop_succ_cons, List.drop_zero, List.take_succ_cons, List.take_zero, List.size_toArray, List.length_cons, List.length_nil, Nat.reduceAdd, Nat.reduceSub, call32]
  refine uload_calls.mono ?_
  rintro _ H3 γ3 ⟨v, hv1, hv2, rfl, hH3, hγ3⟩
  refine hK1 _ _ _ ?_; clear hK1 K1
  rw [hH3, hγ3]
  clear hH3 hγ3
  refine opsL_cons rfl (fun K1 hK1 => ?_)
  simp only [execOp, uponT, resolve, Deferred.ofValue, invoke, builtin, asBool, Instr.makeFunc, Instr.extract, sx, Act.put, Act.eval, nrm]
  refine hK1 _ _ _ ?_; clear hK1 K1
  refine opsL_nil (hK _ _ _ ?_); clear hK K
  rcases Nat.eq_zero_or_pos v with rfl | hvp
  ·
    have e0 : ((0 : Nat) : Int) * KK = 0 := by simp
    have e1 : (0 : Int) / 4294967296 = 0 := rfl
    have e2 : bits .and .u64 0 2147483647 = 0 := by decide
    have e3 : bits .and .u64 0 2147483648 = 0 := by decide
    have e4 : IntKind.i32.wrap 0 = 0 := by decide
    have e5 : IntKind.u32.wrap 0 = 0 := by decide
    have e6 : ((0 : Int) == 0) = true := rfl
    have e7 : ((0 : Int) != 0) = false := rfl
    simp only [e0, if_true]
    refine wpT_seq_reg (fun K hK => ?_)
    refine opsL_cons rfl (fun K1 hK1 => ?_)
    simp only [execOp, uponT, resolve, Deferred.ofValue, invoke, builtin, asBool, Instr.makeFunc, Instr.extract, sx, Act.put, Act.eval, nrm]
    refine hK1 _ _ _ ?_; clear hK1 K1
    refine opsL_cons rfl (fun K1 hK1 => ?_)
    simp only [execOp, uponT, resolve, Deferred.ofValue, invoke, builtin, asBool, Instr.makeFunc, Instr.extract, sx, Act.put, Act.eval, nrm, semS_shr32, e1]
    refine hK1 _ _ _ ?_; clear hK1 K1
    refine opsL_cons rfl (fun K1 hK1 => ?_)
    simp only [execOp, uponT, resolve, Deferred.ofValue, invoke, builtin, asBool, Instr.makeFunc, Instr.extract, sx, Act.put, Act.eval, nrm, semS_conv (P := Tryd.prog) Tryd.underlying46 Tryd.underlying21, e4]
    refine hK1 _ _ _ ?_; clear hK1 K1
    refine opsL_cons rfl (fun K1 hK1 => ?_)
    simp only [execOp, uponT, resolve, Deferred.ofValue, invoke, builtin, asBool, Instr.makeFunc, Instr.extract, sx, Act.put, Act.eval, nrm]
    refine hK1 _ _ _ ?_; clear hK1 K1
    refine opsL_nil (hK _ _ _ ?_); clear hK K
    refine wpT_seq_reg (fun K hK => ?_)
    refine opsL_cons rfl (fun K1 hK1 => ?_)
    simp only [execOp, uponT, resolve, Deferred.ofValue, invoke, builtin, asBool, Instr.makeFunc, Instr.extract, sx, Act.put, Act.eval, nrm]
    refine hK1 _ _ _ ?_; clear hK1 K1
    refine opsL_cons rfl (fun K1 hK1 => ?_)
    simp only [execOp, uponT, resolve, Deferred.ofValue, invoke, builtin, asBool, Instr.makeFunc, Instr.extract, sx, Act.put, Act.eval, nrm, semS_and, e2]
    refine hK1 _ _ _ ?_; clear hK1 K1
    refine opsL_cons rfl (fun K1 hK1 => ?_)
    simp only [execOp, uponT, resolve, Deferred.ofValue, invoke, builtin, asBool, Instr.makeFunc, Instr.extract, sx, Act.put, Act.eval, nrm, semS_conv (P := Tryd.prog) Tryd.underlying46 Tryd.underlying49, e5]
    refine hK1 _ _ _ ?_; clear hK1 K1
    refine opsL_cons rfl (fun K1 hK1 => ?_)
    simp only [execOp, uponT, resolve, Deferred.ofValue, invoke, builtin, asBool, Instr.makeFunc, Instr.extract, sx, Act.put, Act.eval, nrm]
    refine hK1 _ _ _ ?_; clear hK1 K1
    refine opsL_nil (hK _ _ _ ?_); clear hK K
    refine wpT_seq ?_
    refine wpT_seq_reg (fun K hK => ?_)
    refine opsL_cons rfl (fun K1 hK1 => ?_)
    simp only [execOp, uponT, resolve, Deferred.ofValue, invoke, builtin, asBool, Instr.makeFunc, Instr.extract, sx, Act.put, Act.eval, nrm]
    refine hK1 _ _ _ ?_; clear hK1 K1
    refine opsL_cons rfl (fun K1 hK1 => ?_)
    simp only [execOp, uponT, resolve, Deferred.ofValue, invoke, builtin, asBool, Instr.makeFunc, Instr.extract, sx, Act.put, Act.eval, nrm, e6]
    refine hK1 _ _ _ ?_; clear hK1 K1
    refine opsL_nil (hK _ _ _ ?_); clear hK K
    refine wpT_cond (t := true) rfl ?_
    simp only [if_true, if_false, Bool.false_eq_true, reduceIte]
    refine wpT_seq ?_
    refine wpT_cond (t := true) rfl ?_
    simp only [if_true, if_false, Bool.false_eq_true, reduceIte]
    refine wpT_seq_reg (fun K hK => ?_)
    refine opsL_cons rfl (fun K1 hK1 => ?_)
    simp only [execOp, uponT, resolve, Deferred.ofValue, invoke, builtin, asBool, Instr.makeFunc, Instr.extract, sx, Act.put, Act.eval, nrm, callx25]
    refine hK1 _ _ _ ?_; clear hK1 K1
    refine opsL_nil (hK _ _ _ ?_); clear hK K
    refine wpT_reg (fun K hK => ?_)
    refine opsL_cons rfl (fun K1 hK1 => ?_)
    simp only [execOp, uponT, resolve, Deferred.ofValue, invoke, builtin, asBool, Instr.makeFunc, Instr.extract, sx, Act.put, Act.eval, nrm]
    refine hK1 _ _ _ ?_; clear hK1 K1
    refine opsL_calm rfl rfl rfl wgLib.underlying_tWgP wgLib.room_tWg (fun w l => ConcN.Gen.WgLive.cell0 l) ?_
    simp only [Act.put, Act.eval, nrm]
    subst hHc
    refine opsL_acq hd rfl rfl rfl ?_
    simp only [Act.put, Act.eval, nrm]
    refine opsL_nil (hK _ _ _ ?_); clear hK K
    simp only [thenT]
    refine wpT_seq ?_
    refine wpT_seq_reg (fun K hK => ?_)
    refine opsL_cons rfl (fun K1 hK1 => ?_)
    simp only [execOp, uponT, resolve, Deferred.ofValue, invoke, builtin, asBool, Instr.makeFunc, Instr.extract, sx, Act.put, Act.eval, nrm]
    refine hK1 _ _ _ ?_; clear hK1 K1
    refine opsL_cons rfl (fun K1 hK1 => ?_)
    simp only [execOp, uponT, resolve, Deferred.ofValue, invoke, builtin, asBool, Instr.makeFunc, Instr.extract, sx, Act.put, Act.eval, nrm, e6]
    refine hK1 _ _ _ ?_; clear hK1 K1
    refine opsL_cons rfl (fun K1 hK1 => ?_)
    simp only [execOp, uponT, resolve, Deferred.ofValue, invoke, builtin, asBool, Instr.makeFunc, Instr.extract, sx, Act.put, Act.eval, nrm]
    refine hK1 _ _ _ ?_; clear hK1 K1
    refine opsL_cons rfl (fun K1 hK1 => ?_)
    simp only [execOp, uponT, resolve, Deferred.ofValue, invoke, builtin, asBool, Instr.makeFunc, Instr.extract, sx, Act.put, Act.eval, nrm]
    refine hK1 _ _ _ ?_; clear hK1 K1
    refine opsL_cons rfl (fun K1 hK1 => ?_)
    simp only [execOp, uponT, resolve, Deferred.ofValue, invoke, builtin, asBool, Instr.makeFunc, Instr.extract, sx, Act.put, Act.eval, nrm, semS_and, e3]
    refine hK1 _ _ _ ?_; clear hK1 K1
    refine opsL_cons rfl (fun K1 hK1 => ?_)
    simp only [execOp, uponT, resolve, Deferred.ofValue, invoke, builtin, asBool, Instr.makeFunc, Instr.extract, sx, Act.put, Act.eval, nrm, e7]
    refine hK1 _ _ _ ?_; clear hK1 K1
    refine opsL_cons rfl (fun K1 hK1 => ?_)
    simp only [execOp, uponT, resolve, Deferred.ofValue, invoke, builtin, asBool, Instr.makeFunc, Instr.extract, sx, Act.put, Act.eval, nrm, if_true]
    refine hK1 _ _ _ ?_; clear hK1 K1
    refine opsL_cons rfl (fun K1 hK1 => ?_)
    simp only [execOp, uponT, resolve, Deferred.ofValue, invoke, builtin, asBool, Instr.makeFunc, Instr.extract, sx, Act.put, Act.eval, nrm]
    refine hK1 _ _ _ ?_; clear hK1 K1
    refine opsL_unwanted rfl ?_
    simp only [Act.put, Act.eval, nrm]
    refine opsL_unwanted rfl ?_
    simp only [Act.put, Act.eval, nrm]
    refine opsL_cons rfl (fun K1 hK1 => ?_)
    simp only [execOp, uponT, resolve, Deferred.ofValue, invoke, builtin, asBool, Instr.makeFunc, Instr.extract, sx, Act.put, Act.eval, nrm, Bool.false_eq_true, if_false]
    refine hK1 _ _ _ ?_; clear hK1 K1
    refine opsL_nil (hK _ _ _ ?_); clear hK K
    refine wpT_cond (t := false) rfl ?_
    simp only [if_true, if_false, Bool.false_eq_true, reduceIte]
    refine wpT_skip ?_
    simp only [thenT]
    refine wpT_ret (hret _ _ _ (bodyPost_ret0 rfl ?_))
    exact ⟨rfl, rfl⟩
  have e0 : (if v = 0 then FW.acq else FW.cas v) = FW.cas v := if_neg (by omega)
  rw [e0]
  obtain ⟨S', hS⟩ : ∃ S : Int, (v : Int) * KK = S := ⟨_, rfl⟩
  have hn16' : v ≤ 16 := Nat.le_trans hv2 hn16
  have a1 : S' / 4294967296 = (v : Int) := by rw [← hS]; simp only [KK]; omega
  have b1 : bits .and .u64 S' 2147483648 = 0 := by rw [← hS]; have := Go.ConcN.st_flag v 0 (by omega) (by omega); simpa [KK] using this
  have b2 : bits .and .u64 S' 2147483647 = 0 := by rw [← hS]; have := Go.ConcN.st_waiters v 0 (by omega) (by omega); simpa [KK] using this
  have c1 : IntKind.i32.wrap (v : Int) = (v : Int) := by rw [IntKind.wrap_i32]; omega
  have w1 : IntKind.u64.wrap (S' + 1) = S' + 1 := by rw [IntKind.wrap_u64, ← hS]; simp only [KK]; omega
  have q5 : ((v : Int) == 0) = false := by simp; omega
  have e5 : IntKind.u32.wrap 0 = 0 := by decide
  have e6 : ((0 : Int) == 0) = true := rfl
  have e7 : ((0 : Int) != 0) = false := rfl
  rw [hS]
  refine wpT_seq_reg (fun K hK => ?_)
  refine opsL_cons rfl (fun K1 hK1 => ?_)
  simp only [execOp, uponT, resolve, Deferred.ofValue, invoke, builtin, asBool, Instr.makeFunc, Instr.extract, sx, Act.put, Act.eval, nrm]
  refine hK1 _ _ _ ?_; clear hK1 K1
  refine opsL_cons rfl (fun K1 hK1 => ?_)
  simp only [execOp, uponT, resolve, Deferred.ofValue, invoke, builtin, asBool, Instr.makeFunc, Instr.extract, sx, Act.put, Act.eval, nrm, semS_shr32, a1]
  refine hK1 _ _ _ ?_; clear hK1 K1
  refine opsL_cons rfl (fun K1 hK1 => ?_)
  simp only [execOp, uponT, resolve, Deferred.ofValue, invoke, builtin, asBool, Instr.makeFunc, Instr.extract, sx, Act.put, Act.eval, nrm, semS_conv (P := Tryd.prog) Tryd.underlying46 Tryd.underlying21, c1]
  refine hK1 _ _ _ ?_; clear hK1 K1
  refine opsL_cons rfl (fun K1 hK1 => ?_)
  simp only [execOp, uponT, resolve, Deferred.ofValue, invoke, builtin, asBool, Instr.makeFunc, Instr.extract, sx, Act.put, Act.eval, nrm]
  refine hK1 _ _ _ ?_; clear hK1 K1
  refine opsL_nil (hK _ _ _ ?_); clear hK K
  refine wpT_seq_reg (fun K hK => ?_)
  refine opsL_cons rfl (fun K1 hK1 => ?_)
  simp only [execOp, uponT, resolve, Deferred.ofValue, invoke, builtin, asBool, Instr.makeFunc, Instr.extract, sx, Act.put, Act.eval, nrm]
  refine hK1 _ _ _ ?_; clear hK1 K1
  refine opsL_cons rfl (fun K1 hK1 => ?_)
  simp only [execOp, uponT, resolve, Deferred.ofValue, invoke, builtin, asBool, Instr.makeFunc, Instr.extract, sx, Act.put, Act.eval, nrm, semS_and, b2]
  refine hK1 _ _ _ ?_; clear hK1 K1
  refine opsL_cons rfl (fun K1 hK1 => ?_)
  simp only [execOp, uponT, resolve, Deferred.ofValue, invoke, builtin, asBool, Instr.makeFunc, Instr.extract, sx, Act.put, Act.eval, nrm, semS_conv (P := Tryd.prog) Tryd.underlying46 Tryd.underlying49, e5]
  refine hK1 _ _ _ ?_; clear hK1 K1
  refine opsL_cons rfl (fun K1 hK1 => ?_)
  simp only [execOp, uponT, resolve, Deferred.ofValue, invoke, builtin, asBool, Instr.makeFunc, Instr.extract, sx, Act.put, Act.eval, nrm]
  refine hK1 _ _ _ ?_; clear hK1 K1
  refine opsL_nil (hK _ _ _ ?_); clear hK K
  refine wpT_seq ?_
  refine wpT_seq_reg (fun K hK => ?_)
  refine opsL_cons rfl (fun K1 hK1 => ?_)
  simp only [execOp, uponT, resolve, Deferred.ofValue, invoke, builtin, asBool, Instr.makeFunc, Instr.extract, sx, Act.put, Act.eval, nrm]
  refine hK1 _ _ _ ?_; clear hK1 K1
  refine opsL_cons rfl (fun K1 hK1 => ?_)
  simp only [execOp, uponT, resolve, Deferred.ofValue, invoke, builtin, asBool, Instr.makeFunc, Instr.extract, sx, Act.put, Act.eval, nrm, q5]
  refine hK1 _ _ _ ?_; clear hK1 K1
  refine opsL_nil (hK _ _ _ ?_); clear hK K
  refine wpT_cond (t := false) rfl ?_
  simp only [if_true, if_false, Bool.false_eq_true, reduceIte]
  refine wpT_skip ?_
  simp only [thenT]
  refine wpT_seq_reg (fun K hK => ?_)
  refine opsL_cons rfl (fun K1 hK1 => ?_)
  simp only [execOp, uponT, resolve, Deferred.ofValue, invoke, builtin, asBool, Instr.makeFunc, Instr.extract, sx, Act.put, Act.eval, nrm]
  refine hK1 _ _ _ ?_; clear hK1 K1
  refine opsL_cons rfl (fun K1 hK1 => ?_)
  simp only [execOp, uponT, resolve, Deferred.ofValue, invoke, builtin, asBool, Instr.makeFunc, Instr.extract, sx, Act.put, Act.eval, nrm]
  refine hK1 _ _ _ ?_; clear hK1 K1
  refine opsL_cons rfl (fun K1 hK1 => ?_)
  simp only [execOp, uponT, resolve, Deferred.ofValue, invoke, builtin, asBool, Instr.makeFunc, Instr.extract, sx, Act.put, Act.eval, nrm, field51x1, Nat.add_zero]
  refine hK1 _ _ _ ?_; clear hK1 K1
  refine opsL_cons rfl (fun K1 hK1 => ?_)
  simp only [execOp, uponT, resolve, Deferred.ofValue, invoke, builtin, asBool, Instr.makeFunc, Instr.extract, sx, Act.put, Act.eval, nrm]
  refine hK1 _ _ _ ?_; clear hK1 K1
  refine opsL_cons rfl (fun K1 hK1 => ?_)
  simp only [execOp, uponT, resolve, Deferred.ofValue, invoke, builtin, asBool, Instr.makeFunc, Instr.extract, sx, Act.put, Act.eval, nrm]
  refine hK1 _ _ _ ?_; clear hK1 K1
  refine opsL_cons rfl (fun K1 hK1 => ?_)
  simp only [execOp, uponT, resolve, Deferred.ofValue, invoke, builtin, asBool, Instr.makeFunc, Instr.extract, sx, Act.put, Act.eval, nrm, w1]
  refine hK1 _ _ _ ?_; clear hK1 K1
  have hcas := @ucas_calls Qv φ Hc v hvp
  rw [hS] at hcas
  refine opsL_cons rfl (fun K1 hK1 => ?_)
  simp only [execOp, uponT, resolve, Deferred.ofValue, invoke, builtin, asBool, Instr.makeFunc, Instr.extract, sx, Act.put, Act.eval, nrm, List.extract_toArray, List.extract_eq_take_drop, List.drop_succ_cons, List.drop_zero, List.take_succ_cons, List.take_zero, List.size_toArray, List.length_cons, List.length_nil, Nat.reduceAdd, Nat.reduceSub, call38]
  refine hcas.mono ?_
  rintro _ H3 γ3 ⟨t, rfl, hH3, hγ3⟩
  refine hK1 _ _ _ ?_; clear hK1 K1
  rw [hH3, hγ3]
  clear hH3 hγ3
  refine opsL_nil (hK _ _ _ ?_); clear hK K
  cases t with
  | false =>
    refine wpT_cond (t := false) rfl ?_
    simp only [if_true, if_false, Bool.false_eq_true, reduceIte]
    refine wpT_skip ?_
    simp only [thenT, inBlockT, loopQ, reduceIte, Nat.reduceEqDiff, Bool.false_eq_true, if_false]
    refine hAgain _ _ _ ⟨hHc, v - 1, by omega, rfl, slots rfl⟩ ?_
    simp only [fwLeft]; omega
  | true =>
    refine wpT_cond (t := true) rfl ?_
    simp only [if_true, if_false, Bool.false_eq_true, reduceIte]
    refine wpT_seq ?_
    refine wpT_seq_reg (fun K hK => ?_)
    refine opsL_cons rfl (fun K1 hK1 => ?_)
    simp only [execOp, uponT, resolve, Deferred.ofValue, invoke, builtin, asBool, Instr.makeFunc, Instr.extract, sx, Act.put, Act.eval, nrm]
    refine hK1 _ _ _ ?_; clear hK1 K1
    refine opsL_cons rfl (fun K1 hK1 => ?_)
    simp only [execOp, uponT, resolve, Deferred.ofValue, invoke, builtin, asBool, Instr.makeFunc, Instr.extract, sx, Act.put, Act.eval, nrm]
    refine hK1 _ _ _ ?_; clear hK1 K1
    refine opsL_cons rfl (fun K1 hK1 => ?_)
    simp only [execOp, uponT, resolve, Deferred.ofValue, invoke, builtin, asBool, Instr.makeFunc, Instr.extract, sx, Act.put, Act.eval, nrm, e6]
    refine hK1 _ _ _ ?_; clear hK1 K1
    refine opsL_cons rfl (fun K1 hK1 => ?_)
    simp only [execOp, uponT, resolve, Deferred.ofValue, invoke, builtin, asBool, Instr.makeFunc, Instr.extract, sx, Act.put, Act.eval, nrm, if_true]
    refine hK1 _ _ _ ?_; clear hK1 K1
    refine opsL_nil (hK _ _ _ ?_); clear hK K
    refine wpT_cond (t := true) rfl ?_
    simp only [if_true, if_false, Bool.false_eq_true, reduceIte]
    refine wpT_reg (fun K hK => ?_)
    refine opsL_cons rfl (fun K1 hK1 => ?_)
    simp only [execOp, uponT, resolve, Deferred.ofValue, invoke, builtin, asBool, Instr.makeFunc, Instr.extract, sx, Act.put, Act.eval, nrm]
    refine hK1 _ _ _ ?_; clear hK1 K1
    refine opsL_cons rfl (fun K1 hK1 => ?_)
    simp only [execOp, uponT, resolve, Deferred.ofValue, invoke, builtin, asBool, Instr.makeFunc, Instr.extract, sx, Act.put, Act.eval, nrm]
    refine hK1 _ _ _ ?_; clear hK1 K1
    refine opsL_cons rfl (fun K1 hK1 => ?_)
    simp only [execOp, uponT, resolve, Deferred.ofValue, invoke, builtin, asBool, Instr.makeFunc, Instr.extract, sx, Act.put, Act.eval, nrm, field51x2, Nat.zero_add]
    refine hK1 _ _ _ ?_; clear hK1 K1
    refine opsL_calm rfl rfl rfl wgLib.underlying_tPU32 wgLib.room_tU32 (fun w l => ConcN.Gen.WgLive.cell1 l) ?_
    simp only [Act.put, Act.eval, nrm]
    refine opsL_say rfl rfl rfl ?_
    simp only [Act.put, Act.eval, nrm]
    refine opsL_nil (hK _ _ _ ?_); clear hK K
    simp only [thenT]
    refine wpT_seq_reg (fun K hK => ?_)
    refine opsL_cons rfl (fun K1 hK1 => ?_)
    simp only [execOp, uponT, resolve, Deferred.ofValue, invoke, builtin, asBool, Instr.makeFunc, Instr.extract, sx, Act.put, Act.eval, nrm]
    refine hK1 _ _ _ ?_; clear hK1 K1
    refine opsL_nil (hK _ _ _ ?_); clear hK K
    refine wpT_seq ?_
    refine wpT_seq_reg (fun K hK => ?_)
    refine opsL_cons rfl (fun K1 hK1 => ?_)
    simp only [execOp, uponT, resolve, Deferred.ofValue, invoke, builtin, asBool, Instr.makeFunc, Instr.extract, sx, Act.put, Act.eval, nrm]
    refine hK1 _ _ _ ?_; clear hK1 K1
    refine opsL_cons rfl (fun K1 hK1 => ?_)
    simp only [execOp, uponT, resolve, Deferred.ofValue, invoke, builtin, asBool, Instr.makeFunc, Instr.extract, sx, Act.put, Act.eval, nrm, semS_and, b1]
    refine hK1 _ _ _ ?_; clear hK1 K1
    refine opsL_cons rfl (fun K1 hK1 => ?_)
    simp only [execOp, uponT, resolve, Deferred.ofValue, invoke, builtin, asBool, Instr.makeFunc, Instr.extract, sx, Act.put, Act.eval, nrm, e7]
    refine hK1 _ _ _ ?_; clear hK1 K1
    refine opsL_cons rfl (fun K1 hK1 => ?_)
    simp only [execOp, uponT, resolve, Deferred.ofValue, invoke, builtin, asBool, Instr.makeFunc, Instr.extract, sx, Act.put, Act.eval, nrm]
    refine hK1 _ _ _ ?_; clear hK1 K1
    refine opsL_unwanted rfl ?_
    simp only [Act.put, Act.eval, nrm]
    refine opsL_cons rfl (fun K1 hK1 => ?_)
    simp only [execOp, uponT, resolve, Deferred.ofValue, invoke, builtin, asBool, Instr.makeFunc, Instr.extract, sx, Act.put, Act.eval, nrm, Bool.false_eq_true, if_false]
    refine hK1 _ _ _ ?_; clear hK1 K1
    refine opsL_nil (hK _ _ _ ?_); clear hK K
    refine wpT_cond (t := false) rfl ?_
    simp only [if_true, if_false, Bool.false_eq_true, reduceIte]
    refine wpT_skip ?_
    simp only [thenT]
    refine wpT_seq_reg (fun K hK => ?_)
    refine opsL_cons rfl (fun K1 hK1 => ?_)
    simp only [execOp, uponT, resolve, Deferred.ofValue, invoke, builtin, asBool, Instr.makeFunc, Instr.extract, sx, Act.put, Act.eval, nrm]
    refine hK1 _ _ _ ?_; clear hK1 K1
    refine opsL_cons rfl (fun K1 hK1 => ?_)
    simp only [execOp, uponT, resolve, Deferred.ofValue, invoke, builtin, asBool, Instr.makeFunc, Instr.extract, sx, Act.put, Act.eval, nrm]
    refine hK1 _ _ _ ?_; clear hK1 K1
    refine opsL_cons rfl (fun K1 hK1 => ?_)
    simp only [execOp, uponT, resolve, Deferred.ofValue, invoke, builtin, asBool, Instr.makeFunc, Instr.extract, sx, Act.put, Act.eval, nrm, field51x2, Nat.zero_add]
    refine hK1 _ _ _ ?_; clear hK1 K1
    refine opsL_cons rfl (fun K1 hK1 => ?_)
    simp only [execOp, uponT, resolve, Deferred.ofValue, invoke, builtin, asBool, Instr.makeFunc, Instr.extract, sx, Act.put, Act.eval, nrm]
    refine hK1 _ _ _ ?_; clear hK1 K1
    refine opsL_sema rfl rfl rfl ?_
    simp only [Act.put, Act.eval, nrm]
    refine opsL_nil (hK _ _ _ ?_); clear hK K
    refine wpT_seq_reg (fun K hK => ?_)
    refine opsL_cons rfl (fun K1 hK1 => ?_)
    simp only [execOp, uponT, resolve, Deferred.ofValue, invoke, builtin, asBool, Instr.makeFunc, Instr.extract, sx, Act.put, Act.eval, nrm]
    refine hK1 _ _ _ ?_; clear hK1 K1
    refine opsL_cons rfl (fun K1 hK1 => ?_)
    simp only [execOp, uponT, resolve, Deferred.ofValue, invoke, builtin, asBool, Instr.makeFunc, Instr.extract, sx, Act.put, Act.eval, nrm]
    refine hK1 _ _ _ ?_; clear hK1 K1
    refine opsL_cons rfl (fun K1 hK1 => ?_)
    simp only [execOp, uponT, resolve, Deferred.ofValue, invoke, builtin, asBool, Instr.makeFunc, Instr.extract, sx, Act.put, Act.eval, nrm, field51x1, Nat.add_zero]
    refine hK1 _ _ _ ?_; clear hK1 K1
    refine opsL_cons rfl (fun K1 hK1 => ?_)
    simp only [execOp, uponT, resolve, Deferred.ofValue, invoke, builtin, asBool, Instr.makeFunc, Instr.extract, sx, Act.put, Act.eval, nrm, List.extract_toArray, List.extract_eq_take_drop, List.drop_succ_cons, List.drop_zero, List.take_succ_cons, List.take_zero, List.size_toArray, List.length_cons, List.length_nil, Nat.reduceAdd, Nat.reduceSub, call32]
    refine uload2_calls.mono ?_
    rintro _ H3 γ3 ⟨rfl, hH3, hγ3⟩
    refine hK1 _ _ _ ?_; clear hK1 K1
    rw [hH3, hγ3]
    clear hH3 hγ3
    refine opsL_cons rfl (fun K1 hK1 => ?_)
    simp only [execOp, uponT, resolve, Deferred.ofValue, invoke, builtin, asBool, Instr.makeFunc, Instr.extract, sx, Act.put, Act.eval, nrm, e7]
    refine hK1 _ _ _ ?_; clear hK1 K1
    refine opsL_cons rfl (fun K1 hK1 => ?_)
    simp only [execOp, uponT, resolve, Deferred.ofValue, invoke, builtin, asBool, Instr.makeFunc, Instr.extract, sx, Act.put, Act.eval, nrm]
    refine hK1 _ _ _ ?_; clear hK1 K1
    refine opsL_nil (hK _ _ _ ?_); clear hK K
    refine wpT_seq ?_
    refine wpT_cond (t := true) rfl ?_
    simp only [if_true, if_false, Bool.false_eq_true, reduceIte]
    refine wpT_seq_reg (fun K hK => ?_)
    refine opsL_cons rfl (fun K1 hK1 => ?_)
    simp only [execOp, uponT, resolve, Deferred.ofValue, invoke, builtin, asBool, Instr.makeFunc, Instr.extract, sx, Act.put, Act.eval, nrm, callx25]
    refine hK1 _ _ _ ?_; clear hK1 K1
    refine opsL_nil (hK _ _ _ ?_); clear hK K
    refine wpT_reg (fun K hK => ?_)
    refine opsL_cons rfl (fun K1 hK1 => ?_)
    simp only [execOp, uponT, resolve, Deferred.ofValue, invoke, builtin, asBool, Instr.makeFunc, Instr.extract, sx, Act.put, Act.eval, nrm]
    refine hK1 _ _ _ ?_; clear hK1 K1
    refine opsL_calm rfl rfl rfl wgLib.underlying_tWgP wgLib.room_tWg (fun w l => ConcN.Gen.WgLive.cell0 l) ?_
    simp only [Act.put, Act.eval, nrm]
    subst hHc
    refine opsL_acq hd rfl rfl rfl ?_
    simp only [Act.put, Act.eval, nrm]
    refine opsL_nil (hK _ _ _ ?_); clear hK K
    simp only [thenT]
    refine wpT_seq ?_
    refine wpT_seq_reg (fun K hK => ?_)
    refine opsL_cons rfl (fun K1 hK1 => ?_)
    simp only [execOp, uponT, resolve, Deferred.ofValue, invoke, builtin, asBool, Instr.makeFunc, Instr.extract, sx, Act.put, Act.eval, nrm]
    refine hK1 _ _ _ ?_; clear hK1 K1
    refine opsL_nil (hK _ _ _ ?_); clear hK K
    refine wpT_cond (t := false) rfl ?_
    simp only [if_true, if_false, Bool.false_eq_true, reduceIte]
    refine wpT_skip ?_
    simp only [thenT]
    refine wpT_ret (hret _ _ _ (bodyPost_ret0 rfl ?_))
    exact ⟨rfl, rfl⟩
end Go.Proofs.YtcomjkbfmklfnaaDoor
