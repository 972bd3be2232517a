/-
  pick, by its contract. Conditions: none.
-/
import Derived.Test.YtcomjkbfmklfnaaDoorWi
import Derived.Test.YtcomjkbfmklfnaaDoorSepJ
set_option linter.unusedSimpArgs false
set_option linter.unusedVariables false
namespace Go.Proofs.YtcomjkbfmklfnaaDoor
open Go.Conc Go.Sep

/-- pick. -/
def pickL (x n : Int) : Int := IntKind.i64.wrap (Int.tmod (IntKind.u64.wrap x) (IntKind.u64.wrap n))

set_option maxRecDepth 100000 in
theorem pick_calls {Γ κ : Type} (Y : Proto Γ κ) (main : Bool) (H : Hp) (γ : Γ) (x n : Int) (hn : IntKind.u64.wrap n ≠ 0) :
    CallsT Tryd.prog Y main 4 #[.int .i64 x, .int .i64 n] H γ (fun v H' γ' => v = .int .i64 (pickL x n) ∧ γ' = γ ∧ H' = H) := by
  refine callsT_enter (T := [.int .i64 x, .int .i64 n, undef, undef, undef, undef, undef, undef, undef, undef, undef]) Tryd.func4 rfl Tryd.ntmps4 rfl (fun Q hret hnorm hless => ?_)
  refine wpT_seq_reg (fun K hK => ?_)
  refine opsL_cons rfl (fun K1 hK1 => ?_)
  simp only [execOp, uponT, resolve, Deferred.ofValue, invoke, builtin, asBool, Instr.makeFunc, Instr.extract, sx, Act.put, Act.eval, nrm]
  refine hK1 _ _ _ ?_; clear hK1 K1
  refine opsL_nil (hK _ _ _ ?_); clear hK K
  refine wpT_seq_reg (fun K hK => ?_)
  refine opsL_cons rfl (fun K1 hK1 => ?_)
  simp only [execOp, uponT, resolve, Deferred.ofValue, invoke, builtin, asBool, Instr.makeFunc, Instr.extract, sx, Act.put, Act.eval, nrm]
  refine hK1 _ _ _ ?_; clear hK1 K1
  refine opsL_cons rfl (fun K1 hK1 => ?_)
  simp only [execOp, uponT, resolve, Deferred.ofValue, invoke, builtin, asBool, Instr.makeFunc, Instr.extract, sx, Act.put, Act.eval, nrm, semS_conv Tryd.underlying3 Tryd.underlying39]
  refine hK1 _ _ _ ?_; clear hK1 K1
  refine opsL_cons rfl (fun K1 hK1 => ?_)
  simp only [execOp, uponT, resolve, Deferred.ofValue, invoke, builtin, asBool, Instr.makeFunc, Instr.extract, sx, Act.put, Act.eval, nrm]
  refine hK1 _ _ _ ?_; clear hK1 K1
  refine opsL_cons rfl (fun K1 hK1 => ?_)
  simp only [execOp, uponT, resolve, Deferred.ofValue, invoke, builtin, asBool, Instr.makeFunc, Instr.extract, sx, Act.put, Act.eval, nrm, semS_conv Tryd.underlying3 Tryd.underlying39]
  refine hK1 _ _ _ ?_; clear hK1 K1
  refine opsL_cons rfl (fun K1 hK1 => ?_)
  simp only [execOp, uponT, resolve, Deferred.ofValue, invoke, builtin, asBool, Instr.makeFunc, Instr.extract, sx, Act.put, Act.eval, nrm, semS_rem _ _ _ _ hn]
  refine hK1 _ _ _ ?_; clear hK1 K1
  refine opsL_cons rfl (fun K1 hK1 => ?_)
  simp only [execOp, uponT, resolve, Deferred.ofValue, invoke, builtin, asBool, Instr.makeFunc, Instr.extract, sx, Act.put, Act.eval, nrm, semS_conv Tryd.underlying39 Tryd.underlying3]
  refine hK1 _ _ _ ?_; clear hK1 K1
  refine opsL_cons rfl (fun K1 hK1 => ?_)
  simp only [execOp, uponT, resolve, Deferred.ofValue, invoke, builtin, asBool, Instr.makeFunc, Instr.extract, sx, Act.put, Act.eval, nrm]
  refine hK1 _ _ _ ?_; clear hK1 K1
  refine opsL_nil (hK _ _ _ ?_); clear hK K
  refine wpT_ret (hret _ _ _ (bodyPost_ret1 rfl ?_))
  exact ⟨rfl, rfl, rfl⟩

theorem idx1 {P : Program} {H : Hp} {t e : TypeId} (hu : P.underlying t = some (.slice e)) {ti : TypeInfo} (hi : P.info? e = some ti) (b off len cap : Nat) (h : 1 < len) (K : Value → Hp → Prop) :
    SemS P (Instr.indexAt t (.slice (some ⟨b, off, none⟩) len cap) (.int .i64 1)) H K = K (.pointer (some ⟨b, off + ti.size, none⟩)) H := by
  have := semS_indexAt (P := P) (H := H) hu hi b off len cap 1 h K
  rw [Nat.one_mul] at this
  exact this
theorem fs56_eq : fs56 = #[fd56x0, fd56x1, fd56x2] := by kernel_rfl
theorem build56 {H : Hp} (x y z : Int) (K : Value → Hp → Prop) : SemS Tryd.prog (Instr.build 56 #[(0, .int .i64 x), (1, .int .i64 y), (2, .int .i64 z)]) H K = K (.agg #[.int .i64 x, .int .i64 y, .int .i64 z]) H := by
  simp only [Instr.build, semS_bind, semS_zeroValue, info56, zero56, semS_underlying, str56, fs56_eq, List.mapM_toArray, List.mapM_cons, List.mapM_nil, semS_map, semS_pure, semS_sizeOf, fd56x0t, fd56x1t, fd56x2t, info3, size3, fd56x0o, fd56x1o, fd56x2o]
  simp [Instr.fill, Value.cells]
theorem lit23 {H : Hp} (a b c d e f : Int) (K : Value → Hp → Prop) : SemS Tryd.prog (Instr.buildSlice 23 2 #[(0, .agg #[.int .i64 a, .int .i64 b, .int .i64 c]), (1, .agg #[.int .i64 d, .int .i64 e, .int .i64 f])]) H K =
    ∀ m, H.own m = none → H.ro m = none → K (.slice (some ⟨m, 0, none⟩) 2 2) (H.set m (.cells #[.int .i64 a, .int .i64 b, .int .i64 c, .int .i64 d, .int .i64 e, .int .i64 f] 56 (0, 0))) := by
  have e0 : (Array.range (2 * 3)).map (fun i => (Value.agg #[Value.int IntKind.i64 0, Value.int IntKind.i64 0, Value.int IntKind.i64 0]).cells[i % (Value.agg #[Value.int IntKind.i64 0, Value.int IntKind.i64 0, Value.int IntKind.i64 0]).cells.size]!) = #[Value.int .i64 0, Value.int .i64 0, Value.int .i64 0, Value.int .i64 0, Value.int .i64 0, Value.int .i64 0] := by kernel_rfl
  simp only [Instr.buildSlice, semS_bind, semS_underlying, Tryd.underlying23, semS_sizeOf, info56, size56, semS_ite, semS_zeroValue, zero56, semS_pure, if_neg (show ¬ 2 * 3 > 2 ^ 24 by decide), if_neg (show ¬ 2 * 3 = 0 by decide), e0]
  simp [Instr.fill, Value.cells, newRow]
theorem called_val : playR [⟨0, 5, 1⟩, ⟨1, 1, 1⟩] 1 = .inr [(0, 0), (-1, 2)] := by kernel_rfl

set_option maxRecDepth 100000 in
set_option maxHeartbeats 4000000 in
theorem called_calls {Γ κ : Type} (Y : Proto Γ κ) (hpub : Pub Y) (main : Bool) (H : Hp) (γ : Γ) :
    CallsT Tryd.prog Y main 6 #[] H γ (fun v H' γ' => v = .bool true ∧ γ' = γ ∧ H' = H) := by
  refine callsT_enter (T := [undef, undef, undef, undef, undef, undef, undef, undef, undef, undef, undef, undef, undef, undef, undef, undef, undef, undef, undef, undef, undef, undef, undef, undef, undef, undef, undef, undef, undef, undef, undef, undef, undef, undef, undef, undef, undef, undef]) Tryd.func6 rfl Tryd.ntmps6 rfl (fun Q hret hnorm hless => ?_)
  refine wpT_seq_reg (fun K hK => ?_)
  refine opsL_cons rfl (fun K1 hK1 => ?_)
  simp only [execOp, uponT, resolve, Deferred.ofValue, invoke, builtin, asBool, Instr.makeFunc, Instr.extract, sx, Act.put, Act.eval, nrm]
  refine hK1 _ _ _ ?_; clear hK1 K1
  refine opsL_nil (hK _ _ _ ?_); clear hK K
  refine wpT_seq_reg (fun K hK => ?_)
  refine opsL_cons rfl (fun K1 hK1 => ?_)
  simp only [execOp, uponT, resolve, Deferred.ofValue, invoke, builtin, asBool, Instr.makeFunc, Instr.extract, sx, Act.put, Act.eval, nrm, build56]
  refine hK1 _ _ _ ?_; clear hK1 K1
  refine opsL_cons rfl (fun K1 hK1 => ?_)
  simp only [execOp, uponT, resolve, Deferred.ofValue, invoke, builtin, asBool, Instr.makeFunc, Instr.extract, sx, Act.put, Act.eval, nrm, build56]
  refine hK1 _ _ _ ?_; clear hK1 K1
  refine opsL_cons rfl (fun K1 hK1 => ?_)
  simp only [execOp, uponT, resolve, Deferred.ofValue, invoke, builtin, asBool, Instr.makeFunc, Instr.extract, sx, Act.put, Act.eval, nrm, lit23]
  intro m hm1 hm2
  refine hK1 _ _ _ ?_; clear hK1 K1
  refine opsL_ghost (hpub _ _ m _ (set_own_same _ _ _)) ?_
  have hT : Taps ((H.set m (.cells #[.int .i64 0, .int .i64 5, .int .i64 1, .int .i64 1, .int .i64 1, .int .i64 1] 56 (0, 0))).share m) (some ⟨m, 0, none⟩) [⟨0, 5, 1⟩, ⟨1, 1, 1⟩] := by
    refine .inr ⟨m, 0, rfl, fun i hi => ?_⟩
    rw [share_cell (set_own_same _ _ _), share_cell (set_own_same _ _ _), share_cell (set_own_same _ _ _), cell_own (set_own_same _ _ _), cell_own (set_own_same _ _ _), cell_own (set_own_same _ _ _)]
    have : i = 0 ∨ i = 1 := by simp at hi; omega
    rcases this with rfl | rfl <;> exact ⟨rfl, rfl, rfl⟩
  have hp := play_calls Y main _ γ (capA := 2) hT (fun x _ e => by cases e; exact share_own) 1
  rw [called_val] at hp
  refine opsL_cons rfl (fun K1 hK1 => ?_)
  simp only [execOp, uponT, resolve, Deferred.ofValue, invoke, builtin, asBool, Instr.makeFunc, Instr.extract, sx, Act.put, Act.eval, nrm, List.extract_toArray, List.extract_eq_take_drop, List.drop_succ_cons, List.drop_zero, List.take_succ_cons, List.take_zero, List.size_toArray, List.length_cons, List.length_nil, Nat.reduceAdd, Nat.reduceSub, call8]
  refine hp.mono ?_
  rintro _ H3 γ ⟨rfl, B, cs, hB, rfl, rfl, hF, hs⟩
  refine hK1 _ _ _ ?_; clear hK1 K1
  refine opsL_cons rfl (fun K1 hK1 => ?_)
  simp only [execOp, uponT, resolve, Deferred.ofValue, invoke, builtin, asBool, Instr.makeFunc, Instr.extract, sx, Act.put, Act.eval, nrm]
  refine hK1 _ _ _ ?_; clear hK1 K1
  refine opsL_cons rfl (fun K1 hK1 => ?_)
  simp only [execOp, uponT, resolve, Deferred.ofValue, invoke, builtin, asBool, Instr.makeFunc, Instr.extract, sx, Act.put, Act.eval, nrm]
  refine hK1 _ _ _ ?_; clear hK1 K1
  refine opsL_cons rfl (fun K1 hK1 => ?_)
  simp only [execOp, uponT, resolve, Deferred.ofValue, invoke, builtin, asBool, Instr.makeFunc, Instr.extract, sx, Act.put, Act.eval, nrm]
  refine hK1 _ _ _ ?_; clear hK1 K1
  refine opsL_cons rfl (fun K1 hK1 => ?_)
  simp only [execOp, uponT, resolve, Deferred.ofValue, invoke, builtin, asBool, Instr.makeFunc, Instr.extract, sx, Act.put, Act.eval, nrm]
  refine hK1 _ _ _ ?_; clear hK1 K1
  refine opsL_cons rfl (fun K1 hK1 => ?_)
  simp only [execOp, uponT, resolve, Deferred.ofValue, invoke, builtin, asBool, Instr.makeFunc, Instr.extract, sx, Act.put, Act.eval, nrm]
  refine hK1 _ _ _ ?_; clear hK1 K1
  refine opsL_nil (hK _ _ _ ?_); clear hK K
  have hown := set_own_same ((H.set m (.cells #[.int .i64 0, .int .i64 5, .int .i64 1, .int .i64 1, .int .i64 1, .int .i64 1] 56 (0, 0))).share m) B (.cells cs 37 (0, 0))
  have f0 := (cell_own hown 0).trans (hF 0 (by decide)).1
  have f1 := (cell_own hown 2).trans (hF 1 (by decide)).1
  have f2 := (cell_own hown 3).trans (hF 1 (by decide)).2
  have hle : Less (((H.set m (.cells #[.int .i64 0, .int .i64 5, .int .i64 1, .int .i64 1, .int .i64 1, .int .i64 1] 56 (0, 0))).share m).set B (.cells cs 37 (0, 0))) H := by
    refine ⟨fun b o h => ?_, fun b o h => ?_, rfl⟩
    · have h1 : b ≠ m := own_ne h hm1
      have h2 : b ≠ B := by
        rintro rfl
        have := hB.1
        rw [share_own_ne h1, set_own_ne _ _ h1, h] at this
        cases this
      rw [set_own_ne _ _ h2, share_own_ne h1, set_own_ne _ _ h1]; exact h
    · have h1 : b ≠ m := by rintro rfl; rw [hm2] at h; cases h
      exact (share_ro_ne h1).trans h
  generalize (((H.set m (.cells #[.int .i64 0, .int .i64 5, .int .i64 1, .int .i64 1, .int .i64 1, .int .i64 1] 56 (0, 0))).share m).set B (.cells cs 37 (0, 0))) = Hd at *
  simp only [List.length_cons, List.length_nil, Nat.reduceAdd]
  have e2 : (((2 : Nat) : Int) == 2) = true := rfl
  have e3 : ((0 : Int) == 0) = true := rfl
  have e4 : ((-1 : Int) == -1) = true := rfl
  have e5 : ((2 : Int) == 2) = true := rfl
  have f0' : Hd.cell ⟨B, 0, none⟩ = some (.int .i64 0) := f0
  have f1' : Hd.cell ⟨B, 2, none⟩ = some (.int .i64 (-1)) := f1
  have f2' : Hd.cell ⟨B, 3, none⟩ = some (.int .i64 2) := f2
  refine wpT_seq_reg (fun K hK => ?_)
  refine opsL_cons rfl (fun K1 hK1 => ?_)
  simp only [execOp, uponT, resolve, Deferred.ofValue, invoke, builtin, asBool, Instr.makeFunc, Instr.extract, sx, Act.put, Act.eval, nrm]
  refine hK1 _ _ _ ?_; clear hK1 K1
  refine opsL_cons rfl (fun K1 hK1 => ?_)
  simp only [execOp, uponT, resolve, Deferred.ofValue, invoke, builtin, asBool, Instr.makeFunc, Instr.extract, sx, Act.put, Act.eval, nrm, semS_eqGuardNil _ _ _ _ (.inl rfl), semS_eqlNil if27 _ (.inl rfl)]
  refine hK1 _ _ _ ?_; clear hK1 K1
  refine opsL_cons rfl (fun K1 hK1 => ?_)
  simp only [execOp, uponT, resolve, Deferred.ofValue, invoke, builtin, asBool, Instr.makeFunc, Instr.extract, sx, Act.put, Act.eval, nrm]
  refine hK1 _ _ _ ?_; clear hK1 K1
  refine opsL_cons rfl (fun K1 hK1 => ?_)
  simp only [execOp, uponT, resolve, Deferred.ofValue, invoke, builtin, asBool, Instr.makeFunc, Instr.extract, sx, Act.put, Act.eval, nrm]
  refine hK1 _ _ _ ?_; clear hK1 K1
  refine opsL_cons rfl (fun K1 hK1 => ?_)
  simp only [execOp, uponT, resolve, Deferred.ofValue, invoke, builtin, asBool, Instr.makeFunc, Instr.extract, sx, Act.put, Act.eval, nrm, semS_len Tryd.underlying33]
  refine hK1 _ _ _ ?_; clear hK1 K1
  refine opsL_cons rfl (fun K1 hK1 => ?_)
  simp only [execOp, uponT, resolve, Deferred.ofValue, invoke, builtin, asBool, Instr.makeFunc, Instr.extract, sx, Act.put, Act.eval, nrm, e2]
  refine hK1 _ _ _ ?_; clear hK1 K1
  refine opsL_cons rfl (fun K1 hK1 => ?_)
  simp only [execOp, uponT, resolve, Deferred.ofValue, invoke, builtin, asBool, Instr.makeFunc, Instr.extract, sx, Act.put, Act.eval, nrm, if_true]
  refine hK1 _ _ _ ?_; clear hK1 K1
  refine opsL_cons rfl (fun K1 hK1 => ?_)
  simp only [execOp, uponT, resolve, Deferred.ofValue, invoke, builtin, asBool, Instr.makeFunc, Instr.extract, sx, Act.put, Act.eval, nrm]
  refine hK1 _ _ _ ?_; clear hK1 K1
  refine opsL_cons rfl (fun K1 hK1 => ?_)
  simp only [execOp, uponT, resolve, Deferred.ofValue, invoke, builtin, asBool, Instr.makeFunc, Instr.extract, sx, Act.put, Act.eval, nrm]
  refine hK1 _ _ _ ?_; clear hK1 K1
  refine opsL_cons rfl (fun K1 hK1 => ?_)
  simp only [execOp, uponT, resolve, Deferred.ofValue, invoke, builtin, asBool, Instr.makeFunc, Instr.extract, sx, Act.put, Act.eval, nrm, semS_indexAt0 Tryd.underlying33 info37 _ _ _ _ (show 0 < 2 by decide)]
  refine hK1 _ _ _ ?_; clear hK1 K1
  refine opsL_cons rfl (fun K1 hK1 => ?_)
  simp only [execOp, uponT, resolve, Deferred.ofValue, invoke, builtin, asBool, Instr.makeFunc, Instr.extract, sx, Act.put, Act.eval, nrm, field37x0, Nat.add_zero]
  refine hK1 _ _ _ ?_; clear hK1 K1
  refine opsL_cons rfl (fun K1 hK1 => ?_)
  simp only [execOp, uponT, resolve, Deferred.ofValue, invoke, builtin, asBool, Instr.makeFunc, Instr.extract, sx, Act.put, Act.eval, nrm, semS_loadAt one3 f0']
  refine hK1 _ _ _ ?_; clear hK1 K1
  refine opsL_cons rfl (fun K1 hK1 => ?_)
  simp only [execOp, uponT, resolve, Deferred.ofValue, invoke, builtin, asBool, Instr.makeFunc, Instr.extract, sx, Act.put, Act.eval, nrm, e3]
  refine hK1 _ _ _ ?_; clear hK1 K1
  refine opsL_cons rfl (fun K1 hK1 => ?_)
  simp only [execOp, uponT, resolve, Deferred.ofValue, invoke, builtin, asBool, Instr.makeFunc, Instr.extract, sx, Act.put, Act.eval, nrm, if_true]
  refine hK1 _ _ _ ?_; clear hK1 K1
  refine opsL_cons rfl (fun K1 hK1 => ?_)
  simp only [execOp, uponT, resolve, Deferred.ofValue, invoke, builtin, asBool, Instr.makeFunc, Instr.extract, sx, Act.put, Act.eval, nrm]
  refine hK1 _ _ _ ?_; clear hK1 K1
  refine opsL_cons rfl (fun K1 hK1 => ?_)
  simp only [execOp, uponT, resolve, Deferred.ofValue, invoke, builtin, asBool, Instr.makeFunc, Instr.extract, sx, Act.put, Act.eval, nrm]
  refine hK1 _ _ _ ?_; clear hK1 K1
  refine opsL_cons rfl (fun K1 hK1 => ?_)
  simp only [execOp, uponT, resolve, Deferred.ofValue, invoke, builtin, asBool, Instr.makeFunc, Instr.extract, sx, Act.put, Act.eval, nrm, idx1 Tryd.underlying33 info37 _ _ _ _ (show 1 < 2 by decide), size37, Nat.zero_add]
  refine hK1 _ _ _ ?_; clear hK1 K1
  refine opsL_cons rfl (fun K1 hK1 => ?_)
  simp only [execOp, uponT, resolve, Deferred.ofValue, invoke, builtin, asBool, Instr.makeFunc, Instr.extract, sx, Act.put, Act.eval, nrm, field37x0, Nat.add_zero]
  refine hK1 _ _ _ ?_; clear hK1 K1
  refine opsL_cons rfl (fun K1 hK1 => ?_)
  simp only [execOp, uponT, resolve, Deferred.ofValue, invoke, builtin, asBool, Instr.makeFunc, Instr.extract, sx, Act.put, Act.eval, nrm, semS_loadAt one3 f1']
  refine hK1 _ _ _ ?_; clear hK1 K1
  refine opsL_cons rfl (fun K1 hK1 => ?_)
  simp only [execOp, uponT, resolve, Deferred.ofValue, invoke, builtin, asBool, Instr.makeFunc, Instr.extract, sx, Act.put, Act.eval, nrm, e4]
  refine hK1 _ _ _ ?_; clear hK1 K1
  refine opsL_cons rfl (fun K1 hK1 => ?_)
  simp only [execOp, uponT, resolve, Deferred.ofValue, invoke, builtin, asBool, Instr.makeFunc, Instr.extract, sx, Act.put, Act.eval, nrm, if_true]
  refine hK1 _ _ _ ?_; clear hK1 K1
  refine opsL_cons rfl (fun K1 hK1 => ?_)
  simp only [execOp, uponT, resolve, Deferred.ofValue, invoke, builtin, asBool, Instr.makeFunc, Instr.extract, sx, Act.put, Act.eval, nrm]
  refine hK1 _ _ _ ?_; clear hK1 K1
  refine opsL_cons rfl (fun K1 hK1 => ?_)
  simp only [execOp, uponT, resolve, Deferred.ofValue, invoke, builtin, asBool, Instr.makeFunc, Instr.extract, sx, Act.put, Act.eval, nrm]
  refine hK1 _ _ _ ?_; clear hK1 K1
  refine opsL_cons rfl (fun K1 hK1 => ?_)
  simp only [execOp, uponT, resolve, Deferred.ofValue, invoke, builtin, asBool, Instr.makeFunc, Instr.extract, sx, Act.put, Act.eval, nrm, idx1 Tryd.underlying33 info37 _ _ _ _ (show 1 < 2 by decide), size37, Nat.zero_add]
  refine hK1 _ _ _ ?_; clear hK1 K1
  refine opsL_cons rfl (fun K1 hK1 => ?_)
  simp only [execOp, uponT, resolve, Deferred.ofValue, invoke, builtin, asBool, Instr.makeFunc, Instr.extract, sx, Act.put, Act.eval, nrm, field37x1, Nat.reduceAdd]
  refine hK1 _ _ _ ?_; clear hK1 K1
  refine opsL_cons rfl (fun K1 hK1 => ?_)
  simp only [execOp, uponT, resolve, Deferred.ofValue, invoke, builtin, asBool, Instr.makeFunc, Instr.extract, sx, Act.put, Act.eval, nrm, semS_loadAt one3 f2']
  refine hK1 _ _ _ ?_; clear hK1 K1
  refine opsL_cons rfl (fun K1 hK1 => ?_)
  simp only [execOp, uponT, resolve, Deferred.ofValue, invoke, builtin, asBool, Instr.makeFunc, Instr.extract, sx, Act.put, Act.eval, nrm, e5]
  refine hK1 _ _ _ ?_; clear hK1 K1
  refine opsL_cons rfl (fun K1 hK1 => ?_)
  simp only [execOp, uponT, resolve, Deferred.ofValue, invoke, builtin, asBool, Instr.makeFunc, Instr.extract, sx, Act.put, Act.eval, nrm, if_true]
  refine hK1 _ _ _ ?_; clear hK1 K1
  refine opsL_cons rfl (fun K1 hK1 => ?_)
  simp only [execOp, uponT, resolve, Deferred.ofValue, invoke, builtin, asBool, Instr.makeFunc, Instr.extract, sx, Act.put, Act.eval, nrm]
  refine hK1 _ _ _ ?_; clear hK1 K1
  refine opsL_nil (hK _ _ _ ?_); clear hK K
  refine wpT_ret (hless _ _ _ _ _ hle (hret _ _ _ (bodyPost_ret1 rfl ?_)))
  exact ⟨rfl, rfl, rfl⟩
end Go.Proofs.YtcomjkbfmklfnaaDoor
