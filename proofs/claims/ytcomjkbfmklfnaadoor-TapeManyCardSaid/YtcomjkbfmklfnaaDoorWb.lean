/-
  The library's heap over the house's clock: up, down, Push, Pop, by contracts. Conditions: none.
-/
import Derived.Test.YtcomjkbfmklfnaaDoorSepK
import Derived.Test.YtcomjkbfmklfnaaDoorWa
set_option linter.unusedSimpArgs false
set_option linter.unusedVariables false
namespace Go.Proofs.YtcomjkbfmklfnaaDoor
open Go.Conc Go.Sep

/-- The number in a slot. -/
def slotNat (a : Act) (i : Nat) : Nat := match a.tmps.getD i undef with | .int _ n => n.toNat | _ => 0

theorem set_self {H : Hp} {b : Nat} {o : Obj} (h : H.own b = some o) : H.set b o = H := by
  unfold Hp.set
  cases H with
  | mk own ro d =>
    congr 1
    funext b'
    by_cases hb : b' = b
    · subst hb; simp at h; simp [h]
    · simp [hb]

theorem parent_eq (j : Nat) (h : j < 4294967296) : IntKind.i64.wrap ((IntKind.i64.wrap ((j : Int) - 1)).tdiv 2) = (((j - 1) / 2 : Nat) : Int) := by
  by_cases h0 : j = 0
  · subst h0; rfl
  · rw [wrap_pred j (by omega) (by omega), Int.tdiv_eq_ediv_of_nonneg (by omega)]
    rw [show ((j - 1 : Nat) : Int) / 2 = (((j - 1) / 2 : Nat) : Int) by omega]
    exact wrap_nat _ (by omega)

/-- heap.up. -/
def upL : Nat → List Int → Nat → List Int
  | 0, xs, _ => xs
  | f + 1, xs, j => if (j - 1) / 2 = j ∨ ¬ (xs.getD j 0 < xs.getD ((j - 1) / 2) 0) then xs else upL f (swapL xs ((j - 1) / 2) j) ((j - 1) / 2)
theorem upL_succ (f : Nat) (xs : List Int) (j : Nat) : upL (f + 1) xs j = if (j - 1) / 2 = j ∨ ¬ (xs.getD j 0 < xs.getD ((j - 1) / 2) 0) then xs else upL f (swapL xs ((j - 1) / 2) j) ((j - 1) / 2) := rfl
theorem upL_length : ∀ (f : Nat) (xs : List Int) (j : Nat), (upL f xs j).length = xs.length
  | 0, _, _ => rfl
  | f + 1, xs, j => by
    unfold upL
    split
    · rfl
    · rw [upL_length f, swapL_length]

/-- The clock in memory. -/
structure Clk (H : Hp) (bc B cap : Nat) (cs : Array Value) (t : TypeId) (xs : List Int) : Prop where
  hbc : H.own bc = some (.cells #[.slice (some ⟨B, 0, none⟩) xs.length cap] 61 (0, 0))
  hB : H.own B = some (.cells cs t (0, 0))
  ne : bc ≠ B
  ints : Ints cs 0 xs
  size : cap ≤ cs.size
  len : xs.length ≤ cap
  small : xs.length < 256

theorem Clk.cell {H : Hp} {bc B cap : Nat} {cs : Array Value} {t : TypeId} {xs : List Int} (h : Clk H bc B cap cs t xs) : H.cell ⟨bc, 0, none⟩ = some (.slice (some ⟨B, 0, none⟩) xs.length cap) := by rw [cell_own h.hbc]; rfl

theorem Clk.turn {H : Hp} {bc B cap : Nat} {cs cs' : Array Value} {t : TypeId} {xs ys : List Int} (h : Clk H bc B cap cs t xs) (hi : Ints cs' 0 ys) (hs : cs'.size = cs.size) (hl : ys.length = xs.length) : Clk (H.set B (.cells cs' t (0, 0))) bc B cap cs' t ys :=
  ⟨by rw [set_own_ne _ _ h.ne, hl]; exact h.hbc, set_own_same _ _ _, h.ne, hi, by rw [hs]; exact h.size, by rw [hl]; exact h.len, by rw [hl]; exact h.small⟩

set_option maxRecDepth 100000 in
set_option maxHeartbeats 4000000 in
theorem up_calls {Γ κ : Type} (Y : Proto Γ κ) (main : Bool) (H : Hp) (γ : Γ) {bc B cap : Nat} {cs : Array Value} {t : TypeId} {xs : List Int} (hc0 : Clk H bc B cap cs t xs) (j0 : Nat) (hj : j0 < xs.length) :
    CallsT Tryd.prog Y main 45 #[.iface 63 (.pointer (some ⟨bc, 0, none⟩)), .int .i64 j0] H γ (fun v H' γ' => v = .tuple #[] ∧ γ' = γ ∧ ∃ cs', H' = H.set B (.cells cs' t (0, 0)) ∧ Ints cs' 0 (upL (j0 + 1) xs j0) ∧ cs'.size = cs.size) := by
  obtain ⟨hbc, hB, hne, hx, hsz, hcap, hsm⟩ := hc0
  refine callsT_enter (T := [.iface 63 (.pointer (some ⟨bc, 0, none⟩)), .int .i64 j0, undef, undef, undef, undef, undef, undef, undef, undef, undef, undef, undef, undef, undef, undef, undef, undef, undef, undef, undef, undef, undef]) Tryd.func45 rfl Tryd.ntmps45 rfl (fun Q hret hnorm hless => ?_)
  refine wpT_block_loop (fun a Hc γc => ∃ (f j : Nat) (xs' : List Int) (cs' : Array Value) (s4 s5 s6 s7 s8 s9 s10 s11 s12 s13 s14 s15 s16 s17 s18 s19 s20 s21 s22 : Value), γc = γ ∧ Hc = H.set B (.cells cs' t (0, 0)) ∧ Clk Hc bc B cap cs' t xs' ∧ cs'.size = cs.size ∧ xs'.length = xs.length ∧ j < xs.length ∧ j < f ∧ upL f xs' j = upL (j0 + 1) xs j0 ∧ a = ⟨#[.iface 63 (.pointer (some ⟨bc, 0, none⟩)), .int .i64 j, undef, undef, s4, s5, s6, s7, s8, s9, s10, s11, s12, s13, s14, s15, s16, s17, s18, s19, s20, s21, s22], []⟩) (fun a _ _ => slotNat a 1) ?_ ?_
  · exact ⟨j0 + 1, j0, xs, cs, undef, undef, undef, undef, undef, undef, undef, undef, undef, undef, undef, undef, undef, undef, undef, undef, undef, undef, undef, rfl, (set_self hB).symm, ⟨hbc, hB, hne, hx, hsz, hcap, hsm⟩, rfl, rfl, hj, by omega, rfl, rfl⟩
  rintro _ _ _ ⟨f, j, xs', cs', s4, s5, s6, s7, s8, s9, s10, s11, s12, s13, s14, s15, s16, s17, s18, s19, s20, s21, s22, rfl, rfl, hc, hsz', hl', hj', hf, hup, rfl⟩ Again Out hAgain hOut
  obtain ⟨f, rfl⟩ : ∃ f', f = f' + 1 := ⟨f - 1, by omega⟩
  have hpar := parent_eq j (by have := hc.small; omega)
  have hil : (j - 1) / 2 < xs'.length := by omega
  rw [upL_succ] at hup
  refine wpT_block ?_
  refine wpT_seq_reg (fun K hK => ?_)
  refine opsL_cons rfl (fun K1 hK1 => ?_)
  simp only [execOp, uponT, resolve, Deferred.ofValue, invoke, builtin, asBool, Instr.makeFunc, Instr.extract, sx, Act.put, Act.eval, nrm]
  refine hK1 _ _ _ ?_; clear hK1 K1
  refine opsL_cons rfl (fun K1 hK1 => ?_)
  simp only [execOp, uponT, resolve, Deferred.ofValue, invoke, builtin, asBool, Instr.makeFunc, Instr.extract, sx, Act.put, Act.eval, nrm]
  refine hK1 _ _ _ ?_; clear hK1 K1
  refine opsL_cons rfl (fun K1 hK1 => ?_)
  simp only [execOp, uponT, resolve, Deferred.ofValue, invoke, builtin, asBool, Instr.makeFunc, Instr.extract, sx, Act.put, Act.eval, nrm, semS_quo _ _ _ _ (show (2 : Int) ≠ 0 by decide), hpar]
  refine hK1 _ _ _ ?_; clear hK1 K1
  refine opsL_cons rfl (fun K1 hK1 => ?_)
  simp only [execOp, uponT, resolve, Deferred.ofValue, invoke, builtin, asBool, Instr.makeFunc, Instr.extract, sx, Act.put, Act.eval, nrm]
  refine hK1 _ _ _ ?_; clear hK1 K1
  refine opsL_nil (hK _ _ _ ?_); clear hK K
  refine wpT_seq ?_
  by_cases h0 : (j - 1) / 2 = j
  · have hb : ((((j - 1) / 2 : Nat) : Int) == (j : Int)) = true := by simp [h0]
    refine wpT_seq_reg (fun K hK => ?_)
    refine opsL_cons rfl (fun K1 hK1 => ?_)
    simp only [execOp, uponT, resolve, Deferred.ofValue, invoke, builtin, asBool, Instr.makeFunc, Instr.extract, sx, Act.put, Act.eval, nrm]
    refine hK1 _ _ _ ?_; clear hK1 K1
    refine opsL_cons rfl (fun K1 hK1 => ?_)
    simp only [execOp, uponT, resolve, Deferred.ofValue, invoke, builtin, asBool, Instr.makeFunc, Instr.extract, sx, Act.put, Act.eval, nrm]
    refine hK1 _ _ _ ?_; clear hK1 K1
    refine opsL_cons rfl (fun K1 hK1 => ?_)
    simp only [execOp, uponT, resolve, Deferred.ofValue, invoke, builtin, asBool, Instr.makeFunc, Instr.extract, sx, Act.put, Act.eval, nrm, hb]
    refine hK1 _ _ _ ?_; clear hK1 K1
    refine opsL_cons rfl (fun K1 hK1 => ?_)
    simp only [execOp, uponT, resolve, Deferred.ofValue, invoke, builtin, asBool, Instr.makeFunc, Instr.extract, sx, Act.put, Act.eval, nrm]
    refine hK1 _ _ _ ?_; clear hK1 K1
    refine opsL_unwanted rfl ?_
    simp only [Act.put, Act.eval, nrm]
    refine opsL_unwanted rfl ?_
    simp only [Act.put, Act.eval, nrm]
    refine opsL_unwanted rfl ?_
    simp only [Act.put, Act.eval, nrm]
    refine opsL_unwanted rfl ?_
    simp only [Act.put, Act.eval, nrm]
    refine opsL_unwanted rfl ?_
    simp only [Act.put, Act.eval, nrm]
    refine opsL_cons rfl (fun K1 hK1 => ?_)
    simp only [execOp, uponT, resolve, Deferred.ofValue, invoke, builtin, asBool, Instr.makeFunc, Instr.extract, sx, Act.put, Act.eval, nrm, if_true]
    refine hK1 _ _ _ ?_; clear hK1 K1
    refine opsL_nil (hK _ _ _ ?_); clear hK K
    refine wpT_cond (t := true) rfl ?_
    simp only [if_true, if_false, Bool.false_eq_true, reduceIte]
    refine wpT_exit ?_
    simp only [thenT, inBlockT, loopQ, reduceIte, Nat.reduceEqDiff]
    refine hOut _ _ _ ?_
    refine hnorm _ _ _ (bodyPost_ret0 rfl ?_)
    rw [if_pos (.inl h0)] at hup
    rw [← hup]
    exact ⟨rfl, rfl, cs', rfl, hc.ints, hsz'⟩
  · have hb : ((((j - 1) / 2 : Nat) : Int) == (j : Int)) = false := by simp; omega
    refine wpT_seq_reg (fun K hK => ?_)
    refine opsL_cons rfl (fun K1 hK1 => ?_)
    simp only [execOp, uponT, resolve, Deferred.ofValue, invoke, builtin, asBool, Instr.makeFunc, Instr.extract, sx, Act.put, Act.eval, nrm]
    refine hK1 _ _ _ ?_; clear hK1 K1
    refine opsL_cons rfl (fun K1 hK1 => ?_)
    simp only [execOp, uponT, resolve, Deferred.ofValue, invoke, builtin, asBool, Instr.makeFunc, Instr.extract, sx, Act.put, Act.eval, nrm]
    refine hK1 _ _ _ ?_; clear hK1 K1
    refine opsL_cons rfl (fun K1 hK1 => ?_)
    simp only [execOp, uponT, resolve, Deferred.ofValue, invoke, builtin, asBool, Instr.makeFunc, Instr.extract, sx, Act.put, Act.eval, nrm, hb]
    refine hK1 _ _ _ ?_; clear hK1 K1
    refine opsL_cons rfl (fun K1 hK1 => ?_)
    simp only [execOp, uponT, resolve, Deferred.ofValue, invoke, builtin, asBool, Instr.makeFunc, Instr.extract, sx, Act.put, Act.eval, nrm]
    refine hK1 _ _ _ ?_; clear hK1 K1
    refine opsL_cons rfl (fun K1 hK1 => ?_)
    simp only [execOp, uponT, resolve, Deferred.ofValue, invoke, builtin, asBool, Instr.makeFunc, Instr.extract, sx, Act.put, Act.eval, nrm]
    refine hK1 _ _ _ ?_; clear hK1 K1
    refine opsL_cons rfl (fun K1 hK1 => ?_)
    simp only [execOp, uponT, resolve, Deferred.ofValue, invoke, builtin, asBool, Instr.makeFunc, Instr.extract, sx, Act.put, Act.eval, nrm]
    refine hK1 _ _ _ ?_; clear hK1 K1
    refine opsL_cons rfl (fun K1 hK1 => ?_)
    simp only [execOp, uponT, resolve, Deferred.ofValue, invoke, builtin, asBool, Instr.makeFunc, Instr.extract, sx, Act.put, Act.eval, nrm]
    refine hK1 _ _ _ ?_; clear hK1 K1
    refine opsL_cons rfl (fun K1 hK1 => ?_)
    simp only [execOp, uponT, resolve, Deferred.ofValue, invoke, builtin, asBool, Instr.makeFunc, Instr.extract, sx, Act.put, Act.eval, nrm, List.extract_toArray, List.extract_eq_take_drop, List.drop_succ_cons, List.drop_zero, List.take_succ_cons, List.take_zero, List.size_toArray, List.length_cons, List.length_nil, Nat.reduceAdd, Nat.reduceSub, invokeLess hc.cell]
    refine (less_calls Y main _ _ (look_own hc.hB) hc.ints j ((j - 1) / 2) (by omega) hil).mono ?_
    rintro _ _ _ ⟨rfl, rfl, rfl⟩
    refine hK1 _ _ _ ?_; clear hK1 K1
    refine opsL_cons rfl (fun K1 hK1 => ?_)
    simp only [execOp, uponT, resolve, Deferred.ofValue, invoke, builtin, asBool, Instr.makeFunc, Instr.extract, sx, Act.put, Act.eval, nrm]
    refine hK1 _ _ _ ?_; clear hK1 K1
    refine opsL_cons rfl (fun K1 hK1 => ?_)
    simp only [execOp, uponT, resolve, Deferred.ofValue, invoke, builtin, asBool, Instr.makeFunc, Instr.extract, sx, Act.put, Act.eval, nrm, Bool.false_eq_true, if_false]
    refine hK1 _ _ _ ?_; clear hK1 K1
    refine opsL_nil (hK _ _ _ ?_); clear hK K
    by_cases hlt : xs'.getD j 0 < xs'.getD ((j - 1) / 2) 0
    · have e1 : (!decide (xs'.getD j 0 < xs'.getD ((j - 1) / 2) 0)) = false := by rw [decide_eq_true hlt]; rfl
      simp only [e1]
      refine wpT_cond (t := false) rfl ?_
      simp only [if_true, if_false, Bool.false_eq_true, reduceIte]
      refine wpT_skip ?_
      simp only [thenT]
      refine wpT_seq_reg (fun K hK => ?_)
      refine opsL_cons rfl (fun K1 hK1 => ?_)
      simp only [execOp, uponT, resolve, Deferred.ofValue, invoke, builtin, asBool, Instr.makeFunc, Instr.extract, sx, Act.put, Act.eval, nrm]
      refine hK1 _ _ _ ?_; clear hK1 K1
      refine opsL_cons rfl (fun K1 hK1 => ?_)
      simp only [execOp, uponT, resolve, Deferred.ofValue, invoke, builtin, asBool, Instr.makeFunc, Instr.extract, sx, Act.put, Act.eval, nrm]
      refine hK1 _ _ _ ?_; clear hK1 K1
      refine opsL_cons rfl (fun K1 hK1 => ?_)
      simp only [execOp, uponT, resolve, Deferred.ofValue, invoke, builtin, asBool, Instr.makeFunc, Instr.extract, sx, Act.put, Act.eval, nrm]
      refine hK1 _ _ _ ?_; clear hK1 K1
      refine opsL_cons rfl (fun K1 hK1 => ?_)
      simp only [execOp, uponT, resolve, Deferred.ofValue, invoke, builtin, asBool, Instr.makeFunc, Instr.extract, sx, Act.put, Act.eval, nrm, List.extract_toArray, List.extract_eq_take_drop, List.drop_succ_cons, List.drop_zero, List.take_succ_cons, List.take_zero, List.size_toArray, List.length_cons, List.length_nil, Nat.reduceAdd, Nat.reduceSub, invokeSwap hc.cell]
      refine (swap_calls Y main _ _ hc.hB hc.ints (by have := hc.size; have := hc.len; omega) ((j - 1) / 2) j hil (by omega)).mono ?_
      rintro _ _ _ ⟨rfl, rfl, cs2, rfl, hi2, hs2⟩
      refine hK1 _ _ _ ?_; clear hK1 K1
      refine opsL_nil (hK _ _ _ ?_); clear hK K
      refine wpT_reg (fun K hK => ?_)
      refine opsL_cons rfl (fun K1 hK1 => ?_)
      simp only [execOp, uponT, resolve, Deferred.ofValue, invoke, builtin, asBool, Instr.makeFunc, Instr.extract, sx, Act.put, Act.eval, nrm]
      refine hK1 _ _ _ ?_; clear hK1 K1
      refine opsL_cons rfl (fun K1 hK1 => ?_)
      simp only [execOp, uponT, resolve, Deferred.ofValue, invoke, builtin, asBool, Instr.makeFunc, Instr.extract, sx, Act.put, Act.eval, nrm]
      refine hK1 _ _ _ ?_; clear hK1 K1
      refine opsL_nil (hK _ _ _ ?_); clear hK K
      simp only [thenT, inBlockT, loopQ, reduceIte, Nat.reduceEqDiff]
      refine hAgain _ _ _ ?_ ?_
      · refine ⟨f, (j - 1) / 2, _, cs2, _, _, _, _, _, _, _, _, _, _, _, _, _, _, _, _, _, _, _, rfl, set_set _ _ _, hc.turn hi2 hs2 (swapL_length _ _ _), by rw [hs2, hsz'], by rw [swapL_length, hl'], by omega, by omega, ?_, rfl⟩
        rw [if_neg (by intro h; rcases h with h | h; exact h0 h; exact h hlt)] at hup
        exact hup
      · simp [slotNat]; omega
    · have e1 : (!decide (xs'.getD j 0 < xs'.getD ((j - 1) / 2) 0)) = true := by rw [decide_eq_false hlt]; rfl
      simp only [e1]
      refine wpT_cond (t := true) rfl ?_
      simp only [if_true, if_false, Bool.false_eq_true, reduceIte]
      refine wpT_exit ?_
      simp only [thenT, inBlockT, loopQ, reduceIte, Nat.reduceEqDiff]
      refine hOut _ _ _ ?_
      refine hnorm _ _ _ (bodyPost_ret0 rfl ?_)
      rw [if_pos (.inr hlt)] at hup
      rw [← hup]
      exact ⟨rfl, rfl, cs', rfl, hc.ints, hsz'⟩
end Go.Proofs.YtcomjkbfmklfnaaDoor
