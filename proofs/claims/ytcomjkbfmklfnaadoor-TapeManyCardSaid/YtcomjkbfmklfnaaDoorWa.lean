/-
  The house's clock (a heap of times): its methods, by contracts. Conditions: none.
-/
import Derived.Test.YtcomjkbfmklfnaaDoorSepK
set_option linter.unusedSimpArgs false
set_option linter.unusedVariables false
namespace Go.Proofs.YtcomjkbfmklfnaaDoor
open Go.Conc Go.Sep

set_option maxRecDepth 100000 in
theorem less_calls {Γ κ : Type} (Y : Proto Γ κ) (main : Bool) (H : Hp) (γ : Γ) {B cap : Nat} {cs : Array Value} {t : TypeId} {fr : Nat × Nat} {xs : List Int} (hb : H.look B = some (.cells cs t fr))
    (hx : Ints cs 0 xs) (i j : Nat) (hi : i < xs.length) (hj : j < xs.length) :
    CallsT Tryd.prog Y main 74 #[.slice (some ⟨B, 0, none⟩) xs.length cap, .int .i64 i, .int .i64 j] H γ (fun v H' γ' => H' = H ∧ γ' = γ ∧ v = .bool (decide (xs.getD i 0 < xs.getD j 0))) := by
  refine callsT_enter (T := [.slice (some ⟨B, 0, none⟩) xs.length cap, .int .i64 i, .int .i64 j, undef, undef, undef, undef, undef, undef, undef, undef, undef, undef, undef, undef, undef]) Tryd.func74 rfl Tryd.ntmps74 rfl (fun Q hret hnorm hless => ?_)
  refine wpT_seq_reg (fun K hK => ?_)
  refine opsL_cons rfl (fun K1 hK1 => ?_)
  simp only [execOp, uponT, resolve, Deferred.ofValue, invoke, builtin, asBool, Instr.makeFunc, Instr.extract, sx, Act.put, Act.eval, nrm]
  refine hK1 _ _ _ ?_; clear hK1 K1
  refine opsL_nil (hK _ _ _ ?_); clear hK K
  refine wpT_seq_quiet mixed (by kernel_rfl) (by kernel_rfl) (fun K hK => ?_)
  apply quietL_cons
  · rfl
  · intro K1 hK1
    simp only [execOp, uponT, resolve, Deferred.ofValue, invoke, builtin, asBool, Instr.makeFunc, Instr.extract, sx, Act.put, Act.eval, nrm]
    exact hK1
  simp only [Act.put, Act.eval, nrm]
  apply quietL_cons
  · rfl
  · intro K1 hK1
    simp only [execOp, uponT, resolve, Deferred.ofValue, invoke, builtin, asBool, Instr.makeFunc, Instr.extract, sx, Act.put, Act.eval, nrm]
    exact hK1
  simp only [Act.put, Act.eval, nrm]
  apply quietL_cons
  · rfl
  · intro K1 hK1
    simp only [execOp, uponT, resolve, Deferred.ofValue, invoke, builtin, asBool, Instr.makeFunc, Instr.extract, sx, Act.put, Act.eval, nrm, semS_indexAt Tryd.underlying61 info3 _ _ _ _ _ hi, size3, Nat.mul_one]
    exact hK1
  simp only [Act.put, Act.eval, nrm]
  apply quietL_cons
  · rfl
  · intro K1 hK1
    simp only [execOp, uponT, resolve, Deferred.ofValue, invoke, builtin, asBool, Instr.makeFunc, Instr.extract, sx, Act.put, Act.eval, nrm, semS_loadAt one3 (hx.cell hb hi)]
    exact hK1
  simp only [Act.put, Act.eval, nrm]
  apply quietL_cons
  · rfl
  · intro K1 hK1
    simp only [execOp, uponT, resolve, Deferred.ofValue, invoke, builtin, asBool, Instr.makeFunc, Instr.extract, sx, Act.put, Act.eval, nrm]
    exact hK1
  simp only [Act.put, Act.eval, nrm]
  apply quietL_cons
  · rfl
  · intro K1 hK1
    simp only [execOp, uponT, resolve, Deferred.ofValue, invoke, builtin, asBool, Instr.makeFunc, Instr.extract, sx, Act.put, Act.eval, nrm]
    exact hK1
  simp only [Act.put, Act.eval, nrm]
  apply quietL_cons
  · rfl
  · intro K1 hK1
    simp only [execOp, uponT, resolve, Deferred.ofValue, invoke, builtin, asBool, Instr.makeFunc, Instr.extract, sx, Act.put, Act.eval, nrm, semS_indexAt Tryd.underlying61 info3 _ _ _ _ _ hj, size3, Nat.mul_one]
    exact hK1
  simp only [Act.put, Act.eval, nrm]
  apply quietL_cons
  · rfl
  · intro K1 hK1
    simp only [execOp, uponT, resolve, Deferred.ofValue, invoke, builtin, asBool, Instr.makeFunc, Instr.extract, sx, Act.put, Act.eval, nrm, semS_loadAt one3 (hx.cell hb hj)]
    exact hK1
  simp only [Act.put, Act.eval, nrm]
  apply quietL_cons
  · rfl
  · intro K1 hK1
    simp only [execOp, uponT, resolve, Deferred.ofValue, invoke, builtin, asBool, Instr.makeFunc, Instr.extract, sx, Act.put, Act.eval, nrm]
    exact hK1
  simp only [Act.put, Act.eval, nrm]
  apply quietL_cons
  · rfl
  · intro K1 hK1
    simp only [execOp, uponT, resolve, Deferred.ofValue, invoke, builtin, asBool, Instr.makeFunc, Instr.extract, sx, Act.put, Act.eval, nrm]
    exact hK1
  simp only [Act.put, Act.eval, nrm]
  refine quietL_nil (hK _ ?_); clear hK K
  refine wpT_ret (hret _ _ _ (bodyPost_ret1 rfl ?_))
  exact ⟨rfl, rfl, rfl⟩

theorem len_calls {Γ κ : Type} (Y : Proto Γ κ) (main : Bool) (H : Hp) (γ : Γ) (a : Option Addr) (n cap : Nat) :
    CallsT Tryd.prog Y main 17 #[.slice a n cap] H γ (fun v H' γ' => H' = H ∧ γ' = γ ∧ v = .int .i64 n) := by
  refine callsT_enter (T := [.slice a n cap, undef, undef, undef, undef]) Tryd.func17 rfl Tryd.ntmps17 rfl (fun Q hret hnorm hless => ?_)
  refine wpT_seq_reg (fun K hK => ?_)
  refine opsL_cons rfl (fun K1 hK1 => ?_)
  simp only [execOp, uponT, resolve, Deferred.ofValue, invoke, builtin, asBool, Instr.makeFunc, Instr.extract, sx, Act.put, Act.eval, nrm]
  refine hK1 _ _ _ ?_; clear hK1 K1
  refine opsL_nil (hK _ _ _ ?_); clear hK K
  refine wpT_seq_reg (fun K hK => ?_)
  refine opsL_cons rfl (fun K1 hK1 => ?_)
  simp only [execOp, uponT, resolve, Deferred.ofValue, invoke, builtin, asBool, Instr.makeFunc, Instr.extract, sx, Act.put, Act.eval, nrm]
  refine hK1 _ _ _ ?_; clear hK1 K1
  refine opsL_cons rfl (fun K1 hK1 => ?_)
  simp only [execOp, uponT, resolve, Deferred.ofValue, invoke, builtin, asBool, Instr.makeFunc, Instr.extract, sx, Act.put, Act.eval, nrm]
  refine hK1 _ _ _ ?_; clear hK1 K1
  refine opsL_cons rfl (fun K1 hK1 => ?_)
  simp only [execOp, uponT, resolve, Deferred.ofValue, invoke, builtin, asBool, Instr.makeFunc, Instr.extract, sx, Act.put, Act.eval, nrm]
  refine hK1 _ _ _ ?_; clear hK1 K1
  refine opsL_nil (hK _ _ _ ?_); clear hK K
  refine wpT_ret (hret _ _ _ (bodyPost_ret1 rfl ?_))
  exact ⟨rfl, rfl, rfl⟩

/-- Two are swapped. -/
def swapL (xs : List Int) (i j : Nat) : List Int := (xs.set i (xs.getD j 0)).set j (xs.getD i 0)
theorem swapL_length (xs : List Int) (i j : Nat) : (swapL xs i j).length = xs.length := by simp [swapL]

set_option maxRecDepth 100000 in
set_option maxHeartbeats 4000000 in
theorem swap_calls {Γ κ : Type} (Y : Proto Γ κ) (main : Bool) (H : Hp) (γ : Γ) {B cap : Nat} {cs : Array Value} {t : TypeId} {xs : List Int} (hb : H.own B = some (.cells cs t (0, 0)))
    (hx : Ints cs 0 xs) (hsz : 0 + xs.length ≤ cs.size) (i j : Nat) (hi : i < xs.length) (hj : j < xs.length) :
    CallsT Tryd.prog Y main 75 #[.slice (some ⟨B, 0, none⟩) xs.length cap, .int .i64 i, .int .i64 j] H γ (fun v H' γ' => v = .tuple #[] ∧ γ' = γ ∧ ∃ cs', H' = H.set B (.cells cs' t (0, 0)) ∧ Ints cs' 0 (swapL xs i j) ∧ cs'.size = cs.size) := by
  refine callsT_enter (T := [.slice (some ⟨B, 0, none⟩) xs.length cap, .int .i64 i, .int .i64 j, undef, undef, undef, undef, undef, undef, undef, undef, undef, undef, undef, undef, undef, undef, undef, undef, undef]) Tryd.func75 rfl Tryd.ntmps75 rfl (fun Q hret hnorm hless => ?_)
  refine wpT_run [13, 15] [] mixed (by kernel_rfl) (by kernel_rfl) (fun K hK => ?_)
  apply runL_pure
  · rfl
  · rfl
  · rfl
  · intro H1 K1 hK1
    simp only [execOp, uponT, resolve, Deferred.ofValue, invoke, builtin, asBool, Instr.makeFunc, Instr.extract, sx, Act.put, Act.eval, nrm]
    exact hK1
  simp only [Act.put, Act.eval, nrm]
  apply runL_pure
  · rfl
  · rfl
  · rfl
  · intro H1 K1 hK1
    simp only [execOp, uponT, resolve, Deferred.ofValue, invoke, builtin, asBool, Instr.makeFunc, Instr.extract, sx, Act.put, Act.eval, nrm]
    exact hK1
  simp only [Act.put, Act.eval, nrm]
  apply runL_pure
  · rfl
  · rfl
  · rfl
  · intro H1 K1 hK1
    simp only [execOp, uponT, resolve, Deferred.ofValue, invoke, builtin, asBool, Instr.makeFunc, Instr.extract, sx, Act.put, Act.eval, nrm]
    exact hK1
  simp only [Act.put, Act.eval, nrm]
  apply runL_pure
  · rfl
  · rfl
  · rfl
  · intro H1 K1 hK1
    simp only [execOp, uponT, resolve, Deferred.ofValue, invoke, builtin, asBool, Instr.makeFunc, Instr.extract, sx, Act.put, Act.eval, nrm]
    exact hK1
  simp only [Act.put, Act.eval, nrm]
  apply runL_pure
  · rfl
  · rfl
  · rfl
  · intro H1 K1 hK1
    simp only [execOp, uponT, resolve, Deferred.ofValue, invoke, builtin, asBool, Instr.makeFunc, Instr.extract, sx, Act.put, Act.eval, nrm]
    exact hK1
  simp only [Act.put, Act.eval, nrm]
  apply runL_pure
  · rfl
  · rfl
  · rfl
  · intro H1 K1 hK1
    simp only [execOp, uponT, resolve, Deferred.ofValue, invoke, builtin, asBool, Instr.makeFunc, Instr.extract, sx, Act.put, Act.eval, nrm]
    exact hK1
  simp only [Act.put, Act.eval, nrm]
  apply runL_pure
  · rfl
  · rfl
  · rfl
  · intro H1 K1 hK1
    simp only [execOp, uponT, resolve, Deferred.ofValue, invoke, builtin, asBool, Instr.makeFunc, Instr.extract, sx, Act.put, Act.eval, nrm, semS_indexAt Tryd.underlying61 info3 _ _ _ _ _ hj, size3, Nat.mul_one]
    exact hK1
  simp only [Act.put, Act.eval, nrm]
  apply runL_read
  · rfl
  · rfl
  · kernel_rfl
  · rfl
  · intro H1 gr K1 hK1
    simp only [execOp, uponT, resolve, Deferred.ofValue, invoke, builtin, asBool, Instr.makeFunc, Instr.extract, sx, Act.put, Act.eval, nrm, semS_loadAt one3 (gr _ _ (hx.cell (look_own hb) hj))]
    exact hK1
  simp only [Act.put, Act.eval, nrm]
  apply runL_pure
  · rfl
  · rfl
  · rfl
  · intro H1 K1 hK1
    simp only [execOp, uponT, resolve, Deferred.ofValue, invoke, builtin, asBool, Instr.makeFunc, Instr.extract, sx, Act.put, Act.eval, nrm]
    exact hK1
  simp only [Act.put, Act.eval, nrm]
  apply runL_pure
  · rfl
  · rfl
  · rfl
  · intro H1 K1 hK1
    simp only [execOp, uponT, resolve, Deferred.ofValue, invoke, builtin, asBool, Instr.makeFunc, Instr.extract, sx, Act.put, Act.eval, nrm]
    exact hK1
  simp only [Act.put, Act.eval, nrm]
  apply runL_pure
  · rfl
  · rfl
  · rfl
  · intro H1 K1 hK1
    simp only [execOp, uponT, resolve, Deferred.ofValue, invoke, builtin, asBool, Instr.makeFunc, Instr.extract, sx, Act.put, Act.eval, nrm, semS_indexAt Tryd.underlying61 info3 _ _ _ _ _ hi, size3, Nat.mul_one]
    exact hK1
  simp only [Act.put, Act.eval, nrm]
  apply runL_read
  · rfl
  · rfl
  · kernel_rfl
  · rfl
  · intro H1 gr K1 hK1
    simp only [execOp, uponT, resolve, Deferred.ofValue, invoke, builtin, asBool, Instr.makeFunc, Instr.extract, sx, Act.put, Act.eval, nrm, semS_loadAt one3 (gr _ _ (hx.cell (look_own hb) hi))]
    exact hK1
  simp only [Act.put, Act.eval, nrm]
  apply runL_pure
  · rfl
  · rfl
  · rfl
  · intro H1 K1 hK1
    simp only [execOp, uponT, resolve, Deferred.ofValue, invoke, builtin, asBool, Instr.makeFunc, Instr.extract, sx, Act.put, Act.eval, nrm, semS_indexAt Tryd.underlying61 info3 _ _ _ _ _ hi, size3, Nat.mul_one]
    exact hK1
  simp only [Act.put, Act.eval, nrm]
  refine runL_eff rfl rfl rfl (fun K1 hK1 => ?_)
  simp only [execOp, uponT, resolve, Deferred.ofValue, invoke, builtin, asBool, Instr.makeFunc, Instr.extract, sx, Act.put, Act.eval, nrm, semS_storeAt info3 size3 hb (show 0 + i < cs.size by omega) (v := .int .i64 (xs.getD j 0)) rfl]
  refine hK1 _ _ _ ?_; clear hK1 K1
  apply runL_pure
  · rfl
  · rfl
  · rfl
  · intro H1 K1 hK1
    simp only [execOp, uponT, resolve, Deferred.ofValue, invoke, builtin, asBool, Instr.makeFunc, Instr.extract, sx, Act.put, Act.eval, nrm, semS_indexAt Tryd.underlying61 info3 _ _ _ _ _ hj, size3, Nat.mul_one]
    exact hK1
  simp only [Act.put, Act.eval, nrm]
  refine runL_eff rfl rfl rfl (fun K1 hK1 => ?_)
  simp only [execOp, uponT, resolve, Deferred.ofValue, invoke, builtin, asBool, Instr.makeFunc, Instr.extract, sx, Act.put, Act.eval, nrm, semS_storeAt info3 size3 (set_own_same _ _ _) (show 0 + j < (cs.setIfInBounds (0 + i) (.int .i64 (xs.getD j 0))).size by rw [Array.size_setIfInBounds]; omega) (v := .int .i64 (xs.getD i 0)) rfl, set_set]
  refine hK1 _ _ _ ?_; clear hK1 K1
  refine runL_nil (hK _ _ _ ?_); clear hK K
  refine hnorm _ _ _ (bodyPost_ret0 rfl ?_)
  refine ⟨rfl, rfl, _, rfl, (hx.set hsz hi _).set (by simpa using hsz) (by simpa using hj) _, by simp⟩

set_option maxRecDepth 100000 in
set_option maxHeartbeats 4000000 in
theorem push_calls {Γ κ : Type} (Y : Proto Γ κ) (main : Bool) (H : Hp) (γ : Γ) {bc cap : Nat} {a : Option Addr} {xs : List Int} (hbc : H.own bc = some (.cells #[.slice a xs.length cap] 61 (0, 0))) (hs : IntSl H a cap xs) (hne : ∀ x, a = some x → x.block ≠ bc) (hlen : xs.length < 256) (x : Int) :
    CallsT Tryd.prog Y main 77 #[.pointer (some ⟨bc, 0, none⟩), .iface 3 (.int .i64 x)] H γ (fun v H' γ' => v = .tuple #[] ∧ γ' = γ ∧ ∃ B off cap' cs t, (a = some ⟨B, off, none⟩ ∨ (off = 0 ∧ H.own B = none ∧ H.ro B = none)) ∧
      H' = (H.set B (.cells cs t (0, 0))).set bc (.cells #[.slice (some ⟨B, off, none⟩) (xs.length + 1) cap'] 61 (0, 0)) ∧ Ints cs off (xs ++ [x]) ∧ off + cap' ≤ cs.size ∧ xs.length + 1 ≤ cap') := by
  refine callsT_enter (T := [.pointer (some ⟨bc, 0, none⟩), .iface 3 (.int .i64 x), undef, undef, undef, undef, undef, undef, undef, undef, undef, undef, undef]) Tryd.func77 rfl Tryd.ntmps77 rfl (fun Q hret hnorm hless => ?_)
  have hcell : H.cell ⟨bc, 0, none⟩ = some (.slice a xs.length cap) := by rw [cell_own hbc]; rfl
  refine wpT_run [6, 7, 9] [6] mixed (by kernel_rfl) (by kernel_rfl) (fun K hK => ?_)
  apply runL_pure
  · rfl
  · rfl
  · rfl
  · intro H1 K1 hK1
    simp only [execOp, uponT, resolve, Deferred.ofValue, invoke, builtin, asBool, Instr.makeFunc, Instr.extract, sx, Act.put, Act.eval, nrm]
    exact hK1
  simp only [Act.put, Act.eval, nrm]
  apply runL_pure
  · rfl
  · rfl
  · rfl
  · intro H1 K1 hK1
    simp only [execOp, uponT, resolve, Deferred.ofValue, invoke, builtin, asBool, Instr.makeFunc, Instr.extract, sx, Act.put, Act.eval, nrm]
    exact hK1
  simp only [Act.put, Act.eval, nrm]
  apply runL_pure
  · rfl
  · rfl
  · rfl
  · intro H1 K1 hK1
    simp only [execOp, uponT, resolve, Deferred.ofValue, invoke, builtin, asBool, Instr.makeFunc, Instr.extract, sx, Act.put, Act.eval, nrm]
    exact hK1
  simp only [Act.put, Act.eval, nrm]
  apply runL_read
  · rfl
  · rfl
  · kernel_rfl
  · rfl
  · intro H1 gr K1 hK1
    simp only [execOp, uponT, resolve, Deferred.ofValue, invoke, builtin, asBool, Instr.makeFunc, Instr.extract, sx, Act.put, Act.eval, nrm, semS_loadAt one61 (gr _ _ hcell)]
    exact hK1
  simp only [Act.put, Act.eval, nrm]
  apply runL_pure
  · rfl
  · rfl
  · rfl
  · intro H1 K1 hK1
    simp only [execOp, uponT, resolve, Deferred.ofValue, invoke, builtin, asBool, Instr.makeFunc, Instr.extract, sx, Act.put, Act.eval, nrm]
    exact hK1
  simp only [Act.put, Act.eval, nrm]
  apply runL_pure
  · rfl
  · rfl
  · rfl
  · intro H1 K1 hK1
    simp only [execOp, uponT, resolve, Deferred.ofValue, invoke, builtin, asBool, Instr.makeFunc, Instr.extract, sx, Act.put, Act.eval, nrm, semS_typeAssert conc3]
    exact hK1
  simp only [Act.put, Act.eval, nrm]
  refine runL_grow rfl rfl (fun K1 hK1 => ?_)
  simp only [execOp, uponT, resolve, Deferred.ofValue, invoke, builtin, asBool, Instr.makeFunc, Instr.extract, sx, Act.put, Act.eval, nrm, semS_lit1 Tryd.underlying61 info3 size3 zero3]
  intro g hg1 hg2
  refine hK1 _ _ _ (Grow.set _ hg1 hg2) ?_; clear hK1 K1
  refine runL_eff rfl rfl rfl (fun K1 hK1 => ?_)
  simp only [execOp, uponT, resolve, Deferred.ofValue, invoke, builtin, asBool, Instr.makeFunc, Instr.extract, sx, Act.put, Act.eval, nrm]
  refine semS_append Tryd.underlying61 info3 size3 bytes3 zero3 _ (hs.grow _ hg1) hlen (by rw [cell_own (set_own_same _ _ _)]; rfl) _ (fun B off cap' cs t h1 h2 h3 h4 => ?_)
  refine hK1 _ _ _ ?_; clear hK1 K1
  apply runL_pure
  · rfl
  · rfl
  · rfl
  · intro H1 K1 hK1
    simp only [execOp, uponT, resolve, Deferred.ofValue, invoke, builtin, asBool, Instr.makeFunc, Instr.extract, sx, Act.put, Act.eval, nrm]
    exact hK1
  simp only [Act.put, Act.eval, nrm]
  have hgb : g ≠ bc := fun e => by rw [e, hbc] at hg1; cases hg1
  have hBbc : B ≠ bc := by
    rcases h1 with h1 | ⟨_, h1, _⟩
    · exact hne _ h1
    · intro e
      rw [e, set_own_ne _ _ (Ne.symm hgb), hbc] at h1
      cases h1
  have hown : (((H.set g (Obj.cells #[Value.int IntKind.i64 x] 3)).set B (Obj.cells cs t)).own bc) = some (.cells #[.slice a xs.length cap] 61 (0, 0)) := by
    rw [set_own_ne _ _ (Ne.symm hBbc), set_own_ne _ _ (Ne.symm hgb)]; exact hbc
  refine runL_eff rfl rfl rfl (fun K1 hK1 => ?_)
  simp only [execOp, uponT, resolve, Deferred.ofValue, invoke, builtin, asBool, Instr.makeFunc, Instr.extract, sx, Act.put, Act.eval, nrm, semS_storeAt info61 size61 hown (show 0 < (#[Value.slice a xs.length cap] : Array Value).size by simp) (v := .slice (some ⟨B, off, none⟩) (xs.length + 1) cap') rfl]
  refine hK1 _ _ _ ?_; clear hK1 K1
  refine runL_nil (hK _ _ _ ?_); clear hK K
  have hgB : g ≠ B := by
    rcases h1 with h1 | ⟨_, h1, _⟩
    · rintro rfl
      rcases hs with ⟨h, _, _⟩ | ⟨B', off', cs', t', e, hB, _⟩
      · rw [h] at h1; cases h1
      · rw [h1] at e; cases e; rw [hB] at hg1; cases hg1
    · rintro rfl; rw [set_own_same] at h1; cases h1
  refine hless _ _ _ ((H.set B (Obj.cells cs t)).set bc _) _ (less_of_set _ (less_of_set _ (less_set _ hg1))) ?_
  refine hnorm _ _ _ (bodyPost_ret0 rfl ?_)
  refine ⟨rfl, rfl, B, off, cap', cs, t, ?_, rfl, h2, h3, h4⟩
  rcases h1 with h1 | ⟨e, h1, h1'⟩
  · exact .inl h1
  · exact .inr ⟨e, by rw [set_own_ne _ _ (Ne.symm hgB)] at h1; exact h1, h1'⟩
end Go.Proofs.YtcomjkbfmklfnaaDoor
