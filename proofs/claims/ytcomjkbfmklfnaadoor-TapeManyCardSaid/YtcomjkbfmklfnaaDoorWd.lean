/-
  slices.IndexFunc and Play's closures, by contracts. Conditions: none.
-/
import Derived.Test.YtcomjkbfmklfnaaDoorWc
set_option linter.unusedSimpArgs false
set_option linter.unusedVariables false
namespace Go.Proofs.YtcomjkbfmklfnaaDoor
open Go.Conc Go.Sep

/-- A call of a tape. -/
structure Tap where
  at_ : Int
  long : Int
  pat : Int
  deriving Inhabited

/-- A tape, where its slice lies. -/
def Taps (H : Hp) (a : Option Addr) (ls : List Tap) : Prop :=
  ls.length = 0 ∨ ∃ B off, a = some ⟨B, off, none⟩ ∧ ∀ i, i < ls.length → H.cell ⟨B, off + i * 3, none⟩ = some (.int .i64 (ls.getD i default).at_) ∧ H.cell ⟨B, off + i * 3 + 1, none⟩ = some (.int .i64 (ls.getD i default).long) ∧ H.cell ⟨B, off + i * 3 + 2, none⟩ = some (.int .i64 (ls.getD i default).pat)

theorem Taps.grow {H H' : Hp} {a : Option Addr} {ls : List Tap} (h : Taps H a ls) (g : Grow H H') : Taps H' a ls := by
  rcases h with h | ⟨B, off, e, h⟩
  · exact .inl h
  · exact .inr ⟨B, off, e, fun i hi => ⟨g _ _ (h i hi).1, g _ _ (h i hi).2.1, g _ _ (h i hi).2.2⟩⟩

/-- Fates in a row of cells. -/
def Fates (cs : Array Value) (xs : List (Int × Int)) : Prop := ∀ k, k < xs.length → cs[k * 2]? = some (.int .i64 (xs.getD k default).1) ∧ cs[k * 2 + 1]? = some (.int .i64 (xs.getD k default).2)

theorem Fates.set {cs : Array Value} {xs : List (Int × Int)} (h : Fates cs xs) (hs : cs.size = xs.length * 2) {i : Nat} (hi : i < xs.length) (x : Int × Int) : Fates ((cs.setIfInBounds (i * 2) (.int .i64 x.1)).setIfInBounds (i * 2 + 1) (.int .i64 x.2)) (xs.set i x) := by
  intro k hk
  rw [List.length_set] at hk
  by_cases hik : i = k
  · subst hik
    refine ⟨?_, ?_⟩
    · rw [Array.getElem?_setIfInBounds_ne (by omega), Array.getElem?_setIfInBounds_self_of_lt (by omega)]
      simp [List.getD_eq_getElem?_getD, hk]
    · rw [Array.getElem?_setIfInBounds_self_of_lt (by rw [Array.size_setIfInBounds]; omega)]
      simp [List.getD_eq_getElem?_getD, hk]
  · have := h k hk
    rw [Array.getElem?_setIfInBounds_ne (by omega), Array.getElem?_setIfInBounds_ne (by omega), Array.getElem?_setIfInBounds_ne (by omega), Array.getElem?_setIfInBounds_ne (by omega), this.1, this.2]
    simp [List.getD_eq_getElem?_getD, List.getElem?_set_ne hik]

set_option maxRecDepth 100000 in
theorem free_calls {Γ κ : Type} (Y : Proto Γ κ) (main : Bool) (H : Hp) (γ : Γ) {bn : Nat} {now : Int} (hn : H.cell ⟨bn, 0, none⟩ = some (.int .i64 now)) (t : Int) :
    CallsT Tryd.prog Y main 20 #[.int .i64 t, .pointer (some ⟨bn, 0, none⟩)] H γ (fun v H' γ' => v = .bool (decide (t ≤ now)) ∧ γ' = γ ∧ H' = H) := by
  refine callsT_enter (T := [.int .i64 t, .pointer (some ⟨bn, 0, none⟩), undef, undef, undef, undef, undef]) Tryd.func20 rfl Tryd.ntmps20 rfl (fun Q hret hnorm hless => ?_)
  refine wpT_seq_reg (fun K hK => ?_)
  refine opsL_cons rfl (fun K1 hK1 => ?_)
  simp only [execOp, uponT, resolve, Deferred.ofValue, invoke, builtin, asBool, Instr.makeFunc, Instr.extract, sx, Act.put, Act.eval, nrm]
  refine hK1 _ _ _ ?_; clear hK1 K1
  refine opsL_nil (hK _ _ _ ?_); clear hK K
  refine wpT_seq_reg (fun K hK => ?_)
  refine opsL_cons rfl (fun K1 hK1 => ?_)
  simp only [execOp, uponT, resolve, Deferred.ofValue, invoke, builtin, asBool, Instr.makeFunc, Instr.extract, sx, Act.put, Act.eval, nrm]
  refine hK1 _ _ _ ?_; clear hK1 K1
  refine opsL_cons rfl (fun K1 hK1 => ?_)
  simp only [execOp, uponT, resolve, Deferred.ofValue, invoke, builtin, asBool, Instr.makeFunc, Instr.extract, sx, Act.put, Act.eval, nrm, semS_loadAt one3 hn]
  refine hK1 _ _ _ ?_; clear hK1 K1
  refine opsL_cons rfl (fun K1 hK1 => ?_)
  simp only [execOp, uponT, resolve, Deferred.ofValue, invoke, builtin, asBool, Instr.makeFunc, Instr.extract, sx, Act.put, Act.eval, nrm]
  refine hK1 _ _ _ ?_; clear hK1 K1
  refine opsL_cons rfl (fun K1 hK1 => ?_)
  simp only [execOp, uponT, resolve, Deferred.ofValue, invoke, builtin, asBool, Instr.makeFunc, Instr.extract, sx, Act.put, Act.eval, nrm]
  refine hK1 _ _ _ ?_; clear hK1 K1
  refine opsL_nil (hK _ _ _ ?_); clear hK K
  refine wpT_ret (hret _ _ _ (bodyPost_ret1 rfl ?_))
  exact ⟨rfl, rfl, rfl⟩

set_option maxRecDepth 100000 in
set_option maxHeartbeats 4000000 in
theorem index_calls {Γ κ : Type} (Y : Proto Γ κ) (main : Bool) (H : Hp) (γ : Γ) {a : Option Addr} {cap : Nat} {xs : List Int} (f : FuncId) (caps : Array Value)
    (hcall : ∀ (H : Hp) (args : Array Value) (K : Next → Hp → Prop), SemS Tryd.prog (callFunc f args) H K = K (.enter f args) H)
    (p : Int → Bool) (I : Nat → Hp → Prop) (hl : xs.length < 256)
    (ha : xs.length = 0 ∨ ∃ B off, a = some ⟨B, off, none⟩ ∧ ∀ k H, I k H → k < xs.length → H.cell ⟨B, off + k, none⟩ = some (.int .i64 (xs.getD k 0)))
    (hf : ∀ k H, k < xs.length → (∀ j, j < k → p (xs.getD j 0) = false) → I k H → CallsT Tryd.prog Y main f (#[.int .i64 (xs.getD k 0)] ++ caps) H γ (fun v H' γ' => v = .bool (p (xs.getD k 0)) ∧ γ' = γ ∧ I (k + 1) H'))
    (h0 : I 0 H) :
    CallsT Tryd.prog Y main 19 #[.slice a xs.length cap, .func (.func f) #[] caps] H γ (fun v H' γ' => γ' = γ ∧
      ((∃ k, k < xs.length ∧ v = .int .i64 k ∧ (∀ j, j < k → p (xs.getD j 0) = false) ∧ p (xs.getD k 0) = true ∧ I (k + 1) H') ∨ (v = .int .i64 (-1) ∧ (∀ j, j < xs.length → p (xs.getD j 0) = false) ∧ I xs.length H'))) := by
  refine callsT_enter (T := [.slice a xs.length cap, .func (.func f) #[] caps, undef, undef, undef, undef, undef, undef, undef, undef, undef, undef, undef, undef, undef, undef, undef, undef, undef]) Tryd.func19 rfl Tryd.ntmps19 rfl (fun Q hret hnorm hless => ?_)
  refine wpT_seq_reg (fun K hK => ?_)
  refine opsL_cons rfl (fun K1 hK1 => ?_)
  simp only [execOp, uponT, resolve, Deferred.ofValue, invoke, builtin, asBool, Instr.makeFunc, Instr.extract, sx, Act.put, Act.eval, nrm]
  refine hK1 _ _ _ ?_; clear hK1 K1
  refine opsL_nil (hK _ _ _ ?_); clear hK K
  refine wpT_seq ?_
  refine wpT_seq_reg (fun K hK => ?_)
  refine opsL_cons rfl (fun K1 hK1 => ?_)
  simp only [execOp, uponT, resolve, Deferred.ofValue, invoke, builtin, asBool, Instr.makeFunc, Instr.extract, sx, Act.put, Act.eval, nrm]
  refine hK1 _ _ _ ?_; clear hK1 K1
  refine opsL_cons rfl (fun K1 hK1 => ?_)
  simp only [execOp, uponT, resolve, Deferred.ofValue, invoke, builtin, asBool, Instr.makeFunc, Instr.extract, sx, Act.put, Act.eval, nrm]
  refine hK1 _ _ _ ?_; clear hK1 K1
  refine opsL_cons rfl (fun K1 hK1 => ?_)
  simp only [execOp, uponT, resolve, Deferred.ofValue, invoke, builtin, asBool, Instr.makeFunc, Instr.extract, sx, Act.put, Act.eval, nrm]
  refine hK1 _ _ _ ?_; clear hK1 K1
  refine opsL_nil (hK _ _ _ ?_); clear hK K
  refine wpT_block_loop (fun a' Hc γc => ∃ (k : Nat) (s2 s3 s4 s5 s6 s9 s10 s11 s12 s13 s14 s15 s16 s17 s18 : Value), γc = γ ∧ I k Hc ∧ k ≤ xs.length ∧ (∀ j, j < k → p (xs.getD j 0) = false) ∧ a' = ⟨#[.slice a xs.length cap, .func (.func f) #[] caps, s2, s3, s4, s5, s6, .int .i64 xs.length, .int .i64 k, s9, s10, s11, s12, s13, s14, s15, s16, s17, s18], []⟩) (fun a' _ _ => xs.length - slotNat a' 8) ?_ ?_
  · exact ⟨0, _, _, _, _, _, _, _, _, _, _, _, _, _, _, _, rfl, h0, by omega, fun j h => absurd h (Nat.not_lt_zero j), rfl⟩
  rintro _ Hc γ ⟨k, s2, s3, s4, s5, s6, s9, s10, s11, s12, s13, s14, s15, s16, s17, s18, rfl, hI, hk, hp, rfl⟩ Again Out hAgain hOut
  by_cases hkl : k < xs.length
  ·
    have g1 : decide ((k : Int) < (xs.length : Int)) = true := by simp; omega
    obtain ⟨B, off, rfl, hcell⟩ : ∃ B off, a = some ⟨B, off, none⟩ ∧ ∀ k H, I k H → k < xs.length → H.cell ⟨B, off + k, none⟩ = some (.int .i64 (xs.getD k 0)) := ha.resolve_left (by omega)
    have m1 : IntKind.i64.wrap ((k : Int) + 1) = ((k + 1 : Nat) : Int) := wrap_succ _ (by omega)
    refine wpT_seq_reg (fun K hK => ?_)
    refine opsL_cons rfl (fun K1 hK1 => ?_)
    simp only [execOp, uponT, resolve, Deferred.ofValue, invoke, builtin, asBool, Instr.makeFunc, Instr.extract, sx, Act.put, Act.eval, nrm, g1]
    refine hK1 _ _ _ ?_; clear hK1 K1
    refine opsL_nil (hK _ _ _ ?_); clear hK K
    refine wpT_seq ?_
    refine wpT_cond (t := true) rfl ?_
    simp only [if_true, if_false, Bool.false_eq_true, reduceIte]
    refine wpT_skip ?_
    simp only [thenT]
    refine wpT_seq ?_
    refine wpT_block ?_
    refine wpT_seq_reg (fun K hK => ?_)
    refine opsL_cons rfl (fun K1 hK1 => ?_)
    simp only [execOp, uponT, resolve, Deferred.ofValue, invoke, builtin, asBool, Instr.makeFunc, Instr.extract, sx, Act.put, Act.eval, nrm]
    refine hK1 _ _ _ ?_; clear hK1 K1
    refine opsL_cons rfl (fun K1 hK1 => ?_)
    simp only [execOp, uponT, resolve, Deferred.ofValue, invoke, builtin, asBool, Instr.makeFunc, Instr.extract, sx, Act.put, Act.eval, nrm]
    refine hK1 _ _ _ ?_; clear hK1 K1
    refine opsL_nil (hK _ _ _ ?_); clear hK K
    refine wpT_seq_reg (fun K hK => ?_)
    refine opsL_cons rfl (fun K1 hK1 => ?_)
    simp only [execOp, uponT, resolve, Deferred.ofValue, invoke, builtin, asBool, Instr.makeFunc, Instr.extract, sx, Act.put, Act.eval, nrm]
    refine hK1 _ _ _ ?_; clear hK1 K1
    refine opsL_cons rfl (fun K1 hK1 => ?_)
    simp only [execOp, uponT, resolve, Deferred.ofValue, invoke, builtin, asBool, Instr.makeFunc, Instr.extract, sx, Act.put, Act.eval, nrm]
    refine hK1 _ _ _ ?_; clear hK1 K1
    refine opsL_cons rfl (fun K1 hK1 => ?_)
    simp only [execOp, uponT, resolve, Deferred.ofValue, invoke, builtin, asBool, Instr.makeFunc, Instr.extract, sx, Act.put, Act.eval, nrm]
    refine hK1 _ _ _ ?_; clear hK1 K1
    refine opsL_cons rfl (fun K1 hK1 => ?_)
    simp only [execOp, uponT, resolve, Deferred.ofValue, invoke, builtin, asBool, Instr.makeFunc, Instr.extract, sx, Act.put, Act.eval, nrm, semS_indexAt Tryd.underlying60 info3 _ _ _ _ _ hkl, size3, Nat.mul_one]
    refine hK1 _ _ _ ?_; clear hK1 K1
    refine opsL_cons rfl (fun K1 hK1 => ?_)
    simp only [execOp, uponT, resolve, Deferred.ofValue, invoke, builtin, asBool, Instr.makeFunc, Instr.extract, sx, Act.put, Act.eval, nrm, semS_loadAt one3 (hcell k Hc hI hkl)]
    refine hK1 _ _ _ ?_; clear hK1 K1
    refine opsL_cons rfl (fun K1 hK1 => ?_)
    simp only [execOp, uponT, resolve, Deferred.ofValue, invoke, builtin, asBool, Instr.makeFunc, Instr.extract, sx, Act.put, Act.eval, nrm, List.extract_toArray, List.extract_eq_take_drop, List.drop_succ_cons, List.drop_zero, List.take_succ_cons, List.take_zero, List.size_toArray, List.length_cons, List.length_nil, Nat.reduceAdd, Nat.reduceSub, hcall]
    refine (hf k Hc hkl hp hI).mono ?_
    rintro _ H2 _ ⟨rfl, rfl, hI2⟩
    refine hK1 _ _ _ ?_; clear hK1 K1
    refine opsL_nil (hK _ _ _ ?_); clear hK K
    by_cases hpk : p (xs.getD k 0) = true
    · simp only [hpk]
      refine wpT_cond (t := true) rfl ?_
      simp only [if_true, if_false, Bool.false_eq_true, reduceIte]
      refine wpT_seq_reg (fun K hK => ?_)
      refine opsL_cons rfl (fun K1 hK1 => ?_)
      simp only [execOp, uponT, resolve, Deferred.ofValue, invoke, builtin, asBool, Instr.makeFunc, Instr.extract, sx, Act.put, Act.eval, nrm]
      refine hK1 _ _ _ ?_; clear hK1 K1
      refine opsL_cons rfl (fun K1 hK1 => ?_)
      simp only [execOp, uponT, resolve, Deferred.ofValue, invoke, builtin, asBool, Instr.makeFunc, Instr.extract, sx, Act.put, Act.eval, nrm]
      refine hK1 _ _ _ ?_; clear hK1 K1
      refine opsL_nil (hK _ _ _ ?_); clear hK K
      refine wpT_ret (hret _ _ _ (bodyPost_ret1 rfl ?_))
      exact ⟨rfl, .inl ⟨k, hkl, rfl, hp, hpk, hI2⟩⟩
    · have hpk' : p (xs.getD k 0) = false := by simpa using hpk
      simp only [hpk']
      refine wpT_cond (t := false) rfl ?_
      simp only [if_true, if_false, Bool.false_eq_true, reduceIte]
      refine wpT_skip ?_
      simp only [thenT, inBlockT]
      refine wpT_reg (fun K hK => ?_)
      refine opsL_cons rfl (fun K1 hK1 => ?_)
      simp only [execOp, uponT, resolve, Deferred.ofValue, invoke, builtin, asBool, Instr.makeFunc, Instr.extract, sx, Act.put, Act.eval, nrm, m1]
      refine hK1 _ _ _ ?_; clear hK1 K1
      refine opsL_cons rfl (fun K1 hK1 => ?_)
      simp only [execOp, uponT, resolve, Deferred.ofValue, invoke, builtin, asBool, Instr.makeFunc, Instr.extract, sx, Act.put, Act.eval, nrm]
      refine hK1 _ _ _ ?_; clear hK1 K1
      refine opsL_nil (hK _ _ _ ?_); clear hK K
      simp only [thenT, inBlockT, loopQ, reduceIte, Nat.reduceEqDiff]
      refine hAgain _ _ _ ?_ ?_
      · refine ⟨k + 1, _, _, _, _, _, _, _, _, _, _, _, _, _, _, _, rfl, hI2, hkl, fun j hj => ?_, rfl⟩
        by_cases hjk : j = k
        · rw [hjk]; exact hpk'
        · exact hp j (by omega)
      · simp only [slotNat, Array.getD_eq_getD_getElem?, List.getElem?_toArray, List.getElem?_cons_succ, List.getElem?_cons_zero, Option.getD_some, Int.toNat_natCast]; omega
  ·
    have g1 : decide ((k : Int) < (xs.length : Int)) = false := by simp; omega
    refine wpT_seq_reg (fun K hK => ?_)
    refine opsL_cons rfl (fun K1 hK1 => ?_)
    simp only [execOp, uponT, resolve, Deferred.ofValue, invoke, builtin, asBool, Instr.makeFunc, Instr.extract, sx, Act.put, Act.eval, nrm, g1]
    refine hK1 _ _ _ ?_; clear hK1 K1
    refine opsL_nil (hK _ _ _ ?_); clear hK K
    refine wpT_seq ?_
    refine wpT_cond (t := false) rfl ?_
    simp only [if_true, if_false, Bool.false_eq_true, reduceIte]
    refine wpT_exit ?_
    simp only [thenT, inBlockT, loopQ, reduceIte, Nat.reduceEqDiff]
    refine hOut _ _ _ ?_
    simp only [thenT]
    refine wpT_seq_reg (fun K hK => ?_)
    refine opsL_cons rfl (fun K1 hK1 => ?_)
    simp only [execOp, uponT, resolve, Deferred.ofValue, invoke, builtin, asBool, Instr.makeFunc, Instr.extract, sx, Act.put, Act.eval, nrm]
    refine hK1 _ _ _ ?_; clear hK1 K1
    refine opsL_nil (hK _ _ _ ?_); clear hK K
    refine wpT_ret (hret _ _ _ (bodyPost_ret1 rfl ?_))
    have hkx : k = xs.length := by omega
    subst hkx
    exact ⟨rfl, .inr ⟨rfl, hp, hI⟩⟩

theorem fs37_eq : fs37 = #[fd37x0, fd37x1] := by kernel_rfl
theorem build37 {H : Hp} (x y : Int) (K : Value → Hp → Prop) : SemS Tryd.prog (Instr.build 37 #[(0, .int .i64 x), (1, .int .i64 y)]) H K = K (.agg #[.int .i64 x, .int .i64 y]) H := by
  simp only [Instr.build, semS_bind, semS_zeroValue, info37, zero37, semS_underlying, str37, fs37_eq, List.mapM_toArray, List.mapM_cons, List.mapM_nil, semS_map, semS_pure, semS_sizeOf, fd37x0t, fd37x1t, info3, size3, fd37x0o, fd37x1o]
  simp [Instr.fill, Value.cells]

/-- Does a waiting one go? -/
def goneB (ls : List Tap) (now : Int) (i : Nat) : Bool := decide (IntKind.i64.wrap ((ls.getD i default).at_ + (ls.getD i default).pat) ≤ now)
def goneOut (ls : List Tap) (now : Int) (out : List (Int × Int)) (i : Nat) : List (Int × Int) := if goneB ls now i then out.set i (-1, now) else out
theorem goneOut_length (ls : List Tap) (now : Int) (out : List (Int × Int)) (i : Nat) : (goneOut ls now out i).length = out.length := by unfold goneOut; split <;> simp

set_option maxRecDepth 100000 in
set_option maxHeartbeats 4000000 in
theorem gone_calls {Γ κ : Type} (Y : Proto Γ κ) (main : Bool) (H : Hp) (γ : Γ) {bl bn bo B capL capO : Nat} {aL : Option Addr} {now : Int} {ls : List Tap} {out : List (Int × Int)} {cs : Array Value} {t : TypeId}
    (hl : H.cell ⟨bl, 0, none⟩ = some (.slice aL ls.length capL)) (hls : Taps H aL ls) (hn : H.cell ⟨bn, 0, none⟩ = some (.int .i64 now)) (ho : H.cell ⟨bo, 0, none⟩ = some (.slice (some ⟨B, 0, none⟩) out.length capO))
    (hB : H.own B = some (.cells cs t (0, 0))) (hF : Fates cs out) (hs : cs.size = out.length * 2) (i : Nat) (hi : i < ls.length) (hio : i < out.length) :
    CallsT Tryd.prog Y main 22 #[.int .i64 i, .pointer (some ⟨bl, 0, none⟩), .pointer (some ⟨bn, 0, none⟩), .pointer (some ⟨bo, 0, none⟩)] H γ (fun v H' γ' => v = .bool (goneB ls now i) ∧ γ' = γ ∧ ∃ cs', H' = H.set B (.cells cs' t (0, 0)) ∧ Fates cs' (goneOut ls now out i) ∧ cs'.size = cs.size) := by
  obtain ⟨BL, offL, rfl, hT⟩ := hls.resolve_left (by omega)
  refine callsT_enter (T := [.int .i64 i, .pointer (some ⟨bl, 0, none⟩), .pointer (some ⟨bn, 0, none⟩), .pointer (some ⟨bo, 0, none⟩), undef, undef, undef, undef, undef, undef, undef, undef, undef, undef, undef, undef, undef, undef, undef, undef, undef, undef, undef, undef]) Tryd.func22 rfl Tryd.ntmps22 rfl (fun Q hret hnorm hless => ?_)
  refine wpT_seq_reg (fun K hK => ?_)
  refine opsL_cons rfl (fun K1 hK1 => ?_)
  simp only [execOp, uponT, resolve, Deferred.ofValue, invoke, builtin, asBool, Instr.makeFunc, Instr.extract, sx, Act.put, Act.eval, nrm]
  refine hK1 _ _ _ ?_; clear hK1 K1
  refine opsL_nil (hK _ _ _ ?_); clear hK K
  refine wpT_seq ?_
  refine wpT_seq_quiet mixed (by kernel_rfl) (by kernel_rfl) (fun K hK => ?_)
  apply quietL_cons
  · rfl
  · intro K1 hK1
    simp only [execOp, uponT, resolve, Deferred.ofValue, invoke, builtin, asBool, Instr.makeFunc, Instr.extract, sx, Act.put, Act.eval, nrm, semS_loadAt one23 hl]
    exact hK1
  simp only [Act.put, Act.eval, nrm]
  apply quietL_cons
  · rfl
  · intro K1 hK1
    simp only [execOp, uponT, resolve, Deferred.ofValue, invoke, builtin, asBool, Instr.makeFunc, Instr.extract, sx, Act.put, Act.eval, nrm]
    exact hK1
  simp only [Act.put, Act.eval, nrm]
  apply quietL_cons
  · rfl
  · intro K1 hK1
    simp only [execOp, uponT, resolve, Deferred.ofValue, invoke, builtin, asBool, Instr.makeFunc, Instr.extract, sx, Act.put, Act.eval, nrm, semS_indexAt Tryd.underlying23 info56 _ _ _ _ _ hi, size56]
    exact hK1
  simp only [Act.put, Act.eval, nrm]
  apply quietL_cons
  · rfl
  · intro K1 hK1
    simp only [execOp, uponT, resolve, Deferred.ofValue, invoke, builtin, asBool, Instr.makeFunc, Instr.extract, sx, Act.put, Act.eval, nrm, field56x0, Nat.add_zero]
    exact hK1
  simp only [Act.put, Act.eval, nrm]
  apply quietL_cons
  · rfl
  · intro K1 hK1
    simp only [execOp, uponT, resolve, Deferred.ofValue, invoke, builtin, asBool, Instr.makeFunc, Instr.extract, sx, Act.put, Act.eval, nrm, semS_loadAt one3 (hT i hi).1]
    exact hK1
  simp only [Act.put, Act.eval, nrm]
  apply quietL_cons
  · rfl
  · intro K1 hK1
    simp only [execOp, uponT, resolve, Deferred.ofValue, invoke, builtin, asBool, Instr.makeFunc, Instr.extract, sx, Act.put, Act.eval, nrm, semS_loadAt one23 hl]
    exact hK1
  simp only [Act.put, Act.eval, nrm]
  apply quietL_cons
  · rfl
  · intro K1 hK1
    simp only [execOp, uponT, resolve, Deferred.ofValue, invoke, builtin, asBool, Instr.makeFunc, Instr.extract, sx, Act.put, Act.eval, nrm]
    exact hK1
  simp only [Act.put, Act.eval, nrm]
  apply quietL_cons
  · rfl
  · intro K1 hK1
    simp only [execOp, uponT, resolve, Deferred.ofValue, invoke, builtin, asBool, Instr.makeFunc, Instr.extract, sx, Act.put, Act.eval, nrm, semS_indexAt Tryd.underlying23 info56 _ _ _ _ _ hi, size56]
    exact hK1
  simp only [Act.put, Act.eval, nrm]
  apply quietL_cons
  · rfl
  · intro K1 hK1
    simp only [execOp, uponT, resolve, Deferred.ofValue, invoke, builtin, asBool, Instr.makeFunc, Instr.extract, sx, Act.put, Act.eval, nrm, field56x2]
    exact hK1
  simp only [Act.put, Act.eval, nrm]
  apply quietL_cons
  · rfl
  · intro K1 hK1
    simp only [execOp, uponT, resolve, Deferred.ofValue, invoke, builtin, asBool, Instr.makeFunc, Instr.extract, sx, Act.put, Act.eval, nrm, semS_loadAt one3 (hT i hi).2.2]
    exact hK1
  simp only [Act.put, Act.eval, nrm]
  apply quietL_cons
  · rfl
  · intro K1 hK1
    simp only [execOp, uponT, resolve, Deferred.ofValue, invoke, builtin, asBool, Instr.makeFunc, Instr.extract, sx, Act.put, Act.eval, nrm]
    exact hK1
  simp only [Act.put, Act.eval, nrm]
  apply quietL_cons
  · rfl
  · intro K1 hK1
    simp only [execOp, uponT, resolve, Deferred.ofValue, invoke, builtin, asBool, Instr.makeFunc, Instr.extract, sx, Act.put, Act.eval, nrm, semS_loadAt one3 hn]
    exact hK1
  simp only [Act.put, Act.eval, nrm]
  apply quietL_cons
  · rfl
  · intro K1 hK1
    simp only [execOp, uponT, resolve, Deferred.ofValue, invoke, builtin, asBool, Instr.makeFunc, Instr.extract, sx, Act.put, Act.eval, nrm]
    exact hK1
  simp only [Act.put, Act.eval, nrm]
  refine quietL_nil (hK _ ?_); clear hK K
  by_cases hg : IntKind.i64.wrap ((ls.getD i default).at_ + (ls.getD i default).pat) ≤ now
  ·
    have g1 : decide (IntKind.i64.wrap ((ls.getD i default).at_ + (ls.getD i default).pat) > now) = false := decide_eq_false (by omega)
    simp only [g1]
    have g2 : goneB ls now i = true := decide_eq_true hg
    refine wpT_cond (t := false) rfl ?_
    simp only [if_true, if_false, Bool.false_eq_true, reduceIte]
    refine wpT_skip ?_
    simp only [thenT]
    refine wpT_seq_reg (fun K hK => ?_)
    refine opsL_cons rfl (fun K1 hK1 => ?_)
    simp only [execOp, uponT, resolve, Deferred.ofValue, invoke, builtin, asBool, Instr.makeFunc, Instr.extract, sx, Act.put, Act.eval, nrm, semS_loadAt one33 ho]
    refine hK1 _ _ _ ?_; clear hK1 K1
    refine opsL_cons rfl (fun K1 hK1 => ?_)
    simp only [execOp, uponT, resolve, Deferred.ofValue, invoke, builtin, asBool, Instr.makeFunc, Instr.extract, sx, Act.put, Act.eval, nrm]
    refine hK1 _ _ _ ?_; clear hK1 K1
    refine opsL_cons rfl (fun K1 hK1 => ?_)
    simp only [execOp, uponT, resolve, Deferred.ofValue, invoke, builtin, asBool, Instr.makeFunc, Instr.extract, sx, Act.put, Act.eval, nrm, semS_loadAt one3 hn]
    refine hK1 _ _ _ ?_; clear hK1 K1
    refine opsL_cons rfl (fun K1 hK1 => ?_)
    simp only [execOp, uponT, resolve, Deferred.ofValue, invoke, builtin, asBool, Instr.makeFunc, Instr.extract, sx, Act.put, Act.eval, nrm, build37]
    refine hK1 _ _ _ ?_; clear hK1 K1
    refine opsL_cons rfl (fun K1 hK1 => ?_)
    simp only [execOp, uponT, resolve, Deferred.ofValue, invoke, builtin, asBool, Instr.makeFunc, Instr.extract, sx, Act.put, Act.eval, nrm, semS_indexAt Tryd.underlying33 info37 _ _ _ _ _ hio, size37]
    refine hK1 _ _ _ ?_; clear hK1 K1
    refine opsL_cons rfl (fun K1 hK1 => ?_)
    simp only [execOp, uponT, resolve, Deferred.ofValue, invoke, builtin, asBool, Instr.makeFunc, Instr.extract, sx, Act.put, Act.eval, nrm, semS_storeAt2 info37 size37 hB (off := i * 2) (show i * 2 + 1 < cs.size by omega) (x := .int .i64 (-1)) (y := .int .i64 now) rfl rfl, Nat.zero_add]
    refine hK1 _ _ _ ?_; clear hK1 K1
    refine opsL_nil (hK _ _ _ ?_); clear hK K
    refine wpT_seq_reg (fun K hK => ?_)
    refine opsL_cons rfl (fun K1 hK1 => ?_)
    simp only [execOp, uponT, resolve, Deferred.ofValue, invoke, builtin, asBool, Instr.makeFunc, Instr.extract, sx, Act.put, Act.eval, nrm]
    refine hK1 _ _ _ ?_; clear hK1 K1
    refine opsL_nil (hK _ _ _ ?_); clear hK K
    refine wpT_ret (hret _ _ _ (bodyPost_ret1 rfl ?_))
    refine ⟨by simp only [Act.put, Act.eval, nrm]; rw [g2], rfl, _, rfl, ?_, by simp⟩
    have := hF.set hs hio (-1, now)
    simpa [goneOut, g2] using this
  ·
    have g1 : decide (IntKind.i64.wrap ((ls.getD i default).at_ + (ls.getD i default).pat) > now) = true := decide_eq_true (by omega)
    simp only [g1]
    have g2 : goneB ls now i = false := decide_eq_false hg
    refine wpT_cond (t := true) rfl ?_
    simp only [if_true, if_false, Bool.false_eq_true, reduceIte]
    refine wpT_seq_reg (fun K hK => ?_)
    refine opsL_cons rfl (fun K1 hK1 => ?_)
    simp only [execOp, uponT, resolve, Deferred.ofValue, invoke, builtin, asBool, Instr.makeFunc, Instr.extract, sx, Act.put, Act.eval, nrm]
    refine hK1 _ _ _ ?_; clear hK1 K1
    refine opsL_nil (hK _ _ _ ?_); clear hK K
    refine wpT_ret (hret _ _ _ (bodyPost_ret1 rfl ?_))
    refine ⟨by simp only [Act.put, Act.eval, nrm]; rw [g2], rfl, cs, (set_self hB).symm, ?_, rfl⟩
    simpa [goneOut, g2] using hF
end Go.Proofs.YtcomjkbfmklfnaaDoor
