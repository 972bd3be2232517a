/-
  TapeMany, by its contract. Conditions: none.
-/
import Derived.Test.YtcomjkbfmklfnaaDoorWw
import Derived.Test.YtcomjkbfmklfnaaDoorWx
set_option linter.unusedSimpArgs false
set_option linter.unusedVariables false
namespace Go.Proofs.YtcomjkbfmklfnaaDoor
open Go.Conc Go.Sep
theorem stood37 : Tryd.prog.stoodInHeld 37 = false := by kernel_rfl
theorem guard37 : Tryd.prog.eqGuardType Tryd.prog.depth 37 = false := by kernel_rfl
theorem eq3 {H : Hp} (d : Nat) (a b : Int) (K : Bool → Hp → Prop) : SemS Tryd.prog (Op.equalIn (d + 1) 3 (.int .i64 a) (.int .i64 b)) H K = K (a == b) H := by
  simp [Op.equalIn, Tryd.underlying3]
theorem part3 {H : Hp} (xs : Array Value) (i : Nat) (v : Value) (hv : xs[i]? = some v) (hone : oneCell v = true) (K : Value → Hp → Prop) : SemS Tryd.prog (part 3 xs i) H K = K v H := by
  simp [part, Tryd.underlying3, hv]
theorem eqFate {H : Hp} (d : Nat) (a b : Int) (K : Bool → Hp → Prop) : SemS Tryd.prog (Op.equalIn (d + 2) 37 (.agg #[.int .i64 a, .int .i64 b]) (.agg #[.int .i64 a, .int .i64 b])) H K = K true H := by
  rw [Op.equalIn]
  simp [Tryd.underlying37, stood37]
  simp [part3 _ _ _ (show (#[Value.int IntKind.i64 a, Value.int IntKind.i64 b] : Array Value)[0]? = some (.int .i64 a) from rfl) rfl, part3 _ _ _ (show (#[Value.int IntKind.i64 a, Value.int IntKind.i64 b] : Array Value)[1]? = some (.int .i64 b) from rfl) rfl, eq3]
theorem neqFate {H : Hp} (a b : Int) (K : Value → Hp → Prop) : SemS Tryd.prog (binOp .neq 37 (.agg #[.int .i64 a, .int .i64 b]) (.agg #[.int .i64 a, .int .i64 b])) H K = K (.bool false) H := by
  have e : SemS Tryd.prog (binOp .neq 37 (.agg #[.int .i64 a, .int .i64 b]) (.agg #[.int .i64 a, .int .i64 b])) H K = SemS Tryd.prog (Op.equalIn (9998 + 2) 37 (.agg #[.int .i64 a, .int .i64 b]) (.agg #[.int .i64 a, .int .i64 b])) H (fun b H' => K (.bool (!b)) H') := by
    simp only [binOp, Op.equal, Op.maxDepth, semS_bind, semS_pure]
  rw [e, eqFate]; rfl
theorem guardFate {H : Hp} (x y : Operand) (a b : Int) (K : Unit → Hp → Prop) : SemS Tryd.prog (eqGuard .neq 37 x y (.agg #[.int .i64 a, .int .i64 b]) (.agg #[.int .i64 a, .int .i64 b])) H K = K () H := by
  simp [eqGuard, guard37]

theorem serve_length (ls : List Tap) (now : Int) : ∀ (w : List Nat) (clk free : List Int) (out : List (Int × Int)), (serve ls now w clk free out).out.length = out.length
  | [], _, _, _ => rfl
  | i :: rest, clk, free, out => by
    cases hf : firstFree free now with
    | none => rw [serve_none hf]
    | some a => rw [serve_some hf, serve_length ls now rest, List.length_set]
theorem playF_length (ls : List Tap) : ∀ (f : Nat) (clk : List Int) (wait : List Nat) (next : Nat) (free : List Int) (out : List (Int × Int)), (playF ls f clk wait next free out).length = out.length
  | 0, _, _, _, _, _ => rfl
  | f + 1, clk, wait, next, free, out => by
    by_cases h : clk.length = 0
    · rw [playF_stop _ _ _ _ _ _ _ h]
    · rw [playF_go _ _ _ _ _ _ _ h, playF_length ls f, delOut_length, serve_length]
theorem playR_length {ls : List Tap} {ag : Int} {out : List (Int × Int)} (h : playR ls ag = .inr out) : out.length = ls.length := by
  unfold playR at h
  split at h
  · cases h
  · split at h
    · cases h
    · cases h; rw [playF_length, List.length_replicate]

theorem roCell_ne {ro : Nat → Option Obj} {a : Addr} {v : Value} (h : roCell ro a = some v) : ro a.block ≠ none := by
  intro e
  unfold roCell Hp.cell Hp.look at h
  simp [e] at h
theorem ext_cell {H₀ H : Hp} (hx : Ext H₀ H) {a : Addr} {v : Value} (h : roCell H₀.ro a = some v) : H.cell a = some v := by
  have h1 := roCell_mono hx.ro h
  exact roCell_cell h1 (hx.ap _ (roCell_ne h1))
theorem tape_at {H₀ H : Hp} (hx : Ext H₀ H) {a : Option Addr} {tss : List (List Tap)} (h : TapesR H₀.ro a tss) {k : Nat} (hk : k < tss.length) :
    ∃ B off aL cap, a = some ⟨B, off, none⟩ ∧ H.cell ⟨B, off + k, none⟩ = some (.slice aL (tss.getD k []).length cap) ∧ Taps H aL (tss.getD k []) ∧ (∀ x, 0 < (tss.getD k []).length → aL = some x → H.own x.block = none) := by
  obtain ⟨B, off, e, hh⟩ := h.resolve_left (by omega)
  obtain ⟨aL, cap, h1, h2⟩ := hh k hk
  refine ⟨B, off, aL, cap, e, ext_cell hx h1, Taps.grow h2 fun x v hv => ext_cell hx hv, fun x hl hx' => ?_⟩
  obtain ⟨B', off', e', h3⟩ := h2.resolve_left (by omega)
  have h4 := (h3 0 hl).1
  rw [hx'] at e'
  cases e'
  exact hx.ap _ (roCell_ne (roCell_mono hx.ro h4))

theorem pick16 (x : Int) : ∃ n : Nat, n < 16 ∧ pickL x 16 = (n : Int) := by
  have h1 : IntKind.u64.wrap 16 = 16 := by decide
  have h2 : (0 : Int) ≤ IntKind.u64.wrap x := by rw [IntKind.wrap_u64]; omega
  refine ⟨(Int.tmod (IntKind.u64.wrap x) 16).toNat, ?_, ?_⟩
  · rw [Int.tmod_eq_emod_of_nonneg h2]; omega
  · unfold pickL
    rw [h1, Int.tmod_eq_emod_of_nonneg h2, IntKind.wrap_i64]
    omega
theorem pick_succ (x : Int) : ∃ n : Nat, 1 ≤ n ∧ n ≤ 16 ∧ IntKind.i64.wrap (1 + pickL x 16) = (n : Int) := by
  obtain ⟨n, hn, e⟩ := pick16 x
  refine ⟨n + 1, by omega, by omega, ?_⟩
  rw [e, IntKind.wrap_i64]
  omega
theorem fate_eq {H : Hp} {B : Nat} {bs : Array Value} {out : List (Int × Int)} {j : Nat} (hb : H.look B = some (.cells bs 37 (0, 0))) (hF : Fates bs out) (hj : j < out.length) :
    H.cell ⟨B, 0 + j * 2, none⟩ = some (.int .i64 (out.getD j default).1) ∧ H.cell ⟨B, 0 + j * 2 + 1, none⟩ = some (.int .i64 (out.getD j default).2) := by
  obtain ⟨h1, h2⟩ := hF j hj
  constructor <;> simp [Hp.cell, hb, h1, h2]
theorem look_ro {H : Hp} {B : Nat} {o : Obj} (hap : Ap H) (h : H.ro B = some o) : H.look B = some o := by
  simp [Hp.look, hap B (by rw [h]; simp), h]
theorem look_ow {H : Hp} {B : Nat} {o : Obj} (h : H.own B = some o) : H.look B = some o := by simp [Hp.look, h]
theorem cell_arr {H : Hp} {B : Nat} {cs : Array Value} {te : TypeId} {k : Nat} {v : Value} (h : H.own B = some (.cells cs te (0, 0))) (hk : cs[k]? = some v) : H.cell ⟨B, 0 + k, none⟩ = some v := by
  simp [Hp.cell, Hp.look, h, hk]
theorem cmp22 (n : Nat) : ((n : Int) != (n : Int)) = false := by simp
theorem cmpI (n : Int) : (n != n) = false := by simp
theorem cmpE (n : Int) : (n == n) = true := by simp
def LawQ (v : Value) : Prop := v = .bool true

set_option maxRecDepth 100000 in
set_option maxHeartbeats 16000000 in
theorem tapeMany_calls {H₀ : Hp} (hap : Ap H₀) (hd : H₀.d = 0) {tss : List (List Tap)} {a : Option Addr} {cap : Nat} (hts : TapesR H₀.ro a tss) (hg : roCell H₀.ro ⟨0, 0, none⟩ = some (.iface 109 (.agg #[.pointer (some ⟨1, 27, none⟩)]))) (ag wk ot : Int) :
    CallsT Tryd.prog (company Tryd.prog LawQ) true 3 #[.slice a tss.length cap, .int .i64 ag, .int .i64 wk, .int .i64 ot] H₀ .lone (fun v H' γ' => v = .bool true ∧ γ' = .lone) := by
  refine callsT_enter (T := [.slice a tss.length cap, .int .i64 ag, .int .i64 wk, .int .i64 ot, undef, undef, undef, undef, undef, undef, undef, undef, undef, undef, undef, undef, undef, undef, undef, undef, undef, undef, undef, undef, undef, undef, undef, undef, undef, undef, undef, undef, undef, undef, undef, undef, undef, undef, undef, undef, undef, undef, undef, undef, undef, undef, undef, undef, undef, undef, undef, undef, undef, undef, undef, undef, undef, undef, undef, undef, undef, undef, undef, undef, undef, undef, undef, undef, undef, undef, undef, undef, undef, undef, undef, undef, undef, undef, undef, undef, undef, undef, undef, undef, undef, undef, undef, undef, undef, undef, undef, undef, undef, undef, undef, undef, undef, undef, undef, undef, undef, undef, undef, undef, undef, undef, undef, undef, undef, undef, undef, undef, undef, undef, undef, undef, undef, undef, undef, undef, undef, undef, undef, undef, undef, undef, undef, undef, undef, undef, undef, undef, undef, undef, undef, undef, undef, undef, undef, undef, undef, undef, undef, undef, undef, undef, undef, undef, undef, undef, undef, undef, undef, undef, undef, undef, undef, undef, undef, undef, undef, undef, undef]) Tryd.func3 rfl Tryd.ntmps3 rfl (fun Q hret hnorm hless => ?_)
  refine wpT_seq_reg (fun K hK => ?_)
  refine opsL_cons rfl (fun K1 hK1 => ?_)
  simp only [execOp, uponT, resolve, Deferred.ofValue, invoke, builtin, asBool, Instr.makeFunc, Instr.extract, sx, Act.put, Act.eval, nrm]
  refine hK1 _ _ _ ?_; clear hK1 K1
  refine opsL_nil (hK _ _ _ ?_); clear hK K
  refine wpT_seq ?_
  by_cases h20 : tss.length > 20
  ·
    have c1 : decide ((tss.length : Int) > 20) = true := decide_eq_true (by omega)
    refine wpT_seq_reg (fun K hK => ?_)
    refine opsL_cons rfl (fun K1 hK1 => ?_)
    simp only [execOp, uponT, resolve, Deferred.ofValue, invoke, builtin, asBool, Instr.makeFunc, Instr.extract, sx, Act.put, Act.eval, nrm]
    refine hK1 _ _ _ ?_; clear hK1 K1
    refine opsL_cons rfl (fun K1 hK1 => ?_)
    simp only [execOp, uponT, resolve, Deferred.ofValue, invoke, builtin, asBool, Instr.makeFunc, Instr.extract, sx, Act.put, Act.eval, nrm]
    refine hK1 _ _ _ ?_; clear hK1 K1
    refine opsL_cons rfl (fun K1 hK1 => ?_)
    simp only [execOp, uponT, resolve, Deferred.ofValue, invoke, builtin, asBool, Instr.makeFunc, Instr.extract, sx, Act.put, Act.eval, nrm, c1]
    refine hK1 _ _ _ ?_; clear hK1 K1
    refine opsL_nil (hK _ _ _ ?_); clear hK K
    refine wpT_cond (t := true) rfl ?_
    simp only [if_true, if_false, Bool.false_eq_true, reduceIte]
    refine wpT_seq_reg (fun K hK => ?_)
    refine opsL_cons rfl (fun K1 hK1 => ?_)
    simp only [execOp, uponT, resolve, Deferred.ofValue, invoke, builtin, asBool, Instr.makeFunc, Instr.extract, sx, Act.put, Act.eval, nrm]
    refine hK1 _ _ _ ?_; clear hK1 K1
    refine opsL_nil (hK _ _ _ ?_); clear hK K
    refine wpT_ret (hret _ _ _ (bodyPost_ret1 rfl ?_))
    exact ⟨rfl, rfl⟩
  have c1 : decide ((tss.length : Int) > 20) = false := decide_eq_false (by omega)
  refine wpT_seq_reg (fun K hK => ?_)
  refine opsL_cons rfl (fun K1 hK1 => ?_)
  simp only [execOp, uponT, resolve, Deferred.ofValue, invoke, builtin, asBool, Instr.makeFunc, Instr.extract, sx, Act.put, Act.eval, nrm]
  refine hK1 _ _ _ ?_; clear hK1 K1
  refine opsL_cons rfl (fun K1 hK1 => ?_)
  simp only [execOp, uponT, resolve, Deferred.ofValue, invoke, builtin, asBool, Instr.makeFunc, Instr.extract, sx, Act.put, Act.eval, nrm]
  refine hK1 _ _ _ ?_; clear hK1 K1
  refine opsL_cons rfl (fun K1 hK1 => ?_)
  simp only [execOp, uponT, resolve, Deferred.ofValue, invoke, builtin, asBool, Instr.makeFunc, Instr.extract, sx, Act.put, Act.eval, nrm, c1]
  refine hK1 _ _ _ ?_; clear hK1 K1
  refine opsL_nil (hK _ _ _ ?_); clear hK K
  refine wpT_cond (t := false) rfl ?_
  simp only [if_true, if_false, Bool.false_eq_true, reduceIte]
  refine wpT_skip ?_
  simp only [thenT]
  refine wpT_seq ?_
  refine wpT_seq_reg (fun K hK => ?_)
  refine opsL_cons rfl (fun K1 hK1 => ?_)
  simp only [execOp, uponT, resolve, Deferred.ofValue, invoke, builtin, asBool, Instr.makeFunc, Instr.extract, sx, Act.put, Act.eval, nrm]
  refine hK1 _ _ _ ?_; clear hK1 K1
  refine opsL_nil (hK _ _ _ ?_); clear hK K
  refine wpT_block_loop (fun a' Hc γc => Hc = H₀ ∧ γc = .lone ∧ ∃ i : Nat, i ≤ tss.length ∧ (∀ k, k < i → (tss.getD k []).length ≤ 30) ∧ ∃ S : Nat → Value, a' = ⟨#[.slice a tss.length cap, .int .i64 ag, .int .i64 wk, .int .i64 ot, S 4, S 5, S 6, S 7, S 8, .int .i64 i, S 10, S 11, S 12, S 13, S 14, S 15, S 16, S 17, S 18, S 19, S 20, S 21, S 22, S 23, S 24, S 25, S 26, S 27, S 28, S 29, S 30, S 31, S 32, S 33, S 34, S 35, S 36, S 37, S 38, S 39, S 40, S 41, S 42, S 43, S 44, S 45, S 46, S 47, S 48, S 49, S 50, S 51, S 52, S 53, S 54, S 55, S 56, S 57, S 58, S 59, S 60, S 61, S 62, S 63, S 64, S 65, S 66, S 67, S 68, S 69, S 70, S 71, S 72, S 73, S 74, S 75, S 76, S 77, S 78, S 79, S 80, S 81, S 82, S 83, S 84, S 85, S 86, S 87, S 88, S 89, S 90, S 91, S 92, S 93, S 94, S 95, S 96, S 97, S 98, S 99, S 100, S 101, S 102, S 103, S 104, S 105, S 106, S 107, S 108, S 109, S 110, S 111, S 112, S 113, S 114, S 115, S 116, S 117, S 118, S 119, S 120, S 121, S 122, S 123, S 124, S 125, S 126, S 127, S 128, S 129, S 130, S 131, S 132, S 133, S 134, S 135, S 136, S 137, S 138, S 139, S 140, S 141, S 142, S 143, S 144, S 145, S 146, S 147, S 148, S 149, S 150, S 151, S 152, S 153, S 154, S 155, S 156, S 157, S 158, S 159, S 160, S 161, S 162], []⟩) (fun a' _ _ => tss.length - slotNat a' 9) ?_ ?_
  · exact ⟨rfl, rfl, 0, Nat.zero_le _, fun k hk => absurd hk (by omega), slots rfl⟩
  rintro _ Hc _ ⟨hHc, rfl, i, hi, hlen, S, rfl⟩ Again Out hAgain hOut
  rw [hHc]
  clear hHc Hc
  by_cases him : i < tss.length
  ·
    have d1 : decide ((i : Int) < (tss.length : Int)) = true := decide_eq_true (by omega)
    have m1 : IntKind.i64.wrap ((i : Int) + 1) = ((i + 1 : Nat) : Int) := wrap_succ _ (by omega)
    obtain ⟨B, off, aL, capL, e, hcell, _, _⟩ := tape_at (Ext.refl hap) hts him
    rw [e]
    refine wpT_seq ?_
    refine wpT_seq_reg (fun K hK => ?_)
    refine opsL_cons rfl (fun K1 hK1 => ?_)
    simp only [execOp, uponT, resolve, Deferred.ofValue, invoke, builtin, asBool, Instr.makeFunc, Instr.extract, sx, Act.put, Act.eval, nrm]
    refine hK1 _ _ _ ?_; clear hK1 K1
    refine opsL_cons rfl (fun K1 hK1 => ?_)
    simp only [execOp, uponT, resolve, Deferred.ofValue, invoke, builtin, asBool, Instr.makeFunc, Instr.extract, sx, Act.put, Act.eval, nrm]
    refine hK1 _ _ _ ?_; clear hK1 K1
    refine opsL_cons rfl (fun K1 hK1 => ?_)
    simp only [execOp, uponT, resolve, Deferred.ofValue, invoke, builtin, asBool, Instr.makeFunc, Instr.extract, sx, Act.put, Act.eval, nrm]
    refine hK1 _ _ _ ?_; clear hK1 K1
    refine opsL_cons rfl (fun K1 hK1 => ?_)
    simp only [execOp, uponT, resolve, Deferred.ofValue, invoke, builtin, asBool, Instr.makeFunc, Instr.extract, sx, Act.put, Act.eval, nrm, d1]
    refine hK1 _ _ _ ?_; clear hK1 K1
    refine opsL_nil (hK _ _ _ ?_); clear hK K
    refine wpT_cond (t := true) rfl ?_
    simp only [if_true, if_false, Bool.false_eq_true, reduceIte]
    refine wpT_skip ?_
    simp only [thenT]
    refine wpT_seq ?_
    refine wpT_block ?_
    by_cases h30 : (tss.getD i []).length > 30
    ·
      have c2 : decide (((tss.getD i []).length : Int) > 30) = true := decide_eq_true (by omega)
      refine wpT_seq_reg (fun K hK => ?_)
      refine opsL_cons rfl (fun K1 hK1 => ?_)
      simp only [execOp, uponT, resolve, Deferred.ofValue, invoke, builtin, asBool, Instr.makeFunc, Instr.extract, sx, Act.put, Act.eval, nrm]
      refine hK1 _ _ _ ?_; clear hK1 K1
      refine opsL_cons rfl (fun K1 hK1 => ?_)
      simp only [execOp, uponT, resolve, Deferred.ofValue, invoke, builtin, asBool, Instr.makeFunc, Instr.extract, sx, Act.put, Act.eval, nrm]
      refine hK1 _ _ _ ?_; clear hK1 K1
      refine opsL_cons rfl (fun K1 hK1 => ?_)
      simp only [execOp, uponT, resolve, Deferred.ofValue, invoke, builtin, asBool, Instr.makeFunc, Instr.extract, sx, Act.put, Act.eval, nrm, semS_indexAt Tryd.underlying22 info23 _ _ _ _ _ him, size23, Nat.mul_one]
      refine hK1 _ _ _ ?_; clear hK1 K1
      refine opsL_cons rfl (fun K1 hK1 => ?_)
      simp only [execOp, uponT, resolve, Deferred.ofValue, invoke, builtin, asBool, Instr.makeFunc, Instr.extract, sx, Act.put, Act.eval, nrm, semS_loadAt one23 hcell]
      refine hK1 _ _ _ ?_; clear hK1 K1
      refine opsL_cons rfl (fun K1 hK1 => ?_)
      simp only [execOp, uponT, resolve, Deferred.ofValue, invoke, builtin, asBool, Instr.makeFunc, Instr.extract, sx, Act.put, Act.eval, nrm]
      refine hK1 _ _ _ ?_; clear hK1 K1
      refine opsL_cons rfl (fun K1 hK1 => ?_)
      simp only [execOp, uponT, resolve, Deferred.ofValue, invoke, builtin, asBool, Instr.makeFunc, Instr.extract, sx, Act.put, Act.eval, nrm, c2]
      refine hK1 _ _ _ ?_; clear hK1 K1
      refine opsL_nil (hK _ _ _ ?_); clear hK K
      refine wpT_cond (t := true) rfl ?_
      simp only [if_true, if_false, Bool.false_eq_true, reduceIte]
      refine wpT_seq_reg (fun K hK => ?_)
      refine opsL_cons rfl (fun K1 hK1 => ?_)
      simp only [execOp, uponT, resolve, Deferred.ofValue, invoke, builtin, asBool, Instr.makeFunc, Instr.extract, sx, Act.put, Act.eval, nrm]
      refine hK1 _ _ _ ?_; clear hK1 K1
      refine opsL_nil (hK _ _ _ ?_); clear hK K
      refine wpT_ret (hret _ _ _ (bodyPost_ret1 rfl ?_))
      exact ⟨rfl, rfl⟩
    ·
      have c2 : decide (((tss.getD i []).length : Int) > 30) = false := decide_eq_false (by omega)
      refine wpT_seq_reg (fun K hK => ?_)
      refine opsL_cons rfl (fun K1 hK1 => ?_)
      simp only [execOp, uponT, resolve, Deferred.ofValue, invoke, builtin, asBool, Instr.makeFunc, Instr.extract, sx, Act.put, Act.eval, nrm]
      refine hK1 _ _ _ ?_; clear hK1 K1
      refine opsL_cons rfl (fun K1 hK1 => ?_)
      simp only [execOp, uponT, resolve, Deferred.ofValue, invoke, builtin, asBool, Instr.makeFunc, Instr.extract, sx, Act.put, Act.eval, nrm]
      refine hK1 _ _ _ ?_; clear hK1 K1
      refine opsL_cons rfl (fun K1 hK1 => ?_)
      simp only [execOp, uponT, resolve, Deferred.ofValue, invoke, builtin, asBool, Instr.makeFunc, Instr.extract, sx, Act.put, Act.eval, nrm, semS_indexAt Tryd.underlying22 info23 _ _ _ _ _ him, size23, Nat.mul_one]
      refine hK1 _ _ _ ?_; clear hK1 K1
      refine opsL_cons rfl (fun K1 hK1 => ?_)
      simp only [execOp, uponT, resolve, Deferred.ofValue, invoke, builtin, asBool, Instr.makeFunc, Instr.extract, sx, Act.put, Act.eval, nrm, semS_loadAt one23 hcell]
      refine hK1 _ _ _ ?_; clear hK1 K1
      refine opsL_cons rfl (fun K1 hK1 => ?_)
      simp only [execOp, uponT, resolve, Deferred.ofValue, invoke, builtin, asBool, Instr.makeFunc, Instr.extract, sx, Act.put, Act.eval, nrm]
      refine hK1 _ _ _ ?_; clear hK1 K1
      refine opsL_cons rfl (fun K1 hK1 => ?_)
      simp only [execOp, uponT, resolve, Deferred.ofValue, invoke, builtin, asBool, Instr.makeFunc, Instr.extract, sx, Act.put, Act.eval, nrm, c2]
      refine hK1 _ _ _ ?_; clear hK1 K1
      refine opsL_nil (hK _ _ _ ?_); clear hK K
      refine wpT_cond (t := false) rfl ?_
      simp only [if_true, if_false, Bool.false_eq_true, reduceIte]
      refine wpT_skip ?_
      simp only [thenT, inBlockT]
      refine wpT_reg (fun K hK => ?_)
      refine opsL_cons rfl (fun K1 hK1 => ?_)
      simp only [execOp, uponT, resolve, Deferred.ofValue, invoke, builtin, asBool, Instr.makeFunc, Instr.extract, sx, Act.put, Act.eval, nrm]
      refine hK1 _ _ _ ?_; clear hK1 K1
      refine opsL_cons rfl (fun K1 hK1 => ?_)
      simp only [execOp, uponT, resolve, Deferred.ofValue, invoke, builtin, asBool, Instr.makeFunc, Instr.extract, sx, Act.put, Act.eval, nrm, m1]
      refine hK1 _ _ _ ?_; clear hK1 K1
      refine opsL_cons rfl (fun K1 hK1 => ?_)
      simp only [execOp, uponT, resolve, Deferred.ofValue, invoke, builtin, asBool, Instr.makeFunc, Instr.extract, sx, Act.put, Act.eval, nrm]
      refine hK1 _ _ _ ?_; clear hK1 K1
      refine opsL_nil (hK _ _ _ ?_); clear hK K
      simp only [thenT, inBlockT, loopQ, reduceIte, Nat.reduceEqDiff]
      refine hAgain _ _ _ ⟨rfl, rfl, i + 1, him, fun k hk => ?_, by rw [← e]; exact slots rfl⟩ ?_
      · rcases Nat.lt_or_ge k i with h | h
        · exact hlen k h
        · obtain rfl : k = i := by omega
          omega
      · simp only [slotNat, Array.getD_eq_getD_getElem?, List.getElem?_toArray, List.getElem?_cons_succ, List.getElem?_cons_zero, Option.getD_some, Int.toNat_natCast]; omega
  ·
    have d1 : decide ((i : Int) < (tss.length : Int)) = false := decide_eq_false (by omega)
    obtain rfl : i = tss.length := by omega
    refine wpT_seq ?_
    refine wpT_seq_reg (fun K hK => ?_)
    refine opsL_cons rfl (fun K1 hK1 => ?_)
    simp only [execOp, uponT, resolve, Deferred.ofValue, invoke, builtin, asBool, Instr.makeFunc, Instr.extract, sx, Act.put, Act.eval, nrm]
    refine hK1 _ _ _ ?_; clear hK1 K1
    refine opsL_cons rfl (fun K1 hK1 => ?_)
    simp only [execOp, uponT, resolve, Deferred.ofValue, invoke, builtin, asBool, Instr.makeFunc, Instr.extract, sx, Act.put, Act.eval, nrm]
    refine hK1 _ _ _ ?_; clear hK1 K1
    refine opsL_cons rfl (fun K1 hK1 => ?_)
    simp only [execOp, uponT, resolve, Deferred.ofValue, invoke, builtin, asBool, Instr.makeFunc, Instr.extract, sx, Act.put, Act.eval, nrm]
    refine hK1 _ _ _ ?_; clear hK1 K1
    refine opsL_cons rfl (fun K1 hK1 => ?_)
    simp only [execOp, uponT, resolve, Deferred.ofValue, invoke, builtin, asBool, Instr.makeFunc, Instr.extract, sx, Act.put, Act.eval, nrm, d1]
    refine hK1 _ _ _ ?_; clear hK1 K1
    refine opsL_nil (hK _ _ _ ?_); clear hK K
    refine wpT_cond (t := false) rfl ?_
    simp only [if_true, if_false, Bool.false_eq_true, reduceIte]
    refine wpT_exit ?_
    simp only [thenT, inBlockT, loopQ, reduceIte, Nat.reduceEqDiff]
    refine hOut _ _ _ ?_
    simp only [thenT]
    clear hOut hAgain d1 him hi
    have hpk : IntKind.u64.wrap 16 ≠ 0 := by decide
    obtain ⟨n1, a1, b1, w1⟩ := pick_succ wk
    obtain ⟨n2, a2, b2, w2⟩ := pick_succ ot
    refine wpT_seq_reg (fun K hK => ?_)
    refine opsL_cons rfl (fun K1 hK1 => ?_)
    simp only [execOp, uponT, resolve, Deferred.ofValue, invoke, builtin, asBool, Instr.makeFunc, Instr.extract, sx, Act.put, Act.eval, nrm]
    refine hK1 _ _ _ ?_; clear hK1 K1
    refine opsL_cons rfl (fun K1 hK1 => ?_)
    simp only [execOp, uponT, resolve, Deferred.ofValue, invoke, builtin, asBool, Instr.makeFunc, Instr.extract, sx, Act.put, Act.eval, nrm, List.extract_toArray, List.extract_eq_take_drop, List.drop_succ_cons, List.drop_zero, List.take_succ_cons, List.take_zero, List.size_toArray, List.length_cons, List.length_nil, Nat.reduceAdd, Nat.reduceSub, call4]
    refine (pick_calls (company Tryd.prog LawQ) true _ _ wk 16 hpk).mono ?_
    rintro _ Hq γ3 ⟨rfl, rfl, hHq⟩
    rw [hHq]
    clear hHq Hq
    refine hK1 _ _ _ ?_; clear hK1 K1
    refine opsL_cons rfl (fun K1 hK1 => ?_)
    simp only [execOp, uponT, resolve, Deferred.ofValue, invoke, builtin, asBool, Instr.makeFunc, Instr.extract, sx, Act.put, Act.eval, nrm, w1]
    refine hK1 _ _ _ ?_; clear hK1 K1
    refine opsL_cons rfl (fun K1 hK1 => ?_)
    simp only [execOp, uponT, resolve, Deferred.ofValue, invoke, builtin, asBool, Instr.makeFunc, Instr.extract, sx, Act.put, Act.eval, nrm]
    refine hK1 _ _ _ ?_; clear hK1 K1
    refine opsL_cons rfl (fun K1 hK1 => ?_)
    simp only [execOp, uponT, resolve, Deferred.ofValue, invoke, builtin, asBool, Instr.makeFunc, Instr.extract, sx, Act.put, Act.eval, nrm, List.extract_toArray, List.extract_eq_take_drop, List.drop_succ_cons, List.drop_zero, List.take_succ_cons, List.take_zero, List.size_toArray, List.length_cons, List.length_nil, Nat.reduceAdd, Nat.reduceSub, call4]
    refine (pick_calls (company Tryd.prog LawQ) true _ _ ot 16 hpk).mono ?_
    rintro _ Hq γ3 ⟨rfl, rfl, hHq⟩
    rw [hHq]
    clear hHq Hq
    refine hK1 _ _ _ ?_; clear hK1 K1
    refine opsL_cons rfl (fun K1 hK1 => ?_)
    simp only [execOp, uponT, resolve, Deferred.ofValue, invoke, builtin, asBool, Instr.makeFunc, Instr.extract, sx, Act.put, Act.eval, nrm, w2]
    refine hK1 _ _ _ ?_; clear hK1 K1
    refine opsL_cons rfl (fun K1 hK1 => ?_)
    simp only [execOp, uponT, resolve, Deferred.ofValue, invoke, builtin, asBool, Instr.makeFunc, Instr.extract, sx, Act.put, Act.eval, nrm]
    refine hK1 _ _ _ ?_; clear hK1 K1
    refine opsL_cons rfl (fun K1 hK1 => ?_)
    simp only [execOp, uponT, resolve, Deferred.ofValue, invoke, builtin, asBool, Instr.makeFunc, Instr.extract, sx, Act.put, Act.eval, nrm]
    refine hK1 _ _ _ ?_; clear hK1 K1
    refine opsL_nil (hK _ _ _ ?_); clear hK K
    refine wpT_seq_reg (fun K hK => ?_)
    refine opsL_cons rfl (fun K1 hK1 => ?_)
    simp only [execOp, uponT, resolve, Deferred.ofValue, invoke, builtin, asBool, Instr.makeFunc, Instr.extract, sx, Act.put, Act.eval, nrm]
    refine hK1 _ _ _ ?_; clear hK1 K1
    refine opsL_cons rfl (fun K1 hK1 => ?_)
    simp only [execOp, uponT, resolve, Deferred.ofValue, invoke, builtin, asBool, Instr.makeFunc, Instr.extract, sx, Act.put, Act.eval, nrm]
    refine hK1 _ _ _ ?_; clear hK1 K1
    refine opsL_cons rfl (fun K1 hK1 => ?_)
    simp only [execOp, uponT, resolve, Deferred.ofValue, invoke, builtin, asBool, Instr.makeFunc, Instr.extract, sx, Act.put, Act.eval, nrm]
    refine hK1 _ _ _ ?_; clear hK1 K1
    refine opsL_cons rfl (fun K1 hK1 => ?_)
    simp only [execOp, uponT, resolve, Deferred.ofValue, invoke, builtin, asBool, Instr.makeFunc, Instr.extract, sx, Act.put, Act.eval, nrm, List.extract_toArray, List.extract_eq_take_drop, List.drop_succ_cons, List.drop_zero, List.take_succ_cons, List.take_zero, List.size_toArray, List.length_cons, List.length_nil, Nat.reduceAdd, Nat.reduceSub, call5]
    refine (many_calls hap hd (by omega) hts ag a1 b1).mono ?_
    rintro _ H1 _ ⟨rfl, x1, hp1⟩
    rcases hp1 with ⟨k, e, hk, he, hfirst, rfl⟩ | ⟨hno, OB1, cs1, z1, o1, rfl, rows1⟩
    ·
      refine hK1 _ _ _ ?_; clear hK1 K1
      refine opsL_cons rfl (fun K1 hK1 => ?_)
      simp only [execOp, uponT, resolve, Deferred.ofValue, invoke, builtin, asBool, Instr.makeFunc, Instr.extract, sx, Act.put, Act.eval, nrm]
      refine hK1 _ _ _ ?_; clear hK1 K1
      refine opsL_cons rfl (fun K1 hK1 => ?_)
      simp only [execOp, uponT, resolve, Deferred.ofValue, invoke, builtin, asBool, Instr.makeFunc, Instr.extract, sx, Act.put, Act.eval, nrm]
      refine hK1 _ _ _ ?_; clear hK1 K1
      refine opsL_cons rfl (fun K1 hK1 => ?_)
      simp only [execOp, uponT, resolve, Deferred.ofValue, invoke, builtin, asBool, Instr.makeFunc, Instr.extract, sx, Act.put, Act.eval, nrm]
      refine hK1 _ _ _ ?_; clear hK1 K1
      refine opsL_cons rfl (fun K1 hK1 => ?_)
      simp only [execOp, uponT, resolve, Deferred.ofValue, invoke, builtin, asBool, Instr.makeFunc, Instr.extract, sx, Act.put, Act.eval, nrm]
      refine hK1 _ _ _ ?_; clear hK1 K1
      refine opsL_cons rfl (fun K1 hK1 => ?_)
      simp only [execOp, uponT, resolve, Deferred.ofValue, invoke, builtin, asBool, Instr.makeFunc, Instr.extract, sx, Act.put, Act.eval, nrm]
      refine hK1 _ _ _ ?_; clear hK1 K1
      refine opsL_nil (hK _ _ _ ?_); clear hK K
      refine wpT_seq_reg (fun K hK => ?_)
      refine opsL_cons rfl (fun K1 hK1 => ?_)
      simp only [execOp, uponT, resolve, Deferred.ofValue, invoke, builtin, asBool, Instr.makeFunc, Instr.extract, sx, Act.put, Act.eval, nrm]
      refine hK1 _ _ _ ?_; clear hK1 K1
      refine opsL_cons rfl (fun K1 hK1 => ?_)
      simp only [execOp, uponT, resolve, Deferred.ofValue, invoke, builtin, asBool, Instr.makeFunc, Instr.extract, sx, Act.put, Act.eval, nrm]
      refine hK1 _ _ _ ?_; clear hK1 K1
      refine opsL_cons rfl (fun K1 hK1 => ?_)
      simp only [execOp, uponT, resolve, Deferred.ofValue, invoke, builtin, asBool, Instr.makeFunc, Instr.extract, sx, Act.put, Act.eval, nrm]
      refine hK1 _ _ _ ?_; clear hK1 K1
      refine opsL_cons rfl (fun K1 hK1 => ?_)
      simp only [execOp, uponT, resolve, Deferred.ofValue, invoke, builtin, asBool, Instr.makeFunc, Instr.extract, sx, Act.put, Act.eval, nrm, List.extract_toArray, List.extract_eq_take_drop, List.drop_succ_cons, List.drop_zero, List.take_succ_cons, List.take_zero, List.size_toArray, List.length_cons, List.length_nil, Nat.reduceAdd, Nat.reduceSub, call5]
      refine (many_calls x1.ap (x1.d.trans hd) (by omega) (hts.mono x1.ro) ag a2 b2).mono ?_
      rintro _ H2 _ ⟨rfl, x2, hp2⟩
      rcases hp2 with ⟨k', e', hk', he', hfirst', rfl⟩ | ⟨hno, _⟩
      rotate_left
      · rw [hno k hk] at he; cases he
      obtain rfl : k' = k := by
        rcases Nat.lt_trichotomy k k' with h | h | h
        · rw [hfirst' k h] at he; cases he
        · exact h.symm
        · rw [hfirst k' h] at he'; cases he'
      obtain rfl : e = e' := by rw [he] at he'; cases he'; rfl
      clear hfirst' hk' he' 
      refine hK1 _ _ _ ?_; clear hK1 K1
      refine opsL_cons rfl (fun K1 hK1 => ?_)
      simp only [execOp, uponT, resolve, Deferred.ofValue, invoke, builtin, asBool, Instr.makeFunc, Instr.extract, sx, Act.put, Act.eval, nrm]
      refine hK1 _ _ _ ?_; clear hK1 K1
      refine opsL_cons rfl (fun K1 hK1 => ?_)
      simp only [execOp, uponT, resolve, Deferred.ofValue, invoke, builtin, asBool, Instr.makeFunc, Instr.extract, sx, Act.put, Act.eval, nrm]
      refine hK1 _ _ _ ?_; clear hK1 K1
      refine opsL_cons rfl (fun K1 hK1 => ?_)
      simp only [execOp, uponT, resolve, Deferred.ofValue, invoke, builtin, asBool, Instr.makeFunc, Instr.extract, sx, Act.put, Act.eval, nrm]
      refine hK1 _ _ _ ?_; clear hK1 K1
      refine opsL_cons rfl (fun K1 hK1 => ?_)
      simp only [execOp, uponT, resolve, Deferred.ofValue, invoke, builtin, asBool, Instr.makeFunc, Instr.extract, sx, Act.put, Act.eval, nrm]
      refine hK1 _ _ _ ?_; clear hK1 K1
      refine opsL_cons rfl (fun K1 hK1 => ?_)
      simp only [execOp, uponT, resolve, Deferred.ofValue, invoke, builtin, asBool, Instr.makeFunc, Instr.extract, sx, Act.put, Act.eval, nrm]
      refine hK1 _ _ _ ?_; clear hK1 K1
      refine opsL_nil (hK _ _ _ ?_); clear hK K
      have x := x1.trans x2
      clear x1 x2 H1
      have hgx := ext_cell x hg
      refine wpT_seq ?_
      refine wpT_seq_reg (fun K hK => ?_)
      refine opsL_cons rfl (fun K1 hK1 => ?_)
      simp only [execOp, uponT, resolve, Deferred.ofValue, invoke, builtin, asBool, Instr.makeFunc, Instr.extract, sx, Act.put, Act.eval, nrm, List.extract_toArray, List.extract_eq_take_drop, List.drop_succ_cons, List.drop_zero, List.take_succ_cons, List.take_zero, List.size_toArray, List.length_cons, List.length_nil, Nat.reduceAdd, Nat.reduceSub, call6]
      refine (called_calls (company Tryd.prog LawQ) (company_pub _ _) true H2 _).mono ?_
      rintro _ Hq γ3 ⟨rfl, rfl, hHq⟩
      rw [hHq]
      clear hHq Hq
      refine hK1 _ _ _ ?_; clear hK1 K1
      refine opsL_cons rfl (fun K1 hK1 => ?_)
      simp only [execOp, uponT, resolve, Deferred.ofValue, invoke, builtin, asBool, Instr.makeFunc, Instr.extract, sx, Act.put, Act.eval, nrm, Bool.not_true]
      refine hK1 _ _ _ ?_; clear hK1 K1
      refine opsL_cons rfl (fun K1 hK1 => ?_)
      simp only [execOp, uponT, resolve, Deferred.ofValue, invoke, builtin, asBool, Instr.makeFunc, Instr.extract, sx, Act.put, Act.eval, nrm]
      refine hK1 _ _ _ ?_; clear hK1 K1
      refine opsL_cons rfl (fun K1 hK1 => ?_)
      simp only [execOp, uponT, resolve, Deferred.ofValue, invoke, builtin, asBool, Instr.makeFunc, Instr.extract, sx, Act.put, Act.eval, nrm]
      refine hK1 _ _ _ ?_; clear hK1 K1
      refine opsL_cons rfl (fun K1 hK1 => ?_)
      simp only [execOp, uponT, resolve, Deferred.ofValue, invoke, builtin, asBool, Instr.makeFunc, Instr.extract, sx, Act.put, Act.eval, nrm, List.extract_toArray, List.extract_eq_take_drop, List.drop_succ_cons, List.drop_zero, List.take_succ_cons, List.take_zero, List.size_toArray, List.length_cons, List.length_nil, Nat.reduceAdd, Nat.reduceSub, call7]
      refine (tell_err (company Tryd.prog LawQ) true hgx).mono ?_
      rintro _ Hq γ3 ⟨rfl, rfl, hHq⟩
      rw [hHq]
      clear hHq Hq
      refine hK1 _ _ _ ?_; clear hK1 K1
      refine opsL_cons rfl (fun K1 hK1 => ?_)
      simp only [execOp, uponT, resolve, Deferred.ofValue, invoke, builtin, asBool, Instr.makeFunc, Instr.extract, sx, Act.put, Act.eval, nrm]
      refine hK1 _ _ _ ?_; clear hK1 K1
      refine opsL_cons rfl (fun K1 hK1 => ?_)
      simp only [execOp, uponT, resolve, Deferred.ofValue, invoke, builtin, asBool, Instr.makeFunc, Instr.extract, sx, Act.put, Act.eval, nrm, List.extract_toArray, List.extract_eq_take_drop, List.drop_succ_cons, List.drop_zero, List.take_succ_cons, List.take_zero, List.size_toArray, List.length_cons, List.length_nil, Nat.reduceAdd, Nat.reduceSub, call7]
      refine (tell_err (company Tryd.prog LawQ) true hgx).mono ?_
      rintro _ Hq γ3 ⟨rfl, rfl, hHq⟩
      rw [hHq]
      clear hHq Hq
      refine hK1 _ _ _ ?_; clear hK1 K1
      refine opsL_cons rfl (fun K1 hK1 => ?_)
      simp only [execOp, uponT, resolve, Deferred.ofValue, invoke, builtin, asBool, Instr.makeFunc, Instr.extract, sx, Act.put, Act.eval, nrm, cmpI]
      refine hK1 _ _ _ ?_; clear hK1 K1
      refine opsL_cons rfl (fun K1 hK1 => ?_)
      simp only [execOp, uponT, resolve, Deferred.ofValue, invoke, builtin, asBool, Instr.makeFunc, Instr.extract, sx, Act.put, Act.eval, nrm, Bool.false_eq_true, if_false]
      refine hK1 _ _ _ ?_; clear hK1 K1
      refine opsL_cons rfl (fun K1 hK1 => ?_)
      simp only [execOp, uponT, resolve, Deferred.ofValue, invoke, builtin, asBool, Instr.makeFunc, Instr.extract, sx, Act.put, Act.eval, nrm]
      refine hK1 _ _ _ ?_; clear hK1 K1
      refine opsL_cons rfl (fun K1 hK1 => ?_)
      simp only [execOp, uponT, resolve, Deferred.ofValue, invoke, builtin, asBool, Instr.makeFunc, Instr.extract, sx, Act.put, Act.eval, nrm]
      refine hK1 _ _ _ ?_; clear hK1 K1
      refine opsL_cons rfl (fun K1 hK1 => ?_)
      simp only [execOp, uponT, resolve, Deferred.ofValue, invoke, builtin, asBool, Instr.makeFunc, Instr.extract, sx, Act.put, Act.eval, nrm]
      refine hK1 _ _ _ ?_; clear hK1 K1
      refine opsL_cons rfl (fun K1 hK1 => ?_)
      simp only [execOp, uponT, resolve, Deferred.ofValue, invoke, builtin, asBool, Instr.makeFunc, Instr.extract, sx, Act.put, Act.eval, nrm]
      refine hK1 _ _ _ ?_; clear hK1 K1
      refine opsL_cons rfl (fun K1 hK1 => ?_)
      simp only [execOp, uponT, resolve, Deferred.ofValue, invoke, builtin, asBool, Instr.makeFunc, Instr.extract, sx, Act.put, Act.eval, nrm]
      refine hK1 _ _ _ ?_; clear hK1 K1
      refine opsL_cons rfl (fun K1 hK1 => ?_)
      simp only [execOp, uponT, resolve, Deferred.ofValue, invoke, builtin, asBool, Instr.makeFunc, Instr.extract, sx, Act.put, Act.eval, nrm, cmp22]
      refine hK1 _ _ _ ?_; clear hK1 K1
      refine opsL_cons rfl (fun K1 hK1 => ?_)
      simp only [execOp, uponT, resolve, Deferred.ofValue, invoke, builtin, asBool, Instr.makeFunc, Instr.extract, sx, Act.put, Act.eval, nrm, Bool.false_eq_true, if_false]
      refine hK1 _ _ _ ?_; clear hK1 K1
      refine opsL_nil (hK _ _ _ ?_); clear hK K
      refine wpT_cond (t := false) rfl ?_
      simp only [if_true, if_false, Bool.false_eq_true, reduceIte]
      refine wpT_skip ?_
      simp only [thenT]
      refine wpT_seq ?_
      refine wpT_seq_reg (fun K hK => ?_)
      refine opsL_cons rfl (fun K1 hK1 => ?_)
      simp only [execOp, uponT, resolve, Deferred.ofValue, invoke, builtin, asBool, Instr.makeFunc, Instr.extract, sx, Act.put, Act.eval, nrm]
      refine hK1 _ _ _ ?_; clear hK1 K1
      refine opsL_nil (hK _ _ _ ?_); clear hK K
      refine wpT_block_loop (fun a' Hc γc => Ext H₀ Hc ∧ γc = .lone ∧ ∃ i : Nat, i ≤ k' ∧ ∃ S : Nat → Value, a' = ⟨#[.slice a tss.length cap, .int .i64 ag, .int .i64 n1, .int .i64 n2, S 4, S 5, S 6, S 7, S 8, S 9, .slice none 0 0, .iface 31 (.int .i64 e), .slice none 0 0, .iface 31 (.int .i64 e), .int .i64 i, S 15, S 16, S 17, S 18, S 19, S 20, S 21, S 22, S 23, S 24, S 25, S 26, S 27, S 28, S 29, S 30, S 31, S 32, S 33, S 34, S 35, S 36, S 37, S 38, S 39, S 40, S 41, S 42, S 43, S 44, S 45, S 46, S 47, S 48, S 49, S 50, S 51, S 52, S 53, S 54, S 55, S 56, S 57, S 58, S 59, S 60, S 61, S 62, S 63, S 64, S 65, S 66, S 67, S 68, S 69, S 70, S 71, S 72, S 73, S 74, S 75, S 76, S 77, S 78, S 79, S 80, S 81, S 82, S 83, S 84, S 85, S 86, S 87, S 88, S 89, S 90, S 91, S 92, S 93, S 94, S 95, S 96, S 97, S 98, S 99, S 100, S 101, S 102, S 103, S 104, S 105, S 106, S 107, S 108, S 109, S 110, S 111, S 112, S 113, S 114, S 115, S 116, S 117, S 118, S 119, S 120, S 121, S 122, S 123, S 124, S 125, S 126, S 127, S 128, S 129, S 130, S 131, S 132, S 133, S 134, S 135, S 136, S 137, S 138, S 139, S 140, S 141, S 142, S 143, S 144, S 145, S 146, S 147, S 148, S 149, S 150, S 151, S 152, S 153, S 154, S 155, S 156, S 157, S 158, S 159, S 160, S 161, S 162], []⟩) (fun a' _ _ => tss.length - slotNat a' 14) ?_ ?_
      · exact ⟨x, rfl, 0, Nat.zero_le _, slots rfl⟩
      clear x hgx H2
      rintro _ Hc _ ⟨x, rfl, i, hi, S, rfl⟩ Again Out hAgain hOut
      have him : i < tss.length := by omega
      have d1 : decide ((i : Int) < (tss.length : Int)) = true := decide_eq_true (by omega)
      have m1 : IntKind.i64.wrap ((i : Int) + 1) = ((i + 1 : Nat) : Int) := wrap_succ _ (by omega)
      obtain ⟨B, off, aL, capL, ea, hcell, htap, hfar⟩ := tape_at x hts him
      rw [ea]
      have hgx := ext_cell x hg
      refine wpT_seq ?_
      refine wpT_seq_reg (fun K hK => ?_)
      refine opsL_cons rfl (fun K1 hK1 => ?_)
      simp only [execOp, uponT, resolve, Deferred.ofValue, invoke, builtin, asBool, Instr.makeFunc, Instr.extract, sx, Act.put, Act.eval, nrm]
      refine hK1 _ _ _ ?_; clear hK1 K1
      refine opsL_cons rfl (fun K1 hK1 => ?_)
      simp only [execOp, uponT, resolve, Deferred.ofValue, invoke, builtin, asBool, Instr.makeFunc, Instr.extract, sx, Act.put, Act.eval, nrm]
      refine hK1 _ _ _ ?_; clear hK1 K1
      refine opsL_cons rfl (fun K1 hK1 => ?_)
      simp only [execOp, uponT, resolve, Deferred.ofValue, invoke, builtin, asBool, Instr.makeFunc, Instr.extract, sx, Act.put, Act.eval, nrm]
      refine hK1 _ _ _ ?_; clear hK1 K1
      refine opsL_cons rfl (fun K1 hK1 => ?_)
      simp only [execOp, uponT, resolve, Deferred.ofValue, invoke, builtin, asBool, Instr.makeFunc, Instr.extract, sx, Act.put, Act.eval, nrm, d1]
      refine hK1 _ _ _ ?_; clear hK1 K1
      refine opsL_nil (hK _ _ _ ?_); clear hK K
      refine wpT_cond (t := true) rfl ?_
      simp only [if_true, if_false, Bool.false_eq_true, reduceIte]
      refine wpT_skip ?_
      simp only [thenT]
      refine wpT_seq ?_
      refine wpT_block ?_
      refine wpT_seq_reg (fun K hK => ?_)
      refine opsL_cons rfl (fun K1 hK1 => ?_)
      simp only [execOp, uponT, resolve, Deferred.ofValue, invoke, builtin, asBool, Instr.makeFunc, Instr.extract, sx, Act.put, Act.eval, nrm]
      refine hK1 _ _ _ ?_; clear hK1 K1
      refine opsL_cons rfl (fun K1 hK1 => ?_)
      simp only [execOp, uponT, resolve, Deferred.ofValue, invoke, builtin, asBool, Instr.makeFunc, Instr.extract, sx, Act.put, Act.eval, nrm]
      refine hK1 _ _ _ ?_; clear hK1 K1
      refine opsL_cons rfl (fun K1 hK1 => ?_)
      simp only [execOp, uponT, resolve, Deferred.ofValue, invoke, builtin, asBool, Instr.makeFunc, Instr.extract, sx, Act.put, Act.eval, nrm, semS_indexAt Tryd.underlying22 info23 _ _ _ _ _ him, size23, Nat.mul_one]
      refine hK1 _ _ _ ?_; clear hK1 K1
      refine opsL_cons rfl (fun K1 hK1 => ?_)
      simp only [execOp, uponT, resolve, Deferred.ofValue, invoke, builtin, asBool, Instr.makeFunc, Instr.extract, sx, Act.put, Act.eval, nrm, semS_loadAt one23 hcell]
      refine hK1 _ _ _ ?_; clear hK1 K1
      refine opsL_cons rfl (fun K1 hK1 => ?_)
      simp only [execOp, uponT, resolve, Deferred.ofValue, invoke, builtin, asBool, Instr.makeFunc, Instr.extract, sx, Act.put, Act.eval, nrm]
      refine hK1 _ _ _ ?_; clear hK1 K1
      refine opsL_cons rfl (fun K1 hK1 => ?_)
      simp only [execOp, uponT, resolve, Deferred.ofValue, invoke, builtin, asBool, Instr.makeFunc, Instr.extract, sx, Act.put, Act.eval, nrm, List.extract_toArray, List.extract_eq_take_drop, List.drop_succ_cons, List.drop_zero, List.take_succ_cons, List.take_zero, List.size_toArray, List.length_cons, List.length_nil, Nat.reduceAdd, Nat.reduceSub, call8]
      refine (play_calls (company Tryd.prog LawQ) true Hc _ htap hfar ag).mono ?_
      rintro v H3 _ ⟨rfl, hv⟩
      revert hv
      by_cases hik : i = k'
      · subst hik
        obtain ⟨e2, hR⟩ : ∃ e2, playR (tss.getD i []) ag = .inl e2 := by
          cases hR : playR (tss.getD i []) ag with
          | inl e2 => exact ⟨e2, rfl⟩
          | inr out => simp only [isE, hR] at he; cases he
        obtain rfl : e2 = e := by simp only [isE, hR] at he; cases he; rfl
        rw [hR]
        rintro ⟨rfl, hH3⟩
        rw [hH3]
        clear hH3
        refine hK1 _ _ _ ?_; clear hK1 K1
        refine opsL_cons rfl (fun K1 hK1 => ?_)
        simp only [execOp, uponT, resolve, Deferred.ofValue, invoke, builtin, asBool, Instr.makeFunc, Instr.extract, sx, Act.put, Act.eval, nrm]
        refine hK1 _ _ _ ?_; clear hK1 K1
        refine opsL_cons rfl (fun K1 hK1 => ?_)
        simp only [execOp, uponT, resolve, Deferred.ofValue, invoke, builtin, asBool, Instr.makeFunc, Instr.extract, sx, Act.put, Act.eval, nrm]
        refine hK1 _ _ _ ?_; clear hK1 K1
        refine opsL_cons rfl (fun K1 hK1 => ?_)
        simp only [execOp, uponT, resolve, Deferred.ofValue, invoke, builtin, asBool, Instr.makeFunc, Instr.extract, sx, Act.put, Act.eval, nrm]
        refine hK1 _ _ _ ?_; clear hK1 K1
        refine opsL_cons rfl (fun K1 hK1 => ?_)
        simp only [execOp, uponT, resolve, Deferred.ofValue, invoke, builtin, asBool, Instr.makeFunc, Instr.extract, sx, Act.put, Act.eval, nrm]
        refine hK1 _ _ _ ?_; clear hK1 K1
        refine opsL_cons rfl (fun K1 hK1 => ?_)
        simp only [execOp, uponT, resolve, Deferred.ofValue, invoke, builtin, asBool, Instr.makeFunc, Instr.extract, sx, Act.put, Act.eval, nrm]
        refine hK1 _ _ _ ?_; clear hK1 K1
        refine opsL_nil (hK _ _ _ ?_); clear hK K
        refine wpT_seq ?_
        refine wpT_seq_reg (fun K hK => ?_)
        refine opsL_cons rfl (fun K1 hK1 => ?_)
        simp only [execOp, uponT, resolve, Deferred.ofValue, invoke, builtin, asBool, Instr.makeFunc, Instr.extract, sx, Act.put, Act.eval, nrm]
        refine hK1 _ _ _ ?_; clear hK1 K1
        refine opsL_cons rfl (fun K1 hK1 => ?_)
        simp only [execOp, uponT, resolve, Deferred.ofValue, invoke, builtin, asBool, Instr.makeFunc, Instr.extract, sx, Act.put, Act.eval, nrm, semS_eqGuardNil _ _ _ _ (.inr ⟨_, _, rfl⟩), semS_neqNil if27 _ (.inr ⟨_, _, rfl⟩)]
        refine hK1 _ _ _ ?_; clear hK1 K1
        refine opsL_nil (hK _ _ _ ?_); clear hK K
        refine wpT_cond (t := true) rfl ?_
        simp only [if_true, if_false, Bool.false_eq_true, reduceIte]
        refine wpT_seq_reg (fun K hK => ?_)
        refine opsL_cons rfl (fun K1 hK1 => ?_)
        simp only [execOp, uponT, resolve, Deferred.ofValue, invoke, builtin, asBool, Instr.makeFunc, Instr.extract, sx, Act.put, Act.eval, nrm]
        refine hK1 _ _ _ ?_; clear hK1 K1
        refine opsL_cons rfl (fun K1 hK1 => ?_)
        simp only [execOp, uponT, resolve, Deferred.ofValue, invoke, builtin, asBool, Instr.makeFunc, Instr.extract, sx, Act.put, Act.eval, nrm, List.extract_toArray, List.extract_eq_take_drop, List.drop_succ_cons, List.drop_zero, List.take_succ_cons, List.take_zero, List.size_toArray, List.length_cons, List.length_nil, Nat.reduceAdd, Nat.reduceSub, call7]
        refine (tell_err (company Tryd.prog LawQ) true hgx).mono ?_
        rintro _ Hq γ3 ⟨rfl, rfl, hHq⟩
        rw [hHq]
        clear hHq Hq
        refine hK1 _ _ _ ?_; clear hK1 K1
        refine opsL_cons rfl (fun K1 hK1 => ?_)
        simp only [execOp, uponT, resolve, Deferred.ofValue, invoke, builtin, asBool, Instr.makeFunc, Instr.extract, sx, Act.put, Act.eval, nrm]
        refine hK1 _ _ _ ?_; clear hK1 K1
        refine opsL_cons rfl (fun K1 hK1 => ?_)
        simp only [execOp, uponT, resolve, Deferred.ofValue, invoke, builtin, asBool, Instr.makeFunc, Instr.extract, sx, Act.put, Act.eval, nrm, List.extract_toArray, List.extract_eq_take_drop, List.drop_succ_cons, List.drop_zero, List.take_succ_cons, List.take_zero, List.size_toArray, List.length_cons, List.length_nil, Nat.reduceAdd, Nat.reduceSub, call7]
        refine (tell_err (company Tryd.prog LawQ) true hgx).mono ?_
        rintro _ Hq γ3 ⟨rfl, rfl, hHq⟩
        rw [hHq]
        clear hHq Hq
        refine hK1 _ _ _ ?_; clear hK1 K1
        refine opsL_cons rfl (fun K1 hK1 => ?_)
        simp only [execOp, uponT, resolve, Deferred.ofValue, invoke, builtin, asBool, Instr.makeFunc, Instr.extract, sx, Act.put, Act.eval, nrm, cmpE]
        refine hK1 _ _ _ ?_; clear hK1 K1
        refine opsL_cons rfl (fun K1 hK1 => ?_)
        simp only [execOp, uponT, resolve, Deferred.ofValue, invoke, builtin, asBool, Instr.makeFunc, Instr.extract, sx, Act.put, Act.eval, nrm]
        refine hK1 _ _ _ ?_; clear hK1 K1
        refine opsL_cons rfl (fun K1 hK1 => ?_)
        simp only [execOp, uponT, resolve, Deferred.ofValue, invoke, builtin, asBool, Instr.makeFunc, Instr.extract, sx, Act.put, Act.eval, nrm]
        refine hK1 _ _ _ ?_; clear hK1 K1
        refine opsL_cons rfl (fun K1 hK1 => ?_)
        simp only [execOp, uponT, resolve, Deferred.ofValue, invoke, builtin, asBool, Instr.makeFunc, Instr.extract, sx, Act.put, Act.eval, nrm]
        refine hK1 _ _ _ ?_; clear hK1 K1
        refine opsL_cons rfl (fun K1 hK1 => ?_)
        simp only [execOp, uponT, resolve, Deferred.ofValue, invoke, builtin, asBool, Instr.makeFunc, Instr.extract, sx, Act.put, Act.eval, nrm, (rfl : (((0 : Nat) : Int) == 0) = true)]
        refine hK1 _ _ _ ?_; clear hK1 K1
        refine opsL_cons rfl (fun K1 hK1 => ?_)
        simp only [execOp, uponT, resolve, Deferred.ofValue, invoke, builtin, asBool, Instr.makeFunc, Instr.extract, sx, Act.put, Act.eval, nrm, if_true]
        refine hK1 _ _ _ ?_; clear hK1 K1
        refine opsL_cons rfl (fun K1 hK1 => ?_)
        simp only [execOp, uponT, resolve, Deferred.ofValue, invoke, builtin, asBool, Instr.makeFunc, Instr.extract, sx, Act.put, Act.eval, nrm]
        refine hK1 _ _ _ ?_; clear hK1 K1
        refine opsL_nil (hK _ _ _ ?_); clear hK K
        refine wpT_ret (hret _ _ _ (bodyPost_ret1 rfl ?_))
        exact ⟨rfl, rfl⟩
      · obtain ⟨out, hR⟩ : ∃ out, playR (tss.getD i []) ag = .inr out := by
          cases hR : playR (tss.getD i []) ag with
          | inl e2 => have := hfirst i (by omega); simp only [isE, hR] at this; cases this
          | inr out => exact ⟨out, rfl⟩
        rw [hR]
        rintro ⟨BF, bs, hN, rfl, hH3, hF, _⟩
        have x3 := x.new hN.1 hN.2 (.cells bs 37 (0, 0))
        rw [← hH3] at x3
        clear hH3
        refine hK1 _ _ _ ?_; clear hK1 K1
        refine opsL_cons rfl (fun K1 hK1 => ?_)
        simp only [execOp, uponT, resolve, Deferred.ofValue, invoke, builtin, asBool, Instr.makeFunc, Instr.extract, sx, Act.put, Act.eval, nrm]
        refine hK1 _ _ _ ?_; clear hK1 K1
        refine opsL_cons rfl (fun K1 hK1 => ?_)
        simp only [execOp, uponT, resolve, Deferred.ofValue, invoke, builtin, asBool, Instr.makeFunc, Instr.extract, sx, Act.put, Act.eval, nrm]
        refine hK1 _ _ _ ?_; clear hK1 K1
        refine opsL_cons rfl (fun K1 hK1 => ?_)
        simp only [execOp, uponT, resolve, Deferred.ofValue, invoke, builtin, asBool, Instr.makeFunc, Instr.extract, sx, Act.put, Act.eval, nrm]
        refine hK1 _ _ _ ?_; clear hK1 K1
        refine opsL_cons rfl (fun K1 hK1 => ?_)
        simp only [execOp, uponT, resolve, Deferred.ofValue, invoke, builtin, asBool, Instr.makeFunc, Instr.extract, sx, Act.put, Act.eval, nrm]
        refine hK1 _ _ _ ?_; clear hK1 K1
        refine opsL_cons rfl (fun K1 hK1 => ?_)
        simp only [execOp, uponT, resolve, Deferred.ofValue, invoke, builtin, asBool, Instr.makeFunc, Instr.extract, sx, Act.put, Act.eval, nrm]
        refine hK1 _ _ _ ?_; clear hK1 K1
        refine opsL_nil (hK _ _ _ ?_); clear hK K
        refine wpT_seq ?_
        refine wpT_seq_reg (fun K hK => ?_)
        refine opsL_cons rfl (fun K1 hK1 => ?_)
        simp only [execOp, uponT, resolve, Deferred.ofValue, invoke, builtin, asBool, Instr.makeFunc, Instr.extract, sx, Act.put, Act.eval, nrm]
        refine hK1 _ _ _ ?_; clear hK1 K1
        refine opsL_cons rfl (fun K1 hK1 => ?_)
        simp only [execOp, uponT, resolve, Deferred.ofValue, invoke, builtin, asBool, Instr.makeFunc, Instr.extract, sx, Act.put, Act.eval, nrm, semS_eqGuardNil _ _ _ _ (.inl rfl), semS_neqNil if27 _ (.inl rfl)]
        refine hK1 _ _ _ ?_; clear hK1 K1
        refine opsL_nil (hK _ _ _ ?_); clear hK K
        refine wpT_cond (t := false) rfl ?_
        simp only [if_true, if_false, Bool.false_eq_true, reduceIte]
        refine wpT_skip ?_
        simp only [thenT]
        refine wpT_seq ?_
        refine wpT_seq_reg (fun K hK => ?_)
        refine opsL_cons rfl (fun K1 hK1 => ?_)
        simp only [execOp, uponT, resolve, Deferred.ofValue, invoke, builtin, asBool, Instr.makeFunc, Instr.extract, sx, Act.put, Act.eval, nrm]
        refine hK1 _ _ _ ?_; clear hK1 K1
        refine opsL_cons rfl (fun K1 hK1 => ?_)
        simp only [execOp, uponT, resolve, Deferred.ofValue, invoke, builtin, asBool, Instr.makeFunc, Instr.extract, sx, Act.put, Act.eval, nrm, semS_eqGuardNil _ _ _ _ (.inr ⟨_, _, rfl⟩), semS_neqNil if27 _ (.inr ⟨_, _, rfl⟩)]
        refine hK1 _ _ _ ?_; clear hK1 K1
        refine opsL_nil (hK _ _ _ ?_); clear hK K
        refine wpT_cond (t := true) rfl ?_
        simp only [if_true, if_false, Bool.false_eq_true, reduceIte]
        refine wpT_exit ?_
        simp only [thenT, inBlockT, loopQ, reduceIte, Nat.reduceEqDiff]
        refine wpT_reg (fun K hK => ?_)
        refine opsL_cons rfl (fun K1 hK1 => ?_)
        simp only [execOp, uponT, resolve, Deferred.ofValue, invoke, builtin, asBool, Instr.makeFunc, Instr.extract, sx, Act.put, Act.eval, nrm]
        refine hK1 _ _ _ ?_; clear hK1 K1
        refine opsL_cons rfl (fun K1 hK1 => ?_)
        simp only [execOp, uponT, resolve, Deferred.ofValue, invoke, builtin, asBool, Instr.makeFunc, Instr.extract, sx, Act.put, Act.eval, nrm, m1]
        refine hK1 _ _ _ ?_; clear hK1 K1
        refine opsL_cons rfl (fun K1 hK1 => ?_)
        simp only [execOp, uponT, resolve, Deferred.ofValue, invoke, builtin, asBool, Instr.makeFunc, Instr.extract, sx, Act.put, Act.eval, nrm]
        refine hK1 _ _ _ ?_; clear hK1 K1
        refine opsL_nil (hK _ _ _ ?_); clear hK K
        simp only [thenT, inBlockT, loopQ, reduceIte, Nat.reduceEqDiff]
        refine hAgain _ _ _ ⟨x3, rfl, i + 1, by omega, by rw [← ea]; exact slots rfl⟩ ?_
        simp only [slotNat, Array.getD_eq_getD_getElem?, List.getElem?_toArray, List.getElem?_cons_succ, List.getElem?_cons_zero, Option.getD_some, Int.toNat_natCast]; omega
    ·
      refine hK1 _ _ _ ?_; clear hK1 K1
      refine opsL_cons rfl (fun K1 hK1 => ?_)
      simp only [execOp, uponT, resolve, Deferred.ofValue, invoke, builtin, asBool, Instr.makeFunc, Instr.extract, sx, Act.put, Act.eval, nrm]
      refine hK1 _ _ _ ?_; clear hK1 K1
      refine opsL_cons rfl (fun K1 hK1 => ?_)
      simp only [execOp, uponT, resolve, Deferred.ofValue, invoke, builtin, asBool, Instr.makeFunc, Instr.extract, sx, Act.put, Act.eval, nrm]
      refine hK1 _ _ _ ?_; clear hK1 K1
      refine opsL_cons rfl (fun K1 hK1 => ?_)
      simp only [execOp, uponT, resolve, Deferred.ofValue, invoke, builtin, asBool, Instr.makeFunc, Instr.extract, sx, Act.put, Act.eval, nrm]
      refine hK1 _ _ _ ?_; clear hK1 K1
      refine opsL_cons rfl (fun K1 hK1 => ?_)
      simp only [execOp, uponT, resolve, Deferred.ofValue, invoke, builtin, asBool, Instr.makeFunc, Instr.extract, sx, Act.put, Act.eval, nrm]
      refine hK1 _ _ _ ?_; clear hK1 K1
      refine opsL_cons rfl (fun K1 hK1 => ?_)
      simp only [execOp, uponT, resolve, Deferred.ofValue, invoke, builtin, asBool, Instr.makeFunc, Instr.extract, sx, Act.put, Act.eval, nrm]
      refine hK1 _ _ _ ?_; clear hK1 K1
      refine opsL_nil (hK _ _ _ ?_); clear hK K
      refine wpT_seq_reg (fun K hK => ?_)
      refine opsL_cons rfl (fun K1 hK1 => ?_)
      simp only [execOp, uponT, resolve, Deferred.ofValue, invoke, builtin, asBool, Instr.makeFunc, Instr.extract, sx, Act.put, Act.eval, nrm]
      refine hK1 _ _ _ ?_; clear hK1 K1
      refine opsL_cons rfl (fun K1 hK1 => ?_)
      simp only [execOp, uponT, resolve, Deferred.ofValue, invoke, builtin, asBool, Instr.makeFunc, Instr.extract, sx, Act.put, Act.eval, nrm]
      refine hK1 _ _ _ ?_; clear hK1 K1
      refine opsL_cons rfl (fun K1 hK1 => ?_)
      simp only [execOp, uponT, resolve, Deferred.ofValue, invoke, builtin, asBool, Instr.makeFunc, Instr.extract, sx, Act.put, Act.eval, nrm]
      refine hK1 _ _ _ ?_; clear hK1 K1
      refine opsL_cons rfl (fun K1 hK1 => ?_)
      simp only [execOp, uponT, resolve, Deferred.ofValue, invoke, builtin, asBool, Instr.makeFunc, Instr.extract, sx, Act.put, Act.eval, nrm, List.extract_toArray, List.extract_eq_take_drop, List.drop_succ_cons, List.drop_zero, List.take_succ_cons, List.take_zero, List.size_toArray, List.length_cons, List.length_nil, Nat.reduceAdd, Nat.reduceSub, call5]
      refine (many_calls x1.ap (x1.d.trans hd) (by omega) (hts.mono x1.ro) ag a2 b2).mono ?_
      rintro _ H2 _ ⟨rfl, x2, hp2⟩
      rcases hp2 with ⟨k', e', hk', he', _⟩ | ⟨_, OB2, cs2, z2, o2, rfl, rows2⟩
      · rw [hno k' hk'] at he'; cases he'
      refine hK1 _ _ _ ?_; clear hK1 K1
      refine opsL_cons rfl (fun K1 hK1 => ?_)
      simp only [execOp, uponT, resolve, Deferred.ofValue, invoke, builtin, asBool, Instr.makeFunc, Instr.extract, sx, Act.put, Act.eval, nrm]
      refine hK1 _ _ _ ?_; clear hK1 K1
      refine opsL_cons rfl (fun K1 hK1 => ?_)
      simp only [execOp, uponT, resolve, Deferred.ofValue, invoke, builtin, asBool, Instr.makeFunc, Instr.extract, sx, Act.put, Act.eval, nrm]
      refine hK1 _ _ _ ?_; clear hK1 K1
      refine opsL_cons rfl (fun K1 hK1 => ?_)
      simp only [execOp, uponT, resolve, Deferred.ofValue, invoke, builtin, asBool, Instr.makeFunc, Instr.extract, sx, Act.put, Act.eval, nrm]
      refine hK1 _ _ _ ?_; clear hK1 K1
      refine opsL_cons rfl (fun K1 hK1 => ?_)
      simp only [execOp, uponT, resolve, Deferred.ofValue, invoke, builtin, asBool, Instr.makeFunc, Instr.extract, sx, Act.put, Act.eval, nrm]
      refine hK1 _ _ _ ?_; clear hK1 K1
      refine opsL_cons rfl (fun K1 hK1 => ?_)
      simp only [execOp, uponT, resolve, Deferred.ofValue, invoke, builtin, asBool, Instr.makeFunc, Instr.extract, sx, Act.put, Act.eval, nrm]
      refine hK1 _ _ _ ?_; clear hK1 K1
      refine opsL_nil (hK _ _ _ ?_); clear hK K
      have x := x1.trans x2
      replace o1 := x2.own _ _ o1
      replace rows1 := fun k hk => (rows1 k hk).mono x2.ro
      clear x1 x2 z1 z2 H1
      refine wpT_seq ?_
      refine wpT_seq_reg (fun K hK => ?_)
      refine opsL_cons rfl (fun K1 hK1 => ?_)
      simp only [execOp, uponT, resolve, Deferred.ofValue, invoke, builtin, asBool, Instr.makeFunc, Instr.extract, sx, Act.put, Act.eval, nrm, List.extract_toArray, List.extract_eq_take_drop, List.drop_succ_cons, List.drop_zero, List.take_succ_cons, List.take_zero, List.size_toArray, List.length_cons, List.length_nil, Nat.reduceAdd, Nat.reduceSub, call6]
      refine (called_calls (company Tryd.prog LawQ) (company_pub _ _) true H2 _).mono ?_
      rintro _ Hq γ3 ⟨rfl, rfl, hHq⟩
      rw [hHq]
      clear hHq Hq
      refine hK1 _ _ _ ?_; clear hK1 K1
      refine opsL_cons rfl (fun K1 hK1 => ?_)
      simp only [execOp, uponT, resolve, Deferred.ofValue, invoke, builtin, asBool, Instr.makeFunc, Instr.extract, sx, Act.put, Act.eval, nrm, Bool.not_true]
      refine hK1 _ _ _ ?_; clear hK1 K1
      refine opsL_cons rfl (fun K1 hK1 => ?_)
      simp only [execOp, uponT, resolve, Deferred.ofValue, invoke, builtin, asBool, Instr.makeFunc, Instr.extract, sx, Act.put, Act.eval, nrm]
      refine hK1 _ _ _ ?_; clear hK1 K1
      refine opsL_cons rfl (fun K1 hK1 => ?_)
      simp only [execOp, uponT, resolve, Deferred.ofValue, invoke, builtin, asBool, Instr.makeFunc, Instr.extract, sx, Act.put, Act.eval, nrm]
      refine hK1 _ _ _ ?_; clear hK1 K1
      refine opsL_cons rfl (fun K1 hK1 => ?_)
      simp only [execOp, uponT, resolve, Deferred.ofValue, invoke, builtin, asBool, Instr.makeFunc, Instr.extract, sx, Act.put, Act.eval, nrm, List.extract_toArray, List.extract_eq_take_drop, List.drop_succ_cons, List.drop_zero, List.take_succ_cons, List.take_zero, List.size_toArray, List.length_cons, List.length_nil, Nat.reduceAdd, Nat.reduceSub, call7]
      refine (tell_nil (company Tryd.prog LawQ) true).mono ?_
      rintro _ Hq γ3 ⟨rfl, rfl, hHq⟩
      rw [hHq]
      clear hHq Hq
      refine hK1 _ _ _ ?_; clear hK1 K1
      refine opsL_cons rfl (fun K1 hK1 => ?_)
      simp only [execOp, uponT, resolve, Deferred.ofValue, invoke, builtin, asBool, Instr.makeFunc, Instr.extract, sx, Act.put, Act.eval, nrm]
      refine hK1 _ _ _ ?_; clear hK1 K1
      refine opsL_cons rfl (fun K1 hK1 => ?_)
      simp only [execOp, uponT, resolve, Deferred.ofValue, invoke, builtin, asBool, Instr.makeFunc, Instr.extract, sx, Act.put, Act.eval, nrm, List.extract_toArray, List.extract_eq_take_drop, List.drop_succ_cons, List.drop_zero, List.take_succ_cons, List.take_zero, List.size_toArray, List.length_cons, List.length_nil, Nat.reduceAdd, Nat.reduceSub, call7]
      refine (tell_nil (company Tryd.prog LawQ) true).mono ?_
      rintro _ Hq γ3 ⟨rfl, rfl, hHq⟩
      rw [hHq]
      clear hHq Hq
      refine hK1 _ _ _ ?_; clear hK1 K1
      refine opsL_cons rfl (fun K1 hK1 => ?_)
      simp only [execOp, uponT, resolve, Deferred.ofValue, invoke, builtin, asBool, Instr.makeFunc, Instr.extract, sx, Act.put, Act.eval, nrm, cmpI]
      refine hK1 _ _ _ ?_; clear hK1 K1
      refine opsL_cons rfl (fun K1 hK1 => ?_)
      simp only [execOp, uponT, resolve, Deferred.ofValue, invoke, builtin, asBool, Instr.makeFunc, Instr.extract, sx, Act.put, Act.eval, nrm, Bool.false_eq_true, if_false]
      refine hK1 _ _ _ ?_; clear hK1 K1
      refine opsL_cons rfl (fun K1 hK1 => ?_)
      simp only [execOp, uponT, resolve, Deferred.ofValue, invoke, builtin, asBool, Instr.makeFunc, Instr.extract, sx, Act.put, Act.eval, nrm]
      refine hK1 _ _ _ ?_; clear hK1 K1
      refine opsL_cons rfl (fun K1 hK1 => ?_)
      simp only [execOp, uponT, resolve, Deferred.ofValue, invoke, builtin, asBool, Instr.makeFunc, Instr.extract, sx, Act.put, Act.eval, nrm]
      refine hK1 _ _ _ ?_; clear hK1 K1
      refine opsL_cons rfl (fun K1 hK1 => ?_)
      simp only [execOp, uponT, resolve, Deferred.ofValue, invoke, builtin, asBool, Instr.makeFunc, Instr.extract, sx, Act.put, Act.eval, nrm]
      refine hK1 _ _ _ ?_; clear hK1 K1
      refine opsL_cons rfl (fun K1 hK1 => ?_)
      simp only [execOp, uponT, resolve, Deferred.ofValue, invoke, builtin, asBool, Instr.makeFunc, Instr.extract, sx, Act.put, Act.eval, nrm]
      refine hK1 _ _ _ ?_; clear hK1 K1
      refine opsL_cons rfl (fun K1 hK1 => ?_)
      simp only [execOp, uponT, resolve, Deferred.ofValue, invoke, builtin, asBool, Instr.makeFunc, Instr.extract, sx, Act.put, Act.eval, nrm]
      refine hK1 _ _ _ ?_; clear hK1 K1
      refine opsL_cons rfl (fun K1 hK1 => ?_)
      simp only [execOp, uponT, resolve, Deferred.ofValue, invoke, builtin, asBool, Instr.makeFunc, Instr.extract, sx, Act.put, Act.eval, nrm, cmp22]
      refine hK1 _ _ _ ?_; clear hK1 K1
      refine opsL_cons rfl (fun K1 hK1 => ?_)
      simp only [execOp, uponT, resolve, Deferred.ofValue, invoke, builtin, asBool, Instr.makeFunc, Instr.extract, sx, Act.put, Act.eval, nrm, Bool.false_eq_true, if_false]
      refine hK1 _ _ _ ?_; clear hK1 K1
      refine opsL_nil (hK _ _ _ ?_); clear hK K
      refine wpT_cond (t := false) rfl ?_
      simp only [if_true, if_false, Bool.false_eq_true, reduceIte]
      refine wpT_skip ?_
      simp only [thenT]
      refine wpT_seq ?_
      refine wpT_seq_reg (fun K hK => ?_)
      refine opsL_cons rfl (fun K1 hK1 => ?_)
      simp only [execOp, uponT, resolve, Deferred.ofValue, invoke, builtin, asBool, Instr.makeFunc, Instr.extract, sx, Act.put, Act.eval, nrm]
      refine hK1 _ _ _ ?_; clear hK1 K1
      refine opsL_nil (hK _ _ _ ?_); clear hK K
      refine wpT_block_loop (fun a' Hc γc => Ext H₀ Hc ∧ Ext H2 Hc ∧ γc = .lone ∧ ∃ i : Nat, i ≤ tss.length ∧ ∃ S : Nat → Value, a' = ⟨#[.slice a tss.length cap, .int .i64 ag, .int .i64 n1, .int .i64 n2, S 4, S 5, S 6, S 7, S 8, S 9, .slice (some ⟨OB1, 0, none⟩) tss.length tss.length, .nilIface, .slice (some ⟨OB2, 0, none⟩) tss.length tss.length, .nilIface, .int .i64 i, S 15, S 16, S 17, S 18, S 19, S 20, S 21, S 22, S 23, S 24, S 25, S 26, S 27, S 28, S 29, S 30, S 31, S 32, S 33, S 34, S 35, S 36, S 37, S 38, S 39, S 40, S 41, S 42, S 43, S 44, S 45, S 46, S 47, S 48, S 49, S 50, S 51, S 52, S 53, S 54, S 55, S 56, S 57, S 58, S 59, S 60, S 61, S 62, S 63, S 64, S 65, S 66, S 67, S 68, S 69, S 70, S 71, S 72, S 73, S 74, S 75, S 76, S 77, S 78, S 79, S 80, S 81, S 82, S 83, S 84, S 85, S 86, S 87, S 88, S 89, S 90, S 91, S 92, S 93, S 94, S 95, S 96, S 97, S 98, S 99, S 100, S 101, S 102, S 103, S 104, S 105, S 106, S 107, S 108, S 109, S 110, S 111, S 112, S 113, S 114, S 115, S 116, S 117, S 118, S 119, S 120, S 121, S 122, S 123, S 124, S 125, S 126, S 127, S 128, S 129, S 130, S 131, S 132, S 133, S 134, S 135, S 136, S 137, S 138, S 139, S 140, S 141, S 142, S 143, S 144, S 145, S 146, S 147, S 148, S 149, S 150, S 151, S 152, S 153, S 154, S 155, S 156, S 157, S 158, S 159, S 160, S 161, S 162], []⟩) (fun a' _ _ => tss.length - slotNat a' 14) ?_ ?_
      · exact ⟨x, Ext.refl x.ap, rfl, 0, Nat.zero_le _, slots rfl⟩
      clear x
      rintro _ Hc _ ⟨x, y, rfl, i, hi, S, rfl⟩ Again Out hAgain hOut
      by_cases him : i < tss.length
      ·
        have d1 : decide ((i : Int) < (tss.length : Int)) = true := decide_eq_true (by omega)
        have m1 : IntKind.i64.wrap ((i : Int) + 1) = ((i + 1 : Nat) : Int) := wrap_succ _ (by omega)
        obtain ⟨B, off, aL, capL, ea, hcell, htap, hfar⟩ := tape_at x hts him
        rw [ea]
        refine wpT_seq ?_
        refine wpT_seq_reg (fun K hK => ?_)
        refine opsL_cons rfl (fun K1 hK1 => ?_)
        simp only [execOp, uponT, resolve, Deferred.ofValue, invoke, builtin, asBool, Instr.makeFunc, Instr.extract, sx, Act.put, Act.eval, nrm]
        refine hK1 _ _ _ ?_; clear hK1 K1
        refine opsL_cons rfl (fun K1 hK1 => ?_)
        simp only [execOp, uponT, resolve, Deferred.ofValue, invoke, builtin, asBool, Instr.makeFunc, Instr.extract, sx, Act.put, Act.eval, nrm]
        refine hK1 _ _ _ ?_; clear hK1 K1
        refine opsL_cons rfl (fun K1 hK1 => ?_)
        simp only [execOp, uponT, resolve, Deferred.ofValue, invoke, builtin, asBool, Instr.makeFunc, Instr.extract, sx, Act.put, Act.eval, nrm]
        refine hK1 _ _ _ ?_; clear hK1 K1
        refine opsL_cons rfl (fun K1 hK1 => ?_)
        simp only [execOp, uponT, resolve, Deferred.ofValue, invoke, builtin, asBool, Instr.makeFunc, Instr.extract, sx, Act.put, Act.eval, nrm, d1]
        refine hK1 _ _ _ ?_; clear hK1 K1
        refine opsL_nil (hK _ _ _ ?_); clear hK K
        refine wpT_cond (t := true) rfl ?_
        simp only [if_true, if_false, Bool.false_eq_true, reduceIte]
        refine wpT_skip ?_
        simp only [thenT]
        refine wpT_seq ?_
        refine wpT_block ?_
        refine wpT_seq_reg (fun K hK => ?_)
        refine opsL_cons rfl (fun K1 hK1 => ?_)
        simp only [execOp, uponT, resolve, Deferred.ofValue, invoke, builtin, asBool, Instr.makeFunc, Instr.extract, sx, Act.put, Act.eval, nrm]
        refine hK1 _ _ _ ?_; clear hK1 K1
        refine opsL_cons rfl (fun K1 hK1 => ?_)
        simp only [execOp, uponT, resolve, Deferred.ofValue, invoke, builtin, asBool, Instr.makeFunc, Instr.extract, sx, Act.put, Act.eval, nrm]
        refine hK1 _ _ _ ?_; clear hK1 K1
        refine opsL_cons rfl (fun K1 hK1 => ?_)
        simp only [execOp, uponT, resolve, Deferred.ofValue, invoke, builtin, asBool, Instr.makeFunc, Instr.extract, sx, Act.put, Act.eval, nrm, semS_indexAt Tryd.underlying22 info23 _ _ _ _ _ him, size23, Nat.mul_one]
        refine hK1 _ _ _ ?_; clear hK1 K1
        refine opsL_cons rfl (fun K1 hK1 => ?_)
        simp only [execOp, uponT, resolve, Deferred.ofValue, invoke, builtin, asBool, Instr.makeFunc, Instr.extract, sx, Act.put, Act.eval, nrm, semS_loadAt one23 hcell]
        refine hK1 _ _ _ ?_; clear hK1 K1
        refine opsL_cons rfl (fun K1 hK1 => ?_)
        simp only [execOp, uponT, resolve, Deferred.ofValue, invoke, builtin, asBool, Instr.makeFunc, Instr.extract, sx, Act.put, Act.eval, nrm]
        refine hK1 _ _ _ ?_; clear hK1 K1
        refine opsL_cons rfl (fun K1 hK1 => ?_)
        simp only [execOp, uponT, resolve, Deferred.ofValue, invoke, builtin, asBool, Instr.makeFunc, Instr.extract, sx, Act.put, Act.eval, nrm, List.extract_toArray, List.extract_eq_take_drop, List.drop_succ_cons, List.drop_zero, List.take_succ_cons, List.take_zero, List.size_toArray, List.length_cons, List.length_nil, Nat.reduceAdd, Nat.reduceSub, call8]
        refine (play_calls (company Tryd.prog LawQ) true Hc _ htap hfar ag).mono ?_
        rintro v H3 _ ⟨rfl, hv⟩
        revert hv
        obtain ⟨out, hR⟩ : ∃ out, playR (tss.getD i []) ag = .inr out := by
          cases hR : playR (tss.getD i []) ag with
          | inl e2 => have := hno i him; simp only [isE, hR] at this; cases this
          | inr out => exact ⟨out, rfl⟩
        rw [hR]
        rintro ⟨BF, bs, hN, rfl, hH3, hF, _⟩
        have hol : out.length ≤ 30 := by rw [playR_length hR]; exact hlen i him
        have x3 := x.new hN.1 hN.2 (.cells bs 37 (0, 0))
        have y3 := y.new hN.1 hN.2 (.cells bs 37 (0, 0))
        have oF := set_own_same Hc BF (.cells bs 37 (0, 0))
        rw [← hH3] at x3 y3 oF
        clear hH3 hN hcell htap hfar
        obtain ⟨B1, bs1, q1, r1, F1⟩ := rows1 i him out hR
        obtain ⟨B2, bs2, q2, r2, F2⟩ := rows2 i him out hR
        have g1 := cell_arr (y3.own _ _ o1) q1
        have g2 := cell_arr (y3.own _ _ o2) q2
        have l1 := look_ro y3.ap (y3.ro _ _ r1)
        have l2 := look_ro y3.ap (y3.ro _ _ r2)
        have lF := look_ow oF
        have d2 : decide ((i : Int) ≥ (tss.length : Int)) = false := decide_eq_false (by omega)
        refine hK1 _ _ _ ?_; clear hK1 K1
        refine opsL_cons rfl (fun K1 hK1 => ?_)
        simp only [execOp, uponT, resolve, Deferred.ofValue, invoke, builtin, asBool, Instr.makeFunc, Instr.extract, sx, Act.put, Act.eval, nrm]
        refine hK1 _ _ _ ?_; clear hK1 K1
        refine opsL_cons rfl (fun K1 hK1 => ?_)
        simp only [execOp, uponT, resolve, Deferred.ofValue, invoke, builtin, asBool, Instr.makeFunc, Instr.extract, sx, Act.put, Act.eval, nrm]
        refine hK1 _ _ _ ?_; clear hK1 K1
        refine opsL_cons rfl (fun K1 hK1 => ?_)
        simp only [execOp, uponT, resolve, Deferred.ofValue, invoke, builtin, asBool, Instr.makeFunc, Instr.extract, sx, Act.put, Act.eval, nrm]
        refine hK1 _ _ _ ?_; clear hK1 K1
        refine opsL_cons rfl (fun K1 hK1 => ?_)
        simp only [execOp, uponT, resolve, Deferred.ofValue, invoke, builtin, asBool, Instr.makeFunc, Instr.extract, sx, Act.put, Act.eval, nrm]
        refine hK1 _ _ _ ?_; clear hK1 K1
        refine opsL_cons rfl (fun K1 hK1 => ?_)
        simp only [execOp, uponT, resolve, Deferred.ofValue, invoke, builtin, asBool, Instr.makeFunc, Instr.extract, sx, Act.put, Act.eval, nrm]
        refine hK1 _ _ _ ?_; clear hK1 K1
        refine opsL_nil (hK _ _ _ ?_); clear hK K
        refine wpT_seq ?_
        refine wpT_seq_reg (fun K hK => ?_)
        refine opsL_cons rfl (fun K1 hK1 => ?_)
        simp only [execOp, uponT, resolve, Deferred.ofValue, invoke, builtin, asBool, Instr.makeFunc, Instr.extract, sx, Act.put, Act.eval, nrm]
        refine hK1 _ _ _ ?_; clear hK1 K1
        refine opsL_cons rfl (fun K1 hK1 => ?_)
        simp only [execOp, uponT, resolve, Deferred.ofValue, invoke, builtin, asBool, Instr.makeFunc, Instr.extract, sx, Act.put, Act.eval, nrm, semS_eqGuardNil _ _ _ _ (.inl rfl), semS_neqNil if27 _ (.inl rfl)]
        refine hK1 _ _ _ ?_; clear hK1 K1
        refine opsL_nil (hK _ _ _ ?_); clear hK K
        refine wpT_cond (t := false) rfl ?_
        simp only [if_true, if_false, Bool.false_eq_true, reduceIte]
        refine wpT_skip ?_
        simp only [thenT]
        refine wpT_seq ?_
        refine wpT_seq_reg (fun K hK => ?_)
        refine opsL_cons rfl (fun K1 hK1 => ?_)
        simp only [execOp, uponT, resolve, Deferred.ofValue, invoke, builtin, asBool, Instr.makeFunc, Instr.extract, sx, Act.put, Act.eval, nrm]
        refine hK1 _ _ _ ?_; clear hK1 K1
        refine opsL_cons rfl (fun K1 hK1 => ?_)
        simp only [execOp, uponT, resolve, Deferred.ofValue, invoke, builtin, asBool, Instr.makeFunc, Instr.extract, sx, Act.put, Act.eval, nrm, semS_eqGuardNil _ _ _ _ (.inl rfl), semS_neqNil if27 _ (.inl rfl)]
        refine hK1 _ _ _ ?_; clear hK1 K1
        refine opsL_nil (hK _ _ _ ?_); clear hK K
        refine wpT_cond (t := false) rfl ?_
        simp only [if_true, if_false, Bool.false_eq_true, reduceIte]
        refine wpT_skip ?_
        simp only [thenT]
        refine wpT_seq ?_
        refine wpT_seq_reg (fun K hK => ?_)
        refine opsL_cons rfl (fun K1 hK1 => ?_)
        simp only [execOp, uponT, resolve, Deferred.ofValue, invoke, builtin, asBool, Instr.makeFunc, Instr.extract, sx, Act.put, Act.eval, nrm]
        refine hK1 _ _ _ ?_; clear hK1 K1
        refine opsL_cons rfl (fun K1 hK1 => ?_)
        simp only [execOp, uponT, resolve, Deferred.ofValue, invoke, builtin, asBool, Instr.makeFunc, Instr.extract, sx, Act.put, Act.eval, nrm]
        refine hK1 _ _ _ ?_; clear hK1 K1
        refine opsL_cons rfl (fun K1 hK1 => ?_)
        simp only [execOp, uponT, resolve, Deferred.ofValue, invoke, builtin, asBool, Instr.makeFunc, Instr.extract, sx, Act.put, Act.eval, nrm]
        refine hK1 _ _ _ ?_; clear hK1 K1
        refine opsL_cons rfl (fun K1 hK1 => ?_)
        simp only [execOp, uponT, resolve, Deferred.ofValue, invoke, builtin, asBool, Instr.makeFunc, Instr.extract, sx, Act.put, Act.eval, nrm, d2]
        refine hK1 _ _ _ ?_; clear hK1 K1
        refine opsL_cons rfl (fun K1 hK1 => ?_)
        simp only [execOp, uponT, resolve, Deferred.ofValue, invoke, builtin, asBool, Instr.makeFunc, Instr.extract, sx, Act.put, Act.eval, nrm]
        refine hK1 _ _ _ ?_; clear hK1 K1
        refine opsL_cons rfl (fun K1 hK1 => ?_)
        simp only [execOp, uponT, resolve, Deferred.ofValue, invoke, builtin, asBool, Instr.makeFunc, Instr.extract, sx, Act.put, Act.eval, nrm]
        refine hK1 _ _ _ ?_; clear hK1 K1
        refine opsL_cons rfl (fun K1 hK1 => ?_)
        simp only [execOp, uponT, resolve, Deferred.ofValue, invoke, builtin, asBool, Instr.makeFunc, Instr.extract, sx, Act.put, Act.eval, nrm]
        refine hK1 _ _ _ ?_; clear hK1 K1
        refine opsL_cons rfl (fun K1 hK1 => ?_)
        simp only [execOp, uponT, resolve, Deferred.ofValue, invoke, builtin, asBool, Instr.makeFunc, Instr.extract, sx, Act.put, Act.eval, nrm, semS_indexAt Tryd.underlying25 info33 _ _ _ _ _ him, size33, Nat.mul_one]
        refine hK1 _ _ _ ?_; clear hK1 K1
        refine opsL_cons rfl (fun K1 hK1 => ?_)
        simp only [execOp, uponT, resolve, Deferred.ofValue, invoke, builtin, asBool, Instr.makeFunc, Instr.extract, sx, Act.put, Act.eval, nrm, semS_loadAt one33 g1]
        refine hK1 _ _ _ ?_; clear hK1 K1
        refine opsL_cons rfl (fun K1 hK1 => ?_)
        simp only [execOp, uponT, resolve, Deferred.ofValue, invoke, builtin, asBool, Instr.makeFunc, Instr.extract, sx, Act.put, Act.eval, nrm]
        refine hK1 _ _ _ ?_; clear hK1 K1
        refine opsL_cons rfl (fun K1 hK1 => ?_)
        simp only [execOp, uponT, resolve, Deferred.ofValue, invoke, builtin, asBool, Instr.makeFunc, Instr.extract, sx, Act.put, Act.eval, nrm]
        refine hK1 _ _ _ ?_; clear hK1 K1
        refine opsL_cons rfl (fun K1 hK1 => ?_)
        simp only [execOp, uponT, resolve, Deferred.ofValue, invoke, builtin, asBool, Instr.makeFunc, Instr.extract, sx, Act.put, Act.eval, nrm]
        refine hK1 _ _ _ ?_; clear hK1 K1
        refine opsL_cons rfl (fun K1 hK1 => ?_)
        simp only [execOp, uponT, resolve, Deferred.ofValue, invoke, builtin, asBool, Instr.makeFunc, Instr.extract, sx, Act.put, Act.eval, nrm, cmp22]
        refine hK1 _ _ _ ?_; clear hK1 K1
        refine opsL_cons rfl (fun K1 hK1 => ?_)
        simp only [execOp, uponT, resolve, Deferred.ofValue, invoke, builtin, asBool, Instr.makeFunc, Instr.extract, sx, Act.put, Act.eval, nrm, Bool.false_eq_true, if_false]
        refine hK1 _ _ _ ?_; clear hK1 K1
        refine opsL_cons rfl (fun K1 hK1 => ?_)
        simp only [execOp, uponT, resolve, Deferred.ofValue, invoke, builtin, asBool, Instr.makeFunc, Instr.extract, sx, Act.put, Act.eval, nrm]
        refine hK1 _ _ _ ?_; clear hK1 K1
        refine opsL_cons rfl (fun K1 hK1 => ?_)
        simp only [execOp, uponT, resolve, Deferred.ofValue, invoke, builtin, asBool, Instr.makeFunc, Instr.extract, sx, Act.put, Act.eval, nrm]
        refine hK1 _ _ _ ?_; clear hK1 K1
        refine opsL_cons rfl (fun K1 hK1 => ?_)
        simp only [execOp, uponT, resolve, Deferred.ofValue, invoke, builtin, asBool, Instr.makeFunc, Instr.extract, sx, Act.put, Act.eval, nrm]
        refine hK1 _ _ _ ?_; clear hK1 K1
        refine opsL_cons rfl (fun K1 hK1 => ?_)
        simp only [execOp, uponT, resolve, Deferred.ofValue, invoke, builtin, asBool, Instr.makeFunc, Instr.extract, sx, Act.put, Act.eval, nrm, semS_indexAt Tryd.underlying25 info33 _ _ _ _ _ him, size33, Nat.mul_one]
        refine hK1 _ _ _ ?_; clear hK1 K1
        refine opsL_cons rfl (fun K1 hK1 => ?_)
        simp only [execOp, uponT, resolve, Deferred.ofValue, invoke, builtin, asBool, Instr.makeFunc, Instr.extract, sx, Act.put, Act.eval, nrm, semS_loadAt one33 g2]
        refine hK1 _ _ _ ?_; clear hK1 K1
        refine opsL_cons rfl (fun K1 hK1 => ?_)
        simp only [execOp, uponT, resolve, Deferred.ofValue, invoke, builtin, asBool, Instr.makeFunc, Instr.extract, sx, Act.put, Act.eval, nrm]
        refine hK1 _ _ _ ?_; clear hK1 K1
        refine opsL_cons rfl (fun K1 hK1 => ?_)
        simp only [execOp, uponT, resolve, Deferred.ofValue, invoke, builtin, asBool, Instr.makeFunc, Instr.extract, sx, Act.put, Act.eval, nrm]
        refine hK1 _ _ _ ?_; clear hK1 K1
        refine opsL_cons rfl (fun K1 hK1 => ?_)
        simp only [execOp, uponT, resolve, Deferred.ofValue, invoke, builtin, asBool, Instr.makeFunc, Instr.extract, sx, Act.put, Act.eval, nrm]
        refine hK1 _ _ _ ?_; clear hK1 K1
        refine opsL_cons rfl (fun K1 hK1 => ?_)
        simp only [execOp, uponT, resolve, Deferred.ofValue, invoke, builtin, asBool, Instr.makeFunc, Instr.extract, sx, Act.put, Act.eval, nrm, cmp22]
        refine hK1 _ _ _ ?_; clear hK1 K1
        refine opsL_cons rfl (fun K1 hK1 => ?_)
        simp only [execOp, uponT, resolve, Deferred.ofValue, invoke, builtin, asBool, Instr.makeFunc, Instr.extract, sx, Act.put, Act.eval, nrm, Bool.false_eq_true, if_false]
        refine hK1 _ _ _ ?_; clear hK1 K1
        refine opsL_nil (hK _ _ _ ?_); clear hK K
        refine wpT_cond (t := false) rfl ?_
        simp only [if_true, if_false, Bool.false_eq_true, reduceIte]
        refine wpT_skip ?_
        simp only [thenT]
        refine wpT_seq_reg (fun K hK => ?_)
        refine opsL_cons rfl (fun K1 hK1 => ?_)
        simp only [execOp, uponT, resolve, Deferred.ofValue, invoke, builtin, asBool, Instr.makeFunc, Instr.extract, sx, Act.put, Act.eval, nrm]
        refine hK1 _ _ _ ?_; clear hK1 K1
        refine opsL_nil (hK _ _ _ ?_); clear hK K
        refine wpT_block_loop (fun a' Hd γc => Hd = H3 ∧ γc = .lone ∧ ∃ j : Nat, j ≤ out.length ∧ ∃ S : Nat → Value, a' = ⟨#[.slice (some ⟨B, off, none⟩) tss.length cap, .int .i64 ag, .int .i64 n1, .int .i64 n2, S 4, S 5, S 6, S 7, S 8, S 9, .slice (some ⟨OB1, 0, none⟩) tss.length tss.length, .nilIface, .slice (some ⟨OB2, 0, none⟩) tss.length tss.length, .nilIface, .int .i64 i, .slice (some ⟨BF, 0, none⟩) out.length out.length, S 16, .int .i64 j, S 18, S 19, S 20, S 21, S 22, S 23, S 24, S 25, S 26, S 27, S 28, S 29, S 30, S 31, S 32, S 33, S 34, S 35, S 36, S 37, S 38, S 39, S 40, S 41, S 42, S 43, S 44, S 45, S 46, S 47, S 48, S 49, S 50, S 51, S 52, S 53, S 54, S 55, S 56, S 57, S 58, S 59, S 60, S 61, S 62, S 63, S 64, S 65, S 66, S 67, S 68, S 69, S 70, S 71, S 72, S 73, S 74, S 75, S 76, S 77, S 78, S 79, S 80, S 81, S 82, S 83, S 84, S 85, S 86, S 87, S 88, S 89, S 90, S 91, S 92, S 93, S 94, S 95, S 96, S 97, S 98, S 99, S 100, S 101, S 102, S 103, S 104, S 105, S 106, S 107, S 108, S 109, S 110, S 111, S 112, S 113, S 114, S 115, S 116, S 117, S 118, S 119, S 120, S 121, S 122, S 123, S 124, S 125, S 126, S 127, S 128, S 129, S 130, S 131, S 132, S 133, S 134, S 135, S 136, S 137, S 138, S 139, S 140, S 141, S 142, S 143, S 144, S 145, S 146, S 147, S 148, S 149, S 150, S 151, S 152, S 153, S 154, S 155, S 156, S 157, S 158, S 159, S 160, S 161, S 162], []⟩) (fun a' _ _ => out.length - slotNat a' 17) ?_ ?_
        · exact ⟨rfl, rfl, 0, Nat.zero_le _, slots rfl⟩
        rintro _ Hd _ ⟨hHd, rfl, j, hj, S, rfl⟩ Again' Out' hAgain' hOut'
        rw [hHd]
        clear hHd Hd
        by_cases hjl : j < out.length
        ·
          have d3 : decide ((j : Int) < (out.length : Int)) = true := decide_eq_true (by omega)
          have m3 : IntKind.i64.wrap ((j : Int) + 1) = ((j + 1 : Nat) : Int) := wrap_succ _ (by omega)
          obtain ⟨u1, v1⟩ := fate_eq l1 F1 hjl
          obtain ⟨u2, v2⟩ := fate_eq l2 F2 hjl
          obtain ⟨u3, v3⟩ := fate_eq lF hF hjl
          refine wpT_seq ?_
          refine wpT_seq_reg (fun K hK => ?_)
          refine opsL_cons rfl (fun K1 hK1 => ?_)
          simp only [execOp, uponT, resolve, Deferred.ofValue, invoke, builtin, asBool, Instr.makeFunc, Instr.extract, sx, Act.put, Act.eval, nrm]
          refine hK1 _ _ _ ?_; clear hK1 K1
          refine opsL_cons rfl (fun K1 hK1 => ?_)
          simp only [execOp, uponT, resolve, Deferred.ofValue, invoke, builtin, asBool, Instr.makeFunc, Instr.extract, sx, Act.put, Act.eval, nrm]
          refine hK1 _ _ _ ?_; clear hK1 K1
          refine opsL_cons rfl (fun K1 hK1 => ?_)
          simp only [execOp, uponT, resolve, Deferred.ofValue, invoke, builtin, asBool, Instr.makeFunc, Instr.extract, sx, Act.put, Act.eval, nrm]
          refine hK1 _ _ _ ?_; clear hK1 K1
          refine opsL_cons rfl (fun K1 hK1 => ?_)
          simp only [execOp, uponT, resolve, Deferred.ofValue, invoke, builtin, asBool, Instr.makeFunc, Instr.extract, sx, Act.put, Act.eval, nrm, d3]
          refine hK1 _ _ _ ?_; clear hK1 K1
          refine opsL_nil (hK _ _ _ ?_); clear hK K
          refine wpT_cond (t := true) rfl ?_
          simp only [if_true, if_false, Bool.false_eq_true, reduceIte]
          refine wpT_skip ?_
          simp only [thenT]
          refine wpT_seq ?_
          refine wpT_block ?_
          refine wpT_seq_quiet mixed (by kernel_rfl) (by kernel_rfl) (fun K hK => ?_)
          apply quietL_cons
          · rfl
          · intro K1 hK1
            simp only [execOp, uponT, resolve, Deferred.ofValue, invoke, builtin, asBool, Instr.makeFunc, Instr.extract, sx, Act.put, Act.eval, nrm]
            exact hK1
          simp only [Act.put, Act.eval, nrm]
          apply quietL_cons
          · rfl
          · intro K1 hK1
            simp only [execOp, uponT, resolve, Deferred.ofValue, invoke, builtin, asBool, Instr.makeFunc, Instr.extract, sx, Act.put, Act.eval, nrm]
            exact hK1
          simp only [Act.put, Act.eval, nrm]
          apply quietL_cons
          · rfl
          · intro K1 hK1
            simp only [execOp, uponT, resolve, Deferred.ofValue, invoke, builtin, asBool, Instr.makeFunc, Instr.extract, sx, Act.put, Act.eval, nrm, semS_indexAt Tryd.underlying25 info33 _ _ _ _ _ him, size33, Nat.mul_one]
            exact hK1
          simp only [Act.put, Act.eval, nrm]
          apply quietL_cons
          · rfl
          · intro K1 hK1
            simp only [execOp, uponT, resolve, Deferred.ofValue, invoke, builtin, asBool, Instr.makeFunc, Instr.extract, sx, Act.put, Act.eval, nrm, semS_loadAt one33 g1]
            exact hK1
          simp only [Act.put, Act.eval, nrm]
          apply quietL_cons
          · rfl
          · intro K1 hK1
            simp only [execOp, uponT, resolve, Deferred.ofValue, invoke, builtin, asBool, Instr.makeFunc, Instr.extract, sx, Act.put, Act.eval, nrm]
            exact hK1
          simp only [Act.put, Act.eval, nrm]
          apply quietL_cons
          · rfl
          · intro K1 hK1
            simp only [execOp, uponT, resolve, Deferred.ofValue, invoke, builtin, asBool, Instr.makeFunc, Instr.extract, sx, Act.put, Act.eval, nrm, semS_indexAt Tryd.underlying33 info37 _ _ _ _ _ hjl, size37]
            exact hK1
          simp only [Act.put, Act.eval, nrm]
          apply quietL_cons
          · rfl
          · intro K1 hK1
            simp only [execOp, uponT, resolve, Deferred.ofValue, invoke, builtin, asBool, Instr.makeFunc, Instr.extract, sx, Act.put, Act.eval, nrm, semS_loadAt2 str37 info37 size37 u1 v1]
            exact hK1
          simp only [Act.put, Act.eval, nrm]
          apply quietL_cons
          · rfl
          · intro K1 hK1
            simp only [execOp, uponT, resolve, Deferred.ofValue, invoke, builtin, asBool, Instr.makeFunc, Instr.extract, sx, Act.put, Act.eval, nrm]
            exact hK1
          simp only [Act.put, Act.eval, nrm]
          apply quietL_cons
          · rfl
          · intro K1 hK1
            simp only [execOp, uponT, resolve, Deferred.ofValue, invoke, builtin, asBool, Instr.makeFunc, Instr.extract, sx, Act.put, Act.eval, nrm]
            exact hK1
          simp only [Act.put, Act.eval, nrm]
          apply quietL_cons
          · rfl
          · intro K1 hK1
            simp only [execOp, uponT, resolve, Deferred.ofValue, invoke, builtin, asBool, Instr.makeFunc, Instr.extract, sx, Act.put, Act.eval, nrm, semS_indexAt Tryd.underlying33 info37 _ _ _ _ _ hjl, size37]
            exact hK1
          simp only [Act.put, Act.eval, nrm]
          apply quietL_cons
          · rfl
          · intro K1 hK1
            simp only [execOp, uponT, resolve, Deferred.ofValue, invoke, builtin, asBool, Instr.makeFunc, Instr.extract, sx, Act.put, Act.eval, nrm, semS_loadAt2 str37 info37 size37 u3 v3]
            exact hK1
          simp only [Act.put, Act.eval, nrm]
          apply quietL_cons
          · rfl
          · intro K1 hK1
            simp only [execOp, uponT, resolve, Deferred.ofValue, invoke, builtin, asBool, Instr.makeFunc, Instr.extract, sx, Act.put, Act.eval, nrm, guardFate, neqFate]
            exact hK1
          simp only [Act.put, Act.eval, nrm]
          apply quietL_cons
          · rfl
          · intro K1 hK1
            simp only [execOp, uponT, resolve, Deferred.ofValue, invoke, builtin, asBool, Instr.makeFunc, Instr.extract, sx, Act.put, Act.eval, nrm]
            exact hK1
          simp only [Act.put, Act.eval, nrm]
          apply quietL_cons
          · rfl
          · intro K1 hK1
            simp only [execOp, uponT, resolve, Deferred.ofValue, invoke, builtin, asBool, Instr.makeFunc, Instr.extract, sx, Act.put, Act.eval, nrm]
            exact hK1
          simp only [Act.put, Act.eval, nrm]
          apply quietL_cons
          · rfl
          · intro K1 hK1
            simp only [execOp, uponT, resolve, Deferred.ofValue, invoke, builtin, asBool, Instr.makeFunc, Instr.extract, sx, Act.put, Act.eval, nrm]
            exact hK1
          simp only [Act.put, Act.eval, nrm]
          apply quietL_cons
          · rfl
          · intro K1 hK1
            simp only [execOp, uponT, resolve, Deferred.ofValue, invoke, builtin, asBool, Instr.makeFunc, Instr.extract, sx, Act.put, Act.eval, nrm, semS_indexAt Tryd.underlying25 info33 _ _ _ _ _ him, size33, Nat.mul_one]
            exact hK1
          simp only [Act.put, Act.eval, nrm]
          apply quietL_cons
          · rfl
          · intro K1 hK1
            simp only [execOp, uponT, resolve, Deferred.ofValue, invoke, builtin, asBool, Instr.makeFunc, Instr.extract, sx, Act.put, Act.eval, nrm, semS_loadAt one33 g2]
            exact hK1
          simp only [Act.put, Act.eval, nrm]
          apply quietL_cons
          · rfl
          · intro K1 hK1
            simp only [execOp, uponT, resolve, Deferred.ofValue, invoke, builtin, asBool, Instr.makeFunc, Instr.extract, sx, Act.put, Act.eval, nrm]
            exact hK1
          simp only [Act.put, Act.eval, nrm]
          apply quietL_cons
          · rfl
          · intro K1 hK1
            simp only [execOp, uponT, resolve, Deferred.ofValue, invoke, builtin, asBool, Instr.makeFunc, Instr.extract, sx, Act.put, Act.eval, nrm, semS_indexAt Tryd.underlying33 info37 _ _ _ _ _ hjl, size37]
            exact hK1
          simp only [Act.put, Act.eval, nrm]
          apply quietL_cons
          · rfl
          · intro K1 hK1
            simp only [execOp, uponT, resolve, Deferred.ofValue, invoke, builtin, asBool, Instr.makeFunc, Instr.extract, sx, Act.put, Act.eval, nrm, semS_loadAt2 str37 info37 size37 u2 v2]
            exact hK1
          simp only [Act.put, Act.eval, nrm]
          apply quietL_cons
          · rfl
          · intro K1 hK1
            simp only [execOp, uponT, resolve, Deferred.ofValue, invoke, builtin, asBool, Instr.makeFunc, Instr.extract, sx, Act.put, Act.eval, nrm]
            exact hK1
          simp only [Act.put, Act.eval, nrm]
          apply quietL_cons
          · rfl
          · intro K1 hK1
            simp only [execOp, uponT, resolve, Deferred.ofValue, invoke, builtin, asBool, Instr.makeFunc, Instr.extract, sx, Act.put, Act.eval, nrm]
            exact hK1
          simp only [Act.put, Act.eval, nrm]
          apply quietL_cons
          · rfl
          · intro K1 hK1
            simp only [execOp, uponT, resolve, Deferred.ofValue, invoke, builtin, asBool, Instr.makeFunc, Instr.extract, sx, Act.put, Act.eval, nrm, semS_indexAt Tryd.underlying33 info37 _ _ _ _ _ hjl, size37]
            exact hK1
          simp only [Act.put, Act.eval, nrm]
          apply quietL_cons
          · rfl
          · intro K1 hK1
            simp only [execOp, uponT, resolve, Deferred.ofValue, invoke, builtin, asBool, Instr.makeFunc, Instr.extract, sx, Act.put, Act.eval, nrm, semS_loadAt2 str37 info37 size37 u3 v3]
            exact hK1
          simp only [Act.put, Act.eval, nrm]
          apply quietL_cons
          · rfl
          · intro K1 hK1
            simp only [execOp, uponT, resolve, Deferred.ofValue, invoke, builtin, asBool, Instr.makeFunc, Instr.extract, sx, Act.put, Act.eval, nrm, guardFate, neqFate]
            exact hK1
          simp only [Act.put, Act.eval, nrm]
          apply quietL_cons
          · rfl
          · intro K1 hK1
            simp only [execOp, uponT, resolve, Deferred.ofValue, invoke, builtin, asBool, Instr.makeFunc, Instr.extract, sx, Act.put, Act.eval, nrm, Bool.false_eq_true, if_false]
            exact hK1
          simp only [Act.put, Act.eval, nrm]
          refine quietL_nil (hK _ ?_); clear hK K
          refine wpT_cond (t := false) rfl ?_
          simp only [if_true, if_false, Bool.false_eq_true, reduceIte]
          refine wpT_skip ?_
          simp only [thenT, inBlockT]
          refine wpT_reg (fun K hK => ?_)
          refine opsL_cons rfl (fun K1 hK1 => ?_)
          simp only [execOp, uponT, resolve, Deferred.ofValue, invoke, builtin, asBool, Instr.makeFunc, Instr.extract, sx, Act.put, Act.eval, nrm]
          refine hK1 _ _ _ ?_; clear hK1 K1
          refine opsL_cons rfl (fun K1 hK1 => ?_)
          simp only [execOp, uponT, resolve, Deferred.ofValue, invoke, builtin, asBool, Instr.makeFunc, Instr.extract, sx, Act.put, Act.eval, nrm, m3]
          refine hK1 _ _ _ ?_; clear hK1 K1
          refine opsL_cons rfl (fun K1 hK1 => ?_)
          simp only [execOp, uponT, resolve, Deferred.ofValue, invoke, builtin, asBool, Instr.makeFunc, Instr.extract, sx, Act.put, Act.eval, nrm]
          refine hK1 _ _ _ ?_; clear hK1 K1
          refine opsL_nil (hK _ _ _ ?_); clear hK K
          simp only [thenT, inBlockT, loopQ, reduceIte, Nat.reduceEqDiff]
          refine hAgain' _ _ _ ⟨rfl, rfl, j + 1, hjl, slots rfl⟩ ?_
          simp only [slotNat, Array.getD_eq_getD_getElem?, List.getElem?_toArray, List.getElem?_cons_succ, List.getElem?_cons_zero, Option.getD_some, Int.toNat_natCast]; omega
        ·
          have d3 : decide ((j : Int) < (out.length : Int)) = false := decide_eq_false (by omega)
          refine wpT_seq ?_
          refine wpT_seq_reg (fun K hK => ?_)
          refine opsL_cons rfl (fun K1 hK1 => ?_)
          simp only [execOp, uponT, resolve, Deferred.ofValue, invoke, builtin, asBool, Instr.makeFunc, Instr.extract, sx, Act.put, Act.eval, nrm]
          refine hK1 _ _ _ ?_; clear hK1 K1
          refine opsL_cons rfl (fun K1 hK1 => ?_)
          simp only [execOp, uponT, resolve, Deferred.ofValue, invoke, builtin, asBool, Instr.makeFunc, Instr.extract, sx, Act.put, Act.eval, nrm]
          refine hK1 _ _ _ ?_; clear hK1 K1
          refine opsL_cons rfl (fun K1 hK1 => ?_)
          simp only [execOp, uponT, resolve, Deferred.ofValue, invoke, builtin, asBool, Instr.makeFunc, Instr.extract, sx, Act.put, Act.eval, nrm]
          refine hK1 _ _ _ ?_; clear hK1 K1
          refine opsL_cons rfl (fun K1 hK1 => ?_)
          simp only [execOp, uponT, resolve, Deferred.ofValue, invoke, builtin, asBool, Instr.makeFunc, Instr.extract, sx, Act.put, Act.eval, nrm, d3]
          refine hK1 _ _ _ ?_; clear hK1 K1
          refine opsL_nil (hK _ _ _ ?_); clear hK K
          refine wpT_cond (t := false) rfl ?_
          simp only [if_true, if_false, Bool.false_eq_true, reduceIte]
          refine wpT_exit ?_
          simp only [thenT, inBlockT, loopQ, reduceIte, Nat.reduceEqDiff]
          refine hOut' _ _ _ ?_
          simp only [thenT, inBlockT]
          refine wpT_reg (fun K hK => ?_)
          refine opsL_cons rfl (fun K1 hK1 => ?_)
          simp only [execOp, uponT, resolve, Deferred.ofValue, invoke, builtin, asBool, Instr.makeFunc, Instr.extract, sx, Act.put, Act.eval, nrm]
          refine hK1 _ _ _ ?_; clear hK1 K1
          refine opsL_cons rfl (fun K1 hK1 => ?_)
          simp only [execOp, uponT, resolve, Deferred.ofValue, invoke, builtin, asBool, Instr.makeFunc, Instr.extract, sx, Act.put, Act.eval, nrm, m1]
          refine hK1 _ _ _ ?_; clear hK1 K1
          refine opsL_cons rfl (fun K1 hK1 => ?_)
          simp only [execOp, uponT, resolve, Deferred.ofValue, invoke, builtin, asBool, Instr.makeFunc, Instr.extract, sx, Act.put, Act.eval, nrm]
          refine hK1 _ _ _ ?_; clear hK1 K1
          refine opsL_nil (hK _ _ _ ?_); clear hK K
          simp only [thenT, inBlockT, loopQ, reduceIte, Nat.reduceEqDiff]
          refine hAgain _ _ _ ⟨x3, y3, rfl, i + 1, him, by rw [← ea]; exact slots rfl⟩ ?_
          simp only [slotNat, Array.getD_eq_getD_getElem?, List.getElem?_toArray, List.getElem?_cons_succ, List.getElem?_cons_zero, Option.getD_some, Int.toNat_natCast]; omega
      ·
        have d1 : decide ((i : Int) < (tss.length : Int)) = false := decide_eq_false (by omega)
        refine wpT_seq ?_
        refine wpT_seq_reg (fun K hK => ?_)
        refine opsL_cons rfl (fun K1 hK1 => ?_)
        simp only [execOp, uponT, resolve, Deferred.ofValue, invoke, builtin, asBool, Instr.makeFunc, Instr.extract, sx, Act.put, Act.eval, nrm]
        refine hK1 _ _ _ ?_; clear hK1 K1
        refine opsL_cons rfl (fun K1 hK1 => ?_)
        simp only [execOp, uponT, resolve, Deferred.ofValue, invoke, builtin, asBool, Instr.makeFunc, Instr.extract, sx, Act.put, Act.eval, nrm]
        refine hK1 _ _ _ ?_; clear hK1 K1
        refine opsL_cons rfl (fun K1 hK1 => ?_)
        simp only [execOp, uponT, resolve, Deferred.ofValue, invoke, builtin, asBool, Instr.makeFunc, Instr.extract, sx, Act.put, Act.eval, nrm]
        refine hK1 _ _ _ ?_; clear hK1 K1
        refine opsL_cons rfl (fun K1 hK1 => ?_)
        simp only [execOp, uponT, resolve, Deferred.ofValue, invoke, builtin, asBool, Instr.makeFunc, Instr.extract, sx, Act.put, Act.eval, nrm, d1]
        refine hK1 _ _ _ ?_; clear hK1 K1
        refine opsL_nil (hK _ _ _ ?_); clear hK K
        refine wpT_cond (t := false) rfl ?_
        simp only [if_true, if_false, Bool.false_eq_true, reduceIte]
        refine wpT_exit ?_
        simp only [thenT, inBlockT, loopQ, reduceIte, Nat.reduceEqDiff]
        refine hOut _ _ _ ?_
        simp only [thenT]
        refine wpT_seq_reg (fun K hK => ?_)
        refine opsL_cons rfl (fun K1 hK1 => ?_)
        simp only [execOp, uponT, resolve, Deferred.ofValue, invoke, builtin, asBool, Instr.makeFunc, Instr.extract, sx, Act.put, Act.eval, nrm]
        refine hK1 _ _ _ ?_; clear hK1 K1
        refine opsL_cons rfl (fun K1 hK1 => ?_)
        simp only [execOp, uponT, resolve, Deferred.ofValue, invoke, builtin, asBool, Instr.makeFunc, Instr.extract, sx, Act.put, Act.eval, nrm, semS_eqGuardNil _ _ _ _ (.inl rfl), semS_eqlNil if27 _ (.inl rfl)]
        refine hK1 _ _ _ ?_; clear hK1 K1
        refine opsL_cons rfl (fun K1 hK1 => ?_)
        simp only [execOp, uponT, resolve, Deferred.ofValue, invoke, builtin, asBool, Instr.makeFunc, Instr.extract, sx, Act.put, Act.eval, nrm]
        refine hK1 _ _ _ ?_; clear hK1 K1
        refine opsL_cons rfl (fun K1 hK1 => ?_)
        simp only [execOp, uponT, resolve, Deferred.ofValue, invoke, builtin, asBool, Instr.makeFunc, Instr.extract, sx, Act.put, Act.eval, nrm]
        refine hK1 _ _ _ ?_; clear hK1 K1
        refine opsL_cons rfl (fun K1 hK1 => ?_)
        simp only [execOp, uponT, resolve, Deferred.ofValue, invoke, builtin, asBool, Instr.makeFunc, Instr.extract, sx, Act.put, Act.eval, nrm]
        refine hK1 _ _ _ ?_; clear hK1 K1
        refine opsL_cons rfl (fun K1 hK1 => ?_)
        simp only [execOp, uponT, resolve, Deferred.ofValue, invoke, builtin, asBool, Instr.makeFunc, Instr.extract, sx, Act.put, Act.eval, nrm]
        refine hK1 _ _ _ ?_; clear hK1 K1
        refine opsL_cons rfl (fun K1 hK1 => ?_)
        simp only [execOp, uponT, resolve, Deferred.ofValue, invoke, builtin, asBool, Instr.makeFunc, Instr.extract, sx, Act.put, Act.eval, nrm]
        refine hK1 _ _ _ ?_; clear hK1 K1
        refine opsL_cons rfl (fun K1 hK1 => ?_)
        simp only [execOp, uponT, resolve, Deferred.ofValue, invoke, builtin, asBool, Instr.makeFunc, Instr.extract, sx, Act.put, Act.eval, nrm, cmpE]
        refine hK1 _ _ _ ?_; clear hK1 K1
        refine opsL_cons rfl (fun K1 hK1 => ?_)
        simp only [execOp, uponT, resolve, Deferred.ofValue, invoke, builtin, asBool, Instr.makeFunc, Instr.extract, sx, Act.put, Act.eval, nrm, if_true]
        refine hK1 _ _ _ ?_; clear hK1 K1
        refine opsL_cons rfl (fun K1 hK1 => ?_)
        simp only [execOp, uponT, resolve, Deferred.ofValue, invoke, builtin, asBool, Instr.makeFunc, Instr.extract, sx, Act.put, Act.eval, nrm]
        refine hK1 _ _ _ ?_; clear hK1 K1
        refine opsL_nil (hK _ _ _ ?_); clear hK K
        refine wpT_ret (hret _ _ _ (bodyPost_ret1 rfl ?_))
        exact ⟨rfl, rfl⟩
end Go.Proofs.YtcomjkbfmklfnaaDoor
