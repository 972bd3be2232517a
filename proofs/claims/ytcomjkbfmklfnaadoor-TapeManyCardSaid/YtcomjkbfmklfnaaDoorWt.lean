/-
  Many's third region: two channels and two variables are made, in whatever order is drawn. Conditions: none.
-/
import Derived.Test.YtcomjkbfmklfnaaDoorWs
set_option linter.unusedSimpArgs false
set_option linter.unusedVariables false
namespace Go.Proofs.YtcomjkbfmklfnaaDoor
open Go.Conc Go.Sep

/-- What one owns, nobody only reads. -/
def Ap (H : Hp) : Prop := ∀ b, H.ro b ≠ none → H.own b = none
theorem Ap.set {H : Hp} (h : Ap H) {n : Nat} (o : Obj) (hn : H.ro n = none) : Ap (H.set n o) := by
  intro b hb
  rw [set_ro] at hb
  by_cases e : b = n
  · subst e; exact absurd hn hb
  · rw [set_own_ne _ _ e]; exact h b hb

noncomputable def reg3 : Code := match Tryd.f5.body with | some (.seq _ (.seq _ (.seq c _))) => c | _ => .skip

structure R3 (H₀ H : Hp) (c0 c1 b2 b3 : Option Nat) (s4 s5 : Bool) : Prop where
  old : ∀ b o, H₀.own b = some o → H.own b = some o
  ro : H.ro = H₀.ro
  d : H.d = H₀.d
  ap : Ap H
  new : ∀ n, (c0 = some n ∨ c1 = some n ∨ b2 = some n ∨ b3 = some n) → H₀.ro n = none ∧ H₀.own n = none
  hc0 : ∀ n, c0 = some n → H.own n = some (.chan 0 #[] false 0 0 false)
  hc1 : ∀ n, c1 = some n → H.own n = some (.chan 4 #[] false 0 0 false)
  hb2 : ∀ n, b2 = some n → H.own n = some (.cells #[.chan (if s4 then c0 else none)] 40 (0, 0))
  hb3 : ∀ n, b3 = some n → H.own n = some (.cells #[.chan (if s5 then c1 else none)] 41 (0, 0))
  sc : s4 = true → c0 ≠ none ∧ b2 ≠ none
  sd : s5 = true → c1 ≠ none ∧ b3 ≠ none

section
variable {H₀ H : Hp} {c0 c1 b2 b3 : Option Nat} {s4 s5 : Bool} {n : Nat} {o : Obj}
theorem R3.keep (h : R3 H₀ H c0 c1 b2 b3 s4 s5) (h1 : H.own n = none) : ∀ b x, H.own b = some x → (H.set n o).own b = some x := fun b x hb => by
  have : b ≠ n := by rintro rfl; rw [h1] at hb; cases hb
  rw [set_own_ne _ _ this]; exact hb
theorem R3.fresh (h : R3 H₀ H c0 c1 b2 b3 s4 s5) (h1 : H.own n = none) (h2 : H.ro n = none) : H₀.ro n = none ∧ H₀.own n = none := by
  refine ⟨h.ro ▸ h2, ?_⟩
  cases e : H₀.own n with
  | none => rfl
  | some o => rw [h.old _ _ e] at h1; cases h1
theorem R3.mk0 (h : R3 H₀ H none c1 b2 b3 s4 s5) (h1 : H.own n = none) (h2 : H.ro n = none) : R3 H₀ (H.set n (.chan 0 #[] false 0 0 false)) (some n) c1 b2 b3 s4 s5 := by
  have hs : s4 = false := by cases s4 with
    | false => rfl
    | true => exact absurd rfl (h.sc rfl).1
  subst hs
  refine ⟨fun b x hb => h.keep h1 b x (h.old b x hb), h.ro, h.d, h.ap.set _ h2, fun m hm => ?_, fun m hm => ?_, fun m hm => h.keep h1 _ _ (h.hc1 m hm), fun m hm => h.keep h1 _ _ (h.hb2 m hm), fun m hm => h.keep h1 _ _ (h.hb3 m hm), fun e => (by cases e), h.sd⟩
  · rcases hm with hm | hm
    · cases hm; exact h.fresh h1 h2
    · exact h.new m (.inr hm)
  · cases hm; exact set_own_same _ _ _
theorem R3.mk1 (h : R3 H₀ H c0 none b2 b3 s4 s5) (h1 : H.own n = none) (h2 : H.ro n = none) : R3 H₀ (H.set n (.chan 4 #[] false 0 0 false)) c0 (some n) b2 b3 s4 s5 := by
  have hs : s5 = false := by cases s5 with
    | false => rfl
    | true => exact absurd rfl (h.sd rfl).1
  subst hs
  refine ⟨fun b x hb => h.keep h1 b x (h.old b x hb), h.ro, h.d, h.ap.set _ h2, fun m hm => ?_, fun m hm => h.keep h1 _ _ (h.hc0 m hm), fun m hm => ?_, fun m hm => h.keep h1 _ _ (h.hb2 m hm), fun m hm => h.keep h1 _ _ (h.hb3 m hm), h.sc, fun e => (by cases e)⟩
  · rcases hm with hm | hm | hm
    · exact h.new m (.inl hm)
    · cases hm; exact h.fresh h1 h2
    · exact h.new m (.inr (.inr hm))
  · cases hm; exact set_own_same _ _ _
theorem R3.mk2 (h : R3 H₀ H c0 c1 none b3 s4 s5) (h1 : H.own n = none) (h2 : H.ro n = none) : R3 H₀ (H.set n (.cells #[.chan none] 40 (0, 0))) c0 c1 (some n) b3 s4 s5 := by
  have hs : s4 = false := by cases s4 with
    | false => rfl
    | true => exact absurd rfl (h.sc rfl).2
  subst hs
  refine ⟨fun b x hb => h.keep h1 b x (h.old b x hb), h.ro, h.d, h.ap.set _ h2, fun m hm => ?_, fun m hm => h.keep h1 _ _ (h.hc0 m hm), fun m hm => h.keep h1 _ _ (h.hc1 m hm), fun m hm => ?_, fun m hm => h.keep h1 _ _ (h.hb3 m hm), fun e => (by cases e), h.sd⟩
  · rcases hm with hm | hm | hm | hm
    · exact h.new m (.inl hm)
    · exact h.new m (.inr (.inl hm))
    · cases hm; exact h.fresh h1 h2
    · exact h.new m (.inr (.inr (.inr hm)))
  · cases hm; exact set_own_same _ _ _
theorem R3.mk3 (h : R3 H₀ H c0 c1 b2 none s4 s5) (h1 : H.own n = none) (h2 : H.ro n = none) : R3 H₀ (H.set n (.cells #[.chan none] 41 (0, 0))) c0 c1 b2 (some n) s4 s5 := by
  have hs : s5 = false := by cases s5 with
    | false => rfl
    | true => exact absurd rfl (h.sd rfl).2
  subst hs
  refine ⟨fun b x hb => h.keep h1 b x (h.old b x hb), h.ro, h.d, h.ap.set _ h2, fun m hm => ?_, fun m hm => h.keep h1 _ _ (h.hc0 m hm), fun m hm => h.keep h1 _ _ (h.hc1 m hm), fun m hm => h.keep h1 _ _ (h.hb2 m hm), fun m hm => ?_, h.sc, fun e => (by cases e)⟩
  · rcases hm with hm | hm | hm | hm
    · exact h.new m (.inl hm)
    · exact h.new m (.inr (.inl hm))
    · exact h.new m (.inr (.inr (.inl hm)))
    · cases hm; exact h.fresh h1 h2
  · cases hm; exact set_own_same _ _ _
theorem R3.st4 {m : Nat} (h : R3 H₀ H (some m) c1 (some n) b3 false s5) : R3 H₀ (H.set n (.cells #[.chan (some m)] 40 (0, 0))) (some m) c1 (some n) b3 true s5 := by
  have hn := h.hb2 n rfl
  have hne : ∀ b x, H.own b = some x → x ≠ .cells #[.chan none] 40 (0, 0) → (H.set n (.cells #[.chan (some m)] 40 (0, 0))).own b = some x := fun b x hb hx => by
    have : b ≠ n := by rintro rfl; rw [hn] at hb; cases hb; exact hx rfl
    rw [set_own_ne _ _ this]; exact hb
  refine ⟨fun b x hb => ?_, h.ro, h.d, h.ap.set _ ?_, h.new, fun k hk => hne _ _ (h.hc0 k hk) (by simp), fun k hk => hne _ _ (h.hc1 k hk) (by simp), fun k hk => ?_, fun k hk => hne _ _ (h.hb3 k hk) (by simp), fun _ => ⟨by simp, by simp⟩, h.sd⟩
  · have : b ≠ n := by rintro rfl; rw [(h.new _ (.inr (.inr (.inl rfl)))).2] at hb; cases hb
    rw [set_own_ne _ _ this]; exact h.old b x hb
  · rw [h.ro]; exact (h.new n (.inr (.inr (.inl rfl)))).1
  · cases hk; exact set_own_same _ _ _
theorem R3.st5 {m : Nat} (h : R3 H₀ H c0 (some m) b2 (some n) s4 false) : R3 H₀ (H.set n (.cells #[.chan (some m)] 41 (0, 0))) c0 (some m) b2 (some n) s4 true := by
  have hn := h.hb3 n rfl
  have hne : ∀ b x, H.own b = some x → x ≠ .cells #[.chan none] 41 (0, 0) → (H.set n (.cells #[.chan (some m)] 41 (0, 0))).own b = some x := fun b x hb hx => by
    have : b ≠ n := by rintro rfl; rw [hn] at hb; cases hb; exact hx rfl
    rw [set_own_ne _ _ this]; exact hb
  refine ⟨fun b x hb => ?_, h.ro, h.d, h.ap.set _ ?_, h.new, fun k hk => hne _ _ (h.hc0 k hk) (by simp), fun k hk => hne _ _ (h.hc1 k hk) (by simp), fun k hk => hne _ _ (h.hb2 k hk) (by simp), fun k hk => ?_, h.sc, fun _ => ⟨by simp, by simp⟩⟩
  · have : b ≠ n := by rintro rfl; rw [(h.new _ (.inr (.inr (.inr rfl)))).2] at hb; cases hb
    rw [set_own_ne _ _ this]; exact h.old b x hb
  · rw [h.ro]; exact (h.new n (.inr (.inr (.inr rfl)))).1
  · cases hk; exact set_own_same _ _ _
end
theorem semS_makeChan {H : Hp} {t e : TypeId} {dir : ChanDir} {i : TypeInfo} (ht : Tryd.prog.underlying t = some (.chan dir e)) (hi : Tryd.prog.info? e = some i) (n : Nat) (h63 : (n : Int) ≤ 9223372036854775807) (hb : (i.bytes : Int) * n ≤ 281474976710544) (K : Value → Hp → Prop) :
    SemS Tryd.prog (Instr.makeChan t (.int .i64 n)) H K = ∀ m, H.own m = none → H.ro m = none → K (.chan (some m)) (H.set m (.chan n #[] false 0 0 false)) := by
  have n1 : ¬ ((n : Int) < 0) := by omega
  have n2 : ¬ (9223372036854775807 < (n : Int)) := by omega
  have n3 : ¬ (281474976710544 < (i.bytes : Int) * n) := by omega
  simp [Instr.makeChan, asInt, asIntOf, ht, hi, n1, n2, n3, IntKind.max, IntKind.bits, IntKind.signed]
theorem mkCh40 {H : Hp} (K : Value → Hp → Prop) : SemS Tryd.prog (Instr.makeChan 40 (.int .i64 0)) H K = ∀ m, H.own m = none → H.ro m = none → K (.chan (some m)) (H.set m (.chan 0 #[] false 0 0 false)) := semS_makeChan Tryd.underlying40 info3 0 (by decide) (by simp) K
theorem mkCh41 {H : Hp} (K : Value → Hp → Prop) : SemS Tryd.prog (Instr.makeChan 41 (.int .i64 4)) H K = ∀ m, H.own m = none → H.ro m = none → K (.chan (some m)) (H.set m (.chan 4 #[] false 0 0 false)) := semS_makeChan Tryd.underlying41 info54 4 (by decide) (by rw [bytes54]; decide) K
/-! ### the region -/
noncomputable def ops3 : Array Oper := match reg3 with | .region _ ops _ => ops | _ => #[]
def ptrO (x : Value) : Option Nat → Value
  | some n => .pointer (some ⟨n, 0, none⟩)
  | none => x
def chO (x : Value) : Option Nat → Value
  | some n => .chan (some n)
  | none => x
def mnT (T : Nat → Value) (c0 c1 b2 b3 : Option Nat) : List Value := [T 0, T 1, T 2, T 3, T 4, T 5, T 6, T 7, ptrO (T 8) b2, ptrO (T 9) b3, T 10, T 11, T 12, T 13, T 14, T 15, T 16, T 17, T 18, T 19, T 20, T 21, T 22, T 23, T 24, T 25, chO (T 26) c0, chO (T 27) c1, T 28, T 29, T 30, T 31, T 32, T 33, T 34, T 35, T 36, T 37, T 38, T 39, T 40, T 41, T 42, T 43, T 44, T 45, T 46, T 47, T 48, T 49, T 50, T 51, T 52, T 53, T 54, T 55, T 56, T 57, T 58, T 59, T 60, T 61, T 62, T 63, T 64, T 65, T 66, T 67]
def cnt2 (b : Bool) : Nat := if b then 1 else 0

theorem opT_of {Γ κ : Type} {P : Program} {Y : Proto Γ κ} {main : Bool} {ops : Array Oper} {i : Nat} {o : Oper} {K : Act → Hp → Γ → Prop} {a : Act} {H : Hp} {γ : Γ} (ho : ops[i]? = some o) (hw : Region.wanted o (yielded ops a.tmps) = true)
    (h : SemS P (execOp a.eval o) H (uponT P Y main o a K γ)) : OpT P Y main ops i K a H γ := by
  unfold OpT
  simp only [ho, hw, if_true]
  exact h
def may (x0 x1 x2 x3 x4 x5 : Bool) : Nat → Bool
  | 0 => !x0 | 1 => !x1 | 2 => !x2 | 3 => !x3 | 4 => x0 && x2 && !x4 | 5 => x1 && x3 && !x5 | _ => false
theorem ready_may (x0 x1 x2 x3 x4 x5 : Bool) : (Region.ready .any ops3 #[x0, x1, x2, x3, x4, x5]).all (may x0 x1 x2 x3 x4 x5) = true := by
  cases x0 <;> cases x1 <;> cases x2 <;> cases x3 <;> cases x4 <;> cases x5 <;> kernel_rfl
theorem ready_some (x0 x1 x2 x3 x4 x5 : Bool) : ((x0 && x1 && x2 && x3 && x4 && x5) || !(Region.ready .any ops3 #[x0, x1, x2, x3, x4, x5]).isEmpty) = true := by
  cases x0 <;> cases x1 <;> cases x2 <;> cases x3 <;> cases x4 <;> cases x5 <;> kernel_rfl
theorem ready_done : Region.ready .any ops3 #[true, true, true, true, true, true] = [] := by kernel_rfl

set_option maxRecDepth 100000 in
set_option maxHeartbeats 4000000 in
theorem region3 {Γ κ : Type} (Y : Proto Γ κ) (main : Bool) {H₀ : Hp} {γ : Γ} (hap : Ap H₀) (T : Nat → Value) {Q : Exit → Act → Hp → Γ → Prop}
    (hQ : ∀ c0 c1 b2 b3 H, R3 H₀ H (some c0) (some c1) (some b2) (some b3) true true → Q .normal ⟨(mnT T (some c0) (some c1) (some b2) (some b3)).toArray, []⟩ H γ) :
    wpT Tryd.prog Y main 5 reg3 Q ⟨(mnT T none none none none).toArray, []⟩ H₀ γ := by
  have key : ∀ (fuel : Nat) (c0 c1 b2 b3 : Option Nat) (s4 s5 : Bool) (H : Hp), R3 H₀ H c0 c1 b2 b3 s4 s5 → cnt2 c0.isSome + cnt2 c1.isSome + cnt2 b2.isSome + cnt2 b3.isSome + cnt2 s4 + cnt2 s5 + fuel = 6 →
      AnyT Tryd.prog Y main ops3 [0, 1, 2, 3, 4, 5] [] Q fuel #[c0.isSome, c1.isSome, b2.isSome, b3.isSome, s4, s5] ⟨(mnT T c0 c1 b2 b3).toArray, []⟩ H γ := by
    intro fuel
    induction fuel with
    | zero =>
      intro c0 c1 b2 b3 s4 s5 H h hc
      cases c0 <;> cases c1 <;> cases b2 <;> cases b3 <;> cases s4 <;> cases s5 <;> first | (simp [cnt2] at hc; done) | skip
      exact ⟨ready_done, hQ _ _ _ _ H h⟩
    | succ fuel ih =>
      intro c0 c1 b2 b3 s4 s5 H h hc
      refine ⟨fun h0 => ?_, fun i hi => ?_⟩
      · exfalso
        have := ready_some c0.isSome c1.isSome b2.isSome b3.isSome s4 s5
        rw [h0] at this
        simp only [List.isEmpty_nil, Bool.not_true, Bool.or_false, Bool.and_eq_true] at this
        obtain ⟨⟨⟨⟨⟨e0, e1⟩, e2⟩, e3⟩, e4⟩, e5⟩ := this
        rw [e0, e1, e2, e3, e4, e5] at hc
        simp [cnt2] at hc
      · have hm := List.all_eq_true.1 (ready_may c0.isSome c1.isSome b2.isSome b3.isSome s4 s5) i hi
        match i, hm with
        | 0, hm =>
          obtain rfl : c0 = none := by cases c0 with | none => rfl | some _ => cases hm
          refine opT_of rfl rfl ?_
          simp only [execOp, uponT, resolve, Deferred.ofValue, invoke, builtin, asBool, Instr.makeFunc, Instr.extract, sx, Act.put, Act.eval, nrm, mnT, mkCh40]
          intro m hm1 hm2
          exact ⟨⟨fun x => absurd (by simp) x, fun x => by cases x⟩, ih (some m) c1 b2 b3 s4 s5 _ (h.mk0 hm1 hm2) (by simp [cnt2] at hc ⊢; omega)⟩
        | 1, hm =>
          obtain rfl : c1 = none := by cases c1 with | none => rfl | some _ => cases hm
          refine opT_of rfl rfl ?_
          simp only [execOp, uponT, resolve, Deferred.ofValue, invoke, builtin, asBool, Instr.makeFunc, Instr.extract, sx, Act.put, Act.eval, nrm, mnT, mkCh41]
          intro m hm1 hm2
          exact ⟨⟨fun x => absurd (by simp) x, fun x => by cases x⟩, ih c0 (some m) b2 b3 s4 s5 _ (h.mk1 hm1 hm2) (by simp [cnt2] at hc ⊢; omega)⟩
        | 2, hm =>
          obtain rfl : b2 = none := by cases b2 with | none => rfl | some _ => cases hm
          refine opT_of rfl rfl ?_
          simp only [execOp, uponT, resolve, Deferred.ofValue, invoke, builtin, asBool, Instr.makeFunc, Instr.extract, sx, Act.put, Act.eval, nrm, mnT, semS_alloc info40 zero40, Value.cells]
          intro m hm1 hm2
          exact ⟨⟨fun x => absurd (by simp) x, fun x => by cases x⟩, ih c0 c1 (some m) b3 s4 s5 _ (h.mk2 hm1 hm2) (by simp [cnt2] at hc ⊢; omega)⟩
        | 3, hm =>
          obtain rfl : b3 = none := by cases b3 with | none => rfl | some _ => cases hm
          refine opT_of rfl rfl ?_
          simp only [execOp, uponT, resolve, Deferred.ofValue, invoke, builtin, asBool, Instr.makeFunc, Instr.extract, sx, Act.put, Act.eval, nrm, mnT, semS_alloc info41 zero41, Value.cells]
          intro m hm1 hm2
          exact ⟨⟨fun x => absurd (by simp) x, fun x => by cases x⟩, ih c0 c1 b2 (some m) s4 s5 _ (h.mk3 hm1 hm2) (by simp [cnt2] at hc ⊢; omega)⟩
        | 4, hm =>
          simp only [may, Bool.and_eq_true, Bool.not_eq_true'] at hm
          obtain ⟨⟨e1, e2⟩, rfl⟩ := hm
          obtain ⟨c0, rfl⟩ := Option.isSome_iff_exists.1 e1
          obtain ⟨b2, rfl⟩ := Option.isSome_iff_exists.1 e2
          have eo : ∀ h, (ops3[4]'h).op = Op.store 40 (.tmp 8) (.tmp 26) := fun _ => rfl
          have ed : ∀ h, (ops3[4]'h).dst = none := fun _ => rfl
          refine opT_of rfl rfl ?_
          simp only [eo, ed, execOp, uponT, resolve, Deferred.ofValue, invoke, builtin, asBool, Instr.makeFunc, Instr.extract, sx, Act.put, Act.eval, nrm, mnT, ptrO, chO, semS_storeAt info40 size40 (h.hb2 b2 rfl) (off := 0) (show 0 < (#[Value.chan (if false = true then some c0 else none)] : Array Value).size by simp) (v := .chan (some c0)) rfl]
          exact ⟨⟨fun x => absurd (by simp) x, fun x => by cases x⟩, ih (some c0) c1 (some b2) b3 true s5 _ h.st4 (by simp [cnt2] at hc ⊢; omega)⟩
        | 5, hm =>
          simp only [may, Bool.and_eq_true, Bool.not_eq_true'] at hm
          obtain ⟨⟨e1, e2⟩, rfl⟩ := hm
          obtain ⟨c1, rfl⟩ := Option.isSome_iff_exists.1 e1
          obtain ⟨b3, rfl⟩ := Option.isSome_iff_exists.1 e2
          have eo : ∀ h, (ops3[5]'h).op = Op.store 41 (.tmp 9) (.tmp 27) := fun _ => rfl
          have ed : ∀ h, (ops3[5]'h).dst = none := fun _ => rfl
          refine opT_of rfl rfl ?_
          simp only [eo, ed, execOp, uponT, resolve, Deferred.ofValue, invoke, builtin, asBool, Instr.makeFunc, Instr.extract, sx, Act.put, Act.eval, nrm, mnT, ptrO, chO, semS_storeAt info41 size41 (h.hb3 b3 rfl) (off := 0) (show 0 < (#[Value.chan (if false = true then some c1 else none)] : Array Value).size by simp) (v := .chan (some c1)) rfl]
          exact ⟨⟨fun x => absurd (by simp) x, fun x => by cases x⟩, ih c0 (some c1) b2 (some b3) s4 true _ h.st5 (by simp [cnt2] at hc ⊢; omega)⟩
  change wpT Tryd.prog Y main 5 (.region 3 ops3 true) Q _ _ _
  refine wpT_draw [0, 1, 2, 3, 4, 5] [] mixed fun _ => ?_
  exact key 6 none none none none false false H₀ ⟨fun _ _ x => x, rfl, rfl, hap, fun _ x => (by rcases x with x | x | x | x <;> cases x), fun _ x => (by cases x), fun _ x => (by cases x), fun _ x => (by cases x), fun _ x => (by cases x), fun x => (by cases x), fun x => (by cases x)⟩ (by simp [cnt2])
end Go.Proofs.YtcomjkbfmklfnaaDoor
