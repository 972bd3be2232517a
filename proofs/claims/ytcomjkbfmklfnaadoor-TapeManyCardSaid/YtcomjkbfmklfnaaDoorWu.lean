/-
  What Many's walk wants: a go statement; what grows of what the caller knows; the company opened. Conditions: none.
-/
import Derived.Test.YtcomjkbfmklfnaaDoorWt
set_option linter.unusedSimpArgs false
set_option linter.unusedVariables false
namespace Go.Sep
open Go.Conc
section
variable {Γ κ : Type} {P : Program} {Y : Proto Γ κ} {main : Bool} {fn : FuncId} {a : Act} {H : Hp} {γ : Γ}
theorem opsL_go {ops : Array Oper} {o : Oper} {os : List Oper} {K : Act → Hp → Γ → Prop} {d : Deferred} {f : Fn} {c : Array Value} {H' Hc : Hp} {γ' γc : Γ} (hw : Region.wanted o (yielded ops a.tmps) = true)
    (hr : ∀ w, (execOp a.eval o).run P w = .ok (.spawn d) w) (he : ∀ w, (execOp a.eval o).events P w #[] = #[]) (hd : d.target = .fn f c) (hs : Y.Sp H γ H' γ' Hc γc) (ht : Tree P Y false (born P d) Hc γc)
    (h : OpsL P Y main fn ops os K (a.put o.dst undef) H' γ') : OpsL P Y main fn ops (o :: os) K a H γ := by
  intro pre hp b k cs hb hk hc
  have ho : ops[pre.length]? = some o := by rw [← Array.getElem?_toList, hp]; simp
  rw [List.length_cons, List.range'_succ]
  refine .spawn (G (b.at (a.put o.dst undef) (.inRegion ops (List.range' (pre.length + 1) os.length) :: k)) cs) (born P d) H' Hc γ' γc rfl (fun w _ => ?_) hs ht ?_
  · rw [stepG_spawn ho hw hk (hr w) hd]
    unfold listed
    rw [he w, seen_none]
  · have := h (pre ++ [o]) (by rw [hp]; simp)
    rw [List.length_append, List.length_singleton] at this
    exact this b k cs hb hk hc
end
end Go.Sep
namespace Go.Proofs.YtcomjkbfmklfnaaDoor
open Go.Conc Go.Sep
open Go.ConcR (KK wgBlock)

/-- More is known, and all that was known. -/
structure Ext (H H' : Hp) : Prop where
  own : ∀ b o, H.own b = some o → H'.own b = some o
  ro : ∀ b o, H.ro b = some o → H'.ro b = some o
  d : H'.d = H.d
  ap : Ap H'
theorem Ext.refl {H : Hp} (h : Ap H) : Ext H H := ⟨fun _ _ x => x, fun _ _ x => x, rfl, h⟩
theorem Ext.trans {H₀ H₁ H₂ : Hp} (h : Ext H₀ H₁) (k : Ext H₁ H₂) : Ext H₀ H₂ := ⟨fun b o x => k.own b o (h.own b o x), fun b o x => k.ro b o (h.ro b o x), k.d.trans h.d, k.ap⟩
theorem Ext.none' {H₀ H : Hp} (h : Ext H₀ H) {n : Nat} (h1 : H.own n = none) : H₀.own n = none := by
  cases e : H₀.own n with
  | none => rfl
  | some o => rw [h.own _ _ e] at h1; cases h1
theorem Ext.new {H₀ H : Hp} (h : Ext H₀ H) {n : Nat} (h1 : H.own n = none) (h2 : H.ro n = none) (o : Obj) : Ext H₀ (H.set n o) := by
  refine ⟨fun b x hb => ?_, h.ro, h.d, h.ap.set _ h2⟩
  have : b ≠ n := by rintro rfl; rw [h.none' h1] at hb; cases hb
  rw [set_own_ne _ _ this]; exact h.own b x hb
/-- A block that the caller did not own is laid anew. -/
theorem Ext.upd {H₀ H : Hp} (h : Ext H₀ H) {n : Nat} {o : Obj} (h0 : H₀.own n = .none) (h1 : H.own n = some o) (o' : Obj) : Ext H₀ (H.set n o') := by
  refine ⟨fun b x hb => ?_, h.ro, h.d, h.ap.set _ ?_⟩
  · have : b ≠ n := by rintro rfl; rw [h0] at hb; cases hb
    rw [set_own_ne _ _ this]; exact h.own b x hb
  · cases e : H.ro n with
    | none => rfl
    | some x => rw [h.ap n (by rw [e]; simp)] at h1; cases h1
theorem Ext.share {H₀ H : Hp} (h : Ext H₀ H) {n : Nat} {o : Obj} (h0 : H₀.own n = .none) (h1 : H.own n = some o) : Ext H₀ (H.share n) := by
  have hro : H.ro n = .none := by
    cases e : H.ro n with
    | none => rfl
    | some x => rw [h.ap n (by rw [e]; simp)] at h1; cases h1
  refine ⟨fun b x hb => ?_, fun b x hb => ?_, h.d, fun b hb => ?_⟩
  · have : b ≠ n := by rintro rfl; rw [h0] at hb; cases hb
    rw [share_own_ne this]; exact h.own b x hb
  · have := h.ro b x hb
    have hne : b ≠ n := by rintro rfl; rw [hro] at this; cases this
    rw [share_ro_ne hne]; exact this
  · by_cases e : b = n
    · subst e; exact share_own
    · rw [share_own_ne e]; rw [share_ro_ne e] at hb; exact h.ap b hb
theorem share_ro {H : Hp} {b : Nat} : (H.share b).ro b = H.own b := by simp [Hp.share]
theorem Ext.drop2 {H₀ H : Hp} (h : Ext H₀ H) {x y : Nat} (hx : H₀.own x = .none) (hy : H₀.own y = .none) : Ext H₀ (H.drop2 x y) := by
  refine ⟨fun b o hb => ?_, h.ro, h.d, fun b hb => ?_⟩
  · have h1 : b ≠ x := by rintro rfl; rw [hx] at hb; cases hb
    have h2 : b ≠ y := by rintro rfl; rw [hy] at hb; cases hb
    simp only [Hp.drop2, h1, h2, or_self, if_false]; exact h.own b o hb
  · simp only [Hp.drop2]
    split
    · rfl
    · exact h.ap b hb
theorem Ext.drop1 {H₀ H : Hp} (h : Ext H₀ H) {x : Nat} (hx : H₀.own x = .none) : Ext H₀ (H.drop1 x) := by
  refine ⟨fun b o hb => ?_, h.ro, h.d, fun b hb => ?_⟩
  · have h1 : b ≠ x := by rintro rfl; rw [hx] at hb; cases hb
    simp only [Hp.drop1, h1, if_false]; exact h.own b o hb
  · simp only [Hp.drop1]
    split
    · rfl
    · exact h.ap b hb
theorem Ext.learn {H₀ H : Hp} (h : Ext H₀ H) {car : Option (Nat × Obj)} (hc : ∀ B o, car = some (B, o) → H.own B = .none ∧ ∀ o', H.ro B = some o' → o' = o) : Ext H₀ (H.learn car) := by
  cases car with
  | none => exact h
  | some x =>
    obtain ⟨B, o⟩ := x
    obtain ⟨h1, h2⟩ := hc B o rfl
    refine ⟨h.own, fun b x hb => ?_, h.d, fun b hb => ?_⟩
    · have := h.ro b x hb
      simp only [Hp.learn]
      split
      · rename_i e; subst e; rw [h2 _ this]
      · exact this
    · simp only [Hp.learn] at hb ⊢
      by_cases e : b = B
      · subst e; exact h1
      · simp only [e, if_false] at hb; exact h.ap b hb

theorem region3' {Γ κ : Type} (Y : Proto Γ κ) (main : Bool) {H₀ : Hp} {γ : Γ} (hap : Ap H₀) {a : Act} (ha : a = ⟨(mnT (slot a) none none none none).toArray, []⟩) {Q : Exit → Act → Hp → Γ → Prop}
    (hQ : ∀ T, (∀ i, i < 8 → T i = slot a i) → ∀ c0 c1 b2 b3 H, R3 H₀ H (some c0) (some c1) (some b2) (some b3) true true → Q .normal ⟨(mnT T (some c0) (some c1) (some b2) (some b3)).toArray, []⟩ H γ) :
    wpT Tryd.prog Y main 5 reg3 Q a H₀ γ := by
  rw [ha]
  exact region3 Y main hap (slot a) fun c0 c1 b2 b3 H h => hQ (slot a) (fun _ _ => rfl) c0 c1 b2 b3 H h

theorem build54at {H : Hp} (x : Int) (K : Value → Hp → Prop) : SemS Tryd.prog (Instr.build 54 #[(0, .int .i64 x)]) H K = K (.agg #[.int .i64 x, .slice none 0 0, .nilIface]) H := by
  simp only [Instr.build, semS_bind, semS_zeroValue, info54, zero54, semS_underlying, str54, fs54_eq, List.mapM_toArray, List.mapM_cons, List.mapM_nil, semS_map, semS_pure, semS_sizeOf, fd54x0t, fd54x1t, fd54x2t, info3, info33, info27, size3, size33, size27, fd54x0o, fd54x1o, fd54x2o]
  simp [Instr.fill, Value.cells]

/-- 'make' of a slice of slices. -/
theorem semS_makeSl {P : Program} {H : Hp} {st e : TypeId} (hu : P.underlying st = some (.slice e)) {ti : TypeInfo} (hi : P.info? e = some ti) (hsz : ti.size = 1) (hby : ti.bytes = 24) (hz : ti.zero = some (.slice none 0 0)) (n : Nat) (hn : n < 1000) (K : Value → Hp → Prop)
    (h : ∀ m cs, H.own m = none → H.ro m = none → (∀ k, k < n → cs[k]? = some (Value.slice none 0 0)) → cs.size = n → K (.slice (some ⟨m, 0, none⟩) n n) (H.set m (.cells cs e (0, 0)))) :
    SemS P (Instr.makeSlice st (.int .i64 n) (.int .i64 n)) H K := by
  have hw : IntKind.i64.wrap (n : Int) = n := Go.IntWalk.i64_in _ (by omega)
  simp only [Instr.makeSlice, semS_bind, semS_underlying, hu, semS_pure, asInt, asIntOf, semS_map, semS_typeInfo, hi, hby, hw]
  have c1 : ¬ ((n : Int) < 0) := by omega
  have c2 : ¬ (((24 : Nat) : Int) * (n : Int) > 2 ^ 48) := by omega
  simp only [c1, c2, decide_false, Bool.or_self, Bool.false_eq_true, if_false, semS_ite, semS_bind, semS_askRoom, semS_sizeOf, hi, hsz, semS_pure, Int.toNat_natCast, gt_iff_lt, Int.lt_irrefl, newRow, semS_newObj]
  by_cases h0 : n * 1 = 0
  · have h1 : n = 0 := by omega
    subst h1
    simp only [Nat.zero_mul, if_true, semS_bind, semS_pure, semS_newObj]
    exact fun m a b => h m _ a b (fun k hk => by simp at hk) (by simp)
  · simp only [h0, if_false, semS_bind, semS_zeroValue, hi, hz, semS_pure, semS_newObj]
    refine fun m a b => h m _ a b (fun k hk => ?_) (by simp)
    simp [Value.cells, hk, hw, Nat.mod_one]
end Go.Proofs.YtcomjkbfmklfnaaDoor
