/-
  What Play knows of its memory between its steps, and how each step turns it. Conditions: none.
-/
import Derived.Test.YtcomjkbfmklfnaaDoorWf
set_option linter.unusedSimpArgs false
set_option linter.unusedVariables false
namespace Go.Proofs.YtcomjkbfmklfnaaDoor
open Go.Conc Go.Sep

/-- Not there when the call began. -/
def New (H : Hp) (b : Nat) : Prop := H.own b = none ∧ H.ro b = none

theorem own_ne {H : Hp} {a b : Nat} {o : Obj} (h1 : H.own a = some o) (h2 : H.own b = none) : a ≠ b := by rintro rfl; rw [h1] at h2; cases h2

theorem New.of {H₀ H : Hp} (h : Less H H₀) {b : Nat} (hb : New H b) : New H₀ b := by
  refine ⟨less_own_none h hb.1, ?_⟩
  cases e : H₀.ro b with
  | none => rfl
  | some o => have := h.ro b o e; rw [hb.2] at this; cases this

theorem less_set_new {H₀ H : Hp} (h : Less H H₀) {b : Nat} (o : Obj) (hb : New H₀ b) : Less (H.set b o) H₀ :=
  ⟨fun b' o' h' => by rw [set_own_ne _ _ (own_ne h' hb.1)]; exact h.own b' o' h', fun b' o' h' => h.ro b' o' h', h.d⟩

theorem grow_set_new {H₀ H : Hp} (h : Grow H₀ H) {b : Nat} (o : Obj) (hb : New H₀ b) : Grow H₀ (H.set b o) := by
  intro a v ha
  rw [cell_set_ne ?_]
  · exact h a v ha
  · rintro rfl
    simp only [Hp.cell, Hp.look, hb.1, hb.2] at ha
    cases ha

theorem CK.own {H : Hp} {bc : Nat} {xs : List Int} : ∀ {o : Option Nat}, CK H bc xs o → H.own bc ≠ none
  | none, h => by rw [h.1]; simp
  | some B, ⟨_, _, _, h⟩ => by rw [h.hbc]; simp
theorem CK.own' {H : Hp} {bc B : Nat} {xs : List Int} (h : CK H bc xs (some B)) : H.own B ≠ none := by
  obtain ⟨_, _, _, h⟩ := h; rw [h.hB]; simp
theorem CK.set {H : Hp} {bc : Nat} {xs : List Int} {b : Nat} (o : Obj) (h1 : bc ≠ b) : ∀ {oB : Option Nat}, (∀ k, oB = some k → k ≠ b) → CK H bc xs oB → CK (H.set b o) bc xs oB
  | none, _, h => ⟨by rw [set_own_ne _ _ h1]; exact h.1, h.2⟩
  | some B, h2, ⟨cap, cs, t, h⟩ => ⟨cap, cs, t, by rw [set_own_ne _ _ h1]; exact h.hbc, by rw [set_own_ne _ _ (h2 B rfl)]; exact h.hB, h.ne, h.ints, h.size, h.len, h.small⟩
theorem intsl_set {H : Hp} {a : Option Addr} {cap : Nat} {xs : List Int} (h : IntSl H a cap xs) {b : Nat} (o : Obj) (hb : ∀ x, a = some x → x.block ≠ b) : IntSl (H.set b o) a cap xs := by
  rcases h with h | ⟨B, off, cs, t, e, h, hr⟩
  · exact .inl h
  · exact .inr ⟨B, off, cs, t, e, by rw [set_own_ne _ _ (hb _ e)]; exact h, hr⟩
theorem intsl_own {H : Hp} {x : Addr} {cap : Nat} {xs : List Int} (h : IntSl H (some x) cap xs) : H.own x.block ≠ none := by
  rcases h with ⟨h, _⟩ | ⟨B, off, cs, t, e, h, hr⟩
  · cases h
  · cases e; rw [h]; simp

/-- Play's memory. -/
structure PM (H₀ H : Hp) (bl bo B Bf bc : Nat) (oB : Option Nat) (aw : Option Addr) (capw : Nat) (ex : Option (Nat × Obj)) (aL : Option Addr) (ls : List Tap) (out : List (Int × Int)) (free clk : List Int) (wait : List Nat) : Prop where
  less : Less H H₀
  grow : Grow H₀ H
  hl : ∃ capL, H.own bl = some (.cells #[.slice aL ls.length capL] 23 (0, 0))
  hls : Taps H aL ls
  far : ∀ x, 0 < ls.length → aL = some x → H.own x.block = none
  ho : H.own bo = some (.cells #[.slice (some ⟨B, 0, none⟩) out.length out.length] 33 (0, 0))
  hB : ∃ cs, H.own B = some (.cells cs 37 (0, 0)) ∧ Fates cs out ∧ cs.size = out.length * 2
  hf : ∃ cs, H.own Bf = some (.cells cs 3 (0, 0)) ∧ Ints cs 0 free ∧ cs.size = free.length
  hc : CK H bc clk oB
  hw : IntSl H aw capw (nI wait)
  hx : ∀ b o, ex = some (b, o) → H.own b = some o
  olen : out.length = ls.length
  new : New H₀ bl ∧ New H₀ bo ∧ New H₀ B ∧ New H₀ Bf ∧ New H₀ bc
  newk : ∀ k, oB = some k → New H₀ k
  neww : ∀ x, aw = some x → New H₀ x.block
  newx : ∀ b o, ex = some (b, o) → New H₀ b
  dis : bl ≠ bo ∧ bl ≠ B ∧ bl ≠ Bf ∧ bl ≠ bc ∧ bo ≠ B ∧ bo ≠ Bf ∧ bo ≠ bc ∧ B ≠ Bf ∧ B ≠ bc ∧ Bf ≠ bc
  dk : ∀ k, oB = some k → bl ≠ k ∧ bo ≠ k ∧ B ≠ k ∧ Bf ≠ k ∧ bc ≠ k
  dw : ∀ x, aw = some x → bl ≠ x.block ∧ bo ≠ x.block ∧ B ≠ x.block ∧ Bf ≠ x.block ∧ bc ≠ x.block
  dx : ∀ b o, ex = some (b, o) → bl ≠ b ∧ bo ≠ b ∧ B ≠ b ∧ Bf ≠ b ∧ bc ≠ b
  dkw : ∀ k x, oB = some k → aw = some x → x.block ≠ k
  dkx : ∀ k b o, oB = some k → ex = some (b, o) → b ≠ k
  dwx : ∀ x b o, aw = some x → ex = some (b, o) → b ≠ x.block

section
variable {H₀ H : Hp} {bl bo B Bf bc : Nat} {oB : Option Nat} {aw : Option Addr} {capw : Nat} {ex : Option (Nat × Obj)} {aL : Option Addr} {ls : List Tap} {out : List (Int × Int)} {free clk : List Int} {wait : List Nat}

/-- A block that is not of the tape's. -/
theorem PM.apart (h : PM H₀ H bl bo B Bf bc oB aw capw ex aL ls out free clk wait) {b : Nat} (hb : H.own b ≠ none ∨ New H b) : ∀ x, 0 < ls.length → aL = some x → x.block ≠ b := by
  rintro x l e rfl
  rcases hb with hb | hb
  · exact hb (h.far x l e)
  · obtain ⟨B', off, e', hT⟩ := h.hls.resolve_left (by omega)
    rw [e] at e'; cases e'
    have := (hT 0 l).1
    simp only [Hp.cell, Hp.look, hb.1, hb.2] at this
    cases this

theorem PM.owned (h : PM H₀ H bl bo B Bf bc oB aw capw ex aL ls out free clk wait) : H.own bl ≠ none ∧ H.own bo ≠ none ∧ H.own B ≠ none ∧ H.own Bf ≠ none ∧ H.own bc ≠ none := by
  obtain ⟨_, hl⟩ := h.hl
  obtain ⟨_, hB, _⟩ := h.hB
  obtain ⟨_, hf, _⟩ := h.hf
  exact ⟨by rw [hl]; simp, by rw [h.ho]; simp, by rw [hB]; simp, by rw [hf]; simp, h.hc.own⟩

/-- A new box. -/
theorem PM.box (h : PM H₀ H bl bo B Bf bc oB aw capw ex aL ls out free clk wait) {b : Nat} (hb : New H b) (o : Obj) : PM H₀ (H.set b o) bl bo B Bf bc oB aw capw (some (b, o)) aL ls out free clk wait := by
  obtain ⟨o1, o2, o3, o4, o5⟩ := h.owned
  have nb : ∀ {c}, H.own c ≠ none → c ≠ b := fun hc e => hc (by rw [e]; exact hb.1)
  have nw : ∀ x, aw = some x → x.block ≠ b := fun x e => nb (by have := h.hw; rw [e] at this; exact intsl_own this)
  have nk : ∀ k, oB = some k → k ≠ b := fun k e => nb (by have := h.hc; rw [e] at this; exact this.own')
  have hn := New.of h.less hb
  have ap := h.apart (.inr hb)
  refine ⟨less_set_new h.less o hn, grow_set_new h.grow o hn, by rw [set_own_ne _ _ (nb o1)]; exact h.hl, h.hls.set _ ap, fun x l e => by rw [set_own_ne _ _ (ap x l e)]; exact h.far x l e, by rw [set_own_ne _ _ (nb o2)]; exact h.ho, by rw [set_own_ne _ _ (nb o3)]; exact h.hB, by rw [set_own_ne _ _ (nb o4)]; exact h.hf, h.hc.set _ (nb o5) nk, intsl_set h.hw _ nw, ?_, h.olen, h.new, h.newk, h.neww, ?_, h.dis, h.dk, h.dw, ?_, h.dkw, ?_, ?_⟩
  · rintro _ _ ⟨⟩; exact set_own_same _ _ _
  · rintro _ _ ⟨⟩; exact hn
  · rintro _ _ ⟨⟩; exact ⟨nb o1, nb o2, nb o3, nb o4, nb o5⟩
  · rintro k _ _ e ⟨⟩; exact Ne.symm (nk k e)
  · rintro x _ _ e ⟨⟩; exact Ne.symm (nw x e)

/-- The box is written. -/
theorem PM.unbox (h : PM H₀ H bl bo B Bf bc oB aw capw ex aL ls out free clk wait) : PM H₀ H bl bo B Bf bc oB aw capw none aL ls out free clk wait :=
  { h with hx := fun _ _ e => (by cases e), newx := fun _ _ e => (by cases e), dx := fun _ _ e => (by cases e), dkx := fun _ _ _ _ e => (by cases e), dwx := fun _ _ _ _ e => (by cases e) }

/-- The clock turns. -/
theorem PM.clk' (h : PM H₀ H bl bo B Bf bc oB aw capw ex aL ls out free clk wait) {k : Nat} {o o' : Obj} {clk' : List Int} (hk : oB = some k ∨ New H k) (hc : CK ((H.set k o).set bc o') bc clk' (some k)) :
    PM H₀ ((H.set k o).set bc o') bl bo B Bf bc (some k) aw capw ex aL ls out free clk' wait := by
  obtain ⟨o1, o2, o3, o4, o5⟩ := h.owned
  obtain ⟨d1, d2, d3, d4, d5, d6, d7, d8, d9, d10⟩ := h.dis
  have hn : New H₀ k := by
    rcases hk with hk | hk
    · exact h.newk k hk
    · exact New.of h.less hk
  have hnc : New H₀ bc := h.new.2.2.2.2
  have nb : ∀ {c}, H.own c ≠ none → (oB = some k → c ≠ k) → c ≠ k := fun {c} hc0 h' => by
    rcases hk with hk | hk
    · exact h' hk
    · rintro rfl; exact hc0 hk.1
  have n1 : bl ≠ k := nb o1 fun e => (h.dk k e).1
  have n2 : bo ≠ k := nb o2 fun e => (h.dk k e).2.1
  have n3 : B ≠ k := nb o3 fun e => (h.dk k e).2.2.1
  have n4 : Bf ≠ k := nb o4 fun e => (h.dk k e).2.2.2.1
  have n5 : bc ≠ k := nb o5 fun e => (h.dk k e).2.2.2.2
  have nw : ∀ x, aw = some x → x.block ≠ k := fun x e => nb (by have := h.hw; rw [e] at this; exact intsl_own this) fun e' => h.dkw k x e' e
  have nx : ∀ b o, ex = some (b, o) → b ≠ k := fun b o e => nb (by rw [h.hx b o e]; simp) fun e' => h.dkx k b o e' e
  have ap : ∀ x, 0 < ls.length → aL = some x → x.block ≠ k := by
    refine h.apart ?_
    rcases hk with hk | hk
    · have := h.hc; rw [hk] at this; exact .inl this.own'
    · exact .inr hk
  have ap2 := h.apart (.inl o5)
  have two : ∀ {c}, c ≠ k → c ≠ bc → ((H.set k o).set bc o').own c = H.own c := fun h1 h2 => by rw [set_own_ne _ _ h2, set_own_ne _ _ h1]
  refine ⟨less_set_new (less_set_new h.less o hn) o' hnc, grow_set_new (grow_set_new h.grow o hn) o' hnc, by rw [two n1 d4]; exact h.hl, (h.hls.set _ ap).set _ ap2, fun x l e => by rw [two (ap x l e) (ap2 x l e)]; exact h.far x l e, by rw [two n2 d7]; exact h.ho, by rw [two n3 d9]; exact h.hB, by rw [two n4 d10]; exact h.hf, hc, intsl_set (intsl_set h.hw _ nw) _ (fun x e => Ne.symm (h.dw x e).2.2.2.2), fun b o e => by rw [two (nx b o e) (Ne.symm (h.dx b o e).2.2.2.2)]; exact h.hx b o e, h.olen, h.new, ?_, h.neww, h.newx, h.dis, ?_, h.dw, h.dx, ?_, ?_, h.dwx⟩
  · rintro _ ⟨⟩; exact hn
  · rintro _ ⟨⟩; exact ⟨n1, n2, n3, n4, n5⟩
  · rintro _ x ⟨⟩ e; exact nw x e
  · rintro _ b o ⟨⟩ e; exact nx b o e

/-- Who waits, turned. -/
theorem PM.wait' (h : PM H₀ H bl bo B Bf bc oB aw capw ex aL ls out free clk wait) {n off capw' : Nat} {o : Obj} {wait' : List Nat} (hn' : (∃ x, aw = some x ∧ x.block = n) ∨ New H n) (hw : IntSl (H.set n o) (some ⟨n, off, none⟩) capw' (nI wait')) :
    PM H₀ (H.set n o) bl bo B Bf bc oB (some ⟨n, off, none⟩) capw' ex aL ls out free clk wait' := by
  obtain ⟨o1, o2, o3, o4, o5⟩ := h.owned
  have hn : New H₀ n := by
    rcases hn' with ⟨x, hx, rfl⟩ | hk
    · exact h.neww x hx
    · exact New.of h.less hk
  have nb : ∀ {c}, H.own c ≠ none → (∀ x, aw = some x → c ≠ x.block) → c ≠ n := fun {c} hc h' => by
    rcases hn' with ⟨x, hx, rfl⟩ | hk
    · exact h' x hx
    · rintro rfl; exact hc hk.1
  have n1 : bl ≠ n := nb o1 fun x e => (h.dw x e).1
  have n2 : bo ≠ n := nb o2 fun x e => (h.dw x e).2.1
  have n3 : B ≠ n := nb o3 fun x e => (h.dw x e).2.2.1
  have n4 : Bf ≠ n := nb o4 fun x e => (h.dw x e).2.2.2.1
  have n5 : bc ≠ n := nb o5 fun x e => (h.dw x e).2.2.2.2
  have nk : ∀ k, oB = some k → k ≠ n := fun k e => nb (by have := h.hc; rw [e] at this; exact this.own') fun x e' => Ne.symm (h.dkw k x e e')
  have nx : ∀ b o, ex = some (b, o) → b ≠ n := fun b o e => nb (by rw [h.hx b o e]; simp) fun x e' => h.dwx x b o e' e
  have ap : ∀ x, 0 < ls.length → aL = some x → x.block ≠ n := by
    refine h.apart ?_
    rcases hn' with ⟨x, hx, rfl⟩ | hk
    · have := h.hw; rw [hx] at this; exact .inl (intsl_own this)
    · exact .inr hk
  refine ⟨less_set_new h.less o hn, grow_set_new h.grow o hn, by rw [set_own_ne _ _ n1]; exact h.hl, h.hls.set _ ap, fun x l e => by rw [set_own_ne _ _ (ap x l e)]; exact h.far x l e, by rw [set_own_ne _ _ n2]; exact h.ho, by rw [set_own_ne _ _ n3]; exact h.hB, by rw [set_own_ne _ _ n4]; exact h.hf, h.hc.set _ n5 nk, hw, fun b o e => by rw [set_own_ne _ _ (nx b o e)]; exact h.hx b o e, h.olen, h.new, h.newk, ?_, h.newx, h.dis, h.dk, ?_, h.dx, ?_, h.dkx, ?_⟩
  · rintro _ ⟨⟩; exact hn
  · rintro _ ⟨⟩; exact ⟨n1, n2, n3, n4, n5⟩
  · rintro k _ e ⟨⟩; exact Ne.symm (nk k e)
  · rintro _ b o ⟨⟩ e; exact nx b o e

/-- Who waits, by another slice of the same memory. -/
theorem PM.rewait (h : PM H₀ H bl bo B Bf bc oB aw capw ex aL ls out free clk wait) {aw' : Option Addr} {capw' : Nat} {wait' : List Nat} (he : ∀ x', aw' = some x' → ∃ x, aw = some x ∧ x.block = x'.block) (hw : IntSl H aw' capw' (nI wait')) :
    PM H₀ H bl bo B Bf bc oB aw' capw' ex aL ls out free clk wait' :=
  { h with
    hw := hw
    neww := fun x' e => by obtain ⟨x, ex', hb⟩ := he x' e; rw [← hb]; exact h.neww x ex'
    dw := fun x' e => by obtain ⟨x, ex', hb⟩ := he x' e; rw [← hb]; exact h.dw x ex'
    dkw := fun k x' ek e => by obtain ⟨x, ex', hb⟩ := he x' e; rw [← hb]; exact h.dkw k x ek ex'
    dwx := fun x' b o e eb => by obtain ⟨x, ex', hb⟩ := he x' e; rw [← hb]; exact h.dwx x b o ex' eb }

/-- A fate is written. -/
theorem PM.out' (h : PM H₀ H bl bo B Bf bc oB aw capw ex aL ls out free clk wait) {cs' : Array Value} {out' : List (Int × Int)} (hF : Fates cs' out') (hs : cs'.size = out.length * 2) (hl : out'.length = out.length) :
    PM H₀ (H.set B (.cells cs' 37 (0, 0))) bl bo B Bf bc oB aw capw ex aL ls out' free clk wait := by
  obtain ⟨o1, o2, o3, o4, o5⟩ := h.owned
  obtain ⟨d1, d2, d3, d4, d5, d6, d7, d8, d9, d10⟩ := h.dis
  have hn := h.new.2.2.1
  have ap := h.apart (.inl o3)
  exact ⟨less_set_new h.less _ hn, grow_set_new h.grow _ hn, by rw [set_own_ne _ _ d2]; exact h.hl, h.hls.set _ ap, fun x l e => by rw [set_own_ne _ _ (ap x l e)]; exact h.far x l e, by rw [set_own_ne _ _ d5, hl]; exact h.ho, ⟨cs', set_own_same _ _ _, hF, by rw [hl]; exact hs⟩, by rw [set_own_ne _ _ (Ne.symm d8)]; exact h.hf, h.hc.set _ (Ne.symm d9) (fun k e => Ne.symm (h.dk k e).2.2.1), intsl_set h.hw _ (fun x e => Ne.symm (h.dw x e).2.2.1), fun b o e => by rw [set_own_ne _ _ (Ne.symm (h.dx b o e).2.2.1)]; exact h.hx b o e, by rw [hl]; exact h.olen, h.new, h.newk, h.neww, h.newx, h.dis, h.dk, h.dw, h.dx, h.dkw, h.dkx, h.dwx⟩

/-- One is busy from now on. -/
theorem PM.free' (h : PM H₀ H bl bo B Bf bc oB aw capw ex aL ls out free clk wait) {cs' : Array Value} {free' : List Int} (hF : Ints cs' 0 free') (hs : cs'.size = free'.length) :
    PM H₀ (H.set Bf (.cells cs' 3 (0, 0))) bl bo B Bf bc oB aw capw ex aL ls out free' clk wait := by
  obtain ⟨o1, o2, o3, o4, o5⟩ := h.owned
  obtain ⟨d1, d2, d3, d4, d5, d6, d7, d8, d9, d10⟩ := h.dis
  have hn := h.new.2.2.2.1
  have ap := h.apart (.inl o4)
  exact ⟨less_set_new h.less _ hn, grow_set_new h.grow _ hn, by rw [set_own_ne _ _ d3]; exact h.hl, h.hls.set _ ap, fun x l e => by rw [set_own_ne _ _ (ap x l e)]; exact h.far x l e, by rw [set_own_ne _ _ d6]; exact h.ho, by rw [set_own_ne _ _ d8]; exact h.hB, ⟨cs', set_own_same _ _ _, hF, hs⟩, h.hc.set _ (Ne.symm d10) (fun k e => Ne.symm (h.dk k e).2.2.2.1), intsl_set h.hw _ (fun x e => Ne.symm (h.dw x e).2.2.2.1), fun b o e => by rw [set_own_ne _ _ (Ne.symm (h.dx b o e).2.2.2.1)]; exact h.hx b o e, h.olen, h.new, h.newk, h.neww, h.newx, h.dis, h.dk, h.dw, h.dx, h.dkw, h.dkx, h.dwx⟩
end
end Go.Proofs.YtcomjkbfmklfnaaDoor
