/-
  The memory of a company: what each goroutine relies upon holds of the world, and nobody else turns it. Conditions: none.
-/
import Derived.Test.YtcomjkbfmklfnaaDoorCc
set_option linter.unusedSimpArgs false
set_option linter.unusedVariables false
namespace Go.Sep
open Go.Conc
open Go.ConcR (KK wgBlock WgAt stA smA rd wr mk)

structure MemI (Hs : Nat → Hp) (RO : Nat → Option Obj) (Sy : Nat → Prop) (w : World) : Prop where
  view : ∀ j, View (Hs j) w
  own : ∀ i j b, i ≠ j → (Hs i).own b ≠ none → (Hs j).own b = none
  ro : ∀ j b o, (Hs j).ro b = some o → RO b = some o
  ownRO : ∀ j b, (Hs j).own b ≠ none → RO b = none
  held : ∀ b o, RO b = some o → w.heap[b]? = some o
  sync : ∀ b, Sy b → (∀ j, (Hs j).own b = none) ∧ RO b = none ∧ b < w.heap.size

section
variable {Hs : Nat → Hp} {RO : Nat → Option Obj} {Sy : Nat → Prop} {w w' : World} {i : Nat} {H' : Hp}

theorem some_of_ne {α : Type _} {x : Option α} (h : x ≠ none) : ∃ a, x = some a := by
  cases x with
  | none => exact absurd rfl h
  | some a => exact ⟨a, rfl⟩

theorem MemI.roLt (h : MemI Hs RO Sy w) {b : Nat} (hb : RO b ≠ none) : b < w.heap.size := by
  obtain ⟨o, ho⟩ := some_of_ne hb
  exact lt_of_heap (h.held b o ho)
theorem MemI.roRO (h : MemI Hs RO Sy w) {j b : Nat} (hb : (Hs j).ro b ≠ none) : RO b ≠ none := by
  obtain ⟨o, ho⟩ := some_of_ne hb
  rw [h.ro j b o ho]; simp
theorem MemI.div (h : MemI Hs RO Sy w) : Div Hs w.heap.size :=
  ⟨fun j b hb => own_lt (h.view j) hb, fun j b hb => h.roLt (h.roRO hb), h.own, fun i j b hb => by
    cases hr : (Hs j).ro b with
    | none => rfl
    | some o => have := h.ownRO i b hb; rw [h.ro j b o hr] at this; cases this⟩
theorem MemI.roOwn (h : MemI Hs RO Sy w) {b : Nat} (hb : RO b ≠ none) (j : Nat) : (Hs j).own b = none := by
  cases ho : (Hs j).own b with
  | none => rfl
  | some o => exact absurd (h.ownRO j b (by rw [ho]; simp)) hb

/-- AN OWN STEP leaves what nobody writes and where they meet. -/
theorem MemI.keeps (h : MemI Hs RO Sy w) {es : Array Event} (u : Upd (Hs i) H' w w' es) {b : Nat} (hb : RO b ≠ none ∨ Sy b) : w'.heap[b]? = w.heap[b]? := by
  rcases hb with hb | hb
  · exact u.same b (h.roLt hb) (h.roOwn hb i)
  · exact u.same b (h.sync b hb).2.2 ((h.sync b hb).1 i)

theorem MemI.own_step (h : MemI Hs RO Sy w) {es : Array Event} (u : Upd (Hs i) H' w w' es) : MemI (upd Hs i H') RO Sy w' := by
  have hd := h.div
  refine ⟨fun j => ?_, fun a j b hne hb => ?_, fun j b o hb => ?_, fun j b hb => ?_, fun b o hb => ?_, fun b hb => ⟨fun j => ?_, (h.sync b hb).2.1, ?_⟩⟩
  · by_cases hj : j = i
    · subst hj; rw [upd_same]; exact u.view
    · rw [upd_ne Hs H' hj]
      refine ⟨fun b o hb => ?_, fun b o hb => ?_, (h.view j).apart⟩
      · have hw := (h.view j).own b o hb
        rw [u.same b (lt_of_heap hw) (h.own j i b hj (by rw [hb]; simp))]; exact hw
      · rw [h.keeps u (.inl (h.roRO (j := j) (by rw [hb]; simp)))]; exact (h.view j).ro b o hb
  · by_cases ha : a = i
    · subst ha
      have hja : j ≠ a := fun e => hne e.symm
      rw [upd_same] at hb
      rw [upd_ne Hs H' hja]
      rcases u.dom b hb with h1 | h1
      · exact h.own a j b hne h1
      · cases ho : (Hs j).own b with
        | none => rfl
        | some o => have := hd.ownLt j b (by rw [ho]; simp); omega
    · rw [upd_ne Hs H' ha] at hb
      by_cases hj : j = i
      · subst hj
        rw [upd_same]
        cases ho : H'.own b with
        | none => rfl
        | some o =>
          rcases u.dom b (by rw [ho]; simp) with h1 | h1
          · exact absurd (h.own a j b hne hb) h1
          · have := hd.ownLt a b hb; omega
      · rw [upd_ne Hs H' hj]; exact h.own a j b hne hb
  · by_cases hj : j = i
    · subst hj; rw [upd_same, u.ro] at hb; exact h.ro j b o hb
    · rw [upd_ne Hs H' hj] at hb; exact h.ro j b o hb
  · by_cases hj : j = i
    · subst hj
      rw [upd_same] at hb
      rcases u.dom b hb with h1 | h1
      · exact h.ownRO j b h1
      · cases ho : RO b with
        | none => rfl
        | some o => have := h.roLt (b := b) (by rw [ho]; simp); omega
    · rw [upd_ne Hs H' hj] at hb; exact h.ownRO j b hb
  · rw [h.keeps u (.inl (by rw [hb]; simp))]; exact h.held b o hb
  · by_cases hj : j = i
    · subst hj
      rw [upd_same]
      cases ho : H'.own b with
      | none => rfl
      | some o =>
        rcases u.dom b (by rw [ho]; simp) with h1 | h1
        · exact absurd ((h.sync b hb).1 j) h1
        · have := (h.sync b hb).2.2; omega
    · rw [upd_ne Hs H' hj]; exact (h.sync b hb).1 j
  · exact Nat.lt_of_lt_of_le (h.sync b hb).2.2 u.size

/-- The world is turned where they meet alone. -/
theorem MemI.sync_step (h : MemI Hs RO Sy w) {Hs' : Nat → Hp} (ho : ∀ j, (Hs' j).own = (Hs j).own) (hr : ∀ j, (Hs' j).ro = (Hs j).ro) (hsz : w'.heap.size = w.heap.size) (hb : ∀ b, ¬ Sy b → w'.heap[b]? = w.heap[b]?) : MemI Hs' RO Sy w' := by
  have nsy : ∀ j b, (Hs j).own b ≠ none → ¬ Sy b := fun j b h1 h2 => h1 ((h.sync b h2).1 j)
  have nsr : ∀ b, RO b ≠ none → ¬ Sy b := fun b h1 h2 => h1 (h.sync b h2).2.1
  refine ⟨fun j => ⟨fun b o hb' => ?_, fun b o hb' => ?_, fun b hb' => ?_⟩, fun a j b hne hb' => ?_, fun j b o hb' => ?_, fun j b hb' => ?_, fun b o hb' => ?_, fun b hb' => ⟨fun j => ?_, (h.sync b hb').2.1, ?_⟩⟩
  · rw [ho] at hb'; rw [hb b (nsy j b (by rw [hb']; simp))]; exact (h.view j).own b o hb'
  · rw [hr] at hb'; rw [hb b (nsr b (h.roRO (j := j) (by rw [hb']; simp)))]; exact (h.view j).ro b o hb'
  · rw [ho] at hb'; rw [hr]; exact (h.view j).apart b hb'
  · rw [ho] at hb' ⊢; exact h.own a j b hne hb'
  · rw [hr] at hb'; exact h.ro j b o hb'
  · rw [ho] at hb'; exact h.ownRO j b hb'
  · rw [hb b (nsr b (by rw [hb']; simp))]; exact h.held b o hb'
  · rw [ho]; exact (h.sync b hb').1 j
  · rw [hsz]; exact (h.sync b hb').2.2

theorem MemI.at (h : MemI Hs RO Sy w) (d : Nat) : MemI Hs RO Sy (w.at d) := h.sync_step (fun _ => rfl) (fun _ => rfl) rfl fun _ _ => rfl

/-- Goroutine i relies upon something else: of its own it keeps at most what it had; what it reads nobody writes. -/
theorem MemI.turn (h : MemI Hs RO Sy w) {RO' : Nat → Option Obj} {Sy' : Nat → Prop} (ho : ∀ b o, H'.own b = some o → (Hs i).own b = some o) (hr : ∀ b o, H'.ro b = some o → RO' b = some o)
    (hR : ∀ b o, RO b = some o → RO' b = some o) (hR' : ∀ b o, RO' b = some o → RO b = some o ∨ ((Hs i).own b = some o ∧ H'.own b = none)) (hS : ∀ b, Sy' b → Sy b ∨ ((Hs i).own b ≠ none ∧ H'.own b = none ∧ RO' b = none)) : MemI (upd Hs i H') RO' Sy' w := by
  have ownle : ∀ j b o, (upd Hs i H' j).own b = some o → (Hs j).own b = some o := fun j b o hb => by
    by_cases hj : j = i
    · subst hj; rw [upd_same] at hb; exact ho b o hb
    · rw [upd_ne Hs H' hj] at hb; exact hb
  have ownne : ∀ j b, (upd Hs i H' j).own b ≠ none → (Hs j).own b ≠ none := fun j b hb => by
    obtain ⟨o, ho'⟩ := some_of_ne hb
    rw [ownle j b o ho']; simp
  have ownnone : ∀ j b, (Hs j).own b = none → (upd Hs i H' j).own b = none := fun j b hb => by
    cases hx : (upd Hs i H' j).own b with
    | none => rfl
    | some o => have := ownle j b o hx; rw [hb] at this; cases this
  have role : ∀ j b o, (upd Hs i H' j).ro b = some o → RO' b = some o := fun j b o hb => by
    by_cases hj : j = i
    · subst hj; rw [upd_same] at hb; exact hr b o hb
    · rw [upd_ne Hs H' hj] at hb; exact hR b o (h.ro j b o hb)
  have roheap : ∀ b o, RO' b = some o → w.heap[b]? = some o := fun b o hb => (hR' b o hb).elim (h.held b o) fun x => (h.view i).own b o x.1
  have ownRO' : ∀ j b, (upd Hs i H' j).own b ≠ none → RO' b = none := fun j b hb => by
    cases hx : RO' b with
    | none => rfl
    | some o =>
      rcases hR' b o hx with h1 | ⟨h1, h2⟩
      · have := h.ownRO j b (ownne j b hb); rw [h1] at this; cases this
      · by_cases hj : j = i
        · subst hj; rw [upd_same] at hb; exact absurd h2 hb
        · have := h.own i j b (fun e => hj e.symm) (by rw [h1]; simp)
          exact absurd this (ownne j b hb)
  refine ⟨fun j => ⟨fun b o hb => (h.view j).own b o (ownle j b o hb), fun b o hb => roheap b o (role j b o hb), fun b hb => ?_⟩, fun a j b hne hb => ownnone j b (h.own a j b hne (ownne a b hb)), role, ownRO', roheap, fun b hb => ?_⟩
  · cases hx : (upd Hs i H' j).ro b with
    | none => rfl
    | some o => have := ownRO' j b hb; rw [role j b o hx] at this; cases this
  · rcases hS b hb with h1 | ⟨h1, h2, h3⟩
    · refine ⟨fun j => ownnone j b ((h.sync b h1).1 j), ?_, (h.sync b h1).2.2⟩
      cases hx : RO' b with
      | none => rfl
      | some o =>
        rcases hR' b o hx with h4 | ⟨h4, _⟩
        · have := (h.sync b h1).2.1; rw [h4] at this; cases this
        · have := (h.sync b h1).1 i; rw [h4] at this; cases this
    · refine ⟨fun j => ?_, h3, own_lt (h.view i) h1⟩
      by_cases hj : j = i
      · subst hj; rw [upd_same]; exact h2
      · rw [upd_ne Hs H' hj]; exact h.own i j b (fun e => hj e.symm) h1

theorem MemI.sub (h : MemI Hs RO Sy w) {Sy' : Nat → Prop} (hS : ∀ b, Sy' b → Sy b) : MemI Hs RO Sy' w := ⟨h.view, h.own, h.ro, h.ownRO, h.held, fun b hb => h.sync b (hS b hb)⟩

/-- A child: it owns nothing, and reads what its starter reads. -/
theorem MemI.fork (h : MemI Hs RO Sy w) {N : Nat} {Hc : Hp} (ho : ∀ b, Hc.own b = none) (hr : ∀ b o, Hc.ro b = some o → RO b = some o) : MemI (upd Hs N Hc) RO Sy w := by
  have e : ∀ j b, (upd Hs N Hc j).own b ≠ none → j ≠ N ∧ (Hs j).own b ≠ none := fun j b hb => by
    by_cases hj : j = N
    · subst hj; rw [upd_same] at hb; exact absurd (ho b) hb
    · rw [upd_ne Hs Hc hj] at hb; exact ⟨hj, hb⟩
  have e' : ∀ j b, (Hs j).own b = none → (upd Hs N Hc j).own b = none := fun j b hb => by
    by_cases hj : j = N
    · subst hj; rw [upd_same]; exact ho b
    · rw [upd_ne Hs Hc hj]; exact hb
  refine ⟨fun j => ?_, fun a j b hne hb => e' j b (h.own a j b hne (e a b hb).2), fun j b o hb => ?_, fun j b hb => h.ownRO j b (e j b hb).2, h.held, fun b hb => ⟨fun j => e' j b ((h.sync b hb).1 j), (h.sync b hb).2⟩⟩
  · by_cases hj : j = N
    · subst hj
      rw [upd_same]
      exact ⟨fun b o hb => (by rw [ho] at hb; cases hb), fun b o hb => h.held b o (hr b o hb), fun b hb => absurd (ho b) hb⟩
    · rw [upd_ne Hs Hc hj]; exact h.view j
  · by_cases hj : j = N
    · subst hj; rw [upd_same] at hb; exact hr b o hb
    · rw [upd_ne Hs Hc hj] at hb; exact h.ro j b o hb
end

/-! ### the trace, where a group is touched -/

/-- What may be listed of the group's block. -/
inductive SyEv (wg : Nat) : Event → Prop
  | cell (a : Addr) (wr : Bool) : a.block = wg → SyEv wg ⟨.cell a, wr, true⟩
  | said (a : Addr) : a.block = wg → SyEv wg ⟨.mark (.write a), false, true⟩
  | disable : SyEv wg ⟨.mark .disable, false, true⟩
  | enable : SyEv wg ⟨.mark .enable, false, true⟩
  | acquire (a : Addr) : SyEv wg ⟨.mark (.acquire a), false, true⟩
  | merge (a : Addr) : SyEv wg ⟨.mark (.releaseMerge a), false, true⟩

theorem SyEv.touch {wg : Nat} {e : Event} (h : SyEv wg e) {x : Touch} (hx : (MemAct.ofEvent e).touch? = some x) : ∃ ad : Addr, x.loc = .cell ad ∧ ad.block = wg ∧ (x.kind = .atomic ∨ (x.kind = .said ∧ ∃ a, e.loc = .mark (.write a))) := by
  cases h with
  | cell a wr h1 => simp only [MemAct.ofEvent, MemAct.touch?, Option.some.injEq] at hx; subst hx; exact ⟨a, rfl, h1, .inl rfl⟩
  | said a h1 => simp only [MemAct.ofEvent, MemAct.touch?, Option.some.injEq] at hx; subst hx; exact ⟨a, rfl, h1, .inr ⟨rfl, a, rfl⟩⟩
  | disable => simp [MemAct.ofEvent, MemAct.touch?] at hx
  | enable => simp [MemAct.ofEvent, MemAct.touch?] at hx
  | acquire a => simp [MemAct.ofEvent, MemAct.touch?] at hx
  | merge a => simp [MemAct.ofEvent, MemAct.touch?] at hx
theorem SyEv.norel {wg : Nat} {e : Event} (h : SyEv wg e) (a : Addr) : MemAct.ofEvent e ≠ .mark (.release a) := by
  cases h <;> simp [MemAct.ofEvent]

theorem TI.sync {Hs : Nat → Hp} {t : Trace} {i wg B : Nat} {es : Array Event} {fn : FuncId} {pos : String} (h : TI Hs t B) (ho : ∀ j, (Hs j).own wg = none) (hr : ∀ j, (Hs j).ro wg = none) (hB : wg < B) (he : ∀ e ∈ es, SyEv wg e)
    (hk : ∀ k a x, touchAt t k = some a → a.loc = .cell x → x.block = wg → a.kind = .atomic ∨ (a.kind = .said ∧ ∀ e ∈ es, ∀ a, e.loc ≠ .mark (.write a)) ∨ Knows t i k) :
    TI (upd Hs i { Hs i with d := deafBehind (Hs i).d es }) (t ++ MemOp.ofEvents i fn pos es) B := by
  have hu : ∀ op ∈ MemOp.ofEvents i fn pos es, op.g = i := fun op hop => by obtain ⟨e, _, rfl⟩ := mem_ofEv hop; rfl
  have hev : ∀ op ∈ MemOp.ofEvents i fn pos es, ∃ e ∈ es, op.act = .ofEvent e := fun op hop => by obtain ⟨e, h1, rfl⟩ := mem_ofEv hop; exact ⟨e, h1, rfl⟩
  have hown : ∀ j, (upd Hs i { Hs i with d := deafBehind (Hs i).d es } j).own = (Hs j).own := fun j => by
    by_cases hj : j = i
    · subst hj; rw [upd_same]
    · rw [upd_ne Hs _ hj]
  have hro : ∀ j, (upd Hs i { Hs i with d := deafBehind (Hs i).d es } j).ro = (Hs j).ro := fun j => by
    by_cases hj : j = i
    · subst hj; rw [upd_same]
    · rw [upd_ne Hs _ hj]
  refine ⟨fun said => noRace_append (h.clean said) hu fun k a ha op hop b hb hc => ?_, fun k a ha hm => ?_, fun j b hj k a x ha hx hxb => ?_, fun j b hj k a x ha hw hx hxb => ?_, fun j => ?_, fun op hop a => ?_⟩
  · obtain ⟨e, h1, h2⟩ := hev op hop
    rw [h2] at hb
    obtain ⟨ad, hl, hw, hkind⟩ := (he e h1).touch hb
    rcases hk k a ad ha (hc.1.trans hl) hw with h3 | ⟨h3, h4⟩ | h3
    · rcases hc.2.2.2 with h5 | h5 | ⟨_, h5, _⟩
      · rw [h3] at h5; cases h5
      · rcases hkind with h6 | ⟨h6, _⟩ <;> rw [h6] at h5 <;> cases h5
      · rw [h3] at h5; cases h5
    · rcases hc.2.2.2 with h5 | h5 | ⟨_, _, h5⟩
      · rw [h3] at h5; cases h5
      · rcases hkind with h6 | ⟨h6, _⟩ <;> rw [h6] at h5 <;> cases h5
      · rcases hkind with h6 | ⟨_, a', h6⟩
        · rw [h6] at h5; cases h5
        · exact absurd h6 (h4 e h1 a')
    · exact h3
  · rcases touchAt_cases ha with ⟨_, h0⟩ | ⟨_, op, hop, _, hox⟩
    · exact h.low k a h0 hm
    · obtain ⟨e, h1, h2⟩ := hev op hop
      rw [h2] at hox
      obtain ⟨ad, hl, hw, _⟩ := (he e h1).touch hox
      exact .inl ⟨ad, hl, by omega⟩
  · rw [hown] at hj
    rcases touchAt_cases ha with ⟨_, h0⟩ | ⟨_, op, hop, hg, hox⟩
    · exact (h.own j b hj k a x h0 hx hxb).app _
    · obtain ⟨e, h1, h2⟩ := hev op hop
      rw [h2] at hox
      obtain ⟨ad, hl, hw, _⟩ := (he e h1).touch hox
      rw [hx] at hl; cases hl
      rw [hw] at hxb
      exact absurd (ho j) (hxb ▸ hj)
  · rw [hro] at hj
    rcases touchAt_cases ha with ⟨_, h0⟩ | ⟨_, op, hop, hg, hox⟩
    · exact (h.ro j b hj k a x h0 hw hx hxb).app _
    · obtain ⟨e, h1, h2⟩ := hev op hop
      rw [h2] at hox
      obtain ⟨ad, hl, hw', _⟩ := (he e h1).touch hox
      rw [hx] at hl; cases hl
      rw [hw'] at hxb
      exact absurd (hr j) (hxb ▸ hj)
  · by_cases hji : j = i
    · subst hji; rw [upd_same, Deaf_own, h.deaf]
    · rw [upd_ne Hs _ hji, Deaf_other t (fun e => hji e.symm) _ hu, h.deaf]
  · rcases Array.mem_append.1 hop with h1 | h1
    · exact h.norel op h1 a
    · obtain ⟨e, h2, h3⟩ := hev op h1
      rw [h3]; exact (he e h2).norel a

end Go.Sep
