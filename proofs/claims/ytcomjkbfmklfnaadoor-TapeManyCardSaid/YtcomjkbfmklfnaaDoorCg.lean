/-
  A company: what is relied upon turns without a step; a child is started. Conditions: none.
-/
import Derived.Test.YtcomjkbfmklfnaaDoorCf
set_option linter.unusedSimpArgs false
set_option linter.unusedVariables false
namespace Go.Sep
open Go.Conc
open Go.ConcR (KK wgBlock WgAt stA smA rd wr mk)
open Go.ConcN (RW WgLive PayAt)

section
variable {P : Program} {Q : Value → Prop}

theorem TreeS.running {main : Bool} {s : Sh} {g : Goroutine} {H : Hp} {γ : Gh} (h : TreeS P (company P Q) main s g H γ) : g.status = .running := by
  induction h with
  | step _ _ _ _ _ h => exact h
  | less _ _ ih => exact ih
  | ghost _ _ ih => exact ih
  | meet k _ h =>
    cases k with
    | recvT => obtain ⟨_, _, _, _, _, h, _⟩ := h; exact h
    | sendT => obtain ⟨_, _, _, _, _, _, _, h, _⟩ := h; exact h
    | closeT => obtain ⟨_, _, _, _, _, h, _⟩ := h; exact h
    | sendD => obtain ⟨_, _, _, _, _, _, _, _, _, _, _, h, _⟩ := h; exact h
    | closeD => obtain ⟨_, _, _, _, _, _, h, _⟩ := h; exact h
    | recvD => obtain ⟨_, _, _, _, _, h, _⟩ := h; exact h
    | tail => obtain ⟨_, _, _, _, _, h, _⟩ := h; exact h
    | load => obtain ⟨_, _, _, _, _, h, _⟩ := h; exact h
    | cas => obtain ⟨_, _, _, _, _, _, _, h, _⟩ := h; exact h
    | say => obtain ⟨_, _, _, _, h, _⟩ := h; exact h
    | sema => obtain ⟨_, _, _, _, h, _⟩ := h; exact h
    | load2 => obtain ⟨_, _, _, _, h, _⟩ := h; exact h
    | acq => obtain ⟨_, _, _, _, _, h, _⟩ := h; exact h
    | calm => obtain ⟨_, _, _, _, h, _⟩ := h; exact h
  | spawn _ _ _ _ _ _ _ h => exact h
  | leave _ _ _ h => exact h.elim
  | done _ _ h => exact h

theorem Tree.sits {i : Nat} {g : Goroutine} {H : Hp} {γ : Gh} (w : World) (hi : (i == 0) = false) (h : Tree P (company P Q) false g H γ) (hl : γ.live = true) : ∃ s, g.status = .running ∧ Sits P Q i g s H γ w := by
  obtain ⟨s, hs⟩ := h.shaped
  exact ⟨s, hs.running, .run g (SameG.refl g) hs.running hl (by rw [hi]; exact hs)⟩
end

section
variable {gs : Array Goroutine} {w : World} {t : Trace} {γs : Nat → Gh} {RO RO' : Nat → Option Obj}
theorem PhI.ro (h : PhI gs w t γs RO) (hR : ∀ b o, RO b = some o → RO' b = some o) : PhI gs w t γs RO' := by
  cases h with
  | lone a b c => exact .lone a b c
  | opn φ jn base a b => exact .opn φ jn base a b
  | fed φ got base D a b =>
    refine .fed φ got base D a ⟨b.ok, b.size, b.base1, b.parts, b.shared, ⟨b.traced.old, b.traced.wgT, b.traced.w, b.traced.f, fun q x hq => ?_⟩, b.waiting⟩
    obtain ⟨p, h1, h2, h3⟩ := b.traced.msg q x hq
    exact ⟨p, h1, h2, fun B o e => ⟨hR B o (h3 B o e).1, (h3 B o e).2⟩⟩
end

section
variable {P : Program} {Q : Value → Prop} {w₀ : World} {gs : Array Goroutine} {w : World} {sl : Option (Nat × Nat)} {t : Trace} {Hs : Nat → Hp} {γs : Nat → Gh} {sh : Nat → Sh} {RO : Nat → Option Obj} {i : Nat} {g : Goroutine}

theorem upd_at {α : Type _} (f : Nat → α) (i j : Nat) (x : α) (p : α → Prop) (h1 : j = i → p x) (h2 : j ≠ i → p (f j)) : p (upd f i x j) := by
  unfold upd
  split
  · exact h1 ‹_›
  · exact h2 ‹_›

theorem sits_upd {H' : Hp} (hI : ∀ j g, gs[j]? = some g → Sits P Q j g (sh j) (Hs j) (γs j) w) (hi : gs[i]? = some g) (hs : Sits P Q i g (sh i) H' (γs i) w) : ∀ j x, gs[j]? = some x → Sits P Q j x (sh j) (upd Hs i H' j) (γs j) w := by
  intro j x hx
  by_cases hj : j = i
  · subst hj
    rw [hi] at hx; cases hx
    rw [upd_same]; exact hs
  · rw [upd_ne Hs H' hj]; exact hI j x hx

theorem Inv.less {H' : Hp} (hI : Inv P Q w₀ gs w t Hs γs sh RO) (hi : gs[i]? = some g) (hl : Less (Hs i) H') (hs : Sits P Q i g (sh i) H' (γs i) w) : Inv P Q w₀ gs w t (upd Hs i H') γs sh RO := by
  have hlt := (Array.getElem?_eq_some_iff.1 hi).1
  refine ⟨hI.mem.turn hl.own (fun b o h => hI.mem.ro i b o (hl.ro b o h)) (fun _ _ h => h) (fun _ _ h => .inl h) (fun _ h => .inl h), hI.tr.weaken (fun j b hb => ?_) (fun j b hb => .inl ?_) (fun j => ?_), fun j hj => by rw [upd_ne Hs H' (by omega)]; exact hI.out j hj, sits_upd hI.sits hi hs, hI.os, hI.tape, hI.output, hI.keep, hI.ph, hI.pos⟩
  · by_cases hj : j = i
    · subst hj; rw [upd_same] at hb; obtain ⟨o, ho⟩ := some_of_ne hb; rw [hl.own b o ho]; simp
    · rw [upd_ne Hs H' hj] at hb; exact hb
  · by_cases hj : j = i
    · subst hj; rw [upd_same] at hb; obtain ⟨o, ho⟩ := some_of_ne hb; rw [hl.ro b o ho]; simp
    · rw [upd_ne Hs H' hj] at hb; exact hb
  · by_cases hj : j = i
    · subst hj; rw [upd_same]; exact hl.d
    · rw [upd_ne Hs H' hj]

theorem Inv.share (hI : Inv P Q w₀ gs w t Hs γs sh RO) (hi : gs[i]? = some g) {b : Nat} {o : Obj} (hb : (Hs i).own b = some o) (hs : Sits P Q i g (sh i) ((Hs i).share b) (γs i) w) :
    Inv P Q w₀ gs w t (upd Hs i ((Hs i).share b)) γs sh (fun x => if x = b then some o else RO x) := by
  have hlt := (Array.getElem?_eq_some_iff.1 hi).1
  have hRb : RO b = none := hI.mem.ownRO i b (by rw [hb]; simp)
  have hR : ∀ b' o', RO b' = some o' → (if b' = b then some o else RO b') = some o' := fun b' o' h => by
    by_cases e : b' = b
    · subst e; rw [hRb] at h; cases h
    · rw [if_neg e]; exact h
  refine ⟨hI.mem.turn (fun b' o' h => ?_) (fun b' o' h => ?_) hR (fun b' o' h => ?_) (fun _ h => .inl h), hI.tr.weaken (fun j b' h => ?_) (fun j b' h => ?_) (fun j => ?_), fun j hj => by rw [upd_ne Hs _ (by omega)]; exact hI.out j hj, sits_upd hI.sits hi hs, hI.os, hI.tape, hI.output, fun b' o' h => hR b' o' (hI.keep b' o' h), hI.ph.ro hR, hI.pos⟩
  · simp only [Hp.share] at h; split at h
    · cases h
    · exact h
  · simp only [Hp.share] at h
    by_cases e : b' = b
    · subst e; simp only [if_true] at h ⊢; rw [hb] at h; exact h
    · simp only [if_neg e] at h ⊢; exact hI.mem.ro i b' o' h
  · by_cases e : b' = b
    · subst e; simp only [if_true] at h; cases h; exact .inr ⟨hb, by simp [Hp.share]⟩
    · simp only [if_neg e] at h; exact .inl h
  · by_cases hj : j = i
    · subst hj; rw [upd_same] at h; simp only [Hp.share] at h; split at h
      · exact absurd rfl h
      · exact h
    · rw [upd_ne Hs _ hj] at h; exact h
  · by_cases hj : j = i
    · subst hj; rw [upd_same] at h; simp only [Hp.share] at h
      by_cases e : b' = b
      · subst e; exact .inr (.inl (by rw [hb]; simp))
      · simp only [if_neg e] at h; exact .inl h
    · rw [upd_ne Hs _ hj] at h; exact .inl h
  · by_cases hj : j = i
    · subst hj; rw [upd_same]; rfl
    · rw [upd_ne Hs _ hj]

/-- The blocks of a company are laid open. -/
theorem Inv.open_ (hI : Inv P Q w₀ gs w t Hs γs sh RO) (hi : gs[0]? = some g) {φ : Ph} {t₁ t₂ : Bool} (h0 : γs 0 = .lone) (hok : φ.Ok) (h1 : (Hs 0).own φ.td = some (.chan 0 #[] false 0 0 t₁)) (h2 : (Hs 0).own φ.dn = some (.chan 4 #[] false 0 0 t₂))
    (hs : Sits P Q 0 g (sh 0) ((Hs 0).drop2 φ.td φ.dn) (.opn φ 0) w) : Inv P Q w₀ gs w t (upd Hs 0 ((Hs 0).drop2 φ.td φ.dn)) (upd γs 0 (.opn φ 0)) sh RO := by
  have hlt := (Array.getElem?_eq_some_iff.1 hi).1
  refine ⟨hI.mem.turn (fun b o h => ?_) (fun b o h => hI.mem.ro 0 b o h) (fun _ _ h => h) (fun _ _ h => .inl h) (fun b h => .inr ?_), hI.tr.weaken (fun j b h => ?_) (fun j b h => .inl ?_) (fun j => ?_), fun j hj => by rw [upd_ne Hs _ (by omega)]; exact hI.out j hj, fun j x hx => ?_, hI.os, hI.tape, hI.output, hI.keep, ?_, hI.pos⟩
  · simp only [Hp.drop2] at h; split at h
    · cases h
    · exact h
  · rw [upd_same] at h
    rcases h with rfl | rfl
    · exact ⟨by rw [h1]; simp, by simp [Hp.drop2], hI.mem.ownRO 0 _ (by rw [h1]; simp)⟩
    · exact ⟨by rw [h2]; simp, by simp [Hp.drop2], hI.mem.ownRO 0 _ (by rw [h2]; simp)⟩
  · by_cases hj : j = 0
    · subst hj; rw [upd_same] at h; simp only [Hp.drop2] at h; split at h
      · exact absurd rfl h
      · exact h
    · rw [upd_ne Hs _ hj] at h; exact h
  · by_cases hj : j = 0
    · subst hj; rw [upd_same] at h; exact h
    · rw [upd_ne Hs _ hj] at h; exact h
  · by_cases hj : j = 0
    · subst hj; rw [upd_same]; rfl
    · rw [upd_ne Hs _ hj]
  · by_cases hj : j = 0
    · subst hj
      rw [hi] at hx; cases hx
      rw [upd_same, upd_same]; exact hs
    · rw [upd_ne Hs _ hj, upd_ne γs _ hj]; exact hI.sits j x hx
  · have hp := hI.ph
    cases hp with
    | lone _ a b =>
      refine .opn φ 0 gs.size (upd_same _ _ _) ⟨hok, rfl, hI.pos, Nat.zero_le _, fun j h3 h4 => ?_, fun i hi => by omega, ⟨t₁, (hI.mem.view 0).own _ _ h1⟩, ⟨t₂, (hI.mem.view 0).own _ _ h2⟩, b⟩
      rw [upd_ne γs _ (by omega)]; exact a j h3 h4
    | opn _ _ _ a _ => rw [h0] at a; cases a
    | fed _ _ _ _ a _ => rw [h0] at a; cases a

/-! ### a child -/

theorem spawn_ops (fn fn' : FuncId) (pos : String) (N : Nat) : (((MemOp.ofEvents 0 fn pos #[]).push { g := 0, fn := fn, pos := pos, act := .go N }).push { g := N, fn := fn', pos := pos, act := .start }) = #[({ g := 0, fn := fn, pos := pos, act := .go N } : MemOp), { g := N, fn := fn', pos := pos, act := .start }] := by
  simp [MemOp.ofEvents]

section
variable {N : Nat} {x y : MemOp}
theorem two_mute (hx : x.act = .go N) (hy : y.act = .start) : (∀ op ∈ #[x, y], op.act.touch? = none) ∧ (∀ op ∈ #[x, y], op.act ≠ .mark .disable ∧ op.act ≠ .mark .enable) ∧ ∀ op ∈ #[x, y], ∀ a, op.act ≠ .mark (.release a) := by
  refine ⟨fun op hop => ?_, fun op hop => ?_, fun op hop a => ?_⟩ <;> (simp at hop; rcases hop with rfl | rfl <;> simp [hx, hy, MemAct.touch?])

/-- The trace and the memory behind a go statement. -/
theorem fork_mem (hI : Inv P Q w₀ gs w t Hs γs sh RO) (hd : (Hs 0).d = 0) {H' : Hp} {Sy' : Nat → Prop} (hm : MemI (upd Hs 0 H') RO Sy' w) (ho : ∀ b, H'.own b ≠ none → (Hs 0).own b ≠ none) (hr : H'.ro = (Hs 0).ro) (hdd : H'.d = (Hs 0).d)
    (hx : x.g = 0 ∧ x.act = .go gs.size) (hy : y.g = gs.size ∧ y.act = .start) : MemI (upd (upd Hs 0 H') gs.size (Hs 0).kid) RO Sy' w ∧ TI (upd (upd Hs 0 H') gs.size (Hs 0).kid) (t ++ #[x, y]) w.heap.size := by
  have hN : gs.size ≠ 0 := by have := hI.pos; omega
  have hnil : Hs gs.size = Hp.nil := (hI.out _ (Nat.le_refl _)).1
  obtain ⟨m1, m2, m3⟩ := two_mute hx.2 hy.2
  refine ⟨hm.fork (fun _ => rfl) (fun b o h => hI.mem.ro 0 b o h), (hI.tr.mute m1 m2 m3).weaken (fun j b h => ?_) (fun j b h => ?_) (fun j => ?_)⟩
  · by_cases hj : j = gs.size
    · subst hj; rw [upd_same] at h; exact absurd rfl h
    · rw [upd_ne _ _ hj] at h
      by_cases hj0 : j = 0
      · subst hj0; rw [upd_same] at h; exact ho b h
      · rw [upd_ne _ _ hj0] at h; exact h
  · by_cases hj : j = gs.size
    · subst hj
      rw [upd_same] at h
      refine .inr (.inr fun k a z ha hw hl hb => ?_)
      rcases touchAt_cases ha with ⟨_, h0⟩ | ⟨_, op, hop, _, hox⟩
      · have := hI.tr.ro 0 b h k a z h0 hw hl hb
        exact ConcN.fork_knows hx hy (by rw [hI.tr.deaf, hd]) (by rw [hI.tr.deaf, hnil]; rfl) this
      · rw [m1 op hop] at hox; cases hox
    · rw [upd_ne _ _ hj] at h
      by_cases hj0 : j = 0
      · subst hj0; rw [upd_same, hr] at h; exact .inl h
      · rw [upd_ne _ _ hj0] at h; exact .inl h
  · by_cases hj : j = gs.size
    · subst hj; rw [upd_same, hnil]; rfl
    · rw [upd_ne _ _ hj]
      by_cases hj0 : j = 0
      · subst hj0; rw [upd_same, hdd]
      · rw [upd_ne _ _ hj0]
end

theorem get_push {g' c : Goroutine} {j : Nat} {x : Goroutine} (h0 : 0 < gs.size) (h : ((gs.setIfInBounds 0 g').push c)[j]? = some x) : (j = gs.size ∧ x = c) ∨ (j = 0 ∧ x = g') ∨ (j ≠ 0 ∧ j < gs.size ∧ gs[j]? = some x) := by
  rw [Array.getElem?_push] at h
  rw [Array.size_setIfInBounds] at h
  split at h
  · rename_i e; exact .inl ⟨e, (Option.some.inj h).symm⟩
  · rcases get_set h0 h with ⟨a, b⟩ | ⟨a, b⟩
    · exact .inr (.inl ⟨a, b⟩)
    · exact .inr (.inr ⟨a, (Array.getElem?_eq_some_iff.1 b).1, b⟩)

theorem two_leaves {x y : MemOp} {N j : Nat} (hx : x.act = .go N) (hy : y.act = .start) : Leaves t #[x, y] j := fun _ h => h.mute (two_mute hx hy).1

theorem two_out {x y : MemOp} {j : Nat} (h : ∀ op ∈ t, op.g ≠ j) (hx : x.g ≠ j) (hy : y.g ≠ j) : ∀ op ∈ t ++ #[x, y], op.g ≠ j := fun op hop => by
  rcases Array.mem_append.1 hop with h1 | h1
  · exact h op h1
  · simp at h1; rcases h1 with rfl | rfl <;> assumption

/-- A WORKER IS STARTED. -/
theorem step_worker (hI : Inv P Q w₀ gs w t Hs γs sh RO) (hi : gs[0]? = some g) {φ : Ph} {jn : Nat} (h0 : γs 0 = .opn φ jn) (hjn : jn < φ.n) (hd : (Hs 0).d = 0) {g' c : Goroutine} {s' sc : Sh} (hst : stepG P true g w = .spawn g' c w #[])
    (hlt : Sh.Lt s' (sh 0)) (hs : Sits P Q 0 g' s' (Hs 0) (.opn φ (jn + 1)) w) (hrun : g'.status = .running) (hc : Sits P Q gs.size c sc (Hs 0).kid (.wk φ 0 none) w) : Steps P Q w₀ gs t sh (runT P (crowd gs w sl) 0) := by
  have hN : gs.size ≠ 0 := by have := hI.pos; omega
  obtain ⟨base, hO⟩ : ∃ base, Opn φ jn base gs w t γs := by
    cases hI.ph with
    | lone a _ _ => rw [h0] at a; cases a
    | opn φ' jn' base a b => rw [h0] at a; cases a; exact ⟨base, b⟩
    | fed _ _ _ _ a _ => rw [h0] at a; cases a
  have hfm := fork_mem (x := { g := 0, fn := g.frame.fn, pos := g.frame.place, act := .go gs.size }) (y := { g := gs.size, fn := c.frame.fn, pos := g.frame.place, act := .start }) hI hd (H' := Hs 0) (Sy' := (γs 0).sync) (by rw [upd_self]; exact hI.mem) (fun _ h => h) rfl rfl ⟨rfl, rfl⟩ ⟨rfl, rfl⟩
  rw [upd_self] at hfm
  have hrt := runT_crowd_spawn (P := P) (sl := sl) (i := 0) hi hst
  rw [spawn_ops] at hrt
  refine .inr ⟨_, w, sl, _, upd Hs gs.size (Hs 0).kid, upd (upd γs 0 (.opn φ (jn + 1))) gs.size (.wk φ 0 none), upd (upd sh 0 s') gs.size sc, RO, hrt, ⟨?_, hfm.2, fun j hj => ?_, fun j x hx => ?_, hI.os, hI.tape, hI.output, hI.keep, ?_, ?_⟩, lt_main (by rw [upd_ne _ _ (Ne.symm hN), upd_same]; exact hlt)⟩
  · rw [upd_ne _ _ (Ne.symm hN), upd_same]
    have := hfm.1
    rw [h0] at this
    exact this
  · simp at hj
    rw [upd_ne _ _ (by omega)]; exact ⟨(hI.out j (by omega)).1, two_out (hI.out j (by omega)).2 (by dsimp only; omega) (by dsimp only; omega)⟩
  · rcases get_push hI.pos hx with ⟨rfl, rfl⟩ | ⟨rfl, rfl⟩ | ⟨h1, h2, h3⟩
    · rw [upd_same, upd_same, upd_same]; exact hc
    · rw [upd_ne _ _ (Ne.symm hN), upd_ne _ _ (Ne.symm hN), upd_ne _ _ (Ne.symm hN), upd_same, upd_same]; exact hs
    · simp only [upd, if_neg h1, if_neg (show j ≠ gs.size by omega)]; exact hI.sits j x h3
  · refine .opn φ (jn + 1) base (by rw [upd_ne _ _ (Ne.symm hN), upd_same]) ⟨hO.ok, by simp [hO.size]; omega, hO.base1, hjn, fun j a b => ?_, fun k hk => ?_, hO.chT, hO.chD, fun x hx => ?_⟩
    · have := hO.size
      rw [upd_ne _ _ (by omega), upd_ne _ _ (by omega)]
      exact (hO.old j a b).app (two_leaves rfl rfl)
    · have := hO.size
      by_cases e : k = jn
      · rw [show base + k = gs.size by omega, upd_same]
      · have := hO.base1
        rw [upd_ne _ _ (by omega), upd_ne _ _ (by omega)]; exact hO.wk k (by omega)
    · rcases get_push hI.pos hx with ⟨e, _⟩ | ⟨_, rfl⟩ | ⟨h1, _⟩
      · omega
      · exact hrun
      · exact absurd rfl h1
  · simp

theorem cnt_all {base : Nat} {γs : Nat → Gh} {c : Nat} : ∀ n, (∀ i, i < n → cl (γs (base + i)) = c) → cnt base γs c n = n ∧ ∀ c', c' ≠ c → cnt base γs c' n = 0
  | 0, _ => ⟨rfl, fun _ _ => rfl⟩
  | n + 1, h => by
    obtain ⟨a, b⟩ := cnt_all n fun i hi => h i (by omega)
    have hn := h n (by omega)
    refine ⟨by simp only [cnt, a, hn, if_true], fun c' hc => ?_⟩
    simp only [cnt, b c' hc, hn]
    rw [if_neg (fun e => hc e.symm)]

theorem drop1_own {H : Hp} {a b : Nat} {o : Obj} (h : (H.drop1 a).own b = some o) : H.own b = some o := by
  simp only [Hp.drop1] at h
  split at h
  · cases h
  · exact h
theorem drop1_ne {H : Hp} {a b : Nat} (h : (H.drop1 a).own b ≠ none) : H.own b ≠ none := by
  obtain ⟨o, ho⟩ := some_of_ne h
  rw [drop1_own ho]; simp

/-- THE FEEDER IS STARTED. -/
theorem step_feeder (hI : Inv P Q w₀ gs w t Hs γs sh RO) (hi : gs[0]? = some g) {φ : Ph} (h0 : γs 0 = .opn φ φ.n) (hd : (Hs 0).d = 0) (hwg : (Hs 0).own φ.wg = some (wgBlock 51 ((φ.n : Int) * KK) 0)) {g' c : Goroutine} {s' sc : Sh} (hst : stepG P true g w = .spawn g' c w #[])
    (hlt : Sh.Lt s' (sh 0)) (hs : Sits P Q 0 g' s' ((Hs 0).drop1 φ.wg) (.fed φ []) w) (hrun : g'.status = .running) (hcrun : c.status = .running) (hc : Sits P Q gs.size c sc (Hs 0).kid (.fd φ 0) w) : Steps P Q w₀ gs t sh (runT P (crowd gs w sl) 0) := by
  have hN : gs.size ≠ 0 := by have := hI.pos; omega
  obtain ⟨base, hO⟩ : ∃ base, Opn φ φ.n base gs w t γs := by
    cases hI.ph with
    | lone a _ _ => rw [h0] at a; cases a
    | opn φ' jn' base a b => rw [h0] at a; cases a; exact ⟨base, b⟩
    | fed _ _ _ _ a _ => rw [h0] at a; cases a
  have hRwg : RO φ.wg = none := hI.mem.ownRO 0 _ (by rw [hwg]; simp)
  have hm1 : MemI (upd Hs 0 ((Hs 0).drop1 φ.wg)) RO (Gh.fed φ []).sync w := hI.mem.turn (fun b o h => drop1_own h) (fun b o h => hI.mem.ro 0 b o h) (fun _ _ h => h) (fun _ _ h => .inl h) (fun b h => by
    rcases h with h | h | rfl
    · exact .inl (by rw [h0]; exact .inl h)
    · exact .inl (by rw [h0]; exact .inr h)
    · exact .inr ⟨by rw [hwg]; simp, by simp [Hp.drop1], hRwg⟩)
  have hfm := fork_mem (x := { g := 0, fn := g.frame.fn, pos := g.frame.place, act := .go gs.size }) (y := { g := gs.size, fn := c.frame.fn, pos := g.frame.place, act := .start }) hI hd hm1 (fun b h => drop1_ne h) rfl rfl ⟨rfl, rfl⟩ ⟨rfl, rfl⟩
  have hrt := runT_crowd_spawn (P := P) (sl := sl) (i := 0) hi hst
  rw [spawn_ops] at hrt
  have hsz := hO.size
  have hb1 := hO.base1
  have eγ : ∀ k, k ≠ 0 → k ≠ gs.size → upd (upd γs 0 (.fed φ [])) gs.size (.fd φ 0) k = γs k := fun k h1 h2 => by rw [upd_ne _ _ h2, upd_ne _ _ h1]
  have eN : upd (upd γs 0 (.fed φ [])) gs.size (.fd φ 0) (base + φ.n) = .fd φ 0 := by rw [show base + φ.n = gs.size by omega, upd_same]
  have ew : ∀ k, k < φ.n → upd (upd γs 0 (.fed φ [])) gs.size (.fd φ 0) (base + k) = .wk φ 0 none := fun k hk => by rw [eγ _ (by omega) (by omega)]; exact hO.wk k hk
  refine .inr ⟨_, w, sl, _, upd (upd Hs 0 ((Hs 0).drop1 φ.wg)) gs.size (Hs 0).kid, upd (upd γs 0 (.fed φ [])) gs.size (.fd φ 0), upd (upd sh 0 s') gs.size sc, RO, hrt, ⟨?_, hfm.2, fun j hj => ?_, fun j x hx => ?_, hI.os, hI.tape, hI.output, hI.keep, ?_, ?_⟩, lt_main (by rw [upd_ne _ _ (Ne.symm hN), upd_same]; exact hlt)⟩
  · rw [upd_ne _ _ (Ne.symm hN), upd_same]
    exact hfm.1
  · simp at hj
    rw [upd_ne _ _ (by omega), upd_ne _ _ (by omega)]; exact ⟨(hI.out j (by omega)).1, two_out (hI.out j (by omega)).2 (by dsimp only; omega) (by dsimp only; omega)⟩
  · rcases get_push hI.pos hx with ⟨rfl, rfl⟩ | ⟨rfl, rfl⟩ | ⟨h1, h2, h3⟩
    · rw [upd_same, upd_same, upd_same]; exact hc
    · rw [upd_ne _ _ (Ne.symm hN), upd_ne _ _ (Ne.symm hN), upd_ne _ _ (Ne.symm hN), upd_same, upd_same, upd_same]; exact hs
    · simp only [upd, if_neg h1, if_neg (show j ≠ gs.size by omega)]; exact hI.sits j x h3
  · obtain ⟨tmT, hT⟩ := hO.chT
    obtain ⟨tmD, hD⟩ := hO.chD
    obtain ⟨c0, c1⟩ := cnt_all (base := base) (γs := upd (upd γs 0 (.fed φ [])) gs.size (.fd φ 0)) (c := 0) φ.n fun k hk => by rw [ew k hk]; rfl
    refine .fed φ [] base ⟨[], 0, 0, tmD, 0, 0, tmT, (φ.n : Int) * KK, 0, t.size⟩ (by rw [upd_ne _ _ (Ne.symm hN), upd_same]) ⟨hO.ok, by simp; omega, hb1, ⟨fun k hk => .inl ⟨0, none, Nat.zero_le _, ew k hk⟩, .inl ⟨0, Nat.zero_le _, eN⟩, fun _ k hk => by rw [ew k hk]; rfl, ?_⟩, ⟨?_, ?_, rfl, by simp, fun x hx => by simp at hx, (hI.mem.view 0).own _ _ hwg, ?_⟩, ⟨fun j a b => ?_, fun k a z ha hl hb => .inl ?_, fun k hk => by rw [ew k hk]; trivial, ⟨?_, by rw [eN]; trivial⟩, fun q x hq => by simp at hq⟩, ?_⟩
    · rw [eN]
      exact ⟨fun k hk => by simp [kOf] at hk, fun k hk l hl => (by rw [ew k hk] at hl; cases hl), fun k hk => by simp at hk, by simp, fun k hk => by simp at hk, by simp⟩
    · rw [eN]; exact hT
    · rw [eN]; exact hD
    · rw [eN, c0, c1 1 (by omega), c1 2 (by omega)]
      exact ⟨rfl, rfl, rfl, rfl⟩
    · rw [eγ j (by omega) (by omega)]
      exact (hO.old j a b).app (two_leaves rfl rfl)
    · rcases touchAt_cases ha with ⟨_, h1⟩ | ⟨_, op, hop, _, hox⟩
      · have hk' : Knows t 0 k := hI.tr.own 0 φ.wg (by rw [hwg]; simp) k a z h1 hl hb
        exact .inr (hk'.hb_new (j := t.size) (Nat.le_refl _) (at_new (k := 0) rfl) rfl)
      · simp at hop; rcases hop with rfl | rfl <;> simp [MemAct.touch?] at hox
    · have hgo : (t ++ #[({ g := 0, fn := g.frame.fn, pos := g.frame.place, act := .go gs.size } : MemOp), { g := gs.size, fn := c.frame.fn, pos := g.frame.place, act := .start }])[t.size]? = some { g := 0, fn := g.frame.fn, pos := g.frame.place, act := .go gs.size } := at_new (k := 0) rfl
      have hstt : (t ++ #[({ g := 0, fn := g.frame.fn, pos := g.frame.place, act := .go gs.size } : MemOp), { g := gs.size, fn := c.frame.fn, pos := g.frame.place, act := .start }])[t.size + 1]? = some { g := gs.size, fn := c.frame.fn, pos := g.frame.place, act := .start } := at_new (k := 1) rfl
      have hdis : ∀ op ∈ #[({ g := 0, fn := g.frame.fn, pos := g.frame.place, act := .go gs.size } : MemOp), { g := gs.size, fn := c.frame.fn, pos := g.frame.place, act := .start }], op.act ≠ .mark .disable ∧ op.act ≠ .mark .enable := (two_mute rfl rfl).2.1
      have hh0 := heard_new (k := 0) hdis hgo (by rw [hI.tr.deaf]; exact hd)
      have hh1 := heard_new (k := 1) hdis hstt (by rw [hI.tr.deaf, (hI.out _ (Nat.le_refl _)).1]; rfl)
      rw [show base + φ.n = gs.size by omega]
      exact ⟨t.size + 1, _, hstt, rfl, .inr (.single (.inr ⟨.spawn (child := gs.size) (by rw [act?_of hgo]) (by rw [act?_of hstt]) (by simp [Trace.g?, hstt]), hh0, hh1⟩))⟩
    · have get0 : ∀ x, ((gs.setIfInBounds 0 g').push c)[0]? = some x → x = g' := fun x hx => by
        rcases get_push hI.pos hx with ⟨e, _⟩ | ⟨_, e⟩ | ⟨h1, _⟩
        · omega
        · exact e
        · exact absurd rfl h1
      have getN : ∀ x, ((gs.setIfInBounds 0 g').push c)[base + φ.n]? = some x → x = c := fun x hx => by
        rcases get_push hI.pos hx with ⟨_, e⟩ | ⟨h1, _⟩ | ⟨_, h1, _⟩
        · exact e
        · omega
        · omega
      refine ⟨fun x hx hb => ?_, fun k hk x hx hb l hl => (by rw [ew k hk] at hl; cases hl), fun k hk x hx hb hh => ⟨by rw [eN]; rfl, fun z hz => ?_⟩, fun x hx hb => ?_⟩
      · rw [get0 x hx, hrun] at hb; cases hb
      · rw [getN z hz, hcrun]; simp
      · rw [getN x hx, hcrun] at hb; cases hb
  · simp
end
end Go.Sep
