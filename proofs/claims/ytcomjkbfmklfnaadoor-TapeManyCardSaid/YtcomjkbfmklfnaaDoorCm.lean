/-
  ████ A COMPANY RUNS TO ITS END, WITHOUT A RACE, ON EVERY TAPE. ████ Conditions: none.
-/
import Derived.Test.YtcomjkbfmklfnaaDoorCl
set_option linter.unusedSimpArgs false
set_option linter.unusedVariables false
namespace Go.Sep
open Go.Conc
open Go.ConcR (KK wgBlock WgAt stA smA rd wr mk DC0)
open Go.ConcN (RW WgLive PayAt)

section
variable {P : Program} {Q : Value → Prop} {w₀ : World}

/-- Who bears the chief's marks is number 0. -/
theorem PhI.chief {gs : Array Goroutine} {w : World} {t : Trace} {γs : Nat → Gh} {RO : Nat → Option Obj} (h : PhI gs w t γs RO) {i : Nat} {g : Goroutine} (hi : gs[i]? = some g) (hγ : γs i = .lone ∨ (∃ φ j, γs i = .opn φ j)) : i = 0 := by
  have hil := (Array.getElem?_eq_some_iff.1 hi).1
  rcases Nat.eq_zero_or_pos i with h0 | hp
  · exact h0
  exfalso
  cases h with
  | lone _ h1 _ => have := (h1 i hp hil).1; rw [this] at hγ; rcases hγ with h | ⟨_, _, h⟩ <;> cases h
  | opn φ jn base h0 hO =>
    have hsz := hO.size
    rcases Nat.lt_or_ge i base with h3 | h3
    · have := (hO.old i hp h3).1; rw [this] at hγ; rcases hγ with h | ⟨_, _, h⟩ <;> cases h
    · have := hO.wk (i - base) (by omega)
      rw [show base + (i - base) = i by omega] at this
      rw [this] at hγ; rcases hγ with h | ⟨_, _, h⟩ <;> cases h
  | fed φ got base D h0 hF =>
    rcases hF.who h0 hi with ⟨rfl, e⟩ | ⟨_, _, e⟩ | ⟨k, hk, rfl⟩ | rfl
    · omega
    · rw [e] at hγ; rcases hγ with h | ⟨_, _, h⟩ <;> cases h
    · rcases hF.parts.wk k hk with ⟨_, _, _, e⟩ | e | ⟨_, _, e⟩ | e <;> rw [e] at hγ <;> rcases hγ with h | ⟨_, _, h⟩ <;> cases h
    · rcases hF.parts.fd with ⟨_, _, e⟩ | ⟨_, e⟩ | e <;> rw [e] at hγ <;> rcases hγ with h | ⟨_, _, h⟩ <;> cases h

/-- THE RETURN. -/
theorem step_done {gs : Array Goroutine} {w : World} {sl : Option (Nat × Nat)} {t : Trace} {Hs : Nat → Hp} {γs : Nat → Gh} {sh : Nat → Sh} {RO : Nat → Option Obj} {g : Goroutine} (hI : Inv P Q w₀ gs w t Hs γs sh RO) (hi : gs[0]? = some g) {v : Value}
    (hst : stepG P true g w = .ended (.done v) w #[]) (h0 : γs 0 = .lone) (hQ : Q v) : Steps P Q w₀ gs t sh (runT P (crowd gs w sl) 0) := by
  have hr := runT_many_ended (P := P) (sl := sl) (i := 0) hi hst
  have e : t ++ MemOp.ofEvents 0 g.frame.fn g.frame.place #[] = t := by simp [MemOp.ofEvents]
  have hold : ∀ j x, 0 < j → gs[j]? = some x → Old t (γs j) j ∧ ∃ n, QuitsD P n (Hs j).d x := fun j x hj hx => by
    have hjl := (Array.getElem?_eq_some_iff.1 hx).1
    have hO : Old t (γs j) j := by
      cases hI.ph with
      | lone _ h1 _ => exact h1 j hj hjl
      | opn _ _ _ h1 _ => rw [h0] at h1; cases h1
      | fed _ _ _ _ h1 _ => rw [h0] at h1; cases h1
    refine ⟨hO, ?_⟩
    have hg := hO.1
    have hs := hI.sits j x hx
    cases hs with
    | run g₀ a b c d => rw [hg] at c; cases c
    | recvD g₀ φ' got a b c => rw [hg] at a; cases a
    | recvT g₀ φ' nx a b c => rw [hg] at a; cases a
    | sendT g₀ φ' k' z a b c d => rw [hg] at a; cases a
    | sendD g₀ φ' nx k' v car z a _ _ _ e => rw [hg] at a; cases a
    | sema g₀ φ' a => rw [hg] at a; cases a
    | tail φ' j m a b c => rw [hg] at b; cases b
    | quit n a b c => exact ⟨n, c⟩
  refine .inl ⟨_, _, _, hr, fun w₁ sl₁ => ?_⟩
  rw [e]
  refine ⟨v, rfl, ⟨hQ, fun b o h => hI.mem.held b o (hI.keep b o h), hI.os, hI.tape, hI.output⟩, hI.tr.clean, fun i gg hg hne hc => ?_, ⟨fun x hx => ?_, rfl⟩, fun j x hx hj => ?_⟩
  · have hgl : gg < gs.size ∨ gs.size ≤ gg := Nat.lt_or_ge _ _
    rcases hgl with hgl | hgl
    · obtain ⟨⟨_, q, h1, h2⟩, _⟩ := hold gg gs[gg] (by omega) (Array.getElem?_eq_getElem hgl)
      obtain ⟨q', z, h3, h4, h5⟩ := Knows.of_before (h1 i hg hc) h2
      refine ⟨q', by simp [Trace.g?, h3, h4], ?_⟩
      rcases h5 with rfl | h5
      · simp [Trace.g?, h3, h4] at hg; exact absurd hg.symm hne
      · exact h5
    · obtain ⟨op, ho, hog⟩ := Option.map_eq_some_iff.1 hg
      exact absurd hog ((hI.out gg hgl).2 op (mem_of_getElem? ho))
  · obtain ⟨j, hj⟩ := List.mem_iff_getElem?.1 hx
    rw [List.getElem?_drop] at hj
    obtain ⟨_, n, hq⟩ := hold (1 + j) x (by omega) (by simpa [crowd] using hj)
    exact ⟨n, hq.leaves⟩
  · obtain ⟨_, n, hq⟩ := hold j x (by omega) hx
    refine ⟨n, ?_⟩
    have : t.deaf j t.size = (Hs j).d := hI.tr.deaf j
    rw [this]
    exact hq.hears _

theorem Inv.at {gs : Array Goroutine} {w : World} {t : Trace} {Hs : Nat → Hp} {γs : Nat → Gh} {sh : Nat → Sh} {RO : Nat → Option Obj} (hI : Inv P Q w₀ gs w t Hs γs sh RO) (d : Nat) : Inv P Q w₀ gs (w.at d) t Hs γs sh RO := by
  refine ⟨hI.mem.at d, hI.tr, hI.out, fun j x hx => (hI.sits j x hx).world fun φ k _ _ => rw_of rfl id, hI.os, hI.tape, hI.output, hI.keep, ?_, hI.pos⟩
  cases hI.ph with
  | lone a b c => exact .lone a b c
  | opn φ jn base a b => exact .opn φ jn base a ⟨b.ok, b.size, b.base1, b.jle, b.old, b.wk, b.chT, b.chD, b.run⟩
  | fed φ got base D a b => exact .fed φ got base D a ⟨b.ok, b.size, b.base1, b.parts, ⟨b.shared.chT, b.shared.chD, b.shared.sr, b.shared.four, b.shared.res, b.shared.wg, b.shared.mode⟩, b.traced, b.waiting⟩

/-- ONE WHO IS ON ITS WAY TAKES A STEP. -/
theorem tree_moves {main : Bool} {s : Sh} {g₀ : Goroutine} {H : Hp} {γ : Gh} (h : TreeS P (company P Q) main s g₀ H γ) :
    ∀ {gs : Array Goroutine} {w : World} {sl : Option (Nat × Nat)} {t : Trace} {Hs : Nat → Hp} {γs : Nat → Gh} {sh : Nat → Sh} {RO : Nat → Option Obj} {i : Nat} {g : Goroutine}, Inv P Q w₀ gs w t Hs γs sh RO → gs[i]? = some g → SameG g g₀ → g.status = .running → (i == 0) = main → Hs i = H → γs i = γ → sh i = s → γ.live = true →
      Steps P Q w₀ gs t sh (runT P (crowd gs w sl) i) := by
  induction h with
  | @step s g₀ H γ g' w' es H' s' _ hst hlt htree _ =>
    intro gs w sl t Hs γs sh RO i g hI hi hsg hrun hm hH hγ hs hl
    subst hm hH hγ hs
    have hv := hI.mem.view i
    obtain ⟨h1, h2⟩ := hst w hv
    exact step_own hI hi hl (by rw [hsg.step]; exact h1) h2 (hlt w hv) (.run _ (SameG.refl _) (htree w hv).running hl (htree w hv)) (htree w hv).running
  | @less s g₀ H H' γ hless htree ih =>
    intro gs w sl t Hs γs sh RO i g hI hi hsg hrun hm hH hγ hs hl
    subst hm hH hγ hs
    exact ih (hI.less hi hless (.run g₀ hsg hrun hl htree)) hi hsg hrun rfl (upd_same _ _ _) rfl rfl hl
  | @ghost s g₀ H H' γ γ' hg htree ih =>
    intro gs w sl t Hs γs sh RO i g hI hi hsg hrun hm hH hγ hs hl
    subst hm hH hγ hs
    rcases hg with ⟨rfl, b, o, hb, rfl⟩ | ⟨φ, t₁, t₂, h0, rfl, hok, h1, h2, rfl⟩
    · exact ih (hI.share hi hb (.run g₀ hsg hrun hl htree)) hi hsg hrun rfl (upd_same _ _ _) rfl rfl hl
    · have hi0 : i = 0 := hI.ph.chief hi (.inl h0)
      subst hi0
      exact ih (hI.open_ hi h0 hok h1 h2 (.run g₀ hsg hrun rfl htree)) hi hsg hrun rfl (upd_same _ _ _) (upd_same _ _ _) rfl rfl
  | @meet s g₀ H γ k s' hat htail hlt htree _ =>
    intro gs w sl t Hs γs sh RO i g hI hi hsg hrun hm hH hγ hs hl
    subst hm hH hγ hs
    have M : Meets P Q (i == 0) k (sh i) g₀ (Hs i) (γs i) := ⟨hat, hl, htail, fun g' H' γ' ho => ⟨_, hlt g' H' γ' ho, htree g' H' γ' ho⟩, .meet k s' hat htail hlt htree⟩
    have nz : (i == 0) = false → i ≠ 0 := fun h => by simpa using h
    cases k with
    | recvT => have e : (i == 0) = false := hat.1; rw [e] at M; exact step_recvT hI hi (nz e) hsg hrun M
    | sendT => have e : (i == 0) = false := hat.1; rw [e] at M; exact step_sendT hI hi (nz e) hsg hrun M
    | closeT => have e : (i == 0) = false := hat.1; rw [e] at M; exact step_closeT hI hi (nz e) hsg M
    | sendD => have e : (i == 0) = false := hat.1; rw [e] at M; exact step_sendD hI hi (nz e) hsg hrun M
    | closeD => have e : (i == 0) = false := hat.1; rw [e] at M; exact step_closeD hI hi (nz e) hsg M
    | recvD =>
      have e : (i == 0) = true := hat.1
      have e0 : i = 0 := by simpa using e
      subst e0
      exact step_recvD hI hi hsg hrun M
    | tail => have e : (i == 0) = false := hat.1; rw [e] at M; exact step_tail hI hi (nz e) hsg hrun M
    | load => have e : (i == 0) = false := hat.1; rw [e] at M; exact step_load hI hi (nz e) hsg M
    | cas => have e : (i == 0) = false := hat.1; rw [e] at M; exact step_cas hI hi (nz e) hsg M
    | say => have e : (i == 0) = false := hat.1; rw [e] at M; exact step_say hI hi (nz e) hsg M
    | sema => have e : (i == 0) = false := hat.1; rw [e] at M; exact step_sema hI hi (nz e) hsg hrun M
    | load2 => have e : (i == 0) = false := hat.1; rw [e] at M; exact step_load2 hI hi (nz e) hsg M
    | acq => have e : (i == 0) = false := hat.1; rw [e] at M; exact step_acq hI hi (nz e) hsg M
    | calm => have e : (i == 0) = false := hat.1; rw [e] at M; exact step_calm hI hi (nz e) hsg M
  | @spawn s g₀ H γ g' c H' Hc γ' γc s' _ hst hsp hc hlt htree _ =>
    intro gs w sl t Hs γs sh RO i g hI hi hsg hrun hm hH hγ hs hl
    subst hm hH hγ hs
    obtain ⟨hd, rfl, h⟩ := hsp
    have hi0 : i = 0 := hI.ph.chief hi (.inr (by rcases h with ⟨φ, j, h, _⟩ | ⟨φ, h, _⟩ <;> exact ⟨_, _, h⟩))
    subst hi0
    have hst' := hst w (hI.mem.view 0)
    have hN : (gs.size == 0) = false := beq_eq_false_iff_ne.2 (Nat.ne_of_gt hI.pos)
    rcases h with ⟨φ, j, h0, hj, rfl, rfl, rfl⟩ | ⟨φ, h0, hwg, rfl, rfl, rfl⟩
    · obtain ⟨sc, _, hcs⟩ := Tree.sits (i := gs.size) w hN hc rfl
      exact step_worker hI hi h0 hj hd (by rw [hsg.step]; exact hst') hlt (sits_main rfl htree) htree.running hcs
    · obtain ⟨sc, hcr, hcs⟩ := Tree.sits (i := gs.size) w hN hc rfl
      exact step_feeder hI hi h0 hd hwg (by rw [hsg.step]; exact hst') hlt (sits_main rfl htree) htree.running hcr hcs
  | leave _ _ _ h => exact h.elim
  | @done s g₀ H γ v hmain _ hst hf =>
    intro gs w sl t Hs γs sh RO i g hI hi hsg hrun hm hH hγ hs hl
    subst hm hH hγ hs
    have hi0 : i = 0 := by simpa using hmain
    subst hi0
    exact step_done hI hi (by rw [hsg.step]; exact hst w (hI.mem.view 0)) hf.1 hf.2

/-- NOBODY IS STUCK. -/
theorem someone_runs {gs : Array Goroutine} {w : World} {t : Trace} {Hs : Nat → Hp} {γs : Nat → Gh} {sh : Nat → Sh} {RO : Nat → Option Obj} (hI : Inv P Q w₀ gs w t Hs γs sh RO) : ∃ (i : Nat) (g : Goroutine), gs[i]? = some g ∧ g.status = .running := by
  have h0g := Array.getElem?_eq_getElem hI.pos
  cases hI.ph with
  | lone a b c => exact ⟨0, _, h0g, c _ h0g⟩
  | opn φ jn base a b => exact ⟨0, _, h0g, b.run _ h0g⟩
  | fed φ got base D h0 hF =>
    apply Classical.byContradiction
    intro hno
    have nr : ∀ (i : Nat) (g : Goroutine), gs[i]? = some g → g.status ≠ .running := fun i g hg hr => hno ⟨i, g, hg, hr⟩
    have hb1 := hF.base1
    have hsz := hF.size
    have hn1 := hF.ok.n1
    -- whoever isn't through is blocked
    have blk : ∀ (i : Nat) (g : Goroutine), gs[i]? = some g → γs i ≠ .gone → g.status = .blocked := fun i g hg hγ => by
      have hs := hI.sits i g hg
      have hn := nr i g hg
      cases hs with
      | run g₀ a b => exact absurd b hn
      | recvD g₀ φ' got a b c => subst c; rfl
      | recvT g₀ φ' nx a b c => subst c; rfl
      | sendT g₀ φ' k z a b c d => subst d; rfl
      | sendD g₀ φ' nx k v car z a _ _ _ e => subst e; rfl
      | sema g₀ φ' a b c d e => exact d
      | tail φ' j m a b c => exact absurd c.running hn
      | quit n a b c => exact absurd b hγ
    have hmain := blk 0 _ h0g (by rw [h0]; simp)
    obtain ⟨_, hng, hsend⟩ := hF.waiting.main _ h0g hmain
    have hfg := Array.getElem?_eq_getElem (show base + φ.n < gs.size by omega)
    have hfb := blk _ _ hfg (fun e => by rw [e] at hng; cases hng)
    cases hfd : isFd (γs (base + φ.n)) with
    | true =>
      have hw := hF.parts.opn hfd 0 hn1
      have h0l : base + 0 < gs.size := by omega
      have hg0 := Array.getElem?_eq_getElem h0l
      have hb := blk _ _ hg0 (fun e => by rw [e] at hw; cases hw)
      exact (hF.waiting.recv 0 hn1 _ hg0 hb (hsend 0 hn1 _ hg0 hb)).2 _ hfg hfb
    | false =>
      have hsm := hF.waiting.sema _ hfg hfb hfd
      have hmode := hF.shared.mode
      -- the feeder waits at the semaphore
      have hγ : ∃ φ', γs (base + φ.n) = .fw φ' .sema := by
        have hs := hI.sits _ _ hfg
        have hn := nr _ _ hfg
        cases hs with
        | run g₀ a b => exact absurd b hn
        | recvD g₀ φ' got a b c => rcases hF.parts.fd with ⟨_, _, e⟩ | ⟨_, e⟩ | e <;> rw [e] at a <;> cases a
        | recvT g₀ φ' nx a b c => rcases hF.parts.fd with ⟨_, _, e⟩ | ⟨_, e⟩ | e <;> rw [e] at a <;> cases a
        | sendT g₀ φ' k z a b c d => rw [a] at hfd; cases hfd
        | sendD g₀ φ' nx k v car z a => rcases hF.parts.fd with ⟨_, _, e⟩ | ⟨_, e⟩ | e <;> rw [e] at a <;> cases a
        | sema g₀ φ' a => exact ⟨φ', a⟩
        | tail φ' j m a b c => exact absurd c.running hn
        | quit n a b c => rw [b] at hng; cases hng
      obtain ⟨φ', hγ⟩ := hγ
      rw [hγ] at hmode
      have hc : ∃ c, c ≤ 2 ∧ 0 < cnt base γs c φ.n := by
        rcases hmode with h | h | h | h
        · exact ⟨0, by omega, by omega⟩
        · exact ⟨1, by omega, by omega⟩
        · exact ⟨2, by omega, by omega⟩
        · omega
      obtain ⟨c, hc2, hc⟩ := hc
      obtain ⟨k, hk, hcl⟩ := cnt_pos hc
      have hkl : base + k < gs.size := by omega
      have hgk := Array.getElem?_eq_getElem hkl
      have hne : γs (base + k) ≠ .gone := fun e => by rw [e] at hcl; simp [cl] at hcl; omega
      have hb := blk _ _ hgk hne
      have := (hF.waiting.recv k hk _ hgk hb (hsend k hk _ hgk hb)).1
      rw [hfd] at this; cases this

def InvM (P : Program) (Q : Value → Prop) (w₀ : World) (μ : Ms) (m : Machine) (t : Trace) : Prop :=
  ∃ (gs : Array Goroutine) (w : World) (sl : Option (Nat × Nat)) (Hs : Nat → Hp) (γs : Nat → Gh) (sh : Nat → Sh) (RO : Nat → Option Obj), m = crowd gs w sl ∧ Inv P Q w₀ gs w t Hs γs sh RO ∧ μ = ms gs sh

theorem company_step (μ : Ms) (m : Machine) (t : Trace) (h : InvM P Q w₀ μ m t) :
    (∃ o w ops, stepT P m = (.ended o w, ops) ∧ Good P (EndPost Q w₀) m o w (t ++ ops)) ∨ (∃ m' ops μ', stepT P m = (.next m', ops) ∧ Ms.Lt μ' μ ∧ InvM P Q w₀ μ' m' (t ++ ops)) := by
  obtain ⟨gs, w, sl, Hs, γs, sh, RO, rfl, hI, rfl⟩ := h
  obtain ⟨i, g, d, sl', hi, hrun, hst⟩ := crowd_pick (P := P) (w := w) (sl := sl) (fun g hg => by
    obtain ⟨j, hj⟩ := Array.mem_iff_getElem?.1 hg
    exact (hI.sits j g hj).awake) (someone_runs hI)
  have hI' := hI.at d
  have hS : Steps P Q w₀ gs t sh (runT P (crowd gs (w.at d) sl') i) := by
    have hs := hI'.sits i g hi
    cases hs with
    | run g₀ a b c e => exact tree_moves e hI' hi a b rfl rfl rfl rfl c
    | recvD g₀ φ' got a b c => subst c; cases hrun
    | recvT g₀ φ' nx a b c => subst c; cases hrun
    | sendT g₀ φ' k z a b c d => subst d; cases hrun
    | sendD g₀ φ' nx k v car z a _ _ _ e => subst e; cases hrun
    | sema g₀ φ' a b c d e => rw [d] at hrun; cases hrun
    | tail φ' j m a b c d e f => exact step_end hI' hi a b d e f c
    | quit n a b c d =>
      have hi0' : (i == 0) = false := by simpa using a
      cases n with
      | zero => rw [c.1] at hrun; cases hrun
      | succ n =>
        rcases c with ⟨hf, _⟩ | ⟨_, g', es, hm, hstp, hq'⟩
        · rw [hf] at hrun; cases hrun
        · exact step_mute hI' hi a (s' := Sh.chain n) (by rw [hi0']; exact hstp _) hm (by rw [d]; exact Sh.chain_lt n) (.quit n a b hq' rfl) hq'.status
  rcases hS with ⟨o, w', ops, hr, hg⟩ | ⟨gs', w', sl'', ops, Hs', γs', sh', RO', hr, hI'', hlt⟩
  · exact .inl ⟨o, w', ops, hst.trans hr, hg w sl⟩
  · exact .inr ⟨_, ops, _, hst.trans hr, hlt, gs', w', sl'', Hs', γs', sh', RO', rfl, hI'', rfl⟩

theorem company_ends : ∀ μ m t, InvM P Q w₀ μ m t → ∃ n last o w t', runNT P (n + 1) m t = (.ended o w, t') ∧ runN P n m = .next last ∧ step P last = .ended o w ∧ Good P (EndPost Q w₀) last o w t' := by
  intro μ
  induction μ using Ms.wf.induction with
  | _ μ ih =>
    intro m t hI
    rcases company_step μ m t hI with ⟨o, w, ops, hs, hq⟩ | ⟨m', ops, μ', hs, hr, hI'⟩
    · exact ⟨0, m, o, w, t ++ ops, by simp [runNT, hs], rfl, by simp [step, hs], hq⟩
    · obtain ⟨n, last, o, w, t', h1, h2, h3, h4⟩ := ih μ' hr m' (t ++ ops) hI'
      exact ⟨n + 1, last, o, w, t', by rw [runNT_succ_next hs]; exact h1, by rw [runN_succ_next hs]; exact h2, h3, h4⟩

/-- ████ THE COMPANY RUNS. ████ One goroutine, alone, that reads what is there: its whole way, with whomever it starts. -/
theorem company_runs {a : Goroutine} {W : World} (h : Tree P (company P Q) true a { own := fun _ => none, ro := fun b => W.heap[b]?, d := 0 } .lone) :
    ∃ N last o w' t', runNT P (N + 1) (solo a W) #[] = (.ended o w', t') ∧ runN P N (solo a W) = .next last ∧ step P last = .ended o w' ∧ Good P (EndPost Q W) last o w' t' := by
  obtain ⟨s, hs⟩ := h.shaped
  have hview : ∀ j, View (upd (fun _ => Hp.nil) 0 { own := fun _ => none, ro := fun b => W.heap[b]?, d := 0 } j) W := fun j => by
    by_cases hj : j = 0
    · subst hj
      rw [upd_same]
      exact ⟨fun b o h => (by cases h), fun b o h => h, fun b h => absurd rfl h⟩
    · rw [upd_ne _ _ hj]
      exact ⟨fun b o h => (by cases h), fun b o h => (by cases h), fun b h => absurd rfl h⟩
  have hown : ∀ j b, (upd (fun _ => Hp.nil) 0 { own := fun _ => none, ro := fun b => W.heap[b]?, d := 0 } j).own b = none := fun j b => by
    by_cases hj : j = 0
    · subst hj; rw [upd_same]
    · rw [upd_ne _ _ hj]; rfl
  have hro : ∀ j b o, (upd (fun _ => Hp.nil) 0 { own := fun _ => none, ro := fun b => W.heap[b]?, d := 0 } j).ro b = some o → W.heap[b]? = some o := fun j b o h => by
    by_cases hj : j = 0
    · subst hj; rw [upd_same] at h; exact h
    · rw [upd_ne _ _ hj] at h; cases h
  have hnt : ∀ i a, touchAt (#[] : Trace) i = some a → False := fun i a ha => by simp [touchAt, Trace.act?] at ha
  have hd : ∀ j, (upd (fun _ => Hp.nil) 0 ({ own := fun _ => none, ro := fun b => W.heap[b]?, d := 0 } : Hp) j).d = 0 := fun j => by
    by_cases hj : j = 0
    · subst hj; rw [upd_same]
    · rw [upd_ne _ _ hj]; rfl
  have hI : Inv P Q W #[a] W #[] (upd (fun _ => Hp.nil) 0 { own := fun _ => none, ro := fun b => W.heap[b]?, d := 0 }) (fun _ => .lone) (fun _ => s) (fun b => W.heap[b]?) := by
    refine ⟨⟨hview, fun i j b _ h => absurd (hown i b) h, hro, fun j b h => absurd (hown j b) h, fun b o h => h, fun b h => h.elim⟩, ⟨fun said => ?_, fun i a ha => (hnt i a ha).elim, fun j b h => absurd (hown j b) h, fun j b _ i a _ ha => (hnt i a ha).elim, fun j => by rw [hd]; rfl, fun op hop => by simp at hop⟩,
      fun j hj => ⟨by rw [upd_ne _ _ (by simp at hj; omega)], fun op hop => by simp at hop⟩, fun j x hx => ?_, rfl, rfl, rfl, fun b o h => h, .lone rfl (fun j h1 h2 => by simp at h2; omega) (fun x hx => ?_), by simp⟩
    · rintro ⟨i, j, _, ⟨x, y, hx, _⟩, _⟩; simp [Trace.act?] at hx
    · have : j = 0 := by have := (Array.getElem?_eq_some_iff.1 hx).1; simp at this; exact this
      subst this
      have e : x = a := by simpa using hx.symm
      subst e
      rw [upd_same]
      exact .run _ (SameG.refl _) hs.running rfl hs
    · have e : x = a := by simpa using hx.symm
      subst e
      exact hs.running
  exact company_ends _ _ _ ⟨#[a], W, none, _, _, _, _, rfl, hI, rfl⟩
end
end Go.Sep
