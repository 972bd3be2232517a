/-
  A company: the numbers are given out. Conditions: none.
-/
import Derived.Test.YtcomjkbfmklfnaaDoorCh
set_option linter.unusedSimpArgs false
set_option linter.unusedVariables false
namespace Go.Sep
open Go.Conc
open Go.ConcR (KK wgBlock WgAt stA smA rd wr mk)
open Go.ConcN (RW WgLive PayAt)

theorem get_set2 {gs : Array Goroutine} {i j k : Nat} {x y z : Goroutine} (hi : i < gs.size) (hj : j < gs.size) (h : ((gs.setIfInBounds j y).setIfInBounds i x)[k]? = some z) : (k = i ∧ z = x) ∨ (k ≠ i ∧ k = j ∧ z = y) ∨ (k ≠ i ∧ k ≠ j ∧ gs[k]? = some z) := by
  rcases get_set (by simpa using hi) h with h1 | ⟨h1, h2⟩
  · exact .inl h1
  · rcases get_set hj h2 with ⟨h3, h4⟩ | ⟨h3, h4⟩
    · exact .inr (.inl ⟨h1, h3, h4⟩)
    · exact .inr (.inr ⟨h1, h3, h4⟩)

theorem parked_inj {a b : Goroutine} {cs cs' : Array CommCase} {sh sh' : CommShape} (h : parked a cs sh = parked b cs' sh') : cs = cs' ∧ sh = sh' ∧ ∀ v, Conc.served a v = Conc.served b v := by
  simp only [parked, Goroutine.mk.injEq, Option.some.injEq, Prod.mk.injEq] at h
  obtain ⟨h1, h2, _, h3, h4, h5⟩ := h
  exact ⟨h4, h5, fun v => by simp [Conc.served, h1, h2, h3]⟩
theorem scase_inj {c c' : Nat} {v v' z z' : Value} (h : #[scase c v z] = #[scase c' v' z']) : v = v' ∧ z = z' := by
  simp [scase] at h; exact ⟨h.2.1, h.2.2⟩

section
variable {φ : Ph} {base : Nat} {gs gs' : Array Goroutine} {γs γs' : Nat → Gh} {bufs bufs' : List Res} {sm sm' : Int} {RO : Nat → Option Obj} {t u : Trace} {r r' pg : Nat}

theorem Waiting.of (h : Waiting φ base gs γs bufs sm) (hb : ∀ j z, gs'[j]? = some z → z.status = .blocked → gs[j]? = some z ∧ γs' j = γs j) (hm : ∀ z, gs'[0]? = some z → z.status = .blocked → bufs' = [] ∧ isGone (γs' (base + φ.n)) = false)
    (hs : ∀ i z k, i < φ.n → gs'[base + i]? = some z → z.status = .blocked → hold (γs' (base + i)) = some k → bufs'.length = 4) (hr : isFd (γs (base + φ.n)) = true → isFd (γs' (base + φ.n)) = true ∨ ∀ i z, i < φ.n → gs'[base + i]? = some z → z.status = .blocked → hold (γs' (base + i)) ≠ none)
    (hsm : ∀ z, gs'[base + φ.n]? = some z → z.status = .blocked → isFd (γs' (base + φ.n)) = false → sm' = 0) : Waiting φ base gs' γs' bufs' sm' := by
  refine ⟨fun z hz hzb => ⟨(hm z hz hzb).1, (hm z hz hzb).2, fun i hi x hx hxb => ?_⟩, fun i hi z hz hzb k hk => hs i z k hi hz hzb hk, fun i hi z hz hzb hh => ?_, hsm⟩
  · obtain ⟨a, _⟩ := hb 0 z hz hzb
    obtain ⟨c, d⟩ := hb _ x hx hxb
    rw [d]; exact (h.main z a hzb).2.2 i hi x c hxb
  · obtain ⟨c, d⟩ := hb _ z hz hzb
    rw [d] at hh
    obtain ⟨e, f⟩ := h.recv i hi z c hzb hh
    refine ⟨(hr e).elim id fun x => absurd (d ▸ hh) (x i z hi hz hzb), fun x hx hxb => ?_⟩
    exact f x (hb _ x hx hxb).1 hxb

def Msg (φ : Ph) (RO : Nat → Option Obj) (t : Trace) (pos : Nat) (x : Res) : Prop := ∃ p, t.act? p = some (.send φ.dn pos) ∧ t.heard p ∧ ∀ B o, x.car = some (B, o) → RO B = some o ∧ Wrote t B p

theorem Msg.app {pos : Nat} {x : Res} (h : Msg φ RO t pos x) (hu : ∀ op ∈ u, op.act.touch? = none) : Msg φ RO (t ++ u) pos x := by
  obtain ⟨p, h1, h2, h3⟩ := h
  exact ⟨p, act?_app h1, heard_app h1 h2, fun B o e => ⟨(h3 B o e).1, (h3 B o e).2.app fun op hop y hy => (by rw [hu op hop] at hy; cases hy)⟩⟩

theorem Traced.quiet (h : Traced φ base γs RO t bufs r pg) {N : Nat} (hu : Quiet N u) : Traced φ base γs RO (t ++ u) bufs r pg :=
  h.app (fun _ _ _ q hc => hc.mute hu.touch) (fun _ _ _ q hc => hc.mute hu.touch) (fun _ _ _ _ q hc => hc.mute hu.touch) (fun _ q hc => hc.mute hu.touch) (fun op hop x hx => (by rw [hu.touch op hop] at hx; cases hx)) (fun op hop x hx => (by rw [hu.touch op hop] at hx; cases hx))

theorem Traced.next (h : Traced φ base γs RO t bufs r pg) (hold : ∀ j, 0 < j → j < base → γs' j = γs j) (hw : ∀ i, i < φ.n → γs' (base + i) = γs (base + i) ∨ KW φ t pg (base + i) (γs' (base + i)))
    (hf : γs' (base + φ.n) = γs (base + φ.n) ∨ KF φ base t pg (γs' (base + φ.n))) (hm : ∀ q x, bufs'[q]? = some x → Msg φ RO t (r' + q) x) : Traced φ base γs' RO t bufs' r' pg :=
  ⟨fun j a b => by rw [hold j a b]; exact h.old j a b, h.wgT, fun i hi => (hw i hi).elim (fun e => by rw [e]; exact h.w i hi) id, ⟨h.f.1, hf.elim (fun e => by rw [e]; exact h.f.2) id⟩, hm⟩

theorem Traced.msgs (h : Traced φ base γs RO t bufs r pg) : ∀ q x, bufs[q]? = some x → Msg φ RO t (r + q) x := h.msg
end

section
variable {P : Program} {Q : Value → Prop} {w₀ : World} {gs : Array Goroutine} {w : World} {sl : Option (Nat × Nat)} {t : Trace} {Hs : Nat → Hp} {γs : Nat → Gh} {sh : Nat → Sh} {RO : Nat → Option Obj} {i : Nat} {g g₀ : Goroutine} {s : Sh} {H : Hp} {γ : Gh}

/-- Who is blocked, and how. -/
theorem Sits.blk_fd (h : Sits P Q i g s H γ w) (hb : g.status = .blocked) {φ : Ph} {k : Nat} (hγ : γ = .fd φ k) : ∃ g₀ z, g = parked (core g₀) #[scase φ.td (numV k) z] .send := by
  cases h with
  | run g₀ a b => rw [b] at hb; cases hb
  | recvD g₀ φ' got a b c => rw [hγ] at a; cases a
  | recvT g₀ φ' nx a b c => rw [hγ] at a; cases a
  | sendT g₀ φ' k' z a b c d => rw [hγ] at a; cases a; exact ⟨g₀, z, d⟩
  | sendD g₀ φ' nx k' v car z a => rw [hγ] at a; cases a
  | sema g₀ φ' a => rw [hγ] at a; cases a
  | tail φ' j m a b => rw [hγ] at b; cases b
  | quit n a b => rw [hγ] at b; cases b
theorem Sits.blk_wk (h : Sits P Q i g s H γ w) (hb : g.status = .blocked) {φ : Ph} {nx : Nat} (hγ : γ = .wk φ nx none) : ∃ g₀, g = parked (core g₀) #[rcase φ.td z0] (.recv true) := by
  cases h with
  | run g₀ a b => rw [b] at hb; cases hb
  | recvD g₀ φ' got a b c => rw [hγ] at a; cases a
  | recvT g₀ φ' nx a b c => rw [hγ] at a; cases a; exact ⟨g₀, c⟩
  | sendT g₀ φ' k' z a b c d => rw [hγ] at a; cases a
  | sendD g₀ φ' nx k' v car z a => rw [hγ] at a; cases a
  | sema g₀ φ' a => rw [hγ] at a; cases a
  | tail φ' j m a b => rw [hγ] at b; cases b
  | quit n a b => rw [hγ] at b; cases b
theorem Sits.blk_send (h : Sits P Q i g s H γ w) (hb : g.status = .blocked) {φ : Ph} {nx k : Nat} (hγ : γ = .wk φ nx (some k)) : ∃ g₀ v z, g = parked (core g₀) #[scase φ.dn v z] .send := by
  cases h with
  | run g₀ a b => rw [b] at hb; cases hb
  | recvD g₀ φ' got a b c => rw [hγ] at a; cases a
  | recvT g₀ φ' nx a b c => rw [hγ] at a; cases a
  | sendT g₀ φ' k' z a b c d => rw [hγ] at a; cases a
  | sendD g₀ φ' nx k' v car z a _ _ _ e => rw [hγ] at a; cases a; exact ⟨g₀, v, z, e⟩
  | sema g₀ φ' a => rw [hγ] at a; cases a
  | tail φ' j m a b => rw [hγ] at b; cases b
  | quit n a b => rw [hγ] at b; cases b
theorem Sits.blk_main (h : Sits P Q i g s H γ w) (hb : g.status = .blocked) {φ : Ph} {got : List Nat} (hγ : γ = .fed φ got) : ∃ g₀, g = parked (core g₀) #[rcase φ.dn φ.zw] (.recv true) := by
  cases h with
  | run g₀ a b => rw [b] at hb; cases hb
  | recvD g₀ φ' got a b c => rw [hγ] at a; cases a; exact ⟨g₀, c⟩
  | recvT g₀ φ' nx a b c => rw [hγ] at a; cases a
  | sendT g₀ φ' k' z a b c d => rw [hγ] at a; cases a
  | sendD g₀ φ' nx k' v car z a _ _ _ e => rw [hγ] at a; cases a
  | sema g₀ φ' a => rw [hγ] at a; cases a
  | tail φ' j m a b => rw [hγ] at b; cases b
  | quit n a b => rw [hγ] at b; cases b

theorem ofEv_nil (g : Nat) (fn : FuncId) (pos : String) (u : Array MemOp) : MemOp.ofEvents g fn pos #[] ++ u = u := by simp [MemOp.ofEvents]

/-- It waits. -/
theorem step_waits (hI : Inv P Q w₀ gs w t Hs γs sh RO) (hi : gs[i]? = some g) (hrun : g.status = .running) {cs : Array CommCase} {shp : CommShape} {g₂ : Goroutine} (hr : runT P (crowd gs w sl) i = (.next (crowd (gs.setIfInBounds i (parked g₂ cs shp)) w sl), MemOp.ofEvents i g.frame.fn g.frame.place #[]))
    (hs : Sits P Q i (parked g₂ cs shp) (sh i) (Hs i) (γs i) w) (hph : PhI (gs.setIfInBounds i (parked g₂ cs shp)) w t γs RO) : Steps P Q w₀ gs t sh (runT P (crowd gs w sl) i) := by
  have hil := (Array.getElem?_eq_some_iff.1 hi).1
  refine .inr ⟨_, w, sl, _, Hs, γs, sh, RO, hr, ?_, lt_run hi hrun (by simp [parked])⟩
  have e : t ++ MemOp.ofEvents i g.frame.fn g.frame.place #[] = t := by simp [MemOp.ofEvents]
  rw [e]
  refine ⟨hI.mem, hI.tr, fun j hj => hI.out j (by simpa using hj), fun j x hx => ?_, hI.os, hI.tape, hI.output, hI.keep, hph, by simpa using hI.pos⟩
  rcases get_set hil hx with ⟨rfl, rfl⟩ | ⟨hj, hx⟩
  · exact hs
  · exact hI.sits j x hx

/-- Nobody sends numbers before the feeder is there. -/
theorem opn_quiet {φ : Ph} {jn base : Nat} (hI : Inv P Q w₀ gs w t Hs γs sh RO) (h0 : γs 0 = .opn φ jn) (hO : Opn φ jn base gs w t γs) : partners (gs.setIfInBounds i ph) φ.td true = [] := by
  apply List.eq_nil_iff_forall_not_mem.2
  rintro ⟨j, k⟩ hm
  obtain ⟨x, hx, hk⟩ := mem_partners.1 hm
  rcases getElem?_stand gs i j x hx with ⟨_, rfl⟩ | ⟨hji, hx⟩
  · rw [offersAt_ph] at hk; cases hk
  have hlt := (Array.getElem?_eq_some_iff.1 hx).1
  have hsz := hO.size
  by_cases hb : x.status = .blocked
  · have hs := hI.sits j x hx
    rcases Nat.eq_zero_or_pos j with rfl | hp
    · rw [hO.run x hx] at hb; cases hb
    rcases Nat.lt_or_ge j base with h1 | h1
    · have hg := (hO.old j hp h1).1
      cases hs with
      | run g₀ a b => rw [b] at hb; cases hb
      | recvD g₀ φ' got a b c => rw [hg] at a; cases a
      | recvT g₀ φ' nx a b c => rw [hg] at a; cases a
      | sendT g₀ φ' k' z a b c d => rw [hg] at a; cases a
      | sendD g₀ φ' nx k' v car z a _ _ _ e => rw [hg] at a; cases a
      | sema g₀ φ' a => rw [hg] at a; cases a
      | tail φ' j m a b c => rw [hg] at b; cases b
      | quit n a b c => rcases c.status with h | h <;> rw [h] at hb <;> cases hb
    · have hw := hO.wk (j - base) (by omega)
      rw [show base + (j - base) = j by omega] at hw
      obtain ⟨g₀, rfl⟩ := hs.blk_wk hb hw
      rw [offersAt_parked_recv'] at hk; cases hk
  · rw [offersAt_of_not_blocked hb] at hk; cases hk

theorem Meets.parkT (M : Meets P Q false .recvT s g₀ H γ) (hi0 : i ≠ 0) {φ : Ph} {nx : Nat} (hγ : γ = .wk φ nx none) : Sits P Q i (parked (core g₀) #[rcase φ.td z0] (.recv true)) s H γ w := by
  have e : (i == 0) = false := by simpa using hi0
  exact .recvT g₀ φ nx hγ (by rw [e]; exact M) rfl

theorem sits_of {s' : Sh} {g' : Goroutine} {H' : Hp} {γ' : Gh} (hi0 : i ≠ 0) (hl : γ'.live = true) (h : TreeS P (company P Q) false s' g' H' γ') : Sits P Q i g' s' H' γ' w := by
  have e : (i == 0) = false := by simpa using hi0
  exact .run g' (SameG.refl g') h.running hl (by rw [e]; exact h)

theorem quiet4 {N : Nat} {a b c d : MemOp} (h : ∀ op ∈ [a, b, c, d], op.act.touch? = none ∧ (∀ m, op.act ≠ .mark m) ∧ op.g < N) : Quiet N #[a, b, c, d] := by
  refine ⟨fun op hop => (h op (by simpa using hop)).2.2, fun op hop => (h op (by simpa using hop)).1, fun op hop => ⟨(h op (by simpa using hop)).2.1 _, (h op (by simpa using hop)).2.1 _⟩, fun op hop x => (h op (by simpa using hop)).2.1 _⟩
theorem quiet2 {N : Nat} {a b : MemOp} (h : ∀ op ∈ [a, b], op.act.touch? = none ∧ (∀ m, op.act ≠ .mark m) ∧ op.g < N) : Quiet N #[a, b] := by
  refine ⟨fun op hop => (h op (by simpa using hop)).2.2, fun op hop => (h op (by simpa using hop)).1, fun op hop => ⟨(h op (by simpa using hop)).2.1 _, (h op (by simpa using hop)).2.1 _⟩, fun op hop x => (h op (by simpa using hop)).2.1 _⟩
theorem quiet1 {N : Nat} {a : MemOp} (h : ∀ op ∈ [a], op.act.touch? = none ∧ (∀ m, op.act ≠ .mark m) ∧ op.g < N) : Quiet N #[a] := by
  refine ⟨fun op hop => (h op (by simpa using hop)).2.2, fun op hop => (h op (by simpa using hop)).1, fun op hop => ⟨(h op (by simpa using hop)).2.1 _, (h op (by simpa using hop)).2.1 _⟩, fun op hop x => (h op (by simpa using hop)).2.1 _⟩

theorem Fed.ltT {φ : Ph} {got : List Nat} {base : Nat} {D : FedD} (hF : Fed φ got base gs w t γs RO D) : φ.td < w.heap.size := lt_of_heap hF.shared.chT
theorem Fed.ltD {φ : Ph} {got : List Nat} {base : Nat} {D : FedD} (hF : Fed φ got base gs w t γs RO D) : φ.dn < w.heap.size := lt_of_heap hF.shared.chD

/-- A NUMBER IS GIVEN OUT: the worker i and the feeder come together. -/
theorem feed_inv (hI : Inv P Q w₀ gs w t Hs γs sh RO) {φ : Ph} {got : List Nat} {base : Nat} {D : FedD} (h0 : γs 0 = .fed φ got) (hF : Fed φ got base gs w t γs RO D) {k₁ nx k : Nat} (hk₁ : k₁ < φ.n) (hwk : γs (base + k₁) = .wk φ nx none) (hfd : γs (base + φ.n) = .fd φ k) (hkm : k < φ.m)
    {gw gf : Goroutine} {gs' : Array Goroutine} (hgs : ∀ j z, gs'[j]? = some z → (j = base + k₁ ∧ z = gw) ∨ (j ≠ base + k₁ ∧ j = base + φ.n ∧ z = gf) ∨ (j ≠ base + k₁ ∧ j ≠ base + φ.n ∧ gs[j]? = some z)) (hsz : gs'.size = gs.size) {u : Trace} (hu : Quiet gs.size u) {d : Nat}
    {s₁ s₂ : Sh} (hw : Sits P Q (base + k₁) gw s₁ (Hs (base + k₁)) (.wk φ (k + 1) (some k)) ((w.at d).setChan φ.td 0 #[] false (D.sT + 1) (D.rT + 1) D.tmT)) (hf : Sits P Q (base + φ.n) gf s₂ (Hs (base + φ.n)) (.fd φ (k + 1)) ((w.at d).setChan φ.td 0 #[] false (D.sT + 1) (D.rT + 1) D.tmT))
    (hgw : gw.status = .running) (hgf : gf.status = .running) :
    Inv P Q w₀ gs' ((w.at d).setChan φ.td 0 #[] false (D.sT + 1) (D.rT + 1) D.tmT) (t ++ u) Hs (upd (upd γs (base + k₁) (.wk φ (k + 1) (some k))) (base + φ.n) (.fd φ (k + 1))) (upd (upd sh (base + k₁) s₁) (base + φ.n) s₂) RO := by
  have hb1 := hF.base1
  have hne : base + k₁ ≠ base + φ.n := by omega
  have eF : upd (upd γs (base + k₁) (.wk φ (k + 1) (some k))) (base + φ.n) (.fd φ (k + 1)) (base + φ.n) = .fd φ (k + 1) := upd_same _ _ _
  have eW : upd (upd γs (base + k₁) (.wk φ (k + 1) (some k))) (base + φ.n) (.fd φ (k + 1)) (base + k₁) = .wk φ (k + 1) (some k) := by rw [upd_ne _ _ hne, upd_same]
  have eO : ∀ j, j ≠ base + k₁ → j ≠ base + φ.n → upd (upd γs (base + k₁) (.wk φ (k + 1) (some k))) (base + φ.n) (.fd φ (k + 1)) j = γs j := fun j a b => by rw [upd_ne _ _ b, upd_ne _ _ a]
  have e0 := eO 0 (by omega) (by omega)
  have hT : Turned φ w ((w.at d).setChan φ.td 0 #[] false (D.sT + 1) (D.rT + 1) D.tmT) := Turned.chan w d (.inl rfl)
  have hS := hF.shared
  have hkO : kOf φ (γs (base + φ.n)) = k := by rw [hfd]; rfl
  have hcnt : ∀ c, cnt base (upd (upd γs (base + k₁) (.wk φ (k + 1) (some k))) (base + φ.n) (.fd φ (k + 1))) c φ.n = cnt base γs c φ.n := fun c => by rw [cnt_out _ (by omega), cnt_same hk₁ (by rw [hwk]; rfl)]
  have key := comm_inv (car := none) (γs' := upd (upd γs (base + k₁) (.wk φ (k + 1) (some k))) (base + φ.n) (.fd φ (k + 1))) (sh' := upd (upd sh (base + k₁) s₁) (base + φ.n) s₂) hI h0 hF hsz hu hT (fun _ _ e => by cases e) (fun j x hx => ?_) (fun b h => by rw [e0] at h; exact h) ?_
  · rw [learnt_none] at key; exact key
  · rw [learnt_none]
    rcases hgs j x hx with ⟨rfl, rfl⟩ | ⟨h1, rfl, rfl⟩ | ⟨h1, h2, h3⟩
    · rw [eW, upd_ne _ _ hne, upd_same]; exact .inr hw
    · rw [eF, upd_same]; exact .inr hf
    · by_cases hj0 : j = 0
      · subst hj0
        rw [e0, upd_ne _ _ (by omega), upd_ne _ _ (by omega)]
        refine .inr ((hI.sits 0 x h3).world fun φ' k' hγ => by rw [h0] at hγ; cases hγ)
      · exact .inl ⟨hj0, h3, eO j h1 h2, by rw [upd_ne _ _ h2, upd_ne _ _ h1]⟩
  · refine .fed φ got base { D with sT := D.sT + 1, rT := D.rT + 1 } (e0.trans h0) ⟨hF.ok, hsz.trans hF.size, hb1, ⟨fun j hj => ?_, .inl ⟨k + 1, hkm, eF⟩, fun _ j hj => ?_, ?_⟩, ⟨?_, ?_, hS.sr, hS.four, hS.res, ?_, ?_⟩, (hF.traced.quiet hu).next (fun j a b => eO j (by omega) (by omega)) (fun j hj => ?_) (.inr (by rw [eF]; trivial)) ((hF.traced.quiet hu).msgs), ?_⟩
    · rw [eF]
      by_cases e : j = k₁
      · subst e; rw [eW]; exact .inl ⟨k + 1, some k, Nat.le_refl _, rfl⟩
      · rw [eO _ (by omega) (by omega)]
        have := hF.parts.wk j hj
        rw [hkO] at this
        rcases this with ⟨a, b, c, d⟩ | h | h | h
        · exact .inl ⟨a, b, Nat.le_succ_of_le c, d⟩
        · exact .inr (.inl h)
        · exact .inr (.inr (.inl h))
        · exact .inr (.inr (.inr h))
    · by_cases e : j = k₁
      · subst e; rw [eW]; rfl
      · rw [eO _ (by omega) (by omega)]; exact hF.parts.opn (by rw [hfd]; rfl) j hj
    · rw [eF]
      have J := hF.parts.jobs
      rw [hkO] at J
      refine (J.feed hk₁ (by show hold (γs (base + k₁)) = none; rw [hwk]; rfl)).congr fun j hj => ?_
      by_cases e : j = k₁
      · subst e; rw [eW, upd_same]; rfl
      · rw [eO _ (by omega) (by omega), upd_ne _ _ e]
    · rw [eF]; exact setChan_eq (w := w.at d) hF.ltT
    · have e1 : isGone (upd (upd γs (base + k₁) (.wk φ (k + 1) (some k))) (base + φ.n) (.fd φ (k + 1)) (base + φ.n)) = isGone (γs (base + φ.n)) := by rw [eF, hfd]; rfl
      rw [setChan_ne (w := w.at d) (Ne.symm hF.ok.td_dn), e1]; exact hS.chD
    · show ((w.at d).setChan φ.td 0 #[] false (D.sT + 1) (D.rT + 1) D.tmT).heap[φ.wg]? = _
      rw [setChan_ne (w := w.at d) (Ne.symm hF.ok.td_wg)]; exact hS.wg
    · have hmode := hS.mode
      rw [hfd] at hmode
      rw [eF, hcnt, hcnt, hcnt]
      exact hmode
    · by_cases e : j = k₁
      · subst e; exact .inr (by rw [eW]; trivial)
      · exact .inl (eO _ (by omega) (by omega))
    · refine hF.waiting.of (fun j z hz hb => ?_) (fun z hz hb => ?_) (fun j z k' hj hz hb hh => ?_) (fun _ => .inl (by rw [eF]; rfl)) (fun z hz hb hf' => by rw [eF] at hf'; cases hf')
      · rcases hgs j z hz with ⟨_, rfl⟩ | ⟨_, _, rfl⟩ | ⟨h1, h2, h3⟩
        · rw [hgw] at hb; cases hb
        · rw [hgf] at hb; cases hb
        · exact ⟨h3, eO j h1 h2⟩
      · rcases hgs 0 z hz with ⟨e, _⟩ | ⟨_, e, _⟩ | ⟨h1, h2, h3⟩
        · omega
        · omega
        · exact ⟨(hF.waiting.main z h3 hb).1, by rw [eF]; rfl⟩
      · rcases hgs _ z hz with ⟨_, rfl⟩ | ⟨_, _, rfl⟩ | ⟨h1, h2, h3⟩
        · rw [hgw] at hb; cases hb
        · rw [hgf] at hb; cases hb
        · rw [eO _ h1 h2] at hh; exact hF.waiting.send j hj z h3 hb k' hh

/-- A WORKER ASKS FOR A NUMBER. -/
theorem step_recvT (hI : Inv P Q w₀ gs w t Hs γs sh RO) (hi : gs[i]? = some g) (hi0 : i ≠ 0) (hsg : SameG g g₀) (hrun : g.status = .running) (M : Meets P Q false .recvT (sh i) g₀ (Hs i) (γs i)) : Steps P Q w₀ gs t sh (runT P (crowd gs w sl) i) := by
  have hil := (Array.getElem?_eq_some_iff.1 hi).1
  have hi0' : (i == 0) = false := by simpa using hi0
  obtain ⟨_, φ, nx, hγ, hd, _, hst⟩ := M.at_
  have hst' : stepG P (i == 0) g w = .comm (core g₀) #[rcase φ.td z0] true (.recv true) w #[] := by rw [hi0', hsg.step]; exact hst w (hI.mem.view i)
  have park := Meets.parkT (w := w) M hi0 hγ
  have hph := hI.ph
  cases hph with
  | lone h0 h1 h2 => have := (h1 i (by omega) hil).1; rw [hγ] at this; cases this
  | opn φ' jn base h0 hO =>
    have hφ : φ' = φ := by
      have hsz := hO.size
      rcases Nat.lt_or_ge i base with h1 | h1
      · have := (hO.old i (by omega) h1).1; rw [hγ] at this; cases this
      · have := hO.wk (i - base) (by omega)
        rw [show base + (i - base) = i by omega, hγ] at this; cases this; rfl
    subst hφ
    obtain ⟨tm, hT⟩ := hO.chT
    refine step_waits hI hi hrun (crowd_waits hi hst' fun cc hcc => ?_) park (.opn φ' jn base h0 ⟨hO.ok, by simpa using hO.size, hO.base1, hO.jle, hO.old, hO.wk, hO.chT, hO.chD, fun x hx => ?_⟩)
    · have e : cc = rcase φ'.td z0 := by simpa using hcc
      subst e
      exact ways_recv_none hT (opn_quiet hI h0 hO)
    · rcases get_set hil hx with ⟨e, _⟩ | ⟨_, hx⟩
      · exact absurd e.symm hi0
      · exact hO.run x hx
  | fed φ' got base D h0 hF =>
    obtain ⟨rfl, k₁, hk₁, rfl⟩ := hF.wk_phi h0 hi hγ
    have hb1 := hF.base1
    have hS := hF.shared
    have hsz := hF.size
    have hk := hF.parts.wk k₁ hk₁
    have hnx : nx ≤ kOf φ (γs (base + φ.n)) := by
      rcases hk with ⟨a, b, c, d⟩ | h | ⟨_, _, h⟩ | h <;> rw [hγ] at * <;> first | (cases d; exact c) | cases h
    have hoff : ∀ j k, (j, k) ∈ partners (gs.setIfInBounds (base + k₁) ph) φ.td true → j ≠ base + k₁ ∧ k = 0 ∧ Offer P Q φ base gs Hs γs sh j φ.td true := fun j k h => offers_who hF h0 hI.sits h
    by_cases hne : partners (gs.setIfInBounds (base + k₁) ph) φ.td true = []
    · cases hfd : isFd (γs (base + φ.n)) with
      | false =>
        -- the channel is closed
        have hT := hS.chT
        rw [hfd] at hT
        have hr := crowd_recv_closed (sl := sl) hi hst' hT hne
        rw [ofEv_nil, finishComm_recv] at hr
        obtain ⟨s', hlt, htree⟩ := M.out _ _ _ ⟨φ, nx, hγ, rfl, .inr ⟨rfl, rfl⟩⟩
        have hu : Quiet gs.size #[({ g := base + k₁, fn := (core g₀).frame.fn, pos := (core g₀).frame.place, act := .recvClosed φ.td } : MemOp)] := quiet1 (fun op hop => by simp at hop; subst hop; exact ⟨rfl, fun m => by simp, by dsimp only; omega⟩)
        have eW : upd γs (base + k₁) (.wc φ) (base + k₁) = .wc φ := upd_same _ _ _
        have eO : ∀ j, j ≠ base + k₁ → upd γs (base + k₁) (.wc φ) j = γs j := fun j a => upd_ne _ _ a
        have e0 := eO 0 (by omega)
        have eF := eO (base + φ.n) (by omega)
        have hcnt : ∀ c, cnt base (upd γs (base + k₁) (.wc φ)) c φ.n = cnt base γs c φ.n := fun c => cnt_same hk₁ (by rw [hγ]; rfl)
        have hrun' : (Conc.served (core g₀) (recvd true z0 false)).status = .running := rfl
        refine .inr ⟨_, w, sl, _, Hs, upd γs (base + k₁) (.wc φ), upd sh (base + k₁) s', RO, hr, ?_, lt_kid (by simp) hi0 hil hlt⟩
        have key := comm_inv (car := none) (γs' := upd γs (base + k₁) (.wc φ)) (sh' := upd sh (base + k₁) s') (gs' := gs.setIfInBounds (base + k₁) (Conc.served (core g₀) (recvd true z0 false))) hI h0 hF (by simp) hu (Turned.refl w) (fun _ _ e => by cases e) (fun j x hx => ?_) (fun b h => by rw [e0] at h; exact h) ?_
        · rw [learnt_none] at key; exact key
        · rw [learnt_none]
          rcases get_set hil hx with ⟨rfl, rfl⟩ | ⟨h1, h3⟩
          · rw [eW, upd_same]; exact .inr (sits_of hi0 rfl htree)
          · by_cases hj0 : j = 0
            · subst hj0; rw [e0, upd_ne _ _ (by omega)]; exact .inr (hI.sits 0 x h3)
            · exact .inl ⟨hj0, h3, eO j h1, upd_ne _ _ h1⟩
        · refine .fed φ got base D (e0.trans h0) ⟨hF.ok, by simpa using hsz, hb1, ⟨fun j hj => ?_, by rw [eF]; exact hF.parts.fd, fun h => (by rw [eF, hfd] at h; cases h), ?_⟩, ⟨by rw [eF]; exact hS.chT, by rw [eF]; exact hS.chD, hS.sr, hS.four, hS.res, hS.wg, by rw [eF, hcnt, hcnt, hcnt]; exact hS.mode⟩,
            (hF.traced.quiet hu).next (fun j a b => eO j (by omega)) (fun j hj => ?_) (.inl eF) (hF.traced.quiet hu).msgs, ?_⟩
          · rw [eF]
            by_cases e : j = k₁
            · subst e; rw [eW]; exact .inr (.inl rfl)
            · rw [eO _ (by omega)]; exact hF.parts.wk j hj
          · rw [eF]
            refine hF.parts.jobs.congr fun j hj => ?_
            by_cases e : j = k₁
            · subst e; rw [eW, hγ]; rfl
            · rw [eO _ (by omega)]
          · by_cases e : j = k₁
            · subst e
              rw [eW]
              refine .inr ?_
              -- it knows what the feeder knew at its close
              have hKF := hF.traced.f.2
              have hcl : ∃ p, t.act? p = some (.close φ.td) ∧ t.heard p ∧ Before t D.pg p := by
                rcases hF.parts.fd with ⟨_, _, e⟩ | ⟨s, e⟩ | e
                · rw [e] at hfd; cases hfd
                · rw [e] at hKF
                  cases s with
                  | close => exact hKF.1
                  | _ => exact hKF
                · rw [e] at hKF; exact hKF.1
              obtain ⟨p, h1, h2, h3⟩ := hcl
              have hq : (t ++ #[({ g := base + j, fn := (core g₀).frame.fn, pos := (core g₀).frame.place, act := .recvClosed φ.td } : MemOp)])[t.size]? = some { g := base + j, fn := (core g₀).frame.fn, pos := (core g₀).frame.place, act := .recvClosed φ.td } := at_new (k := 0) rfl
              exact knows_edge (h3.app _) (edge_close (act?_app h1) (act?_of hq) (heard_app h1 h2) (heard_new (k := 0) hu.deaf hq (by show Deaf t (base + j) = 0; rw [hI.tr.deaf, hd]))) hq
            · exact .inl (eO _ (by omega))
          · refine hF.waiting.of (fun j z hz hb => ?_) (fun z hz hb => ?_) (fun j z k' hj hz hb hh => ?_) (fun h => by rw [hfd] at h; cases h) (fun z hz hb hf' => ?_)
            · rcases get_set hil hz with ⟨_, rfl⟩ | ⟨h1, h3⟩
              · rw [hrun'] at hb; cases hb
              · exact ⟨h3, eO j h1⟩
            · rcases get_set hil hz with ⟨e, _⟩ | ⟨h1, h3⟩
              · omega
              · rw [eF]; exact ⟨(hF.waiting.main z h3 hb).1, (hF.waiting.main z h3 hb).2.1⟩
            · rcases get_set hil hz with ⟨_, rfl⟩ | ⟨h1, h3⟩
              · rw [hrun'] at hb; cases hb
              · rw [eO _ h1] at hh; exact hF.waiting.send j hj z h3 hb k' hh
            · rcases get_set hil hz with ⟨e, _⟩ | ⟨h1, h3⟩
              · omega
              · exact hF.waiting.sema z h3 hb hfd
      | true =>
        -- nobody is there yet
        have hT := hS.chT
        rw [hfd] at hT
        refine step_waits hI hi hrun (crowd_waits hi hst' fun cc hcc => ?_) park (.fed φ got base D h0 ⟨hF.ok, by simpa using hsz, hb1, hF.parts, hF.shared, hF.traced, ⟨fun z hz hb => ?_, fun j hj z hz hb k' hh => ?_, fun j hj z hz hb hh => ⟨hfd, fun x hx hxb => ?_⟩, fun z hz hb hf' => by rw [hfd] at hf'; cases hf'⟩⟩)
        · have e : cc = rcase φ.td z0 := by simpa using hcc
          subst e
          exact ways_recv_none hT hne
        · rcases get_set hil hz with ⟨e, _⟩ | ⟨h1, h3⟩
          · omega
          · obtain ⟨a, b, c⟩ := hF.waiting.main z h3 hb
            refine ⟨a, b, fun j hj x hx hxb => ?_⟩
            rcases get_set hil hx with ⟨e, _⟩ | ⟨_, hx⟩
            · rw [e, hγ]; rfl
            · exact c j hj x hx hxb
        · rcases get_set hil hz with ⟨e, _⟩ | ⟨_, h3⟩
          · rw [e, hγ] at hh; cases hh
          · exact hF.waiting.send j hj z h3 hb k' hh
        · rcases get_set hil hx with ⟨e, _⟩ | ⟨h1, h3⟩
          · omega
          · obtain ⟨k, hk'⟩ : ∃ k, γs (base + φ.n) = .fd φ k := by
              rcases hF.parts.fd with ⟨k, _, e⟩ | ⟨s, e⟩ | e
              · exact ⟨k, e⟩
              · rw [e] at hfd; cases hfd
              · rw [e] at hfd; cases hfd
            obtain ⟨g₁, z₁, rfl⟩ := (hI.sits _ x h3).blk_fd hxb hk'
            have hmem : (base + φ.n, 0) ∈ partners (gs.setIfInBounds (base + k₁) ph) φ.td true := by
              rw [mem_partners]
              refine ⟨_, stand_get h1 h3, ?_⟩
              rw [offersAt_parked_send]; simp
            rw [hne] at hmem; cases hmem
    · -- the feeder waits with one
      have hfdT : isFd (γs (base + φ.n)) = true := by
        obtain ⟨⟨j, k⟩, hjk⟩ := List.exists_mem_of_ne_nil _ hne
        obtain ⟨_, _, ho⟩ := hoff j k hjk
        obtain ⟨_, k', _, rfl, e, _⟩ := ho.td_send hF.ok
        rw [e]; rfl
      have hT := hS.chT
      rw [hfdT] at hT
      obtain ⟨j, gj, vj, zj, shj, d, hji, hj, hr⟩ := crowd_recv_meets_some (sl := sl) hi hst' hT hne (fun j k h => by
        obtain ⟨a, b, ho⟩ := hoff j k h
        obtain ⟨g₁, k', z', _, _, _, _, e⟩ := ho.td_send hF.ok
        exact ⟨b, a, _, _, _, _, e⟩)
      have hjp : (j, 0) ∈ partners (gs.setIfInBounds (base + k₁) ph) φ.td true := by
        rw [mem_partners]
        refine ⟨_, stand_get hji hj, ?_⟩
        rw [offersAt]; simp [parked, scase]
      obtain ⟨_, _, ho⟩ := hoff j 0 hjp
      obtain ⟨g₁, k, z, rfl, hfk, hkm, M₂, hj₂⟩ := ho.td_send hF.ok
      rw [hj] at hj₂
      obtain ⟨e1, e2, e3⟩ := parked_inj (Option.some.inj hj₂)
      obtain ⟨rfl, rfl⟩ := scase_inj e1
      subst e2
      rw [ofEv_nil, finishComm_recv, finishComm_send, e3] at hr
      rw [hfk] at hnx
      obtain ⟨s₁, hlt₁, ht₁⟩ := M.out _ _ _ ⟨φ, nx, hγ, rfl, .inl ⟨k, hnx, hkm, rfl, rfl⟩⟩
      obtain ⟨s₂, hlt₂, ht₂⟩ := M₂.out _ _ _ ⟨φ, k, hfk, rfl, rfl, rfl⟩
      refine .inr ⟨_, _, sl, _, Hs, _, upd (upd sh (base + k₁) s₁) (base + φ.n) s₂, RO, hr, feed_inv hI h0 hF hk₁ hγ hfk hkm (fun a b c => get_set2 hil (Array.getElem?_eq_some_iff.1 hj).1 c) (by simp) (quiet4 (fun op hop => ?_)) (sits_of hi0 rfl ht₁) (sits_of (by omega) rfl ht₂) ht₁.running ht₂.running,
        lt_two (by simp) hil (Array.getElem?_eq_some_iff.1 hj).1 hji hlt₁ hlt₂⟩
      simp at hop
      rcases hop with rfl | rfl | rfl | rfl <;> exact ⟨rfl, fun m => by simp, by dsimp only; omega⟩

/-- THE FEEDER HAS A NUMBER TO GIVE. -/
theorem step_sendT (hI : Inv P Q w₀ gs w t Hs γs sh RO) (hi : gs[i]? = some g) (hi0 : i ≠ 0) (hsg : SameG g g₀) (hrun : g.status = .running) (M : Meets P Q false .sendT (sh i) g₀ (Hs i) (γs i)) : Steps P Q w₀ gs t sh (runT P (crowd gs w sl) i) := by
  have hil := (Array.getElem?_eq_some_iff.1 hi).1
  have hi0' : (i == 0) = false := by simpa using hi0
  obtain ⟨_, φ, k, z, hγ, hkm, hd, _, hst⟩ := M.at_
  have hst' : stepG P (i == 0) g w = .comm (core g₀) #[scase φ.td (numV k) z] true .send w #[] := by rw [hi0', hsg.step]; exact hst w (hI.mem.view i)
  have park : Sits P Q i (parked (core g₀) #[scase φ.td (numV k) z] .send) (sh i) (Hs i) (γs i) w := .sendT g₀ φ k z hγ hkm (by rw [hi0']; exact M) rfl
  have hph := hI.ph
  cases hph with
  | lone h0 h1 h2 => have := (h1 i (by omega) hil).1; rw [hγ] at this; cases this
  | opn φ' jn base h0 hO =>
    have hsz := hO.size
    rcases Nat.lt_or_ge i base with h1 | h1
    · have := (hO.old i (by omega) h1).1; rw [hγ] at this; cases this
    · have := hO.wk (i - base) (by omega)
      rw [show base + (i - base) = i by omega, hγ] at this; cases this
  | fed φ' got base D h0 hF =>
    obtain ⟨rfl, rfl⟩ := hF.fd_phi h0 hi hγ
    have hb1 := hF.base1
    have hS := hF.shared
    have hsz := hF.size
    have hfdT : isFd (γs (base + φ.n)) = true := by rw [hγ]; rfl
    have hT := hS.chT
    rw [hfdT] at hT
    have hoff : ∀ j k, (j, k) ∈ partners (gs.setIfInBounds (base + φ.n) ph) φ.td false → j ≠ base + φ.n ∧ k = 0 ∧ Offer P Q φ base gs Hs γs sh j φ.td false := fun j k h => offers_who hF h0 hI.sits h
    by_cases hne : partners (gs.setIfInBounds (base + φ.n) ph) φ.td false = []
    · refine step_waits hI hi hrun (crowd_waits hi hst' fun cc hcc => ?_) park (.fed φ got base D h0 ⟨hF.ok, by simpa using hsz, hb1, hF.parts, hF.shared, hF.traced, ⟨fun z' hz hb => ?_, fun j hj z' hz hb k' hh => ?_, fun j hj z' hz hb hh => ⟨hfdT, fun x hx hxb => ?_⟩, fun z' hz hb hf' => by rw [hfdT] at hf'; cases hf'⟩⟩)
      · have e : cc = scase φ.td (numV k) z := by simpa using hcc
        subst e
        exact ways_send_none hT (by simp) hne
      · rcases get_set hil hz with ⟨e, _⟩ | ⟨h1, h3⟩
        · omega
        · obtain ⟨a, b, c⟩ := hF.waiting.main z' h3 hb
          refine ⟨a, b, fun j hj x hx hxb => ?_⟩
          rcases get_set hil hx with ⟨e, _⟩ | ⟨_, hx⟩
          · omega
          · exact c j hj x hx hxb
      · rcases get_set hil hz with ⟨e, _⟩ | ⟨_, h3⟩
        · omega
        · exact hF.waiting.send j hj z' h3 hb k' hh
      · -- a worker that waits would have been found
        rcases get_set hil hz with ⟨e, _⟩ | ⟨h1, h3⟩
        · omega
        · have hw := hF.parts.opn hfdT j hj
          obtain ⟨φ₂, nx, h', hw'⟩ : ∃ φ₂ nx h', γs (base + j) = .wk φ₂ nx h' := by
            cases hx' : γs (base + j) <;> rw [hx'] at hw <;> first | cases hw; done | exact ⟨_, _, _, rfl⟩
          rw [hw'] at hh
          have hh' : h' = none := hh
          subst hh'
          obtain ⟨rfl, _⟩ := hF.wk_phi h0 h3 hw'
          obtain ⟨g₁, rfl⟩ := (hI.sits _ z' h3).blk_wk hb hw'
          have hmem : (base + j, 0) ∈ partners (gs.setIfInBounds (base + φ₂.n) ph) φ₂.td false := by
            rw [mem_partners]
            refine ⟨_, stand_get h1 h3, ?_⟩
            rw [offersAt_parked_recv]; simp
          rw [hne] at hmem; cases hmem
    · obtain ⟨j, gj, zj, shj, d, hji, hj, hr⟩ := crowd_send_meets_some (sl := sl) hi hst' hT hne (fun j k h => by
        obtain ⟨a, b, ho⟩ := hoff j k h
        obtain ⟨g₁, i', nx, _, _, _, _, e⟩ := ho.td_recv hF.ok
        exact ⟨b, a, _, _, _, e⟩)
      have hjp : (j, 0) ∈ partners (gs.setIfInBounds (base + φ.n) ph) φ.td false := by
        rw [mem_partners]
        refine ⟨_, stand_get hji hj, ?_⟩
        rw [offersAt]; simp [parked, rcase]
      obtain ⟨_, _, ho⟩ := hoff j 0 hjp
      obtain ⟨g₁, k₁, nx, hk₁, rfl, hwk, M₂, hj₂⟩ := ho.td_recv hF.ok
      rw [hj] at hj₂
      obtain ⟨e1, e2, e3⟩ := parked_inj (Option.some.inj hj₂)
      subst e2
      rw [ofEv_nil, finishComm_recv, finishComm_send, e3] at hr
      have hnx : nx ≤ k := by
        have hk := hF.parts.wk k₁ hk₁
        rw [hγ] at hk
        rcases hk with ⟨a, b, c, d⟩ | h | ⟨_, _, h⟩ | h
        · rw [hwk] at d; cases d; exact c
        · rw [hwk] at h; cases h
        · rw [hwk] at h; cases h
        · rw [hwk] at h; cases h
      obtain ⟨s₁, hlt₁, ht₁⟩ := M₂.out _ _ _ ⟨φ, nx, hwk, rfl, .inl ⟨k, hnx, hkm, rfl, rfl⟩⟩
      obtain ⟨s₂, hlt₂, ht₂⟩ := M.out _ _ _ ⟨φ, k, hγ, rfl, rfl, rfl⟩
      refine .inr ⟨_, _, sl, _, Hs, _, upd (upd sh (base + k₁) s₁) (base + φ.n) s₂, RO, hr, feed_inv hI h0 hF hk₁ hwk hγ hkm (fun a b c => ?_) (by simp) (quiet4 (fun op hop => ?_)) (sits_of (by omega) rfl ht₁) (sits_of hi0 rfl ht₂) ht₁.running ht₂.running,
        lt_two (by simp) (Array.getElem?_eq_some_iff.1 hj).1 hil (Ne.symm hji) hlt₁ hlt₂⟩
      · rcases get_set2 hil (Array.getElem?_eq_some_iff.1 hj).1 c with ⟨h1, h2⟩ | ⟨h1, h2, h3⟩ | ⟨h1, h2, h3⟩
        · exact .inr (.inl ⟨by omega, h1, h2⟩)
        · exact .inl ⟨h2, h3⟩
        · exact .inr (.inr ⟨h2, h1, h3⟩)
      · simp at hop
        rcases hop with rfl | rfl | rfl | rfl <;> exact ⟨rfl, fun m => by simp, by dsimp only; omega⟩
end
end Go.Sep
