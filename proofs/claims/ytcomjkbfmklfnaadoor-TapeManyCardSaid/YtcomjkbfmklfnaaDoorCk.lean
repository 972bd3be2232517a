/-
  A company: the feeder's closes; who touches the group. Conditions: none.
-/
import Derived.Test.YtcomjkbfmklfnaaDoorCj
import Derived.Conc.CrowdBase
set_option linter.unusedSimpArgs false
set_option linter.unusedVariables false
namespace Go.Sep
open Go.Conc
open Go.ConcR (KK wgBlock WgAt stA smA rd wr mk)
open Go.ConcN (RW WgLive PayAt)

theorem Cov.deaf {t : Trace} {k q : Nat} (h : Cov t k q) (fn : FuncId) (pos : String) (es : Array Event)
    (hes : ∀ j e, es[j]? = some e → (MemAct.ofEvent e).touch? = none ∨ ((∃ ad wr, e = ⟨.cell ad, wr, true⟩) ∧ 0 < deafBehind (Deaf t k) (es.extract 0 j))) : Cov (t ++ MemOp.ofEvents k fn pos es) k q := by
  refine h.app (fun i hi _ hc => ?_)
  obtain ⟨x, hx, _, hk⟩ := hc
  obtain ⟨act, hact, hxt⟩ := Option.bind_eq_some_iff.1 hx
  obtain ⟨op, ho, rfl⟩ := Option.map_eq_some_iff.1 hact
  have hj : (MemOp.ofEvents k fn pos es)[i - t.size]? = some op := by
    rw [Array.getElem?_append] at ho
    simpa [Nat.not_lt.2 hi] using ho
  rw [ofEvents_eq, Array.getElem?_map] at hj
  obtain ⟨e, he, rfl⟩ := Option.map_eq_some_iff.1 hj
  have hjs : i - t.size ≤ es.size := by
    rcases Nat.lt_or_ge (i - t.size) es.size with h' | h'
    · omega
    · rw [Array.getElem?_eq_none h'] at he; cases he
  rcases hes _ e he with h0 | ⟨⟨ad, wr, rfl⟩, hd⟩
  · simp only at hxt; rw [h0] at hxt; cases hxt
  · have hxk : x.kind = .atomic := by
      cases wr <;> simp [MemAct.ofEvent, MemAct.touch?] at hxt <;> subst hxt <;> rfl
    rcases hk with hk | ⟨g, hg, hdf⟩
    · exact hk hxk
    · have hg1 : g = k := by simp [Trace.g?, ho] at hg; exact hg.symm
      subst hg1
      have := deaf_inside t g fn pos es (i - t.size) hjs
      rw [show t.size + (i - t.size) = i by omega, hdf] at this
      omega

structure Soft (i : Nat) (u : Trace) : Prop where
  g : ∀ op ∈ u, op.g = i
  touch : ∀ op ∈ u, ∀ x, op.act.touch? = some x → (∃ c, x.loc = .obj c) ∧ x.write = false
  deaf : ∀ op ∈ u, op.act ≠ .mark .disable ∧ op.act ≠ .mark .enable
  rel : ∀ op ∈ u, ∀ a, op.act ≠ .mark (.release a)
theorem soft_close (i : Nat) (fn : FuncId) (pos : String) (c : Nat) : Soft i #[({ g := i, fn := fn, pos := pos, act := .access ⟨.obj c, false, true⟩ } : MemOp), ({ g := i, fn := fn, pos := pos, act := .close c } : MemOp)] := by
  refine ⟨fun op hop => ?_, fun op hop x hx => ?_, fun op hop => ?_, fun op hop a => ?_⟩ <;> (simp at hop; rcases hop with rfl | rfl)
  · rfl
  · rfl
  · simp only [MemAct.touch?, Option.some.injEq] at hx; subst hx; exact ⟨⟨c, rfl⟩, rfl⟩
  · simp [MemAct.touch?] at hx
  · simp
  · simp
  · simp
  · simp
theorem cov_close (t : Trace) (i : Nat) (fn : FuncId) (pos : String) (c : Nat) : Cov (t ++ #[({ g := i, fn := fn, pos := pos, act := .access ⟨.obj c, false, true⟩ } : MemOp), ({ g := i, fn := fn, pos := pos, act := .close c } : MemOp)]) i (t.size + 1) := by
  have hq := at2_1 (t := t) (a := { g := i, fn := fn, pos := pos, act := .access ⟨.obj c, false, true⟩ }) (b := { g := i, fn := fn, pos := pos, act := .close c })
  intro k hg hc
  obtain ⟨x, hx, hgx⟩ := Option.map_eq_some_iff.1 hg
  rcases Nat.lt_or_ge k (t.size + 1) with hk | hk
  · exact .inr (hb_po hk hx hq hgx)
  · obtain ⟨y, hy, _⟩ := hc
    obtain ⟨op, hop, hox⟩ := touch_of hy
    rcases getElem?_append_cases hop with ⟨hi', _⟩ | ⟨hge, hm⟩
    · omega
    · exfalso
      have hlt : k < (t ++ #[({ g := i, fn := fn, pos := pos, act := .access ⟨.obj c, false, true⟩ } : MemOp), ({ g := i, fn := fn, pos := pos, act := .close c } : MemOp)]).size := (Array.getElem?_eq_some_iff.1 hop).1
      simp at hlt
      obtain rfl : k = t.size + 1 := by omega
      rw [hq] at hop
      cases hop
      simp [MemAct.touch?] at hox
section
variable {φ : Ph} {base : Nat} {γs : Nat → Gh} {RO : Nat → Option Obj} {t u : Trace} {bufs : List Res} {r pg : Nat}
theorem Traced.soft (h : Traced φ base γs RO t bufs r pg) (hu : Soft (base + φ.n) u) (hng : γs (base + φ.n) ≠ .gone) : Traced φ base γs RO (t ++ u) bufs r pg :=
  h.app (fun j _ _ q hc => hc.other fun op hop e => by have := hu.g op hop; omega) (fun i _ _ q hc => hc.other fun op hop e => by have := hu.g op hop; omega) (fun _ _ i _ q hc => hc.other fun op hop e => by have := hu.g op hop; omega)
    (fun e => absurd e hng) (fun op hop x hx ad hl => by obtain ⟨⟨c, h1⟩, _⟩ := hu.touch op hop x hx; rw [hl] at h1; cases h1) (fun op hop x hx _ ad hl => by obtain ⟨⟨c, h1⟩, _⟩ := hu.touch op hop x hx; rw [hl] at h1; cases h1)
end

section
variable {P : Program} {Q : Value → Prop} {w₀ : World} {gs : Array Goroutine} {w : World} {sl : Option (Nat × Nat)} {t : Trace} {Hs : Nat → Hp} {γs : Nat → Gh} {sh : Nat → Sh} {RO : Nat → Option Obj} {i : Nat} {g g₀ : Goroutine}

/-- A member's step that turns only where they meet. -/
theorem go_inv (hI : Inv P Q w₀ gs w t Hs γs sh RO) {φ : Ph} {got : List Nat} {base : Nat} {D : FedD} (h0 : γs 0 = .fed φ got) (hF : Fed φ got base gs w t γs RO D) (hi : gs[i]? = some g) (hi0 : i ≠ 0) {g₁ : Goroutine} {w' : World} {es : Array Event} {H' : Hp} {γ' : Gh} {s' : Sh}
    (hst : stepG P (i == 0) g w = .go g₁ w' es) (hw : ∀ b, b ≠ φ.td → b ≠ φ.dn → b ≠ φ.wg → w'.heap[b]? = w.heap[b]?) (hsz : w'.heap.size = w.heap.size) (hos : w'.os = w.os) (htp : w'.tape = w.tape) (hop : w'.output = w.output) (hlive : WgLive 51 φ.wg w')
    (ho : H'.own = (Hs i).own) (hr : H'.ro = (Hs i).ro) (htr : TI (upd Hs i H') (t ++ MemOp.ofEvents i g.frame.fn g.frame.place es) w.heap.size) (hs : Sits P Q i g₁ s' H' γ' w') (hlt : Sh.Lt s' (sh i))
    (hph : PhI ((gs.map (woken P g g₁ w')).setIfInBounds i g₁) w' (t ++ MemOp.ofEvents i g.frame.fn g.frame.place es) (upd γs i γ') RO) : Steps P Q w₀ gs t sh (runT P (crowd gs w sl) i) := by
  have hil := (Array.getElem?_eq_some_iff.1 hi).1
  have hgsz : ((gs.map (woken P g g₁ w')).setIfInBounds i g₁).size = gs.size := by simp
  have eo : ∀ j, (upd Hs i H' j).own = (Hs j).own := fun j => by
    by_cases hj : j = i
    · subst hj; rw [upd_same]; exact ho
    · rw [upd_ne _ _ hj]
  have er : ∀ j, (upd Hs i H' j).ro = (Hs j).ro := fun j => by
    by_cases hj : j = i
    · subst hj; rw [upd_same]; exact hr
    · rw [upd_ne _ _ hj]
  have hm := hI.mem.sync_step (w' := w') eo er hsz fun b hb => hw b (fun e => hb (by rw [h0]; exact .inl e)) (fun e => hb (by rw [h0]; exact .inr (.inl e))) (fun e => hb (by rw [h0]; exact .inr (.inr e)))
  refine .inr ⟨_, w', sl, _, upd Hs i H', upd γs i γ', upd sh i s', RO, runT_crowd_go hi hst, ⟨by rw [upd_ne _ _ (Ne.symm hi0)]; exact hm, by rw [hsz]; exact htr, fun j hj => ?_, fun j x hx => ?_, hos.trans hI.os, htp.trans hI.tape, hop.trans hI.output, hI.keep, hph, by rw [hgsz]; exact hI.pos⟩, lt_kid hgsz hi0 hil hlt⟩
  · rw [hgsz] at hj
    rw [upd_ne _ _ (by omega)]; exact ⟨(hI.out j hj).1, out_own (hI.out j hj).2 hil hj⟩
  · rcases get_go hil hx with ⟨rfl, rfl⟩ | ⟨hj, y, hy, rfl⟩
    · rw [upd_same, upd_same, upd_same]; exact hs
    · rw [upd_ne sh s' hj, upd_ne Hs H' hj, upd_ne γs γ' hj]
      refine ((hI.sits j y hy).woken (w₂ := w)).world fun φ' k hγ hro => ?_
      obtain ⟨_, _, _, e, _, _⟩ := hI.ph.wt hγ hy
      rw [h0] at e; cases e
      have hpc : RO φ.pc ≠ none := by rw [hI.mem.ro j _ _ hro]; simp
      have hsy : ∀ b, (γs 0).sync b → φ.pc ≠ b := fun b hb e => hpc (by rw [e]; exact (hI.mem.sync b hb).2.1)
      exact rw_of (hw _ (hsy _ (by rw [h0]; exact .inl rfl)) (hsy _ (by rw [h0]; exact .inr (.inl rfl))) (hsy _ (by rw [h0]; exact .inr (.inr rfl)))) fun _ => hlive

theorem shut_wakes {c cap s r : Nat} {buf : Array Value} {tm : Bool} {w' : World} (h : w'.heap[c]? = some (.chan cap buf true s r tm)) (g : Goroutine) (z : Value) (sh : CommShape) : ((parked g #[rcase c z] sh).again w').status = .running := by
  unfold Goroutine.again
  simp [parked, rcase, h]

/-- THE FEEDER CLOSES THE NUMBERS. -/
theorem step_closeT (hI : Inv P Q w₀ gs w t Hs γs sh RO) (hi : gs[i]? = some g) (hi0 : i ≠ 0) (hsg : SameG g g₀) (M : Meets P Q false .closeT (sh i) g₀ (Hs i) (γs i)) : Steps P Q w₀ gs t sh (runT P (crowd gs w sl) i) := by
  have hil := (Array.getElem?_eq_some_iff.1 hi).1
  have hi0' : (i == 0) = false := by simpa using hi0
  obtain ⟨_, φ, g₁, hγ, hd, _, hwake, hg₁, hst⟩ := M.at_
  have hph := hI.ph
  cases hph with
  | lone h0 h1 h2 => have := (h1 i (by omega) hil).1; rw [hγ] at this; cases this
  | opn φ' jn base h0 hO =>
    have hsz := hO.size
    rcases Nat.lt_or_ge i base with h1 | h1
    · have := (hO.old i (by omega) h1).1; rw [hγ] at this; cases this
    · have := hO.wk (i - base) (by omega)
      rw [show base + (i - base) = i by omega, hγ] at this; cases this
  | fed φ' got base D h0 hF =>
    obtain ⟨rfl, rfl⟩ := hF.fd_phi h0 hi hγ
    have hb1 := hF.base1
    have hS := hF.shared
    have hsz := hF.size
    have hfdT : isFd (γs (base + φ.n)) = true := by rw [hγ]; rfl
    have hT := hS.chT
    rw [hfdT] at hT
    have hstep := hst w D.sT D.rT D.tmT (hI.mem.view _) hT
    have hst' : stepG P (base + φ.n == 0) g w = .go g₁ (w.setChan φ.td 0 #[] true D.sT D.rT D.tmT) (closeEv φ.td) := by rw [hi0', hsg.step]; exact hstep
    obtain ⟨s', hlt, htree⟩ := M.out g₁ (Hs (base + φ.n)) (.fw φ (.load φ.n)) ⟨φ, hγ, rfl, rfl, fun F hF' => by have := hF' w D.sT D.rT D.tmT (hI.mem.view _) hT; rw [hstep] at this; cases this; rfl⟩
    have hops : MemOp.ofEvents (base + φ.n) g.frame.fn g.frame.place (closeEv φ.td) = #[({ g := base + φ.n, fn := g.frame.fn, pos := g.frame.place, act := .access ⟨.obj φ.td, false, true⟩ } : MemOp), ({ g := base + φ.n, fn := g.frame.fn, pos := g.frame.place, act := .close φ.td } : MemOp)] := by simp [MemOp.ofEvents, closeEv, MemAct.ofEvent]
    have hu := soft_close (base + φ.n) g.frame.fn g.frame.place φ.td
    have hq := at2_1 (t := t) (a := { g := base + φ.n, fn := g.frame.fn, pos := g.frame.place, act := .access ⟨.obj φ.td, false, true⟩ }) (b := { g := base + φ.n, fn := g.frame.fn, pos := g.frame.place, act := .close φ.td })
    have hng : γs (base + φ.n) ≠ .gone := by rw [hγ]; simp
    have eF : upd γs (base + φ.n) (.fw φ (.load φ.n)) (base + φ.n) = .fw φ (.load φ.n) := upd_same _ _ _
    have eO : ∀ j, j ≠ base + φ.n → upd γs (base + φ.n) (.fw φ (.load φ.n)) j = γs j := fun j a => upd_ne _ _ a
    have hcnt : ∀ c, cnt base (upd γs (base + φ.n) (.fw φ (.load φ.n))) c φ.n = cnt base γs c φ.n := fun c => cnt_out _ (.inr (Nat.le_refl _))
    have hkO : kOf φ (γs (base + φ.n)) = φ.m := by rw [hγ]; rfl
    have hwk : ∀ z, woken P g g₁ (w.setChan φ.td 0 #[] true D.sT D.rT D.tmT) z = z.again (w.setChan φ.td 0 #[] true D.sT D.rT D.tmT) := fun z => by
      unfold Go.Conc.woken
      rw [hsg.wake, hwake, hg₁]
      rfl
    refine go_inv hI h0 hF hi hi0 (H' := Hs (base + φ.n)) hst' (fun b h1 _ _ => setChan_ne h1) setChan_size rfl rfl rfl ⟨D.st, D.sm, (setChan_ne (Ne.symm hF.ok.td_wg)).trans hS.wg⟩ rfl rfl ?_ (sits_of hi0 rfl htree) hlt (.fed φ got base D ((eO 0 (by omega)).trans h0) ⟨hF.ok, by simpa using hsz, hb1, ⟨fun j hj => ?_, .inr (.inl ⟨_, eF⟩), fun h => (by rw [eF] at h; cases h), ?_⟩,
      ⟨by rw [eF]; exact setChan_eq hF.ltT, ?_, hS.sr, hS.four, hS.res, (setChan_ne (Ne.symm hF.ok.td_wg)).trans hS.wg, ?_⟩, ?_, ?_⟩)
    · rw [upd_self, hops]; exact hI.tr.soft hu.g hu.touch hu.deaf hu.rel
    · rw [eF, eO _ (by omega)]
      have := hF.parts.wk j hj
      rw [hkO] at this
      exact this
    · rw [eF]
      have := hF.parts.jobs
      rw [hkO] at this
      exact this.congr fun j hj => by rw [eO _ (by omega)]
    · rw [eF, setChan_ne (Ne.symm hF.ok.td_dn)]
      have := hS.chD
      rw [hγ] at this
      exact this
    · rw [eF, hcnt, hcnt, hcnt]
      have := hS.mode
      rw [hγ] at this
      exact ⟨cnt_le _ _ _ _, this⟩
    · rw [hops]
      refine (hF.traced.soft hu hng).next (fun j a b => eO j (by omega)) (fun j hj => .inl (eO _ (by omega))) (.inr ?_) (hF.traced.soft hu hng).msgs
      rw [eF]
      refine ⟨t.size + 1, by rw [act?_of hq], heard_new hu.deaf hq (by show Deaf t (base + φ.n) = 0; rw [hI.tr.deaf, hd]), .inr ?_⟩
      exact hF.traced.f.1.hb_new (Nat.le_succ _) hq rfl
    · have hgo : ∀ j z, ((gs.map (woken P g g₁ (w.setChan φ.td 0 #[] true D.sT D.rT D.tmT))).setIfInBounds (base + φ.n) g₁)[j]? = some z → z.status = .blocked → j ≠ base + φ.n ∧ ∃ y, gs[j]? = some y ∧ y.status = .blocked ∧ z = y.again (w.setChan φ.td 0 #[] true D.sT D.rT D.tmT) := fun j z hz hb => by
        rcases get_go hil hz with ⟨_, rfl⟩ | ⟨h1, y, hy, rfl⟩
        · rw [hg₁] at hb; cases hb
        · rw [hwk] at hb ⊢; exact ⟨h1, y, hy, again_blocked hb, rfl⟩
      refine ⟨fun z hz hb => ?_, fun j hj z hz hb k' hh => ?_, fun j hj z hz hb hh => ?_, fun z hz hb _ => ?_⟩
      · obtain ⟨h1, y, hy, hyb, _⟩ := hgo 0 z hz hb
        obtain ⟨a, b, c⟩ := hF.waiting.main y hy hyb
        refine ⟨a, by rw [eF]; rfl, fun j hj x hx hxb => ?_⟩
        obtain ⟨h2, y', hy', hyb', _⟩ := hgo _ x hx hxb
        rw [eO _ h2]; exact c j hj y' hy' hyb'
      · obtain ⟨h1, y, hy, hyb, _⟩ := hgo _ z hz hb
        rw [eO _ h1] at hh; exact hF.waiting.send j hj y hy hyb k' hh
      · -- those who wait for numbers are let on
        obtain ⟨h1, y, hy, hyb, rfl⟩ := hgo _ z hz hb
        rw [eO _ h1] at hh
        have hw := hF.parts.opn hfdT j hj
        obtain ⟨φ₂, nx, h', hw'⟩ : ∃ φ₂ nx h', γs (base + j) = .wk φ₂ nx h' := by
          cases hx' : γs (base + j) <;> rw [hx'] at hw <;> first | cases hw; done | exact ⟨_, _, _, rfl⟩
        rw [hw'] at hh
        have hh' : h' = none := hh
        subst hh'
        obtain ⟨rfl, _⟩ := hF.wk_phi h0 hy hw'
        obtain ⟨g₂, rfl⟩ := (hI.sits _ y hy).blk_wk hyb hw'
        rw [shut_wakes (setChan_eq hF.ltT)] at hb; cases hb
      · exact absurd rfl (hgo _ z hz hb).1

theorem Sits.gone_nb {s : Sh} {H : Hp} {γ : Gh} (h : Sits P Q i g s H γ w) (hγ : γ = .gone) : g.status ≠ .blocked := by
  cases h with
  | run g₀ a b => rw [b]; simp
  | recvD g₀ φ' got a b c => rw [hγ] at a; cases a
  | recvT g₀ φ' nx a b c => rw [hγ] at a; cases a
  | sendT g₀ φ' k' z a b c d => rw [hγ] at a; cases a
  | sendD g₀ φ' nx k' v car z a _ _ _ e => rw [hγ] at a; cases a
  | sema g₀ φ' a => rw [hγ] at a; cases a
  | tail φ' j m a b c => rw [c.running]; simp
  | quit n a b c => rcases c.status with h | h <;> rw [h] <;> simp

/-- THE FEEDER CLOSES THE RESULTS. -/
theorem step_closeD (hI : Inv P Q w₀ gs w t Hs γs sh RO) (hi : gs[i]? = some g) (hi0 : i ≠ 0) (hsg : SameG g g₀) (M : Meets P Q false .closeD (sh i) g₀ (Hs i) (γs i)) : Steps P Q w₀ gs t sh (runT P (crowd gs w sl) i) := by
  have hil := (Array.getElem?_eq_some_iff.1 hi).1
  have hi0' : (i == 0) = false := by simpa using hi0
  obtain ⟨_, φ, g₁, nq, hγ, hd, _, hwake, hq₁, hst⟩ := M.at_
  have hph := hI.ph
  cases hph with
  | lone h0 h1 h2 => have := (h1 i (by omega) hil).1; rw [hγ] at this; cases this
  | opn φ' jn base h0 hO =>
    have hsz := hO.size
    rcases Nat.lt_or_ge i base with h1 | h1
    · have := (hO.old i (by omega) h1).1; rw [hγ] at this; cases this
    · have := hO.wk (i - base) (by omega)
      rw [show base + (i - base) = i by omega, hγ] at this; cases this
  | fed φ' got base D h0 hF =>
    obtain ⟨rfl, rfl⟩ := hF.fw_phi h0 hi hγ
    have hb1 := hF.base1
    have hS := hF.shared
    have hsz := hF.size
    have hD := hS.chD
    rw [show isGone (γs (base + φ.n)) = false by rw [hγ]; rfl] at hD
    have hall := all_gone hF.parts hF.shared (.inl ⟨φ, hγ⟩)
    have hst' : stepG P (base + φ.n == 0) g w = .go g₁ (w.setChan φ.dn 4 (D.bufs.map (·.v)).toArray true D.s D.r D.tm) (closeEv φ.dn) := by rw [hi0', hsg.step]; exact hst w _ D.s D.r D.tm (hI.mem.view _) hD
    have hops : MemOp.ofEvents (base + φ.n) g.frame.fn g.frame.place (closeEv φ.dn) = #[({ g := base + φ.n, fn := g.frame.fn, pos := g.frame.place, act := .access ⟨.obj φ.dn, false, true⟩ } : MemOp), ({ g := base + φ.n, fn := g.frame.fn, pos := g.frame.place, act := .close φ.dn } : MemOp)] := by simp [MemOp.ofEvents, closeEv, MemAct.ofEvent]
    have hu := soft_close (base + φ.n) g.frame.fn g.frame.place φ.dn
    have hq := at2_1 (t := t) (a := { g := base + φ.n, fn := g.frame.fn, pos := g.frame.place, act := .access ⟨.obj φ.dn, false, true⟩ }) (b := { g := base + φ.n, fn := g.frame.fn, pos := g.frame.place, act := .close φ.dn })
    have hng : γs (base + φ.n) ≠ .gone := by rw [hγ]; simp
    have eF : upd γs (base + φ.n) .gone (base + φ.n) = .gone := upd_same _ _ _
    have eO : ∀ j, j ≠ base + φ.n → upd γs (base + φ.n) .gone j = γs j := fun j a => upd_ne _ _ a
    have hcnt : ∀ c, cnt base (upd γs (base + φ.n) .gone) c φ.n = cnt base γs c φ.n := fun c => cnt_out _ (.inr (Nat.le_refl _))
    have hkO : kOf φ (γs (base + φ.n)) = φ.m := by rw [hγ]; rfl
    have hnw : g₁.status ≠ .blocked ∧ g₁.status ≠ .waiting := by rcases hq₁.status with h | h <;> rw [h] <;> simp
    have hwk : ∀ z, woken P g g₁ (w.setChan φ.dn 4 (D.bufs.map (·.v)).toArray true D.s D.r D.tm) z = z.again (w.setChan φ.dn 4 (D.bufs.map (·.v)).toArray true D.s D.r D.tm) := fun z => by
      unfold Go.Conc.woken
      rw [hsg.wake, hwake]
      rcases hq₁.status with h | h <;> rw [h] <;> rfl
    refine go_inv hI h0 hF hi hi0 (H' := Hs (base + φ.n)) hst' (fun b _ h2 _ => setChan_ne h2) setChan_size rfl rfl rfl ⟨D.st, D.sm, (setChan_ne (Ne.symm hF.ok.dn_wg)).trans hS.wg⟩ rfl rfl ?_ (.quit nq hi0 rfl (by rw [hd]; exact hq₁) rfl) (M.tail nq).2 (.fed φ got base D ((eO 0 (by omega)).trans h0) ⟨hF.ok, by simpa using hsz, hb1, ⟨fun j hj => ?_, .inr (.inr eF), fun h => (by rw [eF] at h; cases h), ?_⟩,
      ⟨?_, by rw [eF]; exact setChan_eq hF.ltD, hS.sr, hS.four, hS.res, (setChan_ne (Ne.symm hF.ok.dn_wg)).trans hS.wg, ?_⟩, ?_, ?_⟩)
    · rw [upd_self, hops]; exact hI.tr.soft hu.g hu.touch hu.deaf hu.rel
    · rw [eF, eO _ (by omega)]
      have := hF.parts.wk j hj
      rw [hkO] at this
      exact this
    · rw [eF]
      have := hF.parts.jobs
      rw [hkO] at this
      exact this.congr fun j hj => by rw [eO _ (by omega)]
    · rw [eF, setChan_ne hF.ok.td_dn]
      have := hS.chT
      rw [hγ] at this
      exact this
    · rw [eF, hcnt, hcnt, hcnt]
      have := hS.mode
      rw [hγ] at this
      exact this
    · rw [hops]
      refine (hF.traced.soft hu hng).next (fun j a b => eO j (by omega)) (fun j hj => .inl (eO _ (by omega))) (.inr ?_) (hF.traced.soft hu hng).msgs
      rw [eF]
      have hK := hF.traced.f.2
      rw [hγ] at hK
      refine ⟨closeT_app hK.1, t.size + 1, by rw [act?_of hq], heard_new hu.deaf hq (by show Deaf t (base + φ.n) = 0; rw [hI.tr.deaf, hd]), fun j h1 h2 => ?_⟩
      rcases Nat.lt_or_ge j (base + φ.n) with h3 | h3
      · obtain ⟨p, h4, h5⟩ := hK.2 (j - base) (by omega)
        rw [show base + (j - base) = j by omega] at h4
        exact (h4.other fun op hop e => by have := hu.g op hop; omega).trans (.inr (h5.hb_new (Nat.le_succ _) hq rfl))
      · obtain rfl : j = base + φ.n := by omega
        exact cov_close _ _ _ _ _
    · have nb : ∀ j z, ((gs.map (woken P g g₁ (w.setChan φ.dn 4 (D.bufs.map (·.v)).toArray true D.s D.r D.tm))).setIfInBounds (base + φ.n) g₁)[j]? = some z → z.status = .blocked → (j = 0 ∨ base ≤ j) → False := fun j z hz hb hj => by
        rcases get_go hil hz with ⟨_, rfl⟩ | ⟨h1, y, hy, rfl⟩
        · exact hnw.1 hb
        · rw [hwk] at hb
          have hyb := again_blocked hb
          rcases hF.who h0 hy with ⟨rfl, e⟩ | ⟨h2, h3, _⟩ | ⟨k, hk, rfl⟩ | rfl
          · obtain ⟨g₂, rfl⟩ := (hI.sits 0 y hy).blk_main hyb e
            rw [shut_wakes (setChan_eq hF.ltD)] at hb; cases hb
          · rcases hj with hj | hj <;> omega
          · exact (hI.sits _ y hy).gone_nb (hall k hk) hyb
          · exact absurd rfl h1
      exact ⟨fun z hz hb => (nb 0 z hz hb (.inl rfl)).elim, fun j hj z hz hb k' hh => (nb _ z hz hb (.inr (by omega))).elim, fun j hj z hz hb hh => (nb _ z hz hb (.inr (by omega))).elim, fun z hz hb _ => (nb _ z hz hb (.inr (by omega))).elim⟩

/-! ### the group -/

theorem knows_wg {φ : Ph} {got : List Nat} {base : Nat} {D : FedD} (hF : Fed φ got base gs w t γs RO D) {j : Nat} (hk : Knows t j D.pg) {es : Array Event} (hs : (∀ e ∈ es, ∀ a, e.loc ≠ .mark (.write a)) ∨ j = base + φ.n) :
    ∀ k a x, touchAt t k = some a → a.loc = .cell x → x.block = φ.wg → a.kind = .atomic ∨ (a.kind = .said ∧ ∀ e ∈ es, ∀ a, e.loc ≠ .mark (.write a)) ∨ Knows t j k := fun k a x ha hl hb => by
  rcases hF.traced.wgT k a x ha hl hb with h | h | ⟨h1, h2⟩
  · exact .inr (.inr (Knows.of_before h hk))
  · exact .inl h
  · rcases hs with hs | rfl
    · exact .inr (.inl ⟨h1, hs⟩)
    · obtain ⟨op, ho, hg⟩ := Option.map_eq_some_iff.1 h2
      have := knows_own ho
      rw [hg] at this
      exact .inr (.inr this)

/-- Only the group's cells are turned. -/
structure Grouped (φ : Ph) (w w' : World) : Prop where
  ne : ∀ b, b ≠ φ.wg → w'.heap[b]? = w.heap[b]?
  size : w'.heap.size = w.heap.size
  os : w'.os = w.os
  tape : w'.tape = w.tape
  output : w'.output = w.output
theorem Grouped.refl {φ : Ph} (w : World) : Grouped φ w w := ⟨fun _ _ => rfl, rfl, rfl, rfl, rfl⟩
theorem Grouped.set {φ : Ph} (w : World) (o : Nat) (v : Value) : Grouped φ w (w.setCell ⟨φ.wg, o, none⟩ v) := ⟨fun b h => heap_setCell_other w _ b v h, by simp [World.setCell], rfl, rfl, rfl⟩

theorem touch_sy {φ : Ph} {es : Array Event} {fn : FuncId} {pos : String} (he : ∀ e ∈ es, SyEv φ.wg e) : (∀ op ∈ MemOp.ofEvents i fn pos es, op.g = i) ∧ ∀ op ∈ MemOp.ofEvents i fn pos es, ∀ x, op.act.touch? = some x → ∃ e ∈ es, ∃ ad : Addr, x.loc = .cell ad ∧ ad.block = φ.wg ∧ (x.kind = .atomic ∨ (x.kind = .said ∧ ∃ a, e.loc = .mark (.write a))) := by
  refine ⟨fun op hop => by obtain ⟨e, _, rfl⟩ := mem_ofEv hop; rfl, fun op hop x hx => ?_⟩
  obtain ⟨e, h1, rfl⟩ := mem_ofEv hop
  exact ⟨e, h1, (he e h1).touch hx⟩

/-- A WORKER's STEP AT THE GROUP. -/
theorem worker_go (hI : Inv P Q w₀ gs w t Hs γs sh RO) {φ : Ph} {got : List Nat} {base : Nat} {D : FedD} (h0 : γs 0 = .fed φ got) (hF : Fed φ got base gs w t γs RO D) {k₁ : Nat} (hk₁ : k₁ < φ.n) (hi : gs[base + k₁]? = some g) (hrun : g.status = .running) {g₁ : Goroutine} {w' : World} {es : Array Event} {γ' : Gh} {s' : Sh} {st sm : Int}
    (hst : stepG P false g w = .go g₁ w' es) (hγ : γs (base + k₁) = .wc φ ∨ ∃ j, γs (base + k₁) = .wt φ j) (hγ' : (∃ j, j ≤ 4 ∧ γ' = .wt φ j) ∨ γ' = .gone) (hw : Grouped φ w w') (hwg : WgAt 51 φ.wg w' st sm)
    (he : ∀ e ∈ es, SyEv φ.wg e) (hns : ∀ e ∈ es, ∀ a, e.loc ≠ .mark (.write a)) (hl : γs (base + k₁) = .wc φ ∨ ∀ j e, es[j]? = some e → (MemAct.ofEvent e).touch? = none ∨ ((∃ ad wr, e = ⟨.cell ad, wr, true⟩) ∧ 0 < deafBehind (Deaf t (base + k₁)) (es.extract 0 j)))
    (hrel : γs (base + k₁) = .wc φ → Rel φ (t ++ MemOp.ofEvents (base + k₁) g.frame.fn g.frame.place es) (base + k₁)) (hsm : sm = 0 ∨ mayWake P g = true)
    (hmode : WMode (cnt base (upd γs (base + k₁) γ') 0 φ.n) (cnt base (upd γs (base + k₁) γ') 1 φ.n) (cnt base (upd γs (base + k₁) γ') 2 φ.n) st sm (γs (base + φ.n)))
    (hs : Sits P Q (base + k₁) g₁ s' { Hs (base + k₁) with d := deafBehind (Hs (base + k₁)).d es } γ' w') (hlt : Sh.Lt s' (sh (base + k₁))) (hg₁ : g₁.status = .running ∨ g₁.status = .finished) : Steps P Q w₀ gs t sh (runT P (crowd gs w sl) (base + k₁)) := by
  have hil := (Array.getElem?_eq_some_iff.1 hi).1
  have hb1 := hF.base1
  have hi0 : base + k₁ ≠ 0 := by omega
  have hi0' : (base + k₁ == 0) = false := by simpa using hi0
  have hS := hF.shared
  have hsz := hF.size
  obtain ⟨hu, ht⟩ := touch_sy (i := base + k₁) (fn := g.frame.fn) (pos := g.frame.place) he
  have hpg : Knows t (base + k₁) D.pg := by
    have := hF.traced.w k₁ hk₁
    rcases hγ with h | ⟨j, h⟩ <;> rw [h] at this
    · exact this
    · exact this.1
  have hclosed : isFd (γs (base + φ.n)) = false := by
    cases hx : isFd (γs (base + φ.n)) with
    | false => rfl
    | true => have := hF.parts.opn hx k₁ hk₁; rcases hγ with h | ⟨j, h⟩ <;> rw [h] at this <;> cases this
  have hng : ∀ φ', γs (base + φ.n) = .fw φ' .close ∨ γs (base + φ.n) = .gone → False := fun φ' h => by
    have := all_gone hF.parts hF.shared (h.imp (fun x => ⟨φ', x⟩) id) k₁ hk₁
    rcases hγ with h | ⟨j, h⟩ <;> rw [h] at this <;> cases this
  have hsy : ∀ b, (γs 0).sync b → (∀ j, (Hs j).own b = none) ∧ RO b = none ∧ b < w.heap.size := hI.mem.sync
  have hswg := hsy φ.wg (by rw [h0]; exact .inr (.inr rfl))
  have hrwg : ∀ j, (Hs j).ro φ.wg = none := fun j => by
    cases hx : (Hs j).ro φ.wg with
    | none => rfl
    | some o => have := hI.mem.ro j _ o hx; rw [hswg.2.1] at this; cases this
  have eW : upd γs (base + k₁) γ' (base + k₁) = γ' := upd_same _ _ _
  have eO : ∀ j, j ≠ base + k₁ → upd γs (base + k₁) γ' j = γs j := fun j a => upd_ne _ _ a
  have eF := eO (base + φ.n) (by omega)
  have hleaves : (γs (base + k₁)).live = false → Leaves t (MemOp.ofEvents (base + k₁) g.frame.fn g.frame.place es) (base + k₁) := fun h q hc => by
    rcases hl with h' | h'
    · rw [h'] at h; cases h
    · exact hc.deaf _ _ _ h'
  refine go_inv hI h0 hF hi hi0 (by rw [hi0']; exact hst) (fun b _ _ h3 => hw.ne b h3) hw.size hw.os hw.tape hw.output ⟨st, sm, hwg⟩ (H' := { Hs (base + k₁) with d := deafBehind (Hs (base + k₁)).d es }) rfl rfl (hI.tr.sync hswg.1 hrwg hswg.2.2 he (knows_wg hF hpg (.inl hns))) hs hlt
    (.fed φ got base { D with st := st, sm := sm } ((eO 0 (by omega)).trans h0) ⟨hF.ok, by simpa using hsz, hb1, ⟨fun j hj => ?_, by rw [eF]; exact hF.parts.fd, fun h => (by rw [eF, hclosed] at h; cases h), ?_⟩,
      ⟨by rw [eF]; exact (hw.ne _ hF.ok.td_wg).trans hS.chT, by rw [eF]; exact (hw.ne _ hF.ok.dn_wg).trans hS.chD, hS.sr, hS.four, hS.res, hwg, by rw [eF]; exact hmode⟩, ?_, ?_⟩)
  · rw [eF]
    by_cases e : j = k₁
    · subst e; rw [eW]; exact hγ'.elim (fun x => .inr (.inr (.inl x))) fun x => .inr (.inr (.inr x))
    · rw [eO _ (by omega)]; exact hF.parts.wk j hj
  · rw [eF]
    refine hF.parts.jobs.congr fun j hj => ?_
    by_cases e : j = k₁
    · subst e
      rw [eW]
      have e1 : hold γ' = none := by rcases hγ' with ⟨_, _, h⟩ | h <;> rw [h] <;> rfl
      have e2 : hold (γs (base + j)) = none := by rcases hγ with h | ⟨_, h⟩ <;> rw [h] <;> rfl
      rw [e1, e2]
    · rw [eO _ (by omega)]
  · have hT := hF.traced.app (u := MemOp.ofEvents (base + k₁) g.frame.fn g.frame.place es) (fun j a b q hc => hc.other fun op hop => by rw [hu op hop]; omega) (fun j hj hlive q hc => ?_) (fun φ' h => (hng φ' h).elim) (fun h => (hng φ (.inr h)).elim)
      (fun op hop x hx ad had hb => ?_) (fun op hop x hx hwr ad had => ?_)
    · refine hT.next (fun j a b => eO j (by omega)) (fun j hj => ?_) (.inl eF) hT.msgs
      by_cases e : j = k₁
      · subst e
        rw [eW]
        have hR : Rel φ (t ++ MemOp.ofEvents (base + j) g.frame.fn g.frame.place es) (base + j) := by
          rcases hγ with h | ⟨j', h⟩
          · exact hrel h
          · have := hF.traced.w j hj
            rw [h] at this
            exact this.2.app (hleaves (by rw [h]; rfl))
        rcases hγ' with ⟨_, _, h⟩ | h <;> rw [h]
        · exact .inr ⟨hpg.app _, hR⟩
        · exact .inr hR
      · exact .inl (eO _ (by omega))
    · by_cases e : j = k₁
      · subst e; exact hleaves hlive q hc
      · exact hc.other fun op hop => by rw [hu op hop]; omega
    · obtain ⟨e, he', ad', _, _, hk⟩ := ht op hop x hx
      rcases hk with hk | ⟨_, a, ha⟩
      · exact .inl hk
      · exact absurd ha (hns e he' a)
    · obtain ⟨e, he', ad', had', hb', _⟩ := ht op hop x hx
      rw [had] at had'; cases had'
      rw [hb']; exact hswg.2.1
  · have hgo : ∀ j z, ((gs.map (woken P g g₁ w')).setIfInBounds (base + k₁) g₁)[j]? = some z → z.status = .blocked → j ≠ base + k₁ ∧ ∃ y, gs[j]? = some y ∧ y.status = .blocked ∧ z = woken P g g₁ w' y := fun j z hz hb => by
      rcases get_go hil hz with ⟨_, rfl⟩ | ⟨h1, y, hy, rfl⟩
      · rcases hg₁ with h | h <;> rw [h] at hb <;> cases hb
      · exact ⟨h1, y, hy, (woken_status g g₁ w' y).1 hb, rfl⟩
    refine ⟨fun z hz hb => ?_, fun j hj z hz hb k' hh => ?_, fun j hj z hz hb hh => ?_, fun z hz hb hf' => ?_⟩
    · obtain ⟨h1, y, hy, hyb, _⟩ := hgo 0 z hz hb
      obtain ⟨a, b, c⟩ := hF.waiting.main y hy hyb
      refine ⟨a, by rw [eF]; exact b, fun j hj x hx hxb => ?_⟩
      obtain ⟨h2, y', hy', hyb', _⟩ := hgo _ x hx hxb
      rw [eO _ h2]; exact c j hj y' hy' hyb'
    · obtain ⟨h1, y, hy, hyb, _⟩ := hgo _ z hz hb
      rw [eO _ h1] at hh; exact hF.waiting.send j hj y hy hyb k' hh
    · obtain ⟨h1, y, hy, hyb, _⟩ := hgo _ z hz hb
      rw [eO _ h1] at hh
      have := (hF.waiting.recv j hj y hy hyb hh).1
      rw [hclosed] at this; cases this
    · rcases hsm with hsm | hsm
      · exact hsm
      · obtain ⟨h1, y, hy, hyb, rfl⟩ := hgo _ z hz hb
        have e : woken P g g₁ w' y = y.again w' := by
          unfold Go.Conc.woken
          rw [hsm]
          rcases hg₁ with h | h <;> rw [h] <;> rfl
        rw [e] at hb
        -- the feeder is blocked at the semaphore: it is let on
        have hs := hI.sits _ y hy
        cases hs with
        | run g₀ a b => rw [b] at hyb; cases hyb
        | recvD g₀ φ' got a b c => rcases hF.parts.fd with ⟨_, _, e⟩ | ⟨_, e⟩ | e <;> rw [e] at a <;> cases a
        | recvT g₀ φ' nx a b c => rcases hF.parts.fd with ⟨_, _, e⟩ | ⟨_, e⟩ | e <;> rw [e] at a <;> cases a
        | sendT g₀ φ' k' z a b c d => rw [a] at hclosed; cases hclosed
        | sendD g₀ φ' nx k' v car z a => rcases hF.parts.fd with ⟨_, _, e⟩ | ⟨_, e⟩ | e <;> rw [e] at a <;> cases a
        | sema g₀ φ' a b c d e => simp [Goroutine.again, d, e] at hb
        | tail φ' j m a b c => rw [c.running] at hyb; cases hyb
        | quit n a b c => rcases c.status with h | h <;> rw [h] at hyb <;> cases hyb

/-- THE FEEDER's STEP AT THE GROUP. -/
theorem feeder_go (hI : Inv P Q w₀ gs w t Hs γs sh RO) {φ : Ph} {got : List Nat} {base : Nat} {D : FedD} (h0 : γs 0 = .fed φ got) (hF : Fed φ got base gs w t γs RO D) (hi : gs[base + φ.n]? = some g) {g₁ : Goroutine} {w' : World} {es : Array Event} {s₀ s₁ : FW} {s' : Sh} {st sm : Int}
    (hst : stepG P false g w = .go g₁ w' es) (hγ : γs (base + φ.n) = .fw φ s₀) (hnc : s₀ ≠ .close) (hw : Grouped φ w w') (hwg : WgAt 51 φ.wg w' st sm)
    (he : ∀ e ∈ es, SyEv φ.wg e) (hkf : KF φ base (t ++ MemOp.ofEvents (base + φ.n) g.frame.fn g.frame.place es) D.pg (.fw φ s₁))
    (hmode : WMode (cnt base γs 0 φ.n) (cnt base γs 1 φ.n) (cnt base γs 2 φ.n) st sm (.fw φ s₁))
    (hs : Sits P Q (base + φ.n) g₁ s' { Hs (base + φ.n) with d := deafBehind (Hs (base + φ.n)).d es } (.fw φ s₁) w') (hlt : Sh.Lt s' (sh (base + φ.n))) (hg₁ : g₁.status = .running) : Steps P Q w₀ gs t sh (runT P (crowd gs w sl) (base + φ.n)) := by
  have hil := (Array.getElem?_eq_some_iff.1 hi).1
  have hb1 := hF.base1
  have hi0 : base + φ.n ≠ 0 := by omega
  have hi0' : (base + φ.n == 0) = false := by simpa using hi0
  have hS := hF.shared
  have hsz := hF.size
  obtain ⟨hu, ht⟩ := touch_sy (i := base + φ.n) (fn := g.frame.fn) (pos := g.frame.place) he
  have hsy : ∀ b, (γs 0).sync b → (∀ j, (Hs j).own b = none) ∧ RO b = none ∧ b < w.heap.size := hI.mem.sync
  have hswg := hsy φ.wg (by rw [h0]; exact .inr (.inr rfl))
  have hrwg : ∀ j, (Hs j).ro φ.wg = none := fun j => by
    cases hx : (Hs j).ro φ.wg with
    | none => rfl
    | some o => have := hI.mem.ro j _ o hx; rw [hswg.2.1] at this; cases this
  have eF : upd γs (base + φ.n) (.fw φ s₁) (base + φ.n) = .fw φ s₁ := upd_same _ _ _
  have eO : ∀ j, j ≠ base + φ.n → upd γs (base + φ.n) (.fw φ s₁) j = γs j := fun j a => upd_ne _ _ a
  have hcnt : ∀ c, cnt base (upd γs (base + φ.n) (.fw φ s₁)) c φ.n = cnt base γs c φ.n := fun c => cnt_out _ (.inr (Nat.le_refl _))
  have hclosed : isFd (γs (base + φ.n)) = false := by rw [hγ]; rfl
  have hkO : kOf φ (γs (base + φ.n)) = φ.m := by rw [hγ]; rfl
  refine go_inv hI h0 hF hi hi0 (by rw [hi0']; exact hst) (fun b _ _ h3 => hw.ne b h3) hw.size hw.os hw.tape hw.output ⟨st, sm, hwg⟩ (H' := { Hs (base + φ.n) with d := deafBehind (Hs (base + φ.n)).d es }) rfl rfl (hI.tr.sync hswg.1 hrwg hswg.2.2 he (knows_wg hF hF.traced.f.1 (.inr rfl))) hs hlt
    (.fed φ got base { D with st := st, sm := sm } ((eO 0 (by omega)).trans h0) ⟨hF.ok, by simpa using hsz, hb1, ⟨fun j hj => ?_, .inr (.inl ⟨_, eF⟩), fun h => (by rw [eF] at h; cases h), ?_⟩,
      ⟨?_, ?_, hS.sr, hS.four, hS.res, hwg, by rw [eF, hcnt, hcnt, hcnt]; exact hmode⟩, ?_, ?_⟩)
  · rw [eF, eO _ (by omega)]
    have := hF.parts.wk j hj
    rw [hkO] at this
    exact this
  · rw [eF]
    have := hF.parts.jobs
    rw [hkO] at this
    exact this.congr fun j hj => by rw [eO _ (by omega)]
  · rw [eF]
    have := hS.chT
    rw [hγ] at this
    exact (hw.ne _ hF.ok.td_wg).trans this
  · rw [eF]
    have := hS.chD
    rw [hγ] at this
    exact (hw.ne _ hF.ok.dn_wg).trans this
  · have hT := hF.traced.app (u := MemOp.ofEvents (base + φ.n) g.frame.fn g.frame.place es) (fun j a b q hc => hc.other fun op hop => by rw [hu op hop]; omega) (fun j hj _ q hc => hc.other fun op hop => by rw [hu op hop]; omega)
      (fun φ' _ j hj q hc => hc.other fun op hop => by rw [hu op hop]; omega) (fun h => (by rw [hγ] at h; cases h))
      (fun op hop x hx ad had hb => ?_) (fun op hop x hx hwr ad had => ?_)
    · exact hT.next (fun j a b => eO j (by omega)) (fun j hj => .inl (eO _ (by omega))) (.inr (by rw [eF]; exact hkf)) hT.msgs
    · obtain ⟨e, he', ad', _, _, hk⟩ := ht op hop x hx
      rcases hk with hk | ⟨hk, _⟩
      · exact .inl hk
      · exact .inr ⟨hk, hu op hop⟩
    · obtain ⟨e, he', ad', had', hb', _⟩ := ht op hop x hx
      rw [had] at had'; cases had'
      rw [hb']; exact hswg.2.1
  · have hgo : ∀ j z, ((gs.map (woken P g g₁ w')).setIfInBounds (base + φ.n) g₁)[j]? = some z → z.status = .blocked → j ≠ base + φ.n ∧ ∃ y, gs[j]? = some y ∧ y.status = .blocked := fun j z hz hb => by
      rcases get_go hil hz with ⟨_, rfl⟩ | ⟨h1, y, hy, rfl⟩
      · rw [hg₁] at hb; cases hb
      · exact ⟨h1, y, hy, (woken_status g g₁ w' y).1 hb⟩
    refine ⟨fun z hz hb => ?_, fun j hj z hz hb k' hh => ?_, fun j hj z hz hb hh => ?_, fun z hz hb hf' => ?_⟩
    · obtain ⟨h1, y, hy, hyb⟩ := hgo 0 z hz hb
      obtain ⟨a, b, c⟩ := hF.waiting.main y hy hyb
      refine ⟨a, by rw [eF]; rfl, fun j hj x hx hxb => ?_⟩
      obtain ⟨h2, y', hy', hyb'⟩ := hgo _ x hx hxb
      rw [eO _ h2]; exact c j hj y' hy' hyb'
    · obtain ⟨h1, y, hy, hyb⟩ := hgo _ z hz hb
      rw [eO _ h1] at hh; exact hF.waiting.send j hj y hy hyb k' hh
    · obtain ⟨h1, y, hy, hyb⟩ := hgo _ z hz hb
      rw [eO _ h1] at hh
      have := (hF.waiting.recv j hj y hy hyb hh).1
      rw [hclosed] at this; cases this
    · exact absurd rfl (hgo _ z hz hb).1
end
end Go.Sep
