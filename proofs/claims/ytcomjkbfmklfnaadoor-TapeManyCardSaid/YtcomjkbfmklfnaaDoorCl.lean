/-
  A company: the workers' ends, and the feeder's wait. Conditions: none.
-/
import Derived.Test.YtcomjkbfmklfnaaDoorCk
set_option linter.unusedSimpArgs false
set_option linter.unusedVariables false
namespace Go.Sep
open Go.Conc
open Go.ConcR (KK wgBlock WgAt stA smA rd wr mk DC0)
open Go.ConcN (RW WgLive PayAt AtR0 AtK1 AtD1 AtD2 AtD3 AtD4)

theorem hp_d {H : Hp} {d : Nat} (h : d = H.d) : ({ H with d := d } : Hp) = H := by subst h; rfl
theorem deaf_sem (a : Addr) (d : Nat) : deafBehind d (semEvents a) = d := by simp [deafBehind, semEvents]

section
variable {P : Program} {Q : Value → Prop} {w₀ : World} {gs : Array Goroutine} {w : World} {sl : Option (Nat × Nat)} {t : Trace} {Hs : Nat → Hp} {γs : Nat → Gh} {sh : Nat → Sh} {RO : Nat → Option Obj} {i : Nat} {g g₀ : Goroutine}

/-- In whose company somebody is. -/
theorem Inv.phase (hI : Inv P Q w₀ gs w t Hs γs sh RO) (hi : gs[i]? = some g) (hi0 : i ≠ 0) (h1 : γs i ≠ .gone) (h2 : ∀ φ nx h, γs i ≠ .wk φ nx h) : ∃ φ got base D, γs 0 = .fed φ got ∧ Fed φ got base gs w t γs RO D := by
  have hil := (Array.getElem?_eq_some_iff.1 hi).1
  have hph := hI.ph
  cases hph with
  | lone h0 h3 _ => exact absurd (h3 i (by omega) hil).1 h1
  | opn φ' jn base h0 hO =>
    have hsz := hO.size
    rcases Nat.lt_or_ge i base with h3 | h3
    · exact absurd (hO.old i (by omega) h3).1 h1
    · have := hO.wk (i - base) (by omega)
      rw [show base + (i - base) = i by omega] at this
      exact absurd this (h2 _ _ _)
  | fed φ got base D h0 hF => exact ⟨φ, got, base, D, h0, hF⟩

theorem Fed.wt_phi {φ : Ph} {got : List Nat} {base : Nat} {D : FedD} (hF : Fed φ got base gs w t γs RO D) (h0 : γs 0 = .fed φ got) (hi : gs[i]? = some g) {φ' : Ph} (h : γs i = .wc φ' ∨ ∃ j, γs i = .wt φ' j) : φ' = φ ∧ ∃ k, k < φ.n ∧ i = base + k := by
  rcases hF.who h0 hi with ⟨rfl, e⟩ | ⟨_, _, e⟩ | ⟨k, hk, rfl⟩ | rfl
  · rw [e] at h; rcases h with h | ⟨_, h⟩ <;> cases h
  · rw [e] at h; rcases h with h | ⟨_, h⟩ <;> cases h
  · rcases hF.parts.wk k hk with ⟨_, _, _, e⟩ | e | ⟨_, _, e⟩ | e <;> rw [e] at h <;> rcases h with h | ⟨_, h⟩ <;> cases h
    · exact ⟨rfl, k, hk, rfl⟩
    · exact ⟨rfl, k, hk, rfl⟩
  · rcases hF.parts.fd with ⟨_, _, e⟩ | ⟨_, e⟩ | e <;> rw [e] at h <;> rcases h with h | ⟨_, h⟩ <;> cases h

/-- The counts where one worker's place turns. -/
theorem cnt_turn {base n k₁ : Nat} {γ' : Gh} (hk₁ : k₁ < n) (c c' : Nat) (h : cl (γs (base + k₁)) = c) (h' : cl γ' = c') : ∀ x, cnt base (upd γs (base + k₁) γ') x n + (if c = x then 1 else 0) = cnt base γs x n + (if c' = x then 1 else 0) := fun x => by
  have := cnt_upd (base := base) (γs := γs) (c := x) (x := γ') n hk₁
  rw [h, h'] at this
  exact this

theorem sy_nil {wg : Nat} : ∀ e ∈ (#[] : Array Event), SyEv wg e := fun e he => by simp at he

/-- A WORKER's RELEASE. -/
theorem step_tail (hI : Inv P Q w₀ gs w t Hs γs sh RO) (hi : gs[i]? = some g) (hi0 : i ≠ 0) (hsg : SameG g g₀) (hrun : g.status = .running) (M : Meets P Q false .tail (sh i) g₀ (Hs i) (γs i)) : Steps P Q w₀ gs t sh (runT P (crowd gs w sl) i) := by
  obtain ⟨_, φ, hγ, hd, hpc, _, hat⟩ := M.at_
  obtain ⟨φ', got, base, D, h0, hF⟩ := hI.phase hi hi0 (by rw [hγ]; simp) (fun _ _ _ => by rw [hγ]; simp)
  obtain ⟨rfl, k₁, hk₁, rfl⟩ := hF.wt_phi h0 hi (.inl hγ)
  have hS := hF.shared
  obtain ⟨_, _, g', hst, m, hm⟩ := hat w (hI.mem.view _) ⟨_, _, hS.wg⟩
  have hev : MemOp.ofEvents (base + k₁) g.frame.fn g.frame.place #[mk (.releaseMerge (stA φ.wg))] = #[({ g := base + k₁, fn := g.frame.fn, pos := g.frame.place, act := .mark (.releaseMerge (stA φ.wg)) } : MemOp)] := by simp [MemOp.ofEvents, mk, MemAct.ofEvent]
  have hq := at1_0 (t := t) (a := { g := base + k₁, fn := g.frame.fn, pos := g.frame.place, act := .mark (.releaseMerge (stA φ.wg)) })
  have hc := fun x => cnt_turn (base := base) (γs := γs) (γ' := .wt φ 0) hk₁ 0 0 (by rw [hγ]; rfl) rfl x
  refine worker_go hI h0 hF hk₁ hi hrun (γ' := .wt φ 0) (by rw [hsg.step]; exact hst) (.inl hγ) (.inl ⟨0, by omega, rfl⟩) (Grouped.refl w) hS.wg (fun e he => by simp at he; subst he; exact .merge _) (fun e he a => by simp at he; subst he; simp [mk]) (.inl hγ) (fun _ => ?_) ?_ ?_
    (.tail φ 0 m hi0 rfl hm hpc rfl (by simp [deafBehind, mk, hd])) (M.tail m).1 (.inl (show Tail P φ 0 m g' w from hm).running)
  · rw [hev]
    have hu : ∀ op ∈ #[({ g := base + k₁, fn := g.frame.fn, pos := g.frame.place, act := .mark (.releaseMerge (stA φ.wg)) } : MemOp)], op.act.touch? = none := fun op hop => by simp at hop; subst hop; rfl
    exact ⟨t.size + 0, by rw [act?_of hq], heard_new (fun op hop => by simp at hop; subst hop; simp) hq (by show Deaf t (base + k₁) = 0; rw [hI.tr.deaf, hd]), Cov.new hq rfl hu⟩
  · -- whoever waits at the semaphore: it is at nought
    have hm := hS.mode
    have h1 := cnt_has (base := base) (γs := γs) (c := 0) hk₁ (by rw [hγ]; rfl)
    have e1 : cnt base γs 1 φ.n = 0 ∨ True := .inr trivial
    refine .inl ?_
    rcases hF.parts.fd with ⟨_, _, e⟩ | ⟨s, e⟩ | e
    · rw [e] at hm; exact hm.2.2.2
    · rw [e] at hm
      cases s with
      | load b => exact hm.2.2.2.2
      | cas v => exact hm.2.2.2.2
      | say => rcases hm with h | h | h | h <;> omega
      | sema => rcases hm with h | h | h | h <;> omega
      | load2 => exact hm.2.2.2.2
      | acq => exact hm.2.2.2.2
      | close => exact hm.2.2.2.2
    · rw [e] at hm; exact hm.2.2.2.2
  · have a := hc 0; have b := hc 1; have c := hc 2
    simp at a b c
    rw [a, b, c]; exact hS.mode

/-- An idle step of a worker's end. -/
theorem tail_idle (hI : Inv P Q w₀ gs w t Hs γs sh RO) (hi : gs[i]? = some g) (hi0 : i ≠ 0) {φ : Ph} {j n' : Nat} (hγ : γs i = .wt φ j) (hpc : (Hs i).ro φ.pc = some (.cells #[φ.vC] 3)) (hs : sh i = Sh.above (n' + 1) (Sh.stop (5 - j))) (hd : (Hs i).d = if j = 0 then 0 else 1) {g' : Goroutine} {w' : World} {es : Array Event}
    (hst : stepG P false g w = .go g' w' es) (hD : DC0 w w' es) (ht : Tail P φ j n' g' w') : Steps P Q w₀ gs t sh (runT P (crowd gs w sl) i) := by
  obtain ⟨rfl, rfl⟩ := hD
  have hi0' : (i == 0) = false := by simpa using hi0
  refine step_mute hI hi hi0 (s' := Sh.above n' (Sh.stop (5 - j))) (by rw [hi0']; exact hst) (fun e he => by simp at he) (by rw [hs]; exact Sh.above_lt _ _) ?_ (.inl ht.running)
  rw [hp_d (deafBehind_nil _)]
  exact .tail φ j n' hi0 hγ ht hpc rfl hd

theorem mode_sm {c0 c1 c2 : Nat} {st sm : Int} {γ : Gh} (h : WMode c0 c1 c2 st sm γ) (hc : 1 ≤ c0 ∨ 1 ≤ c1 ∨ 1 ≤ c2) : sm = 0 := by
  cases γ with
  | fd φ k => exact h.2.2.2
  | fw φ s =>
    cases s with
    | load b => exact h.2.2.2.2
    | cas v => exact h.2.2.2.2
    | say => rcases h with h | h | h | h <;> omega
    | sema => rcases h with h | h | h | h <;> omega
    | load2 => exact h.2.2.2.2
    | acq => exact h.2.2.2.2
    | close => exact h.2.2.2.2
  | gone => exact h.2.2.2.2
  | _ => exact h.elim

/-- Whoever is the last: where the feeder is. -/
theorem mode_last {c0 c1 c2 : Nat} {st sm : Int} {γ : Gh} (h : WMode c0 c1 c2 st sm γ) (hc : 1 ≤ c1 ∨ 1 ≤ c2) : (∃ φ, γ = .fw φ .say ∨ γ = .fw φ .sema) ∧ c0 = 0 ∧ ((c1 = 1 ∧ c2 = 0 ∧ st = 1 ∧ sm = 0) ∨ (c1 = 0 ∧ c2 = 1 ∧ st = 0 ∧ sm = 0)) := by
  have no : Calm c0 c1 c2 st sm → False := fun h => by have := h.1; have := h.2.1; omega
  cases γ with
  | fd φ k => exact (no h).elim
  | fw φ s =>
    cases s with
    | load b => exact (no h.2).elim
    | cas v => exact (no h.2).elim
    | say => exact ⟨⟨φ, .inl rfl⟩, by rcases h with h | h | h | h <;> omega, by rcases h with h | h | h | h <;> omega⟩
    | sema => exact ⟨⟨φ, .inr rfl⟩, by rcases h with h | h | h | h <;> omega, by rcases h with h | h | h | h <;> omega⟩
    | load2 => exact (no h.2).elim
    | acq => exact (no h.2).elim
    | close => exact (no h.2).elim
  | gone => exact (no h.2).elim
  | _ => exact h.elim
theorem mode_wait {c0 c1 c2 : Nat} {st sm : Int} {γ : Gh} (h : ∃ φ, γ = .fw φ .say ∨ γ = .fw φ .sema) : WMode c0 c1 c2 st sm γ = Waits c0 c1 c2 st sm := by
  obtain ⟨φ, rfl | rfl⟩ := h <;> rfl

/-- What the state is, one being counted. -/
theorem mode_counted {v c1 c2 : Nat} {st sm : Int} {γ : Gh} (h : WMode (v + 1) c1 c2 st sm γ) : c1 = 0 ∧ c2 = 0 ∧ sm = 0 ∧ ∃ wt : Nat, wt ≤ 1 ∧ st = ((v : Int) + 1) * KK + (wt : Int) ∧
    (¬ (v = 0 ∧ wt = 1) → WMode v 0 0 ((v : Int) * KK + (wt : Int)) 0 γ) ∧ (v = 0 ∧ wt = 1 → ∃ φ, γ = .fw φ .say ∨ γ = .fw φ .sema) := by
  have calm : ∀ st' : Int, Calm (v + 1) c1 c2 st sm → c1 = 0 ∧ c2 = 0 ∧ sm = 0 ∧ st = ((v : Int) + 1) * KK := fun _ h => ⟨h.1, h.2.1, h.2.2.2, by have := h.2.2.1; rw [this]; push_cast; rfl⟩
  cases γ with
  | fd φ k =>
    obtain ⟨a, b, c, d⟩ := calm 0 h
    exact ⟨a, b, c, 0, by omega, by simpa using d, fun _ => ⟨rfl, rfl, by simp, rfl⟩, fun e => by omega⟩
  | fw φ s =>
    cases s with
    | load b' =>
      obtain ⟨a, b, c, d⟩ := calm 0 h.2
      exact ⟨a, b, c, 0, by omega, by simpa using d, fun _ => ⟨by have := h.1; omega, rfl, rfl, by simp, rfl⟩, fun e => by omega⟩
    | cas v' =>
      obtain ⟨a, b, c, d⟩ := calm 0 h.2
      exact ⟨a, b, c, 0, by omega, by simpa using d, fun _ => ⟨by have := h.1; omega, rfl, rfl, by simp, rfl⟩, fun e => by omega⟩
    | say =>
      rcases h with ⟨_, a, b, c, d⟩ | ⟨e, _⟩ | ⟨e, _⟩ | ⟨e, _⟩
      · exact ⟨a, b, d, 1, by omega, by rw [c]; push_cast; rfl, fun e => .inl ⟨by omega, rfl, rfl, rfl, rfl⟩, fun _ => ⟨φ, .inl rfl⟩⟩
      · omega
      · omega
      · omega
    | sema =>
      rcases h with ⟨_, a, b, c, d⟩ | ⟨e, _⟩ | ⟨e, _⟩ | ⟨e, _⟩
      · exact ⟨a, b, d, 1, by omega, by rw [c]; push_cast; rfl, fun e => .inl ⟨by omega, rfl, rfl, rfl, rfl⟩, fun _ => ⟨φ, .inr rfl⟩⟩
      · omega
      · omega
      · omega
    | load2 => have := h.1; omega
    | acq => have := h.1; omega
    | close => have := h.1; omega
  | gone => have := h.1; omega
  | _ => exact h.elim

theorem deaf_one (q : Nat) (es : Array Event) (h : es = #[rd (stA q), wr (stA q)] ∨ es = #[rd (stA q)] ∨ es = #[wr (stA q)] ∨ es = semEvents (smA q)) : ∀ j e, es[j]? = some e → (MemAct.ofEvent e).touch? = none ∨ ((∃ ad wr, e = ⟨.cell ad, wr, true⟩) ∧ 0 < deafBehind 1 (es.extract 0 j)) := by
  intro j e he
  rcases h with rfl | rfl | rfl | rfl
  · have : j = 0 ∨ j = 1 := by have := (Array.getElem?_eq_some_iff.1 he).1; simp at this; omega
    rcases this with rfl | rfl <;> simp at he <;> subst he <;> exact .inr ⟨⟨_, _, rfl⟩, by simp [deafBehind, rd, wr]⟩
  · have : j = 0 := by have := (Array.getElem?_eq_some_iff.1 he).1; simp at this; omega
    subst this; simp at he; subst he; exact .inr ⟨⟨_, _, rfl⟩, by simp [deafBehind]⟩
  · have : j = 0 := by have := (Array.getElem?_eq_some_iff.1 he).1; simp at this; omega
    subst this; simp at he; subst he; exact .inr ⟨⟨_, _, rfl⟩, by simp [deafBehind]⟩
  · have : j = 0 ∨ j = 1 ∨ j = 2 ∨ j = 3 := by have := (Array.getElem?_eq_some_iff.1 he).1; simp [semEvents] at this; omega
    rcases this with rfl | rfl | rfl | rfl <;> simp [semEvents] at he <;> subst he
    · exact .inl rfl
    · exact .inr ⟨⟨_, _, rfl⟩, by simp [deafBehind, semEvents]⟩
    · exact .inr ⟨⟨_, _, rfl⟩, by simp [deafBehind, semEvents]⟩
    · exact .inl rfl

theorem sy_of {φ : Ph} {es : Array Event} (h : es = #[rd (stA φ.wg), wr (stA φ.wg)] ∨ es = #[rd (stA φ.wg)] ∨ es = #[wr (stA φ.wg)] ∨ es = semEvents (smA φ.wg)) : (∀ e ∈ es, SyEv φ.wg e) ∧ ∀ e ∈ es, ∀ a, e.loc ≠ .mark (.write a) := by
  rcases h with rfl | rfl | rfl | rfl
  · refine ⟨fun e he => ?_, fun e he a => ?_⟩ <;> (simp at he; rcases he with rfl | rfl)
    · exact .cell _ _ rfl
    · exact .cell _ _ rfl
    · simp [rd]
    · simp [wr]
  · refine ⟨fun e he => ?_, fun e he a => ?_⟩ <;> (simp at he; subst he)
    · exact .cell _ _ rfl
    · simp [rd]
  · refine ⟨fun e he => ?_, fun e he a => ?_⟩ <;> (simp at he; subst he)
    · exact .cell _ _ rfl
    · simp [wr]
  · refine ⟨fun e he => ?_, fun e he a => ?_⟩ <;> (simp [semEvents] at he; rcases he with rfl | rfl | rfl | rfl)
    · exact .disable
    · exact .cell _ _ rfl
    · exact .cell _ _ rfl
    · exact .enable
    all_goals simp

/-- THE STEPS OF A WORKER's END. -/
theorem step_end (hI : Inv P Q w₀ gs w t Hs γs sh RO) (hi : gs[i]? = some g) (hi0 : i ≠ 0) {φ : Ph} {j m : Nat} (hγ : γs i = .wt φ j) (hpc : (Hs i).ro φ.pc = some (.cells #[φ.vC] 3)) (hs : sh i = Sh.above m (Sh.stop (5 - j))) (hd : (Hs i).d = if j = 0 then 0 else 1) (ht : Tail P φ j m g w) :
    Steps P Q w₀ gs t sh (runT P (crowd gs w sl) i) := by
  obtain ⟨φ', got, base, D, h0, hF⟩ := hI.phase hi hi0 (by rw [hγ]; simp) (fun _ _ _ => by rw [hγ]; simp)
  obtain ⟨rfl, k₁, hk₁, rfl⟩ := hF.wt_phi h0 hi (.inr ⟨j, hγ⟩)
  have hrun := ht.running
  have hS := hF.shared
  have hmode := hS.mode
  have hwg := hS.wg
  have hD : Deaf t (base + k₁) = (Hs (base + k₁)).d := hI.tr.deaf _
  have hn16 := hF.ok.n16
  have hnc : ¬ (γs (base + k₁) = .wc φ) := by rw [hγ]; simp
  have hle := cnt_le base γs 0 φ.n
  match j, hγ, hs, hd, ht with
  | 0, hγ, hs, hd, ht =>
    have h1 := cnt_has (base := base) (γs := γs) (c := 0) hk₁ (by rw [hγ]; rfl)
    rcases Goes.cases ht with hstop | ⟨n', rfl, hstep⟩
    · obtain ⟨_, g', hst, m', hm'⟩ := hstop w (ConcN.RW.refl w)
      have hc := fun x => cnt_turn (base := base) (γs := γs) (γ' := .wt φ 1) hk₁ 0 0 (by rw [hγ]; rfl) rfl x
      refine worker_go hI h0 hF hk₁ hi hrun (γ' := .wt φ 1) hst (.inr ⟨0, hγ⟩) (.inl ⟨1, by omega, rfl⟩) (Grouped.refl w) hS.wg (fun e he => by simp at he; subst he; exact .disable) (fun e he a => by simp at he; subst he; simp [mk]) (.inr fun q e he => ?_) (fun h => absurd h hnc) (.inl (mode_sm hmode (.inl h1))) ?_
        (.tail φ 1 m' hi0 rfl hm' hpc rfl (by simp [deafBehind, mk, hd])) (by rw [hs]; exact Sh.lt_above (Sh.stop_lt 4 m') _) (.inl (show Tail P φ 1 m' g' w from hm').running)
      · have : q = 0 := by have := (Array.getElem?_eq_some_iff.1 he).1; simp at this; omega
        subst this; simp at he; subst he; exact .inl rfl
      · have a := hc 0; have b := hc 1; have c := hc 2
        simp at a b c
        rw [a, b, c]; exact hmode
    · obtain ⟨g', w', es, hst, hD', hg'⟩ := hstep w (ConcN.RW.refl w)
      exact tail_idle hI hi hi0 hγ hpc hs hd hst hD' hg'
  | 1, hγ, hs, hd, ht =>
    have h1 := cnt_has (base := base) (γs := γs) (c := 0) hk₁ (by rw [hγ]; rfl)
    have hd1 : (Hs (base + k₁)).d = 1 := hd
    rcases Goes.cases ht with hstop | ⟨n', rfl, hstep⟩
    · obtain ⟨_, hadd⟩ := hstop w (ConcN.RW.refl w)
      obtain ⟨v, hv⟩ : ∃ v, cnt base γs 0 φ.n = v + 1 := ⟨_, (Nat.succ_pred_eq_of_pos h1).symm⟩
      rw [hv] at hmode
      obtain ⟨c1, c2, hsm, wt, hwt, hst0, hgo, hlast⟩ := mode_counted hmode
      rw [hst0, hsm] at hwg
      obtain ⟨g', hst, hA, hB⟩ := hadd v wt hwt (by omega) hwg
      have hwg' := hwg.setSt ((v : Int) * KK + (wt : Int))
      by_cases hl : v = 0 ∧ wt = 1
      · obtain ⟨m', hm'⟩ := hA hl
        have hc := fun x => cnt_turn (base := base) (γs := γs) (γ' := .wt φ 2) hk₁ 0 1 (by rw [hγ]; rfl) rfl x
        refine worker_go hI h0 hF hk₁ hi hrun (γ' := .wt φ 2) hst (.inr ⟨1, hγ⟩) (.inl ⟨2, by omega, rfl⟩) (Grouped.set w 0 _) hwg' (sy_of (.inl rfl)).1 (sy_of (.inl rfl)).2 (.inr fun q e he => ?_) (fun h => absurd h hnc) (.inl rfl) ?_
          (.tail φ 2 m' hi0 rfl hm' hpc rfl (by simp [deafBehind, rd, wr, hd])) (by rw [hs]; exact Sh.lt_above (Sh.stop_lt 3 m') _) (.inl (show Tail P φ 2 m' g' _ from hm').running)
        · rw [hD, hd1]; exact deaf_one _ _ (.inl rfl) q e he
        · have a := hc 0; have b := hc 1; have c := hc 2
          simp at a b c
          rw [mode_wait (hlast hl)]
          refine .inr (.inl ⟨by omega, by omega, by omega, by rw [hl.1, hl.2]; simp, rfl⟩)
      · obtain ⟨q, hq⟩ := hB hl
        have hc := fun x => cnt_turn (base := base) (γs := γs) (γ' := .gone) hk₁ 0 3 (by rw [hγ]; rfl) rfl x
        refine worker_go hI h0 hF hk₁ hi hrun (γ' := .gone) hst (.inr ⟨1, hγ⟩) (.inr rfl) (Grouped.set w 0 _) hwg' (sy_of (.inl rfl)).1 (sy_of (.inl rfl)).2 (.inr fun q e he => ?_) (fun h => absurd h hnc) (.inl rfl) ?_
          (.quit q hi0 rfl (by have e : deafBehind (Hs (base + k₁)).d #[rd (stA φ.wg), wr (stA φ.wg)] = 1 := by simp [deafBehind, rd, wr, hd1]
                               show QuitsD P q (deafBehind (Hs (base + k₁)).d #[rd (stA φ.wg), wr (stA φ.wg)]) g'
                               rw [e]; exact hq) rfl) (by rw [hs]; exact Sh.lt_above (Sh.stop_quit 4 q) _) hq.status
        · rw [hD, hd1]; exact deaf_one _ _ (.inl rfl) q e he
        · have a := hc 0; have b := hc 1; have c := hc 2
          simp at a b c
          rw [show cnt base (upd γs (base + k₁) .gone) 0 φ.n = v by omega, b, c1, c, c2]
          exact hgo hl
    · obtain ⟨g', w', es, hst, hD', hg'⟩ := hstep w (ConcN.RW.refl w)
      exact tail_idle hI hi hi0 hγ hpc hs hd hst hD' hg'
  | 2, hγ, hs, hd, ht =>
    have h1 := cnt_has (base := base) (γs := γs) (c := 1) hk₁ (by rw [hγ]; rfl)
    have hd1 : (Hs (base + k₁)).d = 1 := hd
    rcases Goes.cases ht with hstop | ⟨n', rfl, hstep⟩
    · obtain ⟨hwait, e0, hcase⟩ := mode_last hmode (.inl h1)
      obtain ⟨e1, e2, e3, e4⟩ : cnt base γs 1 φ.n = 1 ∧ cnt base γs 2 φ.n = 0 ∧ D.st = 1 ∧ D.sm = 0 := by omega
      rw [e3, e4] at hwg
      obtain ⟨_, hat⟩ := hstop w (ConcN.RW.refl w)
      obtain ⟨g', hst, m', hm'⟩ := hat hwg
      have hc := fun x => cnt_turn (base := base) (γs := γs) (γ' := .wt φ 3) hk₁ 1 1 (by rw [hγ]; rfl) rfl x
      refine worker_go hI h0 hF hk₁ hi hrun (γ' := .wt φ 3) hst (.inr ⟨2, hγ⟩) (.inl ⟨3, by omega, rfl⟩) (Grouped.refl w) hwg (sy_of (.inr (.inl rfl))).1 (sy_of (.inr (.inl rfl))).2 (.inr fun q e he => ?_) (fun h => absurd h hnc) (.inl rfl) ?_
        (.tail φ 3 m' hi0 rfl hm' hpc rfl (by simp [deafBehind, rd, hd])) (by rw [hs]; exact Sh.lt_above (Sh.stop_lt 2 m') _) (.inl (show Tail P φ 3 m' g' _ from hm').running)
      · rw [hD, hd1]; exact deaf_one _ _ (.inr (.inl rfl)) q e he
      · have a := hc 0; have b := hc 1; have c := hc 2
        simp at a b c
        rw [mode_wait hwait]
        refine .inr (.inl ⟨by omega, by omega, by omega, rfl, rfl⟩)
    · obtain ⟨g', w', es, hst, hD', hg'⟩ := hstep w (ConcN.RW.refl w)
      exact tail_idle hI hi hi0 hγ hpc hs hd hst hD' hg'
  | 3, hγ, hs, hd, ht =>
    have h1 := cnt_has (base := base) (γs := γs) (c := 1) hk₁ (by rw [hγ]; rfl)
    have hd1 : (Hs (base + k₁)).d = 1 := hd
    rcases Goes.cases ht with hstop | ⟨n', rfl, hstep⟩
    · obtain ⟨hwait, e0, hcase⟩ := mode_last hmode (.inl h1)
      obtain ⟨e1, e2, e3, e4⟩ : cnt base γs 1 φ.n = 1 ∧ cnt base γs 2 φ.n = 0 ∧ D.st = 1 ∧ D.sm = 0 := by omega
      rw [e3, e4] at hwg
      obtain ⟨_, hat⟩ := hstop w (ConcN.RW.refl w)
      obtain ⟨g', hst, m', hm'⟩ := hat hwg
      have hwg' := hwg.setSt 0
      have hc := fun x => cnt_turn (base := base) (γs := γs) (γ' := .wt φ 4) hk₁ 1 2 (by rw [hγ]; rfl) rfl x
      refine worker_go hI h0 hF hk₁ hi hrun (γ' := .wt φ 4) hst (.inr ⟨3, hγ⟩) (.inl ⟨4, by omega, rfl⟩) (Grouped.set w 0 _) hwg' (sy_of (.inr (.inr (.inl rfl)))).1 (sy_of (.inr (.inr (.inl rfl)))).2 (.inr fun q e he => ?_) (fun h => absurd h hnc) (.inl rfl) ?_
        (.tail φ 4 m' hi0 rfl hm' hpc rfl (by simp [deafBehind, wr, hd])) (by rw [hs]; exact Sh.lt_above (Sh.stop_lt 1 m') _) (.inl (show Tail P φ 4 m' g' _ from hm').running)
      · rw [hD, hd1]; exact deaf_one _ _ (.inr (.inr (.inl rfl))) q e he
      · have a := hc 0; have b := hc 1; have c := hc 2
        simp at a b c
        rw [mode_wait hwait]
        refine .inr (.inr (.inl ⟨by omega, by omega, by omega, rfl, rfl⟩))
    · obtain ⟨g', w', es, hst, hD', hg'⟩ := hstep w (ConcN.RW.refl w)
      exact tail_idle hI hi hi0 hγ hpc hs hd hst hD' hg'
  | 4, hγ, hs, hd, ht =>
    have h1 := cnt_has (base := base) (γs := γs) (c := 2) hk₁ (by rw [hγ]; rfl)
    have hd1 : (Hs (base + k₁)).d = 1 := hd
    rcases Goes.cases ht with hstop | ⟨n', rfl, hstep⟩
    · obtain ⟨hwait, e0, hcase⟩ := mode_last hmode (.inr h1)
      obtain ⟨e1, e2, e3, e4⟩ : cnt base γs 1 φ.n = 0 ∧ cnt base γs 2 φ.n = 1 ∧ D.st = 0 ∧ D.sm = 0 := by omega
      rw [e3, e4] at hwg
      obtain ⟨_, hwake, hat⟩ := hstop w (ConcN.RW.refl w)
      obtain ⟨g', hst, q, hq⟩ := hat hwg
      have hwg' := hwg.setSm 1
      have hc := fun x => cnt_turn (base := base) (γs := γs) (γ' := .gone) hk₁ 2 3 (by rw [hγ]; rfl) rfl x
      refine worker_go hI h0 hF hk₁ hi hrun (γ' := .gone) hst (.inr ⟨4, hγ⟩) (.inr rfl) (Grouped.set w 1 _) hwg' (sy_of (.inr (.inr (.inr rfl)))).1 (sy_of (.inr (.inr (.inr rfl)))).2 (.inr fun q e he => ?_) (fun h => absurd h hnc) (.inr hwake) ?_
        (.quit q hi0 rfl (by show QuitsD P q (deafBehind (Hs (base + k₁)).d (semEvents (smA φ.wg))) g'
                             rw [deaf_sem, hd1]; exact hq) rfl) (by rw [hs]; exact Sh.lt_above (Sh.stop_quit 1 q) _) hq.status
      · rw [hD, hd1]; exact deaf_one _ _ (.inr (.inr (.inr rfl))) q e he
      · have a := hc 0; have b := hc 1; have c := hc 2
        simp at a b c
        rw [mode_wait hwait]
        refine .inr (.inr (.inr ⟨by omega, by omega, by omega, rfl, rfl⟩))
    · obtain ⟨g', w', es, hst, hD', hg'⟩ := hstep w (ConcN.RW.refl w)
      exact tail_idle hI hi hi0 hγ hpc hs hd hst hD' hg'
  | _ + 5, _, _, _, ht => exact ht.elim

/-! ### the feeder's wait -/

theorem step_load (hI : Inv P Q w₀ gs w t Hs γs sh RO) (hi : gs[i]? = some g) (hi0 : i ≠ 0) (hsg : SameG g g₀) (M : Meets P Q false .load (sh i) g₀ (Hs i) (γs i)) : Steps P Q w₀ gs t sh (runT P (crowd gs w sl) i) := by
  obtain ⟨_, φ, b, F, hγ, _, hFr, hfit⟩ := M.at_
  obtain ⟨φ', got, base, D, h0, hF⟩ := hI.phase hi hi0 (by rw [hγ]; simp) (fun _ _ _ => by rw [hγ]; simp)
  obtain ⟨rfl, rfl⟩ := hF.fw_phi h0 hi hγ
  have hS := hF.shared
  have hmode := hS.mode
  rw [hγ] at hmode
  obtain ⟨hcb, c1, c2, hst, hsm⟩ := hmode
  have hwg := hS.wg
  rw [hst, hsm] at hwg
  have hle := cnt_le base γs 0 φ.n
  have hgo := hfit w _ (hI.mem.view _) hwg hle
  have hK := hF.traced.f.2
  rw [hγ] at hK
  obtain ⟨s', hlt, htree⟩ := M.out (F (cnt base γs 0 φ.n)) (Hs (base + φ.n)) _ ⟨φ, b, cnt base γs 0 φ.n, hγ, rfl, hcb, hle, fun F' hF' => by have := hF' w _ (hI.mem.view _) hwg hle; rw [hgo] at this; exact (GStep.go.inj this).1, rfl⟩
  have hs : ∀ γ', γ' = (if cnt base γs 0 φ.n = 0 then Gh.fw φ .acq else Gh.fw φ (.cas (cnt base γs 0 φ.n))) → TreeS P (company P Q) false s' (F (cnt base γs 0 φ.n)) (Hs (base + φ.n)) γ' := fun γ' e => by
    subst e
    split
    · rename_i h; simpa [h] using htree
    · rename_i h; simpa [h] using htree
  have hes : ({ Hs (base + φ.n) with d := deafBehind (Hs (base + φ.n)).d #[rd (stA φ.wg)] } : Hp) = Hs (base + φ.n) := hp_d (by simp [deafBehind, rd])
  by_cases hz : cnt base γs 0 φ.n = 0
  · refine feeder_go hI h0 hF hi (s₁ := .acq) (by rw [hsg.step]; exact hgo) hγ (by simp) (Grouped.refl w) hwg (sy_of (.inr (.inl rfl))).1 (closeT_app hK) ⟨hz, c1, c2, rfl, rfl⟩ (by rw [hes]; exact sits_of hi0 rfl (hs _ (by rw [if_pos hz]))) hlt (hFr _)
  · refine feeder_go hI h0 hF hi (s₁ := .cas (cnt base γs 0 φ.n)) (by rw [hsg.step]; exact hgo) hγ (by simp) (Grouped.refl w) hwg (sy_of (.inr (.inl rfl))).1 (closeT_app hK) ⟨Nat.le_refl _, c1, c2, rfl, rfl⟩ (by rw [hes]; exact sits_of hi0 rfl (hs _ (by rw [if_neg hz]))) hlt (hFr _)

theorem step_cas (hI : Inv P Q w₀ gs w t Hs γs sh RO) (hi : gs[i]? = some g) (hi0 : i ≠ 0) (hsg : SameG g g₀) (M : Meets P Q false .cas (sh i) g₀ (Hs i) (γs i)) : Steps P Q w₀ gs t sh (runT P (crowd gs w sl) i) := by
  obtain ⟨_, φ, v, F₁, F₀, hγ, hv1, _, hr1, hr0, hfit⟩ := M.at_
  obtain ⟨φ', got, base, D, h0, hF⟩ := hI.phase hi hi0 (by rw [hγ]; simp) (fun _ _ _ => by rw [hγ]; simp)
  obtain ⟨rfl, rfl⟩ := hF.fw_phi h0 hi hγ
  have hS := hF.shared
  have hmode := hS.mode
  rw [hγ] at hmode
  obtain ⟨hcb, c1, c2, hst, hsm⟩ := hmode
  have hwg := hS.wg
  rw [hst, hsm] at hwg
  have hle := cnt_le base γs 0 φ.n
  have hgo := hfit w _ (hI.mem.view _) hle hwg
  have hK := hF.traced.f.2
  rw [hγ] at hK
  by_cases hv : cnt base γs 0 φ.n = v
  · have hg1 := hgo.1 hv
    have hes : ({ Hs (base + φ.n) with d := deafBehind (Hs (base + φ.n)).d #[rd (stA φ.wg), wr (stA φ.wg)] } : Hp) = Hs (base + φ.n) := hp_d (by simp [deafBehind, rd, wr])
    obtain ⟨s', hlt, htree⟩ := M.out F₁ (Hs (base + φ.n)) _ ⟨φ, v, hγ, rfl, .inl ⟨rfl, fun F₁' F₀' hF' => by have := (hF' w _ (hI.mem.view _) hle hwg).1 hv; rw [hg1] at this; cases this; rfl⟩⟩
    exact feeder_go hI h0 hF hi (s₁ := .say) (by rw [hsg.step]; exact hg1) hγ (by simp) (Grouped.set w 0 _) (hwg.setSt _) (sy_of (.inl rfl)).1 (closeT_app hK) (.inl ⟨by omega, c1, c2, rfl, rfl⟩) (by rw [hes]; exact sits_of hi0 rfl htree) hlt hr1
  · have hg0 := hgo.2 hv
    have hes : ({ Hs (base + φ.n) with d := deafBehind (Hs (base + φ.n)).d #[rd (stA φ.wg)] } : Hp) = Hs (base + φ.n) := hp_d (by simp [deafBehind, rd])
    obtain ⟨s', hlt, htree⟩ := M.out F₀ (Hs (base + φ.n)) _ ⟨φ, v, hγ, rfl, .inr ⟨rfl, hv1, fun F₁' F₀' hF' => by have := (hF' w _ (hI.mem.view _) hle hwg).2 hv; rw [hg0] at this; cases this; rfl⟩⟩
    exact feeder_go hI h0 hF hi (s₁ := .load (v - 1)) (by rw [hsg.step]; exact hg0) hγ (by simp) (Grouped.refl w) hwg (sy_of (.inr (.inl rfl))).1 (closeT_app hK) ⟨by omega, c1, c2, rfl, rfl⟩ (by rw [hes]; exact sits_of hi0 rfl htree) hlt hr0

theorem step_say (hI : Inv P Q w₀ gs w t Hs γs sh RO) (hi : gs[i]? = some g) (hi0 : i ≠ 0) (hsg : SameG g g₀) (M : Meets P Q false .say (sh i) g₀ (Hs i) (γs i)) : Steps P Q w₀ gs t sh (runT P (crowd gs w sl) i) := by
  obtain ⟨_, φ, g₁, hγ, _, hr1, hfit⟩ := M.at_
  obtain ⟨φ', got, base, D, h0, hF⟩ := hI.phase hi hi0 (by rw [hγ]; simp) (fun _ _ _ => by rw [hγ]; simp)
  obtain ⟨rfl, rfl⟩ := hF.fw_phi h0 hi hγ
  have hS := hF.shared
  have hmode := hS.mode
  rw [hγ] at hmode
  have hgo := hfit w (hI.mem.view _)
  have hK := hF.traced.f.2
  rw [hγ] at hK
  have hes : ({ Hs (base + φ.n) with d := deafBehind (Hs (base + φ.n)).d #[mk (.write (smA φ.wg))] } : Hp) = Hs (base + φ.n) := hp_d (by simp [deafBehind, mk])
  obtain ⟨s', hlt, htree⟩ := M.out g₁ (Hs (base + φ.n)) _ ⟨φ, hγ, rfl, rfl, fun F' hF' => by have := hF' w (hI.mem.view _); rw [hgo] at this; cases this; rfl⟩
  exact feeder_go hI h0 hF hi (s₁ := .sema) (by rw [hsg.step]; exact hgo) hγ (by simp) (Grouped.refl w) hS.wg (fun e he => by simp at he; subst he; exact .said _ rfl) (closeT_app hK) hmode (by rw [hes]; exact sits_of hi0 rfl htree) hlt hr1

theorem step_load2 (hI : Inv P Q w₀ gs w t Hs γs sh RO) (hi : gs[i]? = some g) (hi0 : i ≠ 0) (hsg : SameG g g₀) (M : Meets P Q false .load2 (sh i) g₀ (Hs i) (γs i)) : Steps P Q w₀ gs t sh (runT P (crowd gs w sl) i) := by
  obtain ⟨_, φ, g₁, hγ, _, hr1, hfit⟩ := M.at_
  obtain ⟨φ', got, base, D, h0, hF⟩ := hI.phase hi hi0 (by rw [hγ]; simp) (fun _ _ _ => by rw [hγ]; simp)
  obtain ⟨rfl, rfl⟩ := hF.fw_phi h0 hi hγ
  have hS := hF.shared
  have hmode := hS.mode
  rw [hγ] at hmode
  obtain ⟨c0, c1, c2, hst, hsm⟩ := hmode
  have hwg := hS.wg
  rw [hst, hsm, c0] at hwg
  have hwg0 : WgAt 51 φ.wg w 0 0 := by simpa using hwg
  have hgo := hfit w (hI.mem.view _) hwg0
  have hK := hF.traced.f.2
  rw [hγ] at hK
  have hes : ({ Hs (base + φ.n) with d := deafBehind (Hs (base + φ.n)).d #[rd (stA φ.wg)] } : Hp) = Hs (base + φ.n) := hp_d (by simp [deafBehind, rd])
  obtain ⟨s', hlt, htree⟩ := M.out g₁ (Hs (base + φ.n)) _ ⟨φ, hγ, rfl, rfl, fun F' hF' => by have := hF' w (hI.mem.view _) hwg0; rw [hgo] at this; cases this; rfl⟩
  exact feeder_go hI h0 hF hi (s₁ := .acq) (by rw [hsg.step]; exact hgo) hγ (by simp) (Grouped.refl w) hwg (sy_of (.inr (.inl rfl))).1 (closeT_app hK) ⟨c0, c1, c2, by rw [c0], rfl⟩ (by rw [hes]; exact sits_of hi0 rfl htree) hlt hr1

theorem step_acq (hI : Inv P Q w₀ gs w t Hs γs sh RO) (hi : gs[i]? = some g) (hi0 : i ≠ 0) (hsg : SameG g g₀) (M : Meets P Q false .acq (sh i) g₀ (Hs i) (γs i)) : Steps P Q w₀ gs t sh (runT P (crowd gs w sl) i) := by
  obtain ⟨_, φ, g₁, hγ, hd, _, hr1, hfit⟩ := M.at_
  obtain ⟨φ', got, base, D, h0, hF⟩ := hI.phase hi hi0 (by rw [hγ]; simp) (fun _ _ _ => by rw [hγ]; simp)
  obtain ⟨rfl, rfl⟩ := hF.fw_phi h0 hi hγ
  have hS := hF.shared
  have hmode := hS.mode
  rw [hγ] at hmode
  obtain ⟨c0, c1, c2, hst, hsm⟩ := hmode
  have hgo := hfit w (hI.mem.view _)
  have hK := hF.traced.f.2
  rw [hγ] at hK
  have hb1 := hF.base1
  have hes : ({ Hs (base + φ.n) with d := deafBehind (Hs (base + φ.n)).d #[mk (.acquire (stA φ.wg))] } : Hp) = Hs (base + φ.n) := hp_d (by simp [deafBehind, mk])
  obtain ⟨s', hlt, htree⟩ := M.out g₁ (Hs (base + φ.n)) _ ⟨φ, hγ, rfl, rfl, fun F' hF' => by have := hF' w (hI.mem.view _); rw [hgo] at this; cases this; rfl⟩
  refine feeder_go hI h0 hF hi (s₁ := .close) (by rw [hsg.step]; exact hgo) hγ (by simp) (Grouped.refl w) hS.wg (fun e he => by simp at he; subst he; exact .acquire _) ⟨closeT_app hK, fun k hk => ?_⟩ ⟨c0, c1, c2, hst, hsm⟩ (by rw [hes]; exact sits_of hi0 rfl htree) hlt hr1
  -- every worker has said its release
  have hgone : γs (base + k) = .gone := by
    have d0 := cnt_zero c0 k hk
    have d1 := cnt_zero c1 k hk
    have d2 := cnt_zero c2 k hk
    rcases hF.parts.wk k hk with ⟨nx, h, _, e⟩ | e | ⟨j, hj, e⟩ | e
    · rw [e] at d0; exact absurd rfl d0
    · rw [e] at d0; exact absurd rfl d0
    · rw [e] at d0 d1 d2
      have : j = 0 ∨ j = 1 ∨ j = 2 ∨ j = 3 ∨ j = 4 := by omega
      rcases this with rfl | rfl | rfl | rfl | rfl
      · exact absurd rfl d0
      · exact absurd rfl d0
      · exact absurd rfl d1
      · exact absurd rfl d1
      · exact absurd rfl d2
    · exact e
  have hW := hF.traced.w k hk
  rw [hgone] at hW
  obtain ⟨p, h1, h2, h3⟩ := hW
  have hev : MemOp.ofEvents (base + φ.n) g.frame.fn g.frame.place #[mk (.acquire (stA φ.wg))] = #[({ g := base + φ.n, fn := g.frame.fn, pos := g.frame.place, act := .mark (.acquire (stA φ.wg)) } : MemOp)] := by simp [MemOp.ofEvents, mk, MemAct.ofEvent]
  rw [hev]
  have hq := at1_0 (t := t) (a := { g := base + φ.n, fn := g.frame.fn, pos := g.frame.place, act := .mark (.acquire (stA φ.wg)) })
  refine ⟨p, h3.other (fun op hop => by simp at hop; subst hop; show base + φ.n ≠ base + k; omega), ?_⟩
  exact knows_edge (.inl rfl) (edge_merge (by have := lt_of_act? h1; omega) (act?_app h1) (act?_of hq) (fun op hop a => by
    rcases Array.mem_append.1 hop with h | h
    · exact hI.tr.norel op h a
    · simp at h; subst h; simp) (heard_app h1 h2) (heard_new (fun op hop => by simp at hop; subst hop; simp) hq (by show Deaf t (base + φ.n) = 0; rw [hI.tr.deaf, hd]))) hq

theorem step_sema (hI : Inv P Q w₀ gs w t Hs γs sh RO) (hi : gs[i]? = some g) (hi0 : i ≠ 0) (hsg : SameG g g₀) (hrun : g.status = .running) (M : Meets P Q false .sema (sh i) g₀ (Hs i) (γs i)) : Steps P Q w₀ gs t sh (runT P (crowd gs w sl) i) := by
  have hil := (Array.getElem?_eq_some_iff.1 hi).1
  have hi0' : (i == 0) = false := by simpa using hi0
  obtain ⟨_, φ, g₁, hγ, _, hoff, hr1, hfit, hblk⟩ := M.at_
  obtain ⟨φ', got, base, D, h0, hF⟩ := hI.phase hi hi0 (by rw [hγ]; simp) (fun _ _ _ => by rw [hγ]; simp)
  obtain ⟨rfl, rfl⟩ := hF.fw_phi h0 hi hγ
  have hb1 := hF.base1
  have hS := hF.shared
  have hmode := hS.mode
  rw [hγ] at hmode
  have hwg := hS.wg
  have hK := hF.traced.f.2
  rw [hγ] at hK
  have hsm : D.sm = 0 ∨ (cnt base γs 0 φ.n = 0 ∧ cnt base γs 1 φ.n = 0 ∧ cnt base γs 2 φ.n = 0 ∧ D.st = 0 ∧ D.sm = 1) := by
    rcases hmode with h | h | h | h
    · exact .inl h.2.2.2.2
    · exact .inl h.2.2.2.2
    · exact .inl h.2.2.2.2
    · exact .inr h
  rcases hsm with hsm | ⟨c0, c1, c2, hst, hsm⟩
  · -- it waits
    rw [hsm] at hwg
    have hgo : stepG P (base + φ.n == 0) g w = .go { g₀ with status := .blocked } w #[] := by rw [hi0', hsg.step]; exact hblk w _ (hI.mem.view _) hwg
    have hr := runT_crowd_go (P := P) (sl := sl) hi hgo
    have hwk : gs.map (woken P g { g₀ with status := .blocked } w) = gs := by
      have : woken P g { g₀ with status := .blocked } w = id := by
        funext o
        unfold Go.Conc.woken
        simp
      rw [this, Array.map_id]
    rw [hwk] at hr
    have e : t ++ MemOp.ofEvents (base + φ.n) g.frame.fn g.frame.place #[] = t := by simp [MemOp.ofEvents]
    refine .inr ⟨_, w, sl, _, Hs, γs, sh, RO, hr, ?_, lt_run hi hrun (by simp)⟩
    rw [e]
    refine ⟨hI.mem, hI.tr, fun j hj => hI.out j (by simpa using hj), fun j x hx => ?_, hI.os, hI.tape, hI.output, hI.keep, .fed φ got base D h0 ⟨hF.ok, by simpa using hF.size, hb1, hF.parts, hF.shared, hF.traced, ⟨fun z hz hb => ?_, fun j hj z hz hb k' hh => ?_, fun j hj z hz hb hh => ?_, fun z hz hb _ => hsm⟩⟩, by simpa using hI.pos⟩
    · rcases get_set hil hx with ⟨rfl, rfl⟩ | ⟨hj, hx⟩
      · exact .sema g₀ φ hγ (by rw [hi0']; exact M) ⟨rfl, rfl, rfl⟩ rfl hoff
      · exact hI.sits j x hx
    · rcases get_set hil hz with ⟨e, _⟩ | ⟨h1, h3⟩
      · omega
      · obtain ⟨a, b, c⟩ := hF.waiting.main z h3 hb
        refine ⟨a, b, fun j hj x hx hxb => ?_⟩
        rcases get_set hil hx with ⟨e, _⟩ | ⟨_, hx⟩
        · omega
        · exact c j hj x hx hxb
    · rcases get_set hil hz with ⟨e, _⟩ | ⟨h1, h3⟩
      · omega
      · exact hF.waiting.send j hj z h3 hb k' hh
    · rcases get_set hil hz with ⟨e, _⟩ | ⟨h1, h3⟩
      · omega
      · have := (hF.waiting.recv j hj z h3 hb hh).1
        rw [hγ] at this; cases this
  · rw [hst, hsm] at hwg
    have hgo := hfit w (hI.mem.view _) hwg
    have hes : ({ Hs (base + φ.n) with d := deafBehind (Hs (base + φ.n)).d (semEvents (smA φ.wg)) } : Hp) = Hs (base + φ.n) := hp_d (deaf_sem _ _)
    obtain ⟨s', hlt, htree⟩ := M.out g₁ (Hs (base + φ.n)) _ ⟨φ, hγ, rfl, rfl, fun F' hF' => by have := hF' w (hI.mem.view _) hwg; rw [hgo] at this; cases this; rfl⟩
    exact feeder_go hI h0 hF hi (s₁ := .load2) (by rw [hsg.step]; exact hgo) hγ (by simp) (Grouped.set w 1 _) (hwg.setSm 0) (sy_of (.inr (.inr (.inr rfl)))).1 (closeT_app hK) ⟨c0, c1, c2, by rw [c0]; simp, rfl⟩ (by rw [hes]; exact sits_of hi0 rfl htree) hlt hr1

theorem step_calm (hI : Inv P Q w₀ gs w t Hs γs sh RO) (hi : gs[i]? = some g) (hi0 : i ≠ 0) (hsg : SameG g g₀) (M : Meets P Q false .calm (sh i) g₀ (Hs i) (γs i)) : Steps P Q w₀ gs t sh (runT P (crowd gs w sl) i) := by
  have hi0' : (i == 0) = false := by simpa using hi0
  obtain ⟨_, φ, g₁, hγ, _, hr1, hfit⟩ := M.at_
  obtain ⟨φ', got, base, D, h0, hF⟩ := hI.phase hi hi0 (by rcases hγ with h | ⟨s, h⟩ <;> rw [h] <;> simp) (fun _ _ _ => by rcases hγ with h | ⟨s, h⟩ <;> rw [h] <;> simp)
  have hφ : φ = φ' := by
    rcases hγ with h | ⟨s, h⟩
    · exact (hF.wt_phi h0 hi (.inl h)).1
    · exact (hF.fw_phi h0 hi h).1
  subst hφ
  have hgo := hfit w (hI.mem.view _) ⟨_, _, hF.shared.wg⟩
  obtain ⟨s', hlt, htree⟩ := M.out g₁ (Hs i) (γs i) ⟨rfl, rfl, φ, hγ, fun F' hF' => by have := hF' w (hI.mem.view _) ⟨_, _, hF.shared.wg⟩; rw [hgo] at this; cases this; rfl⟩
  exact step_own hI hi M.live (by rw [hi0', hsg.step]; exact hgo) (Upd.refl (hI.mem.view i)) hlt (sits_of hi0 M.live htree) hr1
end
end Go.Sep
