/-
  A step of a company's member that concerns nobody else. Conditions: none.
-/
import Derived.Test.YtcomjkbfmklfnaaDoorCe
set_option linter.unusedSimpArgs false
set_option linter.unusedVariables false
namespace Go.Sep
open Go.Conc
open Go.ConcR (KK wgBlock WgAt stA smA rd wr mk)
open Go.ConcN (RW WgLive PayAt)

def runs (gs : Array Goroutine) : Nat := (gs.toList.filter fun (g : Goroutine) => decide (g.status = GoStatus.running)).length
def ms (gs : Array Goroutine) (sh : Nat → Sh) : Ms := (sh 0, (kids (gs.size - 1) (fun j => sh (j + 1)), runs gs))

/-- What is known of the world at the return. -/
def EndPost (Q : Value → Prop) (w₀ : World) (v : Value) (w' : World) : Prop := Q v ∧ (∀ (b : Nat) (o : Obj), w₀.heap[b]? = some o → w'.heap[b]? = some o) ∧ w'.os = w₀.os ∧ w'.tape = w₀.tape ∧ w'.output = w₀.output

/-- A step of the machine keeps what is held, and lowers the measure; or it is the return. -/
def Steps (P : Program) (Q : Value → Prop) (w₀ : World) (gs : Array Goroutine) (t : Trace) (sh : Nat → Sh) (r : Stepped × Array MemOp) : Prop :=
  (∃ o w' ops, r = (.ended o w', ops) ∧ ∀ w₁ sl₁, Good P (EndPost Q w₀) (crowd gs w₁ sl₁) o w' (t ++ ops)) ∨
  (∃ gs' w' sl' ops Hs' γs' sh' RO', r = (.next (crowd gs' w' sl'), ops) ∧ Inv P Q w₀ gs' w' (t ++ ops) Hs' γs' sh' RO' ∧ Ms.Lt (ms gs' sh') (ms gs sh))

section
variable {gs gs' : Array Goroutine} {sh sh' : Nat → Sh} {i : Nat}
theorem lt_main (h : Sh.Lt (sh' 0) (sh 0)) : Ms.Lt (ms gs' sh') (ms gs sh) := Ms.main h _ _
theorem lt_kid {s' : Sh} (hs : gs'.size = gs.size) (hi : i ≠ 0) (hlt : i < gs.size) (h : Sh.Lt s' (sh i)) : Ms.Lt (ms gs' (upd sh i s')) (ms gs sh) := by
  unfold ms
  rw [upd_ne sh s' (Ne.symm hi), hs]
  refine Ms.kid (kids_lt (j := i - 1) (by omega) ?_ fun k hk => ?_) _ _
  · rw [show i - 1 + 1 = i by omega, upd_same]; exact h
  · rw [upd_ne sh s' (by omega)]
theorem lt_any {s' : Sh} (hs : gs'.size = gs.size) (hlt : i < gs.size) (h : Sh.Lt s' (sh i)) : Ms.Lt (ms gs' (upd sh i s')) (ms gs sh) := by
  by_cases hi : i = 0
  · subst hi; exact lt_main (by rw [upd_same]; exact h)
  · exact lt_kid hs hi hlt h
/-- Two at once. -/
theorem lt_two {s' s'' : Sh} {j : Nat} (hs : gs'.size = gs.size) (hi : i < gs.size) (hj : j < gs.size) (hij : j ≠ i) (h : Sh.Lt s' (sh i)) (h' : Sh.Lt s'' (sh j)) : Ms.Lt (ms gs' (upd (upd sh i s') j s'')) (ms gs sh) := by
  by_cases hi0 : i = 0
  · subst hi0; exact lt_main (by rw [upd_ne _ _ (Ne.symm hij), upd_same]; exact h)
  by_cases hj0 : j = 0
  · subst hj0; exact lt_main (by rw [upd_same]; exact h')
  unfold ms
  rw [upd_ne _ s'' (Ne.symm hj0), upd_ne sh s' (Ne.symm hi0), hs]
  refine Ms.kid2 (k' := kids (gs.size - 1) (fun k => upd sh i s' (k + 1))) (kids_lt (j := i - 1) (by omega) ?_ fun k hk => ?_) (kids_lt (j := j - 1) (by omega) ?_ fun k hk => ?_) _ _
  · rw [show i - 1 + 1 = i by omega, upd_same]; exact h
  · rw [upd_ne sh s' (by omega)]
  · rw [show j - 1 + 1 = j by omega, upd_same, upd_ne sh s' hij]; exact h'
  · rw [upd_ne _ s'' (by omega)]
theorem filter_set_lt {p : Goroutine → Bool} : ∀ (l : List Goroutine) (i : Nat) (g g' : Goroutine), l[i]? = some g → p g = true → p g' = false → ((l.set i g').filter p).length < (l.filter p).length
  | [], i, g, g', h, _, _ => by simp at h
  | x :: l, 0, g, g', h, h1, h2 => by
    simp at h; subst h
    simp [List.set, h1, h2]
  | x :: l, i + 1, g, g', h, h1, h2 => by
    have := filter_set_lt l i g g' (by simpa using h) h1 h2
    by_cases hx : p x = true <;> simp [List.set, hx] <;> omega
theorem runs_lt {g g' : Goroutine} (hi : gs[i]? = some g) (h1 : g.status = .running) (h2 : g'.status ≠ .running) : runs (gs.setIfInBounds i g') < runs gs := by
  unfold runs
  rw [Array.toList_setIfInBounds]
  exact filter_set_lt _ i g g' (by simpa using hi) (by simp [h1]) (by simp [h2])
theorem lt_run {g g' : Goroutine} (hi : gs[i]? = some g) (h1 : g.status = .running) (h2 : g'.status ≠ .running) : Ms.Lt (ms (gs.setIfInBounds i g') sh) (ms gs sh) := by
  unfold ms
  rw [Array.size_setIfInBounds]
  exact Ms.run (runs_lt hi h1 h2)
end

/-! ### the others -/
section
variable {P : Program} {Q : Value → Prop} {gs : Array Goroutine} {w w' : World} {t u : Trace} {Hs : Nat → Hp} {γs : Nat → Gh} {sh : Nat → Sh} {RO : Nat → Option Obj} {i : Nat}

theorem woken_status (g₁ g₂ : Goroutine) (w' : World) (g : Goroutine) : ((woken P g₁ g₂ w' g).status = .blocked → g.status = .blocked) ∧ (g.status = .running → (woken P g₁ g₂ w' g).status = .running) := by
  unfold Go.Conc.woken
  split
  · exact ⟨again_blocked, fun h => by rw [again_running _ (.inl h)]; exact h⟩
  · exact ⟨id, id⟩

/-- Who is there behind a step of i's. -/
theorem get_go {g' : Goroutine} {f : Goroutine → Goroutine} {j : Nat} {x : Goroutine} (hlt : i < gs.size) (h : ((gs.map f).setIfInBounds i g')[j]? = some x) : (j = i ∧ x = g') ∨ (j ≠ i ∧ ∃ y, gs[j]? = some y ∧ x = f y) := by
  by_cases hj : i = j
  · subst hj
    rw [Array.getElem?_setIfInBounds_self_of_lt (by simpa using hlt)] at h
    exact .inl ⟨rfl, (Option.some.inj h).symm⟩
  · rw [Array.getElem?_setIfInBounds_ne hj, Array.getElem?_map] at h
    obtain ⟨y, hy, rfl⟩ := Option.map_eq_some_iff.1 h
    exact .inr ⟨fun e => hj e.symm, y, hy, rfl⟩
theorem get_set {g' : Goroutine} {j : Nat} {x : Goroutine} (hlt : i < gs.size) (h : (gs.setIfInBounds i g')[j]? = some x) : (j = i ∧ x = g') ∨ (j ≠ i ∧ gs[j]? = some x) := by
  by_cases hj : i = j
  · subst hj
    rw [Array.getElem?_setIfInBounds_self_of_lt hlt] at h
    exact .inl ⟨rfl, (Option.some.inj h).symm⟩
  · rw [Array.getElem?_setIfInBounds_ne hj] at h
    exact .inr ⟨fun e => hj e.symm, h⟩

theorem rw_of {φ : Ph} (hp : w'.heap[φ.pc]? = w.heap[φ.pc]?) (hl : WgLive 51 φ.wg w → WgLive 51 φ.wg w') : RW 51 φ.wg φ.pc 1 0 (1 - 1) w w' :=
  ⟨fun b hb => by omega, hl, fun ⟨cs, h1, h2⟩ => ⟨cs, hp.trans h1, h2⟩, ConcN.cell_of_block hp _⟩

/-- In whose company the last stops of a worker are. -/
theorem PhI.wt (h : PhI gs w t γs RO) {j k : Nat} {φ : Ph} {g : Goroutine} (hj : γs j = .wt φ k) (hg : gs[j]? = some g) : ∃ got base D, γs 0 = .fed φ got ∧ Fed φ got base gs w t γs RO D ∧ base ≤ j ∧ j < base + φ.n := by
  have hlt := (Array.getElem?_eq_some_iff.1 hg).1
  have h0 : j ≠ 0 := by
    rintro rfl
    cases h with
    | lone h1 _ _ => rw [h1] at hj; cases hj
    | opn _ _ _ h1 _ => rw [h1] at hj; cases hj
    | fed _ _ _ _ h1 _ => rw [h1] at hj; cases hj
  cases h with
  | lone h1 h2 _ => have := (h2 j (by omega) hlt).1; rw [hj] at this; cases this
  | opn φ' jn base h1 h2 =>
    rcases Nat.lt_or_ge j base with h3 | h3
    · have := (h2.old j (by omega) h3).1; rw [hj] at this; cases this
    · have := h2.wk (j - base) (by have := h2.size; omega)
      rw [show base + (j - base) = j by omega, hj] at this; cases this
  | fed φ' got base D h1 h2 =>
    rcases Nat.lt_or_ge j base with h3 | h3
    · have := (h2.traced.old j (by omega) h3).1; rw [hj] at this; cases this
    · rcases Nat.lt_or_ge j (base + φ'.n) with h4 | h4
      · have := h2.parts.wk (j - base) (by omega)
        rw [show base + (j - base) = j by omega, hj] at this
        rcases this with ⟨_, _, _, e⟩ | e | ⟨_, _, e⟩ | e
        · cases e
        · cases e
        · cases e; exact ⟨got, base, D, h1, h2, h3, h4⟩
        · cases e
      · have e : j = base + φ'.n := by have := h2.size; omega
        have := h2.parts.fd
        rw [← e, hj] at this
        rcases this with ⟨_, _, e⟩ | ⟨_, e⟩ | e <;> cases e

/-- What the others' last stops suffer by a step that leaves what nobody writes, and where they meet. -/
theorem tails_keep (hI : PhI gs w t γs RO) (hm : MemI Hs RO (γs 0).sync w) (hk : ∀ b, RO b ≠ none ∨ (γs 0).sync b → w'.heap[b]? = w.heap[b]?) {j : Nat} {g : Goroutine} (hg : gs[j]? = some g) :
    ∀ φ k, γs j = .wt φ k → (Hs j).ro φ.pc = some (.cells #[φ.vC] 3) → RW 51 φ.wg φ.pc 1 0 (1 - 1) w w' := by
  intro φ k hj hro
  obtain ⟨got, base, D, h0, _, _⟩ := hI.wt hj hg
  have e1 : w'.heap[φ.wg]? = w.heap[φ.wg]? := hk _ (.inr (by rw [h0]; exact .inr (.inr rfl)))
  refine rw_of (hk _ (.inl ?_)) fun ⟨st, sm, hl⟩ => ⟨st, sm, e1.trans hl⟩
  rw [hm.ro j _ _ hro]; simp

theorem all_gone {φ : Ph} {base : Nat} {D : FedD} {ks got : List Nat} (hp : Parts φ base γs ks got) (hs : Shared φ base w γs D) (hf : (∃ φ', γs (base + φ.n) = .fw φ' .close) ∨ γs (base + φ.n) = .gone) : ∀ i, i < φ.n → γs (base + i) = .gone := by
  have hm := hs.mode
  have h0 : cnt base γs 0 φ.n = 0 ∧ cnt base γs 1 φ.n = 0 ∧ cnt base γs 2 φ.n = 0 := by
    rcases hf with ⟨φ', hf⟩ | hf
    · rw [hf] at hm; exact ⟨hm.1, hm.2.1, hm.2.2.1⟩
    · rw [hf] at hm; exact ⟨hm.1, hm.2.1, hm.2.2.1⟩
  intro i hi
  have c0 := cnt_zero h0.1 i hi
  have c1 := cnt_zero h0.2.1 i hi
  have c2 := cnt_zero h0.2.2 i hi
  rcases hp.wk i hi with ⟨nx, h, _, e⟩ | e | ⟨j, hj, e⟩ | e
  · rw [e] at c0; exact absurd rfl c0
  · rw [e] at c0; exact absurd rfl c0
  · rw [e] at c0 c1 c2
    have : j = 0 ∨ j = 1 ∨ j = 2 ∨ j = 3 ∨ j = 4 := by omega
    rcases this with rfl | rfl | rfl | rfl | rfl
    · exact absurd rfl c0
    · exact absurd rfl c0
    · exact absurd rfl c1
    · exact absurd rfl c1
    · exact absurd rfl c2
  · exact e

theorem Idle.leaves {Sy : Nat → Prop} (h : Idle i γs RO Sy t u) {j : Nat} (hj : (γs j).live = false) : Leaves t u j := by
  intro q hc
  by_cases hji : j = i
  · subst hji
    exact hc.mute (h.cov.resolve_left (by rw [hj]; simp))
  · exact hc.other fun op hop => by rw [h.g op hop]; exact fun e => hji e.symm

/-- THE COMPANY BEHIND SUCH A STEP. -/
theorem PhI.idle {gs' : Array Goroutine} (h : PhI gs w t γs RO) (hid : Idle i γs RO (γs 0).sync t u) (hsz : gs'.size = gs.size)
    (hgs : ∀ j x, gs'[j]? = some x → ∃ y, gs[j]? = some y ∧ (x.status = .blocked → y.status = .blocked) ∧ (j = 0 → y.status = .running → x.status = .running)) (hk : ∀ b, (γs 0).sync b → w'.heap[b]? = w.heap[b]?) : PhI gs' w' (t ++ u) γs RO := by
  cases h with
  | lone h1 h2 h3 =>
    refine .lone h1 (fun j a b => (h2 j a (by omega)).app (hid.leaves (by rw [(h2 j a (by omega)).1]; rfl))) fun x hx => ?_
    obtain ⟨y, hy, _, hr⟩ := hgs 0 x hx
    exact hr rfl (h3 y hy)
  | opn φ jn base h1 h2 =>
    refine .opn φ jn base h1 ⟨h2.ok, hsz.trans h2.size, h2.base1, h2.jle, fun j a b => (h2.old j a b).app (hid.leaves (by rw [(h2.old j a b).1]; rfl)), h2.wk, ?_, ?_, fun x hx => ?_⟩
    · obtain ⟨tm, h⟩ := h2.chT; exact ⟨tm, (hk _ (by rw [h1]; exact .inl rfl)).trans h⟩
    · obtain ⟨tm, h⟩ := h2.chD; exact ⟨tm, (hk _ (by rw [h1]; exact .inr rfl)).trans h⟩
    · obtain ⟨y, hy, _, hr⟩ := hgs 0 x hx
      exact hr rfl (h2.run y hy)
  | fed φ got base D h1 h2 =>
    have s1 : w'.heap[φ.td]? = w.heap[φ.td]? := hk _ (by rw [h1]; exact .inl rfl)
    have s2 : w'.heap[φ.dn]? = w.heap[φ.dn]? := hk _ (by rw [h1]; exact .inr (.inl rfl))
    have s3 : w'.heap[φ.wg]? = w.heap[φ.wg]? := hk _ (by rw [h1]; exact .inr (.inr rfl))
    refine .fed φ got base D h1 ⟨h2.ok, hsz.trans h2.size, h2.base1, h2.parts, ⟨s1.trans h2.shared.chT, s2.trans h2.shared.chD, h2.shared.sr, h2.shared.four, h2.shared.res, s3.trans h2.shared.wg, h2.shared.mode⟩,
      h2.traced.app (fun j a b => hid.leaves (by rw [(h2.traced.old j a b).1]; rfl)) (fun j a b => hid.leaves b) (fun φ' hf j a => hid.leaves (by rw [all_gone h2.parts h2.shared (hf.imp (fun x => ⟨φ', x⟩) id) j a]; rfl)) (fun hf => hid.leaves (by rw [hf]; rfl))
        (fun op hop x hx ad hl hb => absurd (show (γs 0).sync ad.block by rw [h1]; exact .inr (.inr hb)) (hid.sy op hop x hx ad hl)) hid.ro, ?_⟩
    have hW := h2.waiting
    refine ⟨fun x hx hb => ?_, fun j hj x hx hb k hk' => ?_, fun j hj x hx hb hh => ?_, fun x hx hb hf => ?_⟩
    · obtain ⟨y, hy, hyb, _⟩ := hgs 0 x hx
      obtain ⟨a, b, c⟩ := hW.main y hy (hyb hb)
      refine ⟨a, b, fun j hj z hz hzb => ?_⟩
      obtain ⟨y', hy', hyb', _⟩ := hgs _ z hz
      exact c j hj y' hy' (hyb' hzb)
    · obtain ⟨y, hy, hyb, _⟩ := hgs _ x hx
      exact hW.send j hj y hy (hyb hb) k hk'
    · obtain ⟨y, hy, hyb, _⟩ := hgs _ x hx
      obtain ⟨a, b⟩ := hW.recv j hj y hy (hyb hb) hh
      refine ⟨a, fun z hz hzb => ?_⟩
      obtain ⟨y', hy', hyb', _⟩ := hgs _ z hz
      exact b y' hy' (hyb' hzb)
    · obtain ⟨y, hy, hyb, _⟩ := hgs _ x hx
      exact hW.sema y hy (hyb hb) hf

theorem Idle.own_step {H' : Hp} {es : Array Event} {fn : FuncId} {pos : String} (hm : MemI Hs RO (γs 0).sync w) (hlive : (γs i).live = true) (u : Upd (Hs i) H' w w' es) : Idle i γs RO (γs 0).sync t (MemOp.ofEvents i fn pos es) := by
  have hev : ∀ op ∈ MemOp.ofEvents i fn pos es, ∃ e ∈ es, op.act = .ofEvent e := fun op hop => by obtain ⟨e, h1, rfl⟩ := mem_ofEv hop; exact ⟨e, h1, rfl⟩
  refine ⟨fun op hop => by obtain ⟨e, _, rfl⟩ := mem_ofEv hop; rfl, .inl hlive, fun op hop x hx ad hl hs => ?_, fun op hop x hx hwr ad hl => ?_⟩
  · obtain ⟨e, he, ha⟩ := hev op hop
    rw [ha] at hx
    obtain ⟨ad', hl', hc⟩ := (u.evs e he).touch hx
    rw [hl] at hl'; cases hl'
    rcases hc with ⟨h1 | h1, _⟩ | ⟨h1, _⟩
    · exact h1 ((hm.sync _ hs).1 i)
    · have := (hm.sync _ hs).2.2; omega
    · exact hm.roRO h1 (hm.sync _ hs).2.1
  · obtain ⟨e, he, ha⟩ := hev op hop
    rw [ha] at hx
    obtain ⟨ad', hl', hc⟩ := (u.evs e he).touch hx
    rw [hl] at hl'; cases hl'
    rcases hc with ⟨h1 | h1, _⟩ | ⟨_, h1, _⟩
    · exact hm.ownRO i _ h1
    · cases hr : RO ad.block with
      | none => rfl
      | some o => have := hm.roLt (b := ad.block) (by rw [hr]; simp); omega
    · rw [h1] at hwr; cases hwr
end

section
variable {P : Program} {Q : Value → Prop} {w₀ : World} {gs : Array Goroutine} {w : World} {sl : Option (Nat × Nat)} {t : Trace} {Hs : Nat → Hp} {γs : Nat → Gh} {sh : Nat → Sh} {RO : Nat → Option Obj} {i : Nat} {g : Goroutine}

theorem norel_mute {e : Event} (h : e.mute = true) (a : Addr) : MemAct.ofEvent e ≠ .mark (.release a) := by
  obtain ⟨loc, wr, sy⟩ := e
  cases loc <;> simp_all [Event.mute]
  rename_i m
  cases m <;> simp_all [MemAct.ofEvent]

theorem TI.quiet {B : Nat} {es : Array Event} {fn : FuncId} {pos : String} (h : TI Hs t B) (hn : ∀ e ∈ es, (MemAct.ofEvent e).touch? = none) (hr : ∀ e ∈ es, ∀ a, MemAct.ofEvent e ≠ .mark (.release a)) :
    TI (upd Hs i { Hs i with d := deafBehind (Hs i).d es }) (t ++ MemOp.ofEvents i fn pos es) B := by
  have hu : ∀ op ∈ MemOp.ofEvents i fn pos es, op.g = i := fun op hop => by obtain ⟨e, _, rfl⟩ := mem_ofEv hop; rfl
  have hev : ∀ op ∈ MemOp.ofEvents i fn pos es, op.act.touch? = none := fun op hop => by obtain ⟨e, h1, rfl⟩ := mem_ofEv hop; exact hn e h1
  have old : ∀ {k a}, touchAt (t ++ MemOp.ofEvents i fn pos es) k = some a → touchAt t k = some a := fun {k a} ha => by
    rcases touchAt_cases ha with ⟨_, h0⟩ | ⟨_, op, hop, _, hox⟩
    · exact h0
    · rw [hev op hop] at hox; cases hox
  have hown : ∀ j, (upd Hs i { Hs i with d := deafBehind (Hs i).d es } j).own = (Hs j).own := fun j => by
    by_cases hj : j = i
    · subst hj; rw [upd_same]
    · rw [upd_ne Hs _ hj]
  have hro : ∀ j, (upd Hs i { Hs i with d := deafBehind (Hs i).d es } j).ro = (Hs j).ro := fun j => by
    by_cases hj : j = i
    · subst hj; rw [upd_same]
    · rw [upd_ne Hs _ hj]
  refine ⟨fun said => noRace_append (h.clean said) hu fun k a ha op hop b hb hc => (by rw [hev op hop] at hb; cases hb), fun k a ha => h.low k a (old ha), fun j b hj k a x ha hx hxb => (h.own j b (hown j ▸ hj) k a x (old ha) hx hxb).app _,
    fun j b hj k a x ha hw hx hxb => (h.ro j b (hro j ▸ hj) k a x (old ha) hw hx hxb).app _, fun j => ?_, fun op hop a => ?_⟩
  · by_cases hji : j = i
    · subst hji; rw [upd_same, Deaf_own, h.deaf]
    · rw [upd_ne Hs _ hji, Deaf_other t (fun e => hji e.symm) _ hu, h.deaf]
  · rcases Array.mem_append.1 hop with h1 | h1
    · exact h.norel op h1 a
    · obtain ⟨e, h2, rfl⟩ := mem_ofEv h1
      exact hr e h2 a

/-- Those who aren't there yet have done nothing, behind a step of i's. -/
theorem out_own {gs : Array Goroutine} {t : Trace} {j i : Nat} {fn : FuncId} {pos : String} {es : Array Event} (h : ∀ op ∈ t, op.g ≠ j) (hi : i < gs.size) (hj : gs.size ≤ j) : ∀ op ∈ t ++ MemOp.ofEvents i fn pos es, op.g ≠ j := fun op hop => by
  rcases Array.mem_append.1 hop with h1 | h1
  · exact h op h1
  · obtain ⟨e, _, rfl⟩ := mem_ofEv h1
    show i ≠ j
    omega

/-- AN OWN STEP OF A MEMBER's. -/
theorem step_own (hI : Inv P Q w₀ gs w t Hs γs sh RO) (hi : gs[i]? = some g) (hlive : (γs i).live = true) {g' : Goroutine} {w' : World} {es : Array Event} {H' : Hp} {s' : Sh}
    (hst : stepG P (i == 0) g w = .go g' w' es) (hu : Upd (Hs i) H' w w' es) (hlt : Sh.Lt s' (sh i)) (hs : Sits P Q i g' s' H' (γs i) w') (hrun : g'.status = .running) : Steps P Q w₀ gs t sh (runT P (crowd gs w sl) i) := by
  have hil := (Array.getElem?_eq_some_iff.1 hi).1
  have hsz : ((gs.map (woken P g g' w')).setIfInBounds i g').size = gs.size := by simp
  have hid : Idle i γs RO (γs 0).sync t (MemOp.ofEvents i g.frame.fn g.frame.place es) := Idle.own_step hI.mem hlive hu
  have hkeep : ∀ b, RO b ≠ none ∨ (γs 0).sync b → w'.heap[b]? = w.heap[b]? := fun b hb => hI.mem.keeps hu hb
  refine .inr ⟨_, w', sl, _, upd Hs i H', γs, upd sh i s', RO, runT_crowd_go hi hst, ⟨hI.mem.own_step hu, hI.tr.own_step hI.mem.div hu.size hu.evs hu.ro hu.dom hu.deaf, fun j hj => ?_, fun j x hx => ?_, hu.os.trans hI.os, hu.tape.trans hI.tape, hu.output.trans hI.output, hI.keep,
    hI.ph.idle hid hsz (fun j x hx => ?_) fun b hb => hkeep b (.inr hb), by rw [hsz]; exact hI.pos⟩, lt_any hsz hil hlt⟩
  · rw [hsz] at hj
    rw [upd_ne Hs H' (by omega)]; exact ⟨(hI.out j hj).1, out_own (hI.out j hj).2 hil hj⟩
  · rcases get_go hil hx with ⟨rfl, rfl⟩ | ⟨hj, y, hy, rfl⟩
    · rw [upd_same, upd_same]; exact hs
    · rw [upd_ne sh s' hj, upd_ne Hs H' hj]
      have hS := hI.sits j y hy
      exact (hS.woken (w₂ := w)).world fun φ k hγ hro => tails_keep hI.ph hI.mem hkeep hy φ k hγ hro
  · rcases get_go hil hx with ⟨rfl, rfl⟩ | ⟨hj, y, hy, rfl⟩
    · exact ⟨g, hi, fun h => (by rw [hrun] at h; cases h), fun _ _ => hrun⟩
    · have hw := woken_status (P := P) g g' w' y
      exact ⟨y, hy, hw.1, fun _ => hw.2⟩

/-- A step that neither turns the world nor touches anything. -/
theorem step_mute (hI : Inv P Q w₀ gs w t Hs γs sh RO) (hi : gs[i]? = some g) (hi0 : i ≠ 0) {g' : Goroutine} {es : Array Event} {s' : Sh} (hst : stepG P (i == 0) g w = .go g' w es) (hm : ∀ e ∈ es, Event.mute e = true) (hlt : Sh.Lt s' (sh i))
    (hs : Sits P Q i g' s' { Hs i with d := deafBehind (Hs i).d es } (γs i) w) (hrun : g'.status = .running ∨ g'.status = .finished) : Steps P Q w₀ gs t sh (runT P (crowd gs w sl) i) := by
  have hil := (Array.getElem?_eq_some_iff.1 hi).1
  have hsz : ((gs.map (woken P g g' w)).setIfInBounds i g').size = gs.size := by simp
  have hmute : ∀ op ∈ MemOp.ofEvents i g.frame.fn g.frame.place es, op.act.touch? = none := fun op hop => by obtain ⟨e, he, rfl⟩ := mem_ofEv hop; exact touch_mute (hm e he)
  have hid : Idle i γs RO (γs 0).sync t (MemOp.ofEvents i g.frame.fn g.frame.place es) := ⟨fun op hop => by obtain ⟨e, _, rfl⟩ := mem_ofEv hop; rfl, .inr hmute, fun op hop x hx => (by rw [hmute op hop] at hx; cases hx), fun op hop x hx => (by rw [hmute op hop] at hx; cases hx)⟩
  have ho : ∀ j, (upd Hs i { Hs i with d := deafBehind (Hs i).d es } j).own = (Hs j).own := fun j => by
    by_cases hj : j = i
    · subst hj; rw [upd_same]
    · rw [upd_ne Hs _ hj]
  have hr : ∀ j, (upd Hs i { Hs i with d := deafBehind (Hs i).d es } j).ro = (Hs j).ro := fun j => by
    by_cases hj : j = i
    · subst hj; rw [upd_same]
    · rw [upd_ne Hs _ hj]
  refine .inr ⟨_, w, sl, _, upd Hs i { Hs i with d := deafBehind (Hs i).d es }, γs, upd sh i s', RO, runT_crowd_go hi hst, ⟨hI.mem.sync_step ho hr rfl fun _ _ => rfl, hI.tr.quiet (fun e he => touch_mute (hm e he)) (fun e he a => norel_mute (hm e he) a), fun j hj => ?_, fun j x hx => ?_, hI.os, hI.tape, hI.output, hI.keep,
    hI.ph.idle hid hsz (fun j x hx => ?_) fun b _ => rfl, by rw [hsz]; exact hI.pos⟩, lt_any hsz hil hlt⟩
  · rw [hsz] at hj
    rw [upd_ne Hs _ (by omega)]; exact ⟨(hI.out j hj).1, out_own (hI.out j hj).2 hil hj⟩
  · rcases get_go hil hx with ⟨rfl, rfl⟩ | ⟨hj, y, hy, rfl⟩
    · rw [upd_same, upd_same]; exact hs
    · rw [upd_ne sh s' hj, upd_ne Hs _ hj]
      exact (hI.sits j y hy).woken (w₂ := w)
  · rcases get_go hil hx with ⟨rfl, rfl⟩ | ⟨hj, y, hy, rfl⟩
    · exact ⟨g, hi, fun h => (by rcases hrun with e | e <;> rw [e] at h <;> cases h), fun e => absurd e hi0⟩
    · have hw := woken_status (P := P) g g' w y
      exact ⟨y, hy, hw.1, fun _ => hw.2⟩
end
end Go.Sep
