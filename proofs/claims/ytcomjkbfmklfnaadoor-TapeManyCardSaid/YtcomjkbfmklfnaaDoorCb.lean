/-
  What the trace keeps for a company whose goroutines each own blocks, read blocks that nobody writes, and meet at blocks that are touched atomically alone. Conditions: none.
-/
import Derived.Test.YtcomjkbfmklfnaaDoorCa
import Derived.Conc.CrowdTrace
import Derived.Conc.Beside
set_option linter.unusedSimpArgs false
set_option linter.unusedVariables false
namespace Go.Sep
open Go.Conc

/-- All that goroutine j has touched, as far as it counts, lies Before q. -/
def Cov (t : Trace) (j q : Nat) : Prop := ∀ i, t.g? i = some j → t.counts i → Before t i q

theorem touchAt_cases {t u : Trace} {i : Nat} {a : Touch} (h : touchAt (t ++ u) i = some a) : (i < t.size ∧ touchAt t i = some a) ∨ (t.size ≤ i ∧ ∃ op ∈ u, (t ++ u)[i]? = some op ∧ op.act.touch? = some a) := by
  obtain ⟨x, hx, hxa⟩ := touch_of h
  rcases getElem?_append_cases hx with ⟨hi, hx'⟩ | ⟨hi, hxu⟩
  · exact .inl ⟨hi, by rw [touchAt_of hx']; exact hxa⟩
  · exact .inr ⟨hi, x, hxu, hx, hxa⟩

theorem Cov.app {t u : Trace} {j q : Nat} (h : Cov t j q) (hu : ∀ i, t.size ≤ i → (t ++ u).g? i = some j → ¬ (t ++ u).counts i) : Cov (t ++ u) j q := by
  intro i hg hc
  rcases Nat.lt_or_ge i t.size with hi | hi
  · exact (h i (by rw [← g?_old (u := u) hi]; exact hg) ((counts_old hi).1 hc)).app u
  · exact absurd hc (hu i hi hg)
/-- What is appended touches nothing. -/
theorem Cov.mute {t u : Trace} {j q : Nat} (h : Cov t j q) (hu : ∀ op ∈ u, op.act.touch? = none) : Cov (t ++ u) j q := by
  refine h.app fun i hi _ hc => ?_
  obtain ⟨x, hx, _⟩ := hc
  obtain ⟨op, hop, hox⟩ := touch_of hx
  rcases getElem?_append_cases hop with ⟨hi', _⟩ | ⟨_, hm⟩
  · omega
  · rw [hu op hm] at hox; cases hox
/-- What is appended is others'. -/
theorem Cov.other {t u : Trace} {j q : Nat} (h : Cov t j q) (hu : ∀ op ∈ u, op.g ≠ j) : Cov (t ++ u) j q := by
  refine h.app fun i hi hg _ => ?_
  obtain ⟨op, hop, ho⟩ := Option.map_eq_some_iff.1 hg
  rcases getElem?_append_cases hop with ⟨hi', _⟩ | ⟨_, hm⟩
  · omega
  · exact hu op hm ho
theorem Cov.trans {t : Trace} {j p q : Nat} (h : Cov t j p) (hb : Before t p q) : Cov t j q := fun i hg hc => (h i hg hc).trans hb

/-- Whatever j has touched lies Before the operation that it appends. -/
theorem Cov.new {t u : Trace} {j k : Nat} {y : MemOp} (hk : (t ++ u)[t.size + k]? = some y) (hy : y.g = j) (hu : ∀ op ∈ u, op.act.touch? = none) : Cov (t ++ u) j (t.size + k) := by
  intro i hg hc
  rcases Nat.lt_or_ge i t.size with hi | hi
  · obtain ⟨x, hx, hgx⟩ := Option.map_eq_some_iff.1 hg
    exact .inr (hb_po (by omega) hx hk (hgx.trans hy.symm))
  · obtain ⟨x, hx, _⟩ := hc
    obtain ⟨op, hop, hox⟩ := touch_of hx
    rcases getElem?_append_cases hop with ⟨hi', _⟩ | ⟨_, hm⟩
    · omega
    · rw [hu op hm] at hox; cases hox

theorem mem_ofEv {g : Nat} {fn : FuncId} {pos : String} {es : Array Event} {op : MemOp} (h : op ∈ MemOp.ofEvents g fn pos es) : ∃ e ∈ es, op = { g, fn, pos, act := .ofEvent e } := by
  rw [ofEvents_eq] at h
  obtain ⟨e, he, rfl⟩ := Array.mem_map.1 h
  exact ⟨e, he, rfl⟩

structure TI (Hs : Nat → Hp) (t : Trace) (B : Nat) : Prop where
  clean : ∀ said, ¬ Race said t
  low : ∀ i a, touchAt t i = some a → a.loc.isMemory = true → (∃ x, a.loc = .cell x ∧ x.block < B) ∨ ((∃ c, a.loc = .obj c) ∧ a.write = false)
  own : ∀ j b, (Hs j).own b ≠ none → ∀ i a x, touchAt t i = some a → a.loc = .cell x → x.block = b → Knows t j i
  ro : ∀ j b, (Hs j).ro b ≠ none → ∀ i a x, touchAt t i = some a → a.write = true → a.loc = .cell x → x.block = b → Knows t j i
  deaf : ∀ j, Deaf t j = (Hs j).d
  norel : ∀ op ∈ t, ∀ a, op.act ≠ .mark (.release a)

/-- What every goroutine may rely on lies below the world's size, apart from what the others own. -/
structure Div (Hs : Nat → Hp) (B : Nat) : Prop where
  ownLt : ∀ j b, (Hs j).own b ≠ none → b < B
  roLt : ∀ j b, (Hs j).ro b ≠ none → b < B
  own : ∀ i j b, i ≠ j → (Hs i).own b ≠ none → (Hs j).own b = none
  ro : ∀ i j b, (Hs i).own b ≠ none → (Hs j).ro b = none

def upd {α : Type _} (f : Nat → α) (i : Nat) (x : α) : Nat → α := fun j => if j = i then x else f j
theorem upd_same {α : Type _} (f : Nat → α) (i : Nat) (x : α) : upd f i x i = x := by simp [upd]
theorem upd_ne {α : Type _} (f : Nat → α) {i j : Nat} (x : α) (h : j ≠ i) : upd f i x j = f j := by simp [upd, h]
theorem upd_self {α : Type _} (f : Nat → α) (i : Nat) : upd f i (f i) = f := by funext j; unfold upd; split <;> simp_all

theorem EvOk.touch {H : Hp} {lo hi : Nat} {e : Event} (h : EvOk H lo hi e) {x : Touch} (hx : (MemAct.ofEvent e).touch? = some x) :
    ∃ ad : Addr, x.loc = .cell ad ∧ (((H.own ad.block ≠ none ∨ lo ≤ ad.block) ∧ ad.block < hi) ∨ (H.ro ad.block ≠ none ∧ x.write = false ∧ x.kind = .plain)) := by
  cases h with
  | mine a wr sy h1 h2 => simp only [MemAct.ofEvent, MemAct.touch?, Option.some.injEq] at hx; subst hx; exact ⟨a, rfl, .inl ⟨h1, h2⟩⟩
  | shared a h1 => simp only [MemAct.ofEvent, MemAct.touch?, Option.some.injEq] at hx; subst hx; exact ⟨a, rfl, .inr ⟨h1, rfl, rfl⟩⟩
  | saidR a h1 h2 => simp only [MemAct.ofEvent, MemAct.touch?, Option.some.injEq] at hx; subst hx; exact ⟨a, rfl, .inl ⟨h1, h2⟩⟩
  | disable => simp [MemAct.ofEvent, MemAct.touch?] at hx
  | enable => simp [MemAct.ofEvent, MemAct.touch?] at hx
  | extern f => simp [MemAct.ofEvent, MemAct.touch?] at hx
  | noRoom => simp [MemAct.ofEvent, MemAct.touch?] at hx

theorem EvOk.norel {H : Hp} {lo hi : Nat} {e : Event} (h : EvOk H lo hi e) (a : Addr) : MemAct.ofEvent e ≠ .mark (.release a) := by
  cases h <;> simp [MemAct.ofEvent]

theorem TI.lowC {Hs : Nat → Hp} {t : Trace} {B : Nat} (h : TI Hs t B) {i : Nat} {a : Touch} {ad : Addr} (ha : touchAt t i = some a) (hl : a.loc = .cell ad) : ∃ x, a.loc = .cell x ∧ x.block < B := by
  rcases h.low i a ha (by rw [hl]; rfl) with h1 | ⟨⟨c, h1⟩, _⟩
  · exact h1
  · rw [hl] at h1; cases h1

/-- AN OWN STEP. -/
theorem TI.own_step {Hs : Nat → Hp} {t : Trace} {i lo hi : Nat} {H' : Hp} {es : Array Event} {fn : FuncId} {pos : String} (h : TI Hs t lo) (hd : Div Hs lo) (hlo : lo ≤ hi) (he : ∀ e ∈ es, EvOk (Hs i) lo hi e)
    (hro : H'.ro = (Hs i).ro) (hdom : ∀ b, H'.own b ≠ none → (Hs i).own b ≠ none ∨ lo ≤ b) (hdeaf : H'.d = deafBehind (Hs i).d es) : TI (upd Hs i H') (t ++ MemOp.ofEvents i fn pos es) hi := by
  have hu : ∀ op ∈ MemOp.ofEvents i fn pos es, op.g = i := fun op hop => by obtain ⟨e, _, rfl⟩ := mem_ofEv hop; rfl
  have hev : ∀ op ∈ MemOp.ofEvents i fn pos es, ∃ e ∈ es, op.act = .ofEvent e := fun op hop => by obtain ⟨e, h1, rfl⟩ := mem_ofEv hop; exact ⟨e, h1, rfl⟩
  have hnew : ∀ op ∈ MemOp.ofEvents i fn pos es, ∀ x, op.act.touch? = some x → ∃ ad : Addr, x.loc = .cell ad ∧ ((((Hs i).own ad.block ≠ none ∨ lo ≤ ad.block) ∧ ad.block < hi) ∨ ((Hs i).ro ad.block ≠ none ∧ x.write = false ∧ x.kind = .plain)) := fun op hop x hx => by
    obtain ⟨e, h1, h2⟩ := hev op hop
    rw [h2] at hx
    exact (he e h1).touch hx
  refine ⟨fun said => noRace_append (h.clean said) hu fun k a ha op hop b hb hc => ?_, fun k a ha hm => ?_, fun j b hj k a x ha hx hxb => ?_, fun j b hj k a x ha hw hx hxb => ?_, fun j => ?_, fun op hop a => ?_⟩
  · obtain ⟨ad, hl, hcase⟩ := hnew op hop b hb
    have hal : a.loc = .cell ad := hc.1.trans hl
    rcases hcase with ⟨h1 | h1, _⟩ | ⟨h1, h2, _⟩
    · exact h.own i _ h1 k a ad ha hal rfl
    · obtain ⟨x, hx, hxl⟩ := h.lowC ha hal
      rw [hal] at hx; cases hx; omega
    · exact h.ro i _ h1 k a ad ha (hc.2.2.1.resolve_right (by simp [h2])) hal rfl
  · rcases touchAt_cases ha with ⟨_, h0⟩ | ⟨_, op, hop, _, hox⟩
    · rcases h.low k a h0 hm with ⟨x, h1, h2⟩ | h1
      · exact .inl ⟨x, h1, by omega⟩
      · exact .inr h1
    · obtain ⟨ad, hl, hcase⟩ := hnew op hop a hox
      refine .inl ⟨ad, hl, ?_⟩
      rcases hcase with ⟨_, h1⟩ | ⟨h1, _⟩
      · exact h1
      · have := hd.roLt i _ h1; omega
  · rcases touchAt_cases ha with ⟨_, h0⟩ | ⟨_, op, hop, hg, hox⟩
    · by_cases hji : j = i
      · subst hji
        rw [upd_same] at hj
        rcases hdom b hj with h1 | h1
        · exact (h.own j b h1 k a x h0 hx hxb).app _
        · obtain ⟨y, hy, hyl⟩ := h.lowC h0 hx
          rw [hx] at hy; cases hy; omega
      · rw [upd_ne Hs H' hji] at hj
        exact (h.own j b hj k a x h0 hx hxb).app _
    · have hk := knows_own hg
      rw [hu op hop] at hk
      by_cases hji : j = i
      · subst hji; exact hk
      · rw [upd_ne Hs H' hji] at hj
        obtain ⟨ad, hl, hcase⟩ := hnew op hop a hox
        rw [hx] at hl; cases hl
        rcases hcase with ⟨h1 | h1, _⟩ | ⟨h1, _⟩
        · exact absurd (hd.own i j _ (Ne.symm hji) h1) (hxb ▸ hj)
        · have := hd.ownLt j b hj; omega
        · exact absurd (hd.ro j i _ (hxb ▸ hj)) h1
  · have hj' : (Hs j).ro b ≠ none := by
      by_cases hji : j = i
      · subst hji; rw [upd_same, hro] at hj; exact hj
      · rw [upd_ne Hs H' hji] at hj; exact hj
    rcases touchAt_cases ha with ⟨_, h0⟩ | ⟨_, op, hop, hg, hox⟩
    · exact (h.ro j b hj' k a x h0 hw hx hxb).app _
    · obtain ⟨ad, hl, hcase⟩ := hnew op hop a hox
      rw [hx] at hl; cases hl
      rcases hcase with ⟨h1 | h1, _⟩ | ⟨_, h1, _⟩
      · exact absurd (hd.ro i j _ h1) (hxb ▸ hj')
      · have := hd.roLt j b hj'; omega
      · rw [h1] at hw; cases hw
  · by_cases hji : j = i
    · subst hji; rw [upd_same, Deaf_own, h.deaf, hdeaf]
    · rw [upd_ne Hs H' hji, Deaf_other t (fun e => hji e.symm) _ hu, h.deaf]
  · rcases Array.mem_append.1 hop with h1 | h1
    · exact h.norel op h1 a
    · obtain ⟨e, h2, h3⟩ := hev op h1
      rw [h3]; exact (he e h2).norel a

/-- WHAT IS APPENDED TOUCHES NOTHING: a communication; a go statement. -/
theorem TI.mute {Hs : Nat → Hp} {t u : Trace} {B : Nat} (h : TI Hs t B) (hu : ∀ op ∈ u, op.act.touch? = none) (hd : ∀ op ∈ u, op.act ≠ .mark .disable ∧ op.act ≠ .mark .enable) (hr : ∀ op ∈ u, ∀ a, op.act ≠ .mark (.release a)) : TI Hs (t ++ u) B := by
  have old : ∀ {k a}, touchAt (t ++ u) k = some a → touchAt t k = some a := fun {k a} ha => by
    rcases touchAt_cases ha with ⟨_, h0⟩ | ⟨_, op, hop, _, hox⟩
    · exact h0
    · rw [hu op hop] at hox; cases hox
  refine ⟨fun said => ?_, fun k a ha => h.low k a (old ha), fun j b hj k a x ha hx hxb => (h.own j b hj k a x (old ha) hx hxb).app u, fun j b hj k a x ha hw hx hxb => (h.ro j b hj k a x (old ha) hw hx hxb).app u, fun j => ?_, fun op hop a => ?_⟩
  · rintro ⟨i, j, hij, ⟨a, b, ha, hb, hc⟩, n1, n2⟩
    have ha' := old ha
    have hb' := old hb
    exact h.clean said ⟨i, j, hij, ⟨a, b, ha', hb', hc⟩, fun e => n1 (hb_app u e), fun e => n2 (hb_app u e)⟩
  · rw [← h.deaf j]
    obtain ⟨l⟩ := u
    rw [Deaf_append]
    have key : ∀ (l : List MemOp) (d : Nat), (∀ op ∈ l, op.act ≠ .mark .disable ∧ op.act ≠ .mark .enable) → l.foldl (deafStep j) d = d := by
      intro l
      induction l with
      | nil => intro d _; rfl
      | cons y l ih =>
        intro d hl
        rw [List.foldl_cons]
        have : deafStep j d y = d := by
          unfold deafStep
          split
          · rename_i e; exact absurd e (hl y (by simp)).1
          · rename_i e; exact absurd e (hl y (by simp)).2
          · rfl
        rw [this]
        exact ih d fun op hop => hl op (List.mem_cons_of_mem _ hop)
    exact key l _ (by simpa using hd)
  · rcases Array.mem_append.1 hop with h1 | h1
    · exact h.norel op h1 a
    · exact hr op h1 a

/-- WHAT IS APPENDED READS OBJECTS ALONE: a close. -/
theorem TI.soft {Hs : Nat → Hp} {t u : Trace} {B i : Nat} (h : TI Hs t B) (hg : ∀ op ∈ u, op.g = i) (hu : ∀ op ∈ u, ∀ x, op.act.touch? = some x → (∃ c, x.loc = .obj c) ∧ x.write = false) (hd : ∀ op ∈ u, op.act ≠ .mark .disable ∧ op.act ≠ .mark .enable) (hr : ∀ op ∈ u, ∀ a, op.act ≠ .mark (.release a)) : TI Hs (t ++ u) B := by
  have old : ∀ {k a x}, touchAt (t ++ u) k = some a → a.loc = .cell x → touchAt t k = some a := fun {k a x} ha hl => by
    rcases touchAt_cases ha with ⟨_, h0⟩ | ⟨_, op, hop, _, hox⟩
    · exact h0
    · obtain ⟨⟨c, hc⟩, _⟩ := hu op hop a hox
      rw [hl] at hc; cases hc
  refine ⟨fun said => noRace_append (h.clean said) hg fun k a ha op hop b hb hc => ?_, fun k a ha hm => ?_, fun j b hj k a x ha hx hxb => (h.own j b hj k a x (old ha hx) hx hxb).app u, fun j b hj k a x ha hw hx hxb => (h.ro j b hj k a x (old ha hx) hw hx hxb).app u, fun j => ?_, fun op hop a => ?_⟩
  · obtain ⟨⟨c, h1⟩, h2⟩ := hu op hop b hb
    have hl : a.loc = .obj c := hc.1.trans h1
    rcases h.low k a ha (by rw [hl]; rfl) with ⟨x, h3, _⟩ | ⟨_, h3⟩
    · rw [hl] at h3; cases h3
    · rcases hc.2.2.1 with h4 | h4
      · rw [h3] at h4; cases h4
      · rw [h2] at h4; cases h4
  · rcases touchAt_cases ha with ⟨_, h0⟩ | ⟨_, op, hop, _, hox⟩
    · exact h.low k a h0 hm
    · exact .inr (hu op hop a hox)
  · rw [← h.deaf j]
    obtain ⟨l⟩ := u
    rw [Deaf_append]
    have key : ∀ (l : List MemOp) (d : Nat), (∀ op ∈ l, op.act ≠ .mark .disable ∧ op.act ≠ .mark .enable) → l.foldl (deafStep j) d = d := by
      intro l
      induction l with
      | nil => intro d _; rfl
      | cons y l ih =>
        intro d hl
        rw [List.foldl_cons]
        have : deafStep j d y = d := by
          unfold deafStep
          split
          · rename_i e; exact absurd e (hl y (by simp)).1
          · rename_i e; exact absurd e (hl y (by simp)).2
          · rfl
        rw [this]
        exact ih d fun op hop => hl op (List.mem_cons_of_mem _ hop)
    exact key l _ (by simpa using hd)
  · rcases Array.mem_append.1 hop with h1 | h1
    · exact h.norel op h1 a
    · exact hr op h1 a

/-- Less is relied upon, or what was one's own is only read from now on. -/
theorem TI.weaken {Hs Hs' : Nat → Hp} {t : Trace} {B : Nat} (h : TI Hs t B) (ho : ∀ j b, (Hs' j).own b ≠ none → (Hs j).own b ≠ none) (hr : ∀ j b, (Hs' j).ro b ≠ none → (Hs j).ro b ≠ none ∨ (Hs j).own b ≠ none ∨
      ∀ i a x, touchAt t i = some a → a.write = true → a.loc = .cell x → x.block = b → Knows t j i) (hd : ∀ j, (Hs' j).d = (Hs j).d) : TI Hs' t B :=
  ⟨h.clean, h.low, fun j b hj => h.own j b (ho j b hj), fun j b hj i a x ha hw hx hxb => (hr j b hj).elim (fun y => h.ro j b y i a x ha hw hx hxb) fun y => y.elim (fun z => h.own j b z i a x ha hx hxb) fun z => z i a x ha hw hx hxb,
    fun j => by rw [hd]; exact h.deaf j, h.norel⟩

/-! ### positions of what is appended; who hears -/

theorem deaf_within {t u : Trace} {g : Nat} (hd : ∀ op ∈ u, op.act ≠ .mark .disable ∧ op.act ≠ .mark .enable) : ∀ k, k ≤ u.size → (t ++ u).deaf g (t.size + k) = Deaf t g
  | 0, _ => by rw [Nat.add_zero, deaf_old (Nat.le_refl _)]; rfl
  | k + 1, hk => by
    have hlt : t.size + k < (t ++ u).size := by simp; omega
    have hy := Array.getElem?_eq_getElem hlt
    rw [← Nat.add_assoc, deaf_succ hy, deaf_within hd k (by omega)]
    have hm : (t ++ u)[t.size + k] ∈ u := by
      rcases getElem?_append_cases hy with ⟨h, _⟩ | ⟨_, h⟩
      · omega
      · exact h
    unfold deafStep
    split
    · rename_i e; exact absurd e (hd _ hm).1
    · rename_i e; exact absurd e (hd _ hm).2
    · rfl

theorem heard_new {t u : Trace} {k : Nat} {y : MemOp} (hd : ∀ op ∈ u, op.act ≠ .mark .disable ∧ op.act ≠ .mark .enable) (hy : (t ++ u)[t.size + k]? = some y) (h0 : Deaf t y.g = 0) : (t ++ u).heard (t.size + k) := by
  have hlt := lt_size_of_getElem? hy
  rw [Array.size_append] at hlt
  exact ⟨y.g, by simp [Trace.g?, hy], by rw [deaf_within hd k (by omega)]; exact h0⟩

theorem at_new {t u : Trace} {k : Nat} {y : MemOp} (h : u[k]? = some y) : (t ++ u)[t.size + k]? = some y := by
  rw [Array.getElem?_append_right (by omega)]; simpa using h

theorem knows_edge {t : Trace} {i p q : Nat} {y : MemOp} (hb : Before t i p) (e : HappensBefore t p q) (hq : t[q]? = some y) : Knows t y.g i := ⟨q, y, hq, rfl, .inr (hb.hb e)⟩

/-- What is said over a channel, at place p, and taken at place q. -/
theorem edge_send {t : Trace} {c k p q : Nat} (hp : t.act? p = some (.send c k)) (hq : t.act? q = some (.recvDone c k)) (h1 : t.heard p) (h2 : t.heard q) : HappensBefore t p q := .single (.inr ⟨.handOver hp hq, h1, h2⟩)
theorem edge_close {t : Trace} {c p q : Nat} (hp : t.act? p = some (.close c)) (hq : t.act? q = some (.recvClosed c)) (h1 : t.heard p) (h2 : t.heard q) : HappensBefore t p q := .single (.inr ⟨.closed hp hq, h1, h2⟩)
theorem edge_merge {t : Trace} {a : Addr} {p q : Nat} (hpq : p < q) (hp : t.act? p = some (.mark (.releaseMerge a))) (hq : t.act? q = some (.mark (.acquire a))) (hn : ∀ op ∈ t, ∀ a, op.act ≠ .mark (.release a)) (h1 : t.heard p) (h2 : t.heard q) : HappensBefore t p q :=
  .single (.inr ⟨.marked hpq (.inr hp) hq (fun k _ _ e => by
    obtain ⟨op, ho, hoa⟩ := Option.map_eq_some_iff.1 e
    exact hn op (mem_of_getElem? ho) a hoa), h1, h2⟩)

theorem TI.handed {t : Trace} (h : ∀ j, j ≠ 0 → ∃ q, Cov t j q ∧ Knows t 0 q) : ∀ i g, t.g? i = some g → g ≠ 0 → t.counts i → Knows t 0 i := fun i g hg hne hc => by
  obtain ⟨q, h1, h2⟩ := h g hne
  exact Knows.of_before (h1 i hg hc) h2

end Go.Sep
