/-
  A goroutine's whole way, from where it stands to its end, as a tree: its own steps, which rest on what it knows of the memory alone, and the steps at which it meets the others. And the rules by which such a tree is read off a function's code. Conditions: none.
-/
import Derived.Test.YtcomjkbfmklfnaaDoorSepA
import Derived.Conc.QuitsD
import Derived.Conc.DeferLaws
import Derived.Conc.Beside
set_option linter.unusedSimpArgs false
set_option linter.unusedVariables false
namespace Go.Sep
open Go.Conc

/-- How goroutines meet: what is asked of one that stands at a meeting of a kind, and how it may go on. 'Γ': what a goroutine knows of its part. -/
structure Proto (Γ κ : Type) where
  At : κ → Bool → Goroutine → Hp → Γ → Prop
  Out : κ → Goroutine → Hp → Γ → Goroutine → Hp → Γ → Prop
  Sp : Hp → Γ → Hp → Γ → Hp → Γ → Prop
  Gs : Hp → Γ → Hp → Γ → Prop
  Gone : Γ → Prop
  Fin : Value → Hp → Γ → Prop

/-- Less is known. -/
structure Less (H H' : Hp) : Prop where
  own : ∀ b o, H'.own b = some o → H.own b = some o
  ro : ∀ b o, H'.ro b = some o → H.ro b = some o
  d : H'.d = H.d

inductive Tree {Γ κ : Type} (P : Program) (Y : Proto Γ κ) : Bool → Goroutine → Hp → Γ → Prop
  | step {main : Bool} {g : Goroutine} {H : Hp} {γ : Γ} (g' : World → Goroutine) (w' : World → World) (es : World → Array Event) (H' : World → Hp) : g.status = .running →
      (∀ w, View H w → stepG P main g w = .go (g' w) (w' w) (es w) ∧ Upd H (H' w) w (w' w) (es w)) → (∀ w, View H w → Tree P Y main (g' w) (H' w) γ) → Tree P Y main g H γ
  | less {main : Bool} {g : Goroutine} {H H' : Hp} {γ : Γ} : Less H H' → Tree P Y main g H' γ → Tree P Y main g H γ
  | ghost {main : Bool} {g : Goroutine} {H H' : Hp} {γ γ' : Γ} : Y.Gs H γ H' γ' → Tree P Y main g H' γ' → Tree P Y main g H γ
  | meet {main : Bool} {g : Goroutine} {H : Hp} {γ : Γ} (k : κ) : Y.At k main g H γ → (∀ g' H' γ', Y.Out k g H γ g' H' γ' → Tree P Y main g' H' γ') → Tree P Y main g H γ
  | spawn {main : Bool} {g : Goroutine} {H : Hp} {γ : Γ} (g' c : Goroutine) (H' Hc : Hp) (γ' γc : Γ) : g.status = .running → (∀ w, View H w → stepG P main g w = .spawn g' c w #[]) →
      Y.Sp H γ H' γ' Hc γc → Tree P Y false c Hc γc → Tree P Y main g' H' γ' → Tree P Y main g H γ
  | leave {g : Goroutine} {H : Hp} {γ : Γ} (n : Nat) : QuitsD P n H.d g → Y.Gone γ → Tree P Y false g H γ
  | done {g : Goroutine} {H : Hp} {γ : Γ} (v : Value) : g.status = .running → (∀ w, View H w → stepG P true g w = .ended (.done v) w #[]) → Y.Fin v H γ → Tree P Y true g H γ

section
variable {Γ κ : Type} {P : Program} {Y : Proto Γ κ} {main : Bool}

theorem Tree.lone {g : Goroutine} {H : Hp} {γ : Γ} (hs : g.status = .running)
    (h : ∀ w, View H w → ∃ g' w' es H', stepG P main g w = .go g' w' es ∧ Upd H H' w w' es ∧ Tree P Y main g' H' γ) : Tree P Y main g H γ := by
  classical
  refine .step (fun w => if hv : View H w then (h w hv).choose else g) (fun w => if hv : View H w then (h w hv).choose_spec.choose else w)
    (fun w => if hv : View H w then (h w hv).choose_spec.choose_spec.choose else #[]) (fun w => if hv : View H w then (h w hv).choose_spec.choose_spec.choose_spec.choose else H) hs (fun w hv => ?_) (fun w hv => ?_)
  · simp only [hv, dif_pos]
    exact ⟨(h w hv).choose_spec.choose_spec.choose_spec.choose_spec.1, (h w hv).choose_spec.choose_spec.choose_spec.choose_spec.2.1⟩
  · simp only [hv, dif_pos]
    exact (h w hv).choose_spec.choose_spec.choose_spec.choose_spec.2.2

/-- A step of control: the same in every world, nothing turned, nothing listed. -/
theorem Tree.ctl {g g' : Goroutine} {H : Hp} {γ : Γ} (hs : g.status = .running) (h : ∀ w, stepG P main g w = .go g' w) (ht : Tree P Y main g' H γ) : Tree P Y main g H γ :=
  .lone hs fun w v => ⟨g', w, #[], H, h w, Upd.refl v, ht⟩

/-! ### the accesses that the trace keeps -/

theorem seenStep_deaf (quiet : FuncId → Bool) (q : Bool) (kept : Array Event) (e : Event) (h : (e.loc = .mark .disable ∨ e.loc = .mark .enable) → e.sync = true) (d : Nat) :
    deafBehind d (seenStep quiet (q, kept) e).2 = deafBehind (deafBehind d kept) #[e] := by
  have push : deafBehind d (kept.push e) = deafBehind (deafBehind d kept) #[e] := by rw [← deafBehind_append]; simp
  have keep : (e.loc ≠ .mark .disable ∧ e.loc ≠ .mark .enable) → deafBehind (deafBehind d kept) #[e] = deafBehind d kept := fun x => Go.ConcR.deafBehind_one x.1 x.2 _
  unfold seenStep
  simp only []
  split
  · rename_i f hf; rw [keep (by rw [hf]; simp)]
  · split
    · rename_i hq
      have hs : e.sync = false := by simp at hq; exact hq.2
      rw [keep ⟨fun x => absurd (h (.inl x)) (by rw [hs]; simp), fun x => absurd (h (.inr x)) (by rw [hs]; simp)⟩]
    · exact push

theorem seen_deaf {P : Program} {fn : FuncId} {es : Array Event} (h : ∀ e ∈ es, (e.loc = .mark .disable ∨ e.loc = .mark .enable) → e.sync = true) (d : Nat) : deafBehind d (seen P fn es) = deafBehind d es := by
  rw [seen_def]
  obtain ⟨l⟩ := es
  have key : ∀ (l : List Event) (qk : Bool × Array Event), (∀ e ∈ l, (e.loc = .mark .disable ∨ e.loc = .mark .enable) → e.sync = true) →
      deafBehind d (l.foldl (seenStep fun f => (P.funcs[f]?).any (·.norace)) qk).2 = deafBehind (deafBehind d qk.2) l.toArray := by
    intro l
    induction l with
    | nil => intro qk _; rfl
    | cons e l ih =>
      intro qk h
      rw [List.foldl_cons, ih _ fun x hx => h x (List.mem_cons_of_mem _ hx), seenStep_deaf _ qk.1 qk.2 e (h e (List.mem_cons_self ..)), ← deafBehind_append, ← deafBehind_append, ← deafBehind_append]
      simp
  exact key l _ (by simpa using h)

theorem EvOk.loud {H : Hp} {lo hi : Nat} {e : Event} (h : EvOk H lo hi e) : (e.loc = .mark .disable ∨ e.loc = .mark .enable) → e.sync = true := by
  cases h <;> simp

theorem Upd.seen {H H' : Hp} {w w' : World} {es : Array Event} (u : Upd H H' w w' es) (fn : FuncId) : Upd H H' w w' (seen P fn es) :=
  ⟨u.view, u.ro, u.size, u.same, u.dom, u.os, u.tape, u.output, fun e he => u.evs e (mem_seen he), by rw [u.deaf, seen_deaf fun e he => (u.evs e he).loud]⟩

/-- What an operation comes to, in every world that holds what the goroutine knows. -/
theorem SemS.op {α : Type} {s : Sem α} {H : Hp} {K : α → Hp → Prop} (h : SemS P s H K) {w : World} (v : View H w) :
    ∃ x w' H', s.run P w = .ok x w' ∧ Upd H H' w w' (s.events P w #[]) ∧ K x H' := by
  obtain ⟨a, w', H', es', hr, hu, hk⟩ := h.sound v #[]
  have h1 : s.run P w = .ok a w' := by rw [← Sem.runT_fst P s w #[], hr]
  have h2 : s.events P w #[] = es' := by unfold Sem.events; rw [hr]; simp
  exact ⟨a, w', H', h1, h2 ▸ hu, hk⟩

/-! ### the rules of code -/

/-- Where the walk goes on behind a piece of code that is left by this way out. -/
def After (P : Program) (Y : Proto Γ κ) (main : Bool) (b : Frame) (k : List Item) (cs : List Frame) : Exit → Act → Hp → Γ → Prop
  | .normal, a, H, γ => Tree P Y main (G (b.at a k) cs) H γ
  | .exit id, a, H, γ => ∃ k', exitTo id k = some k' ∧ Tree P Y main (G (b.at a k') cs) H γ
  | .ret, a, H, γ => ∀ todo, Tree P Y main (G { b.at a todo with mode := .returning } cs) H γ
  | _, _, _, _ => False

theorem After.push {b : Frame} {x : Item} {k : List Item} {cs : List Frame} {e : Exit} {a : Act} {H : Hp} {γ : Γ} (hx : x.plain = true) (he : e ≠ .normal) (h : After P Y main b k cs e a H γ) : After P Y main b (x :: k) cs e a H γ := by
  cases e with
  | normal => exact absurd rfl he
  | exit id =>
    obtain ⟨k', hk, ht⟩ := h
    refine ⟨k', ?_, ht⟩
    cases x <;> simp_all [exitTo, Item.plain]
  | ret => exact h
  | goto l => exact h
  | panic ch => exact h
  | outgrown => exact h

/-- ████ THE JUDGEMENT: run in state a, with H known, this piece of code is left in a way and a state that satisfy Q, WHATEVER STANDS BEHIND IT AND WHOEVER CALLED. ████ -/
def wpT (P : Program) (Y : Proto Γ κ) (main : Bool) (fn : FuncId) (c : Code) (Q : Exit → Act → Hp → Γ → Prop) (a : Act) (H : Hp) (γ : Γ) : Prop :=
  ∀ (b : Frame) (k : List Item) (cs : List Frame), b.fn = fn → b.kind ≠ .early → (∀ e a' H' γ', Q e a' H' γ' → After P Y main b k cs e a' H' γ') → Tree P Y main (G (b.at a (.code c :: k)) cs) H γ

def OpsT (P : Program) (Y : Proto Γ κ) (main : Bool) (fn : FuncId) (ops : Array Oper) (todo : List Nat) (Q : Exit → Act → Hp → Γ → Prop) (a : Act) (H : Hp) (γ : Γ) : Prop :=
  ∀ (b : Frame) (k : List Item) (cs : List Frame), b.fn = fn → b.kind ≠ .early → (∀ e a' H' γ', Q e a' H' γ' → After P Y main b k cs e a' H' γ') → Tree P Y main (G (b.at a (.inRegion ops todo :: k)) cs) H γ

def thenT (next : Act → Hp → Γ → Prop) (Q : Exit → Act → Hp → Γ → Prop) : Exit → Act → Hp → Γ → Prop
  | .normal, a, H, γ => next a H γ
  | e, a, H, γ => Q e a H γ

def inBlockT (id : Nat) (Q : Exit → Act → Hp → Γ → Prop) : Exit → Act → Hp → Γ → Prop
  | .exit id', a, H, γ => if id' = id then Q .normal a H γ else Q (.exit id') a H γ
  | e, a, H, γ => Q e a H γ

section rules
variable {fn : FuncId} {Q Q' : Exit → Act → Hp → Γ → Prop} {a : Act} {H : Hp} {γ : Γ}

theorem wpT_mono {c : Code} (h : wpT P Y main fn c Q a H γ) (hq : ∀ e a H γ, Q e a H γ → Q' e a H γ) : wpT P Y main fn c Q' a H γ :=
  fun b k cs hb hk hc => h b k cs hb hk fun e a' H' γ' q => hc _ _ _ _ (hq _ _ _ _ q)

theorem wpT_skip (h : Q .normal a H γ) : wpT P Y main fn .skip Q a H γ := fun b k cs _ _ hc => .ctl rfl (fun w => stepG_skip) (hc _ _ _ _ h)
theorem wpT_label {l : Nat} (h : Q .normal a H γ) : wpT P Y main fn (.label l) Q a H γ := fun b k cs _ _ hc => .ctl rfl (fun w => stepG_label) (hc _ _ _ _ h)
theorem wpT_ret (h : Q .ret a H γ) : wpT P Y main fn .ret Q a H γ := fun b k cs _ _ hc => .ctl rfl (fun w => stepG_ret') (hc _ _ _ _ h _)
theorem wpT_exit {id : Nat} (h : Q (.exit id) a H γ) : wpT P Y main fn (.exit id) Q a H γ := fun b k cs _ _ hc => by
  obtain ⟨k', hk', ht⟩ := hc _ _ _ _ h
  exact .ctl rfl (fun w => stepG_exit hk') ht

theorem wpT_seq {x y : Code} (h : wpT P Y main fn x (thenT (fun a' H' γ' => wpT P Y main fn y Q a' H' γ') Q) a H γ) : wpT P Y main fn (.seq x y) Q a H γ := by
  intro b k cs hb hk hc
  refine .ctl rfl (fun w => stepG_seq) (h b (.code y :: k) cs hb hk fun e a' H' γ' q => ?_)
  cases e with
  | normal => exact q b k cs hb hk hc
  | exit id => exact (hc _ _ _ _ q).push rfl (by simp)
  | ret => exact (hc _ _ _ _ q).push (x := .code y) rfl (by simp)
  | goto l => exact hc _ _ _ _ q
  | panic ch => exact hc _ _ _ _ q
  | outgrown => exact hc _ _ _ _ q

/-- A cut: what holds between x and y is said once. -/
theorem wpT_seq_mid {x y : Code} (M : Act → Hp → Γ → Prop) (hx : wpT P Y main fn x (thenT M Q) a H γ) (hy : ∀ a' H' γ', M a' H' γ' → wpT P Y main fn y Q a' H' γ') : wpT P Y main fn (.seq x y) Q a H γ :=
  wpT_seq (wpT_mono hx fun e a H γ q => by cases e <;> first | exact hy _ _ _ q | exact q)

theorem wpT_cond {c : Operand} {x y : Code} {t : Bool} (hc : a.eval c = .bool t) (h : wpT P Y main fn (if t then x else y) Q a H γ) : wpT P Y main fn (.cond c x y) Q a H γ :=
  fun b k cs hb hk hq => .ctl rfl (fun w => stepG_cond hc) (h b k cs hb hk hq)

theorem wpT_cond_split {c : Operand} {x y : Code} {t : Bool} (hc : a.eval c = .bool t) (ht : t = true → wpT P Y main fn x Q a H γ) (hf : t = false → wpT P Y main fn y Q a H γ) : wpT P Y main fn (.cond c x y) Q a H γ :=
  wpT_cond hc (by cases t <;> simp_all)

theorem wpT_block {id : Nat} {c : Code} (h : wpT P Y main fn c (inBlockT id Q) a H γ) : wpT P Y main fn (.block id c) Q a H γ := by
  intro b k cs hb hk hc
  refine .ctl rfl (fun w => stepG_block) (h b (.inBlock id :: k) cs hb hk fun e a' H' γ' q => ?_)
  cases e with
  | normal => exact .ctl rfl (fun w => stepG_inBlock) (hc _ _ _ _ q)
  | exit id' =>
    by_cases hid : id' = id
    · simp only [inBlockT, hid, if_true] at q
      exact ⟨k, by simp [exitTo, hid], hc _ _ _ _ q⟩
    · simp only [inBlockT, hid, if_false] at q
      obtain ⟨k', hk', ht⟩ := hc _ _ _ _ q
      have : (id == id') = false := by simp; exact fun h => hid h.symm
      exact ⟨k', by simp [exitTo, this, hk'], ht⟩
  | ret => exact fun todo => hc _ _ _ _ q todo
  | goto l => exact hc _ _ _ _ q
  | panic ch => exact hc _ _ _ _ q
  | outgrown => exact hc _ _ _ _ q

/-- A LOOP: an invariant, and a measure that every round lowers. -/
theorem wpT_loop {c : Code} (I : Act → Hp → Γ → Prop) (μ : Act → Hp → Γ → Nat) (h₀ : I a H γ)
    (round : ∀ a H γ, I a H γ → wpT P Y main fn c (thenT (fun a' H' γ' => I a' H' γ' ∧ μ a' H' γ' < μ a H γ) Q) a H γ) : wpT P Y main fn (.loop c) Q a H γ := by
  intro b k cs hb hk hc
  have key : ∀ n a H γ, μ a H γ = n → I a H γ → Tree P Y main (G (b.at a (.code c :: .inLoop c :: k)) cs) H γ := by
    intro n
    induction n using Nat.strongRecOn with
    | _ n ih =>
      intro a H γ hn hI
      refine round a H γ hI b (.inLoop c :: k) cs hb hk fun e a' H' γ' q => ?_
      cases e with
      | normal => exact .ctl rfl (fun w => stepG_inLoop) (ih _ (by rw [← hn]; exact q.2) a' H' γ' rfl q.1)
      | exit id => exact (hc _ _ _ _ q).push rfl (by simp)
      | ret => exact (hc _ _ _ _ q).push (x := .inLoop c) rfl (by simp)
      | goto l => exact hc _ _ _ _ q
      | panic ch => exact hc _ _ _ _ q
      | outgrown => exact hc _ _ _ _ q
  exact .ctl rfl (fun w => stepG_loop) (key _ a H γ rfl h₀)

theorem wpT_region {id : Nat} {ops : Array Oper} (h : OpsT P Y main fn ops (List.range ops.size) Q a H γ) : wpT P Y main fn (.region id ops false) Q a H γ :=
  fun b k cs hb hk hc => .ctl rfl (fun w => stepG_region) (h b k cs hb hk hc)

theorem opsT_nil {ops : Array Oper} (h : Q .normal a H γ) : OpsT P Y main fn ops [] Q a H γ := fun b k cs _ _ hc => .ctl rfl (fun w => stepG_region_end) (hc _ _ _ _ h)

theorem opsT_unwanted {ops : Array Oper} {i : Nat} {rest : List Nat} {o : Oper} (ho : ops[i]? = some o) (hw : Region.wanted o (yielded ops a.tmps) = false)
    (h : OpsT P Y main fn ops rest Q (a.put o.dst undef) H γ) : OpsT P Y main fn ops (i :: rest) Q a H γ :=
  fun b k cs hb hk hc => .ctl rfl (fun w => stepG_unwanted ho hw) (h b k cs hb hk hc)

/-- Less is known from here on. -/
theorem wpT_less {c : Code} {H' : Hp} (hl : Less H H') (h : wpT P Y main fn c Q a H' γ) : wpT P Y main fn c Q a H γ := fun b k cs hb hk hc => .less hl (h b k cs hb hk hc)
theorem opsT_less {ops : Array Oper} {todo : List Nat} {H' : Hp} (hl : Less H H') (h : OpsT P Y main fn ops todo Q a H' γ) : OpsT P Y main fn ops todo Q a H γ := fun b k cs hb hk hc => .less hl (h b k cs hb hk hc)

/-! ### the results, and the deferred calls of a function that returns -/

/-- The deferred calls (each an entry of the model's), made one by one. -/
def Unw (P : Program) : List Deferred → Hp → (Hp → Prop) → Prop
  | [], H, K => K H
  | d :: ds, H, K => (match d.target with | .collected _ => False | .nil => False | _ => True) ∧ SemS P (invoke d.target d.args) H fun nx H' => (∃ v, nx = .value v) ∧ Unw P ds H' K

/-- What the body of a callee must achieve. -/
def bodyPostT (P : Program) (fn : Func) (Post : Value → Hp → Γ → Prop) : Exit → Act → Hp → Γ → Prop
  | .normal, a, H, γ | .ret, a, H, γ => Unw P a.defers H fun H' => ∃ v, ResultsC P fn a.tmps v ∧ Post v H' γ
  | _, _, _, _ => False

/-- ████ A CONTRACT. ████ -/
def CallsT (P : Program) (Y : Proto Γ κ) (main : Bool) (f : FuncId) (args : Array Value) (H : Hp) (γ : Γ) (Post : Value → Hp → Γ → Prop) : Prop :=
  ∃ fn c, P.funcs[f]? = some fn ∧ fn.body = some c ∧
    wpT P Y main f c (bodyPostT P fn Post) { tmps := args ++ Array.replicate (fn.ntmps - args.size) undef, defers := [] } H γ

theorem Unw_mono {K K' : Hp → Prop} (hk : ∀ H, K H → K' H) : ∀ (ds : List Deferred) (H : Hp), Unw P ds H K → Unw P ds H K'
  | [], H, h => hk H h
  | d :: ds, H, h => ⟨h.1, h.2.mono fun nx H' x => ⟨x.1, Unw_mono hk ds H' x.2⟩⟩

theorem CallsT.mono {f : FuncId} {args : Array Value} {Post Post' : Value → Hp → Γ → Prop} (h : CallsT P Y main f args H γ Post) (hp : ∀ v H γ, Post v H γ → Post' v H γ) : CallsT P Y main f args H γ Post' := by
  obtain ⟨fn, c, hf, hb, hw⟩ := h
  refine ⟨fn, c, hf, hb, wpT_mono hw fun e a H γ q => ?_⟩
  cases e <;> first | exact Unw_mono (fun H' ⟨v, r, p⟩ => ⟨v, r, hp _ _ _ p⟩) _ _ q | exact q

/-- The frame's deferred calls, one by one, and then what follows. -/
theorem Tree.unwinds {b : Frame} {cs : List Frame} {todo : List Item} {γ : Γ} : ∀ (ds : List Deferred) (tmps : Array Value) (H : Hp) (K : Hp → Prop), Unw P ds H K →
    (∀ H', K H' → Tree P Y main (G { b.at ⟨tmps, []⟩ todo with mode := .returning } cs) H' γ) → Tree P Y main (G { b.at ⟨tmps, ds⟩ todo with mode := .returning } cs) H γ
  | [], tmps, H, K, h, ht => ht H h
  | d :: ds, tmps, H, K, h, ht => by
    refine .lone rfl fun w v => ?_
    obtain ⟨hd, h⟩ := h
    obtain ⟨x, w', H', hr, hu, ⟨y, rfl⟩, hk⟩ := h.op v
    refine ⟨G { b.at ⟨tmps, ds⟩ todo with mode := .returning } cs, w', seen P b.fn ((invoke d.target d.args).events P w #[]), H', ?_, hu.seen b.fn, Tree.unwinds ds tmps H' K hk ht⟩
    obtain ⟨tg, args⟩ := d
    cases tg <;> first
      | exact hd.elim
      | simp [G, stepG, Go.unwind, callDeferred, Frame.at, hr, GStep.after]

end rules
end
end Go.Sep
