/-
  A goroutine's operations reckoned over the blocks that it owns and the blocks that nobody writes: whatever the other goroutines have done to the rest of the memory, the operation ends, and it touches only those blocks. Conditions: none.
-/
import Derived.Conc.CompanyMem
import Derived.Conc.Listed
import Derived.Laws.Rows
set_option linter.unusedSimpArgs false
set_option linter.unusedVariables false
namespace Go.Sep
open Go.Conc

/-- What one goroutine may rely on: 'own': blocks that are its alone, with what they hold; 'ro': blocks that nobody writes any more, with what they hold; 'd': how many 'disable's of its stand open. -/
structure Hp where
  own : Nat → Option Obj
  ro : Nat → Option Obj
  d : Nat

def Hp.look (H : Hp) (b : Nat) : Option Obj := match H.own b with | some o => some o | none => H.ro b

def Hp.set (H : Hp) (b : Nat) (o : Obj) : Hp := { H with own := fun b' => if b' = b then some o else H.own b' }

structure View (H : Hp) (w : World) : Prop where
  own : ∀ b o, H.own b = some o → w.heap[b]? = some o
  ro : ∀ b o, H.ro b = some o → w.heap[b]? = some o
  apart : ∀ b, H.own b ≠ none → H.ro b = none

theorem View.look {H : Hp} {w : World} (v : View H w) {b : Nat} {o : Obj} (h : H.look b = some o) : w.heap[b]? = some o := by
  unfold Hp.look at h
  cases ho : H.own b with
  | none => rw [ho] at h; exact v.ro _ _ h
  | some o' => rw [ho] at h; cases h; exact v.own _ _ ho

theorem lt_of_heap {w : World} {b : Nat} {o : Obj} (h : w.heap[b]? = some o) : b < w.heap.size := by
  rcases Nat.lt_or_ge b w.heap.size with h' | h'
  · exact h'
  · rw [Array.getElem?_eq_none h'] at h; cases h

/-- What a step of a goroutine's own may list: a plain or atomic access of a cell of a block of its own or of a new one; a plain read of a block that nobody writes; the library's words 'read' and 'write' on a block of its own; 'disable', 'enable'; 'no room'. -/
inductive EvOk (H : Hp) (lo hi : Nat) : Event → Prop
  | mine (a : Addr) (wr sy : Bool) : (H.own a.block ≠ none ∨ lo ≤ a.block) → a.block < hi → EvOk H lo hi ⟨.cell a, wr, sy⟩
  | shared (a : Addr) : H.ro a.block ≠ none → EvOk H lo hi ⟨.cell a, false, false⟩
  | saidR (a : Addr) : (H.own a.block ≠ none ∨ lo ≤ a.block) → a.block < hi → EvOk H lo hi ⟨.mark (.read a), false, true⟩
  | disable : EvOk H lo hi ⟨.mark .disable, false, true⟩
  | enable : EvOk H lo hi ⟨.mark .enable, false, true⟩
  | extern (f : FuncId) : EvOk H lo hi ⟨.mark (.extern f), false, true⟩
  | noRoom : EvOk H lo hi ⟨.mark .noRoom, false, true⟩

structure Upd (H H' : Hp) (w w' : World) (es : Array Event) : Prop where
  view : View H' w'
  ro : H'.ro = H.ro
  size : w.heap.size ≤ w'.heap.size
  same : ∀ b, b < w.heap.size → H.own b = none → w'.heap[b]? = w.heap[b]?
  dom : ∀ b, H'.own b ≠ none → H.own b ≠ none ∨ w.heap.size ≤ b
  os : w'.os = w.os
  tape : w'.tape = w.tape
  output : w'.output = w.output
  evs : ∀ e ∈ es, EvOk H w.heap.size w'.heap.size e
  deaf : H'.d = deafBehind H.d es

theorem Upd.refl {H : Hp} {w : World} (v : View H w) : Upd H H w w #[] :=
  ⟨v, rfl, Nat.le_refl _, fun _ _ _ => rfl, fun _ h => .inl h, rfl, rfl, rfl, fun e h => by simp at h, rfl⟩

theorem deafBehind_append (d : Nat) (e1 e2 : Array Event) : deafBehind d (e1 ++ e2) = deafBehind (deafBehind d e1) e2 := by
  unfold deafBehind
  rw [Array.foldl_append]

theorem EvOk.widen {H : Hp} {lo hi hi' : Nat} {e : Event} (h : EvOk H lo hi e) (hh : hi ≤ hi') : EvOk H lo hi' e := by
  cases h with
  | mine a wr sy h1 h2 => exact .mine a wr sy h1 (Nat.lt_of_lt_of_le h2 hh)
  | shared a h1 => exact .shared a h1
  | saidR a h1 h2 => exact .saidR a h1 (Nat.lt_of_lt_of_le h2 hh)
  | disable => exact .disable
  | enable => exact .enable
  | extern f => exact .extern f
  | noRoom => exact .noRoom

theorem EvOk.back {H H₁ : Hp} {lo lo₁ hi : Nat} {e : Event} (h : EvOk H₁ lo₁ hi e) (hro : H₁.ro = H.ro) (hlo : lo ≤ lo₁) (dom : ∀ b, H₁.own b ≠ none → H.own b ≠ none ∨ lo ≤ b) : EvOk H lo hi e := by
  have f : ∀ {b}, (H₁.own b ≠ none ∨ lo₁ ≤ b) → (H.own b ≠ none ∨ lo ≤ b) := fun h => h.elim (dom _) fun x => .inr (Nat.le_trans hlo x)
  cases h with
  | mine a wr sy h1 h2 => exact .mine a wr sy (f h1) h2
  | shared a h1 => exact .shared a (hro ▸ h1)
  | saidR a h1 h2 => exact .saidR a (f h1) h2
  | disable => exact .disable
  | enable => exact .enable
  | extern f => exact .extern f
  | noRoom => exact .noRoom

theorem Upd.trans {H H₁ H₂ : Hp} {w w₁ w₂ : World} {e₁ e₂ : Array Event} (u : Upd H H₁ w w₁ e₁) (v : Upd H₁ H₂ w₁ w₂ e₂) : Upd H H₂ w w₂ (e₁ ++ e₂) := by
  refine ⟨v.view, v.ro.trans u.ro, Nat.le_trans u.size v.size, fun b hb h0 => ?_, fun b h2 => ?_, v.os.trans u.os, v.tape.trans u.tape, v.output.trans u.output, fun e he => ?_, by rw [v.deaf, u.deaf, deafBehind_append]⟩
  · have h1 : H₁.own b = none := by
      cases h : H₁.own b with
      | none => rfl
      | some o => rcases u.dom b (by rw [h]; simp) with h' | h'
                  · exact absurd h0 h'
                  · omega
    rw [v.same b (Nat.lt_of_lt_of_le hb u.size) h1, u.same b hb h0]
  · rcases v.dom b h2 with h1 | h1
    · exact u.dom b h1
    · exact .inr (Nat.le_trans u.size h1)
  · rcases Array.mem_append.1 he with h | h
    · exact (u.evs e h).widen v.size
    · exact (v.evs e h).back u.ro u.size u.dom

/-- The cell at an address, as far as the goroutine knows it. -/
def Hp.cell (H : Hp) (a : Addr) : Option Value :=
  match H.look a.block with
  | some (.cells c _ _) => if a.spot.isSome then none else c[a.off]?
  | _ => none

/-- Is it the value of one cell? -/
def oneCell : Value → Bool
  | .agg _ => false
  | .tuple _ => false
  | _ => true

/-- ████ WHAT A COMPUTATION COMES TO, RECKONED OVER WHAT THE GOROUTINE KNOWS ALONE. ████ -/
def SemS {α : Type} (P : Program) : Sem α → Hp → (α → Hp → Prop) → Prop
  | .pure a, H, K => K a H
  | .load m a k, H, K => match H.cell a with
    | some v => (m = .plain ∨ H.own a.block ≠ none) ∧ SemS P (k v) H K
    | none => False
  | .store _ a v k, H, K => oneCell v = true ∧ match H.own a.block with
    | some (.cells c t fr) => a.spot = none ∧ a.off < c.size ∧ ¬ (fr.1 ≤ a.off ∧ a.off < fr.2) ∧ SemS P k (H.set a.block (.cells (c.setIfInBounds a.off v) t fr)) K
    | _ => False
  | .new o k, H, K => ∀ n, H.own n = none → H.ro n = none → SemS P (k n) (H.set n o) K
  | .shape r k, H, K => match H.look r with
    | some (.cells c t _) => SemS P (k (some (t, c.size))) H K
    | some _ => SemS P (k none) H K
    | none => False
  | .freeze _ _ _, _, _ => False
  | .frozen a k, H, K => match H.look a.block with
    | some (.cells _ _ fr) => SemS P (k (fr.1 ≤ a.off && a.off < fr.2)) H K
    | some _ => SemS P (k false) H K
    | none => False
  | .getObj _ _, _, _ => False
  | .setObj _ _ _, _, _ => False
  | .choose q k, H, K => if q.forced then SemS P (k 0) H K else ∀ t, SemS P (k (q.cut t)) H K
  | .sys _ _, _, _ => False
  | .program k, H, K => SemS P (k P) H K
  | .mark m k, H, K => match m with
    | .disable => SemS P k { H with d := H.d + 1 } K
    | .enable => SemS P k { H with d := H.d - 1 } K
    | .extern _ => SemS P k H K
    | .noRoom => SemS P k H K
    | .read a => H.own a.block ≠ none ∧ SemS P k H K
    | _ => False
  | .halt _, _, _ => False

theorem cell_view {H : Hp} {w : World} (v : View H w) {a : Addr} {x : Value} (h : H.cell a = some x) : w.cell? a = some x ∧ a.block < w.heap.size := by
  unfold Hp.cell at h
  split at h
  · rename_i c t fr hl
    have hb := v.look hl
    refine ⟨?_, lt_of_heap hb⟩
    unfold World.cell?
    rw [hb]
    exact h
  · cases h

theorem set_own_same (H : Hp) (b : Nat) (o : Obj) : (H.set b o).own b = some o := by simp [Hp.set]
theorem set_own_ne (H : Hp) {b b' : Nat} (o : Obj) (h : b' ≠ b) : (H.set b o).own b' = H.own b' := by simp [Hp.set, h]
theorem set_ro (H : Hp) (b : Nat) (o : Obj) : (H.set b o).ro = H.ro := rfl
theorem set_d (H : Hp) (b : Nat) (o : Obj) : (H.set b o).d = H.d := rfl

theorem own_lt {H : Hp} {w : World} (v : View H w) {b : Nat} (h : H.own b ≠ none) : b < w.heap.size := by
  cases ho : H.own b with
  | none => exact absurd ho h
  | some o => exact lt_of_heap (v.own _ _ ho)

/-- A cell of a block of one's own is laid anew. -/
theorem upd_store {H : Hp} {w : World} (v : View H w) {a : Addr} {x : Value} {c : Array Value} {t : TypeId} {fr : Nat × Nat} {sy : Bool} (hb : H.own a.block = some (.cells c t fr)) (hs : a.spot = none) :
    Upd H (H.set a.block (.cells (c.setIfInBounds a.off x) t fr)) w (w.setCell a x) #[⟨.cell a, true, sy⟩] := by
  have hlt := lt_of_heap (v.own _ _ hb)
  have hw := v.own _ _ hb
  have hsize : (w.setCell a x).heap.size = w.heap.size := by simp [World.setCell]
  have hsame : ∀ b, b ≠ a.block → (w.setCell a x).heap[b]? = w.heap[b]? := fun b hne => heap_setCell_other w a b x hne
  have hnew : (w.setCell a x).heap[a.block]? = some (.cells (c.setIfInBounds a.off x) t fr) := by
    simp [World.setCell, Array.getElem?_modify, hw, hs]
  refine ⟨⟨fun b o h => ?_, fun b o h => ?_, fun b h => ?_⟩, rfl, by omega, fun b _ h0 => hsame b (fun e => by rw [e, hb] at h0; cases h0), fun b h => ?_, rfl, rfl, rfl, fun e he => ?_, rfl⟩
  · by_cases hba : b = a.block
    · subst hba; rw [set_own_same] at h; cases h; exact hnew
    · rw [set_own_ne _ _ hba] at h; rw [hsame b hba]; exact v.own _ _ h
  · have : b ≠ a.block := fun e => by
      have := v.apart a.block (by rw [hb]; simp)
      rw [set_ro, e, this] at h; cases h
    rw [hsame b this]; exact v.ro _ _ h
  · rw [set_ro]
    by_cases hba : b = a.block
    · subst hba; exact v.apart _ (by rw [hb]; simp)
    · rw [set_own_ne _ _ hba] at h; exact v.apart _ h
  · by_cases hba : b = a.block
    · subst hba; exact .inl (by rw [hb]; simp)
    · rw [set_own_ne _ _ hba] at h; exact .inl h
  · simp at he; subst he; exact .mine a true sy (.inl (by rw [hb]; simp)) (by omega)

/-- A new block. -/
theorem upd_new {H : Hp} {w : World} (v : View H w) (o : Obj) : H.own w.heap.size = none ∧ H.ro w.heap.size = none ∧ Upd H (H.set w.heap.size o) w { w with heap := w.heap.push o } #[] := by
  have h1 : H.own w.heap.size = none := by
    cases h : H.own w.heap.size with
    | none => rfl
    | some x => exact absurd (lt_of_heap (v.own _ _ h)) (Nat.lt_irrefl _)
  have h2 : H.ro w.heap.size = none := by
    cases h : H.ro w.heap.size with
    | none => rfl
    | some x => exact absurd (lt_of_heap (v.ro _ _ h)) (Nat.lt_irrefl _)
  have hold : ∀ b, b < w.heap.size → (w.heap.push o)[b]? = w.heap[b]? := fun b hb => by
    rw [Array.getElem?_push]; simp [Nat.ne_of_lt hb]
  refine ⟨h1, h2, ⟨⟨fun b x h => ?_, fun b x h => ?_, fun b h => ?_⟩, rfl, by simp, fun b hb _ => hold b hb, fun b h => ?_, rfl, rfl, rfl, fun e he => by simp at he, rfl⟩⟩
  · by_cases hb : b = w.heap.size
    · subst hb; rw [set_own_same] at h; cases h; simp
    · rw [set_own_ne _ _ hb] at h
      have := v.own _ _ h
      show (w.heap.push o)[b]? = _
      rw [hold b (lt_of_heap this)]; exact this
  · have := v.ro _ _ h
    show (w.heap.push o)[b]? = _
    rw [hold b (lt_of_heap this)]; exact this
  · rw [set_ro]
    by_cases hb : b = w.heap.size
    · subst hb; exact h2
    · rw [set_own_ne _ _ hb] at h; exact v.apart _ h
  · by_cases hb : b = w.heap.size
    · subst hb; exact .inr (Nat.le_refl _)
    · rw [set_own_ne _ _ hb] at h; exact .inl h

theorem upd_drawn {H : Hp} {w : World} (v : View H w) (n : Nat) : Upd H H w { w with drawn := n } #[] :=
  ⟨⟨v.own, v.ro, v.apart⟩, rfl, Nat.le_refl _, fun _ _ _ => rfl, fun _ h => .inl h, rfl, rfl, rfl, fun e h => by simp at h, rfl⟩

/-- A step that turns nothing but the count of 'disable's. -/
theorem upd_mark {H H' : Hp} {w : World} {es : Array Event} (v : View H w) (h1 : H'.own = H.own) (h2 : H'.ro = H.ro) (h3 : H'.d = deafBehind H.d es) (he : ∀ e ∈ es, EvOk H w.heap.size w.heap.size e) : Upd H H' w w es :=
  ⟨⟨fun b o h => v.own b o (h1 ▸ h), fun b o h => v.ro b o (h2 ▸ h), fun b h => by rw [h2]; exact v.apart b (h1 ▸ h)⟩, h2, Nat.le_refl _, fun _ _ _ => rfl, fun b h => .inl (h1 ▸ h), rfl, rfl, rfl, he, h3⟩

theorem push_app (es es' : Array Event) (e : Event) : es.push e ++ es' = es ++ (#[e] ++ es') := by
  rw [← Array.append_assoc, Array.append_singleton]

/-- ████ IT IS SOUND IN EVERY WORLD THAT HOLDS WHAT THE GOROUTINE KNOWS. ████ -/
theorem SemS.sound {α : Type} {P : Program} : ∀ {s : Sem α} {H : Hp} {K : α → Hp → Prop}, SemS P s H K → ∀ {w : World}, View H w → ∀ es : Array Event,
    ∃ a w' H' es', s.runT P w es = (.ok a w', es ++ es') ∧ Upd H H' w w' es' ∧ K a H' := by
  intro s
  induction s with
  | pure a => intro H K h w v es; exact ⟨a, w, H, #[], by simp only [Sem.runT, Array.append_empty], Upd.refl v, h⟩
  | load m a k ih =>
    intro H K h w v es
    unfold SemS at h
    cases hc : H.cell a with
    | none => rw [hc] at h; exact h.elim
    | some x =>
      rw [hc] at h
      obtain ⟨hm, h⟩ := h
      obtain ⟨hx, hlt⟩ := cell_view v hc
      obtain ⟨r, w', H', es', hr, hu, hk⟩ := ih x h v (es.push ⟨.cell a, false, m == .atomic⟩)
      have u0 : Upd H H w w #[⟨.cell a, false, m == .atomic⟩] := upd_mark v rfl rfl rfl (fun e he => by
        simp at he; subst he
        by_cases ho : H.own a.block = none
        · have hm' : m = .plain := hm.elim id fun x => absurd ho x
          subst hm'
          refine .shared a ?_
          unfold Hp.cell Hp.look at hc
          rw [ho] at hc
          intro hn
          rw [hn] at hc
          cases hc
        · exact .mine a false _ (.inl ho) hlt)
      refine ⟨r, w', H', #[⟨.cell a, false, m == .atomic⟩] ++ es', ?_, u0.trans hu, hk⟩
      simp only [Sem.runT, hx]
      rw [hr]
      rw [push_app]
  | store m a x k ih =>
    intro H K h w v es
    unfold SemS at h
    obtain ⟨h1, h⟩ := h
    cases hb : H.own a.block with
    | none => rw [hb] at h; exact h.elim
    | some o =>
      rw [hb] at h
      cases o <;> try exact h.elim
      rename_i c t fr
      obtain ⟨hs, hof, hfr, h⟩ := h
      have hw := v.own _ _ hb
      have hcell : w.cell? a = some c[a.off] := by
        unfold World.cell?; rw [hw]; simp [hs, hof]
      have hfz : w.frozen? a = false := by
        unfold World.frozen?; rw [hw]; simp; omega
      have u0 := upd_store v (x := x) (sy := m == .atomic) hb hs
      obtain ⟨r, w', H', es', hr, hu, hk⟩ := ih h u0.view (es.push ⟨.cell a, true, m == .atomic⟩)
      refine ⟨r, w', H', #[⟨.cell a, true, m == .atomic⟩] ++ es', ?_, u0.trans hu, hk⟩
      cases x <;> first
        | (simp [oneCell] at h1; done)
        | (simp only [Sem.runT, hcell, hfz, Bool.false_eq_true, if_false]
           rw [hr]
           rw [push_app])
  | new o k ih =>
    intro H K h w v es
    unfold SemS at h
    obtain ⟨h1, h2, u0⟩ := upd_new v o
    obtain ⟨r, w', H', es', hr, hu, hk⟩ := ih w.heap.size (h _ h1 h2) u0.view es
    exact ⟨r, w', H', es', by simp only [Sem.runT]; exact hr, by simpa using u0.trans hu, hk⟩
  | shape r k ih =>
    intro H K h w v es
    unfold SemS at h
    cases hl : H.look r with
    | none => rw [hl] at h; exact h.elim
    | some o =>
      have hw := v.look hl
      rw [hl] at h
      cases o <;> (simp only [] at h; obtain ⟨y, w', H', es', hr, hu, hk⟩ := ih _ h v es; exact ⟨y, w', H', es', by simp only [Sem.runT, World.shape?, hw]; exact hr, hu, hk⟩)
  | freeze a n k ih => intro H K h; unfold SemS at h; exact h.elim
  | frozen a k ih =>
    intro H K h w v es
    unfold SemS at h
    cases hl : H.look a.block with
    | none => rw [hl] at h; exact h.elim
    | some o =>
      have hw := v.look hl
      rw [hl] at h
      cases o <;> (simp only [] at h; obtain ⟨y, w', H', es', hr, hu, hk⟩ := ih _ h v es; exact ⟨y, w', H', es', by simp only [Sem.runT, World.frozen?, hw]; exact hr, hu, hk⟩)
  | getObj r k ih => intro H K h; unfold SemS at h; exact h.elim
  | setObj r o k ih => intro H K h; unfold SemS at h; exact h.elim
  | choose q k ih =>
    intro H K h w v es
    unfold SemS at h
    by_cases hq : q.forced = true
    · simp only [hq, if_true] at h
      obtain ⟨r, w', H', es', hr, hu, hk⟩ := ih _ h v es
      exact ⟨r, w', H', es', by simp only [Sem.runT, hq, if_true]; exact hr, hu, hk⟩
    · simp only [hq, Bool.false_eq_true, if_false] at h
      have u0 := upd_drawn v (w.drawn + 1)
      obtain ⟨r, w', H', es', hr, hu, hk⟩ := ih _ (h (w.tape w.drawn q)) u0.view es
      exact ⟨r, w', H', es', by simp only [Sem.runT, hq, Bool.false_eq_true, if_false]; exact hr, by simpa using u0.trans hu, hk⟩
  | sys c k ih => intro H K h; unfold SemS at h; exact h.elim
  | program k ih =>
    intro H K h w v es
    unfold SemS at h
    obtain ⟨r, w', H', es', hr, hu, hk⟩ := ih _ h v es
    exact ⟨r, w', H', es', by simp only [Sem.runT]; exact hr, hu, hk⟩
  | mark m k ih =>
    intro H K h w v es
    have key : ∀ H₁ : Hp, SemS P k H₁ K → H₁.own = H.own → H₁.ro = H.ro → H₁.d = deafBehind H.d #[⟨.mark m, false, true⟩] → EvOk H w.heap.size w.heap.size ⟨.mark m, false, true⟩ →
        ∃ a w' H' es', (Sem.mark m k).runT P w es = (.ok a w', es ++ es') ∧ Upd H H' w w' es' ∧ K a H' := by
      intro H₁ h1 e1 e2 e3 e4
      have u0 : Upd H H₁ w w #[⟨.mark m, false, true⟩] := upd_mark v e1 e2 e3 (fun e he => by simp at he; subst he; exact e4)
      obtain ⟨r, w', H', es', hr, hu, hk⟩ := ih h1 u0.view (es.push ⟨.mark m, false, true⟩)
      refine ⟨r, w', H', #[⟨.mark m, false, true⟩] ++ es', ?_, u0.trans hu, hk⟩
      simp only [Sem.runT]
      rw [hr]
      rw [push_app]
    unfold SemS at h
    cases m with
    | disable => exact key _ h rfl rfl rfl .disable
    | enable => exact key _ h rfl rfl rfl .enable
    | extern f => exact key _ h rfl rfl rfl (.extern f)
    | noRoom => exact key _ h rfl rfl rfl .noRoom
    | read a => exact key _ h.2 rfl rfl rfl (.saidR a (.inl h.1) (own_lt v h.1))
    | acquire a => exact h.elim
    | release a => exact h.elim
    | releaseMerge a => exact h.elim
    | write a => exact h.elim
  | halt x => intro H K h; unfold SemS at h; exact h.elim

theorem SemS.mono {α : Type} {P : Program} : ∀ {s : Sem α} {H : Hp} {K K' : α → Hp → Prop}, SemS P s H K → (∀ a H', K a H' → K' a H') → SemS P s H K' := by
  intro s
  induction s with
  | pure a => intro H K K' h hk; exact hk _ _ h
  | load m a k ih =>
    intro H K K' h hk
    unfold SemS at h ⊢
    cases hc : H.cell a with
    | none => rw [hc] at h; exact h.elim
    | some x => rw [hc] at h; exact ⟨h.1, ih x h.2 hk⟩
  | store m a x k ih =>
    intro H K K' h hk
    unfold SemS at h ⊢
    refine ⟨h.1, ?_⟩
    cases hb : H.own a.block with
    | none => have := h.2; rw [hb] at this; exact this.elim
    | some o =>
      have := h.2
      rw [hb] at this
      cases o <;> first | exact ⟨this.1, this.2.1, this.2.2.1, ih this.2.2.2 hk⟩ | exact this.elim
  | new o k ih => intro H K K' h hk; unfold SemS at h ⊢; exact fun n a b => ih n (h n a b) hk
  | shape r k ih =>
    intro H K K' h hk
    unfold SemS at h ⊢
    cases hl : H.look r with
    | none => rw [hl] at h; exact h.elim
    | some o => rw [hl] at h; cases o <;> exact ih _ h hk
  | freeze a n k ih => intro H K K' h; unfold SemS at h; exact h.elim
  | frozen a k ih =>
    intro H K K' h hk
    unfold SemS at h ⊢
    cases hl : H.look a.block with
    | none => rw [hl] at h; exact h.elim
    | some o => rw [hl] at h; cases o <;> exact ih _ h hk
  | getObj r k ih => intro H K K' h; unfold SemS at h; exact h.elim
  | setObj r o k ih => intro H K K' h; unfold SemS at h; exact h.elim
  | choose q k ih =>
    intro H K K' h hk
    unfold SemS at h ⊢
    by_cases hq : q.forced = true
    · simp only [hq, if_true] at h ⊢; exact ih _ h hk
    · simp only [hq, Bool.false_eq_true, if_false] at h ⊢; exact fun t => ih _ (h t) hk
  | sys c k ih => intro H K K' h; unfold SemS at h; exact h.elim
  | program k ih => intro H K K' h hk; unfold SemS at h ⊢; exact ih _ h hk
  | mark m k ih =>
    intro H K K' h hk
    unfold SemS at h ⊢
    cases m <;> first | exact ih h hk | exact ⟨h.1, ih h.2 hk⟩ | exact h.elim
  | halt x => intro H K K' h; unfold SemS at h; exact h.elim

theorem SemS_bind {α β : Type} {P : Program} : ∀ (s : Sem α) (f : α → Sem β) (H : Hp) (K : β → Hp → Prop), SemS P (s.bind f) H K = SemS P s H (fun a H' => SemS P (f a) H' K) := by
  intro s
  induction s with
  | pure a => intro f H K; rfl
  | load m a k ih => intro f H K; simp only [Sem.bind, SemS, ih]
  | store m a x k ih => intro f H K; simp only [Sem.bind, SemS, ih]
  | new o k ih => intro f H K; simp only [Sem.bind, SemS, ih]
  | shape r k ih => intro f H K; simp only [Sem.bind, SemS, ih]
  | freeze a n k ih => intro f H K; simp only [Sem.bind, SemS]
  | frozen a k ih => intro f H K; simp only [Sem.bind, SemS, ih]
  | getObj r k ih => intro f H K; simp only [Sem.bind, SemS]
  | setObj r o k ih => intro f H K; simp only [Sem.bind, SemS]
  | choose q k ih => intro f H K; simp only [Sem.bind, SemS, ih]
  | sys c k ih => intro f H K; simp only [Sem.bind, SemS]
  | program k ih => intro f H K; simp only [Sem.bind, SemS, ih]
  | mark m k ih => intro f H K; cases m <;> simp only [Sem.bind, SemS, ih]
  | halt x => intro f H K; simp only [Sem.bind, SemS]

end Go.Sep
