/-
  What the model's small operations come to over what a goroutine knows: equations for reckoning. Conditions: none.
-/
import Derived.Test.YtcomjkbfmklfnaaDoorSepC
set_option linter.unusedSimpArgs false
set_option linter.unusedVariables false
namespace Go.Sep
open Go.Conc

section
variable {P : Program} {H : Hp}

@[simp] theorem semS_bind {α β : Type} (s : Sem α) (f : α → Sem β) (K : β → Hp → Prop) : SemS P (s >>= f) H K = SemS P s H (fun a H' => SemS P (f a) H' K) := SemS_bind s f H K
@[simp] theorem semS_pure {α : Type} (a : α) (K : α → Hp → Prop) : SemS P (pure a : Sem α) H K = K a H := rfl
@[simp] theorem semS_map {α β : Type} (s : Sem α) (f : α → β) (K : β → Hp → Prop) : SemS P (f <$> s) H K = SemS P s H (fun a H' => K (f a) H') := SemS_bind s (fun a => .pure (f a)) H K
@[simp] theorem semS_ite {α : Type} (c : Prop) [Decidable c] (s t : Sem α) (K : α → Hp → Prop) : SemS P (if c then s else t) H K = if c then SemS P s H K else SemS P t H K := by split <;> rfl
@[simp] theorem semS_load (a : Addr) (m : Mode) (K : Value → Hp → Prop) : SemS P (load a m) H K = match H.cell a with | some v => (m = .plain ∨ H.own a.block ≠ none) ∧ K v H | none => False := by
  unfold load
  rw [SemS]
  cases H.cell a <;> rfl
@[simp] theorem semS_newObj (o : Obj) (K : Nat → Hp → Prop) : SemS P (newObj o) H K = ∀ n, H.own n = none → H.ro n = none → K n (H.set n o) := rfl
@[simp] theorem semS_shape (r : Nat) (K : Option (TypeId × Nat) → Hp → Prop) : SemS P (shape r) H K = match H.look r with
    | some (.cells c t _) => K (some (t, c.size)) H | some _ => K none H | none => False := by
  unfold shape
  rw [SemS]
  cases H.look r with
  | none => rfl
  | some o => cases o <;> rfl
@[simp] theorem semS_frozen (a : Addr) (K : Bool → Hp → Prop) : SemS P (frozen a) H K = match H.look a.block with
    | some (.cells _ _ fr) => K (fr.1 ≤ a.off && a.off < fr.2) H | some _ => K false H | none => False := by
  unfold frozen
  rw [SemS]
  cases H.look a.block with
  | none => rfl
  | some o => cases o <;> rfl
@[simp] theorem semS_choose (q : Question) (K : Nat → Hp → Prop) : SemS P (choose q) H K = if q.forced then K 0 H else ∀ t, K (q.cut t) H := rfl
@[simp] theorem semS_program (K : Program → Hp → Prop) : SemS P program H K = K P H := rfl
@[simp] theorem semS_mark_disable (K : Unit → Hp → Prop) : SemS P (mark .disable) H K = K () { H with d := H.d + 1 } := rfl
@[simp] theorem semS_mark_enable (K : Unit → Hp → Prop) : SemS P (mark .enable) H K = K () { H with d := H.d - 1 } := rfl
@[simp] theorem semS_mark_extern (f : FuncId) (K : Unit → Hp → Prop) : SemS P (mark (.extern f)) H K = K () H := rfl
@[simp] theorem semS_mark_noRoom (K : Unit → Hp → Prop) : SemS P (mark .noRoom) H K = K () H := rfl
@[simp] theorem semS_mark_read (a : Addr) (K : Unit → Hp → Prop) : SemS P (mark (.read a)) H K = (H.own a.block ≠ none ∧ K () H) := rfl
@[simp] theorem semS_stuck {α : Type} (why : String) (K : α → Hp → Prop) : SemS P (stuck why) H K = False := rfl
@[simp] theorem semS_unsupported {α : Type} (u : Unsupported) (K : α → Hp → Prop) : SemS P (unsupported u) H K = False := rfl
@[simp] theorem semS_goPanic {α : Type} (v : Value) (K : α → Hp → Prop) : SemS P (goPanic v) H K = False := rfl

theorem semS_store (a : Addr) (v : Value) (m : Mode) (K : Unit → Hp → Prop) : SemS P (store a v m) H K = (oneCell v = true ∧ match H.own a.block with
    | some (.cells c t fr) => a.spot = none ∧ a.off < c.size ∧ ¬ (fr.1 ≤ a.off ∧ a.off < fr.2) ∧ K () (H.set a.block (.cells (c.setIfInBounds a.off v) t fr))
    | _ => False) := rfl

/-- A cell of a block that is one's own, nothing of it frozen, is laid anew. -/
theorem semS_store_own {b off : Nat} {c : Array Value} {t : TypeId} (hb : H.own b = some (.cells c t (0, 0))) (hi : off < c.size) (v : Value) (hv : oneCell v = true) (m : Mode) (K : Unit → Hp → Prop) :
    SemS P (store ⟨b, off, none⟩ v m) H K = K () (H.set b (.cells (c.setIfInBounds off v) t (0, 0))) := by
  rw [semS_store, hb]; simp [hv, hi]

@[simp] theorem semS_underlying (t : TypeId) (K : TypeDesc → Hp → Prop) : SemS P (underlying t) H K = match P.underlying t with | some d => K d H | none => False := by
  unfold underlying
  rw [semS_bind, semS_program]
  cases P.underlying t <;> rfl
@[simp] theorem semS_typeInfo (t : TypeId) (K : TypeInfo → Hp → Prop) : SemS P (typeInfo t) H K = match P.info? t with | some d => K d H | none => False := by
  unfold typeInfo
  rw [semS_bind, semS_program]
  cases P.info? t <;> rfl
@[simp] theorem semS_zeroValue (t : TypeId) (K : Value → Hp → Prop) : SemS P (zeroValue t) H K = match P.info? t with | some d => (match d.zero with | some v => K v H | none => False) | none => False := by
  unfold zeroValue
  rw [semS_bind, semS_typeInfo]
  cases P.info? t with
  | none => rfl
  | some d => simp only []; cases d.zero <;> rfl
@[simp] theorem semS_sizeOf (t : TypeId) (K : Nat → Hp → Prop) : SemS P (sizeOf t) H K = match P.info? t with | some d => K d.size H | none => False := by
  unfold sizeOf
  rw [semS_bind, semS_typeInfo]
  cases P.info? t <;> rfl
@[simp] theorem semS_isAgg (t : TypeId) (K : Bool → Hp → Prop) : SemS P (isAgg t) H K = match P.underlying t with | some (.struct _) | some (.array _ _) => K true H | some _ => K false H | none => False := by
  unfold isAgg
  rw [semS_bind, semS_underlying]
  cases P.underlying t with
  | none => rfl
  | some d => cases d <;> rfl

/-! ### cells -/

theorem cell_own {b : Nat} {c : Array Value} {t : TypeId} {fr : Nat × Nat} (h : H.own b = some (.cells c t fr)) (off : Nat) : H.cell ⟨b, off, none⟩ = c[off]? := by
  simp [Hp.cell, Hp.look, h]
theorem cell_ro {b : Nat} {c : Array Value} {t : TypeId} {fr : Nat × Nat} (h : H.look b = some (.cells c t fr)) (off : Nat) : H.cell ⟨b, off, none⟩ = c[off]? := by
  simp [Hp.cell, h]
theorem look_own {b : Nat} {o : Obj} (h : H.own b = some o) : H.look b = some o := by simp [Hp.look, h]
theorem look_ro {b : Nat} {o : Obj} (h0 : H.own b = none) (h : H.ro b = some o) : H.look b = some o := by simp [Hp.look, h0, h]

theorem semS_loadCellsFrom (a : Addr) : ∀ (n i : Nat) (acc : Array Value) (H : Hp) (K : Array Value → Hp → Prop) (xs : List Value), xs.length = n → (∀ j (hj : j < n), ∃ x, xs[j]? = some x ∧ H.cell (a.add (i + j)) = some x) →
    K (acc ++ xs.toArray) H → SemS P (loadCellsFrom a i n acc) H K := by
  intro n
  induction n with
  | zero => intro i acc H K xs hl _ hk; cases xs with | nil => simpa [loadCellsFrom] using hk | cons => cases hl
  | succ n ih =>
    intro i acc H K xs hl hc hk
    cases xs with
    | nil => cases hl
    | cons x xs =>
      obtain ⟨y, hy, hcell⟩ := hc 0 (by omega)
      simp only [List.getElem?_cons_zero, Option.some.injEq] at hy
      subst hy
      simp only [loadCellsFrom, semS_bind, semS_load]
      rw [show i + 0 = i by omega] at hcell
      rw [hcell]
      refine ⟨by simp, ih (i + 1) (acc.push x) H K xs (by simpa using hl) (fun j hj => ?_) (by simpa using hk)⟩
      obtain ⟨z, hz, hzc⟩ := hc (j + 1) (by omega)
      exact ⟨z, by simpa using hz, by rw [show i + 1 + j = i + (j + 1) by omega]; exact hzc⟩

theorem add_none (b off n : Nat) : (⟨b, off, none⟩ : Addr).add n = ⟨b, off + n, none⟩ := by
  unfold Addr.add
  split
  · rename_i h; subst h; rfl
  · rfl

end
end Go.Sep
