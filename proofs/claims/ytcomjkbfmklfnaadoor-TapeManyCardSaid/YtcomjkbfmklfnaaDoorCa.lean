/-
  Shapes: a measure for a goroutine's whole way, and for a company of them. Conditions: none.
-/
import Derived.Test.YtcomjkbfmklfnaaDoorSepE
set_option linter.unusedSimpArgs false
set_option linter.unusedVariables false
namespace Go.Sep
open Go.Conc

inductive Sh : Type 1
  | node (ι : Type) (f : ι → Sh) : Sh

inductive Sh.Sub : Sh → Sh → Prop
  | mk (ι : Type) (f : ι → Sh) (i : ι) : Sh.Sub (f i) (.node ι f)

theorem Sh.sub_acc (s : Sh) : Acc Sh.Sub s := by
  induction s with
  | node ι f ih => exact ⟨_, fun y hy => by cases hy with | mk _ _ i => exact ih i⟩
def Sh.Lt : Sh → Sh → Prop := Relation.TransGen Sh.Sub
theorem Sh.Lt.mk (ι : Type) (f : ι → Sh) (i : ι) : Sh.Lt (f i) (.node ι f) := .single (.mk ι f i)
theorem Sh.Lt.trans {a b c : Sh} (h : Sh.Lt a b) (k : Sh.Lt b c) : Sh.Lt a c := Relation.TransGen.trans h k
theorem Sh.wf : WellFounded Sh.Lt := (⟨Sh.sub_acc⟩ : WellFounded Sh.Sub).transGen
theorem Sh.acc (s : Sh) : Acc Sh.Lt s := Sh.wf.apply s

/-- n steps ahead of s. -/
def Sh.above : Nat → Sh → Sh
  | 0, s => s
  | n + 1, s => .node Unit fun _ => Sh.above n s
def Sh.nil : Sh := .node Empty fun e => e.elim
def Sh.chain (n : Nat) : Sh := Sh.above n Sh.nil
theorem Sh.above_lt (n : Nat) (s : Sh) : Sh.Lt (Sh.above n s) (Sh.above (n + 1) s) := .mk Unit (fun _ => Sh.above n s) ()
theorem Sh.chain_lt (n : Nat) : Sh.Lt (Sh.chain n) (Sh.chain (n + 1)) := .mk Unit (fun _ => Sh.above n Sh.nil) ()
/-- At a stop: j stops follow, each as many steps away as it will turn out; or the end. -/
def Sh.stop : Nat → Sh
  | 0 => .node Nat Sh.chain
  | j + 1 => .node (Nat × Bool) fun x => if x.2 then Sh.above x.1 (Sh.stop j) else Sh.chain x.1
theorem Sh.stop_lt (j m : Nat) : Sh.Lt (Sh.above m (Sh.stop j)) (Sh.stop (j + 1)) := .mk (Nat × Bool) (fun x => if x.2 then Sh.above x.1 (Sh.stop j) else Sh.chain x.1) (m, true)
theorem Sh.stop_quit : ∀ (j m : Nat), Sh.Lt (Sh.chain m) (Sh.stop j)
  | 0, m => .mk Nat Sh.chain m
  | j + 1, m => .mk (Nat × Bool) (fun x => if x.2 then Sh.above x.1 (Sh.stop j) else Sh.chain x.1) (m, false)

theorem Sh.lt_above {a s : Sh} (h : Sh.Lt a s) : ∀ m, Sh.Lt a (Sh.above m s)
  | 0 => h
  | m + 1 => (Sh.lt_above h m).trans (Sh.above_lt m s)

/-! ### lists of shapes -/
inductive LtL : List Sh → List Sh → Prop
  | here {a' a : Sh} {l : List Sh} : Sh.Lt a' a → LtL (a' :: l) (a :: l)
  | there {a : Sh} {l' l : List Sh} : LtL l' l → LtL (a :: l') (a :: l)

theorem LtL.acc : ∀ l : List Sh, Acc LtL l
  | [] => ⟨_, fun _ h => by cases h⟩
  | a :: l => by
    have key : ∀ a, Acc Sh.Lt a → ∀ l, Acc LtL l → Acc LtL (a :: l) := by
      intro a ha
      induction ha with
      | intro a _ iha =>
        intro l hl
        induction hl with
        | intro l hl ihl =>
          refine ⟨_, fun y hy => ?_⟩
          cases hy with
          | here h => exact iha _ h _ ⟨_, hl⟩
          | there h => exact ihl _ h
    exact key a (Sh.acc a) l (LtL.acc l)
theorem LtL.wf : WellFounded LtL := ⟨LtL.acc⟩

theorem LtL.append_left {l' l : List Sh} (h : LtL l' l) (r : List Sh) : LtL (l' ++ r) (l ++ r) := by
  induction h with
  | here h => exact .here h
  | there _ ih => exact .there ih
theorem LtL.append_right {r' r : List Sh} (h : LtL r' r) : ∀ l : List Sh, LtL (l ++ r') (l ++ r)
  | [] => h
  | a :: l => .there (LtL.append_right h l)

/-- The kids' shapes. -/
def kids (n : Nat) (f : Nat → Sh) : List Sh := (List.range n).map f
theorem kids_lt {n : Nat} {f' f : Nat → Sh} {j : Nat} (hj : j < n) (h : Sh.Lt (f' j) (f j)) (hs : ∀ k, k ≠ j → f' k = f k) : LtL (kids n f') (kids n f) := by
  induction n with
  | zero => omega
  | succ n ih =>
    unfold kids
    rw [List.range_succ, List.map_append, List.map_append]
    by_cases hjn : j = n
    · subst hjn
      have : (List.range j).map f' = (List.range j).map f := List.map_congr_left fun k hk => hs k (by have := List.mem_range.1 hk; omega)
      rw [this]
      exact LtL.append_right (.here h) _
    · have := LtL.append_left (ih (by omega)) ((List.map f [n]))
      have e : List.map f' [n] = List.map f [n] := by simp [hs n (Ne.symm hjn)]
      rw [e]
      exact this

/-- The whole company's measure: goroutine 0's shape; the kids' shapes; how many are running. -/
abbrev Ms := Sh × (List Sh × Nat)
def Ms.Lt : Ms → Ms → Prop := Prod.Lex Sh.Lt (Prod.Lex (Relation.TransGen LtL) (fun a b : Nat => a < b))
theorem Ms.wf : WellFounded Ms.Lt := by
  unfold Ms.Lt
  exact (Prod.lex ⟨_, Sh.wf⟩ (Prod.lex ⟨_, LtL.wf.transGen⟩ Nat.lt_wfRel)).wf
theorem Ms.main {s' s : Sh} (h : Sh.Lt s' s) (k' k : List Sh × Nat) : Ms.Lt (s', k') (s, k) := .left _ _ h
theorem Ms.kid {s : Sh} {k' k : List Sh} (h : LtL k' k) (c' c : Nat) : Ms.Lt (s, (k', c')) (s, (k, c)) := .right _ (.left _ _ (.single h))
theorem Ms.kid2 {s : Sh} {k'' k' k : List Sh} (h : LtL k' k) (h' : LtL k'' k') (c' c : Nat) : Ms.Lt (s, (k'', c')) (s, (k, c)) := .right _ (.left _ _ (.tail (.single h') h))
theorem Ms.run {s : Sh} {k : List Sh} {c' c : Nat} (h : c' < c) : Ms.Lt (s, (k, c')) (s, (k, c)) := .right _ (.right _ h)

/-! ### a tree with its shape -/
inductive TreeS {Γ κ : Type} (P : Program) (Y : Proto Γ κ) (main : Bool) : Sh → Goroutine → Hp → Γ → Prop
  | step {s : Sh} {g : Goroutine} {H : Hp} {γ : Γ} (g' : World → Goroutine) (w' : World → World) (es : World → Array Event) (H' : World → Hp) (s' : World → Sh) : g.status = .running →
      (∀ w, View H w → stepG P main g w = .go (g' w) (w' w) (es w) ∧ Upd H (H' w) w (w' w) (es w)) → (∀ w, View H w → Sh.Lt (s' w) s) → (∀ w, View H w → TreeS P Y main (s' w) (g' w) (H' w) γ) → TreeS P Y main s g H γ
  | less {s : Sh} {g : Goroutine} {H H' : Hp} {γ : Γ} : Less H H' → TreeS P Y main s g H' γ → TreeS P Y main s g H γ
  | ghost {s : Sh} {g : Goroutine} {H H' : Hp} {γ γ' : Γ} : Y.Gs H γ H' γ' → TreeS P Y main s g H' γ' → TreeS P Y main s g H γ
  | meet {s : Sh} {g : Goroutine} {H : Hp} {γ : Γ} (k : κ) (s' : Goroutine → Hp → Γ → Sh) : Y.At k main g H γ → (∀ m, Sh.Lt (Sh.above m (Sh.stop 5)) s ∧ Sh.Lt (Sh.chain m) s) →
      (∀ g' H' γ', Y.Out k g H γ g' H' γ' → Sh.Lt (s' g' H' γ') s) → (∀ g' H' γ', Y.Out k g H γ g' H' γ' → TreeS P Y main (s' g' H' γ') g' H' γ') → TreeS P Y main s g H γ
  | spawn {s : Sh} {g : Goroutine} {H : Hp} {γ : Γ} (g' c : Goroutine) (H' Hc : Hp) (γ' γc : Γ) (s' : Sh) : g.status = .running → (∀ w, View H w → stepG P main g w = .spawn g' c w #[]) →
      Y.Sp H γ H' γ' Hc γc → Tree P Y false c Hc γc → Sh.Lt s' s → TreeS P Y main s' g' H' γ' → TreeS P Y main s g H γ
  | leave {g : Goroutine} {H : Hp} {γ : Γ} (n : Nat) : main = false → QuitsD P n H.d g → Y.Gone γ → TreeS P Y main (Sh.chain n) g H γ
  | done {s : Sh} {g : Goroutine} {H : Hp} {γ : Γ} (v : Value) : main = true → g.status = .running → (∀ w, View H w → stepG P true g w = .ended (.done v) w #[]) → Y.Fin v H γ → TreeS P Y main s g H γ

theorem Tree.shaped {Γ κ : Type} {P : Program} {Y : Proto Γ κ} {main : Bool} {g : Goroutine} {H : Hp} {γ : Γ} (h : Tree P Y main g H γ) : ∃ s, TreeS P Y main s g H γ := by
  classical
  induction h with
  | @step main g H γ g' w' es H' hs h _ ih =>
    let s' : World → Sh := fun w => if hv : View H w then (ih w hv).choose else Sh.nil
    have hs' : ∀ w (hv : View H w), s' w = (ih w hv).choose := fun w hv => by simp only [s', hv, dif_pos]
    refine ⟨.node World s', .step g' w' es H' s' hs h (fun w _ => .mk World s' w) fun w hv => ?_⟩
    rw [hs' w hv]
    exact (ih w hv).choose_spec
  | less hl _ ih => obtain ⟨s, hs⟩ := ih; exact ⟨s, .less hl hs⟩
  | ghost hl _ ih => obtain ⟨s, hs⟩ := ih; exact ⟨s, .ghost hl hs⟩
  | @meet main g H γ k hat _ ih =>
    let f : (Goroutine × Hp × Γ) ⊕ (Nat × Bool) → Sh := fun
      | .inl x => if ho : Y.Out k g H γ x.1 x.2.1 x.2.2 then (ih x.1 x.2.1 x.2.2 ho).choose else Sh.nil
      | .inr (m, true) => Sh.above m (Sh.stop 5)
      | .inr (m, false) => Sh.chain m
    refine ⟨.node ((Goroutine × Hp × Γ) ⊕ (Nat × Bool)) f, .meet k (fun a b c => f (.inl (a, b, c))) hat (fun m => ⟨.mk _ f (.inr (m, true)), .mk _ f (.inr (m, false))⟩) (fun a b c _ => .mk _ f (.inl (a, b, c))) fun a b c ho => ?_⟩
    have : f (.inl (a, b, c)) = (ih a b c ho).choose := by simp only [f, ho, dif_pos]
    rw [this]
    exact (ih a b c ho).choose_spec
  | @spawn main g H γ g' c H' Hc γ' γc hs hst hsp hc _ _ ih =>
    obtain ⟨s, ih⟩ := ih
    exact ⟨.node Unit fun _ => s, .spawn g' c H' Hc γ' γc s hs hst hsp hc (.mk Unit (fun _ => s) ()) ih⟩
  | leave n hq hg => exact ⟨_, .leave n rfl hq hg⟩
  | done v hs h hf => exact ⟨Sh.nil, .done v rfl hs h hf⟩

end Go.Sep
