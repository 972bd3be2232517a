/-
  The rules for one operation, for a call by a contract, and for a region that draws its order. Conditions: none.
-/
import Derived.Test.YtcomjkbfmklfnaaDoorSepB
import Derived.OrdersHeld
set_option linter.unusedSimpArgs false
set_option linter.unusedVariables false
namespace Go.Sep
open Go.Conc

section
variable {Γ κ : Type} {P : Program} {Y : Proto Γ κ} {main : Bool} {fn : FuncId} {Q Q' : Exit → Act → Hp → Γ → Prop} {a : Act} {H : Hp} {γ : Γ}

/-- What is asked once an operation has yielded this. -/
def uponT (P : Program) (Y : Proto Γ κ) (main : Bool) (o : Oper) (a : Act) (K : Act → Hp → Γ → Prop) (γ : Γ) : Next → Hp → Prop
  | .value v, H => K (a.put o.dst v) H γ
  | .skip, H => K (a.put o.dst undef) H γ
  | .defer d, H => K (Act.put { a with defers := d :: a.defers } o.dst undef) H γ
  | .enter f args, H => CallsT P Y main f args H γ fun v H' γ' => K (a.put o.dst v) H' γ'
  | _, _ => False

theorem uponT_mono {o : Oper} {K K' : Act → Hp → Γ → Prop} (hk : ∀ a H γ, K a H γ → K' a H γ) {nx : Next} {H : Hp} (h : uponT P Y main o a K γ nx H) : uponT P Y main o a K' γ nx H := by
  cases nx <;> first | exact hk _ _ _ h | exact CallsT.mono h (fun v H γ x => hk _ _ _ x) | exact h

/-- A callee, by its contract: entered, gone through, come back from. -/
theorem Tree.call {b : Frame} {ops : Array Oper} {i : Nat} {rest : List Nat} {k : List Item} {cs : List Frame} {f : FuncId} {args : Array Value} {Post : Value → Hp → Γ → Prop}
    (h : CallsT P Y main f args H γ Post) (hn : ∀ v H' γ', Post v H' γ' → Tree P Y main (G (b.at (a.put ((ops[i]?).bind (·.dst)) v) (.inRegion ops rest :: k)) cs) H' γ') :
    Tree P Y main (G (Frame.enter P f args .normal) (b.at a (.inRegion ops (i :: rest) :: k) :: cs)) H γ := by
  obtain ⟨fn, c, hf, hb, hw⟩ := h
  have hleave : ∀ (a' : Act) (H' : Hp) (γ' : Γ) (todo : List Item), Unw P a'.defers H' (fun H' => ∃ v, ResultsC P fn a'.tmps v ∧ Post v H' γ') →
      Tree P Y main (G { (base f).at a' todo with mode := .returning } (b.at a (.inRegion ops (i :: rest) :: k) :: cs)) H' γ' := by
    rintro ⟨tmps, ds⟩ H' γ' todo hu
    refine Tree.unwinds ds tmps H' _ hu fun H₂ ⟨v, hr, hp⟩ => ?_
    refine .ctl rfl (fun w => ?_) (hn v H₂ γ' hp)
    rw [stepG_leave (b := base f) (a := ⟨tmps, []⟩) rfl rfl hf (hr w).1 (hr w).2, Frame.finish_at]
  rw [enter_at args hf hb]
  refine hw (base f) [] _ rfl (by simp [base]) fun e a' H' γ' q => ?_
  cases e with
  | normal => exact .ctl rfl (fun w => stepG_end) (hleave a' H' γ' [] q)
  | ret => exact fun todo => hleave a' H' γ' todo q
  | exit id => exact q.elim
  | goto l => exact q.elim
  | panic ch => exact q.elim
  | outgrown => exact q.elim

/-- ONE OPERATION. -/
theorem opsT_cons {ops : Array Oper} {i : Nat} {rest : List Nat} {o : Oper} (ho : ops[i]? = some o) (hw : Region.wanted o (yielded ops a.tmps) = true)
    (h : SemS P (execOp a.eval o) H (uponT P Y main o a (fun a' H' γ' => OpsT P Y main fn ops rest Q a' H' γ') γ)) : OpsT P Y main fn ops (i :: rest) Q a H γ := by
  intro b k cs hb hk hc
  refine .lone rfl fun w v => ?_
  obtain ⟨nx, w', H', hr, hu, hK⟩ := h.op v
  have hu' : Upd H H' w w' (listed P b.fn a o w) := hu.seen b.fn
  cases nx with
  | value x => exact ⟨_, w', _, H', stepG_value ho hw hk hr, hu', hK b k cs hb hk hc⟩
  | skip => exact ⟨_, w', _, H', stepG_none ho hw hk hr, hu', hK b k cs hb hk hc⟩
  | defer d =>
    refine ⟨G (b.at (Act.put ⟨a.tmps, d :: a.defers⟩ o.dst undef) (.inRegion ops rest :: k)) cs, w', _, H', ?_, hu', hK b k cs hb hk hc⟩
    have hfin : (b.at ⟨a.tmps, d :: a.defers⟩ (.inRegion ops (i :: rest) :: k)).finish undef = b.at (Act.put ⟨a.tmps, d :: a.defers⟩ o.dst undef) (.inRegion ops rest :: k) := by rw [Frame.finish_at, ho]; rfl
    have hk' : (b.kind == CallKind.early) = false := by simpa using hk
    rw [stepG_oper ho hw, ← hfin]
    simp [stepG.apply, hr, G, Frame.at, hk', GStep.after, listed]
  | enter f args =>
    refine ⟨_, w', _, H', stepG_enter ho hw hk hr, hu', ?_⟩
    exact Tree.call hK fun x H₂ γ₂ hx => by
      have e : (ops[i]?).bind (·.dst) = o.dst := by rw [ho]; rfl
      rw [e]; exact hx b k cs hb hk hc
  | _ => exact hK.elim

/-! ### a region that draws its order -/

def OpT (P : Program) (Y : Proto Γ κ) (main : Bool) (ops : Array Oper) (i : Nat) (K : Act → Hp → Γ → Prop) (a : Act) (H : Hp) (γ : Γ) : Prop :=
  match ops[i]? with
  | none => False
  | some o => if Region.wanted o (yielded ops a.tmps) then SemS P (execOp a.eval o) H (uponT P Y main o a K γ) else K (a.put o.dst undef) H γ

theorem OpT_mono {ops : Array Oper} {i : Nat} {K K' : Act → Hp → Γ → Prop} (hk : ∀ a H γ, K a H γ → K' a H γ) (h : OpT P Y main ops i K a H γ) : OpT P Y main ops i K' a H γ := by
  unfold OpT at *
  split
  · simp_all
  · rename_i o ho
    simp only [ho] at h
    split
    · rename_i hw; simp only [hw, if_true] at h; exact h.mono fun nx H' x => uponT_mono hk x
    · rename_i hw; simp only [hw] at h; exact hk _ _ _ h

theorem opsT_of_opT {ops : Array Oper} {i : Nat} {rest : List Nat} (h : OpT P Y main ops i (fun a' H' γ' => OpsT P Y main fn ops rest Q a' H' γ') a H γ) : OpsT P Y main fn ops (i :: rest) Q a H γ := by
  unfold OpT at h
  split at h
  · exact h.elim
  · rename_i o ho
    split at h
    · rename_i hw; exact opsT_cons ho hw h
    · rename_i hw; exact opsT_unwanted ho (by simpa using hw) h

/-- What is known of a cell stays known. -/
def Grow (H H' : Hp) : Prop := ∀ a v, H.cell a = some v → H'.cell a = some v

/-- Whatever order is picked from here on. 'eff': the operations that may turn what is known; every other one leaves it; those of 'grow' add to it alone. -/
def AnyT (P : Program) (Y : Proto Γ κ) (main : Bool) (ops : Array Oper) (eff grow : List Nat) (Q : Exit → Act → Hp → Γ → Prop) : Nat → Array Bool → Act → Hp → Γ → Prop
  | 0, L, a, H, γ => Region.ready .any ops L = [] ∧ Q .normal a H γ
  | fuel + 1, L, a, H, γ =>
    (Region.ready .any ops L = [] → Q .normal a H γ) ∧
    ∀ i ∈ Region.ready .any ops L, OpT P Y main ops i (fun a' H' γ' => ((i ∉ eff → H' = H) ∧ (i ∈ grow → Grow H H')) ∧ AnyT P Y main ops eff grow Q fuel (L.setIfInBounds i true) a' H' γ') a H γ

theorem anyT_sound {ops : Array Oper} {eff grow : List Nat} : ∀ (fuel t : Nat) (L : Array Bool) (a : Act) (H : Hp) (γ : Γ), AnyT P Y main ops eff grow Q fuel L a H γ →
    OpsT P Y main fn ops (Region.linearise.go .any ops fuel t L []) Q a H γ := by
  intro fuel
  induction fuel with
  | zero => intro t L a H γ h; simpa [Region.linearise.go] using opsT_nil h.2
  | succ fuel ih =>
    intro t L a H γ h
    obtain ⟨h₀, h₁⟩ := h
    simp only [Region.linearise.go]
    change OpsT P Y main fn ops (match (Region.ready .any ops L)[t % (Region.ready .any ops L).length]? with
      | some i => Region.linearise.go .any ops fuel (t / (Region.ready .any ops L).length) (L.setIfInBounds i true) [i]
      | none => [].reverse) Q a H γ
    cases hi : (Region.ready .any ops L)[t % (Region.ready .any ops L).length]? with
    | none =>
      have hnil : Region.ready .any ops L = [] := by
        cases hr : Region.ready .any ops L with
        | nil => rfl
        | cons x xs =>
          rw [hr] at hi
          have hlt : t % (x :: xs).length < (x :: xs).length := Nat.mod_lt _ (by simp)
          simp at hi
          simp at hlt
          omega
      simpa using opsT_nil (h₀ hnil)
    | some i =>
      simp only []
      rw [linearise_go_acc, List.reverse_singleton, List.singleton_append]
      exact opsT_of_opT (OpT_mono (fun a' H' γ' x => ih _ _ a' H' γ' x.2) (h₁ i (List.mem_of_getElem? hi)))

/-- In state a, with H known, operation o leaves v in its temporary and does nothing else. -/
def YieldsT (P : Program) (ops : Array Oper) (o : Oper) (v : Value) (a : Act) (H : Hp) : Prop :=
  (Region.wanted o (yielded ops a.tmps) = true ∧ SemS P (execOp a.eval o) H fun nx H' => nx = .value v ∧ H' = H) ∨
  (Region.wanted o (yielded ops a.tmps) = false ∧ v = undef)

theorem YieldsT.of_same {ops : Array Oper} {o : Oper} {v : Value} {a a' : Act} (hy : YieldsT P ops o v a H) (he : execOp a'.eval o = execOp a.eval o)
    (hw : Region.wanted o (yielded ops a'.tmps) = Region.wanted o (yielded ops a.tmps)) : YieldsT P ops o v a' H := by
  unfold YieldsT at *
  rw [he, hw]
  exact hy

theorem YieldsT.opT {ops : Array Oper} {i : Nat} {o : Oper} {v : Value} (hi : ops[i]? = some o) (hy : YieldsT P ops o v a H) {K : Act → Hp → Γ → Prop} (h : K (a.put o.dst v) H γ) : OpT P Y main ops i K a H γ := by
  unfold OpT
  simp only [hi]
  rcases hy with ⟨hw, hv⟩ | ⟨hw, rfl⟩
  · simp only [hw, if_true]
    exact hv.mono fun nx H' ⟨e1, e2⟩ => by subst e1; subst e2; exact h
  · simp only [hw, Bool.false_eq_true, if_false]; exact h

theorem OpT_put {ops : Array Oper} {j : Nat} {oi oj : Oper} {v : Value} (hj : ops[j]? = some oj) (hap : oi.apart ops oj = true)
    (hsi : ∀ cs b, oi.op ≠ .select cs b) (hsj : ∀ cs b, oj.op ≠ .select cs b) {K : Act → Hp → Γ → Prop} {S : Hp → Prop}
    (hy : ∀ H', S H' → YieldsT P ops oi v a H') (h : OpT P Y main ops j K (a.put oi.dst v) H γ) :
    OpT P Y main ops j (fun a' H' γ' => (∀ H', S H' → YieldsT P ops oi v a' H') ∧ K (a'.put oi.dst v) H' γ') a H γ := by
  obtain ⟨h1, h2, h3⟩ := Oper.apart_spec hap
  have keep : ∀ (u : Value) (H' : Hp), S H' → YieldsT P ops oi v (a.put oj.dst u) H' := fun u H' s =>
    (hy H' s).of_same (execOp_put oi hsi a oj.dst u h3) (wanted_put oi a oj.dst u h3)
  have keepD : ∀ (d : Deferred) (u : Value) (H' : Hp), S H' → YieldsT P ops oi v (Act.put { a with defers := d :: a.defers } oj.dst u) H' := fun d u H' s =>
    (keep u H' s).of_same (by cases hd : oj.dst <;> rfl) (by cases hd : oj.dst <;> rfl)
  unfold OpT at *
  simp only [hj] at *
  rw [wanted_put oj a oi.dst v h1] at h
  split
  · rename_i hw
    simp only [hw, if_true] at h
    rw [execOp_put oj hsj a oi.dst v h1] at h
    refine h.mono fun nx H' x => ?_
    cases nx with
    | value u => exact ⟨keep u, by rw [← Act.put_comm a v u h2]; exact x⟩
    | skip => exact ⟨keep _, by rw [← Act.put_comm a v undef h2]; exact x⟩
    | defer d =>
      refine ⟨keepD d _, ?_⟩
      rw [← Act.put_comm _ v undef h2, ← Act.put_defers]
      exact x
    | enter f args => exact CallsT.mono x fun u H₂ γ₂ y => ⟨keep u, by rw [← Act.put_comm a v u h2]; exact y⟩
    | _ => exact x.elim
  · rename_i hw
    simp only [hw] at h
    exact ⟨keep _, by rw [← Act.put_comm a v undef h2]; exact h⟩

/-- What has come up has all that it waits for behind it. -/
def Closed (ops : Array Oper) (L : Array Bool) : Prop := ∀ j o, ops[j]? = some o → L.getD j false = true → ∀ e ∈ o.after, Region.binds .any e = true → L.getD e.on false = true

theorem Closed.set {ops : Array Oper} {L : Array Bool} {i : Nat} (h : Closed ops L) (hr : i ∈ Region.ready .any ops L) : Closed ops (L.setIfInBounds i true) := by
  intro j o ho hj e he hb
  by_cases hij : i = j
  · subst hij
    obtain ⟨_, o', ho', hall⟩ := mem_ready.1 hr
    rw [ho] at ho'; cases ho'
    exact getD_set_true (hall e he hb)
  · rw [getD_set_ne false hij] at hj
    exact getD_set_true (h j o ho hj e he hb)

/-- The numbers that an operation waits for. -/
def edges (o : Oper) : List Nat := o.after.toList.filterMap fun e => if Region.binds .any e then some e.on else none

theorem mem_edges {o : Oper} {e : Edge} (he : e ∈ o.after) (hb : Region.binds .any e = true) : e.on ∈ edges o := by
  unfold edges
  rw [List.mem_filterMap]
  exact ⟨e, by simpa using he, by simp [hb]⟩
theorem of_mem_edges {o : Oper} {n : Nat} (h : n ∈ edges o) : ∃ e ∈ o.after, Region.binds .any e = true ∧ e.on = n := by
  unfold edges at h
  rw [List.mem_filterMap] at h
  obtain ⟨e, he, hx⟩ := h
  split at hx
  · rename_i hb; exact ⟨e, by simpa using he, hb, Option.some.inj hx⟩
  · cases hx

/-- Those that these wait for, directly or through others, are added. -/
def ancFrom (ops : Array Oper) : Nat → List Nat → List Nat
  | 0, S => S
  | k + 1, S => ancFrom ops k (if S.contains k then (match ops[k]? with | some o => edges o ++ S | none => S) else S)

/-- All that operation j waits for. -/
def ancs (ops : Array Oper) (j : Nat) : List Nat := match ops[j]? with | some o => ancFrom ops j (edges o) | none => []

theorem Closed.anc {ops : Array Oper} {L : Array Bool} (h : Closed ops L) : ∀ (k : Nat) (S : List Nat), (∀ i ∈ S, L.getD i false = true) → ∀ i ∈ ancFrom ops k S, L.getD i false = true
  | 0, S, hS, i, hi => hS i hi
  | k + 1, S, hS, i, hi => by
    unfold ancFrom at hi
    refine h.anc k _ (fun i hi => ?_) i hi
    split at hi
    · rename_i hk
      cases ho : ops[k]? with
      | none => rw [ho] at hi; exact hS i hi
      | some o =>
        rw [ho] at hi
        rcases List.mem_append.1 hi with h1 | h1
        · obtain ⟨e, he, hb, rfl⟩ := of_mem_edges h1
          exact h k o ho (hS k (by simpa using hk)) e he hb
        · exact hS i h1
    · exact hS i hi

theorem Closed.ready_anc {ops : Array Oper} {L : Array Bool} (h : Closed ops L) {j i : Nat} (hr : j ∈ Region.ready .any ops L) (hi : (ancs ops j).contains i = true) : L.getD i false = true := by
  obtain ⟨_, o, ho, hall⟩ := mem_ready.1 hr
  unfold ancs at hi
  rw [ho] at hi
  refine h.anc j (edges o) (fun n hn => ?_) i (by simpa using hi)
  obtain ⟨e, he, hb, rfl⟩ := of_mem_edges hn
  exact hall e he hb

/-- **An operation that may come up now may be taken first**, if it yields its value now, and either whatever is known then, or all that may turn what is known waits for it. -/
theorem anyT_first {ops : Array Oper} {eff grow : List Nat} {i : Nat} {oi : Oper} {v : Value} (hi : ops[i]? = some oi) (hie : i ∉ eff) (hig : i ∉ grow)
    (hsel : ∀ (j : Nat) (o : Oper) cs b, ops[j]? = some o → o.op ≠ .select cs b) (S : Hp → Prop)
    (hS : ∀ (L : Array Bool) (H H' : Hp) (j : Nat), Closed ops L → L.getD i false = false → j ∈ Region.ready .any ops L → S H → (j ∉ eff → H' = H) → (j ∈ grow → Grow H H') → S H') :
    ∀ (fuel : Nat) (L : Array Bool) (a : Act) (H : Hp) (γ : Γ), Closed ops L →
      (∀ j oj, ops[j]? = some oj → j ≠ i → L.getD j true = false → (∀ e ∈ oj.after, Region.binds .any e = true → e.on ≠ i) → oi.apart ops oj = true) →
      i ∈ Region.ready .any ops L → (∀ H', S H' → YieldsT P ops oi v a H') → S H →
      AnyT P Y main ops eff grow Q fuel (L.setIfInBounds i true) (a.put oi.dst v) H γ → AnyT P Y main ops eff grow Q (fuel + 1) L a H γ := by
  intro fuel
  induction fuel with
  | zero =>
    intro L a H γ _ hfree hr hy hSH h
    refine ⟨fun h => (by rw [h] at hr; cases hr), fun j hj => ?_⟩
    by_cases hji : j = i
    · subst hji; exact (hy H hSH).opT hi ⟨⟨fun _ => rfl, fun x => absurd x hig⟩, h⟩
    · have := ready_mono hj hji
      rw [h.1] at this
      cases this
  | succ fuel ih =>
    intro L a H γ hcl hfree hr hy hSH h
    refine ⟨fun h => (by rw [h] at hr; cases hr), fun j hj => ?_⟩
    by_cases hji : j = i
    · subst hji; exact (hy H hSH).opT hi ⟨⟨fun _ => rfl, fun x => absurd x hig⟩, h⟩
    · have h1 := h.2 j (ready_mono hj hji)
      obtain ⟨hjun, oj, hoj, hall⟩ := mem_ready.1 hj
      have hiun : L.getD i false = false := by
        have h0 := (mem_ready.1 hr).1
        rcases Nat.lt_or_ge i L.size with h' | h'
        · simp [h'] at h0 ⊢; exact h0
        · simp [Array.getElem?_eq_none h']
      have hnot : ∀ e ∈ oj.after, Region.binds .any e = true → e.on ≠ i := fun e he hb heq => by
        have h1 := hall e he hb
        rw [heq, hiun] at h1; cases h1
      have h2 := OpT_put (S := S) hoj (hfree j oj hoj hji hjun hnot) (fun cs b => hsel i oi cs b hi) (fun cs b => hsel j oj cs b hoj) hy h1
      have hfree' : ∀ k ok, ops[k]? = some ok → k ≠ i → (L.setIfInBounds j true).getD k true = false →
          (∀ e ∈ ok.after, Region.binds .any e = true → e.on ≠ i) → oi.apart ops ok = true := fun k ok hk hki hun hno => by
        refine hfree k ok hk hki ?_ hno
        by_cases hjk : j = k
        · subst hjk; exact hjun
        · rw [getD_set_ne true hjk] at hun; exact hun
      refine OpT_mono (fun a' H' γ' h3 => ⟨h3.2.1, ih (L.setIfInBounds j true) a' H' γ' (hcl.set hj) hfree' (ready_mono hr (Ne.symm hji)) h3.1 (hS L H H' j hcl hiun hj hSH h3.2.1.1 h3.2.1.2) ?_⟩) h2
      rw [Array.setIfInBounds_comm _ _ hji]
      exact h3.2.2

theorem anyT_done {ops : Array Oper} {eff grow : List Nat} {L : Array Bool} (hr : Region.ready .any ops L = []) (h : Q .normal a H γ) : ∀ fuel, AnyT P Y main ops eff grow Q fuel L a H γ
  | 0 => ⟨hr, h⟩
  | _ + 1 => ⟨fun _ => h, fun i hi => (by rw [hr] at hi; cases hi)⟩

theorem closed_none (ops : Array Oper) : Closed ops (Array.replicate ops.size false) := by
  intro j o ho hj
  have hlt : j < ops.size := (Array.getElem?_eq_some_iff.1 ho).1
  simp [hlt] at hj

/-- THE BEGINNING. -/
theorem wpT_draw {ops : Array Oper} {id : Nat} (eff grow : List Nat) (hm : P.follows .mixedOrders = true)
    (h : Closed ops (Array.replicate ops.size false) → AnyT P Y main ops eff grow Q ops.size (Array.replicate ops.size false) a H γ) : wpT P Y main fn (.region id ops true) Q a H γ := by
  intro b k cs hb hk hc
  refine .lone rfl fun w v => ⟨_, _, #[], H, stepG_region_draw, upd_drawn v _, ?_⟩
  simp only [Region.schedule, hm, Bool.true_or, if_true]
  exact anyT_sound (fn := fn) ops.size _ _ a H γ (h (closed_none ops)) b k cs hb hk hc

end
end Go.Sep
