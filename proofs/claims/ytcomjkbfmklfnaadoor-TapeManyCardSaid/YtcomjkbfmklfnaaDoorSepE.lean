/-
  The rules again, in the forms in which a walk uses them: what stands behind is kept behind a variable. Conditions: none.
-/
import Derived.Test.YtcomjkbfmklfnaaDoorSepD
set_option linter.unusedSimpArgs false
set_option linter.unusedVariables false
namespace Go.Sep
open Go.Conc

section
variable {Γ κ : Type} {P : Program} {Y : Proto Γ κ} {main : Bool} {fn : FuncId} {Q Q' : Exit → Act → Hp → Γ → Prop} {a : Act} {H : Hp} {γ : Γ}

/-- Left normally alone. -/
def normalQ (K : Act → Hp → Γ → Prop) : Exit → Act → Hp → Γ → Prop
  | .normal, a, H, γ => K a H γ
  | _, _, _, _ => False

theorem normalQ_mono {K : Act → Hp → Γ → Prop} (h : ∀ a H γ, K a H γ → Q .normal a H γ) : ∀ e a H γ, normalQ K e a H γ → Q e a H γ := by
  intro e a H γ x
  cases e <;> first | exact h _ _ _ x | exact x.elim

def OpsL (P : Program) (Y : Proto Γ κ) (main : Bool) (fn : FuncId) (ops : Array Oper) (os : List Oper) (K : Act → Hp → Γ → Prop) (a : Act) (H : Hp) (γ : Γ) : Prop :=
  ∀ pre, ops.toList = pre ++ os → OpsT P Y main fn ops (List.range' pre.length os.length) (normalQ K) a H γ

theorem opsT_mono {ops : Array Oper} {todo : List Nat} (h : OpsT P Y main fn ops todo Q a H γ) (hq : ∀ e a H γ, Q e a H γ → Q' e a H γ) : OpsT P Y main fn ops todo Q' a H γ :=
  fun b k cs hb hk hc => h b k cs hb hk fun e a' H' γ' q => hc _ _ _ _ (hq _ _ _ _ q)

theorem wpT_reg {id : Nat} {l : List Oper} (h : ∀ K : Act → Hp → Γ → Prop, (∀ a' H' γ', Q .normal a' H' γ' → K a' H' γ') → OpsL P Y main fn l.toArray l K a H γ) :
    wpT P Y main fn (.region id l.toArray false) Q a H γ := by
  refine wpT_region ?_
  have := h (Q .normal) (fun _ _ _ x => x) [] rfl
  simp only [List.length_nil] at this
  rw [List.size_toArray, List.range_eq_range']
  exact opsT_mono this (normalQ_mono fun _ _ _ x => x)

theorem wpT_seq_reg {id : Nat} {l : List Oper} {y : Code} (h : ∀ K : Act → Hp → Γ → Prop, (∀ a' H' γ', wpT P Y main fn y Q a' H' γ' → K a' H' γ') → OpsL P Y main fn l.toArray l K a H γ) :
    wpT P Y main fn (.seq (.region id l.toArray false) y) Q a H γ := wpT_seq (wpT_reg h)

theorem opsL_nil {ops : Array Oper} {K : Act → Hp → Γ → Prop} (h : K a H γ) : OpsL P Y main fn ops [] K a H γ := fun pre _ => opsT_nil (Q := normalQ K) h

theorem opsL_cons {ops : Array Oper} {o : Oper} {os : List Oper} {K : Act → Hp → Γ → Prop} (hw : Region.wanted o (yielded ops a.tmps) = true)
    (h : ∀ K' : Act → Hp → Γ → Prop, (∀ a' H' γ', OpsL P Y main fn ops os K a' H' γ' → K' a' H' γ') → SemS P (execOp a.eval o) H (uponT P Y main o a K' γ)) : OpsL P Y main fn ops (o :: os) K a H γ := by
  intro pre hp
  have ho : ops[pre.length]? = some o := by rw [← Array.getElem?_toList, hp]; simp
  rw [List.length_cons, List.range'_succ]
  refine opsT_cons ho hw ?_
  refine h _ fun a' H' γ' x => ?_
  have := x (pre ++ [o]) (by rw [hp]; simp)
  rw [List.length_append, List.length_singleton] at this
  exact this

theorem opsL_unwanted {ops : Array Oper} {o : Oper} {os : List Oper} {K : Act → Hp → Γ → Prop} (hw : Region.wanted o (yielded ops a.tmps) = false)
    (h : OpsL P Y main fn ops os K (a.put o.dst undef) H γ) : OpsL P Y main fn ops (o :: os) K a H γ := by
  intro pre hp
  have ho : ops[pre.length]? = some o := by rw [← Array.getElem?_toList, hp]; simp
  rw [List.length_cons, List.range'_succ]
  refine opsT_unwanted ho hw ?_
  have := h (pre ++ [o]) (by rw [hp]; simp)
  rw [List.length_append, List.length_singleton] at this
  exact this

theorem opsL_less {ops : Array Oper} {os : List Oper} {K : Act → Hp → Γ → Prop} {H' : Hp} (hl : Less H H') (h : OpsL P Y main fn ops os K a H' γ) : OpsL P Y main fn ops os K a H γ := fun pre hp => opsT_less hl (h pre hp)

/-! ### a region that draws its order and only reads: it is gone through in the text's order -/

/-- In the text's order each operation leaves a value and does nothing else. -/
def QuietL (P : Program) (ops : Array Oper) (os : List Oper) (K : Act → Prop) (a : Act) (H : Hp) : Prop :=
  match os with
  | [] => K a
  | o :: os => ∃ v, YieldsT P ops o v a H ∧ QuietL P ops os K (a.put o.dst v) H

theorem quietL_nil {ops : Array Oper} {K : Act → Prop} (h : K a) : QuietL P ops [] K a H := h

theorem quietL_cons {ops : Array Oper} {o : Oper} {os : List Oper} {K : Act → Prop} (hw : Region.wanted o (yielded ops a.tmps) = true) {v : Value}
    (h : ∀ K' : Next → Hp → Prop, K' (.value v) H → SemS P (execOp a.eval o) H K') (hn : QuietL P ops os K (a.put o.dst v) H) : QuietL P ops (o :: os) K a H :=
  ⟨v, .inl ⟨hw, h _ ⟨rfl, rfl⟩⟩, hn⟩

theorem quietL_unwanted {ops : Array Oper} {o : Oper} {os : List Oper} {K : Act → Prop} (hw : Region.wanted o (yielded ops a.tmps) = false)
    (hn : QuietL P ops os K (a.put o.dst undef) H) : QuietL P ops (o :: os) K a H := ⟨undef, .inr ⟨hw, rfl⟩, hn⟩

/-- The text's order is one of those that may be drawn; one of 'eff' comes up alone; each other one is free of those that might come ahead of it. -/
def textOk (ops : Array Oper) (eff : List Nat) : Nat → List Oper → Bool
  | _, [] => true
  | i, o :: os => (edges o).all (fun e => e < i) && (if eff.contains i then os.all (fun oj => (edges oj).any fun e => i ≤ e) else os.all fun oj => (edges oj).contains i || o.apart ops oj) && textOk ops eff (i + 1) os

/-- The first i have come up. -/
structure UpTo (L : Array Bool) (i n : Nat) : Prop where
  size : L.size = n
  at_ : ∀ j, j < n → L[j]? = some (decide (j < i))

theorem UpTo.start (n : Nat) : UpTo (Array.replicate n false) 0 n := ⟨by simp, fun j hj => by simp [hj]⟩
theorem UpTo.next {L : Array Bool} {i n : Nat} (h : UpTo L i n) (hi : i < n) : UpTo (L.setIfInBounds i true) (i + 1) n := by
  refine ⟨by simp [h.size], fun j hj => ?_⟩
  by_cases hij : i = j
  · subst hij; rw [Array.getElem?_setIfInBounds_self_of_lt (by rw [h.size]; exact hi)]; simp
  · rw [Array.getElem?_setIfInBounds_ne hij, h.at_ j hj]
    congr 1
    exact decide_eq_decide.2 (by omega)

theorem UpTo.ready {ops : Array Oper} {L : Array Bool} {i : Nat} {o : Oper} (h : UpTo L i ops.size) (ho : ops[i]? = some o) (hall : (edges o).all (fun e => e < i) = true) : i ∈ Region.ready .any ops L := by
  have hi : i < ops.size := (Array.getElem?_eq_some_iff.1 ho).1
  rw [mem_ready]
  refine ⟨by simp [Array.getD_eq_getD_getElem?, h.at_ i hi], o, ho, fun e he hb => ?_⟩
  have h1 := List.all_eq_true.1 hall _ (mem_edges he hb)
  have h2 : e.on < i := by simpa using h1
  simp [Array.getD_eq_getD_getElem?, h.at_ e.on (by omega), h2]

theorem UpTo.unlisted {ops : Array Oper} {L : Array Bool} {i j : Nat} (h : UpTo L i ops.size) (hj : j < ops.size) (hu : L.getD j true = false) : i ≤ j := by
  have := h.at_ j hj
  simp [Array.getD_eq_getD_getElem?, this] at hu
  exact hu

theorem UpTo.free {ops : Array Oper} {L : Array Bool} {pre os : List Oper} {o : Oper} (h : UpTo L pre.length ops.size) (hp : ops.toList = pre ++ o :: os) (hc : os.all (fun oj => (edges oj).contains pre.length || o.apart ops oj) = true) :
    ∀ j oj, ops[j]? = some oj → j ≠ pre.length → L.getD j true = false → (∀ e ∈ oj.after, Region.binds .any e = true → e.on ≠ pre.length) → o.apart ops oj = true := by
  intro j oj hj hne hu hno
  have hlt : j < ops.size := (Array.getElem?_eq_some_iff.1 hj).1
  have hge := h.unlisted hlt hu
  have hmem : oj ∈ os := by
    rw [← Array.getElem?_toList, hp, List.getElem?_append_right (by omega)] at hj
    have e : j - pre.length = (j - pre.length - 1) + 1 := by omega
    rw [e, List.getElem?_cons_succ] at hj
    exact List.mem_of_getElem? hj
  have := List.all_eq_true.1 hc oj hmem
  simp only [Bool.or_eq_true] at this
  rcases this with h1 | h1
  · obtain ⟨e, he, hb, hon⟩ := of_mem_edges (by simpa using h1)
    exact absurd hon (hno e he hb)
  · exact h1

theorem UpTo.alone {ops : Array Oper} {L : Array Bool} {pre os : List Oper} {o : Oper} (h : UpTo L pre.length ops.size) (hp : ops.toList = pre ++ o :: os) (hall : (edges o).all (fun e => e < pre.length) = true) (hc : os.all (fun oj => (edges oj).any fun e => pre.length ≤ e) = true) :
    ∀ j, j ∈ Region.ready .any ops L → j = pre.length := by
  intro j hj
  obtain ⟨hu, oj, hoj, hx⟩ := mem_ready.1 hj
  have hlt : j < ops.size := (Array.getElem?_eq_some_iff.1 hoj).1
  have hge := h.unlisted hlt hu
  rcases Nat.eq_or_lt_of_le hge with h1 | h1
  · exact h1.symm
  · exfalso
    have hmem : oj ∈ os := by
      rw [← Array.getElem?_toList, hp, List.getElem?_append_right (by omega)] at hoj
      have e : j - pre.length = (j - pre.length - 1) + 1 := by omega
      rw [e, List.getElem?_cons_succ] at hoj
      exact List.mem_of_getElem? hoj
    obtain ⟨n, hn, hn2⟩ := List.any_eq_true.1 (List.all_eq_true.1 hc oj hmem)
    obtain ⟨e, he, hb, hon⟩ := of_mem_edges hn
    have h2 := hx e he hb
    rw [hon] at h2
    have hn3 : pre.length ≤ n := by simpa using hn2
    rcases Nat.lt_or_ge n ops.size with hs | hs
    · have h4 := h.at_ n hs
      simp [Array.getD_eq_getD_getElem?, h4] at h2
      omega
    · simp [Array.getD_eq_getD_getElem?, Array.getElem?_eq_none (h.size ▸ hs)] at h2

theorem UpTo.done {ops : Array Oper} {L : Array Bool} (h : UpTo L ops.size ops.size) : Region.ready .any ops L = [] := by
  rw [List.eq_nil_iff_forall_not_mem]
  intro j hj
  obtain ⟨hu, oj, hoj, _⟩ := mem_ready.1 hj
  have hlt : j < ops.size := (Array.getElem?_eq_some_iff.1 hoj).1
  have := h.unlisted hlt hu
  omega

theorem anyT_text {ops : Array Oper} (hs : Region.noSelect ops = true) {K : Act → Prop} : ∀ (os : List Oper) (pre : List Oper) (L : Array Bool) (a : Act), ops.toList = pre ++ os → textOk ops [] pre.length os = true → Closed ops L → UpTo L pre.length ops.size →
    QuietL P ops os K a H → (∀ a, K a → Q .normal a H γ) → AnyT P Y main ops [] [] Q os.length L a H γ
  | [], pre, L, a, hp, _, _, hup, h, hk => by
    have hl : ops.size = pre.length := by rw [← Array.length_toList, hp]; simp
    exact anyT_done (by rw [← hl] at hup; exact hup.done) (hk a h) _
  | o :: os, pre, L, a, hp, ht, hcl, hup, ⟨v, hy, hn⟩, hk => by
    have ho : ops[pre.length]? = some o := by rw [← Array.getElem?_toList, hp]; simp
    have hlt : pre.length < ops.size := (Array.getElem?_eq_some_iff.1 ho).1
    simp only [textOk, Bool.and_eq_true] at ht
    have hr := hup.ready ho ht.1.1
    have hfr : os.all (fun oj => (edges oj).contains pre.length || o.apart ops oj) = true := by simpa using ht.1.2
    have hy' : ∀ H', H' = H → YieldsT P ops o v a H' := fun H' e => e ▸ hy
    have hrest := anyT_text hs os (pre ++ [o]) (L.setIfInBounds pre.length true) (a.put o.dst v) (by rw [hp]; simp) (by simpa using ht.2) (hcl.set hr) (by simpa using hup.next hlt) hn hk
    exact anyT_first ho (by simp) (by simp) (Region.noSelect_spec hs) (fun H' => H' = H) (fun L' H₁ H₂ j _ _ _ e hk _ => (hk (by simp)).trans e) _ L a H γ hcl (hup.free hp hfr) hr hy' rfl hrest

theorem wpT_quiet {id : Nat} {l : List Oper} (hm : P.follows .mixedOrders = true) (hs : Region.noSelect l.toArray = true) (ht : textOk l.toArray [] 0 l = true)
    (h : ∀ K : Act → Prop, (∀ a', Q .normal a' H γ → K a') → QuietL P l.toArray l K a H) : wpT P Y main fn (.region id l.toArray true) Q a H γ := by
  refine wpT_draw [] [] hm fun hcl => ?_
  have := anyT_text (P := P) (Y := Y) (main := main) (Q := Q) (γ := γ) hs l [] (Array.replicate l.length false) a rfl ht (by simpa using hcl) (by simpa using UpTo.start l.length) (h (fun a' => Q .normal a' H γ) fun _ x => x) (fun _ x => x)
  simpa using this

theorem wpT_seq_quiet {id : Nat} {l : List Oper} {y : Code} (hm : P.follows .mixedOrders = true) (hs : Region.noSelect l.toArray = true) (ht : textOk l.toArray [] 0 l = true)
    (h : ∀ K : Act → Prop, (∀ a', wpT P Y main fn y Q a' H γ → K a') → QuietL P l.toArray l K a H) : wpT P Y main fn (.seq (.region id l.toArray true) y) Q a H γ := wpT_seq (wpT_quiet hm hs ht h)

/-! ### a region that draws its order, some of whose operations turn what is known: in the text's order -/

/-- From operation number i on, in the text's order. -/
def RunL (P : Program) (Y : Proto Γ κ) (main : Bool) (ops : Array Oper) (eff grow : List Nat) : List Oper → Nat → (Act → Hp → Γ → Prop) → Act → Hp → Γ → Prop
  | [], _, K, a, H, γ => K a H γ
  | o :: os, i, K, a, H, γ =>
    if eff.contains i then
      (if Region.wanted o (yielded ops a.tmps) then SemS P (execOp a.eval o) H (uponT P Y main o a (fun a' H' γ' => (i ∈ grow → Grow H H') ∧ RunL P Y main ops eff grow os (i + 1) K a' H' γ') γ) else RunL P Y main ops eff grow os (i + 1) K (a.put o.dst undef) H γ)
    else grow.contains i = false ∧ ∃ v, (if eff.all (fun j => grow.contains j || (ancs ops j).contains i) then (∀ H', Grow H H' → YieldsT P ops o v a H') else ∀ H', YieldsT P ops o v a H') ∧ RunL P Y main ops eff grow os (i + 1) K (a.put o.dst v) H γ

theorem Grow.refl (H : Hp) : Grow H H := fun _ _ h => h
theorem Grow.trans {H H₁ H₂ : Hp} (h : Grow H H₁) (k : Grow H₁ H₂) : Grow H H₂ := fun a v x => k a v (h a v x)
theorem Grow.set {H : Hp} {n : Nat} (o : Obj) (h1 : H.own n = none) (h2 : H.ro n = none) : Grow H (H.set n o) := by
  intro a v hc
  unfold Hp.cell Hp.look at *
  by_cases hb : a.block = n
  · rw [hb, h1, h2] at hc; cases hc
  · rw [set_own_ne _ _ hb, set_ro]; exact hc

theorem anyT_run {ops : Array Oper} {eff grow : List Nat} (hs : Region.noSelect ops = true) {K : Act → Hp → Γ → Prop} (hk : ∀ a H γ, K a H γ → Q .normal a H γ) : ∀ (os : List Oper) (pre : List Oper) (L : Array Bool) (a : Act) (H : Hp) (γ : Γ), ops.toList = pre ++ os → textOk ops eff pre.length os = true → Closed ops L → UpTo L pre.length ops.size →
    RunL P Y main ops eff grow os pre.length K a H γ → AnyT P Y main ops eff grow Q os.length L a H γ
  | [], pre, L, a, H, γ, hp, _, _, hup, h => by
    have hl : ops.size = pre.length := by rw [← Array.length_toList, hp]; simp
    exact anyT_done (by rw [← hl] at hup; exact hup.done) (hk _ _ _ h) _
  | o :: os, pre, L, a, H, γ, hp, ht, hcl, hup, h => by
    have ho : ops[pre.length]? = some o := by rw [← Array.getElem?_toList, hp]; simp
    have hlt : pre.length < ops.size := (Array.getElem?_eq_some_iff.1 ho).1
    have hpre : pre.length + 1 = (pre ++ [o]).length := by simp
    have hp' : ops.toList = (pre ++ [o]) ++ os := by rw [hp]; simp
    have hup' := hup.next hlt
    rw [hpre] at hup'
    simp only [textOk, Bool.and_eq_true] at ht
    have hr := hup.ready ho ht.1.1
    unfold RunL at h
    by_cases he : eff.contains pre.length = true
    · simp only [he, if_true] at ht h
      have hal := hup.alone hp ht.1.1 ht.1.2
      refine ⟨fun h0 => (by rw [h0] at hr; cases hr), fun j hj => ?_⟩
      obtain rfl := hal j hj
      have he' : pre.length ∈ eff := by simpa using he
      unfold OpT
      simp only [ho]
      by_cases hw : Region.wanted o (yielded ops a.tmps) = true
      · simp only [hw, if_true] at h ⊢
        exact h.mono fun nx H' x => uponT_mono (fun a' H'' γ' y => ⟨⟨fun hn => absurd he' hn, y.1⟩, anyT_run hs hk os (pre ++ [o]) _ a' H'' γ' hp' (by rw [← hpre]; exact ht.2) (hcl.set hr) hup' (by rw [← hpre]; exact y.2)⟩) x
      · simp only [hw, Bool.false_eq_true, if_false] at h ⊢
        exact ⟨⟨fun hn => absurd he' hn, fun _ => Grow.refl H⟩, anyT_run hs hk os (pre ++ [o]) _ _ H γ hp' (by rw [← hpre]; exact ht.2) (hcl.set hr) hup' (by rw [← hpre]; exact h)⟩
    · simp only [he, Bool.false_eq_true, if_false] at ht h
      obtain ⟨hg, v, hy, hn⟩ := h
      have he' : pre.length ∉ eff := by simpa using he
      have hg' : pre.length ∉ grow := by simpa using hg
      have hrest := anyT_run hs hk os (pre ++ [o]) (L.setIfInBounds pre.length true) (a.put o.dst v) H γ hp' (by rw [← hpre]; exact ht.2) (hcl.set hr) hup' (by rw [← hpre]; exact hn)
      by_cases haw : eff.all (fun j => grow.contains j || (ancs ops j).contains pre.length) = true
      · simp only [haw, if_true] at hy
        refine anyT_first ho he' hg' (Region.noSelect_spec hs) (fun H' => Grow H H') (fun L' H₁ H₂ j hcl' hun hj e hk hgr => ?_) _ L a H γ hcl (hup.free hp ht.1.2) hr (fun H' e => hy H' e) (Grow.refl H) hrest
        by_cases hje : j ∈ eff
        · have := List.all_eq_true.1 haw j hje
          simp only [Bool.or_eq_true] at this
          rcases this with h1 | h1
          · exact e.trans (hgr (by simpa using h1))
          · have h2 := hcl'.ready_anc hj h1
            rw [hun] at h2; cases h2
        · rw [hk hje]; exact e
      · simp only [haw, Bool.false_eq_true, if_false] at hy
        exact anyT_first ho he' hg' (Region.noSelect_spec hs) (fun _ => True) (fun _ _ _ _ _ _ _ _ _ _ => trivial) _ L a H γ hcl (hup.free hp ht.1.2) hr (fun H' _ => hy H') trivial hrest

theorem wpT_run {id : Nat} {l : List Oper} (eff grow : List Nat) (hm : P.follows .mixedOrders = true) (hs : Region.noSelect l.toArray = true) (ht : textOk l.toArray eff 0 l = true)
    (h : ∀ K : Act → Hp → Γ → Prop, (∀ a' H' γ', Q .normal a' H' γ' → K a' H' γ') → RunL P Y main l.toArray eff grow l 0 K a H γ) : wpT P Y main fn (.region id l.toArray true) Q a H γ := by
  refine wpT_draw eff grow hm fun hcl => ?_
  have := anyT_run (P := P) (Y := Y) (main := main) (Q := Q) hs (fun _ _ _ x => x) l [] (Array.replicate l.length false) a H γ rfl ht (by simpa using hcl) (by simpa using UpTo.start l.length) (h (fun a' H' γ' => Q .normal a' H' γ') fun _ _ _ x => x)
  simpa using this

theorem wpT_seq_run {id : Nat} {l : List Oper} {y : Code} (eff grow : List Nat) (hm : P.follows .mixedOrders = true) (hs : Region.noSelect l.toArray = true) (ht : textOk l.toArray eff 0 l = true)
    (h : ∀ K : Act → Hp → Γ → Prop, (∀ a' H' γ', wpT P Y main fn y Q a' H' γ' → K a' H' γ') → RunL P Y main l.toArray eff grow l 0 K a H γ) : wpT P Y main fn (.seq (.region id l.toArray true) y) Q a H γ := wpT_seq (wpT_run eff grow hm hs ht h)

theorem runL_nil {ops : Array Oper} {eff grow : List Nat} {i : Nat} {K : Act → Hp → Γ → Prop} (h : K a H γ) : RunL P Y main ops eff grow [] i K a H γ := h

/-- One that may turn what is known. -/
theorem runL_eff {ops : Array Oper} {eff grow : List Nat} {i : Nat} {o : Oper} {os : List Oper} {K : Act → Hp → Γ → Prop} (hi : eff.contains i = true) (hg : grow.contains i = false) (hw : Region.wanted o (yielded ops a.tmps) = true)
    (h : ∀ K' : Act → Hp → Γ → Prop, (∀ a' H' γ', RunL P Y main ops eff grow os (i + 1) K a' H' γ' → K' a' H' γ') → SemS P (execOp a.eval o) H (uponT P Y main o a K' γ)) : RunL P Y main ops eff grow (o :: os) i K a H γ := by
  have hg' : i ∉ grow := by simpa using hg
  unfold RunL
  simp only [hi, if_true, hw]
  exact h _ fun _ _ _ x => ⟨fun y => absurd y hg', x⟩

/-- One that adds to what is known. -/
theorem runL_grow {ops : Array Oper} {eff grow : List Nat} {i : Nat} {o : Oper} {os : List Oper} {K : Act → Hp → Γ → Prop} (hi : eff.contains i = true) (hw : Region.wanted o (yielded ops a.tmps) = true)
    (h : ∀ K' : Act → Hp → Γ → Prop, (∀ a' H' γ', Grow H H' → RunL P Y main ops eff grow os (i + 1) K a' H' γ' → K' a' H' γ') → SemS P (execOp a.eval o) H (uponT P Y main o a K' γ)) : RunL P Y main ops eff grow (o :: os) i K a H γ := by
  unfold RunL
  simp only [hi, if_true, hw]
  exact h _ fun _ _ _ g x => ⟨fun _ => g, x⟩

/-- One that reads. -/
theorem runL_read {ops : Array Oper} {eff grow : List Nat} {i : Nat} {o : Oper} {os : List Oper} {K : Act → Hp → Γ → Prop} (hi : eff.contains i = false) (hg : grow.contains i = false) (ha : eff.all (fun j => grow.contains j || (ancs ops j).contains i) = true) (hw : Region.wanted o (yielded ops a.tmps) = true) {v : Value}
    (h : ∀ (H' : Hp), Grow H H' → ∀ K' : Next → Hp → Prop, K' (.value v) H' → SemS P (execOp a.eval o) H' K') (hn : RunL P Y main ops eff grow os (i + 1) K (a.put o.dst v) H γ) : RunL P Y main ops eff grow (o :: os) i K a H γ := by
  unfold RunL
  simp only [hi, Bool.false_eq_true, if_false, ha, if_true]
  exact ⟨hg, v, fun H' g => .inl ⟨hw, h H' g _ ⟨rfl, rfl⟩⟩, hn⟩

/-- One that only reckons. -/
theorem runL_pure {ops : Array Oper} {eff grow : List Nat} {i : Nat} {o : Oper} {os : List Oper} {K : Act → Hp → Γ → Prop} (hi : eff.contains i = false) (hg : grow.contains i = false) (hw : Region.wanted o (yielded ops a.tmps) = true) {v : Value}
    (h : ∀ (H' : Hp) (K' : Next → Hp → Prop), K' (.value v) H' → SemS P (execOp a.eval o) H' K') (hn : RunL P Y main ops eff grow os (i + 1) K (a.put o.dst v) H γ) : RunL P Y main ops eff grow (o :: os) i K a H γ := by
  unfold RunL
  simp only [hi, Bool.false_eq_true, if_false]
  refine ⟨hg, v, ?_, hn⟩
  split
  · exact fun H' _ => .inl ⟨hw, h H' _ ⟨rfl, rfl⟩⟩
  · exact fun H' => .inl ⟨hw, h H' _ ⟨rfl, rfl⟩⟩

/-! ### a loop in its block -/

/-- What a round of a loop may come to: once more; out of the loop; a way out of more than the loop. -/
def loopQ (id : Nat) (Again Out : Act → Hp → Γ → Prop) (Q : Exit → Act → Hp → Γ → Prop) : Exit → Act → Hp → Γ → Prop
  | .normal, a, H, γ => Again a H γ
  | .exit id', a, H, γ => if id' = id then Out a H γ else Q (.exit id') a H γ
  | e, a, H, γ => Q e a H γ

theorem wpT_block_loop {id : Nat} {c : Code} (I : Act → Hp → Γ → Prop) (μ : Act → Hp → Γ → Nat) (h₀ : I a H γ)
    (round : ∀ (a : Act) (H : Hp) (γ : Γ), I a H γ → ∀ Again Out : Act → Hp → Γ → Prop, (∀ a' H' γ', I a' H' γ' → μ a' H' γ' < μ a H γ → Again a' H' γ') → (∀ a' H' γ', Q .normal a' H' γ' → Out a' H' γ') → wpT P Y main fn c (loopQ id Again Out Q) a H γ) :
    wpT P Y main fn (.block id (.loop c)) Q a H γ := by
  refine wpT_block (wpT_loop I μ h₀ fun a H γ hI => ?_)
  refine wpT_mono (round a H γ hI (fun a' H' γ' => I a' H' γ' ∧ μ a' H' γ' < μ a H γ) (fun a' H' γ' => Q .normal a' H' γ') (fun _ _ _ x y => ⟨x, y⟩) (fun _ _ _ x => x)) fun e a' H' γ' q => ?_
  cases e <;> first | exact q | (simp only [loopQ, thenT, inBlockT] at q ⊢; exact q)

theorem wpT_seq_loop {id : Nat} {c y : Code} (I : Act → Hp → Γ → Prop) (μ : Act → Hp → Γ → Nat) (h₀ : I a H γ)
    (round : ∀ (a : Act) (H : Hp) (γ : Γ), I a H γ → ∀ Again Out : Act → Hp → Γ → Prop, (∀ a' H' γ', I a' H' γ' → μ a' H' γ' < μ a H γ → Again a' H' γ') → (∀ a' H' γ', wpT P Y main fn y Q a' H' γ' → Out a' H' γ') → wpT P Y main fn c (loopQ id Again Out Q) a H γ) :
    wpT P Y main fn (.seq (.block id (.loop c)) y) Q a H γ := by
  refine wpT_seq (wpT_block_loop I μ h₀ fun a H γ hI Again Out h1 h2 => ?_)
  refine wpT_mono (round a H γ hI Again Out h1 h2) fun e a' H' γ' q => ?_
  cases e <;> first | exact q | (simp only [loopQ, thenT] at q ⊢; exact q)

/-! ### the beginning and the end of a function -/

theorem Less.refl (H : Hp) : Less H H := ⟨fun _ _ h => h, fun _ _ h => h, rfl⟩
theorem Less.trans {H H₁ H₂ : Hp} (h : Less H H₁) (k : Less H₁ H₂) : Less H H₂ := ⟨fun b o x => h.own b o (k.own b o x), fun b o x => h.ro b o (k.ro b o x), k.d.trans h.d⟩

theorem After.less {b : Frame} {k : List Item} {cs : List Frame} {e : Exit} {H' : Hp} (hl : Less H H') (h : After P Y main b k cs e a H' γ) : After P Y main b k cs e a H γ := by
  cases e with
  | normal => exact Tree.less hl h
  | exit id => obtain ⟨k', hk, ht⟩ := h; exact ⟨k', hk, .less hl ht⟩
  | ret => exact fun todo => .less hl (h todo)
  | goto l => exact h
  | panic ch => exact h
  | outgrown => exact h

theorem wpT_of_less {c : Code} (h : wpT P Y main fn c (fun e a H γ => ∃ H', Less H H' ∧ Q e a H' γ) a H γ) : wpT P Y main fn c Q a H γ :=
  fun b k cs hb hk hc => h b k cs hb hk fun e a' H' γ' ⟨H₂, hl, q⟩ => (hc e a' H₂ γ' q).less hl

theorem callsT_enter {f : FuncId} {fn : Func} {c : Code} {la T : List Value} {Post : Value → Hp → Γ → Prop} (hf : P.funcs[f]? = some fn) (hb : fn.body = some c) {n : Nat} (hn : fn.ntmps = n) (hT : la ++ List.replicate (n - la.length) undef = T)
    (h : ∀ Q : Exit → Act → Hp → Γ → Prop, (∀ a H γ, bodyPostT P fn Post .ret a H γ → Q .ret a H γ) → (∀ a H γ, bodyPostT P fn Post .ret a H γ → Q .normal a H γ) → (∀ e a H H' γ, Less H H' → Q e a H' γ → Q e a H γ) → wpT P Y main f c Q { tmps := T.toArray, defers := [] } H γ) : CallsT P Y main f la.toArray H γ Post := by
  refine ⟨fn, c, hf, hb, ?_⟩
  have e : la.toArray ++ Array.replicate (fn.ntmps - la.toArray.size) undef = T.toArray := by
    rw [hn, ← hT]; simp
  rw [e]
  exact wpT_of_less (h _ (fun _ H _ x => ⟨H, Less.refl H, x⟩) (fun _ H _ x => ⟨H, Less.refl H, x⟩) (fun _ _ _ _ _ hl ⟨H₂, h2, q⟩ => ⟨H₂, hl.trans h2, q⟩))

theorem less_set {n : Nat} (o : Obj) (h1 : H.own n = none) : Less (H.set n o) H := by
  refine ⟨fun b x h => ?_, fun _ _ h => h, rfl⟩
  by_cases hb : b = n
  · subst hb; rw [h1] at h; cases h
  · rw [set_own_ne _ _ hb]; exact h
theorem less_of_set {n : Nat} (o : Obj) {H' : Hp} (h : Less H H') : Less (H.set n o) (H'.set n o) := by
  refine ⟨fun b x hx => ?_, h.ro, h.d⟩
  by_cases hb : b = n
  · subst hb; rw [set_own_same] at hx ⊢; exact hx
  · rw [set_own_ne _ _ hb] at hx ⊢; exact h.own b x hx

theorem bodyPost_ret1 {fnc : Func} {t : Tmp} {tmps : Array Value} {Post : Value → Hp → Γ → Prop} (hr : fnc.results = #[.tmp t]) (h : Post (tmps.getD t undef) H γ) : bodyPostT P fnc Post .ret ⟨tmps, []⟩ H γ := ⟨_, resultsC_tmp hr tmps, h⟩
theorem bodyPost_ret0 {fnc : Func} {tmps : Array Value} {Post : Value → Hp → Γ → Prop} (hr : fnc.results = #[]) (h : Post (.tuple #[]) H γ) : bodyPostT P fnc Post .ret ⟨tmps, []⟩ H γ := ⟨_, resultsC_none hr tmps, h⟩
theorem bodyPost_ret2 {fnc : Func} {t u : Tmp} {tmps : Array Value} {Post : Value → Hp → Γ → Prop} (hr : fnc.results = #[.tmp t, .tmp u]) (h : Post (.tuple #[tmps.getD t undef, tmps.getD u undef]) H γ) : bodyPostT P fnc Post .ret ⟨tmps, []⟩ H γ := ⟨_, resultsC_tmp2 hr tmps, h⟩

end
end Go.Sep
