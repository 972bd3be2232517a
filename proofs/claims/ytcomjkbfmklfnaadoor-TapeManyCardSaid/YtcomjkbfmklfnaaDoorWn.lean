/-
  What a worker knows; and the rules by which a walk comes to a meeting. Conditions: none.
-/
import Derived.Test.YtcomjkbfmklfnaaDoorWj
import Derived.Test.YtcomjkbfmklfnaaDoorWm
set_option linter.unusedSimpArgs false
set_option linter.unusedVariables false
namespace Go.Sep
open Go.Conc
section
variable {Γ κ : Type} {P : Program} {Y : Proto Γ κ} {main : Bool} {fn : FuncId} {a : Act} {H : Hp} {γ : Γ}

/-- A meeting at a channel. -/
theorem opsL_comm {ops : Array Oper} {o : Oper} {os : List Oper} {K : Act → Hp → Γ → Prop} (kd : κ) {cases : Array CommCase} {shape : CommShape} (hw : Region.wanted o (yielded ops a.tmps) = true)
    (hr : ∀ w, (execOp a.eval o).run P w = .ok (.comm cases true shape) w) (he : ∀ w, (execOp a.eval o).events P w #[] = #[])
    (hat : ∀ g, g.status = .running → (∀ w, stepG P main g w = .comm (core g) cases true shape w #[]) → Y.At kd main g H γ)
    (hout : ∀ g g' H' γ', Y.Out kd g H γ g' H' γ' → ∃ v, g' = Conc.served (core g) v ∧ OpsL P Y main fn ops os K (a.put o.dst v) H' γ') : OpsL P Y main fn ops (o :: os) K a H γ := by
  intro pre hp b k cs hb hk hc
  have ho : ops[pre.length]? = some o := by rw [← Array.getElem?_toList, hp]; simp
  rw [List.length_cons, List.range'_succ]
  refine .meet kd (hat _ rfl fun w => ?_) fun g' H' γ' hx => ?_
  · rw [stepG_comm ho hw hk (hr w)]
    unfold listed
    rw [he w, seen_none]
    rfl
  · obtain ⟨v, rfl, hn⟩ := hout _ _ _ _ hx
    rw [core_G, served_G, ho]
    have := hn (pre ++ [o]) (by rw [hp]; simp)
    rw [List.length_append, List.length_singleton] at this
    exact this b k cs hb hk hc

/-- The goroutine's ghost goes on, or a block is shared. -/
theorem wpT_ghost {c : Code} {Q : Exit → Act → Hp → Γ → Prop} {H' : Hp} {γ' : Γ} (hl : Y.Gs H γ H' γ') (h : wpT P Y main fn c Q a H' γ') : wpT P Y main fn c Q a H γ := fun b k cs hb hk hc => .ghost hl (h b k cs hb hk hc)
end
end Go.Sep
namespace Go.Proofs.YtcomjkbfmklfnaaDoor
open Go.Conc Go.Sep

def roCell (ro : Nat → Option Obj) (a : Addr) : Option Value := Hp.cell ⟨fun _ => none, ro, 0⟩ a
theorem roCell_cell {H : Hp} {a : Addr} {v : Value} (h : roCell H.ro a = some v) (ho : H.own a.block = none) : H.cell a = some v := by
  unfold roCell Hp.cell Hp.look at *
  simpa [ho] using h
theorem roCell_mono {ro ro' : Nat → Option Obj} (hm : ∀ b o, ro b = some o → ro' b = some o) {a : Addr} {v : Value} (h : roCell ro a = some v) : roCell ro' a = some v := by
  unfold roCell Hp.cell Hp.look at *
  simp only at h ⊢
  cases hb : ro a.block with
  | none => simp [hb] at h
  | some o => rw [hm _ _ hb]; simpa [hb] using h

def TapsR (ro : Nat → Option Obj) (a : Option Addr) (ls : List Tap) : Prop := Taps ⟨fun _ => none, ro, 0⟩ a ls
theorem TapsR.mono {ro ro' : Nat → Option Obj} (hm : ∀ b o, ro b = some o → ro' b = some o) {a : Option Addr} {ls : List Tap} (h : TapsR ro a ls) : TapsR ro' a ls :=
  Taps.grow h fun _ _ x => roCell_mono hm x

/-- The tapes, where the slice of them lies. -/
def TapesR (ro : Nat → Option Obj) (a : Option Addr) (tss : List (List Tap)) : Prop :=
  tss.length = 0 ∨ ∃ B off, a = some ⟨B, off, none⟩ ∧ ∀ k, k < tss.length → ∃ aL cap, roCell ro ⟨B, off + k, none⟩ = some (.slice aL (tss.getD k []).length cap) ∧ TapsR ro aL (tss.getD k [])
theorem TapesR.mono {ro ro' : Nat → Option Obj} (hm : ∀ b o, ro b = some o → ro' b = some o) {a : Option Addr} {tss : List (List Tap)} (h : TapesR ro a tss) : TapesR ro' a tss := by
  rcases h with h | ⟨B, off, e, h⟩
  · exact .inl h
  · refine .inr ⟨B, off, e, fun k hk => ?_⟩
    obtain ⟨aL, cap, h1, h2⟩ := h k hk
    exact ⟨aL, cap, roCell_mono hm h1, h2.mono hm⟩

/-- What comes of a number. -/
def resOf (tss : List (List Tap)) (ag : Int) (k : Nat) (v : Value) (car : Option (Nat × Obj)) : Prop :=
  match playR (tss.getD k []) ag with
  | .inl e => v = .agg #[numV k, .slice none 0 0, .iface 31 (.int .i64 e)] ∧ car = none
  | .inr out => ∃ B cs, v = .agg #[numV k, .slice (some ⟨B, 0, none⟩) out.length out.length, .nilIface] ∧ car = some (B, .cells cs 37 (0, 0)) ∧ Fates cs out ∧ cs.size = out.length * 2

/-- What every goroutine of the company knows. -/
structure Job (H : Hp) (φ : Ph) (tss : List (List Tap)) (ag : Int) (bt bp bd : Nat) : Prop where
  d : H.d = 0
  td : H.ro bt = some (.cells #[.chan (some φ.td)] 40 (0, 0))
  tp : ∃ a cap, H.ro bp = some (.cells #[.slice a tss.length cap] 22 (0, 0)) ∧ TapesR H.ro a tss
  pc : H.ro φ.pc = some (.cells #[.int .i64 ag] 3 (0, 0))
  dn : H.ro bd = some (.cells #[.chan (some φ.dn)] 41 (0, 0))
  m : φ.m = tss.length
  m20 : tss.length ≤ 20
  vC : φ.vC = .int .i64 ag
  res : φ.res = resOf tss ag

theorem Job.mono {H H' : Hp} {φ : Ph} {tss : List (List Tap)} {ag : Int} {bt bp bd : Nat} (j : Job H φ tss ag bt bp bd) (hd : H'.d = 0) (hm : ∀ b o, H.ro b = some o → H'.ro b = some o) : Job H' φ tss ag bt bp bd := by
  obtain ⟨a, cap, h1, h2⟩ := j.tp
  exact ⟨hd, hm _ _ j.td, ⟨a, cap, hm _ _ h1, h2.mono hm⟩, hm _ _ j.pc, hm _ _ j.dn, j.m, j.m20, j.vC, j.res⟩

theorem cell_ro0 {H : Hp} {b : Nat} {v : Value} {t : TypeId} (h : H.ro b = some (.cells #[v] t (0, 0))) (ho : H.own b = none) : H.cell ⟨b, 0, none⟩ = some v := by
  simp [Hp.cell, Hp.look, ho, h]

theorem share_set {H : Hp} {B : Nat} {o : Obj} (hb : New H B) : ((H.set B o).share B).own = H.own ∧ (∀ b x, H.ro b = some x → ((H.set B o).share B).ro b = some x) ∧ ((H.set B o).share B).ro B = some o ∧ ((H.set B o).share B).d = H.d := by
  refine ⟨funext fun b => ?_, fun b x hx => ?_, ?_, rfl⟩
  · by_cases h : b = B
    · subst h; rw [share_own, hb.1]
    · rw [share_own_ne h, set_own_ne _ _ h]
  · have h : b ≠ B := by rintro rfl; rw [hb.2] at hx; cases hx
    rw [share_ro_ne h]; exact hx
  · simp [Hp.share, set_own_same]

theorem fs54_eq : fs54 = #[fd54x0, fd54x1, fd54x2] := by kernel_rfl
theorem build54 {H : Hp} (x : Int) (a : Option Addr) (n c : Nat) (e : Value) (he : oneCell e = true) (K : Value → Hp → Prop) :
    SemS Tryd.prog (Instr.build 54 #[(0, .int .i64 x), (1, .slice a n c), (2, e)]) H K = K (.agg #[.int .i64 x, .slice a n c, e]) H := by
  simp only [Instr.build, semS_bind, semS_zeroValue, info54, zero54, semS_underlying, str54, fs54_eq, List.mapM_toArray, List.mapM_cons, List.mapM_nil, semS_map, semS_pure, semS_sizeOf, fd54x0t, fd54x1t, fd54x2t, info3, info33, info27, size3, size33, size27, fd54x0o, fd54x1o, fd54x2o]
  cases e <;> first | (cases he; done) | simp [Instr.fill, Value.cells]
end Go.Proofs.YtcomjkbfmklfnaaDoor
