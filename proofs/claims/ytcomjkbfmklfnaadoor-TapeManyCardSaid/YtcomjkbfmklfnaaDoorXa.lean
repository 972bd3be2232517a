/-
  THE ROW of 'foresightkeep.TapeMany', proved. Conditions: none.
-/
import Derived.Test.YtcomjkbfmklfnaaDoorWz
import Derived.ChangeSame
import Derived.ChangeVars
import Derived.JoinedOf
import Derived.RowKit
import Derived.RowKitTokens
import Derived.Stop.Joined
set_option linter.unusedSimpArgs false
set_option linter.unusedVariables false
namespace Go.Proofs.YtcomjkbfmklfnaaDoor
open Go.ChangeShapes Go.WideShapes Go.ChangeAt Go.RowKit Go.Conc Go.Sep

theorem Tryd.own : ownKnob Tryd.prog.godebug = none := by kernel_rfl
theorem Tryd.laidOut : laidOutB Tryd.prog = true := by kernel_rfl
theorem etAt : Tryd.prog.globalNamed "errors.errorType" = some 0 := by kernel_rfl
theorem rtAt : (Tryd.prog.cutTypes.find? (·.1 == "internal/reflectlite.rtype")).map (·.2) = some 109 := by kernel_rfl
theorem oneRow : ((List.range 151).filter fun t => Tryd.prog.rowNamed t [101, 114, 114, 111, 114]) = [27] := by kernel_rfl
theorem typesSize : Tryd.prog.types.size = 151 := by kernel_rfl

/-- What the condition gives: the variable's one cell. -/
theorem handle_of_laid {W : World} (h : laidMetH Tryd.prog Rows.tapeManyRow.laid W) : W.cell? ⟨0, 0, none⟩ = some (.iface 109 (.agg #[.pointer (some ⟨1, 27, none⟩)])) := by
  have h' : laidMet Tryd.prog [] W ∧ handlesMet Tryd.prog Rows.tapeManyRow.laid W := h
  obtain ⟨name, u, ty, e1, e2, e3, e4, e5⟩ := h'.2 _ (List.mem_singleton.2 rfl)
  have en : name = [101, 114, 114, 111, 114] := (Option.some.inj e1).symm
  subst en
  obtain rfl := Option.some.inj (rtAt.symm.trans e2)
  have hm : ty ∈ (List.range 151).filter fun t => Tryd.prog.rowNamed t [101, 114, 114, 111, 114] := List.mem_filter.2 ⟨List.mem_range.2 (by rw [← typesSize]; exact e3), e4⟩
  rw [oneRow] at hm
  obtain rfl := List.mem_singleton.1 hm
  have hh : typeHandle Tryd.prog 27 = .pointer (some ⟨1, 27, none⟩) := by kernel_rfl
  rw [hh] at e5
  simpa using World.var?_cell etAt e5 0

/-- A world that meets the condition: the settled one, the variable's cell laid. -/
noncomputable def laidWorld (os : Os) : World :=
  let w0 := World.holding Tryd.prog os ⟨#[], #[], []⟩
  { w0 with heap := w0.heap.modify 0 fun
      | .cells _ t frozen => .cells #[.iface 109 (.agg #[.pointer (some ⟨1, 27, none⟩)])] t frozen
      | o => o }
theorem laidWorld_met (os : Os) (args : Array Value) : laidMetH Tryd.prog Rows.tapeManyRow.laid ((laidWorld os).forCall (fun _ _ => 0) ⟨#[], args, []⟩).memory :=
  laidMetH_of_parts (laidMet_nil _ _) (by kernel_rfl)

/-! ### the whole run -/
theorem stepG_finish {P : Program} {b : Frame} {a : Act} {todo : List Item} {fn : Func} {v : Value} {w : World} (hn : b.kind = .normal) (hd : a.defers = []) (hi : P.inits.idxOf? b.fn = none) (hf : P.funcs[b.fn]? = some fn)
    (hr : (results fn a.tmps).run P w = .ok v w) (he : (results fn a.tmps).events P w #[] = #[]) : stepG P true (G { b.at a todo with mode := .returning } []) w = .ended (.done v) w #[] := by
  simp [G, stepG, Go.unwind, doReturn, Frame.at, hn, hd, hi, hf, hr, he, seen, GStep.after]

theorem tree_of_calls {P : Program} {Q : Value → Prop} {f : FuncId} {args : Array Value} {H : Hp} (hi : P.inits.idxOf? f = none) (h : CallsT P (company P Q) true f args H .lone (fun v H' γ' => Q v ∧ γ' = .lone)) :
    Tree P (company P Q) true (G (Frame.enter P f args .normal) []) H .lone := by
  obtain ⟨fn, c, hf, hb, hw⟩ := h
  have hleave : ∀ (a' : Act) (H' : Hp) (γ' : Gh) (todo : List Item), Unw P a'.defers H' (fun H' => ∃ v, ResultsC P fn a'.tmps v ∧ (Q v ∧ γ' = .lone)) → Tree P (company P Q) true (G { (base f).at a' todo with mode := .returning } []) H' γ' := by
    rintro ⟨tmps, ds⟩ H' γ' todo hu
    refine Tree.unwinds ds tmps H' _ hu fun H₂ ⟨v, hr, hp⟩ => ?_
    exact .done v rfl (fun w _ => stepG_finish (b := base f) (a := ⟨tmps, []⟩) rfl rfl hi hf (hr w).1 (hr w).2) ⟨hp.2, hp.1⟩
  rw [enter_at args hf hb]
  refine hw (base f) [] [] rfl (by simp [base]) fun e a' H' γ' q => ?_
  cases e with
  | normal => exact .ctl rfl (fun w => stepG_end) (hleave a' H' γ' [] q)
  | ret => exact fun todo => hleave a' H' γ' todo q
  | exit id => exact q.elim
  | goto l => exact q.elim
  | panic ch => exact q.elim
  | outgrown => exact q.elim

theorem the_run {W : World} {a : Option Addr} {cap : Nat} {tss : List (List Tap)} (hts : TapesR (fun b => W.heap[b]?) a tss) (hg : W.cell? ⟨0, 0, none⟩ = some (.iface 109 (.agg #[.pointer (some ⟨1, 27, none⟩)]))) (ag wk ot : Int) :
    ∃ N last o w' t', runNT Tryd.prog (N + 1) (solo (G (Frame.enter Tryd.prog 3 #[.slice a tss.length cap, .int .i64 ag, .int .i64 wk, .int .i64 ot] .normal) []) W) #[] = (.ended o w', t') ∧
      runN Tryd.prog N (solo (G (Frame.enter Tryd.prog 3 #[.slice a tss.length cap, .int .i64 ag, .int .i64 wk, .int .i64 ot] .normal) []) W) = .next last ∧ step Tryd.prog last = .ended o w' ∧ Conc.Good Tryd.prog (EndPost LawQ W) last o w' t' :=
  company_runs (tree_of_calls (by kernel_rfl) ((tapeMany_calls (H₀ := { own := fun _ => none, ro := fun b => W.heap[b]?, d := 0 }) (fun _ _ => rfl) rfl hts ((roCell_world _).trans hg) ag wk ot).mono fun v H γ h => h))

theorem below_of {Q : Value → Prop} {W w' : World} {v : Value} (h : EndPost Q W v w') : Below W.heap.size W w' := by
  obtain ⟨_, hk, h1, h2, h3⟩ := h
  have hb : ∀ k, k < W.heap.size → w'.heap[k]? = W.heap[k]? := fun k hk' => by
    rw [Array.getElem?_eq_getElem hk']
    exact hk k _ (Array.getElem?_eq_getElem hk')
  refine ⟨h1, h2, h3, ?_, hb⟩
  rcases Nat.eq_zero_or_pos W.heap.size with h0 | h0
  · omega
  · have := hb (W.heap.size - 1) (by omega)
    rw [Array.getElem?_eq_getElem (by omega : W.heap.size - 1 < W.heap.size)] at this
    have := (Array.getElem?_eq_some_iff.1 this).1
    omega

set_option maxRecDepth 100000 in
theorem law_lifted (os : Os) (started : os.Started) (H : Type) (enc : TypeId × Value → H) :
    ReturnsInLeavingWide {} Tryd.checked os 3 .any (fun w args => (Rows.tapeManySpec.pre enc Tryd.prog Tryd.f3 [] false w args ∧ laidMetH Tryd.prog Rows.tapeManyRow.laid w) ∧ sizedMet enc Tryd.prog Tryd.f3 (OpenSpec.ofChange Rows.tapeManySpec) false w args)
      (Rows.tapeManySpec.post enc Tryd.prog Tryd.f3 false true false false) := by
  refine returnsInLeavingWide_of_good (C := Tryd.checked) Tryd.own started
    (ChangeSpec.witness_at (enc := enc) (C := Tryd.checked) (os := os) (fn := Tryd.f3) (X := fun w _ => laidMetH Tryd.prog Rows.tapeManyRow.laid w) false (laidWorld os) #[.slice none 0 0, .int .i64 0, .int .i64 0, .int .i64 0] 8 rfl (by kernel_rfl) (by kernel_rfl) (by kernel_rfl) (by kernel_rfl) (by kernel_rfl) (laidWorld_met os _)) ?_
  intro w tape i _ _ _ hok hpre _
  obtain ⟨_, _, _, fn', hfn', _, _, _, _, hval0⟩ := hok
  have e : fn' = Tryd.f3 := Option.some.inj (hfn'.symm.trans Tryd.func3)
  subst e
  obtain ⟨⟨⟨ds, gs, before, hw, _⟩, hL0⟩, _⟩ := hpre
  have hW : DataW.Whole enc Tryd.prog Tryd.f3.params.toList Rows.tapeManySpec.vars false (w.forCall tape i) i.args.toList ds gs before := DataW.Whole.of_heap (w' := w.forCall tape i) (by rfl) hw
  have hL : laidMetH Tryd.prog Rows.tapeManyRow.laid (w.forCall tape i) := laidMetH.of_heap (by rfl) hL0
  have hg := handle_of_laid hL
  generalize w.forCall tape i = W at hW hL hg hval0 ⊢
  generalize i.args = args at hW hval0 ⊢
  clear hw hL0
  have hval : ∀ (j : Nat) t v, Tryd.f3.params[j]? = some t → args[j]? = some v → Value.okWide Tryd.prog W .any w.heap.size t v := hval0
  have hW' := hW
  obtain ⟨p, q, hA0, hV, rfl, _, _⟩ := hW
  have hA : DataW.TrodAll enc Tryd.prog W 0 (fun _ => true) true Tryd.f3.params.toList args.toList ds p := hA0
  rw [Tryd.params3] at hA hval
  obtain ⟨v0, v1, v2, v3, d0, d1, d2, d3, p0, p1, p2, p3, rfl, rfl, rfl, h0, h1, h2, h3⟩ := trodAll_four hA
  obtain ⟨rfl, rfl⟩ := trodVars_none hV
  obtain ⟨a0, len, cap, rfl⟩ := okWide_slice Tryd.underlying22 (hval 0 22 v0 rfl rfl)
  obtain ⟨ag, rfl, rfl, rfl, wa⟩ := open_int Tryd.underlying3 (hval 1 3 v1 rfl rfl) h1
  obtain ⟨wk, rfl, rfl, rfl, wb⟩ := open_int Tryd.underlying3 (hval 2 3 v2 rfl rfl) h2
  obtain ⟨ot, rfl, rfl, rfl, wc⟩ := open_int Tryd.underlying3 (hval 3 3 v3 rfl rfl) h3
  have h0k := h0
  obtain ⟨fuel, hf⟩ := h0
  obtain ⟨a, cap', tss, hcs, hts⟩ := tapes_of hf
  simp only [Value.cells, List.cons.injEq, Value.slice.injEq, and_true] at hcs
  obtain ⟨rfl, rfl, rfl⟩ := hcs
  simp only [List.append_nil] at hW'
  have hlt : ∀ x ∈ p0, x.block < W.heap.size := fun x hx => by simpa using hW'.lt x (by simpa using hx)
  obtain ⟨N, last, o, w', t', g1, g2, g3, g4⟩ := the_run (cap := cap) hts hg ag wk ot
  refine ⟨N, last, o, w', t', g1, g2, g3, g4.mono fun v hF => ChangeSpec.post_blind ?_⟩
  have hb := below_of hF
  obtain rfl : v = .bool true := hF.1
  have a0' : DataW.Trod enc Tryd.prog w' 0 (fun b => decide (b < W.heap.size)) true 22 (.slice a0 tss.length cap) d0 p0 :=
    Below.trod Tryd.laidOut (by kernel_rfl) (of_decide_eq_true (by kernel_rfl)) h0k hb hlt
  refine ⟨_, _, _, [], p0 ++ ([] ++ ([] ++ [])), [], hW', ?_, ?_, rfl, hb.frame _, fun h => by cases h⟩
  · exact trodAll_mk1 (shut_bool Tryd.underlying4 true)
  · exact trodAll_mk4 a0' (shut_int Tryd.underlying3 wa) (shut_int Tryd.underlying3 wb) (shut_int Tryd.underlying3 wc)

theorem tapeMany_holds : Rows.TapeManySaid :=
  OpenClaim.holds_of_wide_leaving 3 Tryd.f3 rfl rfl rfl rfl rfl rfl rfl ⟨rfl, rfl, rfl, rfl, rfl⟩ rfl rfl rfl rfl rfl (by kernel_rfl) Tryd.func3 (by kernel_rfl)
    (of_decide_eq_true (by kernel_rfl)) (by unfold Func.isWrapper; rw [if_neg (of_decide_eq_false (by kernel_rfl))]; exact ⟨rfl, rfl⟩)
    (fun os started H enc _ => law_lifted os started H enc)
end Go.Proofs.YtcomjkbfmklfnaaDoor
