/-
  A worker's end: from its deferred 'Done' on. The kit's own walk says where it comes to; here the steps ahead of the release are gone through, and the release is the meeting. Conditions: none.
-/
import Derived.Test.YtcomjkbfmklfnaaDoorWl
import Derived.Test.YtcomjkbfmklfnaaDoorCm
set_option linter.unusedSimpArgs false
set_option linter.unusedVariables false
namespace Go.Proofs.YtcomjkbfmklfnaaDoor
open Go.Sep Go.Conc
open Go.ConcR (KK wgBlock WgAt stA smA rd wr mk Payload DC0)
open Go.ConcN (RW WgLive Has AtR0 DWs)
open Go.Conc.Lib Go.ConcR.Gen Go.ConcN.Gen

section
variable (P : Program) (φ : Ph)

/-- It is on its way to the release. -/
def Nigh (g : Goroutine) (w : World) : Prop :=
  ∃ n, Goes P false (RW 51 φ.wg φ.pc 1 0 (1 - 1)) (DWs φ.wg (fun _ _ => False) (fun _ _ => False) φ.pc 1 1) (AtR0 P 51 φ.wg φ.pc 1 0 1 φ.vC) n g w
def Nears (H : Hp) (g : Goroutine) : Prop := ∀ w, View H w → WgLive 51 φ.wg w → Nigh P φ g w
end

section
variable {P : Program} {φ : Ph} {Q : Value → Prop} {H : Hp} {g g' : Goroutine}

theorem Nigh.next {w : World} {es : Array Event} (h : Nigh P φ g w) (hst : stepG P false g w = .go g' w es) (hne : es ≠ #[mk (.releaseMerge (stA φ.wg))]) :
    Nigh P φ g' w ∧ ∀ e ∈ es, e.loc ≠ .mark .disable := by
  obtain ⟨n, hg⟩ := h
  rcases hg.cases with h | ⟨n', rfl, h⟩
  · obtain ⟨_, _, g₂, e, _⟩ := h w (ConcN.RW.refl w)
    rw [hst] at e
    injection e with _ _ e3
    exact absurd e3 hne
  · obtain ⟨g₂, w₂, es₂, e, hd, hn⟩ := h w (ConcN.RW.refl w)
    rw [hst] at e
    injection e with e1 e2 e3
    subst e1 e2 e3
    exact ⟨⟨n', hn⟩, fun x hx => (hd.2 x hx).2.1⟩

theorem Nears.next (h : Nears P φ H g) (hst : ∀ w, View H w → WgLive 51 φ.wg w → stepG P false g w = .go g' w #[]) : Nears P φ H g' :=
  fun w v l => ((h w v l).next (hst w v l) (by simp)).1

/-- From here on it comes to its end. -/
def Ends (P : Program) (φ : Ph) (Q : Value → Prop) (H : Hp) (g : Goroutine) : Prop := Nears P φ H g → Tree P (company P Q) false g H (.wc φ)

theorem Ends.ctl (hs : g.status = .running) (hst : ∀ w, stepG P false g w = .go g' w #[]) (h : Ends P φ Q H g') : Ends P φ Q H g :=
  fun hn => .ctl hs hst (h (hn.next fun w _ _ => hst w))

theorem Ends.calm (hs : g.status = .running) (hs' : g'.status = .running) (hst : ∀ w, View H w → WgLive 51 φ.wg w → stepG P false g w = .go g' w #[]) (h : Ends P φ Q H g') : Ends P φ Q H g := by
  refine fun hn => .meet .calm ⟨rfl, φ, g', .inl rfl, hs, hs', hst⟩ fun g₂ H' γ' ⟨hH, hγ, φ', hφ, hg⟩ => ?_
  rcases hφ with e | ⟨s, e⟩
  · cases e
    subst hH hγ
    rw [hg g' hst]
    exact h (hn.next hst)
  · cases e

section
variable {b : Frame} {a : Act} {k : List Item} {cs : List Frame}
theorem Ends.value {ops : Array Oper} {i : Nat} {rest : List Nat} {o : Oper} (v : Value) (ho : ops[i]? = some o) (hw : Region.wanted o (yielded ops a.tmps) = true) (hk : b.kind ≠ .early)
    (hr : ∀ w, (execOp a.eval o).run P w = .ok (.value v) w) (he : ∀ w, (execOp a.eval o).events P w #[] = #[])
    (hq : Ends P φ Q H (G (b.at (a.put o.dst v) (.inRegion ops rest :: k)) cs)) : Ends P φ Q H (G (b.at a (.inRegion ops (i :: rest) :: k)) cs) :=
  .ctl rfl (fun w => by rw [stepG_value ho hw hk (hr w)]; unfold listed; rw [he w, seen_none]) hq

theorem Ends.call {ops : Array Oper} {i : Nat} {rest : List Nat} {o : Oper} {f : FuncId} {fn : Func} {c : Code} {args : Array Operand} {ats : Array TypeId}
    (ho : ops[i]? = some o) (hw : Region.wanted o (yielded ops a.tmps) = true) (hk : b.kind ≠ .early) (hop : o.op = .call { callee := .value (.func f), args, argTypes := ats })
    (hf : P.funcs[f]? = some fn) (hname : (fn.name == "runtime.NumGoroutine") = false) (hb : fn.body = some c)
    (h : Ends P φ Q H (G ((base f).at { tmps := args.map a.eval ++ Array.replicate (fn.ntmps - (args.map a.eval).size) undef, defers := [] } [.code c]) (b.at a (.inRegion ops (i :: rest) :: k) :: cs))) :
    Ends P φ Q H (G (b.at a (.inRegion ops (i :: rest) :: k)) cs) := by
  refine .ctl rfl (fun w => ?_) h
  have hb' : fn.body.isNone = false := by rw [hb]; rfl
  rw [stepG_enter ho hw hk (run_call_body hop hf hname hb'), enter_at _ hf hb]
  unfold listed
  rw [events_call_body hop hf hname hb', seen_none]

/-- 'unsafe.Pointer' of the group's own address. -/
theorem Ends.convert {ops : Array Oper} {i : Nat} {rest : List Nat} {o : Oper} {src dst t : TypeId} {x : Operand} {off : Nat} (ho : ops[i]? = some o) (hw : Region.wanted o (yielded ops a.tmps) = true) (hk : b.kind ≠ .early)
    (hop : o.op = .convert src dst x) (hx : a.eval x = .pointer (some ⟨φ.wg, off, none⟩)) (hs : P.underlying src = some (.pointer t)) (hd : P.underlying dst = some .unsafePointer) (hsz : (P.info? t).map (fun i => decide (i.size = 0)) = some false)
    (hc : ∀ w, WgLive 51 φ.wg w → ∃ v, w.cell? ⟨φ.wg, off, none⟩ = some v)
    (h : Ends P φ Q H (G (b.at (a.put o.dst (.pointer (some ⟨φ.wg, off, none⟩))) (.inRegion ops rest :: k)) cs)) : Ends P φ Q H (G (b.at a (.inRegion ops (i :: rest) :: k)) cs) := by
  refine .calm rfl rfl (fun w _ l => ?_) h
  obtain ⟨v, hv⟩ := hc w l
  have h1 : (execOp a.eval o).run P w = .ok (.value (.pointer (some ⟨φ.wg, off, none⟩))) w := by
    unfold execOp
    simp [hop, hx, run_convert_to_unsafe hs hd hsz hv]
  rw [stepG_value ho hw hk h1]
  have h2 : (execOp a.eval o).events P w #[] = #[] := by
    unfold execOp
    simp [hop, hx, run_convert_to_unsafe hs hd hsz hv, events_convert_to_unsafe hs hd hsz hv]
  unfold listed
  rw [h2, seen_none]

/-- The release: behind it, a step that the kit's walk bars ahead of it. -/
theorem Ends.release {g₁ g₂ g₃ g₄ : Goroutine} (hs : g.status = .running) (hd : H.d = 0) (hp : H.ro φ.pc = some (.cells #[φ.vC] 3))
    (h0 : ∀ w, stepG P false g w = .go g₁ w #[mk (.releaseMerge (stA φ.wg))]) (h1 : ∀ w, stepG P false g₁ w = .go g₂ w #[]) (h2 : ∀ w, stepG P false g₂ w = .go g₃ w #[])
    (h3 : ∀ w, stepG P false g₃ w = .go g₄ w #[]) (h4 : ∃ g₅, ∀ w, stepG P false g₄ w = .go g₅ w #[mk .disable]) : Ends P φ Q H g := by
  obtain ⟨g₅, h4⟩ := h4
  refine fun hn => .meet .tail ⟨rfl, φ, rfl, hd, hp, hs, fun w v l => ?_⟩ fun _ _ _ h => h.elim
  obtain ⟨n, hg⟩ := hn w v l
  rcases hg.cases with h | ⟨n', rfl, h⟩
  · exact h w (ConcN.RW.refl w)
  · obtain ⟨gx, wx, es, e, _, hn'⟩ := h w (ConcN.RW.refl w)
    rw [h0] at e
    injection e with e1 e2 e3
    subst e1 e2
    have := ((((show Nigh P φ g₁ w from ⟨n', hn'⟩).next (h1 w) (by simp)).1.next (h2 w) (by simp)).1.next (h3 w) (by simp)).1.next (h4 w) (by simp [mk])
    exact absurd rfl (this.2 (mk .disable) (by simp))
end

/-- What 'doneN' asks of the world. -/
theorem Nears.of_done {c : Frame} {cs : List Frame} {qt : Nat} (hp : H.ro φ.pc = some (.cells #[φ.vC] 3)) (hcm : c.mode = .returning) (hT : QuitsD Tryd.prog qt 0 (G c cs)) :
    Nears Tryd.prog φ H (G ((baseD 11).at ⟨#[.pointer (some ⟨φ.wg, 0, none⟩), undef, undef, undef], []⟩ [.code (ConcR.Gen.body_done link)]) (c :: cs)) :=
  fun w v l => ⟨_, ConcN.Gen.doneN wgLib (n := 1) (Low := 0) hcm hT w ⟨l, by
    unfold Has
    simp [World.cell?, v.ro _ _ hp]⟩⟩

set_option maxRecDepth 100000 in
/-- A worker's end, from Done's first step on. -/
theorem done_tree {c : Frame} {cs : List Frame} {qt : Nat} (hd : H.d = 0) (hp : H.ro φ.pc = some (.cells #[φ.vC] 3)) (hcm : c.mode = .returning) (hT : QuitsD Tryd.prog qt 0 (G c cs)) :
    Tree Tryd.prog (company Tryd.prog Q) false (G ((baseD 11).at ⟨#[.pointer (some ⟨φ.wg, 0, none⟩), undef, undef, undef], []⟩ [.code (ConcR.Gen.body_done link)]) (c :: cs)) H (.wc φ) := by
  have hn := Nears.of_done (φ := φ) (H := H) hp hcm hT
  refine (?_ : Ends Tryd.prog φ Q H _) hn
  clear hn
  have H₀ := wgLib
  simp only [ConcR.Gen.body_done, doneFn, Option.getD_some]
  refine .ctl rfl (fun _ => stepG_region) ?_
  simp only [List.size_toArray, List.length_cons, List.length_nil, Nat.reduceAdd, Nat.zero_add, List.range, List.range.loop]
  refine .value _ rfl rfl (by k_ne) (fun _ => by go_simp <;> rfl) (fun _ => by simp [go_sem, *]) ?_
  walk_nrm
  refine .call rfl rfl (by k_ne) rfl H₀.f_add (nm_add link) rfl ?_
  walk_nrmf addFn
  refine .ctl rfl (fun _ => stepG_seq) ?_
  refine .ctl rfl (fun _ => stepG_cond (t := true) rfl) ?_
  simp only [if_true]
  refine .ctl rfl (fun _ => stepG_seq) ?_
  refine .ctl rfl (fun _ => stepG_seq) ?_
  refine .ctl rfl (fun _ => stepG_region) ?_
  simp only [List.size_toArray, List.length_cons, List.length_nil, Nat.reduceAdd, Nat.zero_add, List.range, List.range.loop]
  refine .value _ rfl rfl (by k_ne) (fun _ => by go_simp <;> rfl) (fun _ => by simp [go_sem, *]) ?_
  walk_nrm
  refine .value _ rfl rfl (by k_ne) (fun _ => by go_simp <;> rfl) (fun _ => by simp [go_sem, *]) ?_
  walk_nrm
  refine .ctl rfl (fun _ => stepG_region_end) ?_
  refine .ctl rfl (fun _ => stepG_cond (t := true) rfl) ?_
  simp only [if_true]
  refine .ctl rfl (fun _ => stepG_region) ?_
  simp only [List.size_toArray, List.length_cons, List.length_nil, Nat.reduceAdd, Nat.zero_add, List.range, List.range.loop]
  refine .value _ rfl rfl (by k_ne) (fun _ => by go_simp <;> rfl) (fun _ => by simp [go_sem, *]) ?_
  walk_nrm
  refine .convert rfl rfl (by k_ne) rfl rfl H₀.underlying_tWgP H₀.underlying_tUP H₀.room_tWg (fun w l => ConcN.Gen.WgLive.cell0 l) ?_
  walk_nrm
  refine .release rfl hd hp (fun _ => stepG_markAt .releaseMerge (by simp) rfl rfl (by k_ne) rfl H₀.f_relMerge (x_relMerge_n link) (x_relMerge_b link) (x_relMerge_x link) (x_relMerge_f link) (by simp [Act.eval, stA]))
    (fun _ => stepG_region_end) (fun _ => stepG_seq) (fun _ => stepG_region) ?_
  simp only [List.size_toArray, List.length_cons, List.length_nil, Nat.reduceAdd, Nat.zero_add, List.range, List.range.loop]
  exact ⟨_, fun _ => stepG_mark0 .disable (by simp) rfl rfl (by k_ne) rfl H₀.f_disable (x_disable_n link) (x_disable_b link) (x_disable_x link) (x_disable_f link)⟩
end
end Go.Proofs.YtcomjkbfmklfnaaDoor
