/-
  From what the arguments read as to where they lie. Conditions: none.
-/
import Derived.Test.YtcomjkbfmklfnaaDoorWy
import Derived.Test.YtcomjkbfmklfnaaDoorRows
import Derived.ProofKit
import Derived.LaidLaws
import Derived.LaidHandle
import Derived.Conc.LeavingOf
set_option linter.unusedSimpArgs false
set_option linter.unusedVariables false
namespace Go.Proofs.YtcomjkbfmklfnaaDoor
open Go.ChangeShapes Go.WideShapes Go.ChangeAt Go.RowKit Go.Conc Go.Sep

theorem exists_list {α : Type} [Inhabited α] {p : Nat → α → Prop} : ∀ n : Nat, (∀ i, i < n → ∃ x, p i x) → ∃ l : List α, l.length = n ∧ ∀ i, i < n → p i (l.getD i default)
  | 0, _ => ⟨[], rfl, fun i hi => absurd hi (by omega)⟩
  | n + 1, h => by
    obtain ⟨l, hl, hp⟩ := exists_list n fun i hi => h i (by omega)
    obtain ⟨x, hx⟩ := h n (by omega)
    refine ⟨l ++ [x], by simp [hl], fun i hi => ?_⟩
    rcases Nat.lt_or_ge i n with h1 | h1
    · rw [List.getD_eq_getElem?_getD, List.getElem?_append_left (by omega), ← List.getD_eq_getElem?_getD]
      exact hp i h1
    · obtain rfl : i = n := by omega
      rw [List.getD_eq_getElem?_getD, List.getElem?_append_right (by omega), hl]
      simpa using hx

section
variable {H : Type} {enc : TypeId × Value → H} {W : World}
theorem roCell_world (a : Addr) : roCell (fun b => W.heap[b]?) a = W.cell? a := by
  unfold roCell Hp.cell Hp.look World.cell?
  cases h : W.heap[a.block]? with
  | none => simp [h]
  | some o => cases o <;> simp [h]
theorem spot_none {a : Addr} {v : Value} (h : W.cell? a = some v) : a.spot = none := by
  unfold World.cell? at h
  split at h
  · split at h
    · cases h
    · rename_i hs; simpa using hs
  · cases h

theorem cells56 : Tryd.prog.cellsOf 56 = 3 := by kernel_rfl
theorem cells23 : Tryd.prog.cellsOf 23 = 1 := by kernel_rfl
theorem cells3 : Tryd.prog.cellsOf 3 = 1 := by kernel_rfl

theorem tap_of {fuel : Nat} {cs : List Value} {x : DataW H × List MemPlace} (h : DataW.trod enc Tryd.prog W 0 (fun _ => true) true fuel 56 cs = some x) :
    ∃ t : Tap, cs[0]? = some (.int .i64 t.at_) ∧ cs[1]? = some (.int .i64 t.long) ∧ cs[2]? = some (.int .i64 t.pat) := by
  obtain ⟨xs, n, _, _, hl, hxs, hf⟩ := DataW.trod_struct str56 h
  rw [cells56] at hl
  have one : ∀ (i off : Nat) (f : Field), fs56[i]? = some f → f.type = 3 → f.offset = off → off < 3 → ∃ z, cs[off]? = some (.int .i64 z) := fun i off f hif ht ho hlt => by
    have hx := hf i f hif
    rw [ht, ho, cells3] at hx
    have hi : i < xs.length := by rw [hxs]; exact (Array.getElem?_eq_some_iff.1 hif).1
    rw [List.getElem?_eq_getElem hi] at hx
    obtain ⟨z, hz, _, _⟩ := DataW.trod_int Tryd.underlying3 hx
    refine ⟨z, ?_⟩
    have h0 : ((cs.drop off).take 1)[0]? = some (.int .i64 z) := by rw [hz]; rfl
    rw [List.getElem?_take_of_lt (by omega), List.getElem?_drop] at h0
    simpa using h0
  obtain ⟨x0, h0⟩ := one 0 0 fd56x0 fd56x0g fd56x0t fd56x0o (by omega)
  obtain ⟨x1, h1⟩ := one 1 1 fd56x1 fd56x1g fd56x1t fd56x1o (by omega)
  obtain ⟨x2, h2⟩ := one 2 2 fd56x2 fd56x2g fd56x2t fd56x2o (by omega)
  exact ⟨⟨x0, x1, x2⟩, h0, h1, h2⟩

theorem add_eq (a : Addr) (i : Nat) (h : a.spot = none) : a.add i = ⟨a.block, a.off + i, none⟩ := by
  obtain ⟨b, o, s⟩ := a
  simp only at h
  subst h
  simp [add_none]

theorem taps_of {fuel : Nat} {cs : List Value} {x : DataW H × List MemPlace} (h : DataW.trod enc Tryd.prog W 0 (fun _ => true) true fuel 23 cs = some x) :
    ∃ (aL : Option Addr) (cap : Nat) (ls : List Tap), cs = [.slice aL ls.length cap] ∧ TapsR (fun b => W.heap[b]?) aL ls := by
  rcases DataW.trod_slice Tryd.underlying23 h with ⟨rfl, _⟩ | ⟨a, len, cap, elems, rest, n, _, rfl, rfl, hb, hl, hm, hlen, hel, _, _⟩
  · exact ⟨none, 0, [], rfl, .inl rfl⟩
  · have each : ∀ i, i < len → ∃ t : Tap, W.cell? ((a.add (i * 3)).add 0) = some (.int .i64 t.at_) ∧ W.cell? ((a.add (i * 3)).add 1) = some (.int .i64 t.long) ∧ W.cell? ((a.add (i * 3)).add 2) = some (.int .i64 t.pat) := fun i hi => by
      have := hel i hi
      rw [cells56, List.getElem?_eq_getElem (by omega), Option.bind_eq_some_iff] at this
      obtain ⟨c3, hc3, ht⟩ := this
      obtain ⟨_, hcl, hce⟩ := World.cells?_some hc3
      obtain ⟨t, h0, h1, h2⟩ := tap_of ht
      exact ⟨t, (hce 0 (by omega)).trans h0, (hce 1 (by omega)).trans h1, (hce 2 (by omega)).trans h2⟩
    obtain ⟨ls, hls, hp⟩ := exists_list len each
    refine ⟨some a, cap, ls, by rw [hls], ?_⟩
    rcases Nat.eq_zero_or_pos len with h0 | h0
    · exact .inl (hls.trans h0)
    · have hs : a.spot = none := by
        have := spot_none (hp 0 h0).1
        simpa [Addr.add] using this
      refine .inr ⟨a.block, a.off, ?_, fun i hi => ?_⟩
      · obtain ⟨b, o, s⟩ := a
        simp only at hs
        subst hs; rfl
      · rw [hls] at hi
        obtain ⟨q0, q1, q2⟩ := hp i hi
        rw [add_eq a _ hs] at q0 q1 q2
        have e : ∀ (o : Nat) (v : Value), W.cell? ⟨a.block, o, none⟩ = some v → Hp.cell ⟨fun _ => none, fun b => W.heap[b]?, 0⟩ ⟨a.block, o, none⟩ = some v := fun o v hv => (roCell_world _).trans hv
        exact ⟨e _ _ q0, e _ _ q1, e _ _ q2⟩

theorem tapes_of {fuel : Nat} {cs : List Value} {x : DataW H × List MemPlace} (h : DataW.trod enc Tryd.prog W 0 (fun _ => true) true fuel 22 cs = some x) :
    ∃ (a : Option Addr) (cap : Nat) (tss : List (List Tap)), cs = [.slice a tss.length cap] ∧ TapesR (fun b => W.heap[b]?) a tss := by
  rcases DataW.trod_slice Tryd.underlying22 h with ⟨rfl, _⟩ | ⟨a, len, cap, elems, rest, n, _, rfl, rfl, hb, hl, hm, hlen, hel, _, _⟩
  · exact ⟨none, 0, [], rfl, .inl rfl⟩
  · have each : ∀ i, i < len → ∃ ls : List Tap, ∃ aL capL, W.cell? (a.add i) = some (.slice aL ls.length capL) ∧ TapsR (fun b => W.heap[b]?) aL ls := fun i hi => by
      have := hel i hi
      rw [cells23, Nat.mul_one, List.getElem?_eq_getElem (by omega), Option.bind_eq_some_iff] at this
      obtain ⟨c1, hc1, ht⟩ := this
      obtain ⟨_, hcl, hce⟩ := World.cells?_some hc1
      obtain ⟨aL, capL, ls, rfl, hT⟩ := taps_of ht
      refine ⟨ls, aL, capL, ?_, hT⟩
      have := hce 0 (by omega)
      simpa [Addr.add] using this
    obtain ⟨tss, htl, hp⟩ := exists_list len each
    refine ⟨some a, cap, tss, by rw [htl], ?_⟩
    rcases Nat.eq_zero_or_pos len with h0 | h0
    · exact .inl (htl.trans h0)
    · have hs : a.spot = none := by
        obtain ⟨_, _, h1, _⟩ := hp 0 h0
        simpa [Addr.add] using spot_none h1
      refine .inr ⟨a.block, a.off, ?_, fun i hi => ?_⟩
      · obtain ⟨b, o, s⟩ := a
        simp only at hs
        subst hs; rfl
      · rw [htl] at hi
        obtain ⟨aL, capL, q, hT⟩ := hp i hi
        rw [add_eq a _ hs] at q
        exact ⟨aL, capL, (roCell_world _).trans q, hT⟩
end
end Go.Proofs.YtcomjkbfmklfnaaDoor
