/-
  What Play computes, over lists; and small lemmas for its walk. Conditions: none.
-/
import Derived.Test.YtcomjkbfmklfnaaDoorWg
set_option linter.unusedSimpArgs false
set_option linter.unusedVariables false
namespace Go.Proofs.YtcomjkbfmklfnaaDoor
open Go.Conc Go.Sep

def clk0 (ls : List Tap) : List Int := ls.foldl (fun c x => pushL (pushL c x.at_) (IntKind.i64.wrap (x.at_ + x.pat))) []
theorem clk0_take (ls : List Tap) (k : Nat) (h : k < ls.length) : clk0 (ls.take (k + 1)) = pushL (pushL (clk0 (ls.take k)) (ls.getD k default).at_) (IntKind.i64.wrap ((ls.getD k default).at_ + (ls.getD k default).pat)) := by
  rw [take_succ_getD default ls k h, clk0, List.foldl_append]; rfl
theorem clk0_length (ls : List Tap) : ∀ k, k ≤ ls.length → (clk0 (ls.take k)).length = 2 * k
  | 0, _ => rfl
  | k + 1, h => by rw [clk0_take ls k (by omega), pushL_length, pushL_length, clk0_length ls k (by omega)]; omega

def takeIn (ls : List Tap) (now : Int) : Nat → List Nat → Nat → List Nat × Nat
  | 0, w, n => (w, n)
  | f + 1, w, n => if n < ls.length ∧ (ls.getD n default).at_ ≤ now then takeIn ls now f (w ++ [n]) (n + 1) else (w, n)
theorem takeIn_stop (ls : List Tap) (now : Int) (f : Nat) (w : List Nat) (n : Nat) (h : ¬ (n < ls.length ∧ (ls.getD n default).at_ ≤ now)) : takeIn ls now f w n = (w, n) := by
  cases f <;> simp only [takeIn, if_neg h]
theorem takeIn_ok (ls : List Tap) (now : Int) : ∀ (f : Nat) (w : List Nat) (n : Nat), n ≤ ls.length → (∀ x, x ∈ w → x < ls.length) →
    (takeIn ls now f w n).2 ≤ ls.length ∧ (∀ x, x ∈ (takeIn ls now f w n).1 → x < ls.length) ∧ (takeIn ls now f w n).1.length + (ls.length - (takeIn ls now f w n).2) = w.length + (ls.length - n)
  | 0, w, n, h, hw => ⟨h, hw, rfl⟩
  | f + 1, w, n, h, hw => by
    unfold takeIn
    split
    · next hc =>
      have := takeIn_ok ls now f (w ++ [n]) (n + 1) hc.1 (fun x hx => by
        rcases List.mem_append.1 hx with hx | hx
        · exact hw x hx
        · rw [List.mem_singleton.1 hx]; exact hc.1)
      refine ⟨this.1, this.2.1, ?_⟩
      rw [this.2.2, List.length_append, List.length_singleton]; omega
    · exact ⟨h, hw, rfl⟩

/-- The first who is free. -/
def firstFree (free : List Int) (now : Int) : Option Nat := free.findIdx? (fun t => decide (t ≤ now))
theorem firstFree_some {free : List Int} {now : Int} {k : Nat} (hk : k < free.length) (h1 : ∀ j, j < k → decide (free.getD j 0 ≤ now) = false) (h2 : decide (free.getD k 0 ≤ now) = true) : firstFree free now = some k := by
  rw [firstFree, List.findIdx?_eq_some_iff_getElem]
  refine ⟨hk, ?_, fun j hj => ?_⟩
  · rw [List.getD_eq_getElem?_getD, List.getElem?_eq_getElem hk] at h2; exact h2
  · have := h1 j hj
    rw [List.getD_eq_getElem?_getD, List.getElem?_eq_getElem (by omega)] at this
    simpa using this
theorem firstFree_none {free : List Int} {now : Int} (h1 : ∀ j, j < free.length → decide (free.getD j 0 ≤ now) = false) : firstFree free now = none := by
  rw [firstFree, List.findIdx?_eq_none_iff]
  intro x hx
  obtain ⟨j, hj, rfl⟩ := List.mem_iff_getElem.1 hx
  have := h1 j hj
  rw [List.getD_eq_getElem?_getD, List.getElem?_eq_getElem hj] at this
  exact this

structure Sv where
  wait : List Nat
  clk : List Int
  free : List Int
  out : List (Int × Int)

def serve (ls : List Tap) (now : Int) : List Nat → List Int → List Int → List (Int × Int) → Sv
  | [], clk, free, out => ⟨[], clk, free, out⟩
  | i :: rest, clk, free, out =>
    match firstFree free now with
    | none => ⟨i :: rest, clk, free, out⟩
    | some a => serve ls now rest (pushL clk (IntKind.i64.wrap (now + (ls.getD i default).long))) (free.set a (IntKind.i64.wrap (now + (ls.getD i default).long))) (out.set i ((a : Int), now))
theorem serve_none {ls : List Tap} {now : Int} {w : List Nat} {clk free : List Int} {out : List (Int × Int)} (h : firstFree free now = none) : serve ls now w clk free out = ⟨w, clk, free, out⟩ := by
  cases w with
  | nil => rfl
  | cons i rest => rw [serve, h]
theorem serve_some {ls : List Tap} {now : Int} {i : Nat} {rest : List Nat} {clk free : List Int} {out : List (Int × Int)} {a : Nat} (h : firstFree free now = some a) :
    serve ls now (i :: rest) clk free out = serve ls now rest (pushL clk (IntKind.i64.wrap (now + (ls.getD i default).long))) (free.set a (IntKind.i64.wrap (now + (ls.getD i default).long))) (out.set i ((a : Int), now)) := by
  rw [serve, h]
theorem serve_ok (ls : List Tap) (now : Int) : ∀ (w : List Nat) (clk free : List Int) (out : List (Int × Int)), (∀ x, x ∈ w → x < ls.length) →
    (serve ls now w clk free out).wait.length + (serve ls now w clk free out).clk.length = w.length + clk.length ∧ (serve ls now w clk free out).free.length = free.length ∧ (serve ls now w clk free out).out.length = out.length ∧ (∀ x, x ∈ (serve ls now w clk free out).wait → x < ls.length)
  | [], _, _, _, h => ⟨rfl, rfl, rfl, h⟩
  | i :: rest, clk, free, out, h => by
    cases hf : firstFree free now with
    | none => rw [serve_none hf]; exact ⟨rfl, rfl, rfl, h⟩
    | some a =>
      rw [serve_some hf]
      have := serve_ok ls now rest (pushL clk (IntKind.i64.wrap (now + (ls.getD i default).long))) (free.set a (IntKind.i64.wrap (now + (ls.getD i default).long))) (out.set i ((a : Int), now)) (fun x hx => h x (List.mem_cons_of_mem _ hx))
      refine ⟨?_, by rw [this.2.1, List.length_set], by rw [this.2.2.1, List.length_set], this.2.2.2⟩
      rw [this.1, pushL_length, List.length_cons]; omega

def playF (ls : List Tap) : Nat → List Int → List Nat → Nat → List Int → List (Int × Int) → List (Int × Int)
  | 0, _, _, _, _, out => out
  | f + 1, clk, wait, next, free, out =>
    if clk.length = 0 then out else
    let w := takeIn ls (popV clk) ls.length wait next
    let s := serve ls (popV clk) w.1 (popL clk) free out
    playF ls f s.clk (delW ls (popV clk) s.wait) w.2 s.free (delOut ls (popV clk) s.out s.wait)
theorem playF_stop (ls : List Tap) (f : Nat) (clk : List Int) (wait : List Nat) (next : Nat) (free : List Int) (out : List (Int × Int)) (h : clk.length = 0) : playF ls f clk wait next free out = out := by
  cases f <;> simp only [playF, if_pos h]
theorem playF_go (ls : List Tap) (f : Nat) (clk : List Int) (wait : List Nat) (next : Nat) (free : List Int) (out : List (Int × Int)) (h : ¬ clk.length = 0) : playF ls (f + 1) clk wait next free out =
    playF ls f (serve ls (popV clk) (takeIn ls (popV clk) ls.length wait next).1 (popL clk) free out).clk (delW ls (popV clk) (serve ls (popV clk) (takeIn ls (popV clk) ls.length wait next).1 (popL clk) free out).wait) (takeIn ls (popV clk) ls.length wait next).2 (serve ls (popV clk) (takeIn ls (popV clk) ls.length wait next).1 (popL clk) free out).free (delOut ls (popV clk) (serve ls (popV clk) (takeIn ls (popV clk) ls.length wait next).1 (popL clk) free out).out (serve ls (popV clk) (takeIn ls (popV clk) ls.length wait next).1 (popL clk) free out).wait) := by
  simp only [playF, if_neg h]

/-- What Play answers: an error's number, or the fates. -/
def playR (ls : List Tap) (ag : Int) : Int ⊕ List (Int × Int) :=
  match checkL ls with
  | some e => .inl e
  | none => if ag < 0 ∨ ag > 20 then .inl 4 else .inr (playF ls (3 * ls.length + 1) (clk0 ls) [] 0 (List.replicate ag.toNat 0) (List.replicate ls.length (0, 0)))

theorem checkL_none {ls : List Tap} (h : checkL ls = none) : ls.length ≤ 60 := by
  by_cases hc : 60 < ls.length
  · rw [checkL, if_pos hc] at h; cases h
  · omega

theorem delW_mem {ls : List Tap} {now : Int} {ws : List Nat} {P : Nat → Prop} (h : ∀ x, x ∈ ws → P x) : ∀ x, x ∈ delW ls now ws → P x := fun x hx => h x (List.mem_filter.1 hx).1
theorem delW_le (ls : List Tap) (now : Int) (ws : List Nat) : (delW ls now ws).length ≤ ws.length := List.length_filter_le _ _

theorem semS_indexAt0 {P : Program} {H : Hp} {t e : TypeId} (hu : P.underlying t = some (.slice e)) {ti : TypeInfo} (hi : P.info? e = some ti) (b off len cap : Nat) (h : 0 < len) (K : Value → Hp → Prop) :
    SemS P (Instr.indexAt t (.slice (some ⟨b, off, none⟩) len cap) (.int .i64 0)) H K = K (.pointer (some ⟨b, off, none⟩)) H := by
  have := semS_indexAt (P := P) (H := H) hu hi b off len cap 0 h K
  rw [Nat.zero_mul, Nat.add_zero] at this
  exact this
theorem semS_sliceLo1 {P : Program} {H : Hp} {t e : TypeId} (hu : P.underlying t = some (.slice e)) {ti : TypeInfo} (hi : P.info? e = some ti) (a : Option Addr) (len cap : Nat) (hl : 1 ≤ len) (K : Value → Hp → Prop) :
    SemS P (Instr.sliceAt t (.slice a len cap) (some (.int .i64 1)) none none) H K = K (.slice (if cap = 1 then a else a.map (·.add (1 * ti.size))) (len - 1) (cap - 1)) H := semS_sliceLo hu hi a len cap 1 hl K

theorem intsl_tail {H : Hp} {a : Option Addr} {cap : Nat} {x : Int} {xs : List Int} (h : IntSl H a cap (x :: xs)) : IntSl H (if cap = 1 then a else a.map (·.add (1 * 1))) (cap - 1) xs ∧ (∀ x', (if cap = 1 then a else a.map (·.add (1 * 1))) = some x' → ∃ x, a = some x ∧ x.block = x'.block) := by
  rcases h with ⟨_, _, h⟩ | ⟨B, off, cs, t, rfl, hB, hx, hs, hl⟩
  · cases h
  · rw [List.length_cons] at hl
    split
    · next hc =>
      refine ⟨.inr ⟨B, off, cs, t, rfl, hB, ?_, by omega, by omega⟩, fun x' e => ⟨_, rfl, by cases e; rfl⟩⟩
      intro k hk
      omega
    · refine ⟨.inr ⟨B, off + 1, cs, t, by simp [Addr.add], hB, hx.tail, by omega, by omega⟩, fun x' e => ⟨_, rfl, ?_⟩⟩
      simp [Addr.add] at e
      rw [← e]

theorem fates_zero (n : Nat) (cs : Array Value) (hs : cs.size = n * 2) (h : ∀ i, i < n * 2 → cs[i]? = some (.int .i64 0)) : Fates cs (List.replicate n (0, 0)) := by
  intro k hk
  rw [List.length_replicate] at hk
  rw [h _ (by omega), h _ (by omega)]
  simp [List.getD_eq_getElem?_getD, hk]

/-- 'make' of a slice of fates. -/
theorem semS_makeFates {P : Program} {H : Hp} {st e : TypeId} (hu : P.underlying st = some (.slice e)) {ti : TypeInfo} (hi : P.info? e = some ti) (hsz : ti.size = 2) (hby : ti.bytes = 16) (hz : ti.zero = some (.agg #[.int .i64 0, .int .i64 0])) (n : Nat) (hn : n < 1000) (K : Value → Hp → Prop)
    (h : ∀ m cs, H.own m = none → H.ro m = none → Fates cs (List.replicate n (0, 0)) → cs.size = n * 2 → K (.slice (some ⟨m, 0, none⟩) n n) (H.set m (.cells cs e (0, 0)))) :
    SemS P (Instr.makeSlice st (.int .i64 n) (.int .i64 n)) H K := by
  have hw : IntKind.i64.wrap (n : Int) = n := Go.IntWalk.i64_in _ (by omega)
  simp only [Instr.makeSlice, semS_bind, semS_underlying, hu, semS_pure, asInt, asIntOf, semS_map, semS_typeInfo, hi, hby, hw]
  have c1 : ¬ ((n : Int) < 0) := by omega
  have c2 : ¬ (((16 : Nat) : Int) * (n : Int) > 2 ^ 48) := by omega
  simp only [c1, c2, decide_false, Bool.or_self, Bool.false_eq_true, if_false, semS_ite, semS_bind, semS_askRoom, semS_sizeOf, hi, hsz, semS_pure, Int.toNat_natCast, gt_iff_lt, Int.lt_irrefl, newRow, semS_newObj]
  by_cases h0 : n * 2 = 0
  · have h1 : n = 0 := by omega
    subst h1
    simp only [Nat.zero_mul, if_true, semS_bind, semS_pure, semS_newObj]
    exact fun m a b => h m _ a b (fun k hk => by simp at hk) (by simp)
  · simp only [h0, if_false, semS_bind, semS_zeroValue, hi, hz, semS_pure, semS_newObj]
    refine fun m a b => h m _ a b (fates_zero n _ (by simp) fun i hi => ?_) (by simp)
    have : i % 2 = 0 ∨ i % 2 = 1 := by omega
    rcases this with e | e <;> simp [Value.cells, hi, e]

/-- The clock's length, in memory. -/
def clkLen (H : Hp) (bc : Nat) : Nat := match H.own bc with | some (.cells cs _ _) => (match cs.getD 0 default with | Value.slice _ n _ => n | _ => 0) | _ => 0
theorem CK.len {H : Hp} {bc : Nat} {xs : List Int} {o : Option Nat} (h : CK H bc xs o) : clkLen H bc = xs.length := by
  obtain ⟨a, cap, hbc, _⟩ := h.cell
  rw [clkLen, hbc]; rfl
def slotLen (a : Act) (i : Nat) : Nat := match a.tmps.getD i undef with | .slice _ n _ => n | _ => 0

theorem less_set_own {H H' : Hp} (h : Less H' H) {b : Nat} {o : Obj} (hb : H'.own b = some o) : Less H' (H.set b o) := by
  refine ⟨fun b' o' h' => ?_, h.ro, h.d⟩
  by_cases e : b' = b
  · subst e; rw [set_own_same] at h'; cases h'; exact hb
  · rw [set_own_ne _ _ e] at h'; exact h.own b' o' h'
end Go.Proofs.YtcomjkbfmklfnaaDoor
