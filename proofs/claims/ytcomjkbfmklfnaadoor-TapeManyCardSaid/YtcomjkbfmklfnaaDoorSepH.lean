/-
  Slices of numbers: append, make, a literal, cutting, clear, over what a goroutine knows. Conditions: none.
-/
import Derived.Test.YtcomjkbfmklfnaaDoorSepG
import Derived.IntWalk
set_option linter.unusedSimpArgs false
set_option linter.unusedVariables false
namespace Go.Sep
open Go.Conc

/-- These cells of a row are these numbers. -/
def Ints (cs : Array Value) (off : Nat) (xs : List Int) : Prop := ∀ k, k < xs.length → cs[off + k]? = some (.int .i64 (xs.getD k 0))

theorem Ints.cell {H : Hp} {B off : Nat} {cs : Array Value} {t : TypeId} {fr : Nat × Nat} {xs : List Int} (hx : Ints cs off xs) (hb : H.look B = some (.cells cs t fr)) {i : Nat} (hi : i < xs.length) : H.cell ⟨B, off + i, none⟩ = some (.int .i64 (xs.getD i 0)) := by
  rw [cell_ro hb]; exact hx i hi

theorem Ints.set {cs : Array Value} {off : Nat} {xs : List Int} (hx : Ints cs off xs) (hs : off + xs.length ≤ cs.size) {i : Nat} (hi : i < xs.length) (x : Int) : Ints (cs.setIfInBounds (off + i) (.int .i64 x)) off (xs.set i x) := by
  intro k hk
  rw [List.length_set] at hk
  by_cases hik : i = k
  · subst hik
    rw [Array.getElem?_setIfInBounds_self_of_lt (by omega)]
    simp [List.getD_eq_getElem?_getD, hk]
  · rw [Array.getElem?_setIfInBounds_ne (by omega), hx k hk]
    simp [List.getD_eq_getElem?_getD, List.getElem?_set_ne hik]

theorem getD_append_left (xs ys : List Int) {k : Nat} (h : k < xs.length) : (xs ++ ys).getD k 0 = xs.getD k 0 := by
  simp [List.getD_eq_getElem?_getD, List.getElem?_append_left h]

/-- One more, behind the last. -/
theorem Ints.push {cs : Array Value} {off : Nat} {xs : List Int} (hx : Ints cs off xs) (hs : off + xs.length < cs.size) (x : Int) : Ints (cs.setIfInBounds (off + xs.length) (.int .i64 x)) off (xs ++ [x]) := by
  intro k hk
  rw [List.length_append, List.length_singleton] at hk
  by_cases hik : xs.length = k
  · subst hik
    rw [Array.getElem?_setIfInBounds_self_of_lt (by omega)]
    simp [List.getD_eq_getElem?_getD]
  · rw [Array.getElem?_setIfInBounds_ne (by omega), hx k (by omega), getD_append_left _ _ (by omega)]

theorem Ints.of_list (xs : List Int) (rest : Array Value) : Ints ((xs.map (Value.int .i64)).toArray ++ rest) 0 xs := by
  intro k hk
  rw [Nat.zero_add, Array.getElem?_append_left (by simpa using hk)]
  simp [List.getD_eq_getElem?_getD, hk]

/-- A slice of numbers, over a block of one's own. -/
def IntSl (H : Hp) (a : Option Addr) (cap : Nat) (xs : List Int) : Prop :=
  (a = none ∧ cap = 0 ∧ xs = []) ∨ ∃ B off cs t, a = some ⟨B, off, none⟩ ∧ H.own B = some (.cells cs t (0, 0)) ∧ Ints cs off xs ∧ off + cap ≤ cs.size ∧ xs.length ≤ cap

theorem IntSl.grow {H : Hp} {a : Option Addr} {cap : Nat} {xs : List Int} (h : IntSl H a cap xs) {n : Nat} (o : Obj) (h1 : H.own n = none) : IntSl (H.set n o) a cap xs := by
  rcases h with h | ⟨B, off, cs, t, e, hB, hx, h2, h3⟩
  · exact .inl h
  · refine .inr ⟨B, off, cs, t, e, ?_, hx, h2, h3⟩
    rw [set_own_ne _ _ (fun e => by rw [e, h1] at hB; cases hB)]; exact hB

theorem nextslicecap_small {n c : Nat} (h1 : c < n) (h2 : n ≤ 256) : Builtin.nextslicecap n c ≤ 512 := by
  unfold Builtin.nextslicecap
  split
  · omega
  · split <;> omega

section
variable {P : Program} {H : Hp}

theorem semS_askRoom (n : Nat) (K : Unit → Hp → Prop) : SemS P (askRoom n) H K = K () H := by
  unfold askRoom
  rw [semS_ite]
  split <;> simp

theorem semS_loadInts {B off : Nat} {cs : Array Value} {t : TypeId} {fr : Nat × Nat} {xs : List Int} (hb : H.look B = some (.cells cs t fr)) (hx : Ints cs off xs) (K : Array Value → Hp → Prop)
    (h : K (xs.map (Value.int .i64)).toArray H) : SemS P (loadCells ⟨B, off, none⟩ (xs.length * 1)) H K := by
  unfold loadCells
  rw [Nat.mul_one]
  refine semS_loadCellsFrom _ _ _ _ _ _ (xs.map (Value.int .i64)) (by simp) (fun j hj => ⟨.int .i64 (xs.getD j 0), by simp [List.getD_eq_getElem?_getD, hj], ?_⟩) (by simpa using h)
  rw [add_none, Nat.zero_add]
  exact hx.cell hb hj

/-- 'append' of one number. -/
theorem semS_append {st e : TypeId} (hu : P.underlying st = some (.slice e)) {ti : TypeInfo} (hi : P.info? e = some ti) (hsz : ti.size = 1) (hby : ti.bytes = 8) (hz : ti.zero = some (.int .i64 0)) (ty : TypeId)
    {a : Option Addr} {cap : Nat} {xs : List Int} (hs : IntSl H a cap xs) (hlen : xs.length < 256) {g : Nat} {x : Int} {c2 : Nat} (hg : H.cell ⟨g, 0, none⟩ = some (.int .i64 x)) (K : Value → Hp → Prop)
    (h : ∀ (B off cap' : Nat) (cs : Array Value) (t : TypeId), (a = some ⟨B, off, none⟩ ∨ (off = 0 ∧ H.own B = none ∧ H.ro B = none)) → Ints cs off (xs ++ [x]) → off + cap' ≤ cs.size → xs.length + 1 ≤ cap' →
      K (.slice (some ⟨B, off, none⟩) (xs.length + 1) cap') (H.set B (.cells cs t (0, 0)))) :
    SemS P (Builtin.append_ #[st, st] ty #[.slice a xs.length cap, .slice (some ⟨g, 0, none⟩) 1 c2]) H K := by
  have hg1 : ∀ (H : Hp), H.cell ⟨g, 0, none⟩ = some (.int .i64 x) → ∀ (K' : Array Value → Hp → Prop), SemS P (loadCells ⟨g, 0, none⟩ (1 * 1)) H K' = K' #[.int .i64 x] H := fun H hg K' => semS_loadCells1 hg K'
  simp only [Builtin.append_, List.getElem?_toArray, List.getElem?_cons_zero, List.getElem?_cons_succ, semS_bind, semS_pure, semS_underlying, hu, semS_sizeOf, hi, hsz, Builtin.lenOf, Bool.false_eq_true, if_false, semS_ite, Bool.not_false, if_true, Builtin.firstCells]
  by_cases hc : xs.length + 1 ≤ cap
  · simp only [hc, if_true]
    rcases hs with ⟨_, hcap, _⟩ | ⟨B, off, cs, t, rfl, hB, hx, hsz', hle⟩
    · omega
    · rw [hg1 H hg]
      simp only [semS_bind, storeCells, semS_pure, add_none, Nat.mul_one]
      rw [semS_store_own hB (by omega) _ rfl]
      exact h B off cap _ t (.inl rfl) (hx.push (by omega) x) (by simpa using hsz') hc
  · simp only [hc, if_false]
    have hcl : cap ≤ xs.length := by omega
    have h1 : ¬ ((((xs.length + 1 : Nat)) : Int) > IntKind.i64.max ∧ (False ∨ ti.bytes = 0)) := by rw [hby]; simp
    have h2 : ¬ (Builtin.nextslicecap (xs.length + 1) cap * ti.bytes > 2 ^ 48) := by
      have := nextslicecap_small (n := xs.length + 1) (c := cap) (by omega) (by omega)
      rw [hby]; omega
    simp only [semS_typeInfo, hi, semS_ite, semS_bind, semS_pure]
    rw [if_neg (by simpa using h1), if_neg h2]
    simp only [semS_choose, Question.forced, Bool.false_eq_true, if_false, semS_askRoom, Question.cut]
    intro tp
    generalize hcap' : xs.length + 1 + tp % (2 ^ 63 - (xs.length + 1)) = cap'
    have hle : xs.length + 1 ≤ cap' := by omega
    have fin : ∀ m, H.own m = none → H.ro m = none → K (.slice (some ⟨m, 0, none⟩) (xs.length + 1) cap') (H.set m (.cells ((xs.map (Value.int .i64)).toArray ++ #[Value.int .i64 x] ++ Builtin.zeroCells (Value.int .i64 0).cells (cap' - (xs.length + 1))) e (0, 0))) := by
      intro m h1 h2
      refine h m 0 cap' _ e (.inr ⟨rfl, h1, h2⟩) ?_ ?_ hle
      · have := Ints.of_list (xs ++ [x]) (Builtin.zeroCells (Value.int .i64 0).cells (cap' - (xs.length + 1)))
        simpa using this
      · simp [Builtin.zeroCells, Value.cells]; omega
    rcases hs with ⟨rfl, _, rfl⟩ | ⟨B, off, cs, t, rfl, hB, hx, hsz', hle'⟩
    · simp only [semS_pure]
      rw [hg1 H hg]
      simp only [semS_zeroValue, hi, hz, newRow, semS_bind, semS_newObj, semS_pure]
      exact fun m a b => by simpa using fin m a b
    · simp only []
      refine semS_loadInts (look_own hB) hx _ ?_
      rw [hg1 H hg]
      simp only [semS_zeroValue, hi, hz, newRow, semS_bind, semS_newObj, semS_pure]
      exact fun m a b => fin m a b

theorem range_map_zeros (n : Nat) (f : Nat → Value) (hf : ∀ i, f i = .int .i64 0) : Ints ((Array.range n).map f) 0 (List.replicate n 0) := by
  intro k hk
  have hk' : k < n := by simpa using hk
  simp [hk', hf, List.getD_eq_getElem?_getD]

/-- 'make' of a slice of numbers. -/
theorem semS_makeInts {st e : TypeId} (hu : P.underlying st = some (.slice e)) {ti : TypeInfo} (hi : P.info? e = some ti) (hsz : ti.size = 1) (hby : ti.bytes = 8) (hz : ti.zero = some (.int .i64 0)) (n : Nat) (hn : n < 1000) (K : Value → Hp → Prop)
    (h : ∀ m cs, H.own m = none → H.ro m = none → Ints cs 0 (List.replicate n 0) → cs.size = n → K (.slice (some ⟨m, 0, none⟩) n n) (H.set m (.cells cs e (0, 0)))) :
    SemS P (Instr.makeSlice st (.int .i64 n) (.int .i64 n)) H K := by
  have hw : IntKind.i64.wrap (n : Int) = n := Go.IntWalk.i64_in _ (by omega)
  simp only [Instr.makeSlice, semS_bind, semS_underlying, hu, semS_pure, asInt, asIntOf, semS_map, semS_typeInfo, hi, hby, hw]
  have c1 : ¬ ((n : Int) < 0) := by omega
  have c2 : ¬ (((8 : Nat) : Int) * (n : Int) > 2 ^ 48) := by omega
  simp only [c1, c2, decide_false, Bool.or_self, Bool.false_eq_true, if_false, semS_ite, semS_bind, semS_askRoom, semS_sizeOf, hi, hsz, semS_pure, Int.toNat_natCast, Nat.mul_one, gt_iff_lt, Int.lt_irrefl, newRow, semS_newObj]
  by_cases h0 : n = 0
  · subst h0
    simp only [if_true, semS_bind, semS_pure, semS_newObj]
    exact fun m a b => h m _ a b (fun k hk => by simp at hk) (by simp)
  · simp only [h0, if_false, semS_bind, semS_zeroValue, hi, hz, semS_pure, semS_newObj]
    exact fun m a b => h m _ a b (range_map_zeros n _ fun i => by simp [Value.cells, Nat.mod_one]) (by simp)

/-- A literal slice of one number. -/
theorem semS_lit1 {st e : TypeId} (hu : P.underlying st = some (.slice e)) {ti : TypeInfo} (hi : P.info? e = some ti) (hsz : ti.size = 1) (hz : ti.zero = some (.int .i64 0)) (x : Int) (K : Value → Hp → Prop) :
    SemS P (Instr.buildSlice st 1 #[(0, .int .i64 x)]) H K = ∀ m, H.own m = none → H.ro m = none → K (.slice (some ⟨m, 0, none⟩) 1 1) (H.set m (.cells #[.int .i64 x] e (0, 0))) := by
  simp only [Instr.buildSlice, semS_bind, semS_underlying, hu, semS_sizeOf, hi, hsz]
  have e1 : (Array.map (fun x => [Value.int IntKind.i64 0][x % 1]?.getD default) (Array.range 1)).setIfInBounds 0 (Value.int IntKind.i64 x) = #[Value.int .i64 x] := by
    apply Array.ext
    · simp
    · intro i h1 h2
      have : i = 0 := by simp at h2; exact h2
      subst this
      simp
  simp [hi, hz, Instr.fill, Value.cells, newRow, e1]

theorem Ints.tail {cs : Array Value} {off : Nat} {xs : List Int} (h : Ints cs off xs) : Ints cs (off + 1) xs.tail := by
  intro k hk
  have := h (k + 1) (by simp at hk; omega)
  rw [show off + 1 + k = off + (k + 1) by omega, this]
  simp [List.getD_eq_getElem?_getD]
theorem Ints.take {cs : Array Value} {off : Nat} {xs : List Int} (h : Ints cs off xs) (n : Nat) : Ints cs off (xs.take n) := by
  intro k hk
  have hk' : k < n ∧ k < xs.length := by simp at hk; omega
  rw [h k hk'.2]
  simp [List.getD_eq_getElem?_getD, List.getElem?_take, hk'.1]

/-- 's[:h]'. -/
theorem semS_sliceHi {t e : TypeId} (hu : P.underlying t = some (.slice e)) {ti : TypeInfo} (hi : P.info? e = some ti) (a : Option Addr) (len cap h : Nat) (hh : h ≤ cap) (ha : ∀ x, a = some x → x.spot = none) (K : Value → Hp → Prop) :
    SemS P (Instr.sliceAt t (.slice a len cap) none (some (.int .i64 h)) none) H K = K (.slice a h cap) H := by
  have h1 : (0 : Int) ≤ (h : Int) ∧ (h : Int) ≤ (cap : Int) := by omega
  have h2 : (if cap = 0 then a else a.map (·.add (0 * ti.size))) = a := by
    split
    · rfl
    · cases a with
      | none => rfl
      | some x => simp [Addr.add]
  simp only [Instr.sliceAt, Instr.slice, semS_bind, semS_underlying, hu, Instr.sliceBounds, semS_pure, Instr.sliceBound, asIntOf, semS_ite, h1, and_self, if_true, semS_sizeOf, hi, Int.toNat_natCast, Nat.sub_zero, h2]

/-- 's[l:]'. -/
theorem semS_sliceLo {t e : TypeId} (hu : P.underlying t = some (.slice e)) {ti : TypeInfo} (hi : P.info? e = some ti) (a : Option Addr) (len cap l : Nat) (hl : l ≤ len) (K : Value → Hp → Prop) :
    SemS P (Instr.sliceAt t (.slice a len cap) (some (.int .i64 l)) none none) H K = K (.slice (if cap = l then a else a.map (·.add (l * ti.size))) (len - l) (cap - l)) H := by
  have h1 : (0 : Int) ≤ (l : Int) ∧ (l : Int) ≤ (len : Int) := by omega
  simp only [Instr.sliceAt, Instr.slice, semS_bind, semS_underlying, hu, Instr.sliceBounds, semS_pure, Instr.sliceBound, asIntOf, semS_ite, h1, and_self, if_true, semS_sizeOf, hi, Int.toNat_natCast]

theorem wrap_nat (n : Nat) (h : n < 9223372036854775808) : IntKind.i64.wrap (n : Int) = n := Go.IntWalk.i64_in _ (by omega)
theorem wrap_pred (n : Nat) (h0 : 0 < n) (h : n < 9223372036854775808) : IntKind.i64.wrap ((n : Int) - 1) = ((n - 1 : Nat) : Int) := by
  rw [Go.IntWalk.i64_in _ (by omega)]; omega
theorem wrap_succ (n : Nat) (h : n + 1 < 9223372036854775808) : IntKind.i64.wrap ((n : Int) + 1) = ((n + 1 : Nat) : Int) := by
  rw [Go.IntWalk.i64_in _ (by omega)]; omega

end
end Go.Sep
