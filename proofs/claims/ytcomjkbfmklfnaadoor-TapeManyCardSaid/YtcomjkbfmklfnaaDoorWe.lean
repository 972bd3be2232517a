/-
  slices.DeleteFunc over the ones who wait, by its contract. Conditions: none.
-/
import Derived.Test.YtcomjkbfmklfnaaDoorWd
set_option linter.unusedSimpArgs false
set_option linter.unusedVariables false
namespace Go.Proofs.YtcomjkbfmklfnaaDoor
open Go.Conc Go.Sep

theorem cell_set_ne {H : Hp} {b : Nat} {o : Obj} {a : Addr} (h : a.block ≠ b) : (H.set b o).cell a = H.cell a := by
  simp only [Hp.cell, Hp.look, Hp.set]
  simp [h]

theorem Taps.set {H : Hp} {a : Option Addr} {ls : List Tap} (h : Taps H a ls) {b : Nat} (o : Obj) (far : ∀ x, 0 < ls.length → a = some x → x.block ≠ b) : Taps (H.set b o) a ls := by
  rcases h with h | ⟨B, off, e, h⟩
  · exact .inl h
  · by_cases h0 : ls.length = 0
    · exact .inl h0
    refine .inr ⟨B, off, e, fun i hi => ?_⟩
    have hne : ∀ k, (H.set b o).cell ⟨B, k, none⟩ = H.cell ⟨B, k, none⟩ := fun k => cell_set_ne (a := ⟨B, k, none⟩) (show B ≠ b from far _ (by omega) e)
    rw [hne, hne, hne]
    exact h i hi

/-- What the going of those who wait reads and writes. -/
structure GE (H : Hp) (bl bn bo B : Nat) (aL : Option Addr) (ls : List Tap) (now : Int) (out : List (Int × Int)) (cs : Array Value) (t : TypeId) : Prop where
  hl : ∃ capL, H.own bl = some (.cells #[.slice aL ls.length capL] 23 (0, 0))
  hls : Taps H aL ls
  far : ∀ x, 0 < ls.length → aL = some x → H.own x.block = none
  hn : H.own bn = some (.cells #[.int .i64 now] 3 (0, 0))
  ho : ∃ capO, H.own bo = some (.cells #[.slice (some ⟨B, 0, none⟩) out.length capO] 33 (0, 0))
  hB : H.own B = some (.cells cs t (0, 0))
  hF : Fates cs out
  hs : cs.size = out.length * 2
  hlen : out.length = ls.length
  nl : bl ≠ B
  nn : bn ≠ B
  no : bo ≠ B

theorem GE.far' {H : Hp} {bl bn bo B : Nat} {aL : Option Addr} {ls : List Tap} {now : Int} {out : List (Int × Int)} {cs : Array Value} {t : TypeId} (h : GE H bl bn bo B aL ls now out cs t) {b : Nat} (hb : H.own b ≠ none) : ∀ x, 0 < ls.length → aL = some x → x.block ≠ b := fun x l e hx => hb (by rw [← hx]; exact h.far x l e)

theorem GE.turn {H : Hp} {bl bn bo B : Nat} {aL : Option Addr} {ls : List Tap} {now : Int} {out out' : List (Int × Int)} {cs cs' : Array Value} {t : TypeId} (h : GE H bl bn bo B aL ls now out cs t) (hF : Fates cs' out') (hs : cs'.size = cs.size) (hl : out'.length = out.length) :
    GE (H.set B (.cells cs' t (0, 0))) bl bn bo B aL ls now out' cs' t where
  hl := by rw [set_own_ne _ _ h.nl]; exact h.hl
  hls := h.hls.set _ (h.far' (by rw [h.hB]; simp))
  far := fun x l e => by rw [set_own_ne _ _ (h.far' (by rw [h.hB]; simp) x l e)]; exact h.far x l e
  hn := by rw [set_own_ne _ _ h.nn]; exact h.hn
  ho := by rw [set_own_ne _ _ h.no, hl]; exact h.ho
  hB := set_own_same _ _ _
  hF := hF
  hs := by rw [hs, hl]; exact h.hs
  hlen := by rw [hl]; exact h.hlen
  nl := h.nl
  nn := h.nn
  no := h.no

theorem GE.other {H : Hp} {bl bn bo B : Nat} {aL : Option Addr} {ls : List Tap} {now : Int} {out : List (Int × Int)} {cs : Array Value} {t : TypeId} (h : GE H bl bn bo B aL ls now out cs t) {b : Nat} (o : Obj) (hb : ∀ x, 0 < ls.length → aL = some x → x.block ≠ b) (n1 : bl ≠ b) (n2 : bn ≠ b) (n3 : bo ≠ b) (n4 : B ≠ b) :
    GE (H.set b o) bl bn bo B aL ls now out cs t where
  hl := by rw [set_own_ne _ _ n1]; exact h.hl
  hls := h.hls.set _ hb
  far := fun x l e => by rw [set_own_ne _ _ (hb x l e)]; exact h.far x l e
  hn := by rw [set_own_ne _ _ n2]; exact h.hn
  ho := by rw [set_own_ne _ _ n3]; exact h.ho
  hB := by rw [set_own_ne _ _ n4]; exact h.hB
  hF := h.hF
  hs := h.hs
  hlen := h.hlen
  nl := h.nl
  nn := h.nn
  no := h.no

theorem GE.calls {Γ κ : Type} (Y : Proto Γ κ) (main : Bool) (γ : Γ) {H : Hp} {bl bn bo B : Nat} {aL : Option Addr} {ls : List Tap} {now : Int} {out : List (Int × Int)} {cs : Array Value} {t : TypeId} (h : GE H bl bn bo B aL ls now out cs t) (i : Nat) (hi : i < ls.length) :
    CallsT Tryd.prog Y main 22 #[.int .i64 i, .pointer (some ⟨bl, 0, none⟩), .pointer (some ⟨bn, 0, none⟩), .pointer (some ⟨bo, 0, none⟩)] H γ (fun v H' γ' => v = .bool (goneB ls now i) ∧ γ' = γ ∧ ∃ cs', H' = H.set B (.cells cs' t (0, 0)) ∧ GE H' bl bn bo B aL ls now (goneOut ls now out i) cs' t) := by
  obtain ⟨capL, hl⟩ := h.hl
  obtain ⟨capO, ho⟩ := h.ho
  refine (gone_calls Y main H γ (by rw [cell_own hl]; rfl) h.hls (by rw [cell_own h.hn]; rfl) (by rw [cell_own ho]; rfl) h.hB h.hF h.hs i hi (by rw [h.hlen]; exact hi)).mono ?_
  rintro v H' γ' ⟨hv, hg, cs', rfl, hF', hs'⟩
  exact ⟨hv, hg, cs', rfl, h.turn hF' hs' (goneOut_length _ _ _ _)⟩

def delOut (ls : List Tap) (now : Int) (out : List (Int × Int)) (ws : List Nat) : List (Int × Int) := ws.foldl (goneOut ls now) out
def delW (ls : List Tap) (now : Int) (ws : List Nat) : List Nat := ws.filter (fun i => !goneB ls now i)
theorem delOut_length (ls : List Tap) (now : Int) : ∀ (ws : List Nat) (out : List (Int × Int)), (delOut ls now out ws).length = out.length
  | [], _ => rfl
  | w :: ws, out => by rw [delOut, List.foldl_cons]; exact (delOut_length ls now ws _).trans (goneOut_length _ _ _ _)
theorem take_succ_getD {α : Type} (d : α) (ws : List α) (k : Nat) (h : k < ws.length) : ws.take (k + 1) = ws.take k ++ [ws.getD k d] := by
  rw [List.take_add_one, List.getD_eq_getElem?_getD, List.getElem?_eq_getElem h]; rfl
theorem delOut_take (ls : List Tap) (now : Int) (out : List (Int × Int)) (ws : List Nat) (k : Nat) (h : k < ws.length) : delOut ls now out (ws.take (k + 1)) = goneOut ls now (delOut ls now out (ws.take k)) (ws.getD k 0) := by
  rw [take_succ_getD 0 ws k h, delOut, List.foldl_append]; rfl
theorem delW_take (ls : List Tap) (now : Int) (ws : List Nat) (k : Nat) (h : k < ws.length) : delW ls now (ws.take (k + 1)) = delW ls now (ws.take k) ++ (if goneB ls now (ws.getD k 0) then [] else [ws.getD k 0]) := by
  rw [take_succ_getD 0 ws k h, delW, List.filter_append]
  congr 1
  generalize ws.getD k 0 = w
  by_cases hg : goneB ls now w <;> simp [hg]
theorem delW_none (ls : List Tap) (now : Int) (ws : List Nat) (k : Nat) (hk : k ≤ ws.length) (h : ∀ j, j < k → goneB ls now (ws.getD j 0) = false) : delW ls now (ws.take k) = ws.take k := by
  unfold delW
  rw [List.filter_eq_self]
  intro a ha
  obtain ⟨j, hj, rfl⟩ := List.mem_iff_getElem.1 ha
  rw [List.length_take] at hj
  have := h j (by omega)
  rw [List.getD_eq_getElem?_getD, List.getElem?_eq_getElem (by omega)] at this
  rw [List.getElem_take]
  simpa using this

theorem semS_storeInts {P : Program} : ∀ (vs : List Value), (∀ v, v ∈ vs → oneCell v = true) → ∀ (i : Nat) {H : Hp} {b off : Nat} {c : Array Value} {t : TypeId}, H.own b = some (.cells c t (0, 0)) → off + i + vs.length ≤ c.size → ∀ (K : Unit → Hp → Prop),
    (∀ c' : Array Value, c'.size = c.size → (∀ m, m < off + i → c'[m]? = c[m]?) → K () (H.set b (.cells c' t (0, 0)))) → SemS P (storeCells ⟨b, off, none⟩ vs i) H K
  | [], _, i, H, b, off, c, t, hb, _, K, h => by
    simp only [storeCells, semS_pure]
    have := h c rfl (fun _ _ => rfl)
    rwa [set_self hb] at this
  | v :: vs, hv, i, H, b, off, c, t, hb, hs, K, h => by
    rw [List.length_cons] at hs
    simp only [storeCells, semS_bind, add_none]
    rw [semS_store_own hb (by omega) v (hv v (by simp))]
    refine semS_storeInts vs (fun v h => hv v (by simp [h])) (i + 1) (H := H.set b _) (set_own_same _ _ _) (by rw [Array.size_setIfInBounds]; omega) K fun c' h1 h2 => ?_
    rw [set_set]
    refine h c' (by simpa using h1) fun m hm => ?_
    rw [h2 m (by omega), Array.getElem?_setIfInBounds_ne (by omega)]

/-- 'clear' of the end of a row of numbers. -/
theorem semS_clear {P : Program} {st e : TypeId} (hu : P.underlying st = some (.slice e)) {ti : TypeInfo} (hi : P.info? e = some ti) (hz : ti.zero = some (.int .i64 0)) (ty : TypeId) {H : Hp} {b off : Nat} {c : Array Value} {t : TypeId} {n cap : Nat} (hn : 0 < n) (hb : H.own b = some (.cells c t (0, 0))) (hs : off + n ≤ c.size) (K : Value → Hp → Prop)
    (h : ∀ c' : Array Value, c'.size = c.size → (∀ m, m < off → c'[m]? = c[m]?) → K (.tuple #[]) (H.set b (.cells c' t (0, 0)))) : SemS P (Builtin.clear_ #[st] ty #[.slice (some ⟨b, off, none⟩) n cap]) H K := by
  obtain ⟨n, rfl⟩ : ∃ m, n = m + 1 := ⟨n - 1, by omega⟩
  simp only [Builtin.clear_, List.getElem?_toArray, List.getElem?_cons_zero, semS_bind, semS_pure, semS_underlying, hu, semS_zeroValue, hi, hz]
  refine semS_storeInts _ ?_ 0 hb ?_ _ h
  · intro v hv
    simp [Builtin.zeroCells, Value.cells] at hv
    obtain ⟨x, hx, rfl⟩ := hv
    simp [Nat.mod_one]
    rfl
  · simpa [Builtin.zeroCells, Value.cells] using hs

def nI (ws : List Nat) : List Int := ws.map (fun (w : Nat) => (w : Int))
theorem nI_length (ws : List Nat) : (nI ws).length = ws.length := by simp [nI]
theorem nI_getD (ws : List Nat) (k : Nat) (h : k < ws.length) : (nI ws).getD k 0 = ((ws.getD k 0 : Nat) : Int) := by
  simp [nI, List.getD_eq_getElem?_getD, List.getElem?_eq_getElem h]
theorem getD_mem {α : Type} (d : α) (ws : List α) (k : Nat) (h : k < ws.length) : ws.getD k d ∈ ws := by
  rw [List.getD_eq_getElem?_getD, List.getElem?_eq_getElem h]; exact List.getElem_mem h


set_option maxRecDepth 100000 in
set_option maxHeartbeats 4000000 in
theorem delete_calls {Γ κ : Type} (Y : Proto Γ κ) (main : Bool) (H : Hp) (γ : Γ) {bl bn bo B cap : Nat} {aL aw : Option Addr} {now : Int} {ls : List Tap} {out : List (Int × Int)} {cs : Array Value} {t : TypeId} {ws : List Nat}
    (ge : GE H bl bn bo B aL ls now out cs t) (hw : IntSl H aw cap (nI ws)) (hne : ∀ x, aw = some x → x.block ≠ bl ∧ x.block ≠ bn ∧ x.block ≠ bo ∧ x.block ≠ B) (hb : ∀ w, w ∈ ws → w < ls.length) (hl : ws.length < 256) :
    CallsT Tryd.prog Y main 21 #[.slice aw ws.length cap, .func (.func 22) #[] #[.pointer (some ⟨bl, 0, none⟩), .pointer (some ⟨bn, 0, none⟩), .pointer (some ⟨bo, 0, none⟩)]] H γ (fun v H' γ' => γ' = γ ∧ ∃ cs', v = .slice aw (delW ls now ws).length cap ∧ GE H' bl bn bo B aL ls now (delOut ls now out ws) cs' t ∧ IntSl H' aw cap (nI (delW ls now ws)) ∧ (H' = H.set B (.cells cs' t (0, 0)) ∨ ∃ x o, aw = some x ∧ H' = (H.set B (.cells cs' t (0, 0))).set x.block o)) := by
  refine callsT_enter (T := [.slice aw ws.length cap, .func (.func 22) #[] #[.pointer (some ⟨bl, 0, none⟩), .pointer (some ⟨bn, 0, none⟩), .pointer (some ⟨bo, 0, none⟩)], undef, undef, undef, undef, undef, undef, undef, undef, undef, undef, undef, undef, undef, undef, undef, undef, undef, undef, undef, undef, undef, undef, undef, undef, undef, undef, undef, undef, undef, undef, undef, undef, undef, undef, undef, undef, undef, undef, undef, undef]) Tryd.func21 rfl Tryd.ntmps21 rfl (fun Q hret hnorm hless => ?_)
  refine wpT_seq_reg (fun K hK => ?_)
  refine opsL_cons rfl (fun K1 hK1 => ?_)
  simp only [execOp, uponT, resolve, Deferred.ofValue, invoke, builtin, asBool, Instr.makeFunc, Instr.extract, sx, Act.put, Act.eval, nrm]
  refine hK1 _ _ _ ?_; clear hK1 K1
  refine opsL_nil (hK _ _ _ ?_); clear hK K
  refine wpT_seq_reg (fun K hK => ?_)
  refine opsL_cons rfl (fun K1 hK1 => ?_)
  simp only [execOp, uponT, resolve, Deferred.ofValue, invoke, builtin, asBool, Instr.makeFunc, Instr.extract, sx, Act.put, Act.eval, nrm]
  refine hK1 _ _ _ ?_; clear hK1 K1
  refine opsL_cons rfl (fun K1 hK1 => ?_)
  simp only [execOp, uponT, resolve, Deferred.ofValue, invoke, builtin, asBool, Instr.makeFunc, Instr.extract, sx, Act.put, Act.eval, nrm]
  refine hK1 _ _ _ ?_; clear hK1 K1
  refine opsL_cons rfl (fun K1 hK1 => ?_)
  simp only [execOp, uponT, resolve, Deferred.ofValue, invoke, builtin, asBool, Instr.makeFunc, Instr.extract, sx, Act.put, Act.eval, nrm, List.extract_toArray, List.extract_eq_take_drop, List.drop_succ_cons, List.drop_zero, List.take_succ_cons, List.take_zero, List.size_toArray, List.length_cons, List.length_nil, Nat.reduceAdd, Nat.reduceSub, call19]
  rw [← nI_length ws]
  refine (index_calls Y main _ _ 22 #[.pointer (some ⟨bl, 0, none⟩), .pointer (some ⟨bn, 0, none⟩), .pointer (some ⟨bo, 0, none⟩)] (fun H args K => call22 H args K) (fun x => goneB ls now x.toNat) (fun k H' => ∃ cs', H' = H.set B (.cells cs' t (0, 0)) ∧ GE H' bl bn bo B aL ls now (delOut ls now out (ws.take k)) cs' t) (by rw [nI_length]; exact hl) ?_ ?_ ?_).mono ?_
  · rcases hw with ⟨_, _, h⟩ | ⟨Bw, off, cw, tw, rfl, hBw, hx, _, _⟩
    · exact .inl (by rw [h]; rfl)
    · refine .inr ⟨Bw, off, rfl, ?_⟩
      rintro k _ ⟨cs', rfl, _⟩ hk
      have hne' := (hne _ rfl).2.2.2
      exact hx.cell (t := tw) (fr := (0, 0)) (look_own ((set_own_ne _ _ (Ne.symm (Ne.symm hne'))).trans hBw)) hk
  · rintro k Hk hk hp ⟨cs', rfl, g⟩
    rw [nI_length] at hk
    rw [nI_getD ws k hk]
    refine (g.calls Y main _ (ws.getD k 0) (hb _ (getD_mem 0 ws k hk))).mono ?_
    rintro v H' γ' ⟨hv, hg, cs2, rfl, g2⟩
    rw [set_set] at g2 ⊢
    exact ⟨hv, hg, cs2, rfl, by rw [delOut_take _ _ _ _ _ hk]; exact g2⟩
  · exact ⟨cs, (set_self ge.hB).symm, ge⟩
  rintro v H2 γ ⟨rfl, hv⟩
  rw [nI_length] at hv
  have hp' : ∀ j, j < ws.length → goneB ls now ((nI ws).getD j 0).toNat = goneB ls now (ws.getD j 0) := fun j hj => by rw [nI_getD ws j hj]; rfl
  rcases hv with ⟨k, hk, rfl, hpre, hgk, cs1, rfl, g1⟩ | ⟨rfl, hall, cs1, rfl, g1⟩
  ·
    refine hK1 _ _ _ ?_; clear hK1 K1
    simp only [nI_length]
    have hpre' : ∀ j, j < k → goneB ls now (ws.getD j 0) = false := fun j hj => by rw [← hp' j (by omega)]; exact hpre j hj
    rw [hp' k hk] at hgk
    obtain ⟨Bw, off, cw, tw, rfl, hBw, hx, hcap, hlc⟩ := hw.resolve_left (by rintro ⟨_, _, h⟩; have := congrArg List.length h; rw [nI_length] at this; simp at this; rw [this] at hk; simp at hk)
    rw [nI_length] at hlc
    obtain ⟨n1, n2, n3, n4⟩ := hne _ rfl
    simp only [] at n1 n2 n3 n4
    refine opsL_cons rfl (fun K1 hK1 => ?_)
    simp only [execOp, uponT, resolve, Deferred.ofValue, invoke, builtin, asBool, Instr.makeFunc, Instr.extract, sx, Act.put, Act.eval, nrm]
    refine hK1 _ _ _ ?_; clear hK1 K1
    refine opsL_nil (hK _ _ _ ?_); clear hK K
    refine wpT_seq ?_
    have hb1 : ((k : Int) == -1) = false := by simp
    have m1 : IntKind.i64.wrap ((k : Int) + 1) = ((k + 1 : Nat) : Int) := wrap_succ _ (by omega)
    refine wpT_seq_reg (fun K hK => ?_)
    refine opsL_cons rfl (fun K1 hK1 => ?_)
    simp only [execOp, uponT, resolve, Deferred.ofValue, invoke, builtin, asBool, Instr.makeFunc, Instr.extract, sx, Act.put, Act.eval, nrm]
    refine hK1 _ _ _ ?_; clear hK1 K1
    refine opsL_cons rfl (fun K1 hK1 => ?_)
    simp only [execOp, uponT, resolve, Deferred.ofValue, invoke, builtin, asBool, Instr.makeFunc, Instr.extract, sx, Act.put, Act.eval, nrm, hb1]
    refine hK1 _ _ _ ?_; clear hK1 K1
    refine opsL_nil (hK _ _ _ ?_); clear hK K
    refine wpT_cond (t := false) rfl ?_
    simp only [if_true, if_false, Bool.false_eq_true, reduceIte]
    refine wpT_skip ?_
    simp only [thenT]
    refine wpT_seq ?_
    refine wpT_seq_reg (fun K hK => ?_)
    refine opsL_cons rfl (fun K1 hK1 => ?_)
    simp only [execOp, uponT, resolve, Deferred.ofValue, invoke, builtin, asBool, Instr.makeFunc, Instr.extract, sx, Act.put, Act.eval, nrm]
    refine hK1 _ _ _ ?_; clear hK1 K1
    refine opsL_cons rfl (fun K1 hK1 => ?_)
    simp only [execOp, uponT, resolve, Deferred.ofValue, invoke, builtin, asBool, Instr.makeFunc, Instr.extract, sx, Act.put, Act.eval, nrm, m1]
    refine hK1 _ _ _ ?_; clear hK1 K1
    refine opsL_cons rfl (fun K1 hK1 => ?_)
    simp only [execOp, uponT, resolve, Deferred.ofValue, invoke, builtin, asBool, Instr.makeFunc, Instr.extract, sx, Act.put, Act.eval, nrm]
    refine hK1 _ _ _ ?_; clear hK1 K1
    refine opsL_nil (hK _ _ _ ?_); clear hK K
    refine wpT_block_loop (fun a' Hc γc => ∃ (i j : Nat) (cs' csw : Array Value) (s7 s8 s9 s10 s11 s12 s13 s14 s15 s16 s17 s18 s19 s20 s21 s22 s23 s24 s25 s26 s27 s28 s29 s30 s31 s32 s33 s34 s35 s36 s37 s38 s39 s40 s41 : Value), γc = γ ∧ Hc = (H.set B (.cells cs' t (0, 0))).set Bw (.cells csw tw (0, 0)) ∧ GE Hc bl bn bo B aL ls now (delOut ls now out (ws.take j)) cs' t ∧ csw.size = cw.size ∧ Ints csw off (nI (delW ls now (ws.take j))) ∧ (∀ m, j ≤ m → m < ws.length → csw[off + m]? = some (.int .i64 (ws.getD m 0 : Nat))) ∧ j ≤ ws.length ∧ (delW ls now (ws.take j)).length = i ∧ i < j ∧ a' = ⟨#[.slice (some ⟨Bw, off, none⟩) ws.length cap, .func (.func 22) #[] #[.pointer (some ⟨bl, 0, none⟩), .pointer (some ⟨bn, 0, none⟩), .pointer (some ⟨bo, 0, none⟩)], undef, undef, .slice none 0 0, .int .i64 i, .int .i64 j, s7, s8, s9, s10, s11, s12, s13, s14, s15, s16, s17, s18, s19, s20, s21, s22, s23, s24, s25, s26, s27, s28, s29, s30, s31, s32, s33, s34, s35, s36, s37, s38, s39, s40, s41], []⟩) (fun a' _ _ => ws.length - slotNat a' 6) ?_ ?_
    · have hd : delW ls now (ws.take (k + 1)) = ws.take k := by
        rw [delW_take _ _ _ _ hk, hgk, if_pos rfl, List.append_nil, delW_none _ _ _ _ (by omega) hpre']
      have hown1 : (H.set B (.cells cs1 t (0, 0))).own Bw = some (.cells cw tw (0, 0)) := by rw [set_own_ne _ _ n4]; exact hBw
      refine ⟨k, k + 1, cs1, cw, _, _, _, _, _, _, _, _, _, _, _, _, _, _, _, _, _, _, _, _, _, _, _, _, _, _, _, _, _, _, _, _, _, _, _, rfl, (set_self hown1).symm, g1, rfl, ?_, ?_, by omega, ?_, by omega, rfl⟩
      · rw [hd]
        intro m hm
        rw [nI_length, List.length_take] at hm
        rw [hx m (by rw [nI_length]; omega), nI_getD ws m (by omega), nI_getD (ws.take k) m (by rw [List.length_take]; omega)]
        simp [List.getD_eq_getElem?_getD, List.getElem?_take, show m < k by omega]
      · intro m _ hm
        rw [hx m (by rw [nI_length]; omega), nI_getD _ _ hm]
      · rw [hd, List.length_take]; omega
    rintro _ _ γ ⟨i, j, cs', csw, s7, s8, s9, s10, s11, s12, s13, s14, s15, s16, s17, s18, s19, s20, s21, s22, s23, s24, s25, s26, s27, s28, s29, s30, s31, s32, s33, s34, s35, s36, s37, s38, s39, s40, s41, rfl, rfl, g, hsw, hxw, hrest, hj, hi, hij, rfl⟩ Again Out hAgain hOut
    have hown : ((H.set B (.cells cs' t (0, 0))).set Bw (.cells csw tw (0, 0))).own Bw = some (.cells csw tw (0, 0)) := set_own_same _ _ _
    have m2 : IntKind.i64.wrap ((j : Int) + 1) = ((j + 1 : Nat) : Int) := wrap_succ _ (by omega)
    have m3 : IntKind.i64.wrap ((i : Int) + 1) = ((i + 1 : Nat) : Int) := wrap_succ _ (by omega)
    by_cases hjl : j < ws.length
    ·
      have c1 : decide ((j : Int) < (ws.length : Int)) = true := decide_eq_true (by omega)
      refine wpT_seq ?_
      refine wpT_seq_reg (fun K hK => ?_)
      refine opsL_cons rfl (fun K1 hK1 => ?_)
      simp only [execOp, uponT, resolve, Deferred.ofValue, invoke, builtin, asBool, Instr.makeFunc, Instr.extract, sx, Act.put, Act.eval, nrm]
      refine hK1 _ _ _ ?_; clear hK1 K1
      refine opsL_cons rfl (fun K1 hK1 => ?_)
      simp only [execOp, uponT, resolve, Deferred.ofValue, invoke, builtin, asBool, Instr.makeFunc, Instr.extract, sx, Act.put, Act.eval, nrm]
      refine hK1 _ _ _ ?_; clear hK1 K1
      refine opsL_cons rfl (fun K1 hK1 => ?_)
      simp only [execOp, uponT, resolve, Deferred.ofValue, invoke, builtin, asBool, Instr.makeFunc, Instr.extract, sx, Act.put, Act.eval, nrm]
      refine hK1 _ _ _ ?_; clear hK1 K1
      refine opsL_cons rfl (fun K1 hK1 => ?_)
      simp only [execOp, uponT, resolve, Deferred.ofValue, invoke, builtin, asBool, Instr.makeFunc, Instr.extract, sx, Act.put, Act.eval, nrm, c1]
      refine hK1 _ _ _ ?_; clear hK1 K1
      refine opsL_nil (hK _ _ _ ?_); clear hK K
      refine wpT_cond (t := true) rfl ?_
      simp only [if_true, if_false, Bool.false_eq_true, reduceIte]
      refine wpT_skip ?_
      simp only [thenT]
      refine wpT_seq ?_
      refine wpT_block ?_
      refine wpT_seq_reg (fun K hK => ?_)
      refine opsL_cons rfl (fun K1 hK1 => ?_)
      simp only [execOp, uponT, resolve, Deferred.ofValue, invoke, builtin, asBool, Instr.makeFunc, Instr.extract, sx, Act.put, Act.eval, nrm]
      refine hK1 _ _ _ ?_; clear hK1 K1
      refine opsL_cons rfl (fun K1 hK1 => ?_)
      simp only [execOp, uponT, resolve, Deferred.ofValue, invoke, builtin, asBool, Instr.makeFunc, Instr.extract, sx, Act.put, Act.eval, nrm]
      refine hK1 _ _ _ ?_; clear hK1 K1
      refine opsL_cons rfl (fun K1 hK1 => ?_)
      simp only [execOp, uponT, resolve, Deferred.ofValue, invoke, builtin, asBool, Instr.makeFunc, Instr.extract, sx, Act.put, Act.eval, nrm, semS_indexAt Tryd.underlying60 info3 _ _ _ _ _ hjl, size3, Nat.mul_one]
      refine hK1 _ _ _ ?_; clear hK1 K1
      refine opsL_cons rfl (fun K1 hK1 => ?_)
      simp only [execOp, uponT, resolve, Deferred.ofValue, invoke, builtin, asBool, Instr.makeFunc, Instr.extract, sx, Act.put, Act.eval, nrm, semS_loadAt one3 (show _ = some (.int .i64 (ws.getD j 0 : Nat)) from (cell_own hown (off + j)).trans (hrest j (Nat.le_refl j) hjl))]
      refine hK1 _ _ _ ?_; clear hK1 K1
      refine opsL_cons rfl (fun K1 hK1 => ?_)
      simp only [execOp, uponT, resolve, Deferred.ofValue, invoke, builtin, asBool, Instr.makeFunc, Instr.extract, sx, Act.put, Act.eval, nrm]
      refine hK1 _ _ _ ?_; clear hK1 K1
      refine opsL_nil (hK _ _ _ ?_); clear hK K
      refine wpT_seq_reg (fun K hK => ?_)
      refine opsL_cons rfl (fun K1 hK1 => ?_)
      simp only [execOp, uponT, resolve, Deferred.ofValue, invoke, builtin, asBool, Instr.makeFunc, Instr.extract, sx, Act.put, Act.eval, nrm]
      refine hK1 _ _ _ ?_; clear hK1 K1
      refine opsL_cons rfl (fun K1 hK1 => ?_)
      simp only [execOp, uponT, resolve, Deferred.ofValue, invoke, builtin, asBool, Instr.makeFunc, Instr.extract, sx, Act.put, Act.eval, nrm]
      refine hK1 _ _ _ ?_; clear hK1 K1
      refine opsL_cons rfl (fun K1 hK1 => ?_)
      simp only [execOp, uponT, resolve, Deferred.ofValue, invoke, builtin, asBool, Instr.makeFunc, Instr.extract, sx, Act.put, Act.eval, nrm, List.extract_toArray, List.extract_eq_take_drop, List.drop_succ_cons, List.drop_zero, List.take_succ_cons, List.take_zero, List.size_toArray, List.length_cons, List.length_nil, Nat.reduceAdd, Nat.reduceSub, call22]
      refine (g.calls Y main _ (ws.getD j 0) (hb _ (getD_mem 0 ws j hjl))).mono ?_
      rintro v H2 γ ⟨rfl, rfl, cs2, rfl, g2⟩
      refine hK1 _ _ _ ?_; clear hK1 K1
      rw [set_comm3 (Ne.symm n4)] at g2 ⊢
      rw [← delOut_take _ _ _ _ _ hjl] at g2
      have hown2 : ((H.set B (.cells cs2 t (0, 0))).set Bw (.cells csw tw (0, 0))).own Bw = some (.cells csw tw (0, 0)) := set_own_same _ _ _
      refine opsL_cons rfl (fun K1 hK1 => ?_)
      simp only [execOp, uponT, resolve, Deferred.ofValue, invoke, builtin, asBool, Instr.makeFunc, Instr.extract, sx, Act.put, Act.eval, nrm]
      refine hK1 _ _ _ ?_; clear hK1 K1
      refine opsL_nil (hK _ _ _ ?_); clear hK K
      by_cases hg : goneB ls now (ws.getD j 0) = true
      ·
        simp only [hg, Bool.not_true]
        have hd : delW ls now (ws.take (j + 1)) = delW ls now (ws.take j) := by rw [delW_take _ _ _ _ hjl, hg, if_pos rfl, List.append_nil]
        refine wpT_cond (t := false) rfl ?_
        simp only [if_true, if_false, Bool.false_eq_true, reduceIte]
        refine wpT_skip ?_
        simp only [thenT, inBlockT]
        refine wpT_reg (fun K hK => ?_)
        refine opsL_cons rfl (fun K1 hK1 => ?_)
        simp only [execOp, uponT, resolve, Deferred.ofValue, invoke, builtin, asBool, Instr.makeFunc, Instr.extract, sx, Act.put, Act.eval, nrm]
        refine hK1 _ _ _ ?_; clear hK1 K1
        refine opsL_cons rfl (fun K1 hK1 => ?_)
        simp only [execOp, uponT, resolve, Deferred.ofValue, invoke, builtin, asBool, Instr.makeFunc, Instr.extract, sx, Act.put, Act.eval, nrm, m2]
        refine hK1 _ _ _ ?_; clear hK1 K1
        refine opsL_cons rfl (fun K1 hK1 => ?_)
        simp only [execOp, uponT, resolve, Deferred.ofValue, invoke, builtin, asBool, Instr.makeFunc, Instr.extract, sx, Act.put, Act.eval, nrm]
        refine hK1 _ _ _ ?_; clear hK1 K1
        refine opsL_nil (hK _ _ _ ?_); clear hK K
        simp only [thenT, inBlockT, loopQ, reduceIte, Nat.reduceEqDiff]
        refine hAgain _ _ _ ?_ ?_
        · refine ⟨i, j + 1, cs2, csw, _, _, _, _, _, _, _, _, _, _, _, _, _, _, _, _, _, _, _, _, _, _, _, _, _, _, _, _, _, _, _, _, _, _, _, rfl, rfl, g2, hsw, ?_, fun m h1 h2 => hrest m (by omega) h2, hjl, ?_, by omega, rfl⟩
          · rw [hd]; exact hxw
          · rw [hd]; exact hi
        · simp only [slotNat, Array.getD_eq_getD_getElem?, List.getElem?_toArray, List.getElem?_cons_succ, List.getElem?_cons_zero, Option.getD_some, Int.toNat_natCast]; omega
      ·
        have hg' : goneB ls now (ws.getD j 0) = false := by simpa using hg
        simp only [hg', Bool.not_false]
        have hd : delW ls now (ws.take (j + 1)) = delW ls now (ws.take j) ++ [ws.getD j 0] := by rw [delW_take _ _ _ _ hjl, hg', if_neg (by simp)]
        have hil : i < ws.length := by omega
        refine wpT_cond (t := true) rfl ?_
        simp only [if_true, if_false, Bool.false_eq_true, reduceIte]
        refine wpT_seq_reg (fun K hK => ?_)
        refine opsL_cons rfl (fun K1 hK1 => ?_)
        simp only [execOp, uponT, resolve, Deferred.ofValue, invoke, builtin, asBool, Instr.makeFunc, Instr.extract, sx, Act.put, Act.eval, nrm]
        refine hK1 _ _ _ ?_; clear hK1 K1
        refine opsL_cons rfl (fun K1 hK1 => ?_)
        simp only [execOp, uponT, resolve, Deferred.ofValue, invoke, builtin, asBool, Instr.makeFunc, Instr.extract, sx, Act.put, Act.eval, nrm]
        refine hK1 _ _ _ ?_; clear hK1 K1
        refine opsL_cons rfl (fun K1 hK1 => ?_)
        simp only [execOp, uponT, resolve, Deferred.ofValue, invoke, builtin, asBool, Instr.makeFunc, Instr.extract, sx, Act.put, Act.eval, nrm]
        refine hK1 _ _ _ ?_; clear hK1 K1
        refine opsL_cons rfl (fun K1 hK1 => ?_)
        simp only [execOp, uponT, resolve, Deferred.ofValue, invoke, builtin, asBool, Instr.makeFunc, Instr.extract, sx, Act.put, Act.eval, nrm, semS_indexAt Tryd.underlying60 info3 _ _ _ _ _ hil, size3, Nat.mul_one]
        refine hK1 _ _ _ ?_; clear hK1 K1
        refine opsL_cons rfl (fun K1 hK1 => ?_)
        simp only [execOp, uponT, resolve, Deferred.ofValue, invoke, builtin, asBool, Instr.makeFunc, Instr.extract, sx, Act.put, Act.eval, nrm, semS_storeAt info3 size3 hown2 (show off + i < csw.size by omega) (v := .int .i64 (ws.getD j 0 : Nat)) rfl, set_set]
        refine hK1 _ _ _ ?_; clear hK1 K1
        refine opsL_nil (hK _ _ _ ?_); clear hK K
        refine wpT_reg (fun K hK => ?_)
        refine opsL_cons rfl (fun K1 hK1 => ?_)
        simp only [execOp, uponT, resolve, Deferred.ofValue, invoke, builtin, asBool, Instr.makeFunc, Instr.extract, sx, Act.put, Act.eval, nrm]
        refine hK1 _ _ _ ?_; clear hK1 K1
        refine opsL_cons rfl (fun K1 hK1 => ?_)
        simp only [execOp, uponT, resolve, Deferred.ofValue, invoke, builtin, asBool, Instr.makeFunc, Instr.extract, sx, Act.put, Act.eval, nrm, m3]
        refine hK1 _ _ _ ?_; clear hK1 K1
        refine opsL_cons rfl (fun K1 hK1 => ?_)
        simp only [execOp, uponT, resolve, Deferred.ofValue, invoke, builtin, asBool, Instr.makeFunc, Instr.extract, sx, Act.put, Act.eval, nrm]
        refine hK1 _ _ _ ?_; clear hK1 K1
        refine opsL_nil (hK _ _ _ ?_); clear hK K
        simp only [thenT, inBlockT]
        refine wpT_reg (fun K hK => ?_)
        refine opsL_cons rfl (fun K1 hK1 => ?_)
        simp only [execOp, uponT, resolve, Deferred.ofValue, invoke, builtin, asBool, Instr.makeFunc, Instr.extract, sx, Act.put, Act.eval, nrm]
        refine hK1 _ _ _ ?_; clear hK1 K1
        refine opsL_cons rfl (fun K1 hK1 => ?_)
        simp only [execOp, uponT, resolve, Deferred.ofValue, invoke, builtin, asBool, Instr.makeFunc, Instr.extract, sx, Act.put, Act.eval, nrm, m2]
        refine hK1 _ _ _ ?_; clear hK1 K1
        refine opsL_cons rfl (fun K1 hK1 => ?_)
        simp only [execOp, uponT, resolve, Deferred.ofValue, invoke, builtin, asBool, Instr.makeFunc, Instr.extract, sx, Act.put, Act.eval, nrm]
        refine hK1 _ _ _ ?_; clear hK1 K1
        refine opsL_nil (hK _ _ _ ?_); clear hK K
        simp only [thenT, inBlockT, loopQ, reduceIte, Nat.reduceEqDiff]
        refine hAgain _ _ _ ?_ ?_
        · have g3 := g2.other (b := Bw) (.cells (csw.setIfInBounds (off + i) (.int .i64 (ws.getD j 0 : Nat))) tw (0, 0)) (g2.far' (by rw [hown2]; simp)) (Ne.symm n1) (Ne.symm n2) (Ne.symm n3) (Ne.symm n4)
          rw [set_set] at g3
          refine ⟨i + 1, j + 1, cs2, _, _, _, _, _, _, _, _, _, _, _, _, _, _, _, _, _, _, _, _, _, _, _, _, _, _, _, _, _, _, _, _, _, _, _, _, rfl, rfl, g3, by rw [Array.size_setIfInBounds]; exact hsw, ?_, fun m h1 h2 => ?_, hjl, ?_, by omega, rfl⟩
          · rw [hd, nI, List.map_append, List.map_singleton]
            have := hxw.push (by rw [nI_length, hi, hsw]; omega) (ws.getD j 0 : Nat)
            rw [nI_length, hi] at this
            exact this
          · rw [Array.getElem?_setIfInBounds_ne (by omega)]; exact hrest m (by omega) h2
          · rw [hd, List.length_append, hi]; rfl
        · simp only [slotNat, Array.getD_eq_getD_getElem?, List.getElem?_toArray, List.getElem?_cons_succ, List.getElem?_cons_zero, Option.getD_some, Int.toNat_natCast]; omega
    ·
      have c1 : decide ((j : Int) < (ws.length : Int)) = false := decide_eq_false (by omega)
      obtain rfl : j = ws.length := by omega
      rw [List.take_length] at g hxw hi
      refine wpT_seq ?_
      refine wpT_seq_reg (fun K hK => ?_)
      refine opsL_cons rfl (fun K1 hK1 => ?_)
      simp only [execOp, uponT, resolve, Deferred.ofValue, invoke, builtin, asBool, Instr.makeFunc, Instr.extract, sx, Act.put, Act.eval, nrm]
      refine hK1 _ _ _ ?_; clear hK1 K1
      refine opsL_cons rfl (fun K1 hK1 => ?_)
      simp only [execOp, uponT, resolve, Deferred.ofValue, invoke, builtin, asBool, Instr.makeFunc, Instr.extract, sx, Act.put, Act.eval, nrm]
      refine hK1 _ _ _ ?_; clear hK1 K1
      refine opsL_cons rfl (fun K1 hK1 => ?_)
      simp only [execOp, uponT, resolve, Deferred.ofValue, invoke, builtin, asBool, Instr.makeFunc, Instr.extract, sx, Act.put, Act.eval, nrm]
      refine hK1 _ _ _ ?_; clear hK1 K1
      refine opsL_cons rfl (fun K1 hK1 => ?_)
      simp only [execOp, uponT, resolve, Deferred.ofValue, invoke, builtin, asBool, Instr.makeFunc, Instr.extract, sx, Act.put, Act.eval, nrm, c1]
      refine hK1 _ _ _ ?_; clear hK1 K1
      refine opsL_nil (hK _ _ _ ?_); clear hK K
      refine wpT_cond (t := false) rfl ?_
      simp only [if_true, if_false, Bool.false_eq_true, reduceIte]
      refine wpT_exit ?_
      simp only [thenT, inBlockT, loopQ, reduceIte, Nat.reduceEqDiff]
      refine hOut _ _ _ ?_
      simp only [thenT]
      refine wpT_seq_reg (fun K hK => ?_)
      refine opsL_cons rfl (fun K1 hK1 => ?_)
      simp only [execOp, uponT, resolve, Deferred.ofValue, invoke, builtin, asBool, Instr.makeFunc, Instr.extract, sx, Act.put, Act.eval, nrm]
      refine hK1 _ _ _ ?_; clear hK1 K1
      refine opsL_cons rfl (fun K1 hK1 => ?_)
      simp only [execOp, uponT, resolve, Deferred.ofValue, invoke, builtin, asBool, Instr.makeFunc, Instr.extract, sx, Act.put, Act.eval, nrm]
      refine hK1 _ _ _ ?_; clear hK1 K1
      refine opsL_cons rfl (fun K1 hK1 => ?_)
      simp only [execOp, uponT, resolve, Deferred.ofValue, invoke, builtin, asBool, Instr.makeFunc, Instr.extract, sx, Act.put, Act.eval, nrm, Option.map_none, Option.map_some, semS_sliceLo Tryd.underlying60 info3 (some ⟨Bw, off, none⟩) ws.length cap i (show i ≤ ws.length by omega), if_neg (show ¬ cap = i by omega), size3, Nat.mul_one, add_none]
      refine hK1 _ _ _ ?_; clear hK1 K1
      refine opsL_cons rfl (fun K1 hK1 => ?_)
      simp only [execOp, uponT, resolve, Deferred.ofValue, invoke, builtin, asBool, Instr.makeFunc, Instr.extract, sx, Act.put, Act.eval, nrm, List.extract_toArray, List.extract_eq_take_drop, List.drop_succ_cons, List.drop_zero, List.take_succ_cons, List.take_zero, List.size_toArray, List.length_cons, List.length_nil, Nat.reduceAdd, Nat.reduceSub]
      refine semS_clear Tryd.underlying60 info3 zero3 _ (by omega) hown (by omega) _ (fun c' hc1 hc2 => ?_)
      rw [set_set]
      refine hK1 _ _ _ ?_; clear hK1 K1
      refine opsL_nil (hK _ _ _ ?_); clear hK K
      refine wpT_seq_reg (fun K hK => ?_)
      refine opsL_cons rfl (fun K1 hK1 => ?_)
      simp only [execOp, uponT, resolve, Deferred.ofValue, invoke, builtin, asBool, Instr.makeFunc, Instr.extract, sx, Act.put, Act.eval, nrm]
      refine hK1 _ _ _ ?_; clear hK1 K1
      refine opsL_cons rfl (fun K1 hK1 => ?_)
      simp only [execOp, uponT, resolve, Deferred.ofValue, invoke, builtin, asBool, Instr.makeFunc, Instr.extract, sx, Act.put, Act.eval, nrm]
      refine hK1 _ _ _ ?_; clear hK1 K1
      refine opsL_cons rfl (fun K1 hK1 => ?_)
      simp only [execOp, uponT, resolve, Deferred.ofValue, invoke, builtin, asBool, Instr.makeFunc, Instr.extract, sx, Act.put, Act.eval, nrm, Option.map_none, Option.map_some, semS_sliceHi Tryd.underlying60 info3 (some ⟨Bw, off, none⟩) ws.length cap i (show i ≤ cap by omega) (by intro x e; cases e; rfl)]
      refine hK1 _ _ _ ?_; clear hK1 K1
      refine opsL_cons rfl (fun K1 hK1 => ?_)
      simp only [execOp, uponT, resolve, Deferred.ofValue, invoke, builtin, asBool, Instr.makeFunc, Instr.extract, sx, Act.put, Act.eval, nrm]
      refine hK1 _ _ _ ?_; clear hK1 K1
      refine opsL_nil (hK _ _ _ ?_); clear hK K
      refine wpT_ret (hret _ _ _ (bodyPost_ret1 rfl ?_))
      have g3 := g.other (b := Bw) (.cells c' tw (0, 0)) (g.far' (by rw [hown]; simp)) (Ne.symm n1) (Ne.symm n2) (Ne.symm n3) (Ne.symm n4)
      rw [set_set] at g3
      refine ⟨rfl, cs', by rw [hi]; rfl, g3, .inr ⟨Bw, off, c', tw, rfl, set_own_same _ _ _, fun m hm => ?_, by omega, by rw [nI_length]; omega⟩, .inr ⟨_, _, rfl, rfl⟩⟩
      rw [nI_length] at hm
      rw [hc2 (off + m) (by omega)]
      exact hxw m (by rw [nI_length]; exact hm)
  ·
    refine hK1 _ _ _ ?_; clear hK1 K1
    simp only [nI_length]
    refine opsL_cons rfl (fun K1 hK1 => ?_)
    simp only [execOp, uponT, resolve, Deferred.ofValue, invoke, builtin, asBool, Instr.makeFunc, Instr.extract, sx, Act.put, Act.eval, nrm]
    refine hK1 _ _ _ ?_; clear hK1 K1
    refine opsL_nil (hK _ _ _ ?_); clear hK K
    refine wpT_seq ?_
    have hb1 : ((-1 : Int) == -1) = true := rfl
    refine wpT_seq_reg (fun K hK => ?_)
    refine opsL_cons rfl (fun K1 hK1 => ?_)
    simp only [execOp, uponT, resolve, Deferred.ofValue, invoke, builtin, asBool, Instr.makeFunc, Instr.extract, sx, Act.put, Act.eval, nrm]
    refine hK1 _ _ _ ?_; clear hK1 K1
    refine opsL_cons rfl (fun K1 hK1 => ?_)
    simp only [execOp, uponT, resolve, Deferred.ofValue, invoke, builtin, asBool, Instr.makeFunc, Instr.extract, sx, Act.put, Act.eval, nrm, hb1]
    refine hK1 _ _ _ ?_; clear hK1 K1
    refine opsL_nil (hK _ _ _ ?_); clear hK K
    refine wpT_cond (t := true) rfl ?_
    simp only [if_true, if_false, Bool.false_eq_true, reduceIte]
    refine wpT_seq_reg (fun K hK => ?_)
    refine opsL_cons rfl (fun K1 hK1 => ?_)
    simp only [execOp, uponT, resolve, Deferred.ofValue, invoke, builtin, asBool, Instr.makeFunc, Instr.extract, sx, Act.put, Act.eval, nrm]
    refine hK1 _ _ _ ?_; clear hK1 K1
    refine opsL_cons rfl (fun K1 hK1 => ?_)
    simp only [execOp, uponT, resolve, Deferred.ofValue, invoke, builtin, asBool, Instr.makeFunc, Instr.extract, sx, Act.put, Act.eval, nrm]
    refine hK1 _ _ _ ?_; clear hK1 K1
    refine opsL_nil (hK _ _ _ ?_); clear hK K
    refine wpT_ret (hret _ _ _ (bodyPost_ret1 rfl ?_))
    have hd : delW ls now ws = ws := by
      have := delW_none ls now ws ws.length (Nat.le_refl _) (fun j hj => by rw [← hp' j hj]; exact hall j hj)
      rwa [List.take_length] at this
    rw [List.take_length] at g1
    refine ⟨rfl, cs1, by rw [hd]; rfl, g1, ?_, .inl rfl⟩
    rw [hd]
    rcases hw with h | ⟨Bw, off, cw, tw, rfl, hBw, h⟩
    · exact .inl h
    · exact .inr ⟨Bw, off, cw, tw, rfl, by rw [set_own_ne _ _ (hne _ rfl).2.2.2]; exact hBw, h⟩
end Go.Proofs.YtcomjkbfmklfnaaDoor
