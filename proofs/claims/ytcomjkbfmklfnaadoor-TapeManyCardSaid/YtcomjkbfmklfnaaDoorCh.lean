/-
  A company: what happens at a channel: a receive that lets a sender who waits into the buffer; who offers what; what a communication leaves. Conditions: none.
-/
import Derived.Test.YtcomjkbfmklfnaaDoorCg
set_option linter.unusedSimpArgs false
set_option linter.unusedVariables false
namespace Go.Sep
open Go.Conc
open Go.ConcR (KK wgBlock WgAt stA smA rd wr mk)
open Go.ConcN (RW WgLive PayAt)

section
variable {P : Program} {gs : Array Goroutine} {w w₁ : World} {sl : Option (Nat × Nat)} {i : Nat} {g g₂ : Goroutine} {es : Array Event} {shape : CommShape} {blocking : Bool} {c cap s r : Nat} {buf : Array Value} {closed tm : Bool} {z : Value}

/-- A receive from a buffer at which senders wait: the first value is taken, and one of them comes in, whichever the tape picks. -/
theorem crowd_recv_refill (hi : gs[i]? = some g) (h : stepG P (i == 0) g w = .comm g₂ #[rcase c z] blocking shape w₁ es) (hc : w₁.heap[c]? = some (.chan cap buf closed s r tm)) (hsome : 0 < buf.size)
    (hne : partners (gs.setIfInBounds i ph) c true ≠ [])
    (hall : ∀ j k, (j, k) ∈ partners (gs.setIfInBounds i ph) c true → k = 0 ∧ j ≠ i ∧ ∃ gj vj zj shj, gs[j]? = some (parked gj #[scase c vj zj] shj)) :
    ∃ (j : Nat) (gj : Goroutine) (vj zj : Value) (shj : CommShape) (d : Nat), j ≠ i ∧ gs[j]? = some (parked gj #[scase c vj zj] shj) ∧
      runT P (crowd gs w sl) i = (.next (crowd ((gs.setIfInBounds j (gj.finishComm P #[scase c vj zj] shj 0 undef false)).setIfInBounds i (g₂.finishComm P #[rcase c z] shape 0 (buf.getD 0 undef) true)) ((w₁.at d).setChan c cap ((buf.extract 1 buf.size).push vj) closed (s + 1) (r + 1) tm) sl),
        MemOp.ofEvents i g.frame.fn g.frame.place es ++ #[{ g := i, fn := g₂.frame.fn, pos := g₂.frame.place, act := .recv c r cap }, { g := i, fn := g₂.frame.fn, pos := g₂.frame.place, act := .recvDone c r },
          { g := j, fn := gj.frame.fn, pos := gj.frame.place, act := .send c s }, { g := j, fn := gj.frame.fn, pos := gj.frame.place, act := .sendDone c s }]) := by
  generalize hps : partners (gs.setIfInBounds i ph) c true = ps at hne hall
  have hlen : 0 < ps.length := List.length_pos_iff.2 hne
  obtain ⟨b, d, hb, hpick⟩ : ∃ b d, b < ps.length ∧ (if (Question.extern "which waiting goroutine is the partner" ps.length).forced = true then (b = 0 ∧ d = w₁.drawn) else (b = (Question.extern "which waiting goroutine is the partner" ps.length).cut (w₁.tape w₁.drawn (.extern "which waiting goroutine is the partner" ps.length)) ∧ d = w₁.drawn + 1)) := by
    by_cases hf : (Question.extern "which waiting goroutine is the partner" ps.length).forced = true
    · exact ⟨0, w₁.drawn, hlen, by rw [if_pos hf]; exact ⟨rfl, rfl⟩⟩
    · refine ⟨_, w₁.drawn + 1, ?_, by rw [if_neg hf]; exact ⟨rfl, rfl⟩⟩
      simp only [Question.cut]
      rw [if_neg (by omega)]
      exact Nat.mod_lt _ hlen
  obtain ⟨⟨j, k⟩, hjk⟩ : ∃ p, ps[b]? = some p := ⟨ps[b], List.getElem?_eq_getElem hb⟩
  obtain ⟨rfl, hij, gj, vj, zj, shj, hj⟩ := hall j k (List.mem_of_getElem? hjk)
  refine ⟨j, gj, vj, zj, shj, d, hij, hj, ?_⟩
  rw [runT_crowd_comm hi h]
  have hj' := stand_get (i := i) hij hj
  have hfp := finishPartner_at P (gs.setIfInBounds i ph) hj' (cs := #[scase c vj zj]) (sh := shj) rfl 0 undef
  have hgd : (gs.setIfInBounds i ph).getD j default = parked gj #[scase c vj zj] shj := by rw [Array.getD_eq_getD_getElem?, hj']; rfl
  have hov : offeredValue (gs.setIfInBounds i ph) j 0 = vj := by simp [offeredValue, hj', parked, scase]
  have hbd : ps.getD b (0, 0) = (j, 0) := by rw [List.getD_eq_getElem?_getD, hjk]; rfl
  have hw : ways w₁ (gs.setIfInBounds i ph) { chan := .chan (some c), send := none, zero := z } = [.buffer] := by
    simp [ways, hc, hsome]
  by_cases hf : (Question.extern "which waiting goroutine is the partner" ps.length).forced = true
  · rw [if_pos hf] at hpick
    obtain ⟨rfl, rfl⟩ := hpick
    have hf' : ps.length = 1 := by simpa [Question.forced] using hf
    simp [communicate, hw, choose, Sem.run, Question.forced, bind, Sem.bind, pure, rcase, hc, hps, hf']
    have e0 : ps[0]'hlen = (j, 0) := (List.getElem?_eq_some_iff.1 hjk).2
    simp [e0, hov, hfp, hj', World.setChan, crowd, set_stand2, scase, parked, World.at]
    try rfl
  · rw [if_neg hf] at hpick
    obtain ⟨rfl, rfl⟩ := hpick
    have hf' : ¬ ps.length = 1 := by simpa [Question.forced] using hf
    simp [communicate, hw, choose, Sem.run, Question.forced, bind, Sem.bind, pure, rcase, hc, hps, hf']
    simp [hjk, hov, hfp, hj', World.setChan, crowd, set_stand2, scase, parked, World.at]
    try rfl
end

section
variable {P : Program} {Q : Value → Prop} {w₀ : World} {gs : Array Goroutine} {w : World} {t : Trace} {Hs : Nat → Hp} {γs : Nat → Gh} {sh : Nat → Sh} {RO : Nat → Option Obj} {φ : Ph} {got : List Nat} {base : Nat} {D : FedD}

/-- Which members there are. -/
theorem Fed.who (hF : Fed φ got base gs w t γs RO D) (h0 : γs 0 = .fed φ got) {j : Nat} {x : Goroutine} (hx : gs[j]? = some x) : (j = 0 ∧ γs j = .fed φ got) ∨ (0 < j ∧ j < base ∧ γs j = .gone) ∨ (∃ i, i < φ.n ∧ j = base + i) ∨ j = base + φ.n := by
  have hlt := (Array.getElem?_eq_some_iff.1 hx).1
  have := hF.size
  rcases Nat.eq_zero_or_pos j with rfl | hp
  · exact .inl ⟨rfl, h0⟩
  rcases Nat.lt_or_ge j base with h1 | h1
  · exact .inr (.inl ⟨hp, h1, (hF.traced.old j hp h1).1⟩)
  rcases Nat.lt_or_ge j (base + φ.n) with h2 | h2
  · exact .inr (.inr (.inl ⟨j - base, by omega, by omega⟩))
  · exact .inr (.inr (.inr (by omega)))

theorem Fed.wk_phi (hF : Fed φ got base gs w t γs RO D) (h0 : γs 0 = .fed φ got) {j : Nat} {x : Goroutine} (hx : gs[j]? = some x) {φ' : Ph} {nx : Nat} {h : Option Nat} (hj : γs j = .wk φ' nx h) : φ' = φ ∧ ∃ i, i < φ.n ∧ j = base + i := by
  rcases hF.who h0 hx with ⟨rfl, e⟩ | ⟨_, _, e⟩ | ⟨i, hi, rfl⟩ | rfl
  · rw [e] at hj; cases hj
  · rw [e] at hj; cases hj
  · rcases hF.parts.wk i hi with ⟨_, _, _, e⟩ | e | ⟨_, _, e⟩ | e <;> rw [e] at hj <;> cases hj
    exact ⟨rfl, i, hi, rfl⟩
  · rcases hF.parts.fd with ⟨_, _, e⟩ | ⟨_, e⟩ | e <;> rw [e] at hj <;> cases hj
theorem Fed.fd_phi (hF : Fed φ got base gs w t γs RO D) (h0 : γs 0 = .fed φ got) {j : Nat} {x : Goroutine} (hx : gs[j]? = some x) {φ' : Ph} {k : Nat} (hj : γs j = .fd φ' k) : φ' = φ ∧ j = base + φ.n := by
  rcases hF.who h0 hx with ⟨rfl, e⟩ | ⟨_, _, e⟩ | ⟨i, hi, rfl⟩ | rfl
  · rw [e] at hj; cases hj
  · rw [e] at hj; cases hj
  · rcases hF.parts.wk i hi with ⟨_, _, _, e⟩ | e | ⟨_, _, e⟩ | e <;> rw [e] at hj <;> cases hj
  · rcases hF.parts.fd with ⟨_, _, e⟩ | ⟨_, e⟩ | e <;> rw [e] at hj <;> cases hj
    exact ⟨rfl, rfl⟩
theorem Fed.fw_phi (hF : Fed φ got base gs w t γs RO D) (h0 : γs 0 = .fed φ got) {j : Nat} {x : Goroutine} (hx : gs[j]? = some x) {φ' : Ph} {s : FW} (hj : γs j = .fw φ' s) : φ' = φ ∧ j = base + φ.n := by
  rcases hF.who h0 hx with ⟨rfl, e⟩ | ⟨_, _, e⟩ | ⟨i, hi, rfl⟩ | rfl
  · rw [e] at hj; cases hj
  · rw [e] at hj; cases hj
  · rcases hF.parts.wk i hi with ⟨_, _, _, e⟩ | e | ⟨_, _, e⟩ | e <;> rw [e] at hj <;> cases hj
  · rcases hF.parts.fd with ⟨_, _, e⟩ | ⟨_, e⟩ | e <;> rw [e] at hj <;> cases hj
    exact ⟨rfl, rfl⟩

/-- WHO OFFERS WHAT. -/
inductive Offer (P : Program) (Q : Value → Prop) (φ : Ph) (base : Nat) (gs : Array Goroutine) (Hs : Nat → Hp) (γs : Nat → Gh) (sh : Nat → Sh) (j c : Nat) : Bool → Prop
  | recvD (g₀ : Goroutine) (got : List Nat) : j = 0 → c = φ.dn → γs j = .fed φ got → Meets P Q true .recvD (sh j) g₀ (Hs j) (γs j) → gs[j]? = some (parked (core g₀) #[rcase φ.dn φ.zw] (.recv true)) → Offer P Q φ base gs Hs γs sh j c false
  | recvT (g₀ : Goroutine) (i nx : Nat) : i < φ.n → j = base + i → c = φ.td → γs j = .wk φ nx none → Meets P Q false .recvT (sh j) g₀ (Hs j) (γs j) → gs[j]? = some (parked (core g₀) #[rcase φ.td z0] (.recv true)) → Offer P Q φ base gs Hs γs sh j c false
  | sendT (g₀ : Goroutine) (k : Nat) (z : Value) : j = base + φ.n → c = φ.td → γs j = .fd φ k → k < φ.m → Meets P Q false .sendT (sh j) g₀ (Hs j) (γs j) → gs[j]? = some (parked (core g₀) #[scase φ.td (numV k) z] .send) → Offer P Q φ base gs Hs γs sh j c true
  | sendD (g₀ : Goroutine) (i nx k : Nat) (v : Value) (car : Option (Nat × Obj)) (z : Value) : i < φ.n → j = base + i → c = φ.dn → γs j = .wk φ nx (some k) → φ.res k v car → (∀ B o, car = some (B, o) → (Hs j).ro B = some o) → Meets P Q false .sendD (sh j) g₀ (Hs j) (γs j) →
      gs[j]? = some (parked (core g₀) #[scase φ.dn v z] .send) → Offer P Q φ base gs Hs γs sh j c true

theorem offers_who (hF : Fed φ got base gs w t γs RO D) (h0 : γs 0 = .fed φ got) (hS : ∀ j g, gs[j]? = some g → Sits P Q j g (sh j) (Hs j) (γs j) w) {i c : Nat} {send : Bool} {j k : Nat} (h : (j, k) ∈ partners (gs.setIfInBounds i ph) c send) :
    j ≠ i ∧ k = 0 ∧ Offer P Q φ base gs Hs γs sh j c send := by
  obtain ⟨x, hx, hk⟩ := mem_partners.1 h
  rcases getElem?_stand gs i j x hx with ⟨_, rfl⟩ | ⟨hji, hx⟩
  · rw [offersAt_ph] at hk; cases hk
  refine ⟨hji, ?_⟩
  have hb1 := hF.base1
  have hs := hS j x hx
  have run : x.status ≠ .blocked → k = 0 ∧ Offer P Q φ base gs Hs γs sh j c send := fun e => by rw [offersAt_of_not_blocked e] at hk; cases hk
  cases hs with
  | run g₀ a b => exact run (by rw [b]; simp)
  | recvD g₀ φ' got' a b e =>
    rcases hF.who h0 hx with ⟨rfl, e'⟩ | ⟨_, _, e'⟩ | ⟨i', hi', rfl⟩ | rfl
    · rw [a] at e'; cases e'
      subst e
      cases send with
      | true => rw [offersAt_parked_recv'] at hk; cases hk
      | false =>
        rw [offersAt_parked_recv] at hk
        split at hk
        · rename_i e1; simp at hk; exact ⟨hk, .recvD g₀ got rfl e1.symm a b hx⟩
        · cases hk
    · rw [a] at e'; cases e'
    · rcases hF.parts.wk i' hi' with ⟨_, _, _, e'⟩ | e' | ⟨_, _, e'⟩ | e' <;> rw [a] at e' <;> cases e'
    · rcases hF.parts.fd with ⟨_, _, e'⟩ | ⟨_, e'⟩ | e' <;> rw [a] at e' <;> cases e'
  | recvT g₀ φ' nx a b e =>
    obtain ⟨rfl, i', hi', rfl⟩ := hF.wk_phi h0 hx a
    have e0 : (base + i' == 0) = false := by simp; omega
    rw [e0] at b
    subst e
    cases send with
    | true => rw [offersAt_parked_recv'] at hk; cases hk
    | false =>
      rw [offersAt_parked_recv] at hk
      split at hk
      · rename_i e1; simp at hk; exact ⟨hk, .recvT g₀ i' nx hi' rfl e1.symm a b hx⟩
      · cases hk
  | sendT g₀ φ' k' z a a' b e =>
    obtain ⟨rfl, rfl⟩ := hF.fd_phi h0 hx a
    have e0 : (base + φ'.n == 0) = false := by simp; omega
    rw [e0] at b
    subst e
    cases send with
    | false => rw [offersAt_parked_send'] at hk; cases hk
    | true =>
      rw [offersAt_parked_send] at hk
      split at hk
      · rename_i e1; simp at hk; exact ⟨hk, .sendT g₀ k' z rfl e1.symm a a' b hx⟩
      · cases hk
  | sendD g₀ φ' nx k' v car z a a1 a2 b e =>
    obtain ⟨rfl, i', hi', rfl⟩ := hF.wk_phi h0 hx a
    have e0 : (base + i' == 0) = false := by simp; omega
    rw [e0] at b
    subst e
    cases send with
    | false => rw [offersAt_parked_send'] at hk; cases hk
    | true =>
      rw [offersAt_parked_send] at hk
      split at hk
      · rename_i e1; simp at hk; exact ⟨hk, .sendD g₀ i' nx k' v car z hi' rfl e1.symm a a1 a2 b hx⟩
      · cases hk
  | sema g₀ φ' a b e1 e2 e3 => unfold offersAt at hk; rw [e2, e3] at hk; cases hk
  | tail φ' j' m a b e => exact run (by rw [e.running]; simp)
  | quit n a b e => exact run (by rcases e.status with h | h <;> rw [h] <;> simp)

theorem Offer.td_send {j : Nat} (ho : φ.Ok) (h : Offer P Q φ base gs Hs γs sh j φ.td true) : ∃ g₀ k z, j = base + φ.n ∧ γs j = .fd φ k ∧ k < φ.m ∧ Meets P Q false .sendT (sh j) g₀ (Hs j) (γs j) ∧ gs[j]? = some (parked (core g₀) #[scase φ.td (numV k) z] .send) := by
  cases h with
  | sendT g₀ k z a _ b c d e => exact ⟨g₀, k, z, a, b, c, d, e⟩
  | sendD g₀ i nx k v car z _ _ h => exact absurd h ho.td_dn
theorem Offer.td_recv {j : Nat} (ho : φ.Ok) (h : Offer P Q φ base gs Hs γs sh j φ.td false) : ∃ g₀ i nx, i < φ.n ∧ j = base + i ∧ γs j = .wk φ nx none ∧ Meets P Q false .recvT (sh j) g₀ (Hs j) (γs j) ∧ gs[j]? = some (parked (core g₀) #[rcase φ.td z0] (.recv true)) := by
  cases h with
  | recvD g₀ got _ h => exact absurd h ho.td_dn
  | recvT g₀ i nx a b _ c d e => exact ⟨g₀, i, nx, a, b, c, d, e⟩
theorem Offer.dn_send {j : Nat} (ho : φ.Ok) (h : Offer P Q φ base gs Hs γs sh j φ.dn true) : ∃ g₀ i nx k v car z, i < φ.n ∧ j = base + i ∧ γs j = .wk φ nx (some k) ∧ φ.res k v car ∧ (∀ B o, car = some (B, o) → (Hs j).ro B = some o) ∧ Meets P Q false .sendD (sh j) g₀ (Hs j) (γs j) ∧
    gs[j]? = some (parked (core g₀) #[scase φ.dn v z] .send) := by
  cases h with
  | sendT g₀ k z _ h => exact absurd h (Ne.symm ho.td_dn)
  | sendD g₀ i nx k v car z a b _ c d e f h => exact ⟨g₀, i, nx, k, v, car, z, a, b, c, d, e, f, h⟩
theorem Offer.dn_recv {j : Nat} (ho : φ.Ok) (h : Offer P Q φ base gs Hs γs sh j φ.dn false) : ∃ g₀ got, j = 0 ∧ γs j = .fed φ got ∧ Meets P Q true .recvD (sh j) g₀ (Hs j) (γs j) ∧ gs[j]? = some (parked (core g₀) #[rcase φ.dn φ.zw] (.recv true)) := by
  cases h with
  | recvD g₀ got a _ b c d => exact ⟨g₀, got, a, b, c, d⟩
  | recvT g₀ i nx _ _ h => exact absurd h (Ne.symm ho.td_dn)

/-! ### what a communication leaves -/
theorem setChan_ne {w : World} {c cap s r b : Nat} {buf : Array Value} {closed tm : Bool} (h : b ≠ c) : (w.setChan c cap buf closed s r tm).heap[b]? = w.heap[b]? := by
  unfold World.setChan
  simp only []
  rw [Array.getElem?_setIfInBounds_ne (fun e => h e.symm)]
theorem setChan_eq {w : World} {c cap s r : Nat} {buf : Array Value} {closed tm : Bool} (h : c < w.heap.size) : (w.setChan c cap buf closed s r tm).heap[c]? = some (.chan cap buf closed s r tm) := by
  unfold World.setChan
  simp only []
  rw [Array.getElem?_setIfInBounds_self_of_lt h]
theorem setChan_size {w : World} {c cap s r : Nat} {buf : Array Value} {closed tm : Bool} : (w.setChan c cap buf closed s r tm).heap.size = w.heap.size := by simp [World.setChan]

/-- A world in which the company's two channels alone are turned. -/
structure Turned (φ : Ph) (w w' : World) : Prop where
  ne : ∀ b, b ≠ φ.td → b ≠ φ.dn → w'.heap[b]? = w.heap[b]?
  size : w'.heap.size = w.heap.size
  os : w'.os = w.os
  tape : w'.tape = w.tape
  output : w'.output = w.output

theorem Turned.at (w : World) (d : Nat) : Turned φ w (w.at d) := ⟨fun _ _ _ => rfl, rfl, rfl, rfl, rfl⟩
theorem Turned.refl (w : World) : Turned φ w w := ⟨fun _ _ _ => rfl, rfl, rfl, rfl, rfl⟩
theorem Turned.chan (w : World) (d : Nat) {c cap s r : Nat} {buf : Array Value} {closed tm : Bool} (h : c = φ.td ∨ c = φ.dn) : Turned φ w ((w.at d).setChan c cap buf closed s r tm) :=
  ⟨fun b h1 h2 => setChan_ne (w := w.at d) (by rcases h with rfl | rfl <;> assumption), setChan_size, rfl, rfl, rfl⟩

/-- What is listed of a communication. -/
structure Quiet (N : Nat) (u : Trace) : Prop where
  lt : ∀ op ∈ u, op.g < N
  touch : ∀ op ∈ u, op.act.touch? = none
  deaf : ∀ op ∈ u, op.act ≠ .mark .disable ∧ op.act ≠ .mark .enable
  rel : ∀ op ∈ u, ∀ a, op.act ≠ .mark (.release a)

def Hp.learnt (Hs : Nat → Hp) (car : Option (Nat × Obj)) : Nat → Hp := upd Hs 0 ((Hs 0).learn car)

theorem comm_inv (hI : Inv P Q w₀ gs w t Hs γs sh RO) (h0 : γs 0 = .fed φ got) (hF : Fed φ got base gs w t γs RO D) {gs' : Array Goroutine} {w' : World} {u : Trace} {γs' : Nat → Gh} {sh' : Nat → Sh} {car : Option (Nat × Obj)} (hsz : gs'.size = gs.size) (hu : Quiet gs.size u) (hw : Turned φ w w')
    (hcar : ∀ B o, car = some (B, o) → RO B = some o ∧ ∀ i a x, touchAt (t ++ u) i = some a → a.write = true → a.loc = .cell x → x.block = B → Knows (t ++ u) 0 i)
    (hsits : ∀ j x, gs'[j]? = some x → (j ≠ 0 ∧ gs[j]? = some x ∧ γs' j = γs j ∧ sh' j = sh j) ∨ Sits P Q j x (sh' j) (Hp.learnt Hs car j) (γs' j) w')
    (hsync : ∀ b, (γs' 0).sync b → (γs 0).sync b) (hph : PhI gs' w' (t ++ u) γs' RO) : Inv P Q w₀ gs' w' (t ++ u) (Hp.learnt Hs car) γs' sh' RO := by
  have hm1 : MemI Hs RO (γs' 0).sync w' := (hI.mem.sync_step (Hs' := Hs) (fun _ => rfl) (fun _ => rfl) hw.size fun b hb => hw.ne b (fun e => hb (by rw [h0]; exact .inl e)) (fun e => hb (by rw [h0]; exact .inr (.inl e)))).sub hsync
  have hold : ∀ {b}, RO b ≠ none ∨ b = φ.wg → w'.heap[b]? = w.heap[b]? := fun {b} hb => by
    rcases hb with hb | rfl
    · exact hw.ne b (fun e => hb (by rw [e]; exact (hI.mem.sync _ (by rw [h0]; exact .inl rfl)).2.1)) (fun e => hb (by rw [e]; exact (hI.mem.sync _ (by rw [h0]; exact .inr (.inl rfl))).2.1))
    · exact hw.ne _ (Ne.symm hF.ok.td_wg) (Ne.symm hF.ok.dn_wg)
  have elr : ∀ b o, ((Hs 0).learn car).ro b = some o → (Hs 0).ro b = some o ∨ car = some (b, o) := fun b o h => by
    cases car with
    | none => exact .inl h
    | some x =>
      obtain ⟨B, o'⟩ := x
      simp only [Hp.learn] at h
      split at h
      · rename_i e; subst e; cases h; exact .inr rfl
      · exact .inl h
  have elo : ((Hs 0).learn car).own = (Hs 0).own := by cases car <;> rfl
  have eld : ((Hs 0).learn car).d = (Hs 0).d := by cases car <;> rfl
  refine ⟨hm1.turn (fun b o h => by rw [elo] at h; exact h) (fun b o h => (elr b o h).elim (hI.mem.ro 0 b o) fun e => (hcar b o e).1) (fun _ _ h => h) (fun _ _ h => .inl h) (fun _ h => .inl h), ?_, fun j hj => ?_, fun j x hx => ?_, hw.os.trans hI.os, hw.tape.trans hI.tape, hw.output.trans hI.output, hI.keep, hph, by rw [hsz]; exact hI.pos⟩
  · rw [hw.size]
    refine (hI.tr.mute hu.touch hu.deaf hu.rel).weaken (fun j b h => ?_) (fun j b h => ?_) fun j => ?_
    · unfold Hp.learnt at h
      by_cases hj : j = 0
      · subst hj; rw [upd_same, elo] at h; exact h
      · rw [upd_ne _ _ hj] at h; exact h
    · unfold Hp.learnt at h
      by_cases hj : j = 0
      · subst hj
        rw [upd_same] at h
        obtain ⟨o, ho⟩ := some_of_ne h
        rcases elr b o ho with h1 | h1
        · exact .inl (by rw [h1]; simp)
        · exact .inr (.inr (hcar b o h1).2)
      · rw [upd_ne _ _ hj] at h; exact .inl h
    · unfold Hp.learnt
      by_cases hj : j = 0
      · subst hj; rw [upd_same, eld]
      · rw [upd_ne _ _ hj]
  · unfold Hp.learnt
    rw [hsz] at hj
    rw [upd_ne _ _ (by have := hI.pos; omega)]
    refine ⟨(hI.out j hj).1, fun op hop => ?_⟩
    rcases Array.mem_append.1 hop with h1 | h1
    · exact (hI.out j hj).2 op h1
    · have := hu.lt op h1; omega
  · rcases hsits j x hx with ⟨h1, h2, h3, h4⟩ | h
    · unfold Hp.learnt
      rw [upd_ne _ _ h1, h3, h4]
      refine (hI.sits j x h2).world fun φ' k hγ hro => ?_
      obtain ⟨_, _, _, e, _, _⟩ := hI.ph.wt hγ h2
      rw [h0] at e; cases e
      refine rw_of (hold (.inl (by rw [hI.mem.ro j _ _ hro]; simp))) fun ⟨st, sm, hl⟩ => ⟨st, sm, (hold (.inr rfl)).trans hl⟩
    · exact h

theorem learnt_none : Hp.learnt Hs none = Hs := by unfold Hp.learnt; exact upd_self Hs 0
theorem learnt_ne {car : Option (Nat × Obj)} {j : Nat} (h : j ≠ 0) : Hp.learnt Hs car j = Hs j := upd_ne _ _ h
theorem learnt_zero {car : Option (Nat × Obj)} : Hp.learnt Hs car 0 = (Hs 0).learn car := upd_same _ _ _
end
end Go.Sep
