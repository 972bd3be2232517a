/-
  A company: the results come in. Conditions: none.
-/
import Derived.Test.YtcomjkbfmklfnaaDoorCi
set_option linter.unusedSimpArgs false
set_option linter.unusedVariables false
namespace Go.Sep
open Go.Conc
open Go.ConcR (KK wgBlock WgAt stA smA rd wr mk)
open Go.ConcN (RW WgLive PayAt)

theorem cnt_congr {base : Nat} {γs γs' : Nat → Gh} {c : Nat} : ∀ n, (∀ i, i < n → cl (γs' (base + i)) = cl (γs (base + i))) → cnt base γs' c n = cnt base γs c n
  | 0, _ => rfl
  | n + 1, h => by simp only [cnt]; rw [cnt_congr n fun i hi => h i (by omega), h n (by omega)]

theorem at1_0 {t : Trace} {a : MemOp} : (t ++ #[a])[t.size + 0]? = some a := at_new rfl
theorem at2_0 {t : Trace} {a b : MemOp} : (t ++ #[a, b])[t.size + 0]? = some a := at_new rfl
theorem at2_1 {t : Trace} {a b : MemOp} : (t ++ #[a, b])[t.size + 1]? = some b := at_new rfl
theorem at4_0 {t : Trace} {a b c d : MemOp} : (t ++ #[a, b, c, d])[t.size + 0]? = some a := at_new rfl
theorem at4_1 {t : Trace} {a b c d : MemOp} : (t ++ #[a, b, c, d])[t.size + 1]? = some b := at_new rfl
theorem at4_2 {t : Trace} {a b c d : MemOp} : (t ++ #[a, b, c, d])[t.size + 2]? = some c := at_new rfl
theorem at4_3 {t : Trace} {a b c d : MemOp} : (t ++ #[a, b, c, d])[t.size + 3]? = some d := at_new rfl

section
variable {P : Program} {Q : Value → Prop} {w₀ : World} {gs : Array Goroutine} {w : World} {sl : Option (Nat × Nat)} {t : Trace} {Hs : Nat → Hp} {γs : Nat → Gh} {sh : Nat → Sh} {RO : Nat → Option Obj} {i : Nat} {g g₀ : Goroutine}

/-- The results' channel has turned, and who has which number; the feeder, the group and the counts stand. -/
theorem fed_inv (hI : Inv P Q w₀ gs w t Hs γs sh RO) {φ : Ph} {got got' : List Nat} {base : Nat} {D : FedD} (h0 : γs 0 = .fed φ got) (hF : Fed φ got base gs w t γs RO D) {gs' : Array Goroutine} {w' : World} {u : Trace} {γs' : Nat → Gh} {sh' : Nat → Sh} {car : Option (Nat × Obj)} {bufs : List Res} {s r : Nat} {tm : Bool}
    (hsz : gs'.size = gs.size) (hu : Quiet gs.size u) (hw : Turned φ w w') (hT : w'.heap[φ.td]? = w.heap[φ.td]?) (hcar : ∀ B o, car = some (B, o) → RO B = some o ∧ ∀ i a x, touchAt (t ++ u) i = some a → a.write = true → a.loc = .cell x → x.block = B → Knows (t ++ u) 0 i)
    (hsits : ∀ j x, gs'[j]? = some x → (j ≠ 0 ∧ gs[j]? = some x ∧ γs' j = γs j ∧ sh' j = sh j) ∨ Sits P Q j x (sh' j) (Hp.learnt Hs car j) (γs' j) w') (e0 : γs' 0 = .fed φ got')
    (eO : ∀ j, 0 < j → j < base → γs' j = γs j) (eF : γs' (base + φ.n) = γs (base + φ.n)) (eW : ∀ i, i < φ.n → γs' (base + i) = γs (base + i) ∨ ∃ nx h h', γs (base + i) = .wk φ nx h ∧ γs' (base + i) = .wk φ nx h')
    (hJ : Jobs φ.n (kOf φ (γs (base + φ.n))) (fun i => hold (γs' (base + i))) (bufs.map (·.k)) got') (hD : w'.heap[φ.dn]? = some (.chan 4 (bufs.map (·.v)).toArray (isGone (γs (base + φ.n))) s r tm)) (hsr : s = r + bufs.length) (h4 : bufs.length ≤ 4)
    (hres : ∀ x ∈ bufs, φ.res x.k x.v x.car) (hmsg : ∀ q x, bufs[q]? = some x → Msg φ RO (t ++ u) (r + q) x) (hwt : Waiting φ base gs' γs' bufs D.sm) : Inv P Q w₀ gs' w' (t ++ u) (Hp.learnt Hs car) γs' sh' RO := by
  have hS := hF.shared
  have hwg : w'.heap[φ.wg]? = w.heap[φ.wg]? := hw.ne _ (Ne.symm hF.ok.td_wg) (Ne.symm hF.ok.dn_wg)
  have hcnt : ∀ c, cnt base γs' c φ.n = cnt base γs c φ.n := fun c => cnt_congr φ.n fun i hi => by
    rcases eW i hi with e | ⟨nx, h, h', e, e'⟩
    · rw [e]
    · rw [e, e']; rfl
  refine comm_inv hI h0 hF hsz hu hw hcar hsits (fun b h => by rw [e0] at h; rw [h0]; exact h) (.fed φ got' base { D with bufs := bufs, s := s, r := r, tm := tm } e0 ⟨hF.ok, hsz.trans hF.size, hF.base1, ⟨fun j hj => ?_, by rw [eF]; exact hF.parts.fd, fun h j hj => ?_, by rw [eF]; exact hJ⟩,
    ⟨by rw [eF]; exact hT.trans hS.chT, by rw [eF]; exact hD, hsr, h4, hres, hwg.trans hS.wg, by rw [eF, hcnt, hcnt, hcnt]; exact hS.mode⟩, (hF.traced.quiet hu).next eO (fun j hj => ?_) (.inl eF) hmsg, hwt⟩)
  · rw [eF]
    rcases eW j hj with e | ⟨nx, h, h', e, e'⟩
    · rw [e]; exact hF.parts.wk j hj
    · have := hF.parts.wk j hj
      rw [e] at this
      rcases this with ⟨a, b, c, d⟩ | x | ⟨_, _, x⟩ | x
      · cases d; exact .inl ⟨nx, h', c, e'⟩
      · cases x
      · cases x
      · cases x
  · rw [eF] at h
    rcases eW j hj with e | ⟨nx, h, h', e, e'⟩
    · rw [e]; exact hF.parts.opn h j hj
    · rw [e']; rfl
  · rcases eW j hj with e | ⟨nx, h, h', e, e'⟩
    · exact .inl e
    · exact .inr (by rw [e']; trivial)

theorem Fed.fdOpen {φ : Ph} {got : List Nat} {base : Nat} {D : FedD} (hF : Fed φ got base gs w t γs RO D) {k₁ nx : Nat} {h : Option Nat} (hk₁ : k₁ < φ.n) (hwk : γs (base + k₁) = .wk φ nx h) : isGone (γs (base + φ.n)) = false := by
  rcases hF.parts.fd with ⟨_, _, e⟩ | ⟨s, e⟩ | e
  · rw [e]; rfl
  · rw [e]; rfl
  · have := all_gone hF.parts hF.shared (.inr e) k₁ hk₁
    rw [hwk] at this; cases this

/-- What has been sent is known to whoever takes it. -/
theorem taken {t u : Trace} {c k p q : Nat} {y : MemOp} {B : Nat} (hp : (t ++ u).act? p = some (.send c k)) (hq : (t ++ u)[q]? = some y) (hy : y.act = .recvDone c k) (h1 : (t ++ u).heard p) (h2 : (t ++ u).heard q) (hW : Wrote (t ++ u) B p) (hg : y.g = 0) :
    ∀ i a x, touchAt (t ++ u) i = some a → a.write = true → a.loc = .cell x → x.block = B → Knows (t ++ u) 0 i := fun i a x ha hw hl hb => by
  have := knows_edge (hW i a x ha hw hl hb) (edge_send hp (by rw [act?_of hq, hy]) h1 h2) hq
  rwa [hg] at this

/-- What the sender has made lies Before its send. -/
theorem wrote_new (hI : Inv P Q w₀ gs w t Hs γs sh RO) {u : Trace} {N : Nat} (hu : Quiet N u) {j k B : Nat} {y : MemOp} (hk : (t ++ u)[t.size + k]? = some y) (hg : y.g = j) (hro : (Hs j).ro B ≠ none) : Wrote (t ++ u) B (t.size + k) := by
  intro i a x ha hw hl hb
  rcases touchAt_cases ha with ⟨_, h0⟩ | ⟨_, op, hop, _, hox⟩
  · have := hI.tr.ro j B hro i a x h0 hw hl hb
    exact .inr (this.hb_new (by omega) hk hg)
  · rw [hu.touch op hop] at hox; cases hox

theorem learn_ok (hI : Inv P Q w₀ gs w t Hs γs sh RO) {car : Option (Nat × Obj)} (h : ∀ B o, car = some (B, o) → RO B = some o) : ∀ B o, car = some (B, o) → (Hs 0).own B = none ∧ ∀ o', (Hs 0).ro B = some o' → o' = o := fun B o e => by
  have hR := h B o e
  refine ⟨hI.mem.roOwn (by rw [hR]; simp) 0, fun o' ho => ?_⟩
  have := hI.mem.ro 0 B o' ho
  rw [hR] at this; cases this; rfl

theorem sits_main {s' : Sh} {g' : Goroutine} {H' : Hp} {γ' : Gh} (hl : γ'.live = true) (h : TreeS P (company P Q) true s' g' H' γ') : Sits P Q 0 g' s' H' γ' w := .run g' (SameG.refl g') h.running hl h

theorem Fed.got_ok {φ : Ph} {got : List Nat} {base : Nat} {D : FedD} (hF : Fed φ got base gs w t γs RO D) : kOf φ (γs (base + φ.n)) ≤ φ.m ∧ (∀ x ∈ got, x < φ.m) ∧ got.Nodup := by
  have hk : kOf φ (γs (base + φ.n)) ≤ φ.m := by
    rcases hF.parts.fd with ⟨k, a, e⟩ | ⟨s, e⟩ | e <;> rw [e] <;> first | exact a | exact Nat.le_refl _
  exact ⟨hk, fun x hx => Nat.lt_of_lt_of_le (hF.parts.jobs.gotlt x hx) hk, hF.parts.jobs.gotnd⟩

/-- A WORKER HAS A RESULT. -/
theorem step_sendD (hI : Inv P Q w₀ gs w t Hs γs sh RO) (hi : gs[i]? = some g) (hi0 : i ≠ 0) (hsg : SameG g g₀) (hrun : g.status = .running) (M : Meets P Q false .sendD (sh i) g₀ (Hs i) (γs i)) : Steps P Q w₀ gs t sh (runT P (crowd gs w sl) i) := by
  have hil := (Array.getElem?_eq_some_iff.1 hi).1
  have hi0' : (i == 0) = false := by simpa using hi0
  obtain ⟨_, φ, nx, k, v, car, z, hγ, hd, hres, hcar, _, hst⟩ := M.at_
  have hst' : stepG P (i == 0) g w = .comm (core g₀) #[scase φ.dn v z] true .send w #[] := by rw [hi0', hsg.step]; exact hst w (hI.mem.view i)
  have park : Sits P Q i (parked (core g₀) #[scase φ.dn v z] .send) (sh i) (Hs i) (γs i) w := .sendD g₀ φ nx k v car z hγ hres hcar (by rw [hi0']; exact M) rfl
  have hph := hI.ph
  cases hph with
  | lone h0 h1 h2 => have := (h1 i (by omega) hil).1; rw [hγ] at this; cases this
  | opn φ' jn base h0 hO =>
    have hsz := hO.size
    rcases Nat.lt_or_ge i base with h1 | h1
    · have := (hO.old i (by omega) h1).1; rw [hγ] at this; cases this
    · have := hO.wk (i - base) (by omega)
      rw [show base + (i - base) = i by omega, hγ] at this; cases this
  | fed φ' got base D h0 hF =>
    obtain ⟨rfl, k₁, hk₁, rfl⟩ := hF.wk_phi h0 hi hγ
    have hb1 := hF.base1
    have hS := hF.shared
    have hsz := hF.size
    have hopen := hF.fdOpen hk₁ hγ
    have hD := hS.chD
    rw [hopen] at hD
    have hcarR : ∀ B o, car = some (B, o) → RO B = some o := fun B o e => hI.mem.ro _ B o (hcar B o e)
    have hoff : ∀ j k, (j, k) ∈ partners (gs.setIfInBounds (base + k₁) ph) φ.dn false → j ≠ base + k₁ ∧ k = 0 ∧ Offer P Q φ base gs Hs γs sh j φ.dn false := fun j k h => offers_who hF h0 hI.sits h
    have hJ := hF.parts.jobs
    have hhold : (fun i => hold (γs (base + i))) k₁ = some k := by show hold (γs (base + k₁)) = _; rw [hγ]; rfl
    obtain ⟨s₁, hlt₁, ht₁⟩ := M.out _ _ _ ⟨φ, nx, k, hγ, rfl, rfl, rfl⟩
    have eW : upd γs (base + k₁) (.wk φ nx none) (base + k₁) = .wk φ nx none := upd_same _ _ _
    have eO : ∀ j, j ≠ base + k₁ → upd γs (base + k₁) (.wk φ nx none) j = γs j := fun j a => upd_ne _ _ a
    by_cases hne : partners (gs.setIfInBounds (base + k₁) ph) φ.dn false = []
    · have mainruns : ∀ x, gs[0]? = some x → x.status = .blocked → False := fun x hx hxb => by
        obtain ⟨g₁, rfl⟩ := (hI.sits 0 x hx).blk_main hxb h0
        have hmem : (0, 0) ∈ partners (gs.setIfInBounds (base + k₁) ph) φ.dn false := by
          rw [mem_partners]
          refine ⟨_, stand_get (Ne.symm hi0) hx, ?_⟩
          rw [offersAt_parked_recv]; simp
        rw [hne] at hmem; cases hmem
      by_cases h4 : D.bufs.length < 4
      · -- there is room
        have hr := crowd_send_room (sl := sl) hi hst' hD (by simpa using h4) hne
        rw [ofEv_nil, finishComm_send] at hr
        have hu : Quiet gs.size #[({ g := base + k₁, fn := (core g₀).frame.fn, pos := (core g₀).frame.place, act := .send φ.dn D.s } : MemOp), { g := base + k₁, fn := (core g₀).frame.fn, pos := (core g₀).frame.place, act := .sendDone φ.dn D.s }] :=
          quiet2 (fun op hop => by simp at hop; rcases hop with rfl | rfl <;> exact ⟨rfl, fun m => by simp, by dsimp only; omega⟩)
        have hq : (t ++ #[({ g := base + k₁, fn := (core g₀).frame.fn, pos := (core g₀).frame.place, act := .send φ.dn D.s } : MemOp), { g := base + k₁, fn := (core g₀).frame.fn, pos := (core g₀).frame.place, act := .sendDone φ.dn D.s }])[t.size + 0]? = some { g := base + k₁, fn := (core g₀).frame.fn, pos := (core g₀).frame.place, act := .send φ.dn D.s } := at_new (k := 0) rfl
        refine .inr ⟨_, _, sl, _, Hs, upd γs (base + k₁) (.wk φ nx none), upd sh (base + k₁) s₁, RO, hr, ?_, lt_kid (by simp) hi0 hil hlt₁⟩
        have key := fed_inv (car := none) (got' := got) (bufs := D.bufs ++ [⟨k, v, car⟩]) (s := D.s + 1) (r := D.r) (tm := D.tm) (γs' := upd γs (base + k₁) (.wk φ nx none)) (sh' := upd sh (base + k₁) s₁) (gs' := gs.setIfInBounds (base + k₁) (Conc.served (core g₀) undef)) (w' := w.setChan φ.dn 4 ((List.map (fun x => x.v) D.bufs).toArray.push v) false (D.s + 1) D.r D.tm) hI h0 hF (by simp) hu
          ⟨fun b _ h2 => setChan_ne h2, setChan_size, rfl, rfl, rfl⟩ (setChan_ne hF.ok.td_dn) (fun _ _ e => by cases e) (fun j x hx => ?_) ((eO 0 (Ne.symm hi0)).trans h0) (fun j a b => eO j (by omega)) (eO _ (by omega)) (fun j hj => ?_) ?_ ?_ ?_ ?_ ?_ ?_ ?_
        · rw [learnt_none] at key; exact key
        · rw [learnt_none]
          rcases get_set hil hx with ⟨rfl, rfl⟩ | ⟨h1, h3⟩
          · rw [eW, upd_same]; exact .inr (sits_of hi0 rfl ht₁)
          · by_cases hj0 : j = 0
            · subst hj0; rw [eO 0 h1, upd_ne _ _ h1]; exact .inr ((hI.sits 0 x h3).world fun φ' k' hγ' => by rw [h0] at hγ'; cases hγ')
            · exact .inl ⟨hj0, h3, eO j h1, upd_ne _ _ h1⟩
        · by_cases e : j = k₁
          · subst e; exact .inr ⟨nx, some k, none, hγ, eW⟩
          · exact .inl (eO _ (by omega))
        · rw [List.map_append]
          refine (hJ.put hk₁ hhold).congr fun j hj => ?_
          by_cases e : j = k₁
          · subst e; rw [eW, upd_same]; rfl
          · rw [eO _ (by omega), upd_ne _ _ e]
        · rw [hopen, setChan_eq hF.ltD]; simp
        · have := hS.sr; simp; omega
        · simp; omega
        · intro x hx
          rcases List.mem_append.1 hx with h | h
          · exact hS.res x h
          · simp at h; subst h; exact hres
        · intro q x hx
          rcases Nat.lt_or_ge q D.bufs.length with h | h
          · rw [List.getElem?_append_left h] at hx
            exact (Msg.app (hF.traced.msg q x hx) hu.touch)
          · rw [List.getElem?_append_right h] at hx
            have hq0 : q = D.bufs.length := by
              rcases Nat.eq_zero_or_pos (q - D.bufs.length) with h' | h'
              · omega
              · rw [List.getElem?_eq_none (by simp; omega)] at hx; cases hx
            subst hq0
            simp at hx; subst hx
            refine ⟨t.size + 0, by rw [act?_of hq, hS.sr], heard_new hu.deaf hq (by show Deaf t (base + k₁) = 0; rw [hI.tr.deaf, hd]), fun B o e => ⟨hcarR B o e, ?_⟩⟩
            exact wrote_new hI hu hq rfl (by rw [hcar B o e]; simp)
        · refine hF.waiting.of (fun j z' hz hb => ?_) (fun z' hz hb => ?_) (fun j z' k' hj hz hb hh => ?_) (fun h => .inl (by rw [eO _ (by omega)]; exact h)) (fun z' hz hb hf' => ?_)
          · rcases get_set hil hz with ⟨_, rfl⟩ | ⟨h1, h3⟩
            · cases hb
            · exact ⟨h3, eO j h1⟩
          · rcases get_set hil hz with ⟨e, _⟩ | ⟨h1, h3⟩
            · omega
            · exact (mainruns z' h3 hb).elim
          · rcases get_set hil hz with ⟨_, rfl⟩ | ⟨h1, h3⟩
            · cases hb
            · rw [eO _ h1] at hh
              have := hF.waiting.send j hj z' h3 hb k' hh
              omega
          · rw [eO _ (by omega)] at hf'
            rcases get_set hil hz with ⟨e, _⟩ | ⟨h1, h3⟩
            · omega
            · exact hF.waiting.sema z' h3 hb hf'
      · -- it waits
        have h4' : D.bufs.length = 4 := by have := hS.four; omega
        refine step_waits hI hi hrun (crowd_waits hi hst' fun cc hcc => ?_) park (.fed φ got base D h0 ⟨hF.ok, by simpa using hsz, hb1, hF.parts, hF.shared, hF.traced, ⟨fun z' hz hb => ?_, fun j hj z' hz hb k' hh => h4', fun j hj z' hz hb hh => ?_, fun z' hz hb hf' => ?_⟩⟩)
        · have e : cc = scase φ.dn v z := by simpa using hcc
          subst e
          exact ways_send_none hD (by simp [h4']) hne
        · rcases get_set hil hz with ⟨e, _⟩ | ⟨h1, h3⟩
          · omega
          · exact (mainruns z' h3 hb).elim
        · rcases get_set hil hz with ⟨e, _⟩ | ⟨h1, h3⟩
          · rw [e, hγ] at hh; cases hh
          · obtain ⟨a, b⟩ := hF.waiting.recv j hj z' h3 hb hh
            refine ⟨a, fun x hx hxb => ?_⟩
            rcases get_set hil hx with ⟨e, _⟩ | ⟨_, hx⟩
            · omega
            · exact b x hx hxb
        · rcases get_set hil hz with ⟨e, _⟩ | ⟨h1, h3⟩
          · omega
          · exact hF.waiting.sema z' h3 hb hf'
    · -- somebody waits for it
      obtain ⟨j, gj, zj, shj, d, hji, hj, hr⟩ := crowd_send_meets_some (sl := sl) hi hst' hD hne (fun j k h => by
        obtain ⟨a, b, ho⟩ := hoff j k h
        obtain ⟨g₁, got', _, _, _, e⟩ := ho.dn_recv hF.ok
        exact ⟨b, a, _, _, _, e⟩)
      have hjp : (j, 0) ∈ partners (gs.setIfInBounds (base + k₁) ph) φ.dn false := by
        rw [mem_partners]
        refine ⟨_, stand_get hji hj, ?_⟩
        rw [offersAt]; simp [parked, rcase]
      obtain ⟨_, _, ho⟩ := hoff j 0 hjp
      obtain ⟨g₁, got', rfl, hγ0, M₂, hj₂⟩ := ho.dn_recv hF.ok
      rw [h0] at hγ0; cases hγ0
      have hbe : D.bufs = [] := (hF.waiting.main _ hj rfl).1
      rw [hj] at hj₂
      obtain ⟨e1, e2, e3⟩ := parked_inj (Option.some.inj hj₂)
      subst e2
      rw [ofEv_nil, finishComm_recv, finishComm_send, e3] at hr
      obtain ⟨p1, p2, p3, p4⟩ := hJ.hold k₁ hk₁ k hhold
      obtain ⟨q1, q2, q3⟩ := hF.got_ok
      obtain ⟨s₂, hlt₂, ht₂⟩ := M₂.out _ _ _ ⟨φ, got, h0, .inl ⟨k, v, car, by omega, p3, q2, q3, hres, learn_ok hI hcarR, rfl, rfl, rfl⟩⟩
      have hj0l : 0 < gs.size := hI.pos
      have hu : Quiet gs.size #[({ g := base + k₁, fn := (core g₀).frame.fn, pos := (core g₀).frame.place, act := .send φ.dn D.s } : MemOp), { g := 0, fn := gj.frame.fn, pos := gj.frame.place, act := .recv φ.dn D.r 4 }, { g := base + k₁, fn := (core g₀).frame.fn, pos := (core g₀).frame.place, act := .sendDone φ.dn D.s }, { g := 0, fn := gj.frame.fn, pos := gj.frame.place, act := .recvDone φ.dn D.r }] :=
        quiet4 (fun op hop => by simp at hop; rcases hop with rfl | rfl | rfl | rfl <;> exact ⟨rfl, fun m => by simp, by dsimp only; omega⟩)
      have hsr : D.s = D.r := by have := hS.sr; rw [hbe] at this; exact this
      have hq := at4_0 (t := t) (a := ({ g := base + k₁, fn := (core g₀).frame.fn, pos := (core g₀).frame.place, act := .send φ.dn D.s } : MemOp)) (b := { g := 0, fn := gj.frame.fn, pos := gj.frame.place, act := .recv φ.dn D.r 4 }) (c := { g := base + k₁, fn := (core g₀).frame.fn, pos := (core g₀).frame.place, act := .sendDone φ.dn D.s }) (d := { g := 0, fn := gj.frame.fn, pos := gj.frame.place, act := .recvDone φ.dn D.r })
      have hq3 := at4_3 (t := t) (a := ({ g := base + k₁, fn := (core g₀).frame.fn, pos := (core g₀).frame.place, act := .send φ.dn D.s } : MemOp)) (b := { g := 0, fn := gj.frame.fn, pos := gj.frame.place, act := .recv φ.dn D.r 4 }) (c := { g := base + k₁, fn := (core g₀).frame.fn, pos := (core g₀).frame.place, act := .sendDone φ.dn D.s }) (d := { g := 0, fn := gj.frame.fn, pos := gj.frame.place, act := .recvDone φ.dn D.r })
      have hd0 : (Hs 0).d = 0 := by obtain ⟨_, _, _, _, hd0, _⟩ := M₂.at_; exact hd0
      have eW2 : upd (upd γs (base + k₁) (.wk φ nx none)) 0 (.fed φ (k :: got)) (base + k₁) = .wk φ nx none := by rw [upd_ne _ _ hi0, eW]
      have eO2 : ∀ j, j ≠ base + k₁ → j ≠ 0 → upd (upd γs (base + k₁) (.wk φ nx none)) 0 (.fed φ (k :: got)) j = γs j := fun j a b => by rw [upd_ne _ _ b, eO j a]
      refine .inr ⟨_, _, sl, _, Hp.learnt Hs car, upd (upd γs (base + k₁) (.wk φ nx none)) 0 (.fed φ (k :: got)), upd (upd sh (base + k₁) s₁) 0 s₂, RO, hr, ?_, lt_two (by simp) hil hj0l (Ne.symm hi0) hlt₁ hlt₂⟩
      refine fed_inv (got' := k :: got) (bufs := []) (s := D.s + 1) (r := D.r + 1) (tm := D.tm) hI h0 hF (by simp) hu (Turned.chan w d (.inr rfl)) (setChan_ne (w := w.at d) hF.ok.td_dn) (fun B o e => ⟨hcarR B o e, ?_⟩) (fun j x hx => ?_) (upd_same _ _ _) (fun j a b => eO2 j (by omega) (by omega)) (eO2 _ (by omega) (by omega)) (fun j hj => ?_) ?_ ?_ (by simp [hsr]) (by simp) (by simp) (by simp) ?_
      · exact taken (act?_of hq) hq3 (by rw [← hsr]) (heard_new hu.deaf hq (by show Deaf t (base + k₁) = 0; rw [hI.tr.deaf, hd])) (heard_new hu.deaf hq3 (by show Deaf t 0 = 0; rw [hI.tr.deaf, hd0])) (wrote_new hI hu hq rfl (by rw [hcar B o e]; simp)) rfl
      · rcases get_set2 hil hj0l hx with ⟨rfl, rfl⟩ | ⟨h1, rfl, rfl⟩ | ⟨h1, h2, h3⟩
        · rw [eW2, upd_ne _ _ hi0, upd_same, learnt_ne hi0]; exact .inr (sits_of hi0 rfl ht₁)
        · rw [upd_same, upd_same, learnt_zero]; exact .inr (sits_main rfl ht₂)
        · exact .inl ⟨h2, h3, eO2 j h1 h2, by rw [upd_ne _ _ h2, upd_ne _ _ h1]⟩
      · by_cases e : j = k₁
        · subst e; exact .inr ⟨nx, some k, none, hγ, eW2⟩
        · exact .inl (eO2 _ (by omega) (by omega))
      · have J2 := hJ.hand hk₁ hhold
        rw [hbe] at J2
        refine J2.congr fun j hj => ?_
        by_cases e : j = k₁
        · subst e; rw [eW2, upd_same]; rfl
        · rw [eO2 _ (by omega) (by omega), upd_ne _ _ e]
      · rw [hopen, hbe]; exact setChan_eq (w := w.at d) hF.ltD
      · refine hF.waiting.of (fun j z' hz hb => ?_) (fun z' hz hb => ?_) (fun j z' k' hj hz hb hh => ?_) (fun h => .inl (by rw [eO2 _ (by omega) (by omega)]; exact h)) (fun z' hz hb hf' => ?_)
        · rcases get_set2 hil hj0l hz with ⟨_, rfl⟩ | ⟨_, _, rfl⟩ | ⟨h1, h2, h3⟩
          · cases hb
          · cases hb
          · exact ⟨h3, eO2 j h1 h2⟩
        · rcases get_set2 hil hj0l hz with ⟨e, _⟩ | ⟨_, _, rfl⟩ | ⟨h1, h2, h3⟩
          · omega
          · cases hb
          · exact absurd rfl h2
        · rcases get_set2 hil hj0l hz with ⟨_, rfl⟩ | ⟨_, e, _⟩ | ⟨h1, h2, h3⟩
          · cases hb
          · omega
          · rw [eO2 _ h1 h2] at hh
            have := hF.waiting.send j hj z' h3 hb k' hh
            rw [hbe] at this; cases this
        · rw [eO2 _ (by omega) (by omega)] at hf'
          rcases get_set2 hil hj0l hz with ⟨e, _⟩ | ⟨_, e, _⟩ | ⟨h1, h2, h3⟩
          · omega
          · omega
          · exact hF.waiting.sema z' h3 hb hf'

/-- THE RESULTS ARE TAKEN. -/
theorem step_recvD (hI : Inv P Q w₀ gs w t Hs γs sh RO) (hi : gs[0]? = some g) (hsg : SameG g g₀) (hrun : g.status = .running) (M : Meets P Q true .recvD (sh 0) g₀ (Hs 0) (γs 0)) : Steps P Q w₀ gs t sh (runT P (crowd gs w sl) 0) := by
  have hil := hI.pos
  obtain ⟨_, φ, got, h0, hd, _, hst⟩ := M.at_
  have hst' : stepG P (0 == 0) g w = .comm (core g₀) #[rcase φ.dn φ.zw] true (.recv true) w #[] := by rw [hsg.step]; exact hst w (hI.mem.view 0)
  have hph := hI.ph
  cases hph with
  | lone h1 _ _ => rw [h0] at h1; cases h1
  | opn φ' jn base h1 hO => rw [h0] at h1; cases h1
  | fed φ' got' base D h0' hF =>
    rw [h0] at h0'; cases h0'
    have hb1 := hF.base1
    have hS := hF.shared
    have hsz := hF.size
    have hD := hS.chD
    have hJ := hF.parts.jobs
    obtain ⟨q1, q2, q3⟩ := hF.got_ok
    have hoff : ∀ j k, (j, k) ∈ partners (gs.setIfInBounds 0 ph) φ.dn true → j ≠ 0 ∧ k = 0 ∧ Offer P Q φ base gs Hs γs sh j φ.dn true := fun j k h => offers_who hF h0 hI.sits h
    have hfull : partners (gs.setIfInBounds 0 ph) φ.dn true ≠ [] → D.bufs.length = 4 := fun hne => by
      obtain ⟨⟨j, k⟩, hjk⟩ := List.exists_mem_of_ne_nil _ hne
      obtain ⟨_, _, ho⟩ := hoff j k hjk
      obtain ⟨g₁, k₁, nx, kk, v, car, z, a, rfl, e, _, _, _, hj⟩ := ho.dn_send hF.ok
      exact hF.waiting.send k₁ a _ hj rfl kk (by rw [e]; rfl)
    cases hbufs : D.bufs with
    | nil =>
      have hne : partners (gs.setIfInBounds 0 ph) φ.dn true = [] := by
        cases hp : partners (gs.setIfInBounds 0 ph) φ.dn true with
        | nil => rfl
        | cons a l => have := hfull (by rw [hp]; simp); rw [hbufs] at this; cases this
      rw [hbufs] at hD
      cases hgone : isGone (γs (base + φ.n)) with
      | true =>
        -- the end
        rw [hgone] at hD
        have hg : γs (base + φ.n) = .gone := by cases hx : γs (base + φ.n) <;> rw [hx] at hgone <;> first | rfl | cases hgone
        have hall := all_gone hF.parts hF.shared (.inr hg)
        have hr := crowd_recv_closed (sl := sl) hi hst' hD hne
        rw [ofEv_nil, finishComm_recv] at hr
        have hkm : kOf φ (γs (base + φ.n)) = φ.m := by rw [hg]; rfl
        rw [hbufs, hkm] at hJ
        have hallgot : ∀ k, k < φ.m → k ∈ got := fun k hk => by
          rcases hJ.each k hk with ⟨j, hj, e⟩ | e | e
          · have : hold (γs (base + j)) = some k := e
            rw [hall j hj] at this; cases this
          · simp at e
          · exact e
        obtain ⟨s', hlt, htree⟩ := M.out _ _ _ ⟨φ, got, h0, .inr ⟨hallgot, rfl, rfl, rfl⟩⟩
        have hu : Quiet gs.size #[({ g := 0, fn := (core g₀).frame.fn, pos := (core g₀).frame.place, act := .recvClosed φ.dn } : MemOp)] := quiet1 (fun op hop => by simp at hop; subst hop; exact ⟨rfl, fun m => by simp, by dsimp only; omega⟩)
        have hq := at1_0 (t := t) (a := ({ g := 0, fn := (core g₀).frame.fn, pos := (core g₀).frame.place, act := .recvClosed φ.dn } : MemOp))
        refine .inr ⟨_, w, sl, _, Hs, upd γs 0 .lone, upd sh 0 s', RO, hr, ?_, lt_main (by rw [upd_same]; exact hlt)⟩
        have key := comm_inv (car := none) (γs' := upd γs 0 .lone) (sh' := upd sh 0 s') (gs' := gs.setIfInBounds 0 (Conc.served (core g₀) (recvd true φ.zw false))) hI h0 hF (by simp) hu (Turned.refl w) (fun _ _ e => by cases e) (fun j x hx => ?_) (fun b h => by rw [upd_same] at h; exact h.elim) ?_
        · rw [learnt_none] at key; exact key
        · rw [learnt_none]
          rcases get_set hil hx with ⟨rfl, rfl⟩ | ⟨h1, h3⟩
          · rw [upd_same, upd_same]; exact .inr (sits_main rfl htree)
          · exact .inl ⟨h1, h3, upd_ne _ _ h1, upd_ne _ _ h1⟩
        · refine .lone (upd_same _ _ _) (fun j a b => ?_) fun x hx => ?_
          · rw [upd_ne _ _ (by omega)]
            have b' : j < gs.size := by simpa using b
            rcases Nat.lt_or_ge j base with h1 | h1
            · exact (hF.traced.old j a h1).app fun q hc => hc.mute hu.touch
            · have hjg : γs j = .gone := by
                rcases Nat.lt_or_ge j (base + φ.n) with h2 | h2
                · have := hall (j - base) (by omega)
                  rwa [show base + (j - base) = j by omega] at this
                · rw [show j = base + φ.n by omega]; exact hg
              refine ⟨hjg, ?_⟩
              have hK := hF.traced.f.2
              rw [hg] at hK
              obtain ⟨_, q, e1, e2, e3⟩ := hK
              refine ⟨q, (e3 j h1 (by omega)).mute hu.touch, ?_⟩
              have := knows_edge (t := t ++ #[({ g := 0, fn := (core g₀).frame.fn, pos := (core g₀).frame.place, act := .recvClosed φ.dn } : MemOp)]) (.inl rfl) (edge_close (act?_app e1) (act?_of hq) (heard_app e1 e2) (heard_new hu.deaf hq (by show Deaf t 0 = 0; rw [hI.tr.deaf, hd]))) hq
              exact this
          · rcases get_set hil hx with ⟨_, rfl⟩ | ⟨h1, _⟩
            · rfl
            · exact absurd rfl h1
      | false =>
        rw [hgone] at hD
        refine step_waits hI hi hrun (crowd_waits hi hst' fun cc hcc => ?_) (.recvD g₀ φ got h0 M rfl) (.fed φ got base D h0 ⟨hF.ok, by simpa using hsz, hb1, hF.parts, hF.shared, hF.traced, ⟨fun z' hz hb => ⟨hbufs, hgone, fun j hj x hx hxb => ?_⟩, fun j hj z' hz hb k' hh => ?_, fun j hj z' hz hb hh => ?_, fun z' hz hb hf' => ?_⟩⟩)
        · have e : cc = rcase φ.dn φ.zw := by simpa using hcc
          subst e
          exact ways_recv_none hD hne
        · rcases get_set hil hx with ⟨e, _⟩ | ⟨_, hx⟩
          · omega
          · cases hh : hold (γs (base + j)) with
            | none => rfl
            | some k' => have := hF.waiting.send j hj x hx hxb k' hh; rw [hbufs] at this; cases this
        · rcases get_set hil hz with ⟨e, _⟩ | ⟨h1, h3⟩
          · omega
          · exact hF.waiting.send j hj z' h3 hb k' hh
        · rcases get_set hil hz with ⟨e, _⟩ | ⟨h1, h3⟩
          · omega
          · obtain ⟨a, b⟩ := hF.waiting.recv j hj z' h3 hb hh
            refine ⟨a, fun x hx hxb => ?_⟩
            rcases get_set hil hx with ⟨e, _⟩ | ⟨_, hx⟩
            · omega
            · exact b x hx hxb
        · rcases get_set hil hz with ⟨e, _⟩ | ⟨h1, h3⟩
          · omega
          · exact hF.waiting.sema z' h3 hb hf'
    | cons x xs =>
      rw [hbufs] at hD hJ
      have hcarR : ∀ B o, x.car = some (B, o) → RO B = some o := fun B o e => by
        obtain ⟨p, _, _, h⟩ := hF.traced.msg 0 x (by rw [hbufs]; rfl)
        exact (h B o e).1
      have hxk := hJ.buf x.k (by simp)
      have hsome : 0 < ((x :: xs).map (·.v)).toArray.size := by simp
      have hv0 : ((x :: xs).map (·.v)).toArray.getD 0 undef = x.v := by simp
      have hext : ((x :: xs).map (·.v)).toArray.extract 1 ((x :: xs).map (·.v)).toArray.size = (xs.map (·.v)).toArray := by simp [List.take_of_length_le]
      obtain ⟨s', hlt, htree⟩ := M.out _ _ _ ⟨φ, got, h0, .inl ⟨x.k, x.v, x.car, by omega, hxk.2, q2, q3, hS.res x (by rw [hbufs]; simp), learn_ok hI hcarR, rfl, rfl, rfl⟩⟩
      have hsr := hS.sr
      rw [hbufs] at hsr
      simp only [List.length_cons] at hsr
      have h4 := hS.four
      rw [hbufs] at h4
      simp only [List.length_cons] at h4
      by_cases hne : partners (gs.setIfInBounds 0 ph) φ.dn true = []
      · have hr := crowd_recv_buf (sl := sl) hi hst' hD hsome hne
        rw [ofEv_nil, finishComm_recv, hv0, hext] at hr
        have hu : Quiet gs.size #[({ g := 0, fn := (core g₀).frame.fn, pos := (core g₀).frame.place, act := .recv φ.dn D.r 4 } : MemOp), { g := 0, fn := (core g₀).frame.fn, pos := (core g₀).frame.place, act := .recvDone φ.dn D.r }] :=
          quiet2 (fun op hop => by simp at hop; rcases hop with rfl | rfl <;> exact ⟨rfl, fun m => by simp, by dsimp only; omega⟩)
        have hq := at2_1 (t := t) (a := ({ g := 0, fn := (core g₀).frame.fn, pos := (core g₀).frame.place, act := .recv φ.dn D.r 4 } : MemOp)) (b := { g := 0, fn := (core g₀).frame.fn, pos := (core g₀).frame.place, act := .recvDone φ.dn D.r })
        have eO : ∀ j, j ≠ 0 → upd γs 0 (.fed φ (x.k :: got)) j = γs j := fun j a => upd_ne _ _ a
        refine .inr ⟨_, _, sl, _, Hp.learnt Hs x.car, upd γs 0 (.fed φ (x.k :: got)), upd sh 0 s', RO, hr, ?_, lt_main (by rw [upd_same]; exact hlt)⟩
        refine fed_inv (got' := x.k :: got) (bufs := xs) (s := D.s) (r := D.r + 1) (tm := D.tm) hI h0 hF (by simp) hu ⟨fun b _ h2 => setChan_ne h2, setChan_size, rfl, rfl, rfl⟩ (setChan_ne hF.ok.td_dn) (fun B o e => ⟨hcarR B o e, ?_⟩) (fun j y hy => ?_) (upd_same _ _ _) (fun j a b => eO j (by omega)) (eO _ (by omega)) (fun j hj => .inl (eO _ (by omega))) ?_ ?_ (by omega) (by omega) (fun y hy => hS.res y (by rw [hbufs]; simp [hy])) (fun q y hq' => ?_) ?_
        · obtain ⟨p, e1, e2, e3⟩ := Msg.app (u := #[({ g := 0, fn := (core g₀).frame.fn, pos := (core g₀).frame.place, act := .recv φ.dn D.r 4 } : MemOp), { g := 0, fn := (core g₀).frame.fn, pos := (core g₀).frame.place, act := .recvDone φ.dn D.r }]) (hF.traced.msg 0 x (by rw [hbufs]; rfl)) hu.touch
          exact taken e1 hq rfl e2 (heard_new hu.deaf hq (by show Deaf t 0 = 0; rw [hI.tr.deaf, hd])) (e3 B o e).2 rfl
        · rcases get_set hil hy with ⟨rfl, rfl⟩ | ⟨h1, h3⟩
          · rw [upd_same, upd_same, learnt_zero]; exact .inr (sits_main rfl htree)
          · exact .inl ⟨h1, h3, eO j h1, upd_ne _ _ h1⟩
        · exact (Jobs.take hJ).congr fun j hj => by rw [eO _ (by omega)]
        · exact setChan_eq hF.ltD
        · have := Msg.app (u := #[({ g := 0, fn := (core g₀).frame.fn, pos := (core g₀).frame.place, act := .recv φ.dn D.r 4 } : MemOp), { g := 0, fn := (core g₀).frame.fn, pos := (core g₀).frame.place, act := .recvDone φ.dn D.r }]) (hF.traced.msg (q + 1) y (by rw [hbufs]; exact hq')) hu.touch
          rw [show D.r + 1 + q = D.r + (q + 1) by omega]
          exact this
        · refine hF.waiting.of (fun j z' hz hb => ?_) (fun z' hz hb => ?_) (fun j z' k' hj hz hb hh => ?_) (fun h => .inl (by rw [eO _ (by omega)]; exact h)) (fun z' hz hb hf' => ?_)
          · rcases get_set hil hz with ⟨_, rfl⟩ | ⟨h1, h3⟩
            · cases hb
            · exact ⟨h3, eO j h1⟩
          · rcases get_set hil hz with ⟨_, rfl⟩ | ⟨h1, h3⟩
            · cases hb
            · exact absurd rfl h1
          · rcases get_set hil hz with ⟨e, _⟩ | ⟨h1, h3⟩
            · omega
            · rw [eO _ h1] at hh
              -- a sender that waits would have been found
              have hw := hF.parts.wk j hj
              obtain ⟨nx, hwk⟩ : ∃ nx, γs (base + j) = .wk φ nx (some k') := by
                rcases hw with ⟨nx, h', _, e⟩ | e | ⟨_, _, e⟩ | e <;> rw [e] at hh
                · have : h' = some k' := hh
                  exact ⟨nx, by rw [e, this]⟩
                · cases hh
                · cases hh
                · cases hh
              obtain ⟨g₁, v₁, z₁, rfl⟩ := (hI.sits _ z' h3).blk_send hb hwk
              have hmem : (base + j, 0) ∈ partners (gs.setIfInBounds 0 ph) φ.dn true := by
                rw [mem_partners]
                refine ⟨_, stand_get h1 h3, ?_⟩
                rw [offersAt_parked_send]; simp
              rw [hne] at hmem; cases hmem
          · rw [eO _ (by omega)] at hf'
            rcases get_set hil hz with ⟨e, _⟩ | ⟨h1, h3⟩
            · omega
            · exact hF.waiting.sema z' h3 hb hf'
      · -- one of those who wait comes in
        obtain ⟨j, gj, vj, zj, shj, d, hji, hj, hr⟩ := crowd_recv_refill (sl := sl) hi hst' hD hsome hne (fun j k h => by
          obtain ⟨a, b, ho⟩ := hoff j k h
          obtain ⟨g₁, k₁, nx, kk, v, car, z, _, _, _, _, _, _, e⟩ := ho.dn_send hF.ok
          exact ⟨b, a, _, _, _, _, e⟩)
        have hjp : (j, 0) ∈ partners (gs.setIfInBounds 0 ph) φ.dn true := by
          rw [mem_partners]
          refine ⟨_, stand_get hji hj, ?_⟩
          rw [offersAt]; simp [parked, scase]
        obtain ⟨_, _, ho⟩ := hoff j 0 hjp
        obtain ⟨g₁, k₁, nx, kk, v, car, z, hk₁, rfl, hwk, hres, hcar, M₂, hj₂⟩ := ho.dn_send hF.ok
        rw [hj] at hj₂
        obtain ⟨e1, e2, e3⟩ := parked_inj (Option.some.inj hj₂)
        obtain ⟨rfl, rfl⟩ := scase_inj e1
        subst e2
        rw [ofEv_nil, finishComm_recv, finishComm_send, e3, hv0, hext] at hr
        have hopen := hF.fdOpen hk₁ hwk
        have hd1 : (Hs (base + k₁)).d = 0 := by obtain ⟨_, _, _, _, _, _, _, _, hd1, _⟩ := M₂.at_; exact hd1
        obtain ⟨s₁, hlt₁, ht₁⟩ := M₂.out _ _ _ ⟨φ, nx, kk, hwk, rfl, rfl, rfl⟩
        have hjl := (Array.getElem?_eq_some_iff.1 hj).1
        have hu : Quiet gs.size #[({ g := 0, fn := (core g₀).frame.fn, pos := (core g₀).frame.place, act := .recv φ.dn D.r 4 } : MemOp), { g := 0, fn := (core g₀).frame.fn, pos := (core g₀).frame.place, act := .recvDone φ.dn D.r }, { g := base + k₁, fn := gj.frame.fn, pos := gj.frame.place, act := .send φ.dn D.s }, { g := base + k₁, fn := gj.frame.fn, pos := gj.frame.place, act := .sendDone φ.dn D.s }] :=
          quiet4 (fun op hop => by simp at hop; rcases hop with rfl | rfl | rfl | rfl <;> exact ⟨rfl, fun m => by simp, by dsimp only; omega⟩)
        have hq := at4_1 (t := t) (a := ({ g := 0, fn := (core g₀).frame.fn, pos := (core g₀).frame.place, act := .recv φ.dn D.r 4 } : MemOp)) (b := { g := 0, fn := (core g₀).frame.fn, pos := (core g₀).frame.place, act := .recvDone φ.dn D.r }) (c := { g := base + k₁, fn := gj.frame.fn, pos := gj.frame.place, act := .send φ.dn D.s }) (d := { g := base + k₁, fn := gj.frame.fn, pos := gj.frame.place, act := .sendDone φ.dn D.s })
        have hq2 := at4_2 (t := t) (a := ({ g := 0, fn := (core g₀).frame.fn, pos := (core g₀).frame.place, act := .recv φ.dn D.r 4 } : MemOp)) (b := { g := 0, fn := (core g₀).frame.fn, pos := (core g₀).frame.place, act := .recvDone φ.dn D.r }) (c := { g := base + k₁, fn := gj.frame.fn, pos := gj.frame.place, act := .send φ.dn D.s }) (d := { g := base + k₁, fn := gj.frame.fn, pos := gj.frame.place, act := .sendDone φ.dn D.s })
        have eM : upd (upd γs 0 (.fed φ (x.k :: got))) (base + k₁) (.wk φ nx none) 0 = .fed φ (x.k :: got) := by rw [upd_ne _ _ (Ne.symm hji), upd_same]
        have eO : ∀ j, j ≠ 0 → j ≠ base + k₁ → upd (upd γs 0 (.fed φ (x.k :: got))) (base + k₁) (.wk φ nx none) j = γs j := fun j a b => by rw [upd_ne _ _ b, upd_ne _ _ a]
        have eW : upd (upd γs 0 (.fed φ (x.k :: got))) (base + k₁) (.wk φ nx none) (base + k₁) = .wk φ nx none := upd_same _ _ _
        refine .inr ⟨_, _, sl, _, Hp.learnt Hs x.car, upd (upd γs 0 (.fed φ (x.k :: got))) (base + k₁) (.wk φ nx none), upd (upd sh 0 s') (base + k₁) s₁, RO, hr, ?_, lt_two (by simp) hil hjl hji hlt hlt₁⟩
        refine fed_inv (got' := x.k :: got) (bufs := xs ++ [⟨kk, vj, car⟩]) (s := D.s + 1) (r := D.r + 1) (tm := D.tm) hI h0 hF (by simp) hu (Turned.chan w d (.inr rfl)) (setChan_ne (w := w.at d) hF.ok.td_dn) (fun B o e => ⟨hcarR B o e, ?_⟩) (fun j y hy => ?_) eM (fun j a b => eO j (by omega) (by omega)) (eO _ (by omega) (by omega)) (fun j hj => ?_) ?_ ?_ (by simp; omega) (by simp; omega) (fun y hy => ?_) (fun q y hq' => ?_) ?_
        · obtain ⟨p, e1, e2, e3⟩ := Msg.app (u := #[({ g := 0, fn := (core g₀).frame.fn, pos := (core g₀).frame.place, act := .recv φ.dn D.r 4 } : MemOp), { g := 0, fn := (core g₀).frame.fn, pos := (core g₀).frame.place, act := .recvDone φ.dn D.r }, { g := base + k₁, fn := gj.frame.fn, pos := gj.frame.place, act := .send φ.dn D.s }, { g := base + k₁, fn := gj.frame.fn, pos := gj.frame.place, act := .sendDone φ.dn D.s }]) (hF.traced.msg 0 x (by rw [hbufs]; rfl)) hu.touch
          exact taken e1 hq rfl e2 (heard_new hu.deaf hq (by show Deaf t 0 = 0; rw [hI.tr.deaf, hd])) (e3 B o e).2 rfl
        · rcases get_set2 hil hjl hy with ⟨rfl, rfl⟩ | ⟨h1, rfl, rfl⟩ | ⟨h1, h2, h3⟩
          · rw [eM, upd_ne _ _ (Ne.symm hji), upd_same, learnt_zero]; exact .inr (sits_main rfl htree)
          · rw [eW, upd_same, learnt_ne h1]; exact .inr (sits_of h1 rfl ht₁)
          · exact .inl ⟨h1, h3, eO j h1 h2, by rw [upd_ne _ _ h2, upd_ne _ _ h1]⟩
        · by_cases e : j = k₁
          · subst e; exact .inr ⟨nx, some kk, none, hwk, eW⟩
          · exact .inl (eO _ (by omega) (by omega))
        · rw [List.map_append]
          refine ((Jobs.take hJ).put hk₁ (by show hold (γs (base + k₁)) = some kk; rw [hwk]; rfl)).congr fun j hj => ?_
          by_cases e : j = k₁
          · subst e; rw [eW, upd_same]; rfl
          · rw [eO _ (by omega) (by omega), upd_ne _ _ e]
        · rw [setChan_eq (w := w.at d) hF.ltD]; simp
        · rcases List.mem_append.1 hy with h | h
          · exact hS.res y (by rw [hbufs]; simp [h])
          · simp at h; subst h; exact hres
        · rcases Nat.lt_or_ge q xs.length with h | h
          · rw [List.getElem?_append_left h] at hq'
            have := Msg.app (u := #[({ g := 0, fn := (core g₀).frame.fn, pos := (core g₀).frame.place, act := .recv φ.dn D.r 4 } : MemOp), { g := 0, fn := (core g₀).frame.fn, pos := (core g₀).frame.place, act := .recvDone φ.dn D.r }, { g := base + k₁, fn := gj.frame.fn, pos := gj.frame.place, act := .send φ.dn D.s }, { g := base + k₁, fn := gj.frame.fn, pos := gj.frame.place, act := .sendDone φ.dn D.s }]) (hF.traced.msg (q + 1) y (by rw [hbufs]; exact hq')) hu.touch
            rw [show D.r + 1 + q = D.r + (q + 1) by omega]
            exact this
          · rw [List.getElem?_append_right h] at hq'
            have hq0 : q = xs.length := by
              rcases Nat.eq_zero_or_pos (q - xs.length) with h' | h'
              · omega
              · rw [List.getElem?_eq_none (by simp; omega)] at hq'; cases hq'
            subst hq0
            simp at hq'; subst hq'
            refine ⟨t.size + 2, by rw [act?_of hq2, show D.r + 1 + xs.length = D.s by omega], heard_new hu.deaf hq2 (by show Deaf t (base + k₁) = 0; rw [hI.tr.deaf, hd1]), fun B o e => ⟨hI.mem.ro _ B o (hcar B o e), ?_⟩⟩
            exact wrote_new hI hu hq2 rfl (by rw [hcar B o e]; simp)
        · refine hF.waiting.of (fun j z' hz hb => ?_) (fun z' hz hb => ?_) (fun j z' k' hj hz hb hh => ?_) (fun h => .inl (by rw [eO _ (by omega) (by omega)]; exact h)) (fun z' hz hb hf' => ?_)
          · rcases get_set2 hil hjl hz with ⟨_, rfl⟩ | ⟨_, _, rfl⟩ | ⟨h1, h2, h3⟩
            · cases hb
            · cases hb
            · exact ⟨h3, eO j h1 h2⟩
          · rcases get_set2 hil hjl hz with ⟨_, rfl⟩ | ⟨e, _⟩ | ⟨h1, _⟩
            · cases hb
            · exact absurd rfl e
            · exact absurd rfl h1
          · have := hfull hne
            rw [hbufs] at this
            simpa using this
          · rw [eO _ (by omega) (by omega)] at hf'
            rcases get_set2 hil hjl hz with ⟨e, _⟩ | ⟨_, e, _⟩ | ⟨h1, h2, h3⟩
            · omega
            · omega
            · exact hF.waiting.sema z' h3 hb hf'
end
end Go.Sep
