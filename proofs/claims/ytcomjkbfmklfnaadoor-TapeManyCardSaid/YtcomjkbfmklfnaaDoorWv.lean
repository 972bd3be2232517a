/-
  Many: the company made, and its results taken. Conditions: none.
-/
import Derived.Test.YtcomjkbfmklfnaaDoorWu
set_option linter.unusedSimpArgs false
set_option linter.unusedVariables false
namespace Go.Proofs.YtcomjkbfmklfnaaDoor
open Go.Conc Go.Sep
open Go.ConcR (KK wgBlock)

def zw54 : Value := .agg #[.int .i64 0, .slice none 0 0, .nilIface]
/-- The company of one call. -/
def phOf (td dn wg n pc : Nat) (tss : List (List Tap)) (ag : Int) : Ph := { td, dn, wg, n, m := tss.length, pc, vC := .int .i64 ag, zw := zw54, res := resOf tss ag }

/-- The error that comes of a number. -/
def isE (tss : List (List Tap)) (ag : Int) (k : Nat) : Option Int := match playR (tss.getD k []) ag with | .inl e => some e | .inr _ => none

/-- While the workers are started. -/
structure Mn (H₀ H : Hp) (φ : Ph) (tss : List (List Tap)) (ag : Int) (bt bp bd j : Nat) : Prop where
  ext : Ext H₀ H
  job : Job H φ tss ag bt bp bd
  wg0 : H₀.own φ.wg = none
  wg : H.own φ.wg = some (.cells #[.int .u64 ((j : Int) * KK), .int .u32 0] 51 (0, 0))

theorem Mn.next {H₀ H : Hp} {φ : Ph} {tss : List (List Tap)} {ag : Int} {bt bp bd j : Nat} (h : Mn H₀ H φ tss ag bt bp bd j) :
    Mn H₀ (H.set φ.wg (.cells #[.int .u64 (((j + 1 : Nat) : Int) * KK), .int .u32 0] 51 (0, 0))) φ tss ag bt bp bd (j + 1) :=
  ⟨h.ext.upd h.wg0 h.wg _, h.job.mono h.job.d (fun _ _ x => x), h.wg0, set_own_same _ _ _⟩

theorem Job.kid {H : Hp} {φ : Ph} {tss : List (List Tap)} {ag : Int} {bt bp bd : Nat} (j : Job H φ tss ag bt bp bd) : Job H.kid φ tss ag bt bp bd := j.mono rfl (fun _ _ x => x)

theorem share_own_some {H : Hp} {b b' : Nat} {o : Obj} (h : H.own b = some o) (hne : b ≠ b') : (H.share b').own b = some o := by rw [share_own_ne hne]; exact h

/-- The company is opened. -/
theorem open_mn {H₀ H1 H2 H : Hp} {tss : List (List Tap)} {ag : Int} {a : Option Addr} {cap bp pc c0 c1 b2 b3 wg n : Nat} (hap : Ap H₀) (hd : H₀.d = 0) (hm : tss.length ≤ 20) (hts : TapesR H₀.ro a tss)
    (hp1 : H₀.own bp = none) (hp2 : H₀.ro bp = none) (e1 : H1 = H₀.set bp (.cells #[.slice a tss.length cap] 22 (0, 0))) (hq1 : H1.own pc = none) (hq2 : H1.ro pc = none) (e2 : H2 = H1.set pc (.cells #[.int .i64 ag] 3 (0, 0)))
    (h3 : R3 H2 H (some c0) (some c1) (some b2) (some b3) true true) (hw1 : H.own wg = none) (hw2 : H.ro wg = none) (hn1 : 1 ≤ n) (hn16 : n ≤ 16) :
    ∃ H5, (∀ (Y : Value → Prop) (c : Code) (Q : Exit → Act → Hp → Gh → Prop) (x : Act), wpT Tryd.prog (company Tryd.prog Y) true 5 c Q x H5 (.opn (phOf c0 c1 wg n pc tss ag) 0) →
        wpT Tryd.prog (company Tryd.prog Y) true 5 c Q x (H.set wg (.cells #[.int .u64 0, .int .u32 0] 51 (0, 0))) .lone) ∧
      Mn H₀ H5 (phOf c0 c1 wg n pc tss ag) tss ag b2 bp b3 0 ∧ (phOf c0 c1 wg n pc tss ag).Ok := by
  have x1 : Ext H₀ H1 := e1 ▸ (Ext.refl hap).new hp1 hp2 _
  have x2 : Ext H₀ H2 := e2 ▸ x1.new hq1 hq2 _
  have x3 : Ext H₀ H := x2.trans ⟨h3.old, fun b o hb => by rw [h3.ro]; exact hb, h3.d, h3.ap⟩
  have x4 : Ext H₀ (H.set wg (.cells #[.int .u64 0, .int .u32 0] 51 (0, 0))) := x3.new hw1 hw2 _
  have obp2 : H2.own bp = some (.cells #[.slice a tss.length cap] 22 (0, 0)) := by
    have h1 : H1.own bp = some (.cells #[.slice a tss.length cap] 22 (0, 0)) := by rw [e1]; exact set_own_same _ _ _
    have : bp ≠ pc := by rintro rfl; rw [hq1] at h1; cases h1
    rw [e2, set_own_ne _ _ this]; exact h1
  have opc2 : H2.own pc = some (.cells #[.int .i64 ag] 3 (0, 0)) := by rw [e2]; exact set_own_same _ _ _
  have nw : ∀ {b o}, H.own b = some o → b ≠ wg := fun {b o} hb e => by rw [e, hw1] at hb; cases hb
  have st : ∀ {b o}, H.own b = some o → (H.set wg (.cells #[.int .u64 0, .int .u32 0] 51 (0, 0))).own b = some o := fun {b o} hb => by rw [set_own_ne _ _ (nw hb)]; exact hb
  have obp := st (h3.old _ _ obp2)
  have opc := st (h3.old _ _ opc2)
  have oc0 := st (h3.hc0 c0 rfl)
  have oc1 := st (h3.hc1 c1 rfl)
  have ob2 := st (h3.hb2 b2 rfl)
  have ob3 := st (h3.hb3 b3 rfl)
  have owg := set_own_same H wg (.cells #[.int .u64 0, .int .u32 0] 51 (0, 0))
  have nwc0 := nw (h3.hc0 c0 rfl)
  have nwc1 := nw (h3.hc1 c1 rfl)
  have z0 := fun n (h : _ ∨ _ ∨ _ ∨ _) => x2.none' (h3.new n h).2
  have zc0 := z0 c0 (.inl rfl)
  have zc1 := z0 c1 (.inr (.inl rfl))
  have zb2 := z0 b2 (.inr (.inr (.inl rfl)))
  have zb3 := z0 b3 (.inr (.inr (.inr rfl)))
  have zpc := x1.none' hq1
  have zwg := x3.none' hw1
  simp only [if_true] at ob2 ob3
  generalize H.set wg (.cells #[.int .u64 0, .int .u32 0] 51 (0, 0)) = G0 at x4 obp opc oc0 oc1 ob2 ob3 owg ⊢
  have dif : ∀ {b b' o o'}, G0.own b = some o → G0.own b' = some o' → o ≠ o' → b ≠ b' := fun {b b' o o'} h h' hne e => by rw [e, h'] at h; cases h; exact hne rfl
  have n1 : pc ≠ bp := dif opc obp (by simp)
  have n2 : b2 ≠ bp := dif ob2 obp (by simp)
  have n3 : b2 ≠ pc := dif ob2 opc (by simp)
  have n4 : b3 ≠ bp := dif ob3 obp (by simp)
  have n5 : b3 ≠ pc := dif ob3 opc (by simp)
  have n6 : b3 ≠ b2 := dif ob3 ob2 (by simp)
  have y1 := x4.share hp1 obp
  have p1 := share_own_some opc n1
  have y2 := y1.share zpc p1
  have p2 := share_own_some (share_own_some ob2 n2) n3
  have y3 := y2.share zb2 p2
  have p3 := share_own_some (share_own_some (share_own_some ob3 n4) n5) n6
  have y4 := y3.share zb3 p3
  have q : ∀ {b o}, G0.own b = some o → (o ≠ .cells #[.slice a tss.length cap] 22 (0, 0)) → (o ≠ .cells #[.int .i64 ag] 3 (0, 0)) → (o ≠ .cells #[.chan (some c0)] 40 (0, 0)) → (o ≠ .cells #[.chan (some c1)] 41 (0, 0)) → ((((G0.share bp).share pc).share b2).share b3).own b = some o :=
    fun {b o} h a1 a2 a3 a4 => share_own_some (share_own_some (share_own_some (share_own_some h (dif h obp a1)) (dif h opc a2)) (dif h ob2 a3)) (dif h ob3 a4)
  have qc0 := q oc0 (by simp) (by simp) (by simp) (by simp)
  have qc1 := q oc1 (by simp) (by simp) (by simp) (by simp)
  have qwg := q owg (by simp) (by simp) (by simp) (by simp)
  have y5 := y4.drop2 zc0 zc1
  have r1 : ∀ b o, (G0.share bp).ro b = some o → ((((G0.share bp).share pc).share b2).share b3).ro b = some o := fun b o h => by
    have m2 : b ≠ pc := by rintro rfl; rw [y1.ap _ (by rw [h]; simp)] at p1; cases p1
    have g2 : ((G0.share bp).share pc).ro b = some o := by rw [share_ro_ne m2]; exact h
    have m3 : b ≠ b2 := by rintro rfl; rw [y2.ap _ (by rw [g2]; simp)] at p2; cases p2
    have g3 : (((G0.share bp).share pc).share b2).ro b = some o := by rw [share_ro_ne m3]; exact g2
    have m4 : b ≠ b3 := by rintro rfl; rw [y3.ap _ (by rw [g3]; simp)] at p3; cases p3
    rw [share_ro_ne m4]; exact g3
  have rbp := r1 bp _ (share_ro.trans obp)
  have rpc : ((((G0.share bp).share pc).share b2).share b3).ro pc = some (.cells #[.int .i64 ag] 3 (0, 0)) := by
    rw [share_ro_ne (Ne.symm n5), share_ro_ne (Ne.symm n3), share_ro]; exact p1
  have rb2 : ((((G0.share bp).share pc).share b2).share b3).ro b2 = some (.cells #[.chan (some c0)] 40 (0, 0)) := by
    rw [share_ro_ne (Ne.symm n6), share_ro]; exact p2
  have rb3 : ((((G0.share bp).share pc).share b2).share b3).ro b3 = some (.cells #[.chan (some c1)] 41 (0, 0)) := by
    rw [share_ro]; exact p3
  have d01 : c0 ≠ c1 := dif oc0 oc1 (by simp)
  have dwg0 : c0 ≠ wg := nwc0
  have dwg1 : c1 ≠ wg := nwc1
  have ok : (phOf c0 c1 wg n pc tss ag).Ok := ⟨d01, dwg0, dwg1, hn1, hn16⟩
  refine ⟨_, fun Y c Q x hx => ?_, ⟨y5, ⟨y5.d.trans hd, rb2, ⟨a, cap, rbp, hts.mono y5.ro⟩, rpc, rb3, rfl, hm, rfl, rfl⟩, zwg, ?_⟩, ok⟩
  · refine wpT_ghost (company_pub _ Y _ _ bp _ obp) (wpT_ghost (company_pub _ Y _ _ pc _ p1) (wpT_ghost (company_pub _ Y _ _ b2 _ p2) (wpT_ghost (company_pub _ Y _ _ b3 _ p3) ?_)))
    exact wpT_ghost (.inr ⟨phOf c0 c1 wg n pc tss ag, false, false, rfl, rfl, ok, qc0, qc1, rfl⟩) hx
  · have : (((((G0.share bp).share pc).share b2).share b3).drop2 c0 c1).own wg = ((((G0.share bp).share pc).share b2).share b3).own wg := by
      simp only [Hp.drop2]
      rw [if_neg]
      rintro (e | e)
      · exact dwg0 e.symm
      · exact dwg1 e.symm
    exact this.trans qwg

/-- What stands in a row. -/
def Row (H : Hp) (tss : List (List Tap)) (ag : Int) (cs : Array Value) (k : Nat) : Prop :=
  ∀ out, playR (tss.getD k []) ag = .inr out → ∃ B bs, cs[k]? = some (.slice (some ⟨B, 0, none⟩) out.length out.length) ∧ H.ro B = some (.cells bs 37 (0, 0)) ∧ Fates bs out

/-- While the results are taken. -/
structure Rc (H₀ H : Hp) (tss : List (List Tap)) (ag : Int) (OB bf : Nat) (got : List Nat) (at_ : Nat) (er : Value) (cs : Array Value) : Prop where
  ext : Ext H₀ H
  ob0 : H₀.own OB = none
  bf0 : H₀.own bf = none
  ob : H.own OB = some (.cells cs 33 (0, 0))
  sz : cs.size = tss.length
  rows : ∀ k, k ∈ got → Row H tss ag cs k
  bfo : H.own bf = some (.cells #[.int .i64 (at_ : Int), .slice none 0 0, er] 54 (0, 0))
  fst : (at_ = tss.length ∧ er = .nilIface ∧ ∀ k, k ∈ got → isE tss ag k = none) ∨ (∃ e, at_ < tss.length ∧ at_ ∈ got ∧ isE tss ag at_ = some e ∧ er = .iface 31 (.int .i64 e) ∧ ∀ k, k ∈ got → isE tss ag k ≠ none → at_ ≤ k)

section
variable {H₀ H : Hp} {tss : List (List Tap)} {ag : Int} {OB bf : Nat} {got : List Nat} {at_ : Nat} {er : Value} {cs : Array Value}
theorem Row.mono {H' : Hp} {k : Nat} (h : Row H tss ag cs k) (hm : ∀ b o, H.ro b = some o → H'.ro b = some o) : Row H' tss ag cs k := fun out ho => by
  obtain ⟨B, bs, h1, h2, h3⟩ := h out ho
  exact ⟨B, bs, h1, hm _ _ h2, h3⟩
theorem Row.other {k k' : Nat} {x : Value} (h : Row H tss ag cs k) (hne : k' ≠ k) : Row H tss ag (cs.setIfInBounds k' x) k := fun out ho => by
  obtain ⟨B, bs, h1, h2, h3⟩ := h out ho
  exact ⟨B, bs, by rw [Array.getElem?_setIfInBounds_ne hne]; exact h1, h2, h3⟩
theorem Rc.ne (h : Rc H₀ H tss ag OB bf got at_ er cs) : OB ≠ bf := by
  intro e
  have := h.ob
  rw [e, h.bfo] at this
  simp at this
theorem Rc.learn (h : Rc H₀ H tss ag OB bf got at_ er cs) {car : Option (Nat × Obj)} (hc : ∀ B o, car = some (B, o) → H.own B = .none ∧ ∀ o', H.ro B = some o' → o' = o) : Rc H₀ (H.learn car) tss ag OB bf got at_ er cs := by
  have hx := (Ext.refl h.ext.ap).learn hc
  exact ⟨h.ext.trans hx, h.ob0, h.bf0, hx.own _ _ h.ob, h.sz, fun k hk => (h.rows k hk).mono hx.ro, hx.own _ _ h.bfo, h.fst⟩
theorem Rc.box (h : Rc H₀ H tss ag OB bf got at_ er cs) {n : Nat} (h1 : H.own n = none) (h2 : H.ro n = none) (o : Obj) : Rc H₀ (H.set n o) tss ag OB bf got at_ er cs := by
  have hx := (Ext.refl h.ext.ap).new h1 h2 o
  exact ⟨h.ext.trans hx, h.ob0, h.bf0, hx.own _ _ h.ob, h.sz, fun k hk => (h.rows k hk).mono hx.ro, hx.own _ _ h.bfo, h.fst⟩
theorem Rc.put (h : Rc H₀ H tss ag OB bf got at_ er cs) {k : Nat} (hk : k ∉ got) (x : Value) : Rc H₀ (H.set OB (.cells (cs.setIfInBounds k x) 33 (0, 0))) tss ag OB bf got at_ er (cs.setIfInBounds k x) :=
  ⟨h.ext.upd h.ob0 h.ob _, h.ob0, h.bf0, set_own_same _ _ _, by simpa using h.sz, fun j hj => (h.rows j hj).other (fun e => hk (e ▸ hj)), by rw [set_own_ne _ _ (Ne.symm h.ne)]; exact h.bfo, h.fst⟩
theorem Rc.ok (h : Rc H₀ H tss ag OB bf got at_ er cs) {k : Nat} (hr : Row H tss ag cs k) (he : isE tss ag k = none) : Rc H₀ H tss ag OB bf (k :: got) at_ er cs := by
  refine ⟨h.ext, h.ob0, h.bf0, h.ob, h.sz, fun j hj => ?_, h.bfo, ?_⟩
  · rcases List.mem_cons.1 hj with rfl | hj
    · exact hr
    · exact h.rows j hj
  · rcases h.fst with ⟨h1, h2, h3⟩ | ⟨e, h0, h1, h2, h3, h4⟩
    · refine .inl ⟨h1, h2, fun j hj => ?_⟩
      rcases List.mem_cons.1 hj with rfl | hj
      · exact he
      · exact h3 j hj
    · refine .inr ⟨e, h0, List.mem_cons_of_mem _ h1, h2, h3, fun j hj hne => ?_⟩
      rcases List.mem_cons.1 hj with rfl | hj
      · exact absurd he hne
      · exact h4 j hj hne
theorem row_err {k : Nat} {e : Int} (he : isE tss ag k = some e) : Row H tss ag cs k := fun out ho => by
  simp only [isE, ho] at he
  cases he
theorem Rc.high (h : Rc H₀ H tss ag OB bf got at_ er cs) {k : Nat} {e : Int} (hk : k < tss.length) (he : isE tss ag k = some e) (hle : ¬ k < at_) : Rc H₀ H tss ag OB bf (k :: got) at_ er cs := by
  refine ⟨h.ext, h.ob0, h.bf0, h.ob, h.sz, fun j hj => ?_, h.bfo, ?_⟩
  · rcases List.mem_cons.1 hj with rfl | hj
    · exact row_err he
    · exact h.rows j hj
  · rcases h.fst with ⟨h1, h2, h3⟩ | ⟨e, h0, h1, h2, h3, h4⟩
    · omega
    · refine .inr ⟨e, h0, List.mem_cons_of_mem _ h1, h2, h3, fun j hj hne => ?_⟩
      rcases List.mem_cons.1 hj with rfl | hj
      · omega
      · exact h4 j hj hne
theorem Rc.low (h : Rc H₀ H tss ag OB bf got at_ er cs) {k : Nat} {e : Int} (hk : k < tss.length) (he : isE tss ag k = some e) (hlt : k < at_) :
    Rc H₀ (H.set bf (.cells #[.int .i64 (k : Int), .slice none 0 0, .iface 31 (.int .i64 e)] 54 (0, 0))) tss ag OB bf (k :: got) k (.iface 31 (.int .i64 e)) cs := by
  refine ⟨h.ext.upd h.bf0 h.bfo _, h.ob0, h.bf0, by rw [set_own_ne _ _ h.ne]; exact h.ob, h.sz, fun j hj => ?_, set_own_same _ _ _, .inr ⟨e, hk, List.mem_cons_self .., he, rfl, fun j hj hne => ?_⟩⟩
  · rcases List.mem_cons.1 hj with rfl | hj
    · exact row_err he
    · exact h.rows j hj
  · rcases List.mem_cons.1 hj with rfl | hj
    · exact Nat.le_refl _
    · rcases h.fst with ⟨h1, h2, h3⟩ | ⟨e', h0, h1, h2, h3, h4⟩
      · exact absurd (h3 j hj) hne
      · have := h4 j hj hne; omega
end

/-- Of the numbers below m, those that have not come. -/
def notYet (got : List Nat) : Nat → Nat
  | 0 => 0
  | m + 1 => notYet got m + if m ∈ got then 0 else 1
theorem notYet_le (got : List Nat) (k : Nat) : ∀ m, notYet (k :: got) m ≤ notYet got m
  | 0 => Nat.le_refl _
  | m + 1 => by
    have := notYet_le got k m
    simp only [notYet, List.mem_cons]
    by_cases h : m ∈ got
    · simp [h]; omega
    · rw [if_neg h]; split <;> omega
theorem notYet_lt {got : List Nat} {k : Nat} (hk : k ∉ got) : ∀ m, k < m → notYet (k :: got) m < notYet got m
  | 0, h => absurd h (by omega)
  | m + 1, h => by
    simp only [notYet, List.mem_cons]
    by_cases e : m = k
    · subst e
      have := notYet_le got m m
      simp [hk]; omega
    · have := notYet_lt hk m (by omega)
      by_cases h : m ∈ got
      · simp [h]; omega
      · simp [h, e]; omega
def mainLeft : Gh → Nat
  | .opn φ j => φ.n - j
  | .fed φ got => notYet got φ.m
  | _ => 0

/-- What Many answers. -/
def ManyPost (tss : List (List Tap)) (ag : Int) (H H' : Hp) (v : Value) : Prop := Ext H H' ∧
  ((∃ k e, k < tss.length ∧ isE tss ag k = some e ∧ (∀ j, j < k → isE tss ag j = none) ∧ v = .tuple #[.slice none 0 0, .iface 31 (.int .i64 e)]) ∨
   ((∀ k, k < tss.length → isE tss ag k = none) ∧ ∃ OB cs, H.own OB = none ∧ H'.own OB = some (.cells cs 33 (0, 0)) ∧ v = .tuple #[.slice (some ⟨OB, 0, none⟩) tss.length tss.length, .nilIface] ∧ ∀ k, k < tss.length → Row H' tss ag cs k))
end Go.Proofs.YtcomjkbfmklfnaaDoor
