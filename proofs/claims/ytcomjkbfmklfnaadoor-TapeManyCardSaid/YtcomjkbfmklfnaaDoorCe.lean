/-
  What holds of a company between two steps. Conditions: none.
-/
import Derived.Test.YtcomjkbfmklfnaaDoorCd
set_option linter.unusedSimpArgs false
set_option linter.unusedVariables false
namespace Go.Sep
open Go.Conc
open Go.ConcR (KK wgBlock WgAt stA smA rd wr mk)
open Go.ConcN (RW WgLive)

/-! ### counting -/
/-- 0: it is counted; 1: the last one, ahead of its store; 2: ahead of its wake; 3: through, or no worker. -/
def cl : Gh → Nat
  | .wk _ _ _ => 0
  | .wc _ => 0
  | .wt _ 0 => 0
  | .wt _ 1 => 0
  | .wt _ 2 => 1
  | .wt _ 3 => 1
  | .wt _ 4 => 2
  | _ => 3
def cnt (base : Nat) (γs : Nat → Gh) (c : Nat) : Nat → Nat
  | 0 => 0
  | n + 1 => cnt base γs c n + (if cl (γs (base + n)) = c then 1 else 0)

theorem cnt_le (base : Nat) (γs : Nat → Gh) (c : Nat) : ∀ n, cnt base γs c n ≤ n
  | 0 => Nat.le_refl _
  | n + 1 => by have := cnt_le base γs c n; simp only [cnt]; split <;> omega
theorem cnt_out {base : Nat} {γs : Nat → Gh} {c i : Nat} {x : Gh} : ∀ n, (i < base ∨ base + n ≤ i) → cnt base (upd γs i x) c n = cnt base γs c n
  | 0, _ => rfl
  | n + 1, h => by simp only [cnt]; rw [cnt_out n (by omega), upd_ne γs x (by omega)]
theorem cnt_upd {base : Nat} {γs : Nat → Gh} {c i : Nat} {x : Gh} : ∀ n, i < n → cnt base (upd γs (base + i) x) c n + (if cl (γs (base + i)) = c then 1 else 0) = cnt base γs c n + (if cl x = c then 1 else 0)
  | 0, h => by omega
  | n + 1, h => by
    simp only [cnt]
    by_cases hi : i = n
    · subst hi
      rw [upd_same, cnt_out i (by omega)]; omega
    · have := cnt_upd (base := base) (γs := γs) (c := c) (x := x) n (i := i) (by omega)
      rw [upd_ne γs x (show base + n ≠ base + i by omega)]; omega
theorem cnt_same {base : Nat} {γs : Nat → Gh} {c i n : Nat} {x : Gh} (hi : i < n) (h : cl x = cl (γs (base + i))) : cnt base (upd γs (base + i) x) c n = cnt base γs c n := by
  have := cnt_upd (base := base) (γs := γs) (c := c) (x := x) n hi
  rw [h] at this; omega
theorem cnt_zero {base : Nat} {γs : Nat → Gh} {c : Nat} : ∀ {n}, cnt base γs c n = 0 → ∀ i, i < n → cl (γs (base + i)) ≠ c
  | 0, _, i, h => by omega
  | n + 1, h, i, hi => by
    simp only [cnt] at h
    by_cases hin : i = n
    · subst hin; intro e; rw [if_pos e] at h; omega
    · exact cnt_zero (n := n) (by omega) i (by omega)
theorem cnt_pos {base : Nat} {γs : Nat → Gh} {c : Nat} : ∀ {n}, 0 < cnt base γs c n → ∃ i, i < n ∧ cl (γs (base + i)) = c
  | 0, h => by simp [cnt] at h
  | n + 1, h => by
    simp only [cnt] at h
    by_cases e : cl (γs (base + n)) = c
    · exact ⟨n, by omega, e⟩
    · rw [if_neg e] at h
      obtain ⟨i, hi, he⟩ := cnt_pos (n := n) (by omega)
      exact ⟨i, by omega, he⟩
theorem cnt_has {base : Nat} {γs : Nat → Gh} {c i n : Nat} (hi : i < n) (h : cl (γs (base + i)) = c) : 1 ≤ cnt base γs c n := by
  rcases Nat.eq_zero_or_pos (cnt base γs c n) with h0 | h0
  · exact absurd h (cnt_zero h0 i hi)
  · exact h0
theorem cnt_sum {base : Nat} {γs : Nat → Gh} : ∀ n, (∀ i, i < n → cl (γs (base + i)) ≤ 3) → cnt base γs 0 n + cnt base γs 1 n + cnt base γs 2 n + cnt base γs 3 n = n
  | 0, _ => rfl
  | n + 1, h => by
    have := cnt_sum n fun i hi => h i (by omega)
    have h3 := h n (by omega)
    simp only [cnt]
    have : cl (γs (base + n)) = 0 ∨ cl (γs (base + n)) = 1 ∨ cl (γs (base + n)) = 2 ∨ cl (γs (base + n)) = 3 := by omega
    rcases this with e | e | e | e <;> simp [e] <;> omega

/-! ### who has which number -/
structure Jobs (n kf : Nat) (h : Nat → Option Nat) (ks got : List Nat) : Prop where
  each : ∀ k, k < kf → (∃ i, i < n ∧ h i = some k) ∨ k ∈ ks ∨ k ∈ got
  hold : ∀ i, i < n → ∀ k, h i = some k → k < kf ∧ k ∉ ks ∧ k ∉ got ∧ ∀ j, j < n → h j = some k → j = i
  buf : ∀ k ∈ ks, k < kf ∧ k ∉ got
  bufnd : ks.Nodup
  gotlt : ∀ k ∈ got, k < kf
  gotnd : got.Nodup

section
variable {n kf : Nat} {h : Nat → Option Nat} {ks got : List Nat}
theorem Jobs.congr {h' : Nat → Option Nat} (J : Jobs n kf h ks got) (e : ∀ i, i < n → h' i = h i) : Jobs n kf h' ks got :=
  ⟨fun k hk => (J.each k hk).imp (fun ⟨i, hi, x⟩ => ⟨i, hi, by rw [e i hi]; exact x⟩) id, fun i hi k hk => by
    rw [e i hi] at hk
    obtain ⟨a, b, c, d⟩ := J.hold i hi k hk
    exact ⟨a, b, c, fun j hj hk' => d j hj (by rw [← e j hj]; exact hk')⟩, J.buf, J.bufnd, J.gotlt, J.gotnd⟩
/-- A number more is given to one who has none. -/
theorem Jobs.feed (J : Jobs n kf h ks got) {i : Nat} (hi : i < n) (h0 : h i = none) : Jobs n (kf + 1) (upd h i (some kf)) ks got := by
  refine ⟨fun k hk => ?_, fun j hj k hk => ?_, fun k hk => ⟨by have := (J.buf k hk).1; omega, (J.buf k hk).2⟩, J.bufnd, fun k hk => by have := J.gotlt k hk; omega, J.gotnd⟩
  · by_cases e : k = kf
    · subst e; exact .inl ⟨i, hi, upd_same _ _ _⟩
    · rcases J.each k (by omega) with ⟨j, hj, x⟩ | x
      · have : j ≠ i := fun e => by rw [e, h0] at x; cases x
        exact .inl ⟨j, hj, by rw [upd_ne _ _ this]; exact x⟩
      · exact .inr x
  · by_cases e : j = i
    · subst e
      rw [upd_same] at hk; cases hk
      refine ⟨by omega, fun x => by have := (J.buf _ x).1; omega, fun x => by have := J.gotlt _ x; omega, fun l hl x => ?_⟩
      by_cases e : l = j
      · exact e
      · rw [upd_ne _ _ e] at x
        have := (J.hold l hl _ x).1; omega
    · rw [upd_ne _ _ e] at hk
      obtain ⟨a, b, c, d⟩ := J.hold j hj k hk
      refine ⟨by omega, b, c, fun l hl x => ?_⟩
      by_cases e' : l = i
      · subst e'; rw [upd_same] at x; cases x; omega
      · rw [upd_ne _ _ e'] at x; exact d l hl x
theorem Jobs.drop (J : Jobs n kf h ks got) {i k : Nat} (hi : i < n) (h0 : h i = some k) (ks' got' : List Nat) (hk : ∀ x, (x ∈ ks' ∨ x ∈ got') ↔ (x ∈ ks ∨ x ∈ got ∨ x = k)) (hb : ∀ x ∈ ks', x ∉ got') (h1 : ks'.Nodup) (h2 : got'.Nodup) :
    Jobs n kf (upd h i none) ks' got' := by
  obtain ⟨p1, p2, p3, p4⟩ := J.hold i hi k h0
  have lt : ∀ x, (x ∈ ks' ∨ x ∈ got') → x < kf := fun x hx => by
    rcases (hk x).1 hx with y | y | rfl
    · exact (J.buf x y).1
    · exact J.gotlt x y
    · exact p1
  refine ⟨fun x hx => ?_, fun j hj x hx => ?_, fun x hx => ⟨lt x (.inl hx), hb x hx⟩, h1, fun x hx => lt x (.inr hx), h2⟩
  · rcases J.each x hx with ⟨j, hj, y⟩ | y
    · by_cases e : j = i
      · subst e; rw [h0] at y; cases y
        exact .inr ((hk _).2 (.inr (.inr rfl)))
      · exact .inl ⟨j, hj, by rw [upd_ne _ _ e]; exact y⟩
    · exact .inr ((hk x).2 (y.imp id .inl))
  · by_cases e : j = i
    · subst e; rw [upd_same] at hx; cases hx
    · rw [upd_ne _ _ e] at hx
      obtain ⟨a, b, c, d⟩ := J.hold j hj x hx
      have hxk : x ≠ k := fun ex => e (by subst ex; exact p4 j hj hx)
      refine ⟨a, fun y => ?_, fun y => ?_, fun l hl y => ?_⟩
      · rcases (hk x).1 (.inl y) with z | z | z
        · exact b z
        · exact c z
        · exact hxk z
      · rcases (hk x).1 (.inr y) with z | z | z
        · exact b z
        · exact c z
        · exact hxk z
      · by_cases e' : l = i
        · subst e'; rw [upd_same] at y; cases y
        · rw [upd_ne _ _ e'] at y; exact d l hl y
/-- It is sent into the buffer. -/
theorem Jobs.put (J : Jobs n kf h ks got) {i k : Nat} (hi : i < n) (h0 : h i = some k) : Jobs n kf (upd h i none) (ks ++ [k]) got := by
  obtain ⟨p1, p2, p3, p4⟩ := J.hold i hi k h0
  refine J.drop hi h0 _ _ (fun x => by simp [or_assoc, or_comm, or_left_comm]) (fun x hx => ?_) ?_ J.gotnd
  · rcases List.mem_append.1 hx with y | y
    · exact (J.buf x y).2
    · simp at y; subst y; exact p3
  · rw [List.nodup_append]
    exact ⟨J.bufnd, by simp, fun a ha b hb => by simp at hb; subst hb; intro e; subst e; exact p2 ha⟩
/-- It is handed over at once. -/
theorem Jobs.hand (J : Jobs n kf h ks got) {i k : Nat} (hi : i < n) (h0 : h i = some k) : Jobs n kf (upd h i none) ks (k :: got) := by
  obtain ⟨p1, p2, p3, p4⟩ := J.hold i hi k h0
  refine J.drop hi h0 _ _ (fun x => by simp [or_assoc, or_comm, or_left_comm]) (fun x hx => ?_) J.bufnd (by simp [p3, J.gotnd])
  simp only [List.mem_cons, not_or]
  exact ⟨fun e => by subst e; exact p2 hx, (J.buf x hx).2⟩
/-- The first of the buffer is taken. -/
theorem Jobs.take {k : Nat} (J : Jobs n kf h (k :: ks) got) : Jobs n kf h ks (k :: got) := by
  have hk := J.buf k (by simp)
  have hnd := J.bufnd
  rw [List.nodup_cons] at hnd
  refine ⟨fun x hx => ?_, fun i hi x hx => ?_, fun x hx => ⟨(J.buf x (by simp [hx])).1, ?_⟩, hnd.2, fun x hx => ?_, by simp [hk.2, J.gotnd]⟩
  · rcases J.each x hx with y | y | y
    · exact .inl y
    · rcases List.mem_cons.1 y with rfl | y
      · exact .inr (.inr (by simp))
      · exact .inr (.inl y)
    · exact .inr (.inr (by simp [y]))
  · obtain ⟨a, b, c, d⟩ := J.hold i hi x hx
    simp only [List.mem_cons, not_or] at b ⊢
    exact ⟨a, b.2, ⟨b.1, c⟩, d⟩
  · simp only [List.mem_cons, not_or]
    exact ⟨fun e => by subst e; exact hnd.1 hx, (J.buf x (by simp [hx])).2⟩
  · rcases List.mem_cons.1 hx with rfl | y
    · exact hk.1
    · exact J.gotlt x y
end

/-! ### the parts of a company at work -/
def hold : Gh → Option Nat
  | .wk _ _ h => h
  | _ => none
def isWk : Gh → Bool
  | .wk _ _ _ => true
  | _ => false
def isFd : Gh → Bool
  | .fd _ _ => true
  | _ => false
def isGone : Gh → Bool
  | .gone => true
  | _ => false
/-- How many numbers have been given out. -/
def kOf (φ : Ph) : Gh → Nat
  | .fd _ k => k
  | _ => φ.m

def WkOk (φ : Ph) (kf : Nat) (γ : Gh) : Prop := (∃ nx h, nx ≤ kf ∧ γ = .wk φ nx h) ∨ γ = .wc φ ∨ (∃ j, j ≤ 4 ∧ γ = .wt φ j) ∨ γ = .gone
def FdOk (φ : Ph) (γ : Gh) : Prop := (∃ k, k ≤ φ.m ∧ γ = .fd φ k) ∨ (∃ s, γ = .fw φ s) ∨ γ = .gone

structure Parts (φ : Ph) (base : Nat) (γs : Nat → Gh) (ks got : List Nat) : Prop where
  wk : ∀ i, i < φ.n → WkOk φ (kOf φ (γs (base + φ.n))) (γs (base + i))
  fd : FdOk φ (γs (base + φ.n))
  opn : isFd (γs (base + φ.n)) = true → ∀ i, i < φ.n → isWk (γs (base + i)) = true
  jobs : Jobs φ.n (kOf φ (γs (base + φ.n))) (fun i => hold (γs (base + i))) ks got

/-- A result that lies in the buffer. -/
structure Res where
  k : Nat
  v : Value
  car : Option (Nat × Obj)

/-- What the company's blocks hold. -/
structure FedD where
  bufs : List Res
  s : Nat
  r : Nat
  tm : Bool
  sT : Nat
  rT : Nat
  tmT : Bool
  st : Int
  sm : Int
  pg : Nat

def Waits (c0 c1 c2 : Nat) (st sm : Int) : Prop :=
  (1 ≤ c0 ∧ c1 = 0 ∧ c2 = 0 ∧ st = (c0 : Int) * KK + 1 ∧ sm = 0) ∨ (c0 = 0 ∧ c1 = 1 ∧ c2 = 0 ∧ st = 1 ∧ sm = 0) ∨ (c0 = 0 ∧ c1 = 0 ∧ c2 = 1 ∧ st = 0 ∧ sm = 0) ∨ (c0 = 0 ∧ c1 = 0 ∧ c2 = 0 ∧ st = 0 ∧ sm = 1)
def Calm (c0 c1 c2 : Nat) (st sm : Int) : Prop := c1 = 0 ∧ c2 = 0 ∧ st = (c0 : Int) * KK ∧ sm = 0
def WMode (c0 c1 c2 : Nat) (st sm : Int) : Gh → Prop
  | .fd _ _ => Calm c0 c1 c2 st sm
  | .fw _ (.load b) => c0 ≤ b ∧ Calm c0 c1 c2 st sm
  | .fw _ (.cas v) => c0 ≤ v ∧ Calm c0 c1 c2 st sm
  | .fw _ .say => Waits c0 c1 c2 st sm
  | .fw _ .sema => Waits c0 c1 c2 st sm
  | .fw _ .load2 => c0 = 0 ∧ Calm c0 c1 c2 st sm
  | .fw _ .acq => c0 = 0 ∧ Calm c0 c1 c2 st sm
  | .fw _ .close => c0 = 0 ∧ Calm c0 c1 c2 st sm
  | .gone => c0 = 0 ∧ Calm c0 c1 c2 st sm
  | _ => False

structure Shared (φ : Ph) (base : Nat) (w : World) (γs : Nat → Gh) (D : FedD) : Prop where
  chT : w.heap[φ.td]? = some (.chan 0 #[] (!isFd (γs (base + φ.n))) D.sT D.rT D.tmT)
  chD : w.heap[φ.dn]? = some (.chan 4 (D.bufs.map (·.v)).toArray (isGone (γs (base + φ.n))) D.s D.r D.tm)
  sr : D.s = D.r + D.bufs.length
  four : D.bufs.length ≤ 4
  res : ∀ x ∈ D.bufs, φ.res x.k x.v x.car
  wg : WgAt 51 φ.wg w D.st D.sm
  mode : WMode (cnt base γs 0 φ.n) (cnt base γs 1 φ.n) (cnt base γs 2 φ.n) D.st D.sm (γs (base + φ.n))

/-! ### what the trace says -/
def Old (t : Trace) (γ : Gh) (j : Nat) : Prop := γ = .gone ∧ ∃ q, Cov t j q ∧ Knows t 0 q
/-- It has said its release; what it has done since does not count. -/
def Rel (φ : Ph) (t : Trace) (j : Nat) : Prop := ∃ p, t.act? p = some (.mark (.releaseMerge (stA φ.wg))) ∧ t.heard p ∧ Cov t j p
def KW (φ : Ph) (t : Trace) (pg j : Nat) : Gh → Prop
  | .wc _ => Knows t j pg
  | .wt _ _ => Knows t j pg ∧ Rel φ t j
  | .gone => Rel φ t j
  | _ => True
def KF (φ : Ph) (base : Nat) (t : Trace) (pg : Nat) : Gh → Prop
  | .fd _ _ => True
  | .fw _ .close => (∃ p, t.act? p = some (.close φ.td) ∧ t.heard p ∧ Before t pg p) ∧ ∀ i, i < φ.n → ∃ p, Cov t (base + i) p ∧ Knows t (base + φ.n) p
  | .gone => (∃ p, t.act? p = some (.close φ.td) ∧ t.heard p ∧ Before t pg p) ∧ ∃ q, t.act? q = some (.close φ.dn) ∧ t.heard q ∧ ∀ j, base ≤ j → j ≤ base + φ.n → Cov t j q
  | _ => ∃ p, t.act? p = some (.close φ.td) ∧ t.heard p ∧ Before t pg p

/-- Every write to B lies Before p. -/
def Wrote (t : Trace) (B p : Nat) : Prop := ∀ i a y, touchAt t i = some a → a.write = true → a.loc = .cell y → y.block = B → Before t i p

structure Traced (φ : Ph) (base : Nat) (γs : Nat → Gh) (RO : Nat → Option Obj) (t : Trace) (bufs : List Res) (r pg : Nat) : Prop where
  old : ∀ j, 0 < j → j < base → Old t (γs j) j
  wgT : ∀ i a x, touchAt t i = some a → a.loc = .cell x → x.block = φ.wg → Before t i pg ∨ a.kind = .atomic ∨ (a.kind = .said ∧ t.g? i = some (base + φ.n))
  w : ∀ i, i < φ.n → KW φ t pg (base + i) (γs (base + i))
  f : Knows t (base + φ.n) pg ∧ KF φ base t pg (γs (base + φ.n))
  msg : ∀ q x, bufs[q]? = some x → ∃ p, t.act? p = some (.send φ.dn (r + q)) ∧ t.heard p ∧ ∀ B o, x.car = some (B, o) → RO B = some o ∧ Wrote t B p

/-! ### who waits -/
structure Waiting (φ : Ph) (base : Nat) (gs : Array Goroutine) (γs : Nat → Gh) (bufs : List Res) (sm : Int) : Prop where
  main : ∀ g, gs[0]? = some g → g.status = .blocked → bufs = [] ∧ isGone (γs (base + φ.n)) = false ∧ ∀ i, i < φ.n → ∀ g', gs[base + i]? = some g' → g'.status = .blocked → hold (γs (base + i)) = none
  send : ∀ i, i < φ.n → ∀ g, gs[base + i]? = some g → g.status = .blocked → ∀ k, hold (γs (base + i)) = some k → bufs.length = 4
  recv : ∀ i, i < φ.n → ∀ g, gs[base + i]? = some g → g.status = .blocked → hold (γs (base + i)) = none → isFd (γs (base + φ.n)) = true ∧ ∀ g', gs[base + φ.n]? = some g' → g'.status ≠ .blocked
  sema : ∀ g, gs[base + φ.n]? = some g → g.status = .blocked → isFd (γs (base + φ.n)) = false → sm = 0

structure Opn (φ : Ph) (jn base : Nat) (gs : Array Goroutine) (w : World) (t : Trace) (γs : Nat → Gh) : Prop where
  ok : φ.Ok
  size : gs.size = base + jn
  base1 : 1 ≤ base
  jle : jn ≤ φ.n
  old : ∀ j, 0 < j → j < base → Old t (γs j) j
  wk : ∀ i, i < jn → γs (base + i) = .wk φ 0 none
  chT : ∃ tm, w.heap[φ.td]? = some (.chan 0 #[] false 0 0 tm)
  chD : ∃ tm, w.heap[φ.dn]? = some (.chan 4 #[] false 0 0 tm)
  run : ∀ g, gs[0]? = some g → g.status = .running

structure Fed (φ : Ph) (got : List Nat) (base : Nat) (gs : Array Goroutine) (w : World) (t : Trace) (γs : Nat → Gh) (RO : Nat → Option Obj) (D : FedD) : Prop where
  ok : φ.Ok
  size : gs.size = base + φ.n + 1
  base1 : 1 ≤ base
  parts : Parts φ base γs (D.bufs.map (·.k)) got
  shared : Shared φ base w γs D
  traced : Traced φ base γs RO t D.bufs D.r D.pg
  waiting : Waiting φ base gs γs D.bufs D.sm

inductive PhI (gs : Array Goroutine) (w : World) (t : Trace) (γs : Nat → Gh) (RO : Nat → Option Obj) : Prop
  | lone : γs 0 = .lone → (∀ j, 0 < j → j < gs.size → Old t (γs j) j) → (∀ g, gs[0]? = some g → g.status = .running) → PhI gs w t γs RO
  | opn (φ : Ph) (jn base : Nat) : γs 0 = .opn φ jn → Opn φ jn base gs w t γs → PhI gs w t γs RO
  | fed (φ : Ph) (got : List Nat) (base : Nat) (D : FedD) : γs 0 = .fed φ got → Fed φ got base gs w t γs RO D → PhI gs w t γs RO

def Hp.nil : Hp := { own := fun _ => none, ro := fun _ => none, d := 0 }

structure Inv (P : Program) (Q : Value → Prop) (w₀ : World) (gs : Array Goroutine) (w : World) (t : Trace) (Hs : Nat → Hp) (γs : Nat → Gh) (sh : Nat → Sh) (RO : Nat → Option Obj) : Prop where
  mem : MemI Hs RO (γs 0).sync w
  tr : TI Hs t w.heap.size
  out : ∀ j, gs.size ≤ j → Hs j = Hp.nil ∧ ∀ op ∈ t, op.g ≠ j
  sits : ∀ j g, gs[j]? = some g → Sits P Q j g (sh j) (Hs j) (γs j) w
  os : w.os = w₀.os
  tape : w.tape = w₀.tape
  output : w.output = w₀.output
  keep : ∀ b o, w₀.heap[b]? = some o → RO b = some o
  ph : PhI gs w t γs RO
  pos : 0 < gs.size

/-! ### the trace grows -/
/-- What goroutine i may append without turning anything that is held: it touches neither where they meet nor writes what nobody writes; and what it touches counts for itself alone. -/
structure Idle (i : Nat) (γs : Nat → Gh) (RO : Nat → Option Obj) (Sy : Nat → Prop) (t u : Trace) : Prop where
  g : ∀ op ∈ u, op.g = i
  cov : (γs i).live = true ∨ ∀ op ∈ u, op.act.touch? = none
  sy : ∀ op ∈ u, ∀ x, op.act.touch? = some x → ∀ ad, x.loc = .cell ad → ¬ Sy ad.block
  ro : ∀ op ∈ u, ∀ x, op.act.touch? = some x → x.write = true → ∀ ad, x.loc = .cell ad → RO ad.block = none

section
variable {φ : Ph} {base i : Nat} {γs : Nat → Gh} {RO : Nat → Option Obj} {Sy : Nat → Prop} {t u : Trace} {bufs : List Res} {r pg : Nat}

theorem act?_app {p : Nat} {a : MemAct} (h : t.act? p = some a) : (t ++ u).act? p = some a := by rw [act?_old (lt_of_act? h)]; exact h
theorem heard_app {p : Nat} {a : MemAct} (h : t.act? p = some a) (hh : t.heard p) : (t ++ u).heard p := (heard_old (lt_of_act? h)).2 hh

/-- What is appended leaves j's account. -/
def Leaves (t u : Trace) (j : Nat) : Prop := ∀ q, Cov t j q → Cov (t ++ u) j q

theorem Old.app {γ : Gh} {j : Nat} (h : Old t γ j) (hl : Leaves t u j) : Old (t ++ u) γ j := by
  obtain ⟨h1, q, h2, h3⟩ := h
  exact ⟨h1, q, hl q h2, h3.app u⟩
theorem Rel.app {j : Nat} (h : Rel φ t j) (hl : Leaves t u j) : Rel φ (t ++ u) j := by
  obtain ⟨p, h1, h2, h3⟩ := h
  exact ⟨p, act?_app h1, heard_app h1 h2, hl p h3⟩
theorem KW.app {j : Nat} {γ : Gh} (h : KW φ t pg j γ) (hl : γ.live = false → Leaves t u j) : KW φ (t ++ u) pg j γ := by
  cases γ with
  | wc φ' => exact Knows.app u h
  | wt φ' k => exact ⟨h.1.app u, h.2.app (hl rfl)⟩
  | gone => exact Rel.app h (hl rfl)
  | _ => trivial
theorem closeT_app (h : ∃ p, t.act? p = some (.close φ.td) ∧ t.heard p ∧ Before t pg p) : ∃ p, (t ++ u).act? p = some (.close φ.td) ∧ (t ++ u).heard p ∧ Before (t ++ u) pg p := by
  obtain ⟨p, h1, h2, h3⟩ := h
  exact ⟨p, act?_app h1, heard_app h1 h2, h3.app u⟩
theorem KF.app {γ : Gh} (h : KF φ base t pg γ) (hl : ∀ j, base ≤ j → j < base + φ.n → Leaves t u j ∨ γ ≠ .fw φ .close ∧ (∀ φ', γ ≠ .fw φ' .close) ∧ γ ≠ .gone) (hf : γ = .gone → Leaves t u (base + φ.n)) : KF φ base (t ++ u) pg γ := by
  cases γ with
  | fw φ' s =>
    cases s with
    | close =>
      refine ⟨closeT_app h.1, fun i hi => ?_⟩
      obtain ⟨p, h1, h2⟩ := h.2 i hi
      refine ⟨p, ?_, h2.app u⟩
      rcases hl (base + i) (by omega) (by omega) with h3 | h3
      · exact h3 p h1
      · exact absurd rfl (h3.2.1 φ')
    | _ => exact closeT_app h
  | gone =>
    refine ⟨closeT_app h.1, ?_⟩
    obtain ⟨q, h1, h2, h3⟩ := h.2
    refine ⟨q, act?_app h1, heard_app h1 h2, fun j h4 h5 => ?_⟩
    rcases Nat.lt_or_ge j (base + φ.n) with h6 | h6
    · rcases hl j h4 h6 with h7 | h7
      · exact h7 q (h3 j h4 h5)
      · exact absurd rfl h7.2.2
    · obtain rfl : j = base + φ.n := by omega
      exact hf rfl q (h3 _ h4 h5)
  | fd φ' k => exact trivial
  | _ => exact closeT_app h

theorem Wrote.app {B p : Nat} (h : Wrote t B p) (hu : ∀ op ∈ u, ∀ x, op.act.touch? = some x → x.write = true → ∀ ad, x.loc = .cell ad → ad.block ≠ B) : Wrote (t ++ u) B p := by
  intro i a y ha hw hl hb
  rcases touchAt_cases ha with ⟨_, h0⟩ | ⟨_, op, hop, _, hox⟩
  · exact (h i a y h0 hw hl hb).app u
  · exact absurd hb (hu op hop a hox hw y hl)

/-- THE TRACE GROWS, nobody's place turns. -/
theorem Traced.app (h : Traced φ base γs RO t bufs r pg) (hold : ∀ j, 0 < j → j < base → Leaves t u j) (hwk : ∀ i, i < φ.n → (γs (base + i)).live = false → Leaves t u (base + i))
    (hfd : ∀ φ', (γs (base + φ.n) = .fw φ' .close ∨ γs (base + φ.n) = .gone) → ∀ i, i < φ.n → Leaves t u (base + i)) (hf : γs (base + φ.n) = .gone → Leaves t u (base + φ.n))
    (hsy : ∀ op ∈ u, ∀ x, op.act.touch? = some x → ∀ ad, x.loc = .cell ad → ad.block = φ.wg → x.kind = .atomic ∨ (x.kind = .said ∧ op.g = base + φ.n))
    (hro : ∀ op ∈ u, ∀ x, op.act.touch? = some x → x.write = true → ∀ ad, x.loc = .cell ad → RO ad.block = none) : Traced φ base γs RO (t ++ u) bufs r pg := by
  refine ⟨fun j h1 h2 => (h.old j h1 h2).app (hold j h1 h2), fun i a x ha hx hb => ?_, fun i hi => (h.w i hi).app (hwk i hi), ⟨h.f.1.app u, h.f.2.app (fun j h1 h2 => ?_) hf⟩, fun q x hq => ?_⟩
  · rcases touchAt_cases ha with ⟨hlt, h0⟩ | ⟨hge, op, hop, hg, hox⟩
    · rcases h.wgT i a x h0 hx hb with h1 | h1 | ⟨h1, h2⟩
      · exact .inl (h1.app u)
      · exact .inr (.inl h1)
      · exact .inr (.inr ⟨h1, by rw [g?_old hlt]; exact h2⟩)
    · rcases hsy op hop a hox x hx hb with h1 | ⟨h1, h2⟩
      · exact .inr (.inl h1)
      · exact .inr (.inr ⟨h1, by simp [Trace.g?, hg, h2]⟩)
  · by_cases hc : ∃ φ', γs (base + φ.n) = .fw φ' .close ∨ γs (base + φ.n) = .gone
    · obtain ⟨φ', hc⟩ := hc
      have := hfd φ' hc (j - base) (by omega)
      rw [show base + (j - base) = j by omega] at this
      exact .inl this
    · exact .inr ⟨fun e => hc ⟨φ, .inl e⟩, fun φ' e => hc ⟨φ', .inl e⟩, fun e => hc ⟨φ, .inr e⟩⟩
  · obtain ⟨p, h1, h2, h3⟩ := h.msg q x hq
    refine ⟨p, act?_app h1, heard_app h1 h2, fun B o e => ⟨(h3 B o e).1, (h3 B o e).2.app fun op hop x' hx' hw ad had hB => ?_⟩⟩
    have := hro op hop x' hx' hw ad had
    rw [hB, (h3 B o e).1] at this
    cases this
end
end Go.Sep
