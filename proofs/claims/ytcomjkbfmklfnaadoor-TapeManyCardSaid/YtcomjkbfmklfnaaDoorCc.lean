/-
  The company of one call of Many: workers that take numbers from a channel without a buffer, and send what comes of them over a channel with a buffer of four; a feeder that closes the first, waits for the workers, and closes the second; and the one who takes the results. How they meet. Conditions: none.
-/
import Derived.Test.YtcomjkbfmklfnaaDoorCb
import Derived.Test.YtcomjkbfmklfnaaDoorSepJ
import Derived.Conc.CrowdComm
import Derived.Conc.CrowdSpec
import Derived.Conc.CrowdSit
set_option linter.unusedSimpArgs false
set_option linter.unusedVariables false
namespace Go.Sep
open Go.Conc
open Go.ConcR (KK wgBlock WgAt stA smA rd wr mk Payload DC0)
open Go.ConcN (RW WgLive PayAt Has AtR0 AtK1 AtD1 AtD2 AtD3 AtD4)

instance payload : Payload := ⟨3⟩

/-- What a company is about: its three blocks; how many workers, how many numbers; a block that nobody writes, of one cell; what a closed channel of results hands out; what may be said of a number: a value, and the block that goes with it. -/
structure Ph where
  td : Nat
  dn : Nat
  wg : Nat
  n : Nat
  m : Nat
  pc : Nat
  vC : Value
  zw : Value
  res : Nat → Value → Option (Nat × Obj) → Prop

structure Ph.Ok (φ : Ph) : Prop where
  td_dn : φ.td ≠ φ.dn
  td_wg : φ.td ≠ φ.wg
  dn_wg : φ.dn ≠ φ.wg
  n1 : 1 ≤ φ.n
  n16 : φ.n ≤ 16

/-- Where the feeder stands behind its close: about to look (at most so many are counted); having seen so many; .. -/
inductive FW where
  | load (b : Nat)
  | cas (v : Nat)
  | say | sema | load2 | acq | close

inductive Gh where
  | lone
  | opn (φ : Ph) (j : Nat)
  | fed (φ : Ph) (got : List Nat)
  | wk (φ : Ph) (nx : Nat) (hold : Option Nat)
  | wc (φ : Ph)
  | wt (φ : Ph) (j : Nat)
  | fd (φ : Ph) (k : Nat)
  | fw (φ : Ph) (s : FW)
  | gone

def Gh.live : Gh → Bool
  | .wt _ _ => false
  | .gone => false
  | _ => true

def Gh.sync : Gh → Nat → Prop
  | .opn φ _, b => b = φ.td ∨ b = φ.dn
  | .fed φ _, b => b = φ.td ∨ b = φ.dn ∨ b = φ.wg
  | _, _ => False

/-- A block comes to be known, with what it holds. -/
def Hp.learn (H : Hp) : Option (Nat × Obj) → Hp
  | none => H
  | some (B, o) => { H with ro := fun b => if b = B then some o else H.ro b }

inductive Kd where
  | recvT | sendT | closeT | sendD | closeD | recvD | tail | load | cas | say | sema | load2 | acq | calm

def z0 : Value := .int .i64 0
def numV (k : Nat) : Value := .int .i64 (k : Int)

/-- A step that turns the group's cells as they stand. -/
def closeEv (c : Nat) : Array Event := #[⟨.obj c, false, true⟩, ⟨.obj c, true, true⟩]

section
variable (P : Program)

def AtRecvT (main : Bool) (g : Goroutine) (H : Hp) (γ : Gh) : Prop :=
  main = false ∧ ∃ φ nx, γ = .wk φ nx none ∧ H.d = 0 ∧ g.status = .running ∧ ∀ w, View H w → stepG P false g w = .comm (core g) #[rcase φ.td z0] true (.recv true) w #[]
def OutRecvT (g : Goroutine) (H : Hp) (γ : Gh) (g' : Goroutine) (H' : Hp) (γ' : Gh) : Prop :=
  ∃ φ nx, γ = .wk φ nx none ∧ H' = H ∧ ((∃ k, nx ≤ k ∧ k < φ.m ∧ g' = Conc.served (core g) (.tuple #[numV k, .bool true]) ∧ γ' = .wk φ (k + 1) (some k)) ∨ (g' = Conc.served (core g) (.tuple #[z0, .bool false]) ∧ γ' = .wc φ))
def AtSendT (main : Bool) (g : Goroutine) (H : Hp) (γ : Gh) : Prop :=
  main = false ∧ ∃ φ k z, γ = .fd φ k ∧ k < φ.m ∧ H.d = 0 ∧ g.status = .running ∧ ∀ w, View H w → stepG P false g w = .comm (core g) #[scase φ.td (numV k) z] true .send w #[]
def OutSendT (g : Goroutine) (H : Hp) (γ : Gh) (g' : Goroutine) (H' : Hp) (γ' : Gh) : Prop :=
  ∃ φ k, γ = .fd φ k ∧ H' = H ∧ g' = Conc.served (core g) undef ∧ γ' = .fd φ (k + 1)
def AtCloseT (main : Bool) (g : Goroutine) (H : Hp) (γ : Gh) : Prop :=
  main = false ∧ ∃ φ g₁, γ = .fd φ φ.m ∧ H.d = 0 ∧ g.status = .running ∧ mayWake P g = true ∧ g₁.status = .running ∧
    ∀ w s r tm, View H w → w.heap[φ.td]? = some (.chan 0 #[] false s r tm) → stepG P false g w = .go g₁ (w.setChan φ.td 0 #[] true s r tm) (closeEv φ.td)
def OutCloseT (g : Goroutine) (H : Hp) (γ : Gh) (g' : Goroutine) (H' : Hp) (γ' : Gh) : Prop :=
  ∃ φ, γ = .fd φ φ.m ∧ H' = H ∧ γ' = .fw φ (.load φ.n) ∧
    ∀ g₁, (∀ w s r tm, View H w → w.heap[φ.td]? = some (.chan 0 #[] false s r tm) → stepG P false g w = .go g₁ (w.setChan φ.td 0 #[] true s r tm) (closeEv φ.td)) → g' = g₁
def AtSendD (main : Bool) (g : Goroutine) (H : Hp) (γ : Gh) : Prop :=
  main = false ∧ ∃ φ nx k v car z, γ = .wk φ nx (some k) ∧ H.d = 0 ∧ φ.res k v car ∧ (∀ B o, car = some (B, o) → H.ro B = some o) ∧ g.status = .running ∧
    ∀ w, View H w → stepG P false g w = .comm (core g) #[scase φ.dn v z] true .send w #[]
def OutSendD (g : Goroutine) (H : Hp) (γ : Gh) (g' : Goroutine) (H' : Hp) (γ' : Gh) : Prop :=
  ∃ φ nx k, γ = .wk φ nx (some k) ∧ H' = H ∧ g' = Conc.served (core g) undef ∧ γ' = .wk φ nx none
def AtCloseD (main : Bool) (g : Goroutine) (H : Hp) (γ : Gh) : Prop :=
  main = false ∧ ∃ φ g₁ n, γ = .fw φ .close ∧ H.d = 0 ∧ g.status = .running ∧ mayWake P g = true ∧ QuitsD P n 0 g₁ ∧
    ∀ w buf s r tm, View H w → w.heap[φ.dn]? = some (.chan 4 buf false s r tm) → stepG P false g w = .go g₁ (w.setChan φ.dn 4 buf true s r tm) (closeEv φ.dn)
def AtRecvD (main : Bool) (g : Goroutine) (H : Hp) (γ : Gh) : Prop :=
  main = true ∧ ∃ φ got, γ = .fed φ got ∧ H.d = 0 ∧ g.status = .running ∧ ∀ w, View H w → stepG P true g w = .comm (core g) #[rcase φ.dn φ.zw] true (.recv true) w #[]
def OutRecvD (g : Goroutine) (H : Hp) (γ : Gh) (g' : Goroutine) (H' : Hp) (γ' : Gh) : Prop :=
  ∃ φ got, γ = .fed φ got ∧ ((∃ k v car, k < φ.m ∧ k ∉ got ∧ (∀ x ∈ got, x < φ.m) ∧ got.Nodup ∧ φ.res k v car ∧ (∀ B o, car = some (B, o) → H.own B = none ∧ ∀ o', H.ro B = some o' → o' = o) ∧ H' = H.learn car ∧ g' = Conc.served (core g) (.tuple #[v, .bool true]) ∧ γ' = .fed φ (k :: got)) ∨
    ((∀ k, k < φ.m → k ∈ got) ∧ H' = H ∧ g' = Conc.served (core g) (.tuple #[φ.zw, .bool false]) ∧ γ' = .lone))

/-- The worker's end: 'defer all.Done()', from its release on: by the kit's own walk. -/
def AtTail (main : Bool) (g : Goroutine) (H : Hp) (γ : Gh) : Prop :=
  main = false ∧ ∃ φ, γ = .wc φ ∧ H.d = 0 ∧ H.ro φ.pc = some (.cells #[φ.vC] 3) ∧ g.status = .running ∧ ∀ w, View H w → WgLive 51 φ.wg w → AtR0 P 51 φ.wg φ.pc 1 0 1 φ.vC g w

def FitLoad (φ : Ph) (H : Hp) (g : Goroutine) (F : Nat → Goroutine) : Prop := ∀ (w : World) (v : Nat), View H w → WgAt 51 φ.wg w ((v : Int) * KK) 0 → v ≤ φ.n → stepG P false g w = .go (F v) w #[rd (stA φ.wg)]
def AtLoad (main : Bool) (g : Goroutine) (H : Hp) (γ : Gh) : Prop :=
  main = false ∧ ∃ φ b F, γ = .fw φ (.load b) ∧ g.status = .running ∧ (∀ v, (F v).status = .running) ∧ FitLoad P φ H g F
def OutLoad (g : Goroutine) (H : Hp) (γ : Gh) (g' : Goroutine) (H' : Hp) (γ' : Gh) : Prop :=
  ∃ φ b v, γ = .fw φ (.load b) ∧ H' = H ∧ v ≤ b ∧ v ≤ φ.n ∧ (∀ F, FitLoad P φ H g F → g' = F v) ∧ γ' = .fw φ (if v = 0 then .acq else .cas v)

def FitCas (φ : Ph) (v : Nat) (H : Hp) (g F₁ F₀ : Goroutine) : Prop := ∀ (w : World) (v' : Nat), View H w → v' ≤ φ.n → WgAt 51 φ.wg w ((v' : Int) * KK) 0 →
    (v' = v → stepG P false g w = .go F₁ (w.setCell (stA φ.wg) (.int .u64 ((v' : Int) * KK + 1))) #[rd (stA φ.wg), wr (stA φ.wg)]) ∧ (v' ≠ v → stepG P false g w = .go F₀ w #[rd (stA φ.wg)])
def AtCas (main : Bool) (g : Goroutine) (H : Hp) (γ : Gh) : Prop :=
  main = false ∧ ∃ φ v F₁ F₀, γ = .fw φ (.cas v) ∧ 1 ≤ v ∧ g.status = .running ∧ F₁.status = .running ∧ F₀.status = .running ∧ FitCas P φ v H g F₁ F₀
def OutCas (g : Goroutine) (H : Hp) (γ : Gh) (g' : Goroutine) (H' : Hp) (γ' : Gh) : Prop :=
  ∃ φ v, γ = .fw φ (.cas v) ∧ H' = H ∧ ((γ' = .fw φ .say ∧ ∀ F₁ F₀, FitCas P φ v H g F₁ F₀ → g' = F₁) ∨ (γ' = .fw φ (.load (v - 1)) ∧ 1 ≤ v ∧ ∀ F₁ F₀, FitCas P φ v H g F₁ F₀ → g' = F₀))

def FitMark (H : Hp) (g g₁ : Goroutine) (m : Mark) : Prop := ∀ w, View H w → stepG P false g w = .go g₁ w #[mk m]
def AtSay (main : Bool) (g : Goroutine) (H : Hp) (γ : Gh) : Prop :=
  main = false ∧ ∃ φ g₁, γ = .fw φ .say ∧ g.status = .running ∧ g₁.status = .running ∧ FitMark P H g g₁ (.write (smA φ.wg))
def OutSay (g : Goroutine) (H : Hp) (γ : Gh) (g' : Goroutine) (H' : Hp) (γ' : Gh) : Prop :=
  ∃ φ, γ = .fw φ .say ∧ H' = H ∧ γ' = .fw φ .sema ∧ ∀ g₁, FitMark P H g g₁ (.write (smA φ.wg)) → g' = g₁
def FitSema (φ : Ph) (H : Hp) (g g₁ : Goroutine) : Prop := ∀ w, View H w → WgAt 51 φ.wg w 0 1 → stepG P false g w = .go g₁ (w.setCell (smA φ.wg) (.int .u32 0)) (semEvents (smA φ.wg))
def AtSema (main : Bool) (g : Goroutine) (H : Hp) (γ : Gh) : Prop :=
  main = false ∧ ∃ φ g₁, γ = .fw φ .sema ∧ g.status = .running ∧ g.offers = none ∧ g₁.status = .running ∧ FitSema P φ H g g₁ ∧
    ∀ w st, View H w → WgAt 51 φ.wg w st 0 → stepG P false g w = .go { g with status := .blocked } w #[]
def OutSema (g : Goroutine) (H : Hp) (γ : Gh) (g' : Goroutine) (H' : Hp) (γ' : Gh) : Prop :=
  ∃ φ, γ = .fw φ .sema ∧ H' = H ∧ γ' = .fw φ .load2 ∧ ∀ g₁, FitSema P φ H g g₁ → g' = g₁
def FitLoad2 (φ : Ph) (H : Hp) (g g₁ : Goroutine) : Prop := ∀ w, View H w → WgAt 51 φ.wg w 0 0 → stepG P false g w = .go g₁ w #[rd (stA φ.wg)]
def AtLoad2 (main : Bool) (g : Goroutine) (H : Hp) (γ : Gh) : Prop :=
  main = false ∧ ∃ φ g₁, γ = .fw φ .load2 ∧ g.status = .running ∧ g₁.status = .running ∧ FitLoad2 P φ H g g₁
def OutLoad2 (g : Goroutine) (H : Hp) (γ : Gh) (g' : Goroutine) (H' : Hp) (γ' : Gh) : Prop :=
  ∃ φ, γ = .fw φ .load2 ∧ H' = H ∧ γ' = .fw φ .acq ∧ ∀ g₁, FitLoad2 P φ H g g₁ → g' = g₁
def AtAcq (main : Bool) (g : Goroutine) (H : Hp) (γ : Gh) : Prop :=
  main = false ∧ ∃ φ g₁, γ = .fw φ .acq ∧ H.d = 0 ∧ g.status = .running ∧ g₁.status = .running ∧ FitMark P H g g₁ (.acquire (stA φ.wg))
def OutAcq (g : Goroutine) (H : Hp) (γ : Gh) (g' : Goroutine) (H' : Hp) (γ' : Gh) : Prop :=
  ∃ φ, γ = .fw φ .acq ∧ H' = H ∧ γ' = .fw φ .close ∧ ∀ g₁, FitMark P H g g₁ (.acquire (stA φ.wg)) → g' = g₁

/-- A step that asks only that the group is there. -/
def FitCalm (φ : Ph) (H : Hp) (g g₁ : Goroutine) : Prop := ∀ w, View H w → WgLive 51 φ.wg w → stepG P false g w = .go g₁ w #[]
def AtCalm (main : Bool) (g : Goroutine) (H : Hp) (γ : Gh) : Prop :=
  main = false ∧ ∃ φ g₁, (γ = .wc φ ∨ ∃ s, γ = .fw φ s) ∧ g.status = .running ∧ g₁.status = .running ∧ FitCalm P φ H g g₁
def OutCalm (g : Goroutine) (H : Hp) (γ : Gh) (g' : Goroutine) (H' : Hp) (γ' : Gh) : Prop :=
  H' = H ∧ γ' = γ ∧ ∃ φ, (γ = .wc φ ∨ ∃ s, γ = .fw φ s) ∧ ∀ g₁, FitCalm P φ H g g₁ → g' = g₁

def Hp.drop2 (H : Hp) (a b : Nat) : Hp := { H with own := fun x => if x = a ∨ x = b then none else H.own x }
def Hp.drop1 (H : Hp) (a : Nat) : Hp := { H with own := fun x => if x = a then none else H.own x }
def Hp.kid (H : Hp) : Hp := { own := fun _ => none, ro := H.ro, d := 0 }

/-- The company. 'Q': what is asked of the value that comes back. -/
def company (Q : Value → Prop) : Proto Gh Kd where
  At := fun
    | .recvT => AtRecvT P | .sendT => AtSendT P | .closeT => AtCloseT P | .sendD => AtSendD P | .closeD => AtCloseD P | .recvD => AtRecvD P | .tail => AtTail P
    | .load => AtLoad P | .cas => AtCas P | .say => AtSay P | .sema => AtSema P | .load2 => AtLoad2 P | .acq => AtAcq P | .calm => AtCalm P
  Out := fun
    | .recvT => OutRecvT | .sendT => OutSendT | .closeT => OutCloseT P | .sendD => OutSendD | .closeD => fun _ _ _ _ _ _ => False | .recvD => OutRecvD | .tail => fun _ _ _ _ _ _ => False
    | .load => OutLoad P | .cas => OutCas P | .say => OutSay P | .sema => OutSema P | .load2 => OutLoad2 P | .acq => OutAcq P | .calm => OutCalm P
  Sp := fun H γ H' γ' Hc γc => H.d = 0 ∧ Hc = H.kid ∧
    ((∃ φ j, γ = .opn φ j ∧ j < φ.n ∧ H' = H ∧ γ' = .opn φ (j + 1) ∧ γc = .wk φ 0 none) ∨
     (∃ φ, γ = .opn φ φ.n ∧ H.own φ.wg = some (wgBlock 51 ((φ.n : Int) * KK) 0) ∧ H' = H.drop1 φ.wg ∧ γ' = .fed φ [] ∧ γc = .fd φ 0))
  Gs := fun H γ H' γ' => (γ' = γ ∧ ∃ b o, H.own b = some o ∧ H' = H.share b) ∨
    (∃ φ t₁ t₂, γ = .lone ∧ γ' = .opn φ 0 ∧ φ.Ok ∧ H.own φ.td = some (.chan 0 #[] false 0 0 t₁) ∧ H.own φ.dn = some (.chan 4 #[] false 0 0 t₂) ∧ H' = H.drop2 φ.td φ.dn)
  Gone := fun _ => False
  Fin := fun v H γ => γ = .lone ∧ Q v

theorem company_pub (Q : Value → Prop) : Pub (company P Q) := fun _ _ b o h => .inl ⟨rfl, b, o, h, rfl⟩

/-! ### where a goroutine stands -/

/-- The two are at the same place. -/
def SameG (g h : Goroutine) : Prop := g.frame = h.frame ∧ g.callers = h.callers ∧ g.dying = h.dying
theorem SameG.step {P : Program} {g h : Goroutine} (e : SameG g h) (main : Bool) (w : World) : stepG P main g w = stepG P main h w := stepG_same e.1 e.2.1 e.2.2 w
theorem SameG.wake {P : Program} {g h : Goroutine} (e : SameG g h) : mayWake P g = mayWake P h := by unfold mayWake; rw [e.1]
theorem SameG.refl (g : Goroutine) : SameG g g := ⟨rfl, rfl, rfl⟩

/-- The last stops of a worker: 0: ahead of 'disable'; 1: of the atomic add; 2, 3, 4: the last one, which wakes the feeder. -/
def Tail (φ : Ph) : Nat → Nat → Goroutine → World → Prop
  | 0, m, g, w => Goes P false (RW 51 φ.wg φ.pc 1 0 (1 - 1)) DC0 (AtK1 P 51 φ.wg φ.pc 1 0 1) m g w
  | 1, m, g, w => Goes P false (RW 51 φ.wg φ.pc 1 0 (1 - 1)) DC0 (AtD1 P 51 φ.wg φ.pc 1 0 1) m g w
  | 2, m, g, w => Goes P false (RW 51 φ.wg φ.pc 1 0 (1 - 1)) DC0 (AtD2 P 51 φ.wg φ.pc 1 0 1) m g w
  | 3, m, g, w => Goes P false (RW 51 φ.wg φ.pc 1 0 (1 - 1)) DC0 (AtD3 P 51 φ.wg φ.pc 1 0 1) m g w
  | 4, m, g, w => Goes P false (RW 51 φ.wg φ.pc 1 0 (1 - 1)) DC0 (AtD4 P 51 φ.wg) m g w
  | _, _, _, _ => False

variable {P} in
theorem Tail.running {φ : Ph} {j m : Nat} {g : Goroutine} {w : World} (h : Tail P φ j m g w) : g.status = .running := by
  match j, h with
  | 0, h => exact Goes.running (fun _ _ x => x.1) w (ConcN.RW.refl w) h
  | 1, h => exact Goes.running (fun _ _ x => x.1) w (ConcN.RW.refl w) h
  | 2, h => exact Goes.running (fun _ _ x => x.1) w (ConcN.RW.refl w) h
  | 3, h => exact Goes.running (fun _ _ x => x.1) w (ConcN.RW.refl w) h
  | 4, h => exact Goes.running (fun _ _ x => x.1) w (ConcN.RW.refl w) h
  | _ + 5, h => exact h.elim
variable {P} in
theorem Tail.rely {φ : Ph} {j m : Nat} {g : Goroutine} {w w₁ : World} (h : Tail P φ j m g w) (r : RW 51 φ.wg φ.pc 1 0 (1 - 1) w w₁) : Tail P φ j m g w₁ := by
  match j, h with
  | 0, h => exact Goes.rely (R := RW 51 φ.wg φ.pc 1 0 (1 - 1)) (fun _ _ _ a b => ConcN.RW.trans a b) h r
  | 1, h => exact Goes.rely (R := RW 51 φ.wg φ.pc 1 0 (1 - 1)) (fun _ _ _ a b => ConcN.RW.trans a b) h r
  | 2, h => exact Goes.rely (R := RW 51 φ.wg φ.pc 1 0 (1 - 1)) (fun _ _ _ a b => ConcN.RW.trans a b) h r
  | 3, h => exact Goes.rely (R := RW 51 φ.wg φ.pc 1 0 (1 - 1)) (fun _ _ _ a b => ConcN.RW.trans a b) h r
  | 4, h => exact Goes.rely (R := RW 51 φ.wg φ.pc 1 0 (1 - 1)) (fun _ _ _ a b => ConcN.RW.trans a b) h r
  | _ + 5, h => exact h.elim

section
variable (Q : Value → Prop)

/-- At a meeting, all ways on known. -/
structure Meets (main : Bool) (k : Kd) (s : Sh) (g : Goroutine) (H : Hp) (γ : Gh) : Prop where
  at_ : (company P Q).At k main g H γ
  live : γ.live = true
  tail : ∀ m, Sh.Lt (Sh.above m (Sh.stop 5)) s ∧ Sh.Lt (Sh.chain m) s
  out : ∀ g' H' γ', (company P Q).Out k g H γ g' H' γ' → ∃ s', Sh.Lt s' s ∧ TreeS P (company P Q) main s' g' H' γ'
  tree : TreeS P (company P Q) main s g H γ

inductive Sits (i : Nat) (g : Goroutine) (s : Sh) (H : Hp) (γ : Gh) (w : World) : Prop
  | run (g₀ : Goroutine) : SameG g g₀ → g.status = .running → γ.live = true → TreeS P (company P Q) (i == 0) s g₀ H γ → Sits i g s H γ w
  | recvD (g₀ : Goroutine) (φ : Ph) (got : List Nat) : γ = .fed φ got → Meets P Q (i == 0) .recvD s g₀ H γ → g = parked (core g₀) #[rcase φ.dn φ.zw] (.recv true) → Sits i g s H γ w
  | recvT (g₀ : Goroutine) (φ : Ph) (nx : Nat) : γ = .wk φ nx none → Meets P Q (i == 0) .recvT s g₀ H γ → g = parked (core g₀) #[rcase φ.td z0] (.recv true) → Sits i g s H γ w
  | sendT (g₀ : Goroutine) (φ : Ph) (k : Nat) (z : Value) : γ = .fd φ k → k < φ.m → Meets P Q (i == 0) .sendT s g₀ H γ → g = parked (core g₀) #[scase φ.td (numV k) z] .send → Sits i g s H γ w
  | sendD (g₀ : Goroutine) (φ : Ph) (nx k : Nat) (v : Value) (car : Option (Nat × Obj)) (z : Value) : γ = .wk φ nx (some k) → φ.res k v car → (∀ B o, car = some (B, o) → H.ro B = some o) → Meets P Q (i == 0) .sendD s g₀ H γ →
      g = parked (core g₀) #[scase φ.dn v z] .send → Sits i g s H γ w
  | sema (g₀ : Goroutine) (φ : Ph) : γ = .fw φ .sema → Meets P Q (i == 0) .sema s g₀ H γ → SameG g g₀ → g.status = .blocked → g.offers = none → Sits i g s H γ w
  | tail (φ : Ph) (j m : Nat) : i ≠ 0 → γ = .wt φ j → Tail P φ j m g w → H.ro φ.pc = some (.cells #[φ.vC] 3) → s = Sh.above m (Sh.stop (5 - j)) → H.d = (if j = 0 then 0 else 1) → Sits i g s H γ w
  | quit (n : Nat) : i ≠ 0 → γ = .gone → QuitsD P n H.d g → s = Sh.chain n → Sits i g s H γ w
end
end

section
variable {P : Program} {Q : Value → Prop} {i : Nat} {g : Goroutine} {s : Sh} {H : Hp} {γ : Gh} {w : World}

theorem Sits.status (h : Sits P Q i g s H γ w) : g.status = .running ∨ g.status = .blocked ∨ g.status = .finished := by
  cases h with
  | run _ _ h _ _ => exact .inl h
  | recvD _ _ _ _ _ h => subst h; exact .inr (.inl rfl)
  | recvT _ _ _ _ _ h => subst h; exact .inr (.inl rfl)
  | sendT _ _ _ _ _ _ _ h => subst h; exact .inr (.inl rfl)
  | sendD _ _ _ _ _ _ _ _ _ _ _ h => subst h; exact .inr (.inl rfl)
  | sema _ _ _ _ _ h _ => exact .inr (.inl h)
  | tail _ _ _ _ _ h => exact .inl h.running
  | quit _ _ _ h => exact h.status.elim .inl fun x => .inr (.inr x)

theorem Sits.awake (h : Sits P Q i g s H γ w) : awake g := by
  intro t
  rcases h.status with h | h | h <;> rw [h] <;> simp

/-- The others have turned the world. -/
theorem Sits.world {w' : World} (h : Sits P Q i g s H γ w) (hr : ∀ φ j, γ = .wt φ j → H.ro φ.pc = some (.cells #[φ.vC] 3) → RW 51 φ.wg φ.pc 1 0 (1 - 1) w w') : Sits P Q i g s H γ w' := by
  cases h with
  | run g₀ a b c d => exact .run g₀ a b c d
  | recvD g₀ φ got a b c => exact .recvD g₀ φ got a b c
  | recvT g₀ φ nx a b c => exact .recvT g₀ φ nx a b c
  | sendT g₀ φ k z a b c d => exact .sendT g₀ φ k z a b c d
  | sendD g₀ φ nx k v car z a b c d e => exact .sendD g₀ φ nx k v car z a b c d e
  | sema g₀ φ a b c d e => exact .sema g₀ φ a b c d e
  | tail φ j m a b c d e f => exact .tail φ j m a b (c.rely (hr φ j b d)) d e f
  | quit n a b c d => exact .quit n a b c d

theorem parked_same (g : Goroutine) (cs : Array CommCase) (sh : CommShape) : SameG (parked (core g) cs sh) g := ⟨rfl, rfl, rfl⟩

/-- Somebody lets it try again. -/
theorem Sits.again {w' : World} (h : Sits P Q i g s H γ w) : Sits P Q i (g.again w') s H γ w := by
  have key : ∀ (k : Kd) (g₀ : Goroutine) (cs : Array CommCase) (sh : CommShape), Meets P Q (i == 0) k s g₀ H γ → Sits P Q i (parked (core g₀) cs sh) s H γ w → Sits P Q i ((parked (core g₀) cs sh).again w') s H γ w := by
    intro k g₀ cs sh hm hs
    unfold Goroutine.again
    simp only [parked]
    split
    · exact .run g₀ ⟨rfl, rfl, rfl⟩ rfl hm.live hm.tree
    · exact hs
  have h' := h
  cases h with
  | run g₀ a b c d => rw [again_running _ (.inl b)]; exact h'
  | recvD g₀ φ got a b c => subst c; exact key _ _ _ _ b h'
  | recvT g₀ φ nx a b c => subst c; exact key _ _ _ _ b h'
  | sendT g₀ φ k z a b c d => subst d; exact key _ _ _ _ c h'
  | sendD g₀ φ nx k v car z a b c d e => subst e; exact key _ _ _ _ d h'
  | sema g₀ φ a b c d e =>
    unfold Goroutine.again
    simp only [d, e]
    exact .run g₀ ⟨c.1, c.2.1, c.2.2⟩ rfl b.live b.tree
  | tail φ j m a b c d e f => rw [again_running _ (.inl c.running)]; exact h'
  | quit n a b c d => rw [again_running _ c.status]; exact h'

theorem Sits.woken {w' w₂ : World} {g₁ g₂ : Goroutine} (h : Sits P Q i g s H γ w) : Sits P Q i (woken P g₁ g₂ w' g) s H γ w := by
  unfold Go.Conc.woken
  split
  · exact h.again
  · exact h

theorem again_blocked {g : Goroutine} {w : World} (h : (g.again w).status = .blocked) : g.status = .blocked := by
  cases hs : g.status with
  | blocked => rfl
  | running => rw [again_running _ (.inl hs), hs] at h; cases h
  | finished => rw [again_running _ (.inr hs), hs] at h; cases h
  | waiting => simp [Goroutine.again, hs] at h
  | sleeping t => simp [Goroutine.again, hs] at h
  | parked => simp [Goroutine.again, hs] at h
end
end Go.Sep
