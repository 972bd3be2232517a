/-
  The group's meetings, as rules for one operation. Conditions: none.
-/
import Derived.Test.YtcomjkbfmklfnaaDoorWk
import Derived.Test.YtcomjkbfmklfnaaDoorWn
import Derived.Conc.TokenWalk
set_option linter.unusedSimpArgs false
set_option linter.unusedVariables false
namespace Go.Sep
open Go.Conc
section
variable {Γ κ : Type} {P : Program} {Y : Proto Γ κ} {main : Bool} {fn : FuncId} {a : Act} {H : Hp} {γ : Γ}
theorem opsL_meet {ops : Array Oper} {o : Oper} {os : List Oper} {K : Act → Hp → Γ → Prop} (kd : κ)
    (hx : ∀ (b : Frame) (i : Nat) (rest : List Nat) (k : List Item) (cs : List Frame), ops[i]? = some o → b.kind ≠ .early → b.fn = fn →
      Y.At kd main (G (b.at a (.inRegion ops (i :: rest) :: k)) cs) H γ ∧ ∀ g' H' γ', Y.Out kd (G (b.at a (.inRegion ops (i :: rest) :: k)) cs) H γ g' H' γ' →
        ∃ v, g' = G (b.at (a.put o.dst v) (.inRegion ops rest :: k)) cs ∧ OpsL P Y main fn ops os K (a.put o.dst v) H' γ') : OpsL P Y main fn ops (o :: os) K a H γ := by
  intro pre hp b k cs hb hk hc
  have ho : ops[pre.length]? = some o := by rw [← Array.getElem?_toList, hp]; simp
  rw [List.length_cons, List.range'_succ]
  obtain ⟨h1, h2⟩ := hx b pre.length (List.range' (pre.length + 1) os.length) k cs ho hk hb
  refine .meet kd h1 fun g' H' γ' hout => ?_
  obtain ⟨v, rfl, hn⟩ := h2 _ _ _ hout
  have := hn (pre ++ [o]) (by rw [hp]; simp)
  rw [List.length_append, List.length_singleton] at this
  exact this b k cs hb hk hc
end
end Go.Sep
namespace Go.Proofs.YtcomjkbfmklfnaaDoor
open Go.Sep Go.Conc
open Go.ConcR (KK wgBlock WgAt stA smA rd wr mk Payload DC0)
open Go.ConcN (RW WgLive Has)
open Go.Conc.Lib Go.ConcR.Gen Go.ConcN.Gen

section
variable {Q : Value → Prop} {φ : Ph} {H : Hp} {fn : FuncId} {ops : Array Oper} {o : Oper} {os : List Oper} {K : Act → Hp → Gh → Prop} {a : Act} {ats : Array TypeId}

theorem opsL_load {b : Nat} {x : Operand} (hw : Region.wanted o (yielded ops a.tmps) = true) (hop : o.op = .call { callee := .value (.func 49), args := #[x], argTypes := ats }) (hx : a.eval x = .pointer (some ⟨φ.wg, 0, none⟩))
    (h : ∀ v : Nat, v ≤ b → v ≤ φ.n → OpsL Tryd.prog (company Tryd.prog Q) false fn ops os K (a.put o.dst (.int .u64 ((v : Int) * KK))) H (.fw φ (if v = 0 then .acq else .cas v))) :
    OpsL Tryd.prog (company Tryd.prog Q) false fn ops (o :: os) K a H (.fw φ (.load b)) := by
  refine opsL_meet .load fun fr i rest k cs ho hk _ => ?_
  have fit : FitLoad Tryd.prog φ H (G (fr.at a (.inRegion ops (i :: rest) :: k)) cs) (fun v => G (fr.at (a.put o.dst (.int .u64 ((v : Int) * KK))) (.inRegion ops rest :: k)) cs) :=
    fun w v _ hwg _ => stepG_load_atomic ho hw hk hop wgLib.f_loadU64 (x_loadU64_n link) (x_loadU64_b link) (x_loadU64_x link) .u64 (x_loadU64_f link) hx hwg.cellSt
  refine ⟨⟨rfl, φ, b, _, rfl, rfl, fun _ => rfl, fit⟩, fun g' H' γ' hout => ?_⟩
  obtain ⟨φ', b', v, e, hH, h1, h2, h3, rfl⟩ := hout
  cases e
  rw [hH]
  exact ⟨_, h3 _ fit, h v h1 h2⟩

theorem opsL_load2 {x : Operand} (hw : Region.wanted o (yielded ops a.tmps) = true) (hop : o.op = .call { callee := .value (.func 49), args := #[x], argTypes := ats }) (hx : a.eval x = .pointer (some ⟨φ.wg, 0, none⟩))
    (h : OpsL Tryd.prog (company Tryd.prog Q) false fn ops os K (a.put o.dst (.int .u64 0)) H (.fw φ .acq)) :
    OpsL Tryd.prog (company Tryd.prog Q) false fn ops (o :: os) K a H (.fw φ .load2) := by
  refine opsL_meet .load2 fun fr i rest k cs ho hk _ => ?_
  have fit : FitLoad2 Tryd.prog φ H (G (fr.at a (.inRegion ops (i :: rest) :: k)) cs) (G (fr.at (a.put o.dst (.int .u64 0)) (.inRegion ops rest :: k)) cs) :=
    fun w _ hwg => stepG_load_atomic ho hw hk hop wgLib.f_loadU64 (x_loadU64_n link) (x_loadU64_b link) (x_loadU64_x link) .u64 (x_loadU64_f link) hx hwg.cellSt
  refine ⟨⟨rfl, φ, _, rfl, rfl, rfl, fit⟩, fun g' H' γ' hout => ?_⟩
  obtain ⟨φ', e, hH, rfl, h3⟩ := hout
  cases e
  rw [hH]
  exact ⟨_, h3 _ fit, h⟩

theorem opsL_cas {v : Nat} {x y z : Operand} (hv : 1 ≤ v) (hw : Region.wanted o (yielded ops a.tmps) = true) (hop : o.op = .call { callee := .value (.func 51), args := #[x, y, z], argTypes := ats }) (hx : a.eval x = .pointer (some ⟨φ.wg, 0, none⟩))
    (hy : a.eval y = .int .u64 ((v : Int) * KK)) (hz : a.eval z = .int .u64 ((v : Int) * KK + 1))
    (h1 : OpsL Tryd.prog (company Tryd.prog Q) false fn ops os K (a.put o.dst (.bool true)) H (.fw φ .say))
    (h0 : OpsL Tryd.prog (company Tryd.prog Q) false fn ops os K (a.put o.dst (.bool false)) H (.fw φ (.load (v - 1)))) :
    OpsL Tryd.prog (company Tryd.prog Q) false fn ops (o :: os) K a H (.fw φ (.cas v)) := by
  refine opsL_meet .cas fun fr i rest k cs ho hk _ => ?_
  have fit : FitCas Tryd.prog φ v H (G (fr.at a (.inRegion ops (i :: rest) :: k)) cs) (G (fr.at (a.put o.dst (.bool true)) (.inRegion ops rest :: k)) cs) (G (fr.at (a.put o.dst (.bool false)) (.inRegion ops rest :: k)) cs) := by
    refine fun w v' _ _ hwg => ⟨fun e => ?_, fun e => ?_⟩
    · subst e
      exact stepG_cas_hit ho hw hk hop wgLib.f_casU64 (x_casU64_n link) (x_casU64_b link) (x_casU64_x link) .u64 (x_casU64_f link) hx hy hz hwg.cellSt (hwg.thaw 0)
    · exact stepG_cas_miss ho hw hk hop wgLib.f_casU64 (x_casU64_n link) (x_casU64_b link) (x_casU64_x link) .u64 (x_casU64_f link) hx hy hz hwg.cellSt (hwg.thaw 0) (by simp only [KK]; omega)
  refine ⟨⟨rfl, φ, v, _, _, rfl, hv, rfl, rfl, rfl, fit⟩, fun g' H' γ' hout => ?_⟩
  obtain ⟨φ', v', e, hH, h3⟩ := hout
  cases e
  rw [hH]
  rcases h3 with ⟨rfl, h3⟩ | ⟨rfl, _, h3⟩
  · exact ⟨_, h3 _ _ fit, h1⟩
  · exact ⟨_, h3 _ _ fit, h0⟩

theorem opsL_say {x : Operand} (hw : Region.wanted o (yielded ops a.tmps) = true) (hop : o.op = .call { callee := .value (.func 39), args := #[x], argTypes := ats }) (hx : a.eval x = .pointer (some ⟨φ.wg, 1, none⟩))
    (h : OpsL Tryd.prog (company Tryd.prog Q) false fn ops os K (a.put o.dst (.tuple #[])) H (.fw φ .sema)) :
    OpsL Tryd.prog (company Tryd.prog Q) false fn ops (o :: os) K a H (.fw φ .say) := by
  refine opsL_meet .say fun fr i rest k cs ho hk _ => ?_
  have fit : FitMark Tryd.prog H (G (fr.at a (.inRegion ops (i :: rest) :: k)) cs) (G (fr.at (a.put o.dst (.tuple #[])) (.inRegion ops rest :: k)) cs) (.write (smA φ.wg)) :=
    fun w _ => stepG_markAt .write (by simp) ho hw hk hop wgLib.f_raceWrite (x_raceWrite_n link) (x_raceWrite_b link) (x_raceWrite_x link) (x_raceWrite_f link) (by simp [hx, smA])
  refine ⟨⟨rfl, φ, _, rfl, rfl, rfl, fit⟩, fun g' H' γ' hout => ?_⟩
  obtain ⟨φ', e, hH, rfl, h3⟩ := hout
  cases e
  rw [hH]
  exact ⟨_, h3 _ fit, h⟩

theorem opsL_acq {x : Operand} (hd : H.d = 0) (hw : Region.wanted o (yielded ops a.tmps) = true) (hop : o.op = .call { callee := .value (.func 36), args := #[x], argTypes := ats }) (hx : a.eval x = .pointer (some ⟨φ.wg, 0, none⟩))
    (h : OpsL Tryd.prog (company Tryd.prog Q) false fn ops os K (a.put o.dst (.tuple #[])) H (.fw φ .close)) :
    OpsL Tryd.prog (company Tryd.prog Q) false fn ops (o :: os) K a H (.fw φ .acq) := by
  refine opsL_meet .acq fun fr i rest k cs ho hk _ => ?_
  have fit : FitMark Tryd.prog H (G (fr.at a (.inRegion ops (i :: rest) :: k)) cs) (G (fr.at (a.put o.dst (.tuple #[])) (.inRegion ops rest :: k)) cs) (.acquire (stA φ.wg)) :=
    fun w _ => stepG_markAt .acquire (by simp) ho hw hk hop wgLib.f_acquire (x_acquire_n link) (x_acquire_b link) (x_acquire_x link) (x_acquire_f link) (by simp [hx, stA])
  refine ⟨⟨rfl, φ, _, rfl, hd, rfl, rfl, fit⟩, fun g' H' γ' hout => ?_⟩
  obtain ⟨φ', e, hH, rfl, h3⟩ := hout
  cases e
  rw [hH]
  exact ⟨_, h3 _ fit, h⟩

theorem opsL_sema {x y : Operand} (hw : Region.wanted o (yielded ops a.tmps) = true) (hop : o.op = .call { callee := .value (.func 40), args := #[x, y], argTypes := ats }) (hx : a.eval x = .pointer (some ⟨φ.wg, 1, none⟩))
    (h : OpsL Tryd.prog (company Tryd.prog Q) false fn ops os K (a.put o.dst (.tuple #[])) H (.fw φ .load2)) :
    OpsL Tryd.prog (company Tryd.prog Q) false fn ops (o :: os) K a H (.fw φ .sema) := by
  refine opsL_meet .sema fun fr i rest k cs ho hk _ => ?_
  have fit : FitSema Tryd.prog φ H (G (fr.at a (.inRegion ops (i :: rest) :: k)) cs) (G (fr.at (a.put o.dst (.tuple #[])) (.inRegion ops rest :: k)) cs) :=
    fun w _ hwg => stepG_semacquire (n := 1) ho hw hk hop wgLib.f_semacquire (x_semacquire_n link) (x_semacquire_b link) (x_semacquire_x link) (x_semacquire_f link) (by simp [hx, smA]) hwg.cellSm (by decide) (hwg.thaw 1)
  refine ⟨⟨rfl, φ, _, rfl, rfl, rfl, rfl, fit, fun w st _ hwg => stepG_semacquire_wait ho hw hop wgLib.f_semacquire (x_semacquire_n link) (x_semacquire_b link) (x_semacquire_x link) (x_semacquire_f link) (by simp [hx, smA]) hwg.cellSm⟩, fun g' H' γ' hout => ?_⟩
  obtain ⟨φ', e, hH, rfl, h3⟩ := hout
  cases e
  rw [hH]
  exact ⟨_, h3 _ fit, h⟩

theorem opsL_calm {s : FW} {src t : TypeId} {x : Operand} {off : Nat} (hw : Region.wanted o (yielded ops a.tmps) = true) (hop : o.op = .convert src 71 x) (hx : a.eval x = .pointer (some ⟨φ.wg, off, none⟩)) (hs : Tryd.prog.underlying src = some (.pointer t))
    (hsz : (Tryd.prog.info? t).map (fun i => decide (i.size = 0)) = some false) (hc : ∀ w, WgLive 51 φ.wg w → ∃ v, w.cell? ⟨φ.wg, off, none⟩ = some v)
    (h : OpsL Tryd.prog (company Tryd.prog Q) false fn ops os K (a.put o.dst (.pointer (some ⟨φ.wg, off, none⟩))) H (.fw φ s)) :
    OpsL Tryd.prog (company Tryd.prog Q) false fn ops (o :: os) K a H (.fw φ s) := by
  have hd : Tryd.prog.underlying 71 = some .unsafePointer := wgLib.underlying_tUP
  refine opsL_meet .calm fun fr i rest k cs ho hk _ => ?_
  have fit : FitCalm Tryd.prog φ H (G (fr.at a (.inRegion ops (i :: rest) :: k)) cs) (G (fr.at (a.put o.dst (.pointer (some ⟨φ.wg, off, none⟩))) (.inRegion ops rest :: k)) cs) := by
    intro w _ l
    obtain ⟨v, hv⟩ := hc w l
    have h1 : (execOp a.eval o).run Tryd.prog w = .ok (.value (.pointer (some ⟨φ.wg, off, none⟩))) w := by
      unfold execOp
      simp [hop, hx, run_convert_to_unsafe hs hd hsz hv]
    have h2 : (execOp a.eval o).events Tryd.prog w #[] = #[] := by
      unfold execOp
      simp [hop, hx, run_convert_to_unsafe hs hd hsz hv, events_convert_to_unsafe hs hd hsz hv]
    rw [stepG_value ho hw hk h1]
    unfold listed
    rw [h2, seen_none]
  refine ⟨⟨rfl, φ, _, .inr ⟨s, rfl⟩, rfl, rfl, fit⟩, fun g' H' γ' hout => ?_⟩
  obtain ⟨hH, rfl, φ', e, h3⟩ := hout
  rcases e with e | ⟨s', e⟩
  · cases e
  · cases e
    rw [hH]
    exact ⟨_, h3 _ fit, h⟩

end

theorem callx24 {H : Hp} (args : Array Value) (K : Next → Hp → Prop) : SemS Tryd.prog (callFunc 24 args) H K = K (.value (.tuple #[])) { H with d := H.d + 1 } := by
  rw [semS_callExtern wgLib.f_disable (x_disable_n link) (x_disable_b link) (by rw [x_disable_x]; rfl) (x_disable_f link)]
  simp [Extern.Race.none_]
theorem callx25 {H : Hp} (args : Array Value) (K : Next → Hp → Prop) : SemS Tryd.prog (callFunc 25 args) H K = K (.value (.tuple #[])) { H with d := H.d - 1 } := by
  rw [semS_callExtern wgLib.f_enable (x_enable_n link) (x_enable_b link) (by rw [x_enable_x]; rfl) (x_enable_f link)]
  simp [Extern.Race.none_]
theorem callx26 {H : Hp} (args : Array Value) (K : Next → Hp → Prop) : SemS Tryd.prog (callFunc 26 args) H K = K (.value (.bool false)) H := by
  rw [semS_callExtern wgLib.f_inBubble (x_inBubble_n link) (x_inBubble_b link) (by rw [x_inBubble_x]; rfl) (x_inBubble_f link)]
  simp
end Go.Proofs.YtcomjkbfmklfnaaDoor
