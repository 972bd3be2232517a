/-
  'foresightkeep.TapeMany' answers true at every input, on every schedule, without a data race, and its arguments read behind the call as before: the tied card of the law. Conditions: none but the row's own (the listed variable 'errors.errorType' holds what the program's text lays; tied here).
-/
import Derived.Test.YtcomjkbfmklfnaaDoorXa
import Derived.Test.YtcomjkbfmklfnaaDoorTie
import Derived.Test.YtcomjkbfmklfnaaDoorCards
import Derived.SevenTiedAt
set_option linter.unusedSimpArgs false
set_option linter.unusedVariables false
namespace Go.Proofs.YtcomjkbfmklfnaaDoor
open Go

theorem tapeMany_new : Claim7.holdsNew Tryd.pinned (.plain (OpenSpec.ofChange Rows.tapeManySpec)) { stood := Rows.tapeManyCard.stood, kinds := [] } :=
  Claim7.new_of_sixth tapeMany_holds (true, "d17575bdec5f98141b9a09b4fd4ca315a3fe5686cf695d772d253a2ab41e57c5") true rfl ⟨rfl, rfl⟩ (by kernel_rfl) (by simp [Claim7.isSixth])
    (fun f fn hf hfn => by
      obtain rfl : f = 3 := Option.some.inj ((show Tryd.prog.funcNamed "foresight/foresightkeep.TapeMany" = some 3 by kernel_rfl).symm.trans hf) |>.symm
      obtain rfl : fn = Tryd.f3 := (Option.some.inj (Tryd.func3.symm.trans hfn)).symm
      exact ⟨by kernel_rfl, fun j t ht => by
        rw [Tryd.params3] at ht
        have h3 : t = 22 ∨ t = 3 := by
          rcases j with _ | _ | _ | _ | j
          · exact .inl (by simpa using ht.symm)
          · exact .inr (by simpa using ht.symm)
          · exact .inr (by simpa using ht.symm)
          · exact .inr (by simpa using ht.symm)
          · simp at ht
        rcases h3 with rfl | rfl
        · exact (show Tryd.prog.wantsStandIn 22 = false by kernel_rfl)
        · exact (show Tryd.prog.wantsStandIn 3 = false by kernel_rfl)⟩)

theorem tapeMany_card_holds : Rows.TapeManyCardSaid :=
  ⟨Claim7.tied_new_at .later [.handle] true tapeMany_new (by kernel_rfl), fun _ h => (by cases h), tapeMany_row_tie, fun h => (by cases h), (by kernel_rfl)⟩
#print axioms tapeMany_card_holds
end Go.Proofs.YtcomjkbfmklfnaaDoor
