/-
  The card of AttackCloses: it returns true for every input and leaves its arguments as they were, the listed tables tied to the text. Conditions: none beyond the statement.
-/
import Derived.Test.YtemeabkpllolmaaGreatDoorTie
import Derived.Test.YtemeabkpllolmaaGreatDoorCards
import Derived.SevenTiedAt
import Derived.Test.YtemeabkpllolmaaGreatDoorProof6
namespace Go.Proofs.YtemeabkpllolmaaGreatDoor
open Go
set_option maxRecDepth 100000
/-- The tied card of AttackCloses. -/
theorem attackCloses_holds : Rows.AttackClosesCardSaid :=
  Claim7.holds_tied_plain_at .later [] [.data, .data, .data] true (true, "0b45a6afe819bb738498f8a15879b1620bc08289d63b66b6afac0b93ce30f247") true
    f_holds (fun _ h => by cases h) (by kernel_rfl) (fun _ h => by cases h) attackCloses_row_tie rfl ⟨rfl, rfl⟩ (by kernel_rfl) rfl
    (fun f fn hf hfn => by
      obtain rfl : f = 6 := Option.some.inj (named6.symm.trans hf) |>.symm
      obtain rfl : fn = Tryz.f6 := (Option.some.inj (Tryz.func6.symm.trans hfn)).symm
      exact ⟨by kernel_rfl, fun j t ht => by
        rw [Tryz.params6] at ht
        have h3 : t = 25 ∨ t = 3 ∨ t = 36 := by
          rcases j with _ | _ | _ | _ | j
          · exact Or.inl (by simpa using ht.symm)
          · exact Or.inr (Or.inl (by simpa using ht.symm))
          · exact Or.inr (Or.inr (by simpa using ht.symm))
          · exact Or.inr (Or.inr (by simpa using ht.symm))
          · simp at ht
        rcases h3 with rfl | rfl | rfl
        · exact (show Tryz.prog.wantsStandIn 25 = false by kernel_rfl)
        · exact (show Tryz.prog.wantsStandIn 3 = false by kernel_rfl)
        · exact (show Tryz.prog.wantsStandIn 36 = false by kernel_rfl)⟩)
    (by kernel_rfl)
#print axioms attackCloses_holds
end Go.Proofs.YtemeabkpllolmaaGreatDoor
