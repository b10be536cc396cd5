/-
  The card of AttackKeys: it returns true for every input and leaves its argument as it was, the listed tables tied to the text. Conditions: none beyond the statement.
-/
import Derived.Test.YtemeabkpllolmaaGreatDoorTie
import Derived.Test.YtemeabkpllolmaaGreatDoorCards
import Derived.SevenTiedAt
import Derived.Test.YtemeabkpllolmaaGreatDoorProof7
namespace Go.Proofs.YtemeabkpllolmaaGreatDoor
open Go
set_option maxRecDepth 100000
/-- The tied card of AttackKeys. -/
theorem attackKeys_holds : Rows.AttackKeysCardSaid :=
  Claim7.holds_tied_plain_at .later [] [.data, .data, .data] true (true, "0b45a6afe819bb738498f8a15879b1620bc08289d63b66b6afac0b93ce30f247") true
    f_holds (fun _ h => by cases h) (by kernel_rfl) (fun _ h => by cases h) attackKeys_row_tie rfl ⟨rfl, rfl⟩ (by kernel_rfl) rfl
    (fun f fn hf hfn => by
      obtain rfl : f = 7 := Option.some.inj (named7.symm.trans hf) |>.symm
      obtain rfl : fn = Tryz.f7 := (Option.some.inj (Tryz.func7.symm.trans hfn)).symm
      exact ⟨by kernel_rfl, fun j t ht => by
        rw [Tryz.params7] at ht
        have h3 : t = 25 := by
          rcases j with _ | j
          · simpa using ht.symm
          · simp at ht
        subst h3
        exact (show Tryz.prog.wantsStandIn 25 = false by kernel_rfl)⟩)
    (by kernel_rfl)
#print axioms attackKeys_holds
end Go.Proofs.YtemeabkpllolmaaGreatDoor
