/-
  The closed facts of the row of AttackNumbers. Conditions: none beyond the statement.
-/
import Derived.Test.YtemeabkpllolmaaGreatDoorRows
import Derived.Handed
import Derived.ProofKit
import Derived.JoinedOf
import Derived.RowKit
import Derived.LaidLaws
namespace Go.Proofs.YtemeabkpllolmaaGreatDoor
open Go
set_option maxRecDepth 100000
theorem jc0 : (Rows.attackNumbersRow.wf (OpenSpec.ofChange Rows.attackNumbersSpec)) = true := by kernel_rfl
theorem jc1 : (laidOutB Tryz.prog) = true := by kernel_rfl
theorem jc2 : (mapsRowed Tryz.prog) = true := by kernel_rfl
theorem jc3 : ((Rows.attackNumbersRow.inPlace == Tryz.prog.inPlace 4)) = true := by kernel_rfl
theorem jc4 : ((Rows.attackNumbersRow.unfollowed == Tryz.prog.unfollowed 4)) = true := by kernel_rfl
theorem jc5 : ((Rows.attackNumbersRow.recurses == Tryz.prog.recurses 4)) = true := by kernel_rfl
theorem jc6 : ((Rows.attackNumbersRow.named == Tryz.prog.varsNamed 4)) = true := by kernel_rfl
theorem jc7 : ((Rows.attackNumbersRow.plainKeys == Tryz.prog.plainKeys)) = true := by kernel_rfl
theorem jc8 : (Tryz.prog.stopsHeard) = true := by kernel_rfl
theorem jc9 : (Tryz.prog.mayEnter) = true := by kernel_rfl
theorem jc10 : ((Rows.attackNumbersRow.lifted == Tryz.prog.liftsFinal)) = true := by kernel_rfl
theorem joined : joinedFacts Tryz.prog 4 Tryz.f4 Rows.attackNumbersSpec Rows.attackNumbersRow = true := by
  unfold joinedFacts
  repeat' (with_reducible refine Bool.and_eq_true_iff.2 ⟨?_, ?_⟩)
  all_goals first | (with_reducible first | exact jc0 | exact jc1 | exact jc2 | exact jc3 | exact jc4 | exact jc5 | exact jc6 | exact jc7 | exact jc8 | exact jc9 | exact jc10) | kernel_rfl
theorem isInst : Tryz.f4.isInstance Tryz.prog Rows.attackNumbersRow.origin Rows.attackNumbersRow.targs := (of_decide_eq_true (by kernel_rfl))
theorem isWrap : Tryz.f4.isWrapper Tryz.prog Rows.attackNumbersRow.wrapper Rows.attackNumbersRow.mainSum := by unfold Func.isWrapper; rw [if_neg (of_decide_eq_false (by kernel_rfl))]; exact ⟨rfl, rfl⟩
theorem named4 : Tryz.prog.funcNamed "cleanse/cleanselaw36.AttackNumbers" = some 4 := by kernel_rfl
end Go.Proofs.YtemeabkpllolmaaGreatDoor
