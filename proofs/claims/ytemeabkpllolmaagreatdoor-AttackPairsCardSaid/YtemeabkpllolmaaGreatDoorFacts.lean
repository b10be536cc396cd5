/-
  The closed facts of the row of AttackPairs. Conditions: none beyond the statement.
-/
import Derived.Test.YtemeabkpllolmaaGreatDoorRows
import Derived.Handed
import Derived.ProofKit
import Derived.JoinedOf
import Derived.RowKit
import Derived.LaidLaws
namespace Go.Proofs.YtemeabkpllolmaaGreatDoor
open Go
set_option maxRecDepth 100000
theorem jc0 : (Rows.attackPairsRow.wf (OpenSpec.ofChange Rows.attackPairsSpec)) = true := by kernel_rfl
theorem jc1 : (laidOutB Tryz.prog) = true := by kernel_rfl
theorem jc2 : (mapsRowed Tryz.prog) = true := by kernel_rfl
theorem jc3 : ((Rows.attackPairsRow.inPlace == Tryz.prog.inPlace 3)) = true := by kernel_rfl
theorem jc4 : ((Rows.attackPairsRow.unfollowed == Tryz.prog.unfollowed 3)) = true := by kernel_rfl
theorem jc5 : ((Rows.attackPairsRow.recurses == Tryz.prog.recurses 3)) = true := by kernel_rfl
theorem jc6 : ((Rows.attackPairsRow.named == Tryz.prog.varsNamed 3)) = true := by kernel_rfl
theorem jc7 : ((Rows.attackPairsRow.plainKeys == Tryz.prog.plainKeys)) = true := by kernel_rfl
theorem jc8 : (Tryz.prog.stopsHeard) = true := by kernel_rfl
theorem jc9 : (Tryz.prog.mayEnter) = true := by kernel_rfl
theorem jc10 : ((Rows.attackPairsRow.lifted == Tryz.prog.liftsFinal)) = true := by kernel_rfl
theorem joined : joinedFacts Tryz.prog 3 Tryz.f3 Rows.attackPairsSpec Rows.attackPairsRow = true := by
  unfold joinedFacts
  repeat' (with_reducible refine Bool.and_eq_true_iff.2 ⟨?_, ?_⟩)
  all_goals first | (with_reducible first | exact jc0 | exact jc1 | exact jc2 | exact jc3 | exact jc4 | exact jc5 | exact jc6 | exact jc7 | exact jc8 | exact jc9 | exact jc10) | kernel_rfl
theorem isInst : Tryz.f3.isInstance Tryz.prog Rows.attackPairsRow.origin Rows.attackPairsRow.targs := (of_decide_eq_true (by kernel_rfl))
theorem isWrap : Tryz.f3.isWrapper Tryz.prog Rows.attackPairsRow.wrapper Rows.attackPairsRow.mainSum := by unfold Func.isWrapper; rw [if_neg (of_decide_eq_false (by kernel_rfl))]; exact ⟨rfl, rfl⟩
theorem named3 : Tryz.prog.funcNamed "cleanse/cleanselaw36.AttackPairs" = some 3 := by kernel_rfl
end Go.Proofs.YtemeabkpllolmaaGreatDoor
