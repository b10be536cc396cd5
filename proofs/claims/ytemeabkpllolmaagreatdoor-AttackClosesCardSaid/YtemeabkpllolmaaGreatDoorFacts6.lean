/-
  The closed facts of the row of AttackCloses. Conditions: none beyond the statement.
-/
import Derived.Test.YtemeabkpllolmaaGreatDoorRows
import Derived.Handed
import Derived.ProofKit
import Derived.JoinedOf
import Derived.RowKit
import Derived.LaidLaws
namespace Go.Proofs.YtemeabkpllolmaaGreatDoor
open Go
set_option maxRecDepth 100000
theorem jc0 : (Rows.attackClosesRow.wf (OpenSpec.ofChange Rows.attackClosesSpec)) = true := by kernel_rfl
theorem jc1 : (laidOutB Tryz.prog) = true := by kernel_rfl
theorem jc2 : (mapsRowed Tryz.prog) = true := by kernel_rfl
theorem jc3 : ((Rows.attackClosesRow.inPlace == Tryz.prog.inPlace 6)) = true := by kernel_rfl
theorem jc4 : ((Rows.attackClosesRow.unfollowed == Tryz.prog.unfollowed 6)) = true := by kernel_rfl
theorem jc5 : ((Rows.attackClosesRow.recurses == Tryz.prog.recurses 6)) = true := by kernel_rfl
theorem jc6 : ((Rows.attackClosesRow.named == Tryz.prog.varsNamed 6)) = true := by kernel_rfl
theorem jc7 : ((Rows.attackClosesRow.plainKeys == Tryz.prog.plainKeys)) = true := by kernel_rfl
theorem jc8 : (Tryz.prog.stopsHeard) = true := by kernel_rfl
theorem jc9 : (Tryz.prog.mayEnter) = true := by kernel_rfl
theorem jc10 : ((Rows.attackClosesRow.lifted == Tryz.prog.liftsFinal)) = true := by kernel_rfl
theorem joined : joinedFacts Tryz.prog 6 Tryz.f6 Rows.attackClosesSpec Rows.attackClosesRow = true := by
  unfold joinedFacts
  repeat' (with_reducible refine Bool.and_eq_true_iff.2 ⟨?_, ?_⟩)
  all_goals first | (with_reducible first | exact jc0 | exact jc1 | exact jc2 | exact jc3 | exact jc4 | exact jc5 | exact jc6 | exact jc7 | exact jc8 | exact jc9 | exact jc10) | kernel_rfl
theorem isInst : Tryz.f6.isInstance Tryz.prog Rows.attackClosesRow.origin Rows.attackClosesRow.targs := (of_decide_eq_true (by kernel_rfl))
theorem isWrap : Tryz.f6.isWrapper Tryz.prog Rows.attackClosesRow.wrapper Rows.attackClosesRow.mainSum := by unfold Func.isWrapper; rw [if_neg (of_decide_eq_false (by kernel_rfl))]; exact ⟨rfl, rfl⟩
theorem named6 : Tryz.prog.funcNamed "cleanse/cleanselaw36.AttackCloses" = some 6 := by kernel_rfl
end Go.Proofs.YtemeabkpllolmaaGreatDoor
