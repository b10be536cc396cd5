/-
  The closed facts of the row of AttackKeys. Conditions: none beyond the statement.
-/
import Derived.Test.YtemeabkpllolmaaGreatDoorRows
import Derived.Handed
import Derived.ProofKit
import Derived.JoinedOf
import Derived.RowKit
import Derived.LaidLaws
namespace Go.Proofs.YtemeabkpllolmaaGreatDoor
open Go
set_option maxRecDepth 100000
theorem jc0 : (Rows.attackKeysRow.wf (OpenSpec.ofChange Rows.attackKeysSpec)) = true := by kernel_rfl
theorem jc1 : (laidOutB Tryz.prog) = true := by kernel_rfl
theorem jc2 : (mapsRowed Tryz.prog) = true := by kernel_rfl
theorem jc3 : ((Rows.attackKeysRow.inPlace == Tryz.prog.inPlace 7)) = true := by kernel_rfl
theorem jc4 : ((Rows.attackKeysRow.unfollowed == Tryz.prog.unfollowed 7)) = true := by kernel_rfl
theorem jc5 : ((Rows.attackKeysRow.recurses == Tryz.prog.recurses 7)) = true := by kernel_rfl
theorem jc6 : ((Rows.attackKeysRow.named == Tryz.prog.varsNamed 7)) = true := by kernel_rfl
theorem jc7 : ((Rows.attackKeysRow.plainKeys == Tryz.prog.plainKeys)) = true := by kernel_rfl
theorem jc8 : (Tryz.prog.stopsHeard) = true := by kernel_rfl
theorem jc9 : (Tryz.prog.mayEnter) = true := by kernel_rfl
theorem jc10 : ((Rows.attackKeysRow.lifted == Tryz.prog.liftsFinal)) = true := by kernel_rfl
theorem joined : joinedFacts Tryz.prog 7 Tryz.f7 Rows.attackKeysSpec Rows.attackKeysRow = true := by
  unfold joinedFacts
  repeat' (with_reducible refine Bool.and_eq_true_iff.2 ⟨?_, ?_⟩)
  all_goals first | (with_reducible first | exact jc0 | exact jc1 | exact jc2 | exact jc3 | exact jc4 | exact jc5 | exact jc6 | exact jc7 | exact jc8 | exact jc9 | exact jc10) | kernel_rfl
theorem isInst : Tryz.f7.isInstance Tryz.prog Rows.attackKeysRow.origin Rows.attackKeysRow.targs := (of_decide_eq_true (by kernel_rfl))
theorem isWrap : Tryz.f7.isWrapper Tryz.prog Rows.attackKeysRow.wrapper Rows.attackKeysRow.mainSum := by unfold Func.isWrapper; rw [if_neg (of_decide_eq_false (by kernel_rfl))]; exact ⟨rfl, rfl⟩
theorem named7 : Tryz.prog.funcNamed "cleanse/cleanselaw36.AttackKeys" = some 7 := by kernel_rfl
end Go.Proofs.YtemeabkpllolmaaGreatDoor
