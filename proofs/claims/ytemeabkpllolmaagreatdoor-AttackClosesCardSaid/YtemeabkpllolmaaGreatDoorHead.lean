/-
  The chapter examples that the law checks first hold: by evaluation in the kernel. Conditions: none beyond the statement.
-/
import Derived.Test.YtemeabkpllolmaaGreatDoorCode
namespace K36
open Go Go.Ai
def isTrue (r : Option (Out × St)) : Bool := match r with
  | some (.ret (.raw (.bool b)), _) => b
  | _ => false
theorem head_run : isTrue (callT ir 100000 200 9 [] ⟨[], 0, 0⟩) = true := by decide +kernel
end K36
namespace K36
open Go Go.Ai
theorem of_isTrue {r : Option (Out × St)} (h : isTrue r = true) : ∃ s', r = some (.ret (.raw (.bool true)), s') := by
  unfold isTrue at h
  split at h
  · rename_i b s'
    subst h
    exact ⟨s', rfl⟩
  · cases h
theorem head_le : callL ir 9 [] ⟨[], 0, 0⟩ fun o _ => o = .ret (.raw (.bool true)) := by
  obtain ⟨s', hr⟩ := of_isTrue head_run
  exact callT_ok ir 100000 200 9 [] _ _ s' _ hr rfl
end K36
