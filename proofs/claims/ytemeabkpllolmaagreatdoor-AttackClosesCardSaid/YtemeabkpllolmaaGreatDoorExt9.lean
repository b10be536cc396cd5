/-
  More printed functions are what the compiler makes of the program. Conditions: none beyond the statement.
-/
import Derived.Test.YtemeabkpllolmaaGreatDoorComp
import Derived.Test.YtemeabkpllolmaaGreatDoorExt2
import Derived.Test.YtemeabkpllolmaaGreatDoorExt8
namespace Go.Proofs.YtemeabkpllolmaaGreatDoor
open Go Go.Ai
set_option maxRecDepth 100000
theorem cf23 : compF Tryz.prog false Tryz.f23 = some K36.i23 := by kernel_rfl
theorem cf25 : compF Tryz.prog false Tryz.f25 = some K36.i25 := by kernel_rfl
theorem cf26 : compF Tryz.prog false Tryz.f26 = some K36.i26 := by kernel_rfl
theorem cf27 : compF Tryz.prog false Tryz.f27 = some K36.i27 := by kernel_rfl
theorem cf28 : compF Tryz.prog false Tryz.f28 = some K36.i28 := by kernel_rfl
theorem cf60 : compF Tryz.prog false Tryz.f60 = some K36.i60 := by kernel_rfl
theorem hirX : ∀ f ifn, K36.irX f = some ifn → ∃ fn keep, Tryz.prog.funcs[f]? = some fn ∧ compF Tryz.prog keep fn = some ifn := by
  have h : ∀ p ∈ K36.tx.list, ∃ fn keep, Tryz.prog.funcs[p.1]? = some fn ∧ compF Tryz.prog keep fn = some p.2 := by
    show ∀ p ∈ [(22, K36.i22), (23, K36.i23), (25, K36.i25), (26, K36.i26), (27, K36.i27), (28, K36.i28), (47, K36.i47), (60, K36.i60), (87, K36.i87)], _
    simp only [List.forall_mem_cons]
    exact ⟨⟨_, _, Tryz.func22, cf22⟩, ⟨_, _, Tryz.func23, cf23⟩, ⟨_, _, Tryz.func25, cf25⟩, ⟨_, _, Tryz.func26, cf26⟩, ⟨_, _, Tryz.func27, cf27⟩, ⟨_, _, Tryz.func28, cf28⟩, ⟨_, _, Tryz.func47, cf47⟩, ⟨_, _, Tryz.func60, cf60⟩, ⟨_, _, Tryz.func87, cf87⟩, fun p hp => by simp at hp⟩
  exact fun f ifn hf => h _ (K36.TT.mem _ _ _ hf)
theorem mixedX : Tryz.prog.follows .mixedOrders = true := by kernel_rfl
theorem closedX : Closed K36.irX (simC Tryz.prog) := fun f ifn args s Q hf h => by
  obtain ⟨fn, keep, h1, h2⟩ := hirX f ifn hf
  exact body_sim mixedX h1 h2 h
end Go.Proofs.YtemeabkpllolmaaGreatDoor
