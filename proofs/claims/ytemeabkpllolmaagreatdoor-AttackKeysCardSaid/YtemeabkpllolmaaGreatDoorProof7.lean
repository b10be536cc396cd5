/-
  AttackKeys returns true for every input and leaves its argument as it was. Conditions: none beyond the statement.
-/
import Derived.Test.YtemeabkpllolmaaGreatDoorRows
import Derived.Test.YtemeabkpllolmaaGreatDoorFacts7
import Derived.Test.YtemeabkpllolmaaGreatDoorOpen
import Derived.Test.YtemeabkpllolmaaGreatDoorPost
import Derived.Test.YtemeabkpllolmaaGreatDoorComp
import Derived.Test.YtemeabkpllolmaaGreatDoorHead
import Derived.Test.YtemeabkpllolmaaGreatDoorKeys3
import Derived.Test.YtemeabkpllolmaaGreatDoorExt9
namespace Go.Proofs.YtemeabkpllolmaaGreatDoor
open Go Go.ChangeShapes Go.WideShapes Go.RowKit Go.Ai
set_option maxRecDepth 100000

theorem cf7 : compF Tryz.prog false Tryz.f7 = some K36.i7 := by kernel_rfl
theorem Tryz.own : ownKnob Tryz.prog.godebug = none := by kernel_rfl
theorem Tryz.mixed : Tryz.prog.follows .mixedOrders = true := by kernel_rfl
theorem results7 : Tryz.f7.resultTypes = #[4] := by kernel_rfl
abbrev laidL : List (String × DataW Unit) := Rows.attackKeysRow.laid
theorem laid_met (os : Os) (args : Array Value) : laidMet Tryz.prog laidL ((World.laidAll Tryz.prog os laidL).forCall (fun _ _ => 0) ⟨#[], args, []⟩).memory :=
  laidMet_laidAll args (by kernel_rfl) (by kernel_rfl)

/-- The law's walk at the machine: from any memory that holds a query it returns true and leaves what was there. -/
theorem law_walk (q : K36.Qry) (hq : q.Fits) (W : World) (v0 : Value) (hv : V W (Xof [] (fun _ => none)) (fun _ => none) q.enc v0) : Calls Tryz.prog 7 #[v0] W fun e W' => e = .returned (.bool true) ∧ Chg (fun _ _ => False) W W' := by
  have hle := callL_sim Tryz.mixed hir
  have hhead : ∀ s, At (simC Tryz.prog) 9 [] s (B true) := fun s => sim_closed (fun w w' X X' ι ι' v h => by cases h; exact V.raw _) (fun o s h => h) (hle _ _ _ _ K36.head_le) s
  have hbody := K36.law7 (simC_mono Tryz.prog) hle closedX sorts_ok hhead q hq
  have hs := body_sim Tryz.mixed Tryz.func7 cf7 hbody
  refine (hs.2 W (fun _ => none) #[v0] ⟨rfl, fun i hi => ?_⟩ (R_empty W) (fun m b hb => by cases hb)).mono fun e W' hr => ?_
  · have h0 : i = 0 := by
      simp only [List.length_cons, List.length_nil] at hi
      omega
    subst h0
    exact hv
  · obtain ⟨s', ι', hg, he⟩ := hr
    refine ⟨?_, chg_empty hg.chg⟩
    cases e with
    | returned v =>
      obtain ⟨d, ⟨h1, -⟩, h2⟩ := he
      cases h1
      cases h2
      rfl
    | panicked ch =>
      obtain ⟨d, v, -, ⟨h1, -⟩, -⟩ := he
      cases h1
    | outgrown => exact he.elim

theorem law_lifted (os : Os) (started : os.Started) (H : Type) (enc : TypeId × Value → H) :
    ReturnsInHanded {} Tryz.checked os 7 .any (fun w args => (Rows.attackKeysSpec.pre enc Tryz.prog Tryz.f7 [] false w args ∧ laidMet Tryz.prog laidL w) ∧ sizedMet enc Tryz.prog Tryz.f7 (OpenSpec.ofChange Rows.attackKeysSpec) false w args)
      (Rows.attackKeysSpec.post enc Tryz.prog Tryz.f7 false true false false) := by
  refine returnsInHanded_of_change_and (C := Tryz.checked) (X := fun w _ => laidMet Tryz.prog laidL w) (fun _ _ _ hh h => h.of_heap hh) Tryz.own started (by kernel_rfl) Tryz.func7
    (ChangeSpec.witness_at (enc := enc) (C := Tryz.checked) (os := os) (X := fun w _ => laidMet Tryz.prog laidL w) false (World.laidAll Tryz.prog os laidL) #[.agg #[.int .i64 0, .slice none 0 0, .slice none 0 0]] 8 (World.laidAll_os _ _ _) (by kernel_rfl) (by kernel_rfl) (by kernel_rfl) (by kernel_rfl) (by kernel_rfl) (laid_met os _)) ?_
  intro W base args ds gs before hval0 hW _ _ hL _
  have hW' := hW
  obtain ⟨p, q, hA0, hV, rfl, hfz, hnd⟩ := hW
  have hA : DataW.TrodAll enc Tryz.prog W 0 (fun _ => true) true Tryz.f7.params.toList args.toList ds p := hA0
  rw [Tryz.params7] at hA
  obtain ⟨v0, d0, rfl, rfl, h0⟩ := trodAll_one hA
  obtain ⟨rfl, rfl⟩ := trodVars_none hV
  obtain ⟨q, hq, hv⟩ := open_qry (X := Xof [] (fun _ => none)) (ι := fun _ => none) (empty_x _) h0
  refine (law_walk q ⟨hq.1, hq.2.1, hq.2.2⟩ W v0 hv).mono fun e W' h => ?_
  obtain ⟨rfl, hc⟩ := h
  exact ⟨_, rfl, post_ok Tryz.params7 results7 rfl rfl h0 hW' hc⟩

theorem f_holds : Rows.AttackKeysSaid :=
  OpenClaim.holds_of_wide 7 Tryz.f7 rfl rfl rfl rfl rfl rfl rfl ⟨rfl, rfl, rfl, rfl, rfl⟩ rfl rfl rfl rfl rfl named7 Tryz.func7 joined
    isInst isWrap
    (fun os started H enc _ => law_lifted os started H enc)

end Go.Proofs.YtemeabkpllolmaaGreatDoor
