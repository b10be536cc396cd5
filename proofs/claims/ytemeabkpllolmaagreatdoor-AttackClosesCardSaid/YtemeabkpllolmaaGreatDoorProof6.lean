/-
  AttackCloses returns true for every input and leaves its arguments as they were. Conditions: none beyond the statement.
-/
import Derived.Test.YtemeabkpllolmaaGreatDoorRows
import Derived.Test.YtemeabkpllolmaaGreatDoorFacts6
import Derived.Test.YtemeabkpllolmaaGreatDoorOpen
import Derived.Test.YtemeabkpllolmaaGreatDoorPost2
import Derived.Test.YtemeabkpllolmaaGreatDoorComp
import Derived.Test.YtemeabkpllolmaaGreatDoorHead
import Derived.Test.YtemeabkpllolmaaGreatDoorCloses4
import Derived.Test.YtemeabkpllolmaaGreatDoorExt9
import Derived.Carry
namespace Go.Proofs.YtemeabkpllolmaaGreatDoor
open Go Go.ChangeShapes Go.WideShapes Go.RowKit Go.Ai
set_option maxRecDepth 100000

theorem cf6 : compF Tryz.prog false Tryz.f6 = some K36.i6 := by kernel_rfl
theorem Tryz.own : ownKnob Tryz.prog.godebug = none := by kernel_rfl
theorem Tryz.mixed : Tryz.prog.follows .mixedOrders = true := by kernel_rfl
theorem results6 : Tryz.f6.resultTypes = #[4] := by kernel_rfl
abbrev laidL : List (String × DataW Unit) := Rows.attackClosesRow.laid
theorem laid_met (os : Os) (args : Array Value) : laidMet Tryz.prog laidL ((World.laidAll Tryz.prog os laidL).forCall (fun _ _ => 0) ⟨#[], args, []⟩).memory :=
  laidMet_laidAll args (by kernel_rfl) (by kernel_rfl)

/-- The law's walk at the machine: from any memory that holds a query, an int and two lists it returns true and leaves what was there. -/
theorem law_walk (q : K36.Qry) (hq : q.Fits) (n : Int) (one two : List Int) (h1 : one.length < 2 ^ 63) (h2 : two.length < 2 ^ 63) (W : World) (v0 v1 v2 v3 : Value) (hv0 : V W (Xof [] (fun _ => none)) (fun _ => none) q.enc v0) (hv1 : V W (Xof [] (fun _ => none)) (fun _ => none) (I64 n) v1)
    (hv2 : V W (Xof [] (fun _ => none)) (fun _ => none) (intL one) v2) (hv3 : V W (Xof [] (fun _ => none)) (fun _ => none) (intL two) v3) : Calls Tryz.prog 6 #[v0, v1, v2, v3] W fun e W' => e = .returned (.bool true) ∧ Chg (fun _ _ => False) W W' := by
  have hle := callL_sim Tryz.mixed hir
  have hhead : ∀ s, At (simC Tryz.prog) 9 [] s (B true) := fun s => sim_closed (fun w w' X X' ι ι' v h => by cases h; exact V.raw _) (fun o s h => h) (hle _ _ _ _ K36.head_le) s
  have hbody := K36.law6 (simC_mono Tryz.prog) hle closedX sorts_ok hhead q hq n one two h1 h2
  have hs := body_sim Tryz.mixed Tryz.func6 cf6 hbody
  refine (hs.2 W (fun _ => none) #[v0, v1, v2, v3] ⟨rfl, fun i hi => ?_⟩ (R_empty W) (fun m b hb => by cases hb)).mono fun e W' hr => ?_
  · have h0 : i < 4 := hi
    match i, h0 with
    | 0, _ => exact hv0
    | 1, _ => exact hv1
    | 2, _ => exact hv2
    | 3, _ => exact hv3
  · obtain ⟨s', ι', hg, he⟩ := hr
    refine ⟨?_, chg_empty hg.chg⟩
    cases e with
    | returned v =>
      obtain ⟨d, ⟨h1, -⟩, h2⟩ := he
      cases h1
      cases h2
      rfl
    | panicked ch =>
      obtain ⟨d, v, -, ⟨h1, -⟩, -⟩ := he
      cases h1
    | outgrown => exact he.elim

theorem law_lifted (os : Os) (started : os.Started) (H : Type) (enc : TypeId × Value → H) :
    ReturnsInHanded {} Tryz.checked os 6 .any (fun w args => (Rows.attackClosesSpec.pre enc Tryz.prog Tryz.f6 [] false w args ∧ laidMet Tryz.prog laidL w) ∧ sizedMet enc Tryz.prog Tryz.f6 (OpenSpec.ofChange Rows.attackClosesSpec) false w args)
      (Rows.attackClosesSpec.post enc Tryz.prog Tryz.f6 false true false false) := by
  refine returnsInHanded_of_change_and (C := Tryz.checked) (X := fun w _ => laidMet Tryz.prog laidL w) (fun _ _ _ hh h => h.of_heap hh) Tryz.own started (by kernel_rfl) Tryz.func6
    (ChangeSpec.witness_at (enc := enc) (C := Tryz.checked) (os := os) (X := fun w _ => laidMet Tryz.prog laidL w) false (World.laidAll Tryz.prog os laidL) #[.agg #[.int .i64 0, .slice none 0 0, .slice none 0 0], .int .i64 0, .slice none 0 0, .slice none 0 0] 8 (World.laidAll_os _ _ _) (by kernel_rfl) (by kernel_rfl) (by kernel_rfl) (by kernel_rfl) (by kernel_rfl) (laid_met os _)) ?_
  intro W base args ds gs before hval0 hW _ _ hL _
  have hW' := hW
  obtain ⟨p, q, hA0, hV, rfl, hfz, hnd⟩ := hW
  have hA : DataW.TrodAll enc Tryz.prog W 0 (fun _ => true) true Tryz.f6.params.toList args.toList ds p := hA0
  have hA2 := hA
  rw [Tryz.params6] at hA hval0
  obtain ⟨v0, v1, v2, v3, d0, d1, d2, d3, p0, p1, p2, p3, rfl, rfl, rfl, h0, h1, h2, h3⟩ := trodAll_four hA
  obtain ⟨rfl, rfl⟩ := trodVars_none hV
  obtain ⟨q, hq, hv⟩ := open_qry (X := Xof [] (fun _ => none)) (ι := fun _ => none) (empty_x _) h0
  obtain ⟨n, hv1⟩ := open_int3 (X := Xof [] (fun _ => none)) (ι := fun _ => none) (hval0 1 3 v1 rfl rfl)
  obtain ⟨one, hone, hv2⟩ := open_int36 (X := Xof [] (fun _ => none)) (ι := fun _ => none) (empty_x _) (hval0 2 36 v2 rfl rfl) h2
  obtain ⟨two, htwo, hv3⟩ := open_int36 (X := Xof [] (fun _ => none)) (ι := fun _ => none) (empty_x _) (hval0 3 36 v3 rfl rfl) h3
  refine (law_walk q ⟨hq.1, hq.2.1, hq.2.2⟩ n one two hone htwo W v0 v1 v2 v3 hv hv1 hv2 hv3).mono fun e W' h => ?_
  obtain ⟨rfl, hc⟩ := h
  refine ⟨_, rfl, post_okN ?_ results6 rfl rfl hA2 hW' hc⟩
  rw [Tryz.params6]
  intro t ht
  have : t = 25 ∨ t = 3 ∨ t = 36 := by simpa using ht
  rcases this with rfl | rfl | rfl
  · exact of_decide_eq_true size25
  · exact of_decide_eq_true size3
  · exact of_decide_eq_true size36

theorem f_holds : Rows.AttackClosesSaid :=
  OpenClaim.holds_of_wide 6 Tryz.f6 rfl rfl rfl rfl rfl rfl rfl ⟨rfl, rfl, rfl, rfl, rfl⟩ rfl rfl rfl rfl rfl named6 Tryz.func6 joined
    isInst isWrap
    (fun os started H enc _ => law_lifted os started H enc)

end Go.Proofs.YtemeabkpllolmaaGreatDoor
