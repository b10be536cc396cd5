/-
  Behind the call: the argument reads as it did. Conditions: none beyond the statement.
-/
import Derived.Test.YtemeabkpllolmaaGreatDoorRows
import Derived.ChangeSame
import Derived.ChangeVars
import Derived.ChangeStays
import Derived.JoinedOf
import Derived.RowKit
import Derived.LaidLaws
import Derived.Handed
import Derived.Lay
import Derived.ProofKit
import Derived.Test.YtemeabkpllolmaaGreatDoorInt12
namespace Go.Proofs.YtemeabkpllolmaaGreatDoor
open Go Go.ChangeShapes Go.WideShapes Go.RowKit Go.Ai
set_option maxRecDepth 100000
theorem laidOut : laidOutB Tryz.prog = true := by kernel_rfl
theorem rowed : mapsRowed Tryz.prog = true := by kernel_rfl
noncomputable def slicesB : Bool := (List.range Tryz.prog.types.size).all fun t => match Tryz.prog.underlying t with
  | some (.slice e) => Nat.blt 0 (Tryz.prog.cellsOf e)
  | _ => true
theorem slices_ok : slicesB = true := by kernel_rfl
theorem slice_pos {t e : TypeId} (ht : t < Tryz.prog.types.size) (hu : Tryz.prog.underlying t = some (.slice e)) : 0 < Tryz.prog.cellsOf e := by
  have h := List.all_eq_true.1 slices_ok t (List.mem_range.2 ht)
  rw [hu] at h
  simpa using h
theorem size25 : decide (25 < Tryz.prog.types.size) = true := by kernel_rfl

theorem same_place {w w' : World} (hc : Chg (fun _ _ => False) w w') {p : MemPlace} (hp : p.block < w.heap.size) : w.sameAt w' p := by
  have hh : w'.heap[p.block]? = w.heap[p.block]? := by
    have : w.heap[p.block]? = some w.heap[p.block] := by simp [hp]
    rw [heap_same hc this, this]
  cases p with
  | cell b off =>
    show w'.cell? _ = w.cell? _
    simp only [MemPlace.block] at hh
    unfold World.cell?
    rw [hh]
  | map b => exact hh
theorem kept_of {w w' : World} (hc : Chg (fun _ _ => False) w w') (may : MemPlace → Prop) : w.keptBut w' may := by
  refine ⟨hc.os, hc.out, fun i hi => ?_⟩
  have h1 : w.heap[i]? = some w.heap[i] := by simp [hi]
  have h2 := heap_same hc h1
  rw [h1, h2]
  generalize w.heap[i] = o
  cases o with
  | cells c t fr => exact ⟨rfl, rfl, rfl, fun _ _ => rfl⟩
  | map es clock => exact Or.inr ⟨rfl, rfl⟩
  | _ => rfl

/-- Behind the call. -/
theorem post_ok {H : Type} {enc : TypeId × Value → H} {W W' : World} {v0 : Value} {d0 : DataW H} {p : List MemPlace} {f : Func} {sp : ChangeSpec} (hp : f.params = #[25]) (hr : f.resultTypes = #[4]) (hv : sp.vars = [])
    (hfn : sp.fn H ([d0] ++ []) = { results := [.lit (.bool true)], args := [d0] })
    (h0 : DataW.Trod enc Tryz.prog W 0 (fun _ => true) true 25 v0 d0 p) (hW : DataW.Whole enc Tryz.prog f.params.toList sp.vars false W #[v0].toList [d0] [] (p ++ [])) (hc : Chg (fun _ _ => False) W W') :
    sp.post enc Tryz.prog f false true false false W #[v0] (.bool true) W' := by
  refine ⟨[d0], [], _, [], p, [], hW, ?_, ?_, ?_, kept_of hc _, fun h => by cases h⟩
  · rw [hfn, hr]
    exact trodAll_mk1 (shut_bool Tryz.underlying4 true)
  · rw [hfn, hp]
    refine trodAll_mk1 ?_
    obtain ⟨fuel, h⟩ := h0
    refine ⟨fuel, DataW.trod_stays (kids_rows laidOut rowed) (fun ht hu => slice_pos ht hu) (fun h => by cases h) (of_decide_eq_true size25) h (fun q hq => same_place hc (hW.lt q (List.mem_append_left _ hq))) (fun q hq => ?_)⟩
    simpa using hW.lt q (List.mem_append_left _ hq)
  · rw [hfn, hv]
    rfl
end Go.Proofs.YtemeabkpllolmaaGreatDoor
