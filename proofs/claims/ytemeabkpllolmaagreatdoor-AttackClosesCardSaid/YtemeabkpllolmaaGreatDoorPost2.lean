/-
  Behind a call with several arguments: they read as they did. Conditions: none beyond the statement.
-/
import Derived.Test.YtemeabkpllolmaaGreatDoorPost
import Derived.Test.YtemeabkpllolmaaGreatDoorOpen
namespace Go.Proofs.YtemeabkpllolmaaGreatDoor
open Go Go.ChangeShapes Go.WideShapes Go.RowKit Go.Ai
set_option maxRecDepth 100000
theorem size3 : decide (3 < Tryz.prog.types.size) = true := by kernel_rfl
theorem size36 : decide (36 < Tryz.prog.types.size) = true := by kernel_rfl
/-- Arguments behind a call that leaves what was there. -/
theorem stays_all {H : Type} {enc : TypeId × Value → H} {W W' : World} (hc : Chg (fun _ _ => False) W W') : ∀ (ts : List TypeId) (vs : List Value) (ds : List (DataW H)) (p : List MemPlace), (∀ t ∈ ts, t < Tryz.prog.types.size) → DataW.TrodAll enc Tryz.prog W 0 (fun _ => true) true ts vs ds p → (∀ q ∈ p, q.block < W.heap.size) →
    DataW.TrodAll enc Tryz.prog W' 0 (fun b => decide (b < W.heap.size)) true ts vs ds p
  | [], vs, ds, p, _, h, _ => by
    obtain ⟨rfl, rfl, rfl⟩ := trodAll_nil h
    exact trodAll_mk0
  | t :: ts, vs, ds, p, ht, h, hl => by
    obtain ⟨v, vs', d, ds', p1, q1, rfl, rfl, rfl, h1, h2⟩ := trodAll_cons h
    refine ⟨p1, q1, ?_, stays_all hc ts vs' ds' q1 (fun u hu => ht u (List.mem_cons_of_mem _ hu)) h2 (fun q hq => hl q (List.mem_append_right _ hq)), rfl⟩
    obtain ⟨fuel, h⟩ := h1
    exact ⟨fuel, DataW.trod_stays (kids_rows laidOut rowed) (fun ht hu => slice_pos ht hu) (fun h => by cases h) (ht t (List.mem_cons_self ..)) h (fun q hq => same_place hc (hl q (List.mem_append_left _ hq))) (fun q hq => by simpa using hl q (List.mem_append_left _ hq))⟩
/-- Behind a call with any arguments. -/
theorem post_okN {H : Type} {enc : TypeId × Value → H} {W W' : World} {args : Array Value} {ds : List (DataW H)} {p : List MemPlace} {f : Func} {sp : ChangeSpec} (ht : ∀ t ∈ f.params.toList, t < Tryz.prog.types.size) (hr : f.resultTypes = #[4]) (hv : sp.vars = [])
    (hfn : sp.fn H (ds ++ []) = { results := [.lit (.bool true)], args := ds })
    (hA : DataW.TrodAll enc Tryz.prog W 0 (fun _ => true) true f.params.toList args.toList ds p) (hW : DataW.Whole enc Tryz.prog f.params.toList sp.vars false W args.toList ds [] (p ++ [])) (hc : Chg (fun _ _ => False) W W') :
    sp.post enc Tryz.prog f false true false false W args (.bool true) W' := by
  refine ⟨ds, [], _, [], p, [], hW, ?_, ?_, ?_, kept_of hc _, fun h => by cases h⟩
  · rw [hfn, hr]
    exact trodAll_mk1 (shut_bool Tryz.underlying4 true)
  · rw [hfn]
    exact stays_all hc _ _ _ _ ht hA (fun q hq => hW.lt q (List.mem_append_left _ hq))
  · rw [hfn, hv]
    rfl
/-- An int and a list of ints, at a parameter. -/
theorem open_int3 {r : Reach} {W : World} {base : Nat} {X : Nat → Nat → Prop} {ι : Nat → Option (Nat × Nat)} {v : Value} (h : Value.okWide Tryz.prog W r base 3 v) : ∃ n : Int, V W X ι (I64 n) v := by
  obtain ⟨n, rfl⟩ := okWide_int Tryz.underlying3 h
  exact ⟨n, V.raw _⟩
end Go.Proofs.YtemeabkpllolmaaGreatDoor
namespace Go.Proofs.YtemeabkpllolmaaGreatDoor
open Go Go.ChangeShapes Go.WideShapes Go.RowKit Go.Ai K36
set_option maxRecDepth 100000
theorem open_int36 {H : Type} {enc : TypeId × Value → H} {r : Reach} {W : World} {base : Nat} {X : Nat → Nat → Prop} {ι : Nat → Option (Nat × Nat)} (hX : ∀ b o, ¬ X b o) {v : Value} {d : DataW H} {p : List MemPlace} (h : Value.okWide Tryz.prog W r base 36 v) (h2 : DataW.Trod enc Tryz.prog W 0 (fun _ => true) true 36 v d p) : ∃ l : List Int, l.length < 2 ^ 63 ∧ V W X ι (intL l) v := by
  obtain ⟨a, len, cap, rfl⟩ := okWide_slice Tryz.underlying36 h
  obtain ⟨fuel, h3⟩ := h2
  obtain ⟨l, v', h4, h5, h6⟩ := open_intL (X := X) (ι := ι) hX h3
  have h7 : v' = .slice a len cap := by
    have : [Value.slice a len cap] = [v'] := h4
    simpa using this.symm
  subst h7
  exact ⟨l, h5, h6⟩
end Go.Proofs.YtemeabkpllolmaaGreatDoor
