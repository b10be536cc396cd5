/-
  From the reading of the argument to abstract data. Conditions: none beyond the statement.
-/
import Derived.Test.YtemeabkpllolmaaGreatDoorRows
import Derived.ChangeSlices
import Derived.RowKit
import Derived.Test.YtemeabkpllolmaaGreatDoorInt12
import Derived.Test.YtemeabkpllolmaaGreatDoorWalk1
namespace Go.Proofs.YtemeabkpllolmaaGreatDoor
open Go Go.Ai K36
set_option maxRecDepth 100000

theorem Tryz.cells25 : Tryz.prog.cellsOf 25 = 3 := by kernel_rfl
theorem Tryz.cells3 : Tryz.prog.cellsOf 3 = 1 := by kernel_rfl
theorem Tryz.cells22 : Tryz.prog.cellsOf 22 = 1 := by kernel_rfl
theorem Tryz.cells23 : Tryz.prog.cellsOf 23 = 1 := by kernel_rfl
theorem Tryz.cells70 : Tryz.prog.cellsOf 70 = 3 := by kernel_rfl
theorem Tryz.cells38 : Tryz.prog.cellsOf 38 = 4 := by kernel_rfl
theorem Tryz.cells9 : Tryz.prog.cellsOf 9 = 1 := by kernel_rfl
theorem Tryz.cells36 : Tryz.prog.cellsOf 36 = 1 := by kernel_rfl

section
variable {H : Type} {enc : TypeId × Value → H} {w : World} {X : Nat → Nat → Prop} {ι : Nat → Option (Nat × Nat)} {sp : Nat → Bool}

theorem cell_at {a : Addr} {n j : Nat} {v : Value} (hs : a.spot = none) (h : w.cell? ((a.add n).add j) = some v) : w.cell? ⟨a.block, a.off + n + j, none⟩ = some v := by
  obtain ⟨b, o, s⟩ := a
  dsimp only at hs
  subst hs
  have : ((⟨b, o, none⟩ : Addr).add n).add j = ⟨b, o + n + j, none⟩ := by
    unfold Addr.add
    by_cases h1 : n = 0 <;> by_cases h2 : j = 0 <;> simp [h1, h2]
  rw [this] at h
  exact h
theorem spot_none {a : Addr} {v : Value} (h : w.cell? a = some v) : a.spot = none := by
  unfold World.cell? at h
  split at h
  · split at h
    · cases h
    · rename_i hs; simpa using hs
  · cases h

theorem open_list {α : Type} [Inhabited α] (en : α → List D) (P : α → Prop) {t e sz : Nat} (hpos : 0 < sz) (hen : ∀ a, (en a).length = sz) (ht : Tryz.prog.underlying t = some (.slice e)) (hsz : Tryz.prog.cellsOf e = sz)
    (row : ∀ n cs y, DataW.trod enc Tryz.prog w 0 sp true n e cs = some y → ∃ a, P a ∧ ∀ j, j < sz → V w X ι ((en a).getD j default) (cs.getD j undef)) (hX : ∀ b o, ¬ X b o)
    {fuel : Nat} {cs : List Value} {x : DataW H × List MemPlace} (h : DataW.trod enc Tryz.prog w 0 sp true fuel t cs = some x) :
    ∃ (l : List α) (v : Value), cs = [v] ∧ l.length < 2 ^ 63 ∧ (∀ a ∈ l, P a) ∧ V w X ι (.lst (l.map en)) v := by
  rcases DataW.trod_slice ht h with ⟨rfl, -⟩ | ⟨a, len, cap, elems, rest, n, -, rfl, -, hb, hl, hm, hlen, hel, -, -⟩
  · refine ⟨[], _, rfl, by simp, fun a h => by simp at h, ?_⟩
    exact V.lst [] none ⟨0, 0, none⟩ 0 0 sz (fun _ _ => undef) rfl (Nat.le_refl _) (Or.inr rfl) rfl (fun i hi => absurd hi (Nat.not_lt_zero _)) (fun i j hi => absurd hi (Nat.not_lt_zero _)) (fun i j hi => absurd hi (Nat.not_lt_zero _)) (fun i j hi => absurd hi (Nat.not_lt_zero _))
  · have each : ∀ i, i < len → ∃ (b : α) (c : List Value), P b ∧ w.cells? 0 (a.add (i * sz)) sz = some c ∧ ∀ j, j < sz → V w X ι ((en b).getD j default) (c.getD j undef) := by
      intro i hi
      have h1 := hel i hi
      have h2 : elems[i]? = some elems[i] := by simp [hlen, hi]
      rw [h2, hsz, Option.bind_eq_some_iff] at h1
      obtain ⟨c, hc, hy⟩ := h1
      obtain ⟨b, hb, hv⟩ := row _ _ _ hy
      exact ⟨b, c, hb, hc, hv⟩
    let f : Nat → α := fun i => if hi : i < len then Classical.choose (each i hi) else default
    have hf : ∀ i, i < len → ∃ c : List Value, P (f i) ∧ w.cells? 0 (a.add (i * sz)) sz = some c ∧ ∀ j, j < sz → V w X ι ((en (f i)).getD j default) (c.getD j undef) := by
      intro i hi
      simp only [f, dif_pos hi]
      exact Classical.choose_spec (each i hi)
    have hcell : ∀ i j, i < len → j < sz → ∃ v, w.cell? ((a.add (i * sz)).add j) = some v ∧ V w X ι ((en (f i)).getD j default) v := by
      intro i j hi hj
      obtain ⟨c, -, hc, hv⟩ := hf i hi
      obtain ⟨-, c2, c3⟩ := World.cells?_some hc
      have := c3 j hj
      have hlt : j < c.length := by omega
      rw [List.getElem?_eq_getElem hlt] at this
      refine ⟨_, this, ?_⟩
      have h3 := hv j hj
      rw [List.getD_eq_getElem?_getD (l := c), List.getElem?_eq_getElem hlt] at h3
      exact h3
    refine ⟨(List.range len).map f, _, rfl, ?_, ?_, ?_⟩
    · simp only [List.length_map, List.length_range]
      have : maxLen < 2 ^ 63 := by decide
      omega
    · intro b hb
      obtain ⟨i, hi, rfl⟩ := List.mem_map.1 hb
      obtain ⟨c, hp, -⟩ := hf i (by simpa using hi)
      exact hp
    · by_cases h0 : len = 0
      · subst h0
        exact V.lst _ (some a) ⟨0, 0, none⟩ 0 cap sz (fun _ _ => undef) (by simp) (Nat.zero_le _) (Or.inr (by simp)) rfl (fun i hi => absurd hi (by simp)) (fun i j hi => absurd hi (by simp)) (fun i j hi => absurd hi (by simp)) (fun i j hi => absurd hi (by simp))
      · have hs : a.spot = none := by
          obtain ⟨v, hv, -⟩ := hcell 0 0 (by omega) hpos
          have : (a.add (0 * sz)).add 0 = a := by simp [Addr.add]
          rw [this] at hv
          exact spot_none hv
        have hl2 : (((List.range len).map f).map en).length = len := by simp
        have hget : ∀ i, i < len → (((List.range len).map f).map en).getD i [] = en (f i) := by
          intro i hi
          simp [List.getD_eq_getElem?_getD, hi]
        refine V.lst _ (some a) a len cap sz (fun i j => (w.cell? ((a.add (i * sz)).add j)).getD undef) hl2.symm hl (Or.inl rfl) hs (fun i hi => ?_) (fun i j hi hj => ?_) (fun i j _ _ => hX _ _) (fun i j hi hj => ?_)
        · rw [hl2] at hi
          rw [hget i hi]; exact hen _
        · rw [hl2] at hi
          obtain ⟨v, hv, -⟩ := hcell i j hi hj
          rw [hv]
          exact cell_at hs hv
        · rw [hl2] at hi
          obtain ⟨v, hv, hvv⟩ := hcell i j hi hj
          rw [hget i hi, hv]
          exact hvv

theorem open_i64 {fuel : Nat} {cs : List Value} {x : DataW H × List MemPlace} (h : DataW.trod enc Tryz.prog w 0 sp true fuel 3 cs = some x) : ∃ n : Int, cs = [.int .i64 n] := by
  obtain ⟨n, h1, -⟩ := DataW.trod_int Tryz.underlying3 h
  exact ⟨n, h1⟩
theorem open_intL (hX : ∀ b o, ¬ X b o) {fuel : Nat} {cs : List Value} {x : DataW H × List MemPlace} (h : DataW.trod enc Tryz.prog w 0 sp true fuel 36 cs = some x) : ∃ (l : List Int) (v : Value), cs = [v] ∧ l.length < 2 ^ 63 ∧ V w X ι (intL l) v := by
  obtain ⟨l, v, h1, h2, -, h3⟩ := open_list (sz := 1) (X := X) (ι := ι) (fun t : Int => [I64 t]) (fun _ => True) (by decide) (fun _ => rfl) Tryz.underlying36 Tryz.cells3 (fun n cs y hy => by
    obtain ⟨m, rfl⟩ := open_i64 hy
    exact ⟨m, trivial, fun j hj => by
      obtain rfl : j = 0 := by omega
      exact V.raw _⟩) hX h
  exact ⟨l, v, h1, h2, h3⟩
theorem open_val3 {fuel : Nat} {cs : List Value} {x : DataW H × List MemPlace} (h : DataW.trod enc Tryz.prog w 0 sp true fuel 70 cs = some x) : ∃ v : Val3, ∀ j, j < 3 → V w X ι (v.enc.getD j default) (cs.getD j undef) := by
  obtain ⟨xs, n, -, -, hl, hxl, hf⟩ := DataW.trod_struct Tryz.underlying70 h
  rw [Tryz.cells70] at hl
  obtain ⟨c0, c1, c2, rfl⟩ : ∃ a b c, cs = [a, b, c] := by
    match cs, hl with
    | [a, b, c], _ => exact ⟨a, b, c, rfl⟩
  have some_of : ∀ i, i < 3 → ∃ y, xs[i]? = some y := fun i hi => ⟨xs[i]'(by rw [hxl]; exact hi), by simp⟩
  obtain ⟨y0, hy0⟩ := some_of 0 (by decide)
  obtain ⟨y1, hy1⟩ := some_of 1 (by decide)
  obtain ⟨y2, hy2⟩ := some_of 2 (by decide)
  have f0 : DataW.trod enc Tryz.prog w 0 sp true n 3 (([c0, c1, c2].drop 0).take (Tryz.prog.cellsOf 3)) = xs[0]? := hf 0 _ rfl
  have f1 : DataW.trod enc Tryz.prog w 0 sp true n 3 (([c0, c1, c2].drop 1).take (Tryz.prog.cellsOf 3)) = xs[1]? := hf 1 _ rfl
  have f2 : DataW.trod enc Tryz.prog w 0 sp true n 9 (([c0, c1, c2].drop 2).take (Tryz.prog.cellsOf 9)) = xs[2]? := hf 2 _ rfl
  simp only [Tryz.cells3, Tryz.cells9, List.drop_zero, List.drop_succ_cons, List.take_succ_cons, List.take_zero] at f0 f1 f2
  rw [hy0] at f0; rw [hy1] at f1; rw [hy2] at f2
  obtain ⟨n0, e0⟩ := open_i64 f0
  obtain ⟨n1, e1⟩ := open_i64 f1
  obtain ⟨b, e2, -⟩ := DataW.trod_string Tryz.underlying9 f2
  cases e0; cases e1; cases e2
  refine ⟨⟨n0, n1, b⟩, fun j hj => ?_⟩
  match j, hj with
  | 0, _ => exact V.raw _
  | 1, _ => exact V.raw _
  | 2, _ => exact V.raw _
theorem open_atm (hX : ∀ b o, ¬ X b o) {fuel : Nat} {cs : List Value} {x : DataW H × List MemPlace} (h : DataW.trod enc Tryz.prog w 0 sp true fuel 38 cs = some x) : ∃ a : Atm, (a.cols.length < 2 ^ 63 ∧ a.terms.length < 2 ^ 63) ∧ ∀ j, j < 4 → V w X ι (a.enc.getD j default) (cs.getD j undef) := by
  obtain ⟨xs, n, -, -, hl, hxl, hf⟩ := DataW.trod_struct Tryz.underlying38 h
  rw [Tryz.cells38] at hl
  obtain ⟨c0, c1, c2, c3, rfl⟩ : ∃ a b c d, cs = [a, b, c, d] := by
    match cs, hl with
    | [a, b, c, d], _ => exact ⟨a, b, c, d, rfl⟩
  have some_of : ∀ i, i < 4 → ∃ y, xs[i]? = some y := fun i hi => ⟨xs[i]'(by rw [hxl]; exact hi), by simp⟩
  obtain ⟨y0, hy0⟩ := some_of 0 (by decide)
  obtain ⟨y1, hy1⟩ := some_of 1 (by decide)
  obtain ⟨y2, hy2⟩ := some_of 2 (by decide)
  obtain ⟨y3, hy3⟩ := some_of 3 (by decide)
  have f0 : DataW.trod enc Tryz.prog w 0 sp true n 3 (([c0, c1, c2, c3].drop 0).take (Tryz.prog.cellsOf 3)) = xs[0]? := hf 0 _ rfl
  have f1 : DataW.trod enc Tryz.prog w 0 sp true n 36 (([c0, c1, c2, c3].drop 1).take (Tryz.prog.cellsOf 36)) = xs[1]? := hf 1 _ rfl
  have f2 : DataW.trod enc Tryz.prog w 0 sp true n 36 (([c0, c1, c2, c3].drop 2).take (Tryz.prog.cellsOf 36)) = xs[2]? := hf 2 _ rfl
  have f3 : DataW.trod enc Tryz.prog w 0 sp true n 3 (([c0, c1, c2, c3].drop 3).take (Tryz.prog.cellsOf 3)) = xs[3]? := hf 3 _ rfl
  simp only [Tryz.cells3, Tryz.cells36, List.drop_zero, List.drop_succ_cons, List.take_succ_cons, List.take_zero] at f0 f1 f2 f3
  rw [hy0] at f0; rw [hy1] at f1; rw [hy2] at f2; rw [hy3] at f3
  obtain ⟨n0, e0⟩ := open_i64 f0
  obtain ⟨l1, v1, e1, b1, k1⟩ := open_intL (X := X) (ι := ι) hX f1
  obtain ⟨l2, v2, e2, b2, k2⟩ := open_intL (X := X) (ι := ι) hX f2
  obtain ⟨n3, e3⟩ := open_i64 f3
  cases e0; cases e1; cases e2; cases e3
  refine ⟨⟨n0, l1, l2, n3⟩, ⟨b1, b2⟩, fun j hj => ?_⟩
  match j, hj with
  | 0, _ => exact V.raw _
  | 1, _ => exact k1
  | 2, _ => exact k2
  | 3, _ => exact V.raw _
theorem open_qry (hX : ∀ b o, ¬ X b o) {v : Value} {d : DataW H} {p : List MemPlace} (h : DataW.Trod enc Tryz.prog w 0 sp true 25 v d p) : ∃ q : Qry, (q.atoms.length < 2 ^ 63 ∧ q.consts.length < 2 ^ 63 ∧ ∀ i, (q.atoms.getD i default).cols.length < 2 ^ 63 ∧ (q.atoms.getD i default).terms.length < 2 ^ 63) ∧ V w X ι q.enc v := by
  obtain ⟨fuel, h⟩ := h
  obtain ⟨xs, n, -, -, hl, hxl, hf⟩ := DataW.trod_struct Tryz.underlying25 h
  rw [Tryz.cells25] at hl
  have hagg : ∃ vs, v = .agg vs ∧ vs.toList = v.cells.toList := by
    cases v with
    | agg vs => exact ⟨vs, rfl, rfl⟩
    | _ => simp [Value.cells] at hl
  obtain ⟨vs, rfl, -⟩ := hagg
  obtain ⟨c0, c1, c2, hcs⟩ : ∃ a b c, (Value.agg vs).cells.toList = [a, b, c] := by
    generalize (Value.agg vs).cells.toList = cs at hl
    match cs, hl with
    | [a, b, c], _ => exact ⟨a, b, c, rfl⟩
  rw [hcs] at hf
  have some_of : ∀ i, i < 3 → ∃ y, xs[i]? = some y := fun i hi => ⟨xs[i]'(by rw [hxl]; exact hi), by simp⟩
  obtain ⟨y0, hy0⟩ := some_of 0 (by decide)
  obtain ⟨y1, hy1⟩ := some_of 1 (by decide)
  obtain ⟨y2, hy2⟩ := some_of 2 (by decide)
  have f0 : DataW.trod enc Tryz.prog w 0 sp true n 3 (([c0, c1, c2].drop 0).take (Tryz.prog.cellsOf 3)) = xs[0]? := hf 0 _ rfl
  have f1 : DataW.trod enc Tryz.prog w 0 sp true n 22 (([c0, c1, c2].drop 1).take (Tryz.prog.cellsOf 22)) = xs[1]? := hf 1 _ rfl
  have f2 : DataW.trod enc Tryz.prog w 0 sp true n 23 (([c0, c1, c2].drop 2).take (Tryz.prog.cellsOf 23)) = xs[2]? := hf 2 _ rfl
  simp only [Tryz.cells3, Tryz.cells22, Tryz.cells23, List.drop_zero, List.drop_succ_cons, List.take_succ_cons, List.take_zero] at f0 f1 f2
  rw [hy0] at f0; rw [hy1] at f1; rw [hy2] at f2
  obtain ⟨n0, e0⟩ := open_i64 f0
  obtain ⟨l1, v1, e1, b1, -, k1⟩ := open_list (sz := 3) (X := X) (ι := ι) Val3.enc (fun _ => True) (by decide) (fun _ => rfl) Tryz.underlying22 Tryz.cells70 (fun n cs y hy => by
    obtain ⟨a, ha⟩ := open_val3 (X := X) (ι := ι) hy
    exact ⟨a, trivial, ha⟩) hX f1
  obtain ⟨l2, v2, e2, b2, p2, k2⟩ := open_list (sz := 4) (X := X) (ι := ι) Atm.enc (fun a => a.cols.length < 2 ^ 63 ∧ a.terms.length < 2 ^ 63) (by decide) (fun _ => rfl) Tryz.underlying23 Tryz.cells38 (fun n cs y hy => by
    obtain ⟨a, hp, ha⟩ := open_atm (X := X) (ι := ι) hX hy
    exact ⟨a, hp, ha⟩) hX f2
  cases e0; cases e1; cases e2
  refine ⟨⟨n0, l1, l2⟩, ⟨b2, b1, fun i => ?_⟩, ?_⟩
  · rcases Nat.lt_or_ge i l2.length with hi | hi
    · have : l2.getD i default = l2[i] := by simp [hi]
      show (l2.getD i default).cols.length < 2 ^ 63 ∧ (l2.getD i default).terms.length < 2 ^ 63
      rw [this]
      exact p2 _ (List.getElem_mem hi)
    · have : l2.getD i default = default := by simp [List.getD_eq_getElem?_getD, List.getElem?_eq_none hi]
      show (l2.getD i default).cols.length < 2 ^ 63 ∧ (l2.getD i default).terms.length < 2 ^ 63
      rw [this]
      exact ⟨by decide, by decide⟩
  · have hvs : vs = #[.int .i64 n0, c1, c2] := by
      have : vs.toList = [.int .i64 n0, c1, c2] := hcs
      exact Array.toList_inj.1 (by simpa using this)
    subst hvs
    refine V.agg _ _ rfl fun j hj => ?_
    have hj3 : j < 3 := hj
    match j, hj3 with
    | 0, _ => exact V.raw _
    | 1, _ => exact k1
    | 2, _ => exact k2
end
end Go.Proofs.YtemeabkpllolmaaGreatDoor
