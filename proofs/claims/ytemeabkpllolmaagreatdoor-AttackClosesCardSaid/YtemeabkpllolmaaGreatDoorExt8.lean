/-
  The library sorts a slice of ints, in the form of the interpreter. Conditions: none beyond the statement.
-/
import Derived.Test.YtemeabkpllolmaaGreatDoorChecked
import Derived.Shelf.Slices.In.SortNone
import Derived.Shelf.Sort.Plain
import Derived.Test.YtemeabkpllolmaaGreatDoorInt7
import Derived.Test.YtemeabkpllolmaaGreatDoorExt7
namespace Go.Proofs
open Go.Shelf
def Tryz.laysSort_ren : Go.Shelf.Ren := ⟨fun | 189 => 62 | 125 => 100 | 257 => 99 | 128 => 147 | 129 => 148 | 294 => 138 | 295 => 139 | 296 => 140 | 297 => 141 | 298 => 142 | 299 => 143 | 216 => 144 | 300 => 145 | 301 => 146 | 328 => 196 | 329 => 197 | 330 => 198 | 331 => 199 | 332 => 200 | 215 => 201 | 343 => 226 | n => n, fun | 28 => 36 | 3 => 3 | 46 => 145 | 0 => 0 | 51 => 174 | 53 => 176 | 4 => 4 | 183 => 167 | 182 => 166 | 131 => 138 | 5 => 5 | 9 => 9 | 218 => 216 | 222 => 220 | 228 => 238 | 229 => 239 | n => n, fun | n => n⟩
theorem Tryz.laysSort : Go.Proofs.Lays.n189 Tryz.prog Tryz.laysSort_ren := {
  mixed := by kernel_rfl
  f125 := Tryz.func100.trans (congrArg some (by kernel_rfl))
  f128 := Tryz.func147.trans (congrArg some (by kernel_rfl))
  f129 := Tryz.func148.trans (congrArg some (by kernel_rfl))
  f189 := Tryz.func62.trans (congrArg some (by kernel_rfl))
  f215 := Tryz.func201.trans (congrArg some (by kernel_rfl))
  f216 := Tryz.func144.trans (congrArg some (by kernel_rfl))
  f257 := Tryz.func99.trans (congrArg some (by kernel_rfl))
  f294 := Tryz.func138.trans (congrArg some (by kernel_rfl))
  f295 := Tryz.func139.trans (congrArg some (by kernel_rfl))
  f296 := Tryz.func140.trans (congrArg some (by kernel_rfl))
  f297 := Tryz.func141.trans (congrArg some (by kernel_rfl))
  f298 := Tryz.func142.trans (congrArg some (by kernel_rfl))
  f299 := Tryz.func143.trans (congrArg some (by kernel_rfl))
  f300 := Tryz.func145.trans (congrArg some (by kernel_rfl))
  f301 := Tryz.func146.trans (congrArg some (by kernel_rfl))
  f328 := Tryz.func196.trans (congrArg some (by kernel_rfl))
  f329 := Tryz.func197.trans (congrArg some (by kernel_rfl))
  f330 := Tryz.func198.trans (congrArg some (by kernel_rfl))
  f331 := Tryz.func199.trans (congrArg some (by kernel_rfl))
  f332 := Tryz.func200.trans (congrArg some (by kernel_rfl))
  f343 := Tryz.func226.trans (congrArg some (by kernel_rfl))
  t0 := Tryz.underlying0
  a0 := Tryz.isAgg0
  z0 := Tryz.sizeOf0
  v0 := Tryz.zeroValue0
  t3 := Tryz.underlying3
  a3 := Tryz.isAgg3
  z3 := Tryz.sizeOf3
  v3 := Tryz.zeroValue3
  t4 := Tryz.underlying4
  a4 := Tryz.isAgg4
  z4 := Tryz.sizeOf4
  v4 := Tryz.zeroValue4
  t5 := Tryz.underlying5
  a5 := Tryz.isAgg5
  z5 := Tryz.sizeOf5
  v5 := Tryz.zeroValue5
  t9 := Tryz.underlying9
  a9 := Tryz.isAgg9
  z9 := Tryz.sizeOf9
  v9 := Tryz.zeroValue9
  t28 := Tryz.underlying36
  a28 := Tryz.isAgg36
  z28 := Tryz.sizeOf36
  v28 := Tryz.zeroValue36
  t46 := Tryz.underlying145
  a46 := Tryz.isAgg145
  z46 := Tryz.sizeOf145
  v46 := Tryz.zeroValue145
  t51 := Tryz.underlying174
  a51 := Tryz.isAgg174
  z51 := Tryz.sizeOf174
  v51 := Tryz.zeroValue174
  t53 := Tryz.underlying176
  a53 := Tryz.isAgg176
  z53 := Tryz.sizeOf176
  v53 := Tryz.zeroValue176
  t131 := Tryz.underlying138
  a131 := Tryz.isAgg138
  z131 := Tryz.sizeOf138
  v131 := Tryz.zeroValue138
  t182 := Tryz.underlying166
  a182 := Tryz.isAgg166
  z182 := Tryz.sizeOf166
  v182 := Tryz.zeroValue166
  t183 := Tryz.underlying167
  a183 := Tryz.isAgg167
  z183 := Tryz.sizeOf167
  v183 := Tryz.zeroValue167
  t218 := Tryz.underlying216
  a218 := Tryz.isAgg216
  z218 := Tryz.sizeOf216
  v218 := Tryz.zeroValue216
  t222 := Tryz.underlying220
  a222 := Tryz.isAgg220
  z222 := Tryz.sizeOf220
  v222 := Tryz.zeroValue220
  t228 := Tryz.underlying238
  a228 := Tryz.isAgg238
  z228 := Tryz.sizeOf238
  v228 := Tryz.zeroValue238
  t229 := Tryz.underlying239
  a229 := Tryz.isAgg239
  z229 := Tryz.sizeOf239
  v229 := Tryz.zeroValue239 }
end Go.Proofs

namespace Go.Proofs.YtemeabkpllolmaaGreatDoor
open Go Go.Ai Go.Sort Go.Proofs
set_option maxRecDepth 100000

theorem good_grow {w : World} {s : St} {ι : Imap} (hR : R w s.H ι) (os : Array Go.Obj) : Go.Ai.Good w (grow w os) s s ι ι := by
  have lt : ∀ {b : Nat} {ob : Go.Obj}, w.heap[b]? = some ob → b < w.heap.size := fun h => (Array.getElem?_eq_some_iff.1 h).1
  have old : ∀ {b : Nat} {ob : Go.Obj}, w.heap[b]? = some ob → (grow w os).heap[b]? = some ob := fun h => by rw [heap_grow_old w os (lt h)]; exact h
  have hc : ∀ X, Chg X w (grow w os) := fun X => ⟨rfl, rfl, rfl, by simp [grow], fun b arr e fr h => ⟨arr, fr, old h, rfl, fun _ _ => rfl, fun _ => rfl⟩, fun b ob h _ _ => old h⟩
  have hR' : R (grow w os) s.H ι := ⟨fun n o h => by
    obtain ⟨b, base, h1, h2⟩ := hR.obj n o h
    exact ⟨b, base, h1, h2.step (heap_grow_old w os (hR.low _ _ _ h1)) fun d v h => h.step (hc _) (fun _ _ _ h => h) (fun _ _ h => h)⟩, hR.inj, fun n b base h => Nat.lt_of_lt_of_le (hR.low n b base h) (by simp [grow])⟩
  exact ⟨hR', hc _, fun _ _ h => h, fun _ _ h => .inl h, fun _ _ _ h => h, Nat.le_refl _, rfl, fun n o _ h => ⟨⟨o, h, Obj.like_refl o⟩, fun b base hb => heap_grow_old w os (hR.low _ _ _ hb)⟩⟩
theorem good_ahead {w : World} {s : St} {ι : Imap} (hR : R w s.H ι) (n : Nat) : Go.Ai.Good w (Sort.ahead w n) s s ι ι := by
  have hc : ∀ X, Chg X w (Sort.ahead w n) := fun X => ⟨rfl, rfl, rfl, Nat.le_refl _, fun b arr e fr h => ⟨arr, fr, h, rfl, fun _ _ => rfl, fun _ => rfl⟩, fun b ob h _ _ => h⟩
  have hR' : R (Sort.ahead w n) s.H ι := ⟨fun m o h => by
    obtain ⟨b, base, h1, h2⟩ := hR.obj m o h
    exact ⟨b, base, h1, h2.step rfl fun d v h => h.step (hc _) (fun _ _ _ h => h) (fun _ _ h => h)⟩, hR.inj, hR.low⟩
  exact ⟨hR', hc _, fun _ _ h => h, fun _ _ h => .inl h, fun _ _ _ h => h, Nat.le_refl _, rfl, fun n o _ h => ⟨⟨o, h, Obj.like_refl o⟩, fun _ _ _ => rfl⟩⟩

theorem body62 : Tryz.f62.body.isSome = true := by kernel_rfl
theorem name62 : (Tryz.f62.name == "runtime.NumGoroutine") = false := by kernel_rfl
theorem V_unit' {w : World} {X : Nat → Nat → Prop} {ι : Imap} : V w X ι (.tup []) (.tuple #[]) := .tup [] #[] rfl fun _ hi => absurd hi (Nat.not_lt_zero _)

/-- slices.Sort sorts, at the machine. -/
theorem sorts_ok : K36.Sorts (simC Tryz.prog) := by
  intro X L H lo nx ro hX hro hlen
  obtain ⟨c, hc⟩ := Option.isSome_iff_exists.1 body62
  refine ⟨⟨Tryz.f62, c, Tryz.func62, hc, name62⟩, fun w ι vs hv hR hd => ?_⟩
  have hs := hv.size
  obtain ⟨v, rfl⟩ : ∃ v, vs = #[v] := by
    match vs, hs with
    | ⟨[v]⟩, _ => exact ⟨v, rfl⟩
  have hv0 : V w (Xof H ι) ι X v := hv.v 0 (by simp)
  have none_ : ∀ (p : Option Addr) (cap : Nat), v = .slice p 0 cap → L = [] → Calls Tryz.prog 62 #[v] w fun e w' => ∃ s' ι', Go.Ai.Good w w' ⟨H, nx, ro⟩ s' ι ι' ∧ match e with
      | .returned v => ∃ d, (Out.ret d = .ret (.tup []) ∧ ∃ (L' : List Int) (H' : Heap) (n : Nat), s' = ⟨H', n, ro⟩ ∧ nx ≤ n ∧ L'.Perm L ∧ L'.Pairwise (· ≤ ·) ∧ Own H' lo n 3 X (L'.map I64) ∧ ∀ b, b < nx → nameOf X ≠ some b → lk H' b = lk H b) ∧ V w' (Xof s'.H ι') ι' d v
      | .panicked ch => ∃ d v, ch = [{ v, recovered := false }] ∧ (Out.pan d = .ret (.tup []) ∧ ∃ (L' : List Int) (H' : Heap) (n : Nat), s' = ⟨H', n, ro⟩ ∧ nx ≤ n ∧ L'.Perm L ∧ L'.Pairwise (· ≤ ·) ∧ Own H' lo n 3 X (L'.map I64) ∧ ∀ b, b < nx → nameOf X ≠ some b → lk H' b = lk H b) ∧ V w' (Xof s'.H ι') ι' d v
      | .outgrown => False := by
    intro p cap hvp hL
    subst hvp
    subst hL
    refine (Any.slices_Sort_int_none Tryz.laysSort p cap w).mono ?_
    rintro e w' ⟨rfl, rfl⟩
    exact ⟨⟨H, nx, ro⟩, ι, Go.Ai.Good.refl hR, .tup [], ⟨rfl, [], H, nx, rfl, Nat.le_refl _, .refl _, .nil, hX, fun _ _ _ => rfl⟩, V_unit'⟩
  rcases hX with ⟨h0, rfl⟩ | ⟨m, rfl, h1, h2, h3⟩
  · have hL : L = [] := by simpa using h0
    exact none_ none 0 (V_raw hv0) hL
  · cases hv0 with
    | sl _ b base _ _ _ cap ad arr e fr hi hl hb hsz had =>
      by_cases hL : L = []
      · subst hL
        exact none_ (some ad) cap rfl rfl
      · have hpos : 0 < L.length := List.length_pos_iff.2 hL
        have hlm : (L.map I64).length = L.length := List.length_map ..
        have had' : ad = ⟨b, base, none⟩ := by
          rcases had with h | h
          · simpa using h
          · omega
        subst had'
        obtain ⟨b', base', g1, arr', g2, g3, g4⟩ := hR.obj m _ h3
        rw [hi] at g1
        simp only [Option.some.injEq, Prod.mk.injEq] at g1
        obtain ⟨rfl, rfl⟩ := g1
        rw [hb] at g2
        simp only [Option.some.injEq, Go.Obj.cells.injEq] at g2
        obtain ⟨rfl, rfl, rfl⟩ := g2
        have hval : ∀ j, j < L.length → arr[base + j]? = some (.int .i64 (L.getD j 0)) := by
          intro j hj
          have h4 := g4 j (by omega)
          have e1 : (L.map I64).getD j default = I64 (L.getD j 0) := by simp [List.getD_eq_getElem?_getD, hj]
          rw [e1] at h4
          have h5 := V_raw h4
          have h6 : base + j < arr.size := by omega
          rw [Array.getD_eq_getD_getElem?, Array.getElem?_eq_getElem h6] at h5
          rw [Array.getElem?_eq_getElem h6]
          simpa using h5
        have hH : Holds (Value.int .i64) w b base L.toArray := by
          intro j hj
          have hj' : j < L.length := by simpa using hj
          refine ⟨?_, by simp [World.frozen?, hb]⟩
          simp only [World.cell?, hb, Option.isSome_none, Bool.false_eq_true, if_false]
          rw [hval j hj']
          simp [hj']
        have hblk : b < w.heap.size := (Array.getElem?_eq_some_iff.1 hb).1
        rw [hlm]
        refine (Any.slices_Sort_int Tryz.laysSort b base cap L w hH hblk (by omega)).mono ?_
        rintro e' w' ⟨rfl, k, os, rfl⟩
        have hperm : (L.mergeSort fun x y => decide (x ≤ y)).Perm L := List.mergeSort_perm L _
        have hsrt : (L.mergeSort fun x y => decide (x ≤ y)).Pairwise (· ≤ ·) := (List.pairwise_mergeSort (fun a b c h1 h2 => by simp at h1 h2 ⊢; omega) (fun a b => by simp; omega) L).imp fun h => by simpa using h
        generalize (L.mergeSort fun x y => decide (x ≤ y)) = L' at hperm hsrt
        have hll := hperm.length_eq
        have ga := good_ahead (s := ⟨H, nx, ro⟩) hR k
        have hbw : (Sort.ahead w k).heap[b]? = some (.cells arr 3 (0, 0)) := hb
        have hput : (putRow (Value.int .i64) (Sort.ahead w k) b base L'.toArray).heap[b]? = some (.cells (putCells (Value.int .i64) base L'.toArray arr) 3 (0, 0)) := by
          simp [putRow, mapBlock, Sort.ahead, Array.getElem?_modify, hb, onCells]
        have gu : Go.Ai.Good (Sort.ahead w k) (putRow (Value.int .i64) (Sort.ahead w k) b base L'.toArray) ⟨H, nx, ro⟩ { (⟨H, nx, ro⟩ : St) with H := upd H m (.cells (L'.map I64) 3 0) } ι ι := by
          have hn : ι nx = none := by
            cases e1 : ι nx with
            | none => rfl
            | some b => exact absurd (hd _ _ e1) (Nat.lt_irrefl _)
          refine good_upd ga.r hn h3 hi (Nat.le_trans hro h1) _ rfl rfl rfl (by simp [putRow, mapBlock]) (fun k' hk' => by simp [putRow, mapBlock, Array.getElem?_modify, Ne.symm hk']) (fun arr2 e2 fr2 hb2 => ?_) (fun x hx hne => ?_) (fun o ho => ho) ?_
          · rw [hbw] at hb2
            simp only [Option.some.injEq, Go.Obj.cells.injEq] at hb2
            obtain ⟨rfl, rfl, rfl⟩ := hb2
            refine ⟨_, hput, by simp [putCells], fun o ho => ?_⟩
            simp only [Obj.free, Nat.add_zero, Nat.not_le] at ho
            simp only [putCells, Array.getElem?_mapIdx]
            cases arr[o]? with
            | none => rfl
            | some x =>
              simp only [Option.map_some]
              rw [if_neg (by omega)]
          · rw [hbw] at hx
            simp only [Option.some.injEq] at hx
            exact absurd hx.symm (hne _ _ _)
          · intro hV
            refine ⟨_, hput, by simp only [List.length_map, putCells, Array.size_mapIdx]; omega, fun i hi' => ?_⟩
            rw [List.length_map] at hi'
            have h6 : base + i < arr.size := by omega
            have e1 : (L'.map I64).getD i default = I64 (L'.getD i 0) := by simp [List.getD_eq_getElem?_getD, hi']
            have e2 : (putCells (Value.int .i64) base L'.toArray arr).getD (base + i) undef = .int .i64 (L'.getD i 0) := by
              rw [Array.getD_eq_getD_getElem?]
              simp [putCells, h6, hi']
            rw [e1, e2]
            exact .raw _
        have gg := good_grow gu.r os
        refine ⟨_, ι, (ga.trans gu).trans gg, .tup [], ⟨rfl, L', _, nx, rfl, Nat.le_refl _, hperm, hsrt, Or.inr ⟨m, by rw [List.length_map, hll], h1, h2, ?_⟩, fun b' hb' hne => ?_⟩, V_unit'⟩
        · rw [lk_upd, if_pos rfl, h3]
          rfl
        · rw [lk_upd, if_neg (fun e1 => hne (by rw [e1]; rfl))]
end Go.Proofs.YtemeabkpllolmaaGreatDoor
