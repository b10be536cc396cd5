/-
  A part of an interpreter over abstract data, proved sound once for the model: what it says of the code, the machine does in every order. Conditions: none beyond the statement.
-/
import Derived.Test.YtemeabkpllolmaaGreatDoorInt3
import Derived.IntWalk
import Derived.Maps.RangeRun
/-! Aggregates, literals, make, clear. -/
set_option linter.unusedVariables false
set_option linter.unusedSimpArgs false
namespace Go.Ai
section
variable {P : Program} {w : World} {s : St} {ι : Imap} {T : List D} {a : Act} {o : Oper} {d : D} {s' : St}

/-- Cells of data against cells of memory. -/
structure CV (w : World) (X : Nat → Nat → Prop) (ι : Imap) (cs : List D) (arr : Array Value) : Prop where
  size : arr.size = cs.length
  v : ∀ i, i < cs.length → V w X ι (cs.getD i default) (arr.getD i undef)

theorem foldl_set (off : Nat) : ∀ (vs : List Value) (k : Nat) (arr : Array Value),
    ((vs.zipIdx k).foldl (fun cs (p : Value × Nat) => cs.setIfInBounds (off + p.2) p.1) arr).size = arr.size ∧
    ∀ i, i < arr.size → ((vs.zipIdx k).foldl (fun cs (p : Value × Nat) => cs.setIfInBounds (off + p.2) p.1) arr).getD i undef = if off + k ≤ i ∧ i < off + k + vs.length then vs.getD (i - (off + k)) undef else arr.getD i undef
  | [], k, arr => ⟨rfl, fun i hi => by
      have : ¬ (off + k ≤ i ∧ i < off + k + ([] : List Value).length) := by simp only [List.length_nil]; omega
      rw [if_neg this]; rfl⟩
  | v :: vs, k, arr => by
    obtain ⟨h1, h2⟩ := foldl_set off vs (k + 1) (arr.setIfInBounds (off + k) v)
    simp only [List.zipIdx_cons, List.foldl_cons]
    refine ⟨by rw [h1]; simp, fun i hi => ?_⟩
    rw [h2 i (by simpa using hi)]
    by_cases hc : off + (k + 1) ≤ i ∧ i < off + (k + 1) + vs.length
    · have hc2 : off + k ≤ i ∧ i < off + k + (v :: vs).length := by simp; omega
      rw [if_pos hc, if_pos hc2, show i - (off + k) = (i - (off + (k + 1))) + 1 by omega, List.getD_cons_succ]
    · rw [if_neg hc]
      by_cases he : i = off + k
      · subst he
        have hc2 : off + k ≤ off + k ∧ off + k < off + k + (v :: vs).length := by simp
        rw [if_pos hc2]
        simp [Array.getD_eq_getD_getElem?, Array.getElem?_setIfInBounds, hi]
      · have hc2 : ¬ (off + k ≤ i ∧ i < off + k + (v :: vs).length) := by simp; omega
        rw [if_neg hc2]
        simp [Array.getD_eq_getD_getElem?, Array.getElem?_setIfInBounds, Ne.symm he]

theorem fill_ok {place : Nat → Option (Nat × Nat)} {X : Nat → Nat → Prop} (hX : X = Xof s.H ι) (hT : TV w X ι T a.tmps) : ∀ (l : List (Nat × Operand)) (ps : List (Nat × Nat × Opd)) (cs cs' : List D) (arr : Array Value), parts place l = some ps → CV w X ι cs arr →
    fill 0 cs (ps.map fun p => (p.1, p.2.1, evO T p.2.2)) = some cs' → ∃ arr', Instr.fill place arr (l.map fun p => (p.1, a.eval p.2)) = some arr' ∧ CV w X ι cs' arr' ∧ (cs.all one = true → cs'.all one = true)
  | [], ps, cs, cs', arr, hp, hc, hf => by
    simp only [parts, Option.some.injEq] at hp
    subst hp
    simp only [List.map_nil, fill, Option.some.injEq] at hf
    subst hf
    exact ⟨arr, rfl, hc, fun h => h⟩
  | (i, x) :: l, ps, cs, cs', arr, hp, hc, hf => by
    simp only [parts] at hp
    split at hp
    case h_2 => cases hp
    rename_i off sz y ys h1 h2 h3
    simp only [Option.some.injEq] at hp
    subst hp
    simp only [List.map_cons, fill] at hf
    split at hf
    case isFalse => cases hf
    rename_i hcond
    obtain ⟨c1, c2, c3⟩ := hcond
    have vy := V_opd hT h2
    obtain ⟨g1, g2⟩ := cells_V vy c3
    have hstep : CV w X ι (splice cs off (cellsOf (evO T y))) ((a.eval x).cells.zipIdx.foldl (fun cs (p : Value × Nat) => cs.setIfInBounds (off + p.2) p.1) arr) := by
      have e : (a.eval x).cells.zipIdx.foldl (fun cs (p : Value × Nat) => cs.setIfInBounds (off + p.2) p.1) arr = ((a.eval x).cells.toList.zipIdx 0).foldl (fun cs (p : Value × Nat) => cs.setIfInBounds (off + p.2) p.1) arr := by
        rw [← Array.foldl_toList]
        congr 1
        simp
      rw [e]
      obtain ⟨f1, f2⟩ := foldl_set off (a.eval x).cells.toList 0 arr
      refine ⟨by rw [f1, length_splice _ _ _ (by omega)]; exact hc.size, fun i hi => ?_⟩
      rw [length_splice _ _ _ (by omega)] at hi
      rw [f2 i (by rw [hc.size]; exact hi), getD_splice _ _ _ _ (by omega)]
      simp only [Nat.add_zero, Array.length_toList, g1]
      by_cases hq : off ≤ i ∧ i < off + (cellsOf (evO T y)).length
      · rw [if_pos hq, if_pos hq]
        have := g2 (i - off) (by omega)
        simpa [List.getD_eq_getElem?_getD, Array.getD_eq_getD_getElem?] using this
      · rw [if_neg hq, if_neg hq]
        exact hc.v i hi
    obtain ⟨arr', k1, k2, k3⟩ := fill_ok hX hT l ys _ cs' _ h3 hstep hf
    refine ⟨arr', ?_, k2, fun hall => k3 ?_⟩
    · simp only [List.map_cons, Instr.fill, h1]
      rw [if_neg]
      · exact k1
      · simp only [ne_eq, Bool.or_eq_true, bne_iff_ne, decide_eq_true_eq, not_or, Decidable.not_not]
        have := hc.size
        omega
    · simp only [splice, List.all_append, Bool.and_eq_true]
      refine ⟨List.all_eq_true.2 fun x hx => List.all_eq_true.1 hall x (List.mem_of_mem_take hx), c3, List.all_eq_true.2 fun x hx => List.all_eq_true.1 hall x (List.mem_of_mem_drop hx)⟩

theorem run_mapM {α β : Type} (f : α → Sem β) (g : α → β) (w : World) : ∀ (l : List α), (∀ x ∈ l, (f x).run P w = .ok (g x) w) → (l.mapM f).run P w = .ok (l.map g) w
  | [], _ => by simp
  | x :: l, h => by
    have h0 := h x (by simp)
    have ih := run_mapM f g w l (fun y hy => h y (by simp [hy]))
    simp [List.mapM_cons, h0, ih]

theorem did_build_struct (hT : TV w (Xof s.H ι) ι T a.tmps) (hR : R w s.H ι) (hd : ι s.nx = none) {t : TypeId} {z : List D} {ps : Array (Nat × Operand)} {ps' : List (Nat × Nat × Opd)} {fs : Array Field} (ho : o.op = .build t ps) (hz : zeroCells P t = some z)
    (hu : P.underlying t = some (.struct fs)) (hps : parts (fun i => (fs[i]?).bind fun f => (szT P f.type).map fun n => (f.offset, n)) ps.toList = some ps') (hsz : fs.toList.all (fun f => (szT P f.type).isSome) = true)
    (he : exec (evO T) (.build z ps') s = some (d, s')) : Did P w s ι a o d s' := by
  simp only [exec] at he
  split at he
  case h_2 => cases he
  rename_i cs hf
  split at he
  case isFalse => cases he
  rename_i hone
  simp only [Option.some.injEq, Prod.mk.injEq] at he
  obtain ⟨rfl, rfl⟩ := he
  obtain ⟨zv, g1, g2, g3⟩ := cells_of_zero (w := w) (ι := ι) (X := Xof s.H ι) hz hone
  obtain ⟨arr', k1, k2, k3⟩ := fill_ok rfl hT ps.toList ps' z cs zv.cells hps ⟨g2, g3⟩ hf
  refine Did.still hR hd (v := .agg arr') ?_ (.agg _ _ k2.size k2.v)
  have hm : (fs.mapM fun f => (do pure (f.offset, ← sizeOf f.type) : Sem (Nat × Nat))).run P w = .ok (fs.map fun f => (f.offset, (szT P f.type).getD 0)) w := by
    rw [Array.mapM_eq_mapM_toList]
    have := run_mapM (P := P) (fun f : Field => (do pure (f.offset, ← sizeOf f.type) : Sem (Nat × Nat))) (fun f => (f.offset, (szT P f.type).getD 0)) w fs.toList (fun f hf => by
      have h := List.all_eq_true.1 hsz f hf
      obtain ⟨n, hn⟩ := Option.isSome_iff_exists.1 h
      simp [run_szT hn, hn])
    simp only [Sem.run_map, this, Result.andThen_ok]
    congr 1
    apply Array.ext'
    simp
  have hpl : (fun i : Nat => (fs[i]?).bind fun f : Field => (szT P f.type).map fun n => (f.offset, n)) = fun i : Nat => (fs.map fun f : Field => (f.offset, (szT P f.type).getD 0))[i]? := by
    funext i
    rw [Array.getElem?_map]
    cases hfi : fs[i]? with
    | none => rfl
    | some f =>
      have hmem : f ∈ fs.toList := by
        rw [Array.getElem?_eq_some_iff] at hfi
        obtain ⟨hlt, rfl⟩ := hfi
        exact Array.mem_toList_iff.2 (Array.getElem_mem hlt)
      have h := List.all_eq_true.1 hsz f hmem
      obtain ⟨n, hn⟩ := Option.isSome_iff_exists.1 h
      simp [hn]
  rw [hpl] at k1
  simp only [execOp, ho, Sem.run_bind, Instr.build, g1, Result.andThen_ok, run_under hu]
  rw [hm]
  simp only [Result.andThen_ok, Array.toList_map, k1, Sem.run_pure]

theorem did_build_array (hT : TV w (Xof s.H ι) ι T a.tmps) (hR : R w s.H ι) (hd : ι s.nx = none) {t e : TypeId} {n sz : Nat} {z : List D} {ps : Array (Nat × Operand)} {ps' : List (Nat × Nat × Opd)} (ho : o.op = .build t ps) (hz : zeroCells P t = some z)
    (hu : P.underlying t = some (.array n e)) (hs : szT P e = some sz) (hps : parts (fun i => some (i * sz, sz)) ps.toList = some ps')
    (he : exec (evO T) (.build z ps') s = some (d, s')) : Did P w s ι a o d s' := by
  simp only [exec] at he
  split at he
  case h_2 => cases he
  rename_i cs hf
  split at he
  case isFalse => cases he
  rename_i hone
  simp only [Option.some.injEq, Prod.mk.injEq] at he
  obtain ⟨rfl, rfl⟩ := he
  obtain ⟨zv, g1, g2, g3⟩ := cells_of_zero (w := w) (ι := ι) (X := Xof s.H ι) hz hone
  obtain ⟨arr', k1, k2, k3⟩ := fill_ok rfl hT ps.toList ps' z cs zv.cells hps ⟨g2, g3⟩ hf
  refine Did.still hR hd (v := .agg arr') ?_ (.agg _ _ k2.size k2.v)
  simp [execOp, ho, Instr.build, g1, run_under hu, run_szT hs, k1]

theorem repZ_length (z : List D) : ∀ n, (repZ z n).length = n * z.length
  | 0 => by simp [repZ]
  | n + 1 => by simp [repZ, repZ_length z n, Nat.add_mul]; omega
theorem repZ_getD (z : List D) : ∀ (n i : Nat), i < n * z.length → (repZ z n).getD i default = z.getD (i % z.length) default
  | 0, i, h => by omega
  | n + 1, i, h => by
    simp only [repZ, List.getD_eq_getElem?_getD, List.getElem?_append]
    by_cases hi : i < z.length
    · simp [hi, Nat.mod_eq_of_lt hi]
    · have h2 : i - z.length < n * z.length := by rw [Nat.add_mul, Nat.one_mul] at h; omega
      have ih := repZ_getD z n (i - z.length) h2
      simp only [List.getD_eq_getElem?_getD] at ih
      have hm : (i - z.length) % z.length = i % z.length := (Nat.mod_eq_sub_mod (by omega)).symm
      rw [if_neg hi, ih, hm]

theorem CV_rep {X : Nat → Nat → Prop} {z : List D} {zs : Array Value} (n : Nat) (h : CV w X ι z zs) (hz : 0 < z.length) : CV w X ι (repZ z n) ((Array.range (n * z.length)).map (fun i => zs[i % zs.size]!)) := by
  refine ⟨by simp [repZ_length], fun i hi => ?_⟩
  rw [repZ_length] at hi
  rw [repZ_getD z n i hi]
  have hm : i % z.length < z.length := Nat.mod_lt _ hz
  have := h.v (i % z.length) hm
  have e : ((Array.range (n * z.length)).map (fun i => zs[i % zs.size]!)).getD i undef = zs.getD (i % z.length) undef := by
    have hb : i % z.length < zs.size := by rw [h.size]; exact hm
    have h1 : i < ((Array.range (n * z.length)).map (fun i => zs[i % zs.size]!)).size := by simpa using hi
    rw [Array.getD_eq_getD_getElem?, Array.getElem?_eq_getElem h1]
    simp only [Option.getD_some, Array.getElem_map, Array.getElem_range, h.size]
    rw [getElem!_pos zs (i % z.length) hb, Array.getD_eq_getD_getElem?, Array.getElem?_eq_getElem hb]
    rfl
  rw [e]
  exact this

theorem repZ_one {z : List D} (h : z.all one = true) : ∀ n, (repZ z n).all one = true
  | 0 => rfl
  | n + 1 => by simp only [repZ, List.all_append, h, repZ_one h n, Bool.and_self]

theorem did_bslice (hT : TV w (Xof s.H ι) ι T a.tmps) (hR : R w s.H ι) (hd : ι s.nx = none) {t e : TypeId} {n sz : Nat} {z : List D} {ps : Array (Nat × Operand)} {ps' : List (Nat × Nat × Opd)} (ho : o.op = .buildSlice t n ps) (hz : zeroCells P e = some z)
    (hu : P.underlying t = some (.slice e)) (hs : szT P e = some sz) (hps : parts (fun i => some (i * sz, sz)) ps.toList = some ps') (hzl : z.length = sz) (hsz : 0 < sz)
    (he : exec (evO T) (.bslice e sz n z ps') s = some (d, s')) : Did P w s ι a o d s' := by
  simp only [exec] at he
  split at he
  case h_2 => cases he
  rename_i cs hf
  split at he
  case isFalse => cases he
  rename_i hc
  obtain ⟨hone, _, hbig⟩ := hc
  simp only [Option.some.injEq, Prod.mk.injEq] at he
  obtain ⟨rfl, rfl⟩ := he
  obtain ⟨zv, g1, g2, g3⟩ := cells_of_zero (w := w) (ι := ι) (X := Xof s.H ι) hz hone
  -- the zeroes, whether the slice is empty or not
  have hz0 : ∃ z0 : Array Value, (if n * sz = 0 then pure #[] else (do pure (← zeroValue e).cells : Sem (Array Value)) : Sem (Array Value)).run P w = .ok z0 w ∧ CV w (Xof s.H ι) ι (repZ z n) ((Array.range (n * sz)).map (fun i => z0[i % z0.size]!)) := by
    by_cases h0 : n * sz = 0
    · refine ⟨#[], by simp [h0], ?_⟩
      have hn : n = 0 := by
        rcases Nat.mul_eq_zero.1 h0 with h | h
        · exact h
        · omega
      subst hn
      exact ⟨by simp [repZ], fun i hi => absurd hi (by simp [repZ])⟩
    · refine ⟨zv.cells, by simp [h0, g1], ?_⟩
      rw [← hzl]
      exact CV_rep n ⟨g2, g3⟩ (by omega)
  obtain ⟨z0, q1, q2⟩ := hz0
  obtain ⟨arr', k1, k2, k3⟩ := fill_ok rfl hT ps.toList ps' _ cs _ hps q2 hf
  have hlen : cs.length = n * sz := by
    have h1 := k2.size
    have key : ∀ (l : List (Nat × Nat × D)) (cs cs' : List D), fill 0 cs l = some cs' → cs'.length = cs.length := by
      intro l
      induction l with
      | nil => intro cs cs' h; simp only [fill, Option.some.injEq] at h; rw [h]
      | cons p l ih =>
        intro cs cs' h
        obtain ⟨off, sz, d⟩ := p
        simp only [fill] at h
        split at h
        case isFalse => cases h
        rename_i hc
        rw [ih _ _ h, length_splice _ _ _ (by omega)]
    rw [key _ _ _ hf, repZ_length, hzl]
  refine ⟨.slice (some ⟨w.heap.size, 0, none⟩) n n, w.alloc (.cells arr' e), _, .inl ?_, good_new_cells hR hd arr' e cs 0 (by rw [k2.size]; exact Nat.le_refl _) k2.v, ?_⟩
  · have hb : ¬ (n * sz > 2 ^ 24) := by omega
    simp only [execOp, ho, Sem.run_bind, Instr.buildSlice, run_under hu, Result.andThen_ok, run_szT hs, Sem.run_ite, if_neg hb, Sem.run_pure]
    by_cases h0 : n * sz = 0
    · rw [if_pos h0] at q1 ⊢
      simp only [Sem.run_pure, Result.ok.injEq, and_true] at q1
      subst q1
      simp only [Array.toList_map, k1, Sem.run_bind, newRow, run_newObj, Result.andThen_ok, Sem.run_pure]
      rfl
    · rw [if_neg h0] at q1 ⊢
      simp only [Sem.run_bind, g1, Result.andThen_ok, Sem.run_pure, Result.ok.injEq, and_true] at q1
      subst q1
      simp only [g1, Result.andThen_ok, Array.toList_map, k1, Sem.run_bind, newRow, run_newObj, Sem.run_pure]
      rfl
  · have hsz' : arr'.size = n * sz := by rw [k2.size, hlen]
    exact .sl s.nx w.heap.size 0 0 n sz n ⟨w.heap.size, 0, none⟩ arr' e (0, 0) (by simp [ext]) (Nat.le_refl _) (by simp only [World.alloc, Array.getElem?_push_size]) (by omega) (.inl (by simp))

theorem did_mk (hT : TV w (Xof s.H ι) ι T a.tmps) (hR : R w s.H ι) (hd : ι s.nx = none) {t e : TypeId} {sz bytes : Nat} {z : List D} {x y : Operand} {x' y' : Opd} (ho : o.op = .makeSlice t x y) (hz : zeroCells P e = some z)
    (hu : P.underlying t = some (.slice e)) (hs : szT P e = some sz) (hb : bytesT P e = some bytes) (hx : opd x = some x') (hy : opd y = some y') (hzl : z.length = sz) (hsz : 0 < sz)
    (he : exec (evO T) (.mk e sz bytes z x' y') s = some (d, s')) : Did P w s ι a o d s' := by
  have vx := V_opd hT hx
  have vy := V_opd hT hy
  simp only [exec] at he
  split at he
  case h_2 => cases he
  rename_i l c hl hc
  rw [hl] at vx
  rw [hc] at vy
  have qx := V_raw vx
  have qy := V_raw vy
  split at he
  case isFalse => cases he
  rename_i hcond
  obtain ⟨c1, c2, c3, c4, hone, _, c5⟩ := hcond
  simp only [Option.some.injEq, Prod.mk.injEq] at he
  obtain ⟨rfl, rfl⟩ := he
  subst c5
  obtain ⟨m, rfl⟩ := Int.eq_ofNat_of_zero_le c1
  obtain ⟨zv, g1, g2, g3⟩ := cells_of_zero (w := w) (ι := ι) (X := Xof s.H ι) hz hone
  have hw : IntKind.i64.wrap (m : Int) = m := by
    have : (m : Int) ≤ 140737488355328 := by simpa using c4
    exact IntWalk.i64_in _ (by omega)
  have hbi : (typeInfo e).run P w = .ok ((P.info? e).getD default) w ∧ ((P.info? e).getD default).bytes = bytes := by
    unfold bytesT at hb
    cases hi : P.info? e with
    | none => simp [hi] at hb
    | some i => simp [hi] at hb; simp [typeInfo, hi, hb]
  obtain ⟨hti, htb⟩ := hbi
  have hcv : ∃ z0 : Array Value, (if m * sz = 0 then pure #[] else (do pure (← zeroValue e).cells : Sem (Array Value)) : Sem (Array Value)).run P w = .ok z0 w ∧ CV w (Xof s.H ι) ι (repZ z m) ((Array.range (m * sz)).map (fun i => z0[i % z0.size]!)) := by
    by_cases h0 : m * sz = 0
    · refine ⟨#[], by simp [h0], ?_⟩
      have hn : m = 0 := by
        rcases Nat.mul_eq_zero.1 h0 with h | h
        · exact h
        · omega
      subst hn
      exact ⟨by simp [repZ], fun i hi => absurd hi (by simp [repZ])⟩
    · refine ⟨zv.cells, by simp [h0, g1], ?_⟩
      rw [← hzl]
      exact CV_rep m ⟨g2, g3⟩ (by omega)
  obtain ⟨z0, q1, q2⟩ := hcv
  have hlarge : ¬ ((bytes : Int) * (m : Int) > 2 ^ 48) := by
    have : (m : Int) * bytes ≤ 2 ^ 47 := c3
    rw [Int.mul_comm]
    omega
  refine ⟨.slice (some ⟨w.heap.size, 0, none⟩) m m, w.alloc (.cells ((Array.range (m * sz)).map (fun i => z0[i % z0.size]!)) e), _, .inl ?_, good_new_cells hR hd _ e (repZ z (m : Int).toNat) 0 (by simpa using Nat.le_of_eq q2.size.symm) (by simpa using q2.v), ?_⟩
  · have hm0 : ¬ ((m : Int) < 0) := by omega
    simp only [execOp, ho, Sem.run_bind, Instr.makeSlice, run_under hu, Result.andThen_ok, qx, qy, asInt, asIntOf, Sem.run_pure, hti, htb, hw]
    have hcnd : (decide ((m : Int) < 0) || decide ((bytes : Int) * (m : Int) > 2 ^ 48) || decide ((m : Int) < 0) || decide ((m : Int) > (m : Int))) = false := by
      simp only [hm0, hlarge, decide_false, Bool.or_self, Int.lt_irrefl, gt_iff_lt]
    simp only [hcnd, Bool.false_eq_true, if_false, Sem.run_bind, run_askRoom, Result.andThen_ok, run_szT hs, Int.toNat_natCast, Sem.run_pure]
    by_cases h0 : m * sz = 0
    · rw [if_pos h0] at q1 ⊢
      simp only [Sem.run_pure, Result.ok.injEq, and_true] at q1
      subst q1
      simp only [Sem.run_bind, newRow, run_newObj, Result.andThen_ok, Sem.run_pure]
      rfl
    · rw [if_neg h0] at q1 ⊢
      simp only [Sem.run_bind, g1, Result.andThen_ok, Sem.run_pure, Result.ok.injEq, and_true] at q1
      subst q1
      simp only [g1, Result.andThen_ok, Sem.run_bind, newRow, run_newObj, Sem.run_pure]
      rfl
  · have := q2.size
    rw [repZ_length, hzl] at this
    simp only [Int.toNat_natCast]
    exact .sl s.nx w.heap.size 0 0 m sz m ⟨w.heap.size, 0, none⟩ ((Array.range (m * sz)).map (fun i => z0[i % z0.size]!)) e (0, 0) (by simp [ext]) (Nat.le_refl _) (by simp only [World.alloc, Array.getElem?_push_size]) (by omega) (.inl (by simp))
end
end Go.Ai
/-! clear, map updates, append. -/
set_option linter.unusedVariables false
set_option linter.unusedSimpArgs false
namespace Go.Ai
section
variable {P : Program} {w : World} {s : St} {ι : Imap} {T : List D} {a : Act} {o : Oper} {d : D} {s' : St}

theorem V_unit {X : Nat → Nat → Prop} : V w X ι (.tup []) (.tuple #[]) := .tup [] #[] rfl fun i hi => absurd hi (Nat.not_lt_zero _)

theorem row_self (arr : Array Value) (k : Nat) : (arr.toList.take k ++ ([] : List Value) ++ arr.toList.drop (k + ([] : List Value).length)).toArray = arr := by
  apply Array.ext'
  simp

theorem did_clear (hT : TV w (Xof s.H ι) ι T a.tmps) (hR : R w s.H ι) (hd : ι s.nx = none) {t e : TypeId} {sz : Nat} {z : List D} {x : Operand} {x' : Opd} {c : Call} (ho : o.op = .call c) (hc : c.callee = .builtin .clear) (hat : c.argTypes = #[t]) (hargs : c.args = #[x]) (hx : opd x = some x')
    (hu : P.underlying t = some (.slice e)) (hs : szT P e = some sz) (hz : zeroCells P e = some z) (hzl : z.length = sz)
    (he : exec (evO T) (.clear sz z x') s = some (d, s')) : Did P w s ι a o d s' := by
  have vx := V_opd hT hx
  have run1 : ∀ v w', a.eval x = v → (Builtin.clear_ #[t] o.type #[v]).run P w = .ok (.tuple #[]) w' → (execOp a.eval o).run P w = .ok (.value (.tuple #[])) w' := by
    intro v w' hv hr
    simp [execOp, ho, resolve, hc, hargs, hat, hv, invoke, builtin, hr]
  simp only [exec] at he
  split at he
  · rename_i hq
    rw [hq] at vx
    simp only [Option.some.injEq, Prod.mk.injEq] at he
    obtain ⟨rfl, rfl⟩ := he
    exact Did.still hR hd (run1 _ _ (V_raw vx) (by simp [Builtin.clear_, run_under hu])) V_unit
  · rename_i hq
    rw [hq] at vx
    simp only [Option.some.injEq, Prod.mk.injEq] at he
    obtain ⟨rfl, rfl⟩ := he
    generalize hv : a.eval x = v at vx
    cases vx with
    | e0 A =>
      cases A with
      | none => exact Did.still hR hd (run1 _ _ hv (by simp [Builtin.clear_, run_under hu])) V_unit
      | some ad => exact Did.still hR hd (run1 _ _ hv (by simp [Builtin.clear_, run_under hu])) V_unit
  · rename_i n off len sz' hq
    rw [hq] at vx
    split at he
    case h_2 => cases he
    rename_i cs e' lo hl
    split at he
    case isFalse => cases he
    rename_i hcond
    obtain ⟨rfl, c1, c2, c3, c4, c5⟩ := hcond
    simp only [Option.some.injEq, Prod.mk.injEq] at he
    obtain ⟨rfl, rfl⟩ := he
    generalize hv : a.eval x = v at vx
    cases vx with
    | sl n b base off len sz' cap ad arr ee fr k1 k2 k3 k4 k5 =>
      obtain ⟨b', base', g1, arr', g2, g3, g4⟩ := hR.obj _ _ hl
      rw [k1] at g1
      simp only [Option.some.injEq, Prod.mk.injEq] at g1
      obtain ⟨rfl, rfl⟩ := g1
      rw [k3] at g2
      simp only [Option.some.injEq, Go.Obj.cells.injEq] at g2
      obtain ⟨rfl, rfl, rfl⟩ := g2
      obtain ⟨zv, q1, q2, q3⟩ := cells_of_zero (w := w) (ι := ι) (X := Xof s.H ι) hz c2
      have hrl : (repZ z len).length = len * sz' := by rw [repZ_length, hzl]
      rcases Nat.eq_zero_or_pos len with h0 | h0
      · subst h0
        have hrow := row_self arr (base + off)
        have hg := good_cells (w := w) hR hd hl k1 c5 k3 g3 g4 (ds := []) (vs := []) rfl (fun i hi => absurd hi (Nat.not_lt_zero _)) (off := off) (by simp; omega) c4 (splice cs off (repZ z 0)) (by rw [length_splice _ _ _ (by omega)]; exact g3)
          (fun i hi => by rw [getD_splice _ _ _ _ (by omega)]; rfl) (fun i hi => .inl (by rwa [length_splice _ _ _ (by omega)] at hi))
        rw [hrow, setRow_self w b arr _ _ k3] at hg
        exact ⟨_, _, _, .inl (run1 _ _ hv (by simp [Builtin.clear_, run_under hu])), hg, V_unit⟩
      · rcases k5 with rfl | k5
        case inr => omega
        have hcv : CV w (Xof s.H ι) ι (repZ z len) (Builtin.zeroCells zv.cells len) := by
          rcases Nat.eq_zero_or_pos sz' with hs0 | hs0
          · have hz0 : z = [] := List.eq_nil_of_length_eq_zero (by omega)
            have hzv : zv.cells.size = 0 := by rw [q2, hz0]; rfl
            refine ⟨by simp [Builtin.zeroCells, hrl, hzv, hs0], fun i hi => ?_⟩
            rw [hrl, hs0] at hi
            omega
          · have := CV_rep (w := w) (X := Xof s.H ι) (ι := ι) len (z := z) (zs := zv.cells) ⟨q2, q3⟩ (by omega)
            have e1 : Builtin.zeroCells zv.cells len = (Array.range (len * z.length)).map (fun i => zv.cells[i % zv.cells.size]!) := by simp [Builtin.zeroCells, q2]
            rwa [e1]
        have hvs : ∀ i, i < (repZ z len).length → V w (Xof s.H ι) ι ((repZ z len).getD i default) ((Builtin.zeroCells zv.cells len).toList.getD i undef) := by
          intro i hi
          have := hcv.v i hi
          simpa [List.getD_eq_getElem?_getD, Array.getD_eq_getD_getElem?] using this
        have hlen : (Builtin.zeroCells zv.cells len).toList.length = (repZ z len).length := by simpa using hcv.size
        have hone := one_cells hlen hvs (repZ_one c2 len)
        have hst := run_storeCells_at P b (base + off) _ (Builtin.zeroCells zv.cells len).toList 0 arr w k3 (by rw [hlen, hrl]; omega) hone
        simp only [Nat.add_zero] at hst
        refine ⟨_, _, _, .inl (run1 _ _ hv ?_), good_cells (w := w) hR hd hl k1 c5 k3 g3 g4 hlen hvs (by rw [hrl]; omega) c4 (splice cs off (repZ z len)) (by rw [length_splice _ _ _ (by omega)]; exact g3)
          (fun i hi => getD_splice _ _ _ _ (by omega)) (fun i hi => .inl (by rwa [length_splice _ _ _ (by omega)] at hi)), V_unit⟩
        obtain ⟨m, rfl⟩ : ∃ m, len = m + 1 := ⟨len - 1, by omega⟩
        simp [Builtin.clear_, run_under hu, q1, hst]
  · cases he

theorem run_keyStays {kk : Nat} {x y : Value} (h : keyEq kk x y = some true) : (Instr.keyThatStays y x).run P w = .ok x w := by
  have : Instr.sameBits 10000 y x = true := by
    unfold keyEq at h
    split at h <;> first | contradiction | skip
    · split at h
      case isFalse => cases h
      rename_i hk
      subst hk
      simp only [Option.some.injEq, beq_iff_eq] at h
      subst h
      have : ∀ n k m, Instr.sameBits n (.int k m) (.int k m) = true := by intro n k m; cases n <;> simp [Instr.sameBits]
      exact this _ _ _
    · rename_i u v
      simp only [Option.some.injEq] at h
      rw [beq_toListBytes, beq_iff_eq] at h
      have : ∀ n, Instr.sameBits n (.string v) (.string u) = (v == u) := by intro n; cases n <;> simp [Instr.sameBits]
      rw [this, beq_toListBytes, h]
      exact beq_self_eq_true _
    · simp only [Option.some.injEq, beq_iff_eq] at h
      subst h
      have : ∀ n m, Instr.sameBits n (.bool m) (.bool m) = true := by intro n m; cases n <;> simp [Instr.sameBits]
      exact this _ _
  simp [Instr.keyThatStays, this]

theorem did_mupd (hT : TV w (Xof s.H ι) ι T a.tmps) (hR : R w s.H ι) (hd : ι s.nx = none) {x y z : Operand} {x' y' z' : Opd} {t kt et : TypeId} {kk : Nat} (ho : o.op = .mapUpdate t x y z ∨ o.op = .insert t x y z) (hx : opd x = some x') (hy : opd y = some y') (hz : opd z = some z')
    (hu : P.underlying t = some (.map kt et)) (hk : kindT P kt = some kk) (he : exec (evO T) (.mupd kk x' y' z') s = some (d, s')) : Did P w s ι a o d s' := by
  have vx := V_opd hT hx
  have vy := V_opd hT hy
  have vz := V_opd hT hz
  have run1 : ∀ w', (Instr.mapUpdate t (a.eval x) (a.eval y) (a.eval z)).run P w = .ok () w' → (execOp a.eval o).run P w = .ok .skip w' := by
    intro w' hr
    rcases ho with ho | ho <;> simp [execOp, ho, hr]
  simp only [exec] at he
  split at he
  case h_2 => cases he
  rename_i n kv hn hkv
  rw [hn] at vx
  rw [hkv] at vy
  have qy := V_raw vy
  split at he
  case h_2 => cases he
  rename_i es hl
  split at he
  case isFalse => cases he
  rename_i hro
  generalize hv : a.eval x = v at vx
  cases vx with
  | map n b base hi =>
    obtain ⟨b', base', g1, ents, clock, g2, g3, g4, g5, g6, g7⟩ := hR.obj _ _ hl
    rw [hi] at g1
    simp only [Option.some.injEq, Prod.mk.injEq] at g1
    obtain ⟨rfl, rfl⟩ := g1
    have hck : (Instr.checkKey false 10000 kt (a.eval y)).run P w = .ok () w := checkKey_kind hk false 9999 _
    have hlt : b < w.heap.size := (Array.getElem?_eq_some_iff.1 g2).1
    -- the block written
    have hset : ∀ (ents' : Array MapEntry) (clock' : Nat) (es' : List (Value × D)), ents'.size = es'.length → (∀ i, i < es'.length → (ents'.getD i default).key = (es'.getD i default).1) →
        (∀ (X' : Nat → Nat → Prop) (w' : World), (∀ d v, V w (Xof s.H ι) ι d v → V w' X' ι d v) → ∀ i, i < es'.length → V w' X' ι (es'.getD i default).2 (ents'.getD i default).val) → (clock' = es'.length ∧ ∀ i, i < es'.length → (ents'.getD i default).born = i) →
        Good w { w with heap := w.heap.setIfInBounds b (.map ents' clock') } s { s with H := upd s.H n (.map es' false) } ι ι := by
      intro ents' clock' es' h1 h2 h3 h4
      refine good_upd hR hd hl hi hro _ rfl rfl rfl (by simp) (fun k hk => by simp [Array.getElem?_setIfInBounds, Ne.symm hk]) (fun arr e fr hb => absurd hb (by rw [g2]; simp)) (fun _ _ _ => rfl) (fun _ _ => rfl) ?_
      intro hV
      exact ⟨ents', clock', by simp [Array.getElem?_setIfInBounds, hlt], h1, h2, fun i hi => h3 _ _ hV i hi, h4⟩
    split at he
    · rename_i i dd hf
      rcases run_findKey (P := P) (w := w) hk g3 g4 hf with ⟨h1, h2⟩ | ⟨j, dd', h1, h2, h3, h4, h5⟩
      · cases h1
      · simp only [Option.some.injEq, Prod.mk.injEq] at h1
        obtain ⟨rfl, rfl⟩ := h1
        simp only [Option.some.injEq, Prod.mk.injEq] at he
        obtain ⟨rfl, rfl⟩ := he
        have hjs : i < ents.size := by omega
        have hkeep : (Instr.keyThatStays (((ents[i]?).map (·.key)).getD (a.eval y)) (a.eval y)).run P w = .ok (a.eval y) w := by
          have e1 : ((ents[i]?).map (·.key)).getD (a.eval y) = (es.getD i default).1 := by
            have := g4 i h2
            rw [Array.getD_eq_getD_getElem?] at this
            rw [Array.getElem?_eq_getElem hjs] at this ⊢
            simpa using this
          rw [e1, qy]
          exact run_keyStays h4
        refine ⟨undef, _, ι, .inr ⟨run1 _ ?_, rfl⟩, hset (ents.modify i fun e => { e with key := a.eval y, val := a.eval z }) clock (es.set i (kv, evO T z')) (by simpa using g3) ?_ ?_ ?_, .raw _⟩
        · simp only [Instr.mapUpdate, Sem.run_bind, run_under hu, Result.andThen_ok, hv, getObj, Sem.run, g2, Sem.run_pure, hck]
          rw [qy, h5]
          simp only [Result.andThen_ok]
          rw [← qy]
          simp only [Sem.run_bind, hkeep, Result.andThen_ok, setObj, Sem.run, g2]
        · intro m hm
          rw [List.length_set] at hm
          by_cases hmi : m = i
          · subst hmi
            have e1 : (es.set m (kv, evO T z')).getD m default = (kv, evO T z') := by simp [List.getD_eq_getElem?_getD, h2]
            have e2 : ((ents.modify m fun e => { e with key := a.eval y, val := a.eval z }).getD m default) = (fun e : MapEntry => { e with key := a.eval y, val := a.eval z }) ents[m] := by
              rw [Array.getD_eq_getD_getElem?, Array.getElem?_modify, if_pos rfl, Array.getElem?_eq_getElem hjs]
              rfl
            rw [e1, e2]
            exact qy
          · have := g4 m hm
            simpa [Array.getD_eq_getD_getElem?, Array.getElem?_modify, Ne.symm hmi, List.getD_eq_getElem?_getD, List.getElem?_set] using this
        · intro X' w' hV m hm
          rw [List.length_set] at hm
          by_cases hmi : m = i
          · subst hmi
            have := hV _ _ vz
            have e1 : (es.set m (kv, evO T z')).getD m default = (kv, evO T z') := by simp [List.getD_eq_getElem?_getD, h2]
            have e2 : ((ents.modify m fun e => { e with key := a.eval y, val := a.eval z }).getD m default) = (fun e : MapEntry => { e with key := a.eval y, val := a.eval z }) ents[m] := by
              rw [Array.getD_eq_getD_getElem?, Array.getElem?_modify, if_pos rfl, Array.getElem?_eq_getElem hjs]
              rfl
            rw [e1, e2]
            exact this
          · have := hV _ _ (g5 m hm)
            simpa [Array.getD_eq_getD_getElem?, Array.getElem?_modify, Ne.symm hmi, List.getD_eq_getElem?_getD, List.getElem?_set] using this
        · refine ⟨by simpa using g6, fun m hm => ?_⟩
          rw [List.length_set] at hm
          have h7 := g7 m hm
          rw [Array.getD_eq_getD_getElem?] at h7 ⊢
          rw [Array.getElem?_modify]
          split
          · rename_i e
            subst e
            rw [Array.getElem?_eq_getElem hjs] at h7 ⊢
            exact h7
          · exact h7
    · rename_i hf
      rcases run_findKey (P := P) (w := w) hk g3 g4 hf with ⟨h1, h2⟩ | ⟨j, dd', h1, h2, h3, h4, h5⟩
      · simp only [Option.some.injEq, Prod.mk.injEq] at he
        obtain ⟨rfl, rfl⟩ := he
        refine ⟨undef, _, ι, .inr ⟨run1 _ ?_, rfl⟩, hset (ents.push { key := a.eval y, val := a.eval z, born := clock }) (clock + 1) (es ++ [(kv, evO T z')]) (by simpa using g3) ?_ ?_ ?_, .raw _⟩
        · simp only [Instr.mapUpdate, Sem.run_bind, run_under hu, Result.andThen_ok, hv, getObj, Sem.run, g2, Sem.run_pure, hck]
          rw [qy, h2]
          simp only [Result.andThen_ok, setObj, Sem.run, g2]
        · intro m hm
          rw [List.length_append, List.length_singleton] at hm
          by_cases hme : m = es.length
          · subst hme
            have e1 : (es ++ [(kv, evO T z')]).getD es.length default = (kv, evO T z') := by simp [List.getD_eq_getElem?_getD]
            have e2 : ((ents.push { key := a.eval y, val := a.eval z, born := clock }).getD es.length default) = { key := a.eval y, val := a.eval z, born := clock } := by
              simp [Array.getD_eq_getD_getElem?, Array.getElem?_push, ← g3]
            rw [e1, e2]
            exact qy
          · have hm' : m < es.length := by omega
            have := g4 m hm'
            have hms : m ≠ ents.size := by omega
            simpa [Array.getD_eq_getD_getElem?, Array.getElem?_push, hms, List.getD_eq_getElem?_getD, List.getElem?_append, hm'] using this
        · intro X' w' hV m hm
          rw [List.length_append, List.length_singleton] at hm
          by_cases hme : m = es.length
          · subst hme
            have := hV _ _ vz
            have e1 : (es ++ [(kv, evO T z')]).getD es.length default = (kv, evO T z') := by simp [List.getD_eq_getElem?_getD]
            have e2 : ((ents.push { key := a.eval y, val := a.eval z, born := clock }).getD es.length default) = { key := a.eval y, val := a.eval z, born := clock } := by
              simp [Array.getD_eq_getD_getElem?, Array.getElem?_push, ← g3]
            rw [e1, e2]
            exact this
          · have hm' : m < es.length := by omega
            have := hV _ _ (g5 m hm')
            have hms : m ≠ ents.size := by omega
            simpa [Array.getD_eq_getD_getElem?, Array.getElem?_push, hms, List.getD_eq_getElem?_getD, List.getElem?_append, hm'] using this
        · refine ⟨by simp [g6], fun m hm => ?_⟩
          rw [List.length_append, List.length_singleton] at hm
          rw [Array.getD_eq_getD_getElem?, Array.getElem?_push]
          split
          · rename_i e
            show clock = m
            omega
          · rename_i e
            have h7 := g7 m (by omega)
            rw [Array.getD_eq_getD_getElem?] at h7
            exact h7
      · cases h1
    · cases he
end
end Go.Ai
/-! append. -/
set_option linter.unusedVariables false
set_option linter.unusedSimpArgs false
namespace Go.Ai

theorem flatten_length {α : Type} (xs : List (List α)) (sz : Nat) (h : ∀ i, i < xs.length → (xs.getD i []).length = sz) : xs.flatten.length = xs.length * sz := by
  induction xs with
  | nil => simp
  | cons x xs ih =>
    have h0 := h 0 (by simp)
    simp only [List.getD_cons_zero] at h0
    have := ih fun i hi => by have := h (i + 1) (by simpa using hi); simpa [List.getD_eq_getElem?_getD] using this
    simp [this, h0, Nat.add_mul]
    omega
theorem flatten_getD {α : Type} (d : α) (xs : List (List α)) (sz : Nat) (h : ∀ i, i < xs.length → (xs.getD i []).length = sz) (m : Nat) (hm : m < xs.length * sz) : xs.flatten.getD m d = (xs.getD (m / sz) []).getD (m % sz) d := by
  induction xs generalizing m with
  | nil => simp at hm
  | cons x xs ih =>
    have h0 := h 0 (by simp)
    simp only [List.getD_cons_zero] at h0
    have hs : 0 < sz := by
      rcases Nat.eq_zero_or_pos sz with h | h
      · subst h; simp at hm
      · exact h
    simp only [List.flatten_cons, List.getD_eq_getElem?_getD, List.getElem?_append]
    by_cases hq : m < x.length
    · have h1 : m / sz = 0 := Nat.div_eq_of_lt (by omega)
      have h2 : m % sz = m := Nat.mod_eq_of_lt (by omega)
      simp [hq, h1, h2]
    · have hge : sz ≤ m := by omega
      have hm' : m - sz < xs.length * sz := by simp only [List.length_cons, Nat.add_mul, Nat.one_mul] at hm; omega
      have := ih (fun i hi => by have := h (i + 1) (by simpa using hi); simpa [List.getD_eq_getElem?_getD] using this) (m - sz) hm'
      have e1 : m / sz = (m - sz) / sz + 1 := by
        have : m = (m - sz) + sz := by omega
        conv => lhs; rw [this]
        exact Nat.add_div_right _ hs
      have e2 : m % sz = (m - sz) % sz := Nat.mod_eq_sub_mod hge
      rw [if_neg hq, e1, e2, h0]
      simpa [List.getD_eq_getElem?_getD] using this

section
variable {P : Program} {w : World} {s : St} {ι : Imap} {T : List D} {a : Act} {o : Oper} {d : D} {s' : St}

/-- What is appended lies in memory. -/
theorem elems_ok (hR : R w s.H ι) {y : D} {v : Value} (hv : V w (Xof s.H ι) ι y v) {sz k : Nat} {ys : List D} (he : elems s.H sz y = some (ys, k)) :
    ys.length = k * sz ∧ ∃ A c, v = .slice A k c ∧ (0 < k → ∃ (ad : Addr) (us : List Value), A = some ad ∧ us.length = ys.length ∧ (∀ j u, us[j]? = some u → w.cell? (ad.add j) = some u) ∧ ∀ i, i < ys.length → V w (Xof s.H ι) ι (ys.getD i default) (us.getD i undef)) := by
  unfold elems at he
  split at he
  · simp only [Option.some.injEq, Prod.mk.injEq] at he
    obtain ⟨rfl, rfl⟩ := he
    exact ⟨by simp, none, 0, V_raw hv, fun h => absurd h (Nat.lt_irrefl _)⟩
  · simp only [Option.some.injEq, Prod.mk.injEq] at he
    obtain ⟨rfl, rfl⟩ := he
    cases hv with
    | e0 A => exact ⟨by simp, A, 0, rfl, fun h => absurd h (Nat.lt_irrefl _)⟩
  · rename_i xs
    split at he
    case isFalse => cases he
    rename_i hall
    simp only [Option.some.injEq, Prod.mk.injEq] at he
    obtain ⟨rfl, rfl⟩ := he
    have hz : ∀ i, i < xs.length → (xs.getD i []).length = sz := by
      intro i hi
      have := List.all_eq_true.1 hall xs[i] (List.getElem_mem hi)
      simpa [List.getD_eq_getElem?_getD, hi] using this
    have hlen := flatten_length xs sz hz
    cases hv with
    | lst xs A ad n cap sz' u hn hcap hA hsp hz' hc hx' hvv =>
      subst hn
      refine ⟨hlen, A, cap, rfl, fun hk => ?_⟩
      rcases hA with rfl | hA
      case inr => subst hA; simp at hk
      have hss : sz' = sz := by rw [← hz 0 hk, hz' 0 hk]
      subst hss
      refine ⟨ad, (List.range (xs.length * sz')).map (fun m => u (m / sz') (m % sz')), rfl, by simp [hlen], ?_, ?_⟩
      · intro j v hj
        have hlt : j < xs.length * sz' := by
          rcases Nat.lt_or_ge j (xs.length * sz') with h | h
          · exact h
          · simp [List.getElem?_eq_none, h] at hj
        have hsz : 0 < sz' := by
          rcases Nat.eq_zero_or_pos sz' with h | h
          · subst h; simp at hlt
          · exact h
        simp [hlt] at hj
        subst hj
        have := hc (j / sz') (j % sz') ((Nat.div_lt_iff_lt_mul hsz).2 hlt) (Nat.mod_lt _ hsz)
        rw [add_sp hsp]
        have e : ad.off + j / sz' * sz' + j % sz' = ad.off + j := by
          have := Nat.div_add_mod j sz'
          rw [Nat.mul_comm] at this
          omega
        rwa [e] at this
      · intro i hi
        rw [hlen] at hi
        have hsz : 0 < sz' := by
          rcases Nat.eq_zero_or_pos sz' with h | h
          · subst h; simp at hi
          · exact h
        rw [flatten_getD default xs sz' hz i hi]
        have := hvv (i / sz') (i % sz') ((Nat.div_lt_iff_lt_mul hsz).2 hi) (Nat.mod_lt _ hsz)
        have e : ((List.range (xs.length * sz')).map (fun m => u (m / sz') (m % sz'))).getD i undef = u (i / sz') (i % sz') := by simp [List.getD_eq_getElem?_getD, hi]
        rwa [e]
  · rename_i n off len sz'
    split at he
    case isFalse => cases he
    rename_i hs
    subst hs
    split at he
    case h_2 => cases he
    rename_i cs e lo hl
    split at he
    case isFalse => cases he
    rename_i hle
    simp only [Option.some.injEq, Prod.mk.injEq] at he
    obtain ⟨rfl, rfl⟩ := he
    have hlen : ((cs.drop off).take (len * sz')).length = len * sz' := by rw [List.length_take, List.length_drop]; omega
    cases hv with
    | sl n b base off len sz' cap ad arr ee fr k1 k2 k3 k4 k5 =>
      obtain ⟨arr', g1, g2, g3⟩ := reads_obj hR k1 hl
      rw [k3] at g1
      simp only [Option.some.injEq, Go.Obj.cells.injEq] at g1
      obtain ⟨rfl, rfl, rfl⟩ := g1
      refine ⟨hlen, some ad, cap, rfl, fun hk => ?_⟩
      rcases k5 with rfl | k5
      case inr => omega
      refine ⟨_, (List.range (len * sz')).map (fun j => arr.getD (base + (off + j)) undef), rfl, by simp [hlen], ?_, ?_⟩
      · intro j v hj
        have hlt : j < len * sz' := by
          rcases Nat.lt_or_ge j (len * sz') with h | h
          · exact h
          · simp [List.getElem?_eq_none, h] at hj
        simp [hlt] at hj
        subst hj
        have := g3.c (off + j) (by omega)
        rw [add_at, Nat.add_assoc]
        rw [this]
        simp [Array.getD_eq_getD_getElem?]
      · intro i hi
        rw [hlen] at hi
        have := g3.v (off + i) (by omega)
        have e1 : ((cs.drop off).take (len * sz')).getD i default = cs.getD (off + i) default := by simp [List.getD_eq_getElem?_getD, List.getElem?_take, hi]
        have e2 : ((List.range (len * sz')).map (fun j => arr.getD (base + (off + j)) undef)).getD i undef = arr.getD (base + (off + i)) undef := by simp [List.getD_eq_getElem?_getD, hi]
        rw [e1, e2]
        exact this
  · cases he

theorem info_of {e : TypeId} {sz bytes : Nat} {z : List D} (hs : szT P e = some sz) (hb : bytesT P e = some bytes) (hz : zeroCells P e = some z) : ∃ i zv, P.info? e = some i ∧ i.size = sz ∧ i.bytes = bytes ∧ i.zero = some zv ∧ (zeroValue e).run P w = .ok zv w := by
  unfold szT at hs
  unfold bytesT at hb
  cases hi : P.info? e with
  | none => simp [hi] at hs
  | some i =>
    simp only [hi, Option.map_some, Option.some.injEq] at hs hb
    unfold zeroCells zeroT at hz
    simp only [hi, Option.bind_some] at hz
    cases hzz : i.zero with
    | none => simp [hzz] at hz
    | some zv => exact ⟨i, zv, rfl, hs, hb, hzz, by simp [zeroValue, typeInfo, hi, hzz]⟩

/-- Nothing is appended. -/
theorem run_append_none (w : World) {t ty e : TypeId} {i : TypeInfo} (ht : P.underlying t = some (.slice e)) (hi : P.info? e = some i) (A B : Option Addr) (n c c' : Nat) (hn : n ≤ c) :
    (Builtin.append_ #[t, t] ty #[.slice A n c, .slice B 0 c']).run P w = .ok (.slice A n c) w := by
  have hf : (Builtin.firstCells i.size 0 (.slice B 0 c')).run P w = .ok #[] w := by
    cases B <;> simp [Builtin.firstCells, loadCells, loadCellsFrom]
  cases A <;> simp [Builtin.append_, run_under ht, sizeOf, typeInfo, hi, Builtin.lenOf, hn, hf, storeCells]

/-- Within the capacity. -/
theorem run_append_in (w : World) {t ty e : TypeId} {i : TypeInfo} (ht : P.underlying t = some (.slice e)) (hi : P.info? e = some i) (b off n c : Nat) (arr : Array Value) (et : TypeId) (hb : w.heap[b]? = some (.cells arr et (0, 0)))
    (ad : Addr) (k c' : Nat) (us : List Value) (hl : us.length = k * i.size) (hus : ∀ j u, us[j]? = some u → w.cell? (ad.add j) = some u) (h1 : ∀ u ∈ us, u.oneCell' = true) (hroom : n + k ≤ c) (hfit : off + n * i.size + us.length ≤ arr.size) :
    (Builtin.append_ #[t, t] ty #[.slice (some ⟨b, off, none⟩) n c, .slice (some ad) k c']).run P w =
      .ok (.slice (some ⟨b, off, none⟩) (n + k) c) (w.setRow b (arr.toList.take (off + n * i.size) ++ us ++ arr.toList.drop (off + n * i.size + us.length)).toArray) := by
  have hf := run_firstCells_some (P := P) w i.size k ad k c' us hl hus
  have hst := run_storeCells_at P b (off + n * i.size) et us 0 arr w hb (by omega) h1
  simp only [Nat.add_zero] at hst
  simp [Builtin.append_, run_under ht, sizeOf, typeInfo, hi, Builtin.lenOf, hroom, hf, add_at, hst]

theorem did_append (hT : TV w (Xof s.H ι) ι T a.tmps) (hR : R w s.H ι) (hd : ι s.nx = none) {t e : TypeId} {sz bytes : Nat} {z : List D} {x y : Operand} {x' y' : Opd} {c : Call} (ho : o.op = .call c) (hc : c.callee = .builtin .append) (hat : c.argTypes = #[t, t]) (hargs : c.args = #[x, y])
    (hx : opd x = some x') (hy : opd y = some y') (hu : P.underlying t = some (.slice e)) (hs : szT P e = some sz) (hb : bytesT P e = some bytes) (hz : zeroCells P e = some z) (hzl : z.length = sz) (hsz : 0 < sz)
    (he : exec (evO T) (.append e sz bytes x' y') s = some (d, s')) : Did P w s ι a o d s' := by
  have vx := V_opd hT hx
  have vy := V_opd hT hy
  obtain ⟨i, zv, hi, hi1, hi2, hi3, hi4⟩ := info_of (w := w) hs hb hz
  have run1 : ∀ u v r w', a.eval x = u → a.eval y = v → (Builtin.append_ #[t, t] o.type #[u, v]).run P w = .ok r w' → (execOp a.eval o).run P w = .ok (.value r) w' := by
    intro u v r w' hu hv hr
    simp [execOp, ho, resolve, hc, hargs, hat, hu, hv, invoke, builtin, hr]
  have hzone : ∀ v ∈ ([] : List Value), v.oneCell' = true := fun v h => by cases h
  simp only [exec] at he
  split at he
  case h_2 => cases he
  rename_i ys k hel
  obtain ⟨hyl, A, cy, hyv, hyk⟩ := elems_ok hR vy hel
  have hdrew : ∀ X, Chg X w w.drew := fun X => ⟨rfl, rfl, rfl, Nat.le_refl _, fun b arr e fr h => ⟨arr, fr, h, rfl, fun _ _ => rfl, fun _ => rfl⟩, fun b ob h _ _ => h⟩
  -- a new block holds what is there and what comes
  have fresh : ∀ (w1 : World) (hdr : w1 = w.drew) (cs : List D) (us : List Value) (junk : Array Value), us.length = cs.length → (∀ j, j < cs.length → V w (Xof s.H ι) ι (cs.getD j default) (us.getD j undef)) →
      Good w (w.drew.alloc (.cells (us.toArray ++ junk) e)) s (new s (.cells cs e 0)).2 ι (ext ι s.nx w.heap.size 0) := by
    intro w1 hdr cs us junk hl hv
    have hR' : R w.drew s.H ι := ⟨fun n o h => by
      obtain ⟨b, base, h1, h2⟩ := hR.obj n o h
      exact ⟨b, base, h1, h2.step rfl fun d v h => h.step (hdrew _) (fun _ _ _ h => h) (fun _ _ h => h)⟩, hR.inj, hR.low⟩
    have g := good_new_cells (w := w.drew) hR' hd (us.toArray ++ junk) e cs 0 (by simp [hl]) (fun j hj => by
      have h1 := (hv j hj).step (hdrew _) (fun _ _ _ h => h) (fun _ _ h => h)
      have e1 : (us.toArray ++ junk).getD j undef = us.getD j undef := by
        have hj' : j < us.length := by omega
        simp [Array.getD_eq_getD_getElem?, Array.getElem?_append, hj', List.getD_eq_getElem?_getD]
      rwa [e1])
    have g0 : Good w w.drew s s ι ι := ⟨hR', hdrew _, fun _ _ h => h, fun _ _ h => .inl h, fun _ _ _ h => h, Nat.le_refl _, rfl, fun n o _ h => ⟨⟨o, h, Obj.like_refl o⟩, fun _ _ _ => rfl⟩⟩
    exact g0.trans g
  have vsl : ∀ (cs : List D) (us : List Value) (junk : Array Value) (n cap : Nat) (ι' : Imap) (X : Nat → Nat → Prop), ι' s.nx = some (w.heap.size, 0) → n ≤ cap → (us.toArray ++ junk).size = cap * sz →
      V (w.drew.alloc (.cells (us.toArray ++ junk) e)) X ι' (.sl s.nx 0 n sz) (.slice (some ⟨w.heap.size, 0, none⟩) n cap) := by
    intro cs us junk n cap ι' X h1 h2 h3
    refine .sl s.nx w.heap.size 0 0 n sz cap ⟨w.heap.size, 0, none⟩ (us.toArray ++ junk) e (0, 0) h1 h2 ?_ (by omega) (.inl (by simp))
    have : (w.drew.alloc (.cells (us.toArray ++ junk) e)).heap = w.heap.push (.cells (us.toArray ++ junk) e) := rfl
    rw [this, Array.getElem?_push_size]
  have zsize : zv.cells.size = sz := by
    unfold zeroCells zeroT at hz
    simp only [hi, Option.bind_some, hi3] at hz
    split at hz
    case isFalse => cases hz
    rename_i hf
    simp only [Option.some.injEq] at hz
    have := congrArg List.length hz
    rw [hzl] at this
    rw [← this]
    cases zv with
    | agg vs => simp [Value.cells, ofV, cellsOf]
    | func f fs cs => simp [Value.cells, ofV, cellsOf]
    | _ => rfl
  have junk_size : ∀ m, (Builtin.zeroCells zv.cells m).size = m * sz := by intro m; simp [Builtin.zeroCells, zsize]
  split at he
  · -- nothing comes
    rename_i hk0
    subst hk0
    have fin : ∀ (B : Option Addr) (n c' : Nat), a.eval x = .slice B n c' → n ≤ c' → V w (Xof s.H ι) ι (evO T x') (.slice B n c') → d = evO T x' → s' = s → Did P w s ι a o d s' := by
      intro B n c' hq hle hvv h1 h2
      subst h1; subst h2
      exact Did.still hR hd (run1 _ _ _ _ hq hyv (run_append_none w hu hi B A n c' cy hle)) hvv
    split at he
    · rename_i hq
      rw [hq] at vx
      simp only [Option.some.injEq, Prod.mk.injEq] at he
      have qx := V_raw vx
      exact fin none 0 0 qx (Nat.le_refl _) (by rw [hq]; exact .raw _) he.1.symm he.2.symm
    · rename_i hq
      rw [hq] at vx
      simp only [Option.some.injEq, Prod.mk.injEq] at he
      generalize hv : a.eval x = v at vx
      have vx' := vx
      cases vx with
      | e0 B => exact fin B 0 0 hv (Nat.le_refl _) (by rw [hq]; exact vx') he.1.symm he.2.symm
    · rename_i n off len sz' hq
      rw [hq] at vx
      simp only [Option.some.injEq, Prod.mk.injEq] at he
      generalize hv : a.eval x = v at vx
      have vx' := vx
      cases vx with
      | sl n b base off len sz' cap ad arr ee fr k1 k2 k3 k4 k5 => exact fin _ _ _ hv k2 (by rw [hq]; exact vx') he.1.symm he.2.symm
    · rename_i xs hq
      rw [hq] at vx
      simp only [Option.some.injEq, Prod.mk.injEq] at he
      generalize hv : a.eval x = v at vx
      have vx' := vx
      cases vx with
      | lst xs B ad n cap sz' u hn hcap hA hsp hz' hc hx' hvv => exact fin _ _ _ hv hcap (by rw [hq]; exact vx') he.1.symm he.2.symm
    · cases he
  · rename_i hk0
    have hkp : 0 < k := by omega
    obtain ⟨ad, us, rfl, hul, hus, huv⟩ := hyk hkp
    have hus_len : us.length = k * i.size := by rw [hul, hyl, hi1]
    split at he
    · -- onto nil
      rename_i hq
      rw [hq] at vx
      have qx := V_raw vx
      split at he
      case isFalse => cases he
      rename_i hc'
      obtain ⟨c1, c2, c3⟩ := hc'
      simp only [Option.some.injEq, Prod.mk.injEq] at he
      obtain ⟨rfl, rfl⟩ := he
      have hr := run_append_nil (P := P) w t o.type e i zv hu hi hi3 ad k cy us hus_len hus hkp (by omega) (by rw [hi2]; omega)
      refine ⟨_, _, _, .inl (run1 _ _ _ _ qx hyv hr), fresh _ rfl ys us _ hul huv, ?_⟩
      refine vsl ys us _ k _ _ _ (by simp [ext]) (grownCap_ge w k 0 e) ?_
      have := grownCap_ge w k 0 e
      simp only [Array.size_append, List.size_toArray, hul, hyl, junk_size, ← Nat.add_mul]
      congr 1
      omega
    · rename_i hq
      rw [hq] at vx
      split at he
      case isFalse => cases he
      rename_i hc'
      obtain ⟨c1, c2, c3⟩ := hc'
      simp only [Option.some.injEq, Prod.mk.injEq] at he
      obtain ⟨rfl, rfl⟩ := he
      generalize hv : a.eval x = v at vx
      cases vx with
      | e0 B =>
        have := grownCap_ge w k 0 e
        have hsize : (us.toArray ++ Builtin.zeroCells zv.cells (grownCap w k 0 e - k)).size = grownCap w k 0 e * sz := by
          simp only [Array.size_append, List.size_toArray, hul, hyl, junk_size, ← Nat.add_mul]
          congr 1
          omega
        cases B with
        | none =>
          have hr := run_append_nil (P := P) w t o.type e i zv hu hi hi3 ad k cy us hus_len hus hkp (by omega) (by rw [hi2]; omega)
          exact ⟨_, _, _, .inl (run1 _ _ _ _ hv hyv hr), fresh _ rfl ys us _ hul huv, vsl ys us _ k _ _ _ (by simp [ext]) this hsize⟩
        | some bd =>
          have hr := run_append_grow (P := P) w t o.type e i zv hu hi hi3 bd 0 0 [] (by simp) (fun j v h => by simp at h) ad k cy us hus_len hus (by omega) (by omega) (growslice_fits (by omega) (by rw [hi2, Nat.zero_add]; omega))
          simp only [Nat.zero_add] at hr
          have e1 : (([] : List Value).toArray ++ us.toArray ++ Builtin.zeroCells zv.cells (grownCap w k 0 e - k)) = us.toArray ++ Builtin.zeroCells zv.cells (grownCap w k 0 e - k) := by simp
          rw [e1] at hr
          exact ⟨_, _, _, .inl (run1 _ _ _ _ hv hyv hr), fresh _ rfl ys us _ hul huv, vsl ys us _ k _ _ _ (by simp [ext]) this hsize⟩
    · -- onto a live row
      rename_i n off len sz' hq
      rw [hq] at vx
      split at he
      case h_2 => cases he
      rename_i cs e' lo hl
      split at he
      case isFalse => cases he
      rename_i hc'
      obtain ⟨rfl, hee, c1, c2, c3, c4, c5, c6⟩ := hc'
      have hee2 := hee.symm
      subst hee2
      simp only [Option.some.injEq, Prod.mk.injEq] at he
      obtain ⟨rfl, rfl⟩ := he
      generalize hv : a.eval x = v at vx
      cases vx with
      | sl n b base off len sz' cap ad' arr ee fr k1 k2 k3 k4 k5 =>
        obtain ⟨b', base', g1, arr', g2, g3, g4⟩ := hR.obj _ _ hl
        rw [k1] at g1
        simp only [Option.some.injEq, Prod.mk.injEq] at g1
        obtain ⟨rfl, rfl⟩ := g1
        rw [k3] at g2
        simp only [Option.some.injEq, Go.Obj.cells.injEq] at g2
        obtain ⟨rfl, he2, rfl⟩ := g2
        have he3 := he2.symm
        subst he3
        have hone := one_cells hul huv c6
        by_cases hroom : len + k ≤ cap
        · -- in place
          rcases k5 with rfl | k5
          case inr => omega
          have hfit : base + off + len * sz' + ys.length ≤ arr.size := by
            rw [hyl]
            have : len * sz' + k * sz' ≤ cap * sz' := by rw [← Nat.add_mul]; exact Nat.mul_le_mul_right _ hroom
            omega
          have hr := run_append_in (P := P) w (ty := o.type) hu hi b (base + off) len cap arr e k3 ad k cy us hus_len hus hone hroom (by rw [hi1, hul]; exact hfit)
          rw [hi1] at hr
          have hcl : (cs ++ ys).length = cs.length + ys.length := List.length_append
          have g := good_cells (w := w) hR hd hl k1 c3 k3 g3 g4 hul huv (off := off + len * sz') (by omega) c2 (cs ++ ys) (by omega)
            (fun j hj => by
              simp only [List.getD_eq_getElem?_getD, List.getElem?_append]
              by_cases hjl : j < cs.length
              · have : ¬ (off + len * sz' ≤ j ∧ j < off + len * sz' + ys.length) := by omega
                rw [if_pos hjl, if_neg this]
              · have : off + len * sz' ≤ j ∧ j < off + len * sz' + ys.length := by omega
                rw [if_neg hjl, if_pos this, c1])
            (fun j hj => by
              by_cases hjl : j < cs.length
              · exact .inl hjl
              · exact .inr (by omega))
          rw [← Nat.add_assoc] at g
          have g2 := good_ren g.r (s := { s with H := upd s.H n (.cells (cs ++ ys) e lo) }) hd (n := n) (off := off) (cs := cs ++ ys) (e := e) (lo := lo) (by simp [lk_upd, hl]) k1 c3 (by omega)
          have hdr : (cs ++ ys).drop off = cs.drop off ++ ys := List.drop_append_of_le_length (by omega)
          have hfin : (new { ({ s with H := upd s.H n (.cells (cs ++ ys) e lo) } : St) with H := rm (upd s.H n (.cells (cs ++ ys) e lo)) n } (.cells ((cs ++ ys).drop off) e (lo - off))).2 = (new { s with H := rm s.H n } (.cells (cs.drop off ++ ys) e (lo - off))).2 := by
            have hrm : ∀ (H : Heap), rm (upd H n (.cells (cs ++ ys) e lo)) n = rm H n := by
              intro H
              induction H with
              | nil => rfl
              | cons p t ih =>
                obtain ⟨m, x⟩ := p
                simp only [upd]
                cases hb : Nat.beq n m with
                | true => simp [rm, hb]
                | false => simp [rm, hb, ih]
            simp only [new, hrm, hdr]
          rw [hfin] at g2
          refine ⟨_, _, _, .inl (run1 _ _ _ _ hv hyv hr), g.trans g2, ?_⟩
          have hsz2 : (arr.toList.take (base + off + len * sz') ++ us ++ arr.toList.drop (base + off + len * sz' + us.length)).toArray.size = arr.size := by
            simp only [List.size_toArray, List.length_append, List.length_take, List.length_drop, Array.length_toList]
            omega
          exact .sl s.nx b (base + off) 0 (len + k) sz' cap _ _ e (0, 0) (by simp [ext]) hroom (setRow_heap w b arr _ e (0, 0) k3) (by rw [hsz2]; omega) (.inl (by simp))
        · -- a new row
          have holds : ∃ olds : List Value, olds.length = len * i.size ∧ (∀ j v, olds[j]? = some v → w.cell? (ad'.add j) = some v) ∧ (∀ j, j < len * sz' → V w (Xof s.H ι) ι ((cs.drop off).getD j default) (olds.getD j undef)) := by
            rcases Nat.eq_zero_or_pos len with h0 | h0
            · subst h0
              exact ⟨[], by simp, fun j v h => by simp at h, fun j hj => by omega⟩
            · rcases k5 with rfl | k5
              case inr => omega
              refine ⟨(List.range (len * sz')).map (fun j => arr.getD (base + (off + j)) undef), by simp [hi1], ?_, ?_⟩
              · intro j v hj
                have hlt : j < len * sz' := by
                  rcases Nat.lt_or_ge j (len * sz') with h | h
                  · exact h
                  · simp [List.getElem?_eq_none, h] at hj
                simp [hlt] at hj
                subst hj
                rw [add_at]
                have hlt2 : base + off + j < arr.size := by omega
                simp [World.cell?, k3, hlt2, Nat.add_assoc] 
                rw [← Nat.add_assoc]
                simp [hlt2]
              · intro j hj
                have := g4 (off + j) (by omega)
                have e1 : (cs.drop off).getD j default = cs.getD (off + j) default := by simp [List.getD_eq_getElem?_getD]
                have e2 : ((List.range (len * sz')).map (fun j => arr.getD (base + (off + j)) undef)).getD j undef = arr.getD (base + (off + j)) undef := by simp [List.getD_eq_getElem?_getD, hj]
                rw [e1, e2]
                exact this
          obtain ⟨olds, o1, o2, o3⟩ := holds
          have hr := run_append_grow (P := P) w t o.type e i zv hu hi hi3 ad' len cap olds o1 o2 ad k cy us hus_len hus (by omega) (by omega) (growslice_fits (by omega) (by rw [hi2]; exact c4))
          have hol : olds.length = (cs.drop off).length := by rw [o1, List.length_drop, hi1]; omega
          have g0 := good_rm hR hd c3
          -- the new block over the heap without the old name
          have hR0 := g0.r
          have hlen2 : (olds ++ us).length = (cs.drop off ++ ys).length := by simp [hol, hul]
          have hvv : ∀ j, j < (cs.drop off ++ ys).length → V w (Xof s.H ι) ι ((cs.drop off ++ ys).getD j default) ((olds ++ us).getD j undef) := by
            intro j hj
            simp only [List.getD_eq_getElem?_getD, List.getElem?_append]
            by_cases hjl : j < (cs.drop off).length
            · rw [if_pos hjl, if_pos (by omega)]
              have := o3 j (by rw [List.length_drop] at hjl; omega)
              simpa [List.getD_eq_getElem?_getD] using this
            · rw [if_neg hjl, if_neg (by omega)]
              rw [List.length_append] at hj
              have := huv (j - (cs.drop off).length) (by omega)
              rw [hol]
              simpa [List.getD_eq_getElem?_getD] using this
          have hgc := grownCap_ge w (len + k) cap e
          have earr : olds.toArray ++ us.toArray ++ Builtin.zeroCells zv.cells (grownCap w (len + k) cap e - (len + k)) = (olds ++ us).toArray ++ Builtin.zeroCells zv.cells (grownCap w (len + k) cap e - (len + k)) := by simp
          rw [earr] at hr
          have hR' : R w.drew (rm s.H n) ι := ⟨fun m o h => by
            obtain ⟨b, base, h1, h2⟩ := hR0.obj m o h
            exact ⟨b, base, h1, h2.step rfl fun d v h => h.step (hdrew _) (fun _ _ _ h => h) (fun _ _ h => h)⟩, hR0.inj, hR0.low⟩
          have g1 := good_new_cells (w := w.drew) (s := { s with H := rm s.H n }) hR' hd ((olds ++ us).toArray ++ Builtin.zeroCells zv.cells (grownCap w (len + k) cap e - (len + k))) e (cs.drop off ++ ys) (lo - off) (by simp [← hlen2]) (fun j hj => by
            have h1 := (g0.val (hvv j hj)).step (hdrew _) (fun _ _ _ h => h) (fun _ _ h => h)
            have e1 : ((olds ++ us).toArray ++ Builtin.zeroCells zv.cells (grownCap w (len + k) cap e - (len + k))).getD j undef = (olds ++ us).getD j undef := by
              have hj' : j < (olds ++ us).length := by omega
              simp only [Array.getD_eq_getD_getElem?, Array.getElem?_append, List.size_toArray, hj', if_true, List.getElem?_toArray, List.getD_eq_getElem?_getD]
            rwa [e1])
          have gd : Good w w.drew { s with H := rm s.H n } { s with H := rm s.H n } ι ι := ⟨hR', hdrew _, fun _ _ h => h, fun _ _ h => .inl h, fun _ _ _ h => h, Nat.le_refl _, rfl, fun n o _ h => ⟨⟨o, h, Obj.like_refl o⟩, fun _ _ _ => rfl⟩⟩
          refine ⟨_, _, _, .inl (run1 _ _ _ _ hv hyv hr), g0.trans (gd.trans g1), ?_⟩
          refine vsl (cs.drop off ++ ys) (olds ++ us) _ (len + k) _ _ _ (by simp [ext]) hgc ?_
          have hl2 : (olds ++ us).length = (len + k) * sz' := by rw [List.length_append, o1, hul, hyl, hi1, Nat.add_mul]
          simp only [Array.size_append, List.size_toArray, hl2, junk_size, ← Nat.add_mul]
          congr 1
          omega
    · cases he
end
end Go.Ai
/-! Every operation that is no call. -/
set_option linter.unusedVariables false
set_option linter.unusedSimpArgs false
namespace Go.Ai
section
variable {P : Program} {w : World} {s : St} {ι : Imap} {T : List D} {a : Act} {o : Oper} {d : D} {s' : St}

theorem opds_one {xs : Array Operand} {t : Operand} (h : xs.toList = [t]) : xs = #[t] := Array.ext' (by simpa using h)
theorem arr_list {α : Type} {xs : Array α} {l : List α} (h : xs.toList = l) : xs = l.toArray := Array.ext' (by simpa using h)

theorem builtin_ok (hT : TV w (Xof s.H ι) ι T a.tmps) (hR : R w s.H ι) (hd : ι s.nx = none) {c : Call} {b : Builtin} {i : I} (ho : o.op = .call c) (hc : c.callee = .builtin b)
    (hi : compBuiltin P b c.argTypes.toList c.args.toList = some i) (he : exec (evO T) i s = some (d, s')) : Did P w s ι a o d s' := by
  generalize hat : c.argTypes.toList = ats at hi
  generalize hargs : c.args.toList = args at hi
  have hat' := arr_list hat
  have hargs' := arr_list hargs
  unfold compBuiltin at hi
  split at hi
  · -- len
    rename_i t x
    split at hi
    · rename_i x' hu hx
      simp only [Option.some.injEq] at hi
      subst hi
      exact did_len hT hR hd ho hc hat' hargs' hx (.inl ⟨hu, rfl⟩) he
    · rename_i e x' hu hx
      simp only [Option.some.injEq] at hi
      subst hi
      exact did_len hT hR hd ho hc hat' hargs' hx (.inr (.inl ⟨_, hu, rfl⟩)) he
    · rename_i k e x' hu hx
      simp only [Option.some.injEq] at hi
      subst hi
      exact did_len hT hR hd ho hc hat' hargs' hx (.inr (.inr ⟨_, _, hu, rfl⟩)) he
    · cases hi
  · -- append
    rename_i t t' x y
    split at hi
    case h_2 => cases hi
    rename_i e hu
    split at hi
    case h_2 => cases hi
    rename_i sz bb z x' y' hs hb hz hx hy
    split at hi
    case isFalse => cases hi
    rename_i hcond
    simp only [Bool.and_eq_true, beq_iff_eq, decide_eq_true_eq] at hcond
    obtain ⟨⟨⟨rfl, h1⟩, h2⟩, h3⟩ := hcond
    simp only [Option.some.injEq] at hi
    subst hi
    exact did_append hT hR hd ho hc hat' hargs' hx hy hu hs hb hz h3 h1 he
  · -- clear
    rename_i t x
    split at hi
    case h_2 => cases hi
    rename_i e hu
    split at hi
    case h_2 => cases hi
    rename_i sz z x' hs hz hx
    split at hi
    case isFalse => cases hi
    rename_i hcond
    simp only [Option.some.injEq] at hi
    subst hi
    exact did_clear hT hR hd ho hc hat' hargs' hx hu hs hz (by simpa using hcond) he
  · -- min
    rename_i t t' x y
    split at hi
    case h_2 => cases hi
    rename_i x' y' hx hy
    simp only [Option.some.injEq] at hi
    subst hi
    exact did_min2 hT hR hd ho hc hargs' hx hy he
  · -- max
    rename_i t t' x y
    split at hi
    case h_2 => cases hi
    rename_i x' y' hx hy
    simp only [Option.some.injEq] at hi
    subst hi
    exact did_max2 hT hR hd ho hc hargs' hx hy he
  · cases hi

theorem did_range (hT : TV w (Xof s.H ι) ι T a.tmps) (hR : R w s.H ι) (hd : ι s.nx = none) {x : Operand} {x' : Opd} {t kt et : TypeId} (ho : o.op = .range t x) (hx : opd x = some x') (hu : P.underlying t = some (.map kt et))
    (he : exec (evO T) (.range x') s = some (d, s')) : Did P w s ι a o d s' := by
  have vx := V_opd hT hx
  simp only [exec] at he
  split at he
  · rename_i hq
    rw [hq] at vx
    have qx := V_raw vx
    simp only [Option.some.injEq, Prod.mk.injEq] at he
    obtain ⟨rfl, rfl⟩ := he
    refine ⟨.pointer (some ⟨w.heap.size, 0, none⟩), w.alloc (.mapIter none 0 #[] 0), _, .inl ?_, good_new hR hd (.mapIter none 0 #[] 0) (.iter [] []) (fun X' ι' hV => ⟨none, by simp only [World.alloc, Array.getElem?_push_size]; rfl, rfl, rfl⟩), V_new _ _ _ _⟩
    simp [execOp, ho, Instr.range, run_under hu, qx, newObj, Sem.run]
  · rename_i es hq
    rw [hq] at vx
    generalize hv : a.eval x = v at vx
    have vx' := vx
    cases vx with
    | imap es b ents clock g1 g2 g3 g4 g5 g6 =>
      simp only [Option.some.injEq, Prod.mk.injEq] at he
      obtain ⟨rfl, rfl⟩ := he
      obtain ⟨rfl, g7⟩ := g6
      refine ⟨.pointer (some ⟨w.heap.size, 0, none⟩), w.alloc (.mapIter (some b) es.length #[] es.length), _, .inl ?_, good_new hR hd (.mapIter (some b) es.length #[] es.length) (.iter es []) (fun X' ι' hV => ⟨some b, by simp only [World.alloc, Array.getElem?_push_size], rfl, hV _ _ vx'⟩), V_new _ _ _ _⟩
      simp [execOp, ho, Instr.range, run_under hu, hv, getObj, newObj, Sem.run, g1]
  · cases he

theorem imap_ents {X : Nat → Nat → Prop} {es : List (Value × D)} {m : Nat} (h : V w X ι (.imap es) (.map (some m))) :
    ∃ ents, w.heap[m]? = some (.map ents es.length) ∧ ents.size = es.length ∧ (∀ i, i < es.length → (ents.getD i default).key = (es.getD i default).1) ∧ (∀ i, i < es.length → V w X ι (es.getD i default).2 (ents.getD i default).val) ∧ ∀ i, i < es.length → (ents.getD i default).born = i := by
  cases h with
  | imap _ b ents clock g1 g2 g3 g4 g5 g6 => exact ⟨ents, by rw [← g6.1]; exact g1, g3, g4, g5, g6.2⟩
theorem ents_mem {ents : Array MapEntry} {n : Nat} (hs : ents.size = n) (hb : ∀ i, i < n → (ents.getD i default).born = i) {e : MapEntry} (he : e ∈ ents.toList) : e.born < n ∧ e = ents.getD e.born default := by
  obtain ⟨i, hi, rfl⟩ := List.mem_iff_getElem.1 he
  have hi' : i < ents.size := by simpa using hi
  have h1 : ents.getD i default = ents.toList[i] := by
    rw [Array.getD_eq_getD_getElem?, Array.getElem?_eq_getElem hi']
    simp
  have h2 := hb i (by omega)
  rw [h1] at h2
  refine ⟨by omega, ?_⟩
  rw [h2, h1]
theorem ents_nodup {ents : Array MapEntry} {n : Nat} (hs : ents.size = n) (hb : ∀ i, i < n → (ents.getD i default).born = i) : (ents.toList.map (·.born)).Nodup := by
  have : ents.toList.map (·.born) = List.range n := by
    apply List.ext_getElem
    · simp [hs]
    · intro i h1 h2
      have hi : i < ents.size := by simpa using h1
      have := hb i (by omega)
      rw [Array.getD_eq_getD_getElem?, Array.getElem?_eq_getElem hi] at this
      simpa using this
  rw [this]
  exact List.nodup_range

theorem did_entry (hT : TV w (Xof s.H ι) ι T a.tmps) (hR : R w s.H ι) (hd : ι s.nx = none) {x : Operand} {x' : Opd} (ho : o.op = .entry x) (hx : opd x = some x')
    (he : exec (evO T) (.entry x') s = some (d, s')) : Did P w s ι a o d s' := by
  have vx := V_opd hT hx
  simp only [exec] at he
  split at he
  case h_2 => cases he
  rename_i n hq
  rw [hq] at vx
  generalize hv : a.eval x = v at vx
  split at he
  case h_2 => cases he
  rename_i es seen hl
  split at he
  case h_2 => cases he
  rename_i i hseen
  split at he
  case h_2 => cases he
  rename_i k dd hi
  simp only [Option.some.injEq, Prod.mk.injEq] at he
  obtain ⟨rfl, rfl⟩ := he
  cases vx with
  | ref n b base off hιn =>
    obtain ⟨b', base', g1, A, g2, g3, g4⟩ := hR.obj _ _ hl
    rw [hιn] at g1
    simp only [Option.some.injEq, Prod.mk.injEq] at g1
    obtain ⟨rfl, rfl⟩ := g1
    subst g3
    have hlt : i < es.length := (List.getElem?_eq_some_iff.1 hi).1
    have hgd : es.getD i default = (k, dd) := by simp [List.getD_eq_getElem?_getD, hi]
    cases A with
    | none =>
      dsimp only at g4
      subst g4
      exact absurd hlt (Nat.not_lt_zero _)
    | some m =>
      obtain ⟨ents, e1, e2, e3, e4, e5⟩ := imap_ents g4
      have hin : i < ents.size := by omega
      have hmem : ents.getD i default ∈ ents.toList := by
        rw [Array.getD_eq_getD_getElem?, Array.getElem?_eq_getElem hin]
        simp
      obtain ⟨seen', hse⟩ : ∃ seen', seen = seen' ++ [i] := by
        refine ⟨seen.dropLast, ?_⟩
        have hne : seen ≠ [] := by
          intro h
          rw [h] at hseen
          simp at hseen
        have := List.dropLast_concat_getLast hne
        rw [List.getLast?_eq_some_getLast hne] at hseen
        simp only [Option.some.injEq] at hseen
        rw [hseen] at this
        exact this.symm
      have hpush : seen.toArray = seen'.toArray.push (ents.getD i default).born := by
        rw [e5 i hlt, hse]
        simp
      rw [hpush] at g2
      have hrun := run_entry_at (P := P) w b m es.length seen'.toArray ents es.length (ents.getD i default) g2 e1 hmem (ents_nodup e2 e5)
      refine Did.still hR hd (v := .tuple #[(ents.getD i default).key, (ents.getD i default).val]) ?_ (.tup _ _ rfl fun j hj => ?_)
      · simp [execOp, ho, hv, hrun]
      · match j, hj with
        | 0, _ =>
          have := e3 i hlt
          rw [hgd] at this
          show V w _ ι (.raw k) (ents.getD i default).key
          rw [this]
          exact .raw _
        | 1, _ =>
          have := e4 i hlt
          rw [hgd] at this
          exact this

/-- 'next', as the machine does it: whatever entry that is left. -/
theorem run_next_ok {n b : Nat} {es : List (Value × D)} {seen : List Nat} (hR : R w s.H ι) (hd : ι s.nx = none) (hl : lk s.H n = some (.iter es seen)) (hi : ι n = some (b, 0)) (hro : s.ro ≤ n) (ty : TypeId) :
    ((∀ i, i < es.length → i ∈ seen) ∧ ∃ w1, (Instr.next (.pointer (some ⟨b, 0, none⟩)) false ty).run P w = .ok (.tuple #[.bool false]) w1 ∧ Good w w1 s s ι ι) ∨
    ∃ i kv vv w1, i < es.length ∧ i ∉ seen ∧ kv = (es.getD i default).1 ∧ (Instr.next (.pointer (some ⟨b, 0, none⟩)) false ty).run P w = .ok (.tuple #[.bool true, kv, vv]) w1 ∧
      Good w w1 s { s with H := upd s.H n (.iter es (seen ++ [i])) } ι ι ∧ V w (Xof s.H ι) ι (es.getD i default).2 vv := by
  obtain ⟨b', base', g1, A, g2, g3, g4⟩ := hR.obj _ _ hl
  rw [hi] at g1
  simp only [Option.some.injEq, Prod.mk.injEq] at g1
  obtain ⟨rfl, rfl⟩ := g1
  cases A with
  | none =>
    dsimp only at g4
    subst g4
    refine Or.inl ⟨fun i hi => absurd hi (Nat.not_lt_zero _), w, ?_, Good.refl hR⟩
    simp [Instr.next, getObj, Sem.run, g2]
  | some m =>
    obtain ⟨ents, e1, e2, e3, e4, e5⟩ := imap_ents g4
    have hlow : ∀ x ∈ ents.toList, x.born < es.length := fun x hx => (ents_mem e2 e5 hx).1
    rcases run_next_at (P := P) w ty b m es.length es.length seen.toArray ents es.length g2 e1 hlow (Nat.le_refl _) with ⟨h1, h2⟩ | ⟨e, h1, w1, h2, h3⟩
    · refine Or.inl ⟨fun i hi => ?_, w, h2, Good.refl hR⟩
      apply Classical.byContradiction
      intro hno
      have hin : i < ents.size := by omega
      have hmem : ents.getD i default ∈ leftOf ents seen.toArray := by
        unfold leftOf
        rw [Array.mem_filter]
        refine ⟨?_, ?_⟩
        · rw [Array.getD_eq_getD_getElem?, Array.getElem?_eq_getElem hin]
          simp
        · rw [e5 i hi]
          simpa using hno
      have := Array.size_pos_of_mem hmem
      omega
    · have hmem : e ∈ ents.toList ∧ e.born ∉ seen := by
        unfold leftOf at h1
        simp only [Array.toList_filter, List.mem_filter] at h1
        refine ⟨h1.1, ?_⟩
        have := h1.2
        simpa using this
      obtain ⟨k1, k2⟩ := ents_mem e2 e5 hmem.1
      refine Or.inr ⟨e.born, e.key, e.val, _, k1, hmem.2, ?_, h3, ?_, ?_⟩
      · rw [← e3 _ k1, ← k2]
      · have hblt : b < w.heap.size := (Array.getElem?_eq_some_iff.1 g2).1
        have hdr : Good w w1 s s ι ι := by
          rcases h2 with rfl | rfl
          · exact Good.refl hR
          · have hdrew : ∀ X, Chg X w w.drew := fun X => ⟨rfl, rfl, rfl, Nat.le_refl _, fun b arr e fr h => ⟨arr, fr, h, rfl, fun _ _ => rfl, fun _ => rfl⟩, fun b ob h _ _ => h⟩
            have hR' : R w.drew s.H ι := ⟨fun n o h => by
              obtain ⟨b, base, h1, h2⟩ := hR.obj n o h
              exact ⟨b, base, h1, h2.step rfl fun d v h => h.step (hdrew _) (fun _ _ _ h => h) (fun _ _ h => h)⟩, hR.inj, hR.low⟩
            exact ⟨hR', hdrew _, fun _ _ h => h, fun _ _ h => .inl h, fun _ _ _ h => h, Nat.le_refl _, rfl, fun n o _ h => ⟨⟨o, h, Obj.like_refl o⟩, fun _ _ _ => rfl⟩⟩
        have hw1 : w1.heap[b]? = some (.mapIter (some m) es.length seen.toArray es.length) := by rcases h2 with rfl | rfl <;> exact g2
        have hw1s : b < w1.heap.size := (Array.getElem?_eq_some_iff.1 hw1).1
        have hm1 : w1.heap[m]? = some (.map ents es.length) := by rcases h2 with rfl | rfl <;> exact e1
        have hbm : m ≠ b := by
          intro h
          subst h
          rw [g2] at e1
          cases e1
        have hset : (ChangeMaps.setBlock w1 b (.mapIter (some m) es.length (seen.toArray.push e.born) es.length)).heap[b]? = some (.mapIter (some m) es.length (seen.toArray.push e.born) es.length) := by
          simp [ChangeMaps.setBlock, hw1s]
        refine Good.trans hdr (good_upd hdr.r (by exact hd) hl hi hro _ rfl rfl rfl (by simp [ChangeMaps.setBlock]) (fun k hk => by simp [ChangeMaps.setBlock, Array.getElem?_setIfInBounds, Ne.symm hk]) (fun arr e fr hb => absurd hb (by rw [hw1]; simp)) (fun _ _ _ => trivial) (fun _ _ => trivial) ?_)
        intro hV
        refine ⟨some m, ?_, rfl, hV _ _ (hdr.val g4)⟩
        rw [hset]
        simp
      · have := e4 _ k1
        rw [← k2] at this
        exact this

theorem exec_ok (hT : TV w (Xof s.H ι) ι T a.tmps) (hR : R w s.H ι) (hd : ι s.nx = none) {i : I} (hi : comp P o = some i) (he : exec (evO T) i s = some (d, s')) : Did P w s ι a o d s' := by
  unfold comp at hi
  split at hi
  · -- move
    rename_i x ho
    simp only [Option.map_eq_some_iff] at hi
    obtain ⟨x', hx, rfl⟩ := hi
    exact did_mv hT hR hd (.inl ho) hx he
  · rename_i x ho
    simp only [Option.map_eq_some_iff] at hi
    obtain ⟨x', hx, rfl⟩ := hi
    exact did_mv hT hR hd (.inr ho) hx he
  · -- pick
    rename_i c x y ho
    split at hi
    case h_2 => cases hi
    rename_i c' x' y' h1 h2 h3
    simp only [Option.some.injEq] at hi
    subst hi
    exact did_pick hT hR hd ho h1 h2 h3 he
  · -- nilCheck
    rename_i x ho
    simp only [Option.map_eq_some_iff] at hi
    obtain ⟨x', hx, rfl⟩ := hi
    exact did_nilChk hT hR hd ho hx he
  · -- alloc
    rename_i e ho
    split at hi
    case h_2 => cases hi
    rename_i z sz hz hs
    split at hi
    case isFalse => cases hi
    simp only [Option.some.injEq] at hi
    subst hi
    exact did_alloc hT hR hd ho hz he
  · -- box
    rename_i e x ho
    split at hi
    case h_2 => cases hi
    rename_i x' hx
    simp only [Option.some.injEq] at hi
    subst hi
    exact did_box hT hR hd ho hx he
  · -- build
    rename_i t ps ho
    split at hi
    · rename_i z fs hz hu
      split at hi
      case h_2 => cases hi
      rename_i ps' hps
      split at hi
      case isFalse => cases hi
      rename_i hall
      simp only [Option.some.injEq] at hi
      subst hi
      exact did_build_struct hT hR hd ho hz hu hps hall he
    · rename_i z n e hz hu
      split at hi
      case h_2 => cases hi
      rename_i sz hs
      split at hi
      case h_2 => cases hi
      rename_i ps' hps
      simp only [Option.some.injEq] at hi
      subst hi
      exact did_build_array hT hR hd ho hz hu hs hps he
    · cases hi
  · -- buildSlice
    rename_i t n ps ho
    split at hi
    case h_2 => cases hi
    rename_i e hu
    split at hi
    case h_2 => cases hi
    rename_i z sz hz hs
    split at hi
    case h_2 => cases hi
    rename_i ps' hps
    split at hi
    case isFalse => cases hi
    rename_i hcond
    simp only [Bool.and_eq_true, beq_iff_eq, decide_eq_true_eq] at hcond
    simp only [Option.some.injEq] at hi
    subst hi
    exact did_bslice hT hR hd ho hz hu hs hps hcond.1 hcond.2 he
  · -- load
    rename_i t x ho
    split at hi
    case h_2 => cases hi
    rename_i ag sz x' ha hs hx
    split at hi
    case isFalse => cases hi
    simp only [Option.some.injEq] at hi
    subst hi
    exact did_load hT hR hd ho hx ha hs he
  · -- store
    rename_i t x y ho
    split at hi
    case h_2 => cases hi
    rename_i sz x' y' hs hx hy
    simp only [Option.some.injEq] at hi
    subst hi
    exact did_store hT hR hd ho hx hy hs he
  · -- fieldAddr
    rename_i t x f ho
    split at hi
    case h_2 => cases hi
    rename_i fs x' hu hx
    split at hi
    case h_2 => cases hi
    rename_i fd hf
    split at hi
    case h_2 => cases hi
    rename_i n hs
    split at hi
    case isTrue => cases hi
    rename_i hn
    simp only [Option.some.injEq] at hi
    subst hi
    exact did_faddr hT hR hd ho hx hu hf hs (by simpa using hn) he
  · -- field
    rename_i t x f ho
    split at hi
    case h_2 => cases hi
    rename_i fs x' hu hx
    split at hi
    case h_2 => cases hi
    rename_i fd hf
    split at hi
    case h_2 => cases hi
    rename_i ag n ha hs
    split at hi
    case isFalse => cases hi
    simp only [Option.some.injEq] at hi
    subst hi
    exact did_field hT hR hd ho hx hu hf ha hs he
  · -- indexAddr
    rename_i t x y ho
    split at hi
    · rename_i e x' y' hu hx hy
      simp only [Option.map_eq_some_iff] at hi
      obtain ⟨sz, hs, rfl⟩ := hi
      exact did_iaddr hT hR hd ho hx hy hu hs he
    · rename_i n e x' y' hu hx hy
      simp only [Option.map_eq_some_iff] at hi
      obtain ⟨sz, hs, rfl⟩ := hi
      exact did_iaddrA hT hR hd ho hx hy hu hs he
    · cases hi
  · -- index
    rename_i t x y ho
    split at hi
    · rename_i x' y' hu hx hy
      simp only [Option.some.injEq] at hi
      subst hi
      exact did_idxS hT hR hd ho hx hy hu he
    · rename_i n e x' y' hu hx hy
      split at hi
      case h_2 => cases hi
      rename_i ag sz ha hs
      split at hi
      case isFalse => cases hi
      simp only [Option.some.injEq] at hi
      subst hi
      exact did_idxA hT hR hd ho hx hy hu ha hs he
    · cases hi
  · -- binOp
    rename_i op t x y u ho
    split at hi
    case h_2 => cases hi
    rename_i x' y' hx hy
    split at hi
    · simp only [Option.some.injEq] at hi
      subst hi
      exact did_bin hT hR hd ho hx hy he
    · simp only [Option.some.injEq] at hi
      subst hi
      exact did_bin hT hR hd ho hx hy he
    · split at hi
      · rename_i k hk
        simp only [Option.some.injEq] at hi
        subst hi
        exact did_eq hT hR hd ho hx hy hk rfl he
      · rename_i k hk
        simp only [Option.some.injEq] at hi
        subst hi
        exact did_eq hT hR hd ho hx hy hk rfl he
      · cases hi
  · -- unOp
    rename_i op t x ho
    split at hi
    · simp only [Option.map_eq_some_iff] at hi
      obtain ⟨x', hx, rfl⟩ := hi
      exact did_un hT hR hd ho hx he
    · simp only [Option.map_eq_some_iff] at hi
      obtain ⟨x', hx, rfl⟩ := hi
      exact did_un hT hR hd ho hx he
    · cases hi
  · -- convert
    rename_i t u x ho
    split at hi
    · rename_i k k' ht hu
      simp only [Option.map_eq_some_iff] at hi
      obtain ⟨x', hx, rfl⟩ := hi
      exact did_conv hT hR hd ho hx ht hu he
    · rename_i ht hu
      simp only [Option.map_eq_some_iff] at hi
      obtain ⟨x', hx, rfl⟩ := hi
      exact did_convS hT hR hd ho hx ht hu he
    · cases hi
  · -- slice
    rename_i t x lo hi' mx ho
    split at hi
    · rename_i e x' lo' hi'' mx' hu hx h1 h2 h3
      simp only [Option.map_eq_some_iff] at hi
      obtain ⟨sz, hs, rfl⟩ := hi
      exact did_slice hT hR hd ho hx h1 h2 h3 hu hs he
    · rename_i x' lo' hi'' hu hx h1 h2 h3
      simp only [Option.some.injEq] at hi
      subst hi
      have hm : mx = none := by
        cases mx with
        | none => rfl
        | some m =>
          simp only [optOpd, Option.map_eq_some_iff] at h3
          obtain ⟨_, _, h⟩ := h3
          cases h
      subst hm
      exact did_sliceS hT hR hd ho hx h1 h2 hu he
    · cases hi
  · -- makeSlice
    rename_i t l c ho
    split at hi
    case h_2 => cases hi
    rename_i e hu
    split at hi
    case h_2 => cases hi
    rename_i z sz b l' c' hz hs hb hl hc
    split at hi
    case isFalse => cases hi
    rename_i hcond
    simp only [Bool.and_eq_true, beq_iff_eq, decide_eq_true_eq] at hcond
    simp only [Option.some.injEq] at hi
    subst hi
    exact did_mk hT hR hd ho hz hu hs hb hl hc hcond.1 hcond.2 he
  · -- makeMap
    rename_i t ho
    simp only [Option.some.injEq] at hi
    subst hi
    exact did_mkmap hT hR hd ho he
  · -- lookup
    rename_i t x k ok ho
    split at hi
    case h_2 => cases hi
    rename_i kt et hu
    split at hi
    case h_2 => cases hi
    rename_i kk z x' k' hk hz hx hk'
    simp only [Option.some.injEq] at hi
    subst hi
    exact did_lookup hT hR hd ho hx hk' hu hk hz he
  · -- mapUpdate
    rename_i t m k v ho
    split at hi
    case h_2 => cases hi
    rename_i kt et hu
    split at hi
    case h_2 => cases hi
    rename_i kk x' k' v' hk hx hk' hv
    simp only [Option.some.injEq] at hi
    subst hi
    exact did_mupd hT hR hd (.inl ho) hx hk' hv hu hk he
  · -- insert
    rename_i t m k v ho
    split at hi
    case h_2 => cases hi
    rename_i kt et hu
    split at hi
    case h_2 => cases hi
    rename_i kk x' k' v' hk hx hk' hv
    simp only [Option.some.injEq] at hi
    subst hi
    exact did_mupd hT hR hd (.inr ho) hx hk' hv hu hk he
  · -- range
    rename_i t x ho
    split at hi
    · rename_i kt et hu
      simp only [Option.map_eq_some_iff] at hi
      obtain ⟨x', hx, rfl⟩ := hi
      exact did_range hT hR hd ho hx hu he
    · cases hi
  · -- next
    simp only [Option.map_eq_some_iff] at hi
    obtain ⟨x', hx, rfl⟩ := hi
    simp [exec] at he
  · -- entry
    rename_i x ho
    simp only [Option.map_eq_some_iff] at hi
    obtain ⟨x', hx, rfl⟩ := hi
    exact did_entry hT hR hd ho hx he
  · -- makeFunc
    rename_i f xs ys ho
    split at hi
    case h_2 => cases hi
    rename_i k
    split at hi
    case h_2 => cases hi
    rename_i xs' ys' h1 h2
    simp only [Option.some.injEq] at hi
    subst hi
    exact did_mkfn hT hR hd ho h1 h2 he
  · -- makeInterface
    rename_i t x ho
    split at hi
    · cases hi
    · rename_i u hn hu
      simp only [Option.map_eq_some_iff] at hi
      obtain ⟨x', hx, rfl⟩ := hi
      exact did_mkif hT hR hd ho hx hu (fun ms e => hn ms e) he
    · cases hi
  · -- extract
    rename_i x k ho
    simp only [Option.map_eq_some_iff] at hi
    obtain ⟨x', hx, rfl⟩ := hi
    exact did_extract hT hR hd ho hx he
  · -- call
    rename_i c ho
    split at hi
    · rename_i f hf
      unfold compCall at hi
      split at hi
      · split at hi
        · split at hi
          · simp only [Option.map_eq_some_iff] at hi
            obtain ⟨x', hx, rfl⟩ := hi
            simp [exec] at he
          · cases hi
        · cases hi
      · simp only [Option.map_eq_some_iff] at hi
        obtain ⟨x', hx, rfl⟩ := hi
        simp [exec] at he
      · cases hi
    · rename_i b hb
      exact builtin_ok hT hR hd ho hb hi he
    · cases hi
  · -- panic
    simp only [Option.map_eq_some_iff] at hi
    obtain ⟨x', hx, rfl⟩ := hi
    simp [exec] at he
  · cases hi
end
end Go.Ai
