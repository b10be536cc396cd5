/-
  A part of an interpreter over abstract data, proved sound once for the model: what it says of the code, the machine does in every order. Conditions: none beyond the statement.
-/
import Derived.Test.YtemeabkpllolmaaGreatDoorAi9
import Derived.IntWalk
/-! Aggregates, literals, make, clear. -/
set_option linter.unusedVariables false
set_option linter.unusedSimpArgs false
namespace Go.Ai
section
variable {P : Program} {w : World} {s : St} {ι : Imap} {T : List D} {a : Act} {o : Oper} {d : D} {s' : St}

/-- Cells of data against cells of memory. -/
structure CV (w : World) (X : Nat → Nat → Prop) (ι : Imap) (cs : List D) (arr : Array Value) : Prop where
  size : arr.size = cs.length
  v : ∀ i, i < cs.length → V w X ι (cs.getD i default) (arr.getD i undef)

theorem foldl_set (off : Nat) : ∀ (vs : List Value) (k : Nat) (arr : Array Value),
    ((vs.zipIdx k).foldl (fun cs (p : Value × Nat) => cs.setIfInBounds (off + p.2) p.1) arr).size = arr.size ∧
    ∀ i, i < arr.size → ((vs.zipIdx k).foldl (fun cs (p : Value × Nat) => cs.setIfInBounds (off + p.2) p.1) arr).getD i undef = if off + k ≤ i ∧ i < off + k + vs.length then vs.getD (i - (off + k)) undef else arr.getD i undef
  | [], k, arr => ⟨rfl, fun i hi => by
      have : ¬ (off + k ≤ i ∧ i < off + k + ([] : List Value).length) := by simp only [List.length_nil]; omega
      rw [if_neg this]; rfl⟩
  | v :: vs, k, arr => by
    obtain ⟨h1, h2⟩ := foldl_set off vs (k + 1) (arr.setIfInBounds (off + k) v)
    simp only [List.zipIdx_cons, List.foldl_cons]
    refine ⟨by rw [h1]; simp, fun i hi => ?_⟩
    rw [h2 i (by simpa using hi)]
    by_cases hc : off + (k + 1) ≤ i ∧ i < off + (k + 1) + vs.length
    · have hc2 : off + k ≤ i ∧ i < off + k + (v :: vs).length := by simp; omega
      rw [if_pos hc, if_pos hc2, show i - (off + k) = (i - (off + (k + 1))) + 1 by omega, List.getD_cons_succ]
    · rw [if_neg hc]
      by_cases he : i = off + k
      · subst he
        have hc2 : off + k ≤ off + k ∧ off + k < off + k + (v :: vs).length := by simp
        rw [if_pos hc2]
        simp [Array.getD_eq_getD_getElem?, Array.getElem?_setIfInBounds, hi]
      · have hc2 : ¬ (off + k ≤ i ∧ i < off + k + (v :: vs).length) := by simp; omega
        rw [if_neg hc2]
        simp [Array.getD_eq_getD_getElem?, Array.getElem?_setIfInBounds, Ne.symm he]

theorem fill_ok {place : Nat → Option (Nat × Nat)} {X : Nat → Nat → Prop} (hX : X = Xof s.H ι) (hT : TV w X ι T a.tmps) : ∀ (l : List (Nat × Operand)) (ps : List (Nat × Nat × Opd)) (cs cs' : List D) (arr : Array Value), parts place l = some ps → CV w X ι cs arr →
    fill 0 cs (ps.map fun p => (p.1, p.2.1, evO T p.2.2)) = some cs' → ∃ arr', Instr.fill place arr (l.map fun p => (p.1, a.eval p.2)) = some arr' ∧ CV w X ι cs' arr' ∧ (cs.all one = true → cs'.all one = true)
  | [], ps, cs, cs', arr, hp, hc, hf => by
    simp only [parts, Option.some.injEq] at hp
    subst hp
    simp only [List.map_nil, fill, Option.some.injEq] at hf
    subst hf
    exact ⟨arr, rfl, hc, fun h => h⟩
  | (i, x) :: l, ps, cs, cs', arr, hp, hc, hf => by
    simp only [parts] at hp
    split at hp
    case h_2 => cases hp
    rename_i off sz y ys h1 h2 h3
    simp only [Option.some.injEq] at hp
    subst hp
    simp only [List.map_cons, fill] at hf
    split at hf
    case isFalse => cases hf
    rename_i hcond
    obtain ⟨c1, c2, c3⟩ := hcond
    have vy := V_opd hT h2
    obtain ⟨g1, g2⟩ := cells_V vy c3
    have hstep : CV w X ι (splice cs off (cellsOf (evO T y))) ((a.eval x).cells.zipIdx.foldl (fun cs (p : Value × Nat) => cs.setIfInBounds (off + p.2) p.1) arr) := by
      have e : (a.eval x).cells.zipIdx.foldl (fun cs (p : Value × Nat) => cs.setIfInBounds (off + p.2) p.1) arr = ((a.eval x).cells.toList.zipIdx 0).foldl (fun cs (p : Value × Nat) => cs.setIfInBounds (off + p.2) p.1) arr := by
        rw [← Array.foldl_toList]
        congr 1
        simp
      rw [e]
      obtain ⟨f1, f2⟩ := foldl_set off (a.eval x).cells.toList 0 arr
      refine ⟨by rw [f1, length_splice _ _ _ (by omega)]; exact hc.size, fun i hi => ?_⟩
      rw [length_splice _ _ _ (by omega)] at hi
      rw [f2 i (by rw [hc.size]; exact hi), getD_splice _ _ _ _ (by omega)]
      simp only [Nat.add_zero, Array.length_toList, g1]
      by_cases hq : off ≤ i ∧ i < off + (cellsOf (evO T y)).length
      · rw [if_pos hq, if_pos hq]
        have := g2 (i - off) (by omega)
        simpa [List.getD_eq_getElem?_getD, Array.getD_eq_getD_getElem?] using this
      · rw [if_neg hq, if_neg hq]
        exact hc.v i hi
    obtain ⟨arr', k1, k2, k3⟩ := fill_ok hX hT l ys _ cs' _ h3 hstep hf
    refine ⟨arr', ?_, k2, fun hall => k3 ?_⟩
    · simp only [List.map_cons, Instr.fill, h1]
      rw [if_neg]
      · exact k1
      · simp only [ne_eq, Bool.or_eq_true, bne_iff_ne, decide_eq_true_eq, not_or, Decidable.not_not]
        have := hc.size
        omega
    · simp only [splice, List.all_append, Bool.and_eq_true]
      refine ⟨List.all_eq_true.2 fun x hx => List.all_eq_true.1 hall x (List.mem_of_mem_take hx), c3, List.all_eq_true.2 fun x hx => List.all_eq_true.1 hall x (List.mem_of_mem_drop hx)⟩

theorem run_mapM {α β : Type} (f : α → Sem β) (g : α → β) (w : World) : ∀ (l : List α), (∀ x ∈ l, (f x).run P w = .ok (g x) w) → (l.mapM f).run P w = .ok (l.map g) w
  | [], _ => by simp
  | x :: l, h => by
    have h0 := h x (by simp)
    have ih := run_mapM f g w l (fun y hy => h y (by simp [hy]))
    simp [List.mapM_cons, h0, ih]

theorem did_build_struct (hT : TV w (Xof s.H ι) ι T a.tmps) (hR : R w s.H ι) (hd : ι s.nx = none) {t : TypeId} {z : List D} {ps : Array (Nat × Operand)} {ps' : List (Nat × Nat × Opd)} {fs : Array Field} (ho : o.op = .build t ps) (hz : zeroCells P t = some z)
    (hu : P.underlying t = some (.struct fs)) (hps : parts (fun i => (fs[i]?).bind fun f => (szT P f.type).map fun n => (f.offset, n)) ps.toList = some ps') (hsz : fs.toList.all (fun f => (szT P f.type).isSome) = true)
    (he : exec (evO T) (.build z ps') s = some (d, s')) : Did P w s ι a o d s' := by
  simp only [exec] at he
  split at he
  case h_2 => cases he
  rename_i cs hf
  split at he
  case isFalse => cases he
  rename_i hone
  simp only [Option.some.injEq, Prod.mk.injEq] at he
  obtain ⟨rfl, rfl⟩ := he
  obtain ⟨zv, g1, g2, g3⟩ := cells_of_zero (w := w) (ι := ι) (X := Xof s.H ι) hz hone
  obtain ⟨arr', k1, k2, k3⟩ := fill_ok rfl hT ps.toList ps' z cs zv.cells hps ⟨g2, g3⟩ hf
  refine Did.still hR hd (v := .agg arr') ?_ (.agg _ _ k2.size k2.v)
  have hm : (fs.mapM fun f => (do pure (f.offset, ← sizeOf f.type) : Sem (Nat × Nat))).run P w = .ok (fs.map fun f => (f.offset, (szT P f.type).getD 0)) w := by
    rw [Array.mapM_eq_mapM_toList]
    have := run_mapM (P := P) (fun f : Field => (do pure (f.offset, ← sizeOf f.type) : Sem (Nat × Nat))) (fun f => (f.offset, (szT P f.type).getD 0)) w fs.toList (fun f hf => by
      have h := List.all_eq_true.1 hsz f hf
      obtain ⟨n, hn⟩ := Option.isSome_iff_exists.1 h
      simp [run_szT hn, hn])
    simp only [Sem.run_map, this, Result.andThen_ok]
    congr 1
    apply Array.ext'
    simp
  have hpl : (fun i : Nat => (fs[i]?).bind fun f : Field => (szT P f.type).map fun n => (f.offset, n)) = fun i : Nat => (fs.map fun f : Field => (f.offset, (szT P f.type).getD 0))[i]? := by
    funext i
    rw [Array.getElem?_map]
    cases hfi : fs[i]? with
    | none => rfl
    | some f =>
      have hmem : f ∈ fs.toList := by
        rw [Array.getElem?_eq_some_iff] at hfi
        obtain ⟨hlt, rfl⟩ := hfi
        exact Array.mem_toList_iff.2 (Array.getElem_mem hlt)
      have h := List.all_eq_true.1 hsz f hmem
      obtain ⟨n, hn⟩ := Option.isSome_iff_exists.1 h
      simp [hn]
  rw [hpl] at k1
  simp only [execOp, ho, Sem.run_bind, Instr.build, g1, Result.andThen_ok, run_under hu]
  rw [hm]
  simp only [Result.andThen_ok, Array.toList_map, k1, Sem.run_pure]

theorem did_build_array (hT : TV w (Xof s.H ι) ι T a.tmps) (hR : R w s.H ι) (hd : ι s.nx = none) {t e : TypeId} {n sz : Nat} {z : List D} {ps : Array (Nat × Operand)} {ps' : List (Nat × Nat × Opd)} (ho : o.op = .build t ps) (hz : zeroCells P t = some z)
    (hu : P.underlying t = some (.array n e)) (hs : szT P e = some sz) (hps : parts (fun i => some (i * sz, sz)) ps.toList = some ps')
    (he : exec (evO T) (.build z ps') s = some (d, s')) : Did P w s ι a o d s' := by
  simp only [exec] at he
  split at he
  case h_2 => cases he
  rename_i cs hf
  split at he
  case isFalse => cases he
  rename_i hone
  simp only [Option.some.injEq, Prod.mk.injEq] at he
  obtain ⟨rfl, rfl⟩ := he
  obtain ⟨zv, g1, g2, g3⟩ := cells_of_zero (w := w) (ι := ι) (X := Xof s.H ι) hz hone
  obtain ⟨arr', k1, k2, k3⟩ := fill_ok rfl hT ps.toList ps' z cs zv.cells hps ⟨g2, g3⟩ hf
  refine Did.still hR hd (v := .agg arr') ?_ (.agg _ _ k2.size k2.v)
  simp [execOp, ho, Instr.build, g1, run_under hu, run_szT hs, k1]

theorem repZ_length (z : List D) : ∀ n, (repZ z n).length = n * z.length
  | 0 => by simp [repZ]
  | n + 1 => by simp [repZ, repZ_length z n, Nat.add_mul]; omega
theorem repZ_getD (z : List D) : ∀ (n i : Nat), i < n * z.length → (repZ z n).getD i default = z.getD (i % z.length) default
  | 0, i, h => by omega
  | n + 1, i, h => by
    simp only [repZ, List.getD_eq_getElem?_getD, List.getElem?_append]
    by_cases hi : i < z.length
    · simp [hi, Nat.mod_eq_of_lt hi]
    · have h2 : i - z.length < n * z.length := by rw [Nat.add_mul, Nat.one_mul] at h; omega
      have ih := repZ_getD z n (i - z.length) h2
      simp only [List.getD_eq_getElem?_getD] at ih
      have hm : (i - z.length) % z.length = i % z.length := (Nat.mod_eq_sub_mod (by omega)).symm
      rw [if_neg hi, ih, hm]

theorem CV_rep {X : Nat → Nat → Prop} {z : List D} {zs : Array Value} (n : Nat) (h : CV w X ι z zs) (hz : 0 < z.length) : CV w X ι (repZ z n) ((Array.range (n * z.length)).map (fun i => zs[i % zs.size]!)) := by
  refine ⟨by simp [repZ_length], fun i hi => ?_⟩
  rw [repZ_length] at hi
  rw [repZ_getD z n i hi]
  have hm : i % z.length < z.length := Nat.mod_lt _ hz
  have := h.v (i % z.length) hm
  have e : ((Array.range (n * z.length)).map (fun i => zs[i % zs.size]!)).getD i undef = zs.getD (i % z.length) undef := by
    have hb : i % z.length < zs.size := by rw [h.size]; exact hm
    have h1 : i < ((Array.range (n * z.length)).map (fun i => zs[i % zs.size]!)).size := by simpa using hi
    rw [Array.getD_eq_getD_getElem?, Array.getElem?_eq_getElem h1]
    simp only [Option.getD_some, Array.getElem_map, Array.getElem_range, h.size]
    rw [getElem!_pos zs (i % z.length) hb, Array.getD_eq_getD_getElem?, Array.getElem?_eq_getElem hb]
    rfl
  rw [e]
  exact this

theorem repZ_one {z : List D} (h : z.all one = true) : ∀ n, (repZ z n).all one = true
  | 0 => rfl
  | n + 1 => by simp only [repZ, List.all_append, h, repZ_one h n, Bool.and_self]

theorem did_bslice (hT : TV w (Xof s.H ι) ι T a.tmps) (hR : R w s.H ι) (hd : ι s.nx = none) {t e : TypeId} {n sz : Nat} {z : List D} {ps : Array (Nat × Operand)} {ps' : List (Nat × Nat × Opd)} (ho : o.op = .buildSlice t n ps) (hz : zeroCells P e = some z)
    (hu : P.underlying t = some (.slice e)) (hs : szT P e = some sz) (hps : parts (fun i => some (i * sz, sz)) ps.toList = some ps') (hzl : z.length = sz) (hsz : 0 < sz)
    (he : exec (evO T) (.bslice e sz n z ps') s = some (d, s')) : Did P w s ι a o d s' := by
  simp only [exec] at he
  split at he
  case h_2 => cases he
  rename_i cs hf
  split at he
  case isFalse => cases he
  rename_i hc
  obtain ⟨hone, _, hbig⟩ := hc
  simp only [Option.some.injEq, Prod.mk.injEq] at he
  obtain ⟨rfl, rfl⟩ := he
  obtain ⟨zv, g1, g2, g3⟩ := cells_of_zero (w := w) (ι := ι) (X := Xof s.H ι) hz hone
  -- the zeroes, whether the slice is empty or not
  have hz0 : ∃ z0 : Array Value, (if n * sz = 0 then pure #[] else (do pure (← zeroValue e).cells : Sem (Array Value)) : Sem (Array Value)).run P w = .ok z0 w ∧ CV w (Xof s.H ι) ι (repZ z n) ((Array.range (n * sz)).map (fun i => z0[i % z0.size]!)) := by
    by_cases h0 : n * sz = 0
    · refine ⟨#[], by simp [h0], ?_⟩
      have hn : n = 0 := by
        rcases Nat.mul_eq_zero.1 h0 with h | h
        · exact h
        · omega
      subst hn
      exact ⟨by simp [repZ], fun i hi => absurd hi (by simp [repZ])⟩
    · refine ⟨zv.cells, by simp [h0, g1], ?_⟩
      rw [← hzl]
      exact CV_rep n ⟨g2, g3⟩ (by omega)
  obtain ⟨z0, q1, q2⟩ := hz0
  obtain ⟨arr', k1, k2, k3⟩ := fill_ok rfl hT ps.toList ps' _ cs _ hps q2 hf
  have hlen : cs.length = n * sz := by
    have h1 := k2.size
    have key : ∀ (l : List (Nat × Nat × D)) (cs cs' : List D), fill 0 cs l = some cs' → cs'.length = cs.length := by
      intro l
      induction l with
      | nil => intro cs cs' h; simp only [fill, Option.some.injEq] at h; rw [h]
      | cons p l ih =>
        intro cs cs' h
        obtain ⟨off, sz, d⟩ := p
        simp only [fill] at h
        split at h
        case isFalse => cases h
        rename_i hc
        rw [ih _ _ h, length_splice _ _ _ (by omega)]
    rw [key _ _ _ hf, repZ_length, hzl]
  refine ⟨.slice (some ⟨w.heap.size, 0, none⟩) n n, w.alloc (.cells arr' e), _, .inl ?_, good_new_cells hR hd arr' e cs 0 (by rw [k2.size]; exact Nat.le_refl _) k2.v, ?_⟩
  · have hb : ¬ (n * sz > 2 ^ 24) := by omega
    simp only [execOp, ho, Sem.run_bind, Instr.buildSlice, run_under hu, Result.andThen_ok, run_szT hs, Sem.run_ite, if_neg hb, Sem.run_pure]
    by_cases h0 : n * sz = 0
    · rw [if_pos h0] at q1 ⊢
      simp only [Sem.run_pure, Result.ok.injEq, and_true] at q1
      subst q1
      simp only [Array.toList_map, k1, Sem.run_bind, newRow, run_newObj, Result.andThen_ok, Sem.run_pure]
      rfl
    · rw [if_neg h0] at q1 ⊢
      simp only [Sem.run_bind, g1, Result.andThen_ok, Sem.run_pure, Result.ok.injEq, and_true] at q1
      subst q1
      simp only [g1, Result.andThen_ok, Array.toList_map, k1, Sem.run_bind, newRow, run_newObj, Sem.run_pure]
      rfl
  · have hsz' : arr'.size = n * sz := by rw [k2.size, hlen]
    exact .sl s.nx w.heap.size 0 0 n sz n ⟨w.heap.size, 0, none⟩ arr' e (0, 0) (by simp [ext]) (Nat.le_refl _) (by simp only [World.alloc, Array.getElem?_push_size]) (by omega) (.inl (by simp))

theorem did_mk (hT : TV w (Xof s.H ι) ι T a.tmps) (hR : R w s.H ι) (hd : ι s.nx = none) {t e : TypeId} {sz bytes : Nat} {z : List D} {x y : Operand} {x' y' : Opd} (ho : o.op = .makeSlice t x y) (hz : zeroCells P e = some z)
    (hu : P.underlying t = some (.slice e)) (hs : szT P e = some sz) (hb : bytesT P e = some bytes) (hx : opd x = some x') (hy : opd y = some y') (hzl : z.length = sz) (hsz : 0 < sz)
    (he : exec (evO T) (.mk e sz bytes z x' y') s = some (d, s')) : Did P w s ι a o d s' := by
  have vx := V_opd hT hx
  have vy := V_opd hT hy
  simp only [exec] at he
  split at he
  case h_2 => cases he
  rename_i l c hl hc
  rw [hl] at vx
  rw [hc] at vy
  have qx := V_raw vx
  have qy := V_raw vy
  split at he
  case isFalse => cases he
  rename_i hcond
  obtain ⟨c1, c2, c3, c4, hone, _, c5⟩ := hcond
  simp only [Option.some.injEq, Prod.mk.injEq] at he
  obtain ⟨rfl, rfl⟩ := he
  subst c5
  obtain ⟨m, rfl⟩ := Int.eq_ofNat_of_zero_le c1
  obtain ⟨zv, g1, g2, g3⟩ := cells_of_zero (w := w) (ι := ι) (X := Xof s.H ι) hz hone
  have hw : IntKind.i64.wrap (m : Int) = m := by
    have : (m : Int) ≤ 140737488355328 := by simpa using c4
    exact IntWalk.i64_in _ (by omega)
  have hbi : (typeInfo e).run P w = .ok ((P.info? e).getD default) w ∧ ((P.info? e).getD default).bytes = bytes := by
    unfold bytesT at hb
    cases hi : P.info? e with
    | none => simp [hi] at hb
    | some i => simp [hi] at hb; simp [typeInfo, hi, hb]
  obtain ⟨hti, htb⟩ := hbi
  have hcv : ∃ z0 : Array Value, (if m * sz = 0 then pure #[] else (do pure (← zeroValue e).cells : Sem (Array Value)) : Sem (Array Value)).run P w = .ok z0 w ∧ CV w (Xof s.H ι) ι (repZ z m) ((Array.range (m * sz)).map (fun i => z0[i % z0.size]!)) := by
    by_cases h0 : m * sz = 0
    · refine ⟨#[], by simp [h0], ?_⟩
      have hn : m = 0 := by
        rcases Nat.mul_eq_zero.1 h0 with h | h
        · exact h
        · omega
      subst hn
      exact ⟨by simp [repZ], fun i hi => absurd hi (by simp [repZ])⟩
    · refine ⟨zv.cells, by simp [h0, g1], ?_⟩
      rw [← hzl]
      exact CV_rep m ⟨g2, g3⟩ (by omega)
  obtain ⟨z0, q1, q2⟩ := hcv
  have hlarge : ¬ ((bytes : Int) * (m : Int) > 2 ^ 48) := by
    have : (m : Int) * bytes ≤ 2 ^ 47 := c3
    rw [Int.mul_comm]
    omega
  refine ⟨.slice (some ⟨w.heap.size, 0, none⟩) m m, w.alloc (.cells ((Array.range (m * sz)).map (fun i => z0[i % z0.size]!)) e), _, .inl ?_, good_new_cells hR hd _ e (repZ z (m : Int).toNat) 0 (by simpa using Nat.le_of_eq q2.size.symm) (by simpa using q2.v), ?_⟩
  · have hm0 : ¬ ((m : Int) < 0) := by omega
    simp only [execOp, ho, Sem.run_bind, Instr.makeSlice, run_under hu, Result.andThen_ok, qx, qy, asInt, asIntOf, Sem.run_pure, hti, htb, hw]
    have hcnd : (decide ((m : Int) < 0) || decide ((bytes : Int) * (m : Int) > 2 ^ 48) || decide ((m : Int) < 0) || decide ((m : Int) > (m : Int))) = false := by
      simp only [hm0, hlarge, decide_false, Bool.or_self, Int.lt_irrefl, gt_iff_lt]
    simp only [hcnd, Bool.false_eq_true, if_false, Sem.run_bind, run_askRoom, Result.andThen_ok, run_szT hs, Int.toNat_natCast, Sem.run_pure]
    by_cases h0 : m * sz = 0
    · rw [if_pos h0] at q1 ⊢
      simp only [Sem.run_pure, Result.ok.injEq, and_true] at q1
      subst q1
      simp only [Sem.run_bind, newRow, run_newObj, Result.andThen_ok, Sem.run_pure]
      rfl
    · rw [if_neg h0] at q1 ⊢
      simp only [Sem.run_bind, g1, Result.andThen_ok, Sem.run_pure, Result.ok.injEq, and_true] at q1
      subst q1
      simp only [g1, Result.andThen_ok, Sem.run_bind, newRow, run_newObj, Sem.run_pure]
      rfl
  · have := q2.size
    rw [repZ_length, hzl] at this
    simp only [Int.toNat_natCast]
    exact .sl s.nx w.heap.size 0 0 m sz m ⟨w.heap.size, 0, none⟩ ((Array.range (m * sz)).map (fun i => z0[i % z0.size]!)) e (0, 0) (by simp [ext]) (Nat.le_refl _) (by simp only [World.alloc, Array.getElem?_push_size]) (by omega) (.inl (by simp))
end
end Go.Ai
