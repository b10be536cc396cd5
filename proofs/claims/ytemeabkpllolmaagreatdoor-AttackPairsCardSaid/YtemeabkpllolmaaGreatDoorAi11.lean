/-
  A part of an interpreter over abstract data, proved sound once for the model: what it says of the code, the machine does in every order. Conditions: none beyond the statement.
-/
import Derived.Test.YtemeabkpllolmaaGreatDoorAi10
/-! clear, map updates, append. -/
set_option linter.unusedVariables false
set_option linter.unusedSimpArgs false
namespace Go.Ai
section
variable {P : Program} {w : World} {s : St} {ι : Imap} {T : List D} {a : Act} {o : Oper} {d : D} {s' : St}

theorem V_unit {X : Nat → Nat → Prop} : V w X ι (.tup []) (.tuple #[]) := .tup [] #[] rfl fun i hi => absurd hi (Nat.not_lt_zero _)

theorem row_self (arr : Array Value) (k : Nat) : (arr.toList.take k ++ ([] : List Value) ++ arr.toList.drop (k + ([] : List Value).length)).toArray = arr := by
  apply Array.ext'
  simp

theorem did_clear (hT : TV w (Xof s.H ι) ι T a.tmps) (hR : R w s.H ι) (hd : ι s.nx = none) {t e : TypeId} {sz : Nat} {z : List D} {x : Operand} {x' : Opd} {c : Call} (ho : o.op = .call c) (hc : c.callee = .builtin .clear) (hat : c.argTypes = #[t]) (hargs : c.args = #[x]) (hx : opd x = some x')
    (hu : P.underlying t = some (.slice e)) (hs : szT P e = some sz) (hz : zeroCells P e = some z) (hzl : z.length = sz)
    (he : exec (evO T) (.clear sz z x') s = some (d, s')) : Did P w s ι a o d s' := by
  have vx := V_opd hT hx
  have run1 : ∀ v w', a.eval x = v → (Builtin.clear_ #[t] o.type #[v]).run P w = .ok (.tuple #[]) w' → (execOp a.eval o).run P w = .ok (.value (.tuple #[])) w' := by
    intro v w' hv hr
    simp [execOp, ho, resolve, hc, hargs, hat, hv, invoke, builtin, hr]
  simp only [exec] at he
  split at he
  · rename_i hq
    rw [hq] at vx
    simp only [Option.some.injEq, Prod.mk.injEq] at he
    obtain ⟨rfl, rfl⟩ := he
    exact Did.still hR hd (run1 _ _ (V_raw vx) (by simp [Builtin.clear_, run_under hu])) V_unit
  · rename_i hq
    rw [hq] at vx
    simp only [Option.some.injEq, Prod.mk.injEq] at he
    obtain ⟨rfl, rfl⟩ := he
    generalize hv : a.eval x = v at vx
    cases vx with
    | e0 A =>
      cases A with
      | none => exact Did.still hR hd (run1 _ _ hv (by simp [Builtin.clear_, run_under hu])) V_unit
      | some ad => exact Did.still hR hd (run1 _ _ hv (by simp [Builtin.clear_, run_under hu])) V_unit
  · rename_i n off len sz' hq
    rw [hq] at vx
    split at he
    case h_2 => cases he
    rename_i cs e' lo hl
    split at he
    case isFalse => cases he
    rename_i hcond
    obtain ⟨rfl, c1, c2, c3, c4, c5⟩ := hcond
    simp only [Option.some.injEq, Prod.mk.injEq] at he
    obtain ⟨rfl, rfl⟩ := he
    generalize hv : a.eval x = v at vx
    cases vx with
    | sl n b base off len sz' cap ad arr ee fr k1 k2 k3 k4 k5 =>
      obtain ⟨b', base', g1, arr', g2, g3, g4⟩ := hR.obj _ _ hl
      rw [k1] at g1
      simp only [Option.some.injEq, Prod.mk.injEq] at g1
      obtain ⟨rfl, rfl⟩ := g1
      rw [k3] at g2
      simp only [Option.some.injEq, Go.Obj.cells.injEq] at g2
      obtain ⟨rfl, rfl, rfl⟩ := g2
      obtain ⟨zv, q1, q2, q3⟩ := cells_of_zero (w := w) (ι := ι) (X := Xof s.H ι) hz c2
      have hrl : (repZ z len).length = len * sz' := by rw [repZ_length, hzl]
      rcases Nat.eq_zero_or_pos len with h0 | h0
      · subst h0
        have hrow := row_self arr (base + off)
        have hg := good_cells (w := w) hR hd hl k1 c5 k3 g3 g4 (ds := []) (vs := []) rfl (fun i hi => absurd hi (Nat.not_lt_zero _)) (off := off) (by simp; omega) c4 (splice cs off (repZ z 0)) (by rw [length_splice _ _ _ (by omega)]; exact g3)
          (fun i hi => by rw [getD_splice _ _ _ _ (by omega)]; rfl) (fun i hi => .inl (by rwa [length_splice _ _ _ (by omega)] at hi))
        rw [hrow, setRow_self w b arr _ _ k3] at hg
        exact ⟨_, _, _, .inl (run1 _ _ hv (by simp [Builtin.clear_, run_under hu])), hg, V_unit⟩
      · rcases k5 with rfl | k5
        case inr => omega
        have hcv : CV w (Xof s.H ι) ι (repZ z len) (Builtin.zeroCells zv.cells len) := by
          rcases Nat.eq_zero_or_pos sz' with hs0 | hs0
          · have hz0 : z = [] := List.eq_nil_of_length_eq_zero (by omega)
            have hzv : zv.cells.size = 0 := by rw [q2, hz0]; rfl
            refine ⟨by simp [Builtin.zeroCells, hrl, hzv, hs0], fun i hi => ?_⟩
            rw [hrl, hs0] at hi
            omega
          · have := CV_rep (w := w) (X := Xof s.H ι) (ι := ι) len (z := z) (zs := zv.cells) ⟨q2, q3⟩ (by omega)
            have e1 : Builtin.zeroCells zv.cells len = (Array.range (len * z.length)).map (fun i => zv.cells[i % zv.cells.size]!) := by simp [Builtin.zeroCells, q2]
            rwa [e1]
        have hvs : ∀ i, i < (repZ z len).length → V w (Xof s.H ι) ι ((repZ z len).getD i default) ((Builtin.zeroCells zv.cells len).toList.getD i undef) := by
          intro i hi
          have := hcv.v i hi
          simpa [List.getD_eq_getElem?_getD, Array.getD_eq_getD_getElem?] using this
        have hlen : (Builtin.zeroCells zv.cells len).toList.length = (repZ z len).length := by simpa using hcv.size
        have hone := one_cells hlen hvs (repZ_one c2 len)
        have hst := run_storeCells_at P b (base + off) _ (Builtin.zeroCells zv.cells len).toList 0 arr w k3 (by rw [hlen, hrl]; omega) hone
        simp only [Nat.add_zero] at hst
        refine ⟨_, _, _, .inl (run1 _ _ hv ?_), good_cells (w := w) hR hd hl k1 c5 k3 g3 g4 hlen hvs (by rw [hrl]; omega) c4 (splice cs off (repZ z len)) (by rw [length_splice _ _ _ (by omega)]; exact g3)
          (fun i hi => getD_splice _ _ _ _ (by omega)) (fun i hi => .inl (by rwa [length_splice _ _ _ (by omega)] at hi)), V_unit⟩
        obtain ⟨m, rfl⟩ : ∃ m, len = m + 1 := ⟨len - 1, by omega⟩
        simp [Builtin.clear_, run_under hu, q1, hst]
  · cases he

theorem run_keyStays {kk : Nat} {x y : Value} (h : keyEq kk x y = some true) : (Instr.keyThatStays y x).run P w = .ok x w := by
  have : Instr.sameBits 10000 y x = true := by
    unfold keyEq at h
    split at h <;> first | contradiction | skip
    · split at h
      case isFalse => cases h
      rename_i hk
      subst hk
      simp only [Option.some.injEq, beq_iff_eq] at h
      subst h
      have : ∀ n k m, Instr.sameBits n (.int k m) (.int k m) = true := by intro n k m; cases n <;> simp [Instr.sameBits]
      exact this _ _ _
    · rename_i u v
      simp only [Option.some.injEq] at h
      rw [beq_toListBytes, beq_iff_eq] at h
      have : ∀ n, Instr.sameBits n (.string v) (.string u) = (v == u) := by intro n; cases n <;> simp [Instr.sameBits]
      rw [this, beq_toListBytes, h]
      exact beq_self_eq_true _
    · simp only [Option.some.injEq, beq_iff_eq] at h
      subst h
      have : ∀ n m, Instr.sameBits n (.bool m) (.bool m) = true := by intro n m; cases n <;> simp [Instr.sameBits]
      exact this _ _
  simp [Instr.keyThatStays, this]

theorem did_mupd (hT : TV w (Xof s.H ι) ι T a.tmps) (hR : R w s.H ι) (hd : ι s.nx = none) {x y z : Operand} {x' y' z' : Opd} {t kt et : TypeId} {kk : Nat} (ho : o.op = .mapUpdate t x y z ∨ o.op = .insert t x y z) (hx : opd x = some x') (hy : opd y = some y') (hz : opd z = some z')
    (hu : P.underlying t = some (.map kt et)) (hk : kindT P kt = some kk) (he : exec (evO T) (.mupd kk x' y' z') s = some (d, s')) : Did P w s ι a o d s' := by
  have vx := V_opd hT hx
  have vy := V_opd hT hy
  have vz := V_opd hT hz
  have run1 : ∀ w', (Instr.mapUpdate t (a.eval x) (a.eval y) (a.eval z)).run P w = .ok () w' → (execOp a.eval o).run P w = .ok .skip w' := by
    intro w' hr
    rcases ho with ho | ho <;> simp [execOp, ho, hr]
  simp only [exec] at he
  split at he
  case h_2 => cases he
  rename_i n kv hn hkv
  rw [hn] at vx
  rw [hkv] at vy
  have qy := V_raw vy
  split at he
  case h_2 => cases he
  rename_i es hl
  split at he
  case isFalse => cases he
  rename_i hro
  generalize hv : a.eval x = v at vx
  cases vx with
  | map n b base hi =>
    obtain ⟨b', base', g1, ents, clock, g2, g3, g4, g5⟩ := hR.obj _ _ hl
    rw [hi] at g1
    simp only [Option.some.injEq, Prod.mk.injEq] at g1
    obtain ⟨rfl, rfl⟩ := g1
    have hck : (Instr.checkKey false 10000 kt (a.eval y)).run P w = .ok () w := checkKey_kind hk false 9999 _
    have hlt : b < w.heap.size := (Array.getElem?_eq_some_iff.1 g2).1
    -- the block written
    have hset : ∀ (ents' : Array MapEntry) (clock' : Nat) (es' : List (Value × D)), ents'.size = es'.length → (∀ i, i < es'.length → (ents'.getD i default).key = (es'.getD i default).1) →
        (∀ (X' : Nat → Nat → Prop) (w' : World), (∀ d v, V w (Xof s.H ι) ι d v → V w' X' ι d v) → ∀ i, i < es'.length → V w' X' ι (es'.getD i default).2 (ents'.getD i default).val) →
        Good w { w with heap := w.heap.setIfInBounds b (.map ents' clock') } s { s with H := upd s.H n (.map es' false) } ι ι := by
      intro ents' clock' es' h1 h2 h3
      refine good_upd hR hd hl hi hro _ rfl rfl rfl (by simp) (fun k hk => by simp [Array.getElem?_setIfInBounds, Ne.symm hk]) (fun arr e fr hb => absurd hb (by rw [g2]; simp)) (fun _ _ _ => rfl) (fun _ _ => rfl) ?_
      intro hV
      exact ⟨ents', clock', by simp [Array.getElem?_setIfInBounds, hlt], h1, h2, fun i hi => h3 _ _ hV i hi⟩
    split at he
    · rename_i i dd hf
      rcases run_findKey (P := P) (w := w) hk g3 g4 hf with ⟨h1, h2⟩ | ⟨j, dd', h1, h2, h3, h4, h5⟩
      · cases h1
      · simp only [Option.some.injEq, Prod.mk.injEq] at h1
        obtain ⟨rfl, rfl⟩ := h1
        simp only [Option.some.injEq, Prod.mk.injEq] at he
        obtain ⟨rfl, rfl⟩ := he
        have hjs : i < ents.size := by omega
        have hkeep : (Instr.keyThatStays (((ents[i]?).map (·.key)).getD (a.eval y)) (a.eval y)).run P w = .ok (a.eval y) w := by
          have e1 : ((ents[i]?).map (·.key)).getD (a.eval y) = (es.getD i default).1 := by
            have := g4 i h2
            rw [Array.getD_eq_getD_getElem?] at this
            rw [Array.getElem?_eq_getElem hjs] at this ⊢
            simpa using this
          rw [e1, qy]
          exact run_keyStays h4
        refine ⟨undef, _, ι, .inr ⟨run1 _ ?_, rfl⟩, hset (ents.modify i fun e => { e with key := a.eval y, val := a.eval z }) clock (es.set i (kv, evO T z')) (by simpa using g3) ?_ ?_, .raw _⟩
        · simp only [Instr.mapUpdate, Sem.run_bind, run_under hu, Result.andThen_ok, hv, getObj, Sem.run, g2, Sem.run_pure, hck]
          rw [qy, h5]
          simp only [Result.andThen_ok]
          rw [← qy]
          simp only [Sem.run_bind, hkeep, Result.andThen_ok, setObj, Sem.run, g2]
        · intro m hm
          rw [List.length_set] at hm
          by_cases hmi : m = i
          · subst hmi
            have e1 : (es.set m (kv, evO T z')).getD m default = (kv, evO T z') := by simp [List.getD_eq_getElem?_getD, h2]
            have e2 : ((ents.modify m fun e => { e with key := a.eval y, val := a.eval z }).getD m default) = (fun e : MapEntry => { e with key := a.eval y, val := a.eval z }) ents[m] := by
              rw [Array.getD_eq_getD_getElem?, Array.getElem?_modify, if_pos rfl, Array.getElem?_eq_getElem hjs]
              rfl
            rw [e1, e2]
            exact qy
          · have := g4 m hm
            simpa [Array.getD_eq_getD_getElem?, Array.getElem?_modify, Ne.symm hmi, List.getD_eq_getElem?_getD, List.getElem?_set] using this
        · intro X' w' hV m hm
          rw [List.length_set] at hm
          by_cases hmi : m = i
          · subst hmi
            have := hV _ _ vz
            have e1 : (es.set m (kv, evO T z')).getD m default = (kv, evO T z') := by simp [List.getD_eq_getElem?_getD, h2]
            have e2 : ((ents.modify m fun e => { e with key := a.eval y, val := a.eval z }).getD m default) = (fun e : MapEntry => { e with key := a.eval y, val := a.eval z }) ents[m] := by
              rw [Array.getD_eq_getD_getElem?, Array.getElem?_modify, if_pos rfl, Array.getElem?_eq_getElem hjs]
              rfl
            rw [e1, e2]
            exact this
          · have := hV _ _ (g5 m hm)
            simpa [Array.getD_eq_getD_getElem?, Array.getElem?_modify, Ne.symm hmi, List.getD_eq_getElem?_getD, List.getElem?_set] using this
    · rename_i hf
      rcases run_findKey (P := P) (w := w) hk g3 g4 hf with ⟨h1, h2⟩ | ⟨j, dd', h1, h2, h3, h4, h5⟩
      · simp only [Option.some.injEq, Prod.mk.injEq] at he
        obtain ⟨rfl, rfl⟩ := he
        refine ⟨undef, _, ι, .inr ⟨run1 _ ?_, rfl⟩, hset (ents.push { key := a.eval y, val := a.eval z, born := clock }) (clock + 1) (es ++ [(kv, evO T z')]) (by simpa using g3) ?_ ?_, .raw _⟩
        · simp only [Instr.mapUpdate, Sem.run_bind, run_under hu, Result.andThen_ok, hv, getObj, Sem.run, g2, Sem.run_pure, hck]
          rw [qy, h2]
          simp only [Result.andThen_ok, setObj, Sem.run, g2]
        · intro m hm
          rw [List.length_append, List.length_singleton] at hm
          by_cases hme : m = es.length
          · subst hme
            have e1 : (es ++ [(kv, evO T z')]).getD es.length default = (kv, evO T z') := by simp [List.getD_eq_getElem?_getD]
            have e2 : ((ents.push { key := a.eval y, val := a.eval z, born := clock }).getD es.length default) = { key := a.eval y, val := a.eval z, born := clock } := by
              simp [Array.getD_eq_getD_getElem?, Array.getElem?_push, ← g3]
            rw [e1, e2]
            exact qy
          · have hm' : m < es.length := by omega
            have := g4 m hm'
            have hms : m ≠ ents.size := by omega
            simpa [Array.getD_eq_getD_getElem?, Array.getElem?_push, hms, List.getD_eq_getElem?_getD, List.getElem?_append, hm'] using this
        · intro X' w' hV m hm
          rw [List.length_append, List.length_singleton] at hm
          by_cases hme : m = es.length
          · subst hme
            have := hV _ _ vz
            have e1 : (es ++ [(kv, evO T z')]).getD es.length default = (kv, evO T z') := by simp [List.getD_eq_getElem?_getD]
            have e2 : ((ents.push { key := a.eval y, val := a.eval z, born := clock }).getD es.length default) = { key := a.eval y, val := a.eval z, born := clock } := by
              simp [Array.getD_eq_getD_getElem?, Array.getElem?_push, ← g3]
            rw [e1, e2]
            exact this
          · have hm' : m < es.length := by omega
            have := hV _ _ (g5 m hm')
            have hms : m ≠ ents.size := by omega
            simpa [Array.getD_eq_getD_getElem?, Array.getElem?_push, hms, List.getD_eq_getElem?_getD, List.getElem?_append, hm'] using this
      · cases h1
    · cases he
end
end Go.Ai
