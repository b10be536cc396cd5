/-
  A part of an interpreter over abstract data, proved sound once for the model: what it says of the code, the machine does in every order. Conditions: none beyond the statement.
-/
import Derived.Test.YtemeabkpllolmaaGreatDoorAi7
import Derived.Laws.Append
/-! Operations that make memory and write it. -/
set_option linter.unusedVariables false
set_option linter.unusedSimpArgs false
namespace Go.Ai
section
variable {P : Program} {w : World} {s : St} {ι : Imap} {T : List D} {a : Act} {o : Oper} {d : D} {s' : St}

theorem did_sliceS (hT : TV w (Xof s.H ι) ι T a.tmps) (hR : R w s.H ι) (hd : ι s.nx = none) {x : Operand} {x' : Opd} {lo hi : Option Operand} {lo' hi' : Option Opd} {t : TypeId}
    (ho : o.op = .slice t x lo hi none) (hx : opd x = some x') (h1 : optOpd lo = some lo') (h2 : optOpd hi = some hi')
    (hu : P.underlying t = some .string) (he : exec (evO T) (.sliceS x' lo' hi') s = some (d, s')) : Did P w s ι a o d s' := by
  have vx := V_opd hT hx
  simp only [exec] at he
  split at he
  case h_2 => cases he
  rename_i b hb
  rw [hb] at vx
  have qx := V_raw vx
  split at he
  case h_2 => cases he
  rename_i h hh
  split at he
  case h_2 => cases he
  rename_i l hl
  simp only [Option.some.injEq, Prod.mk.injEq] at he
  obtain ⟨rfl, rfl⟩ := he
  refine Did.still hR hd (v := .string (b.extract l h)) ?_ (.raw _)
  have e1 : (∃ v, hi.map a.eval = some v ∧ (Instr.sliceBound v b.size .sliceAlen).run P w = .ok h w) ∨ (hi.map a.eval = none ∧ h = b.size) := by
    rcases optOpd_ok hT h2 with ⟨rfl, rfl⟩ | ⟨p, q, rfl, rfl, hv⟩
    · simp only [Option.map_none, bnd, Option.some.injEq] at hh
      exact .inr ⟨rfl, hh.symm⟩
    · exact .inl ⟨_, rfl, (bnd_ok hv hh _ (Nat.le_refl _) _).1⟩
  have e2 : (∃ v, lo.map a.eval = some v ∧ (Instr.sliceBound v h .sliceB).run P w = .ok l w) ∨ (lo.map a.eval = none ∧ l = 0) := by
    rcases optOpd_ok hT h1 with ⟨rfl, rfl⟩ | ⟨p, q, rfl, rfl, hv⟩
    · simp only [Option.map_none, bnd, Option.some.injEq] at hl
      exact .inr ⟨rfl, hl.symm⟩
    · exact .inl ⟨_, rfl, (bnd_ok hv hl _ (Nat.le_refl _) _).1⟩
  have hb : (Instr.sliceBounds false b.size b.size (lo.map a.eval) (hi.map a.eval) none).run P w = .ok (l, h, b.size) w := by
    rcases e1 with ⟨v, q1, q2⟩ | ⟨q1, q2⟩ <;> rcases e2 with ⟨u, r1, r2⟩ | ⟨r1, r2⟩ <;>
      (unfold Instr.sliceBounds; rw [q1, r1]; simp [q2, r2] <;> (try rw [← q2]; simp [r2]))
  simp [execOp, ho, qx, Instr.sliceAt, run_under hu, Instr.slice, hb]

theorem did_len (hT : TV w (Xof s.H ι) ι T a.tmps) (hR : R w s.H ι) (hd : ι s.nx = none) {x : Operand} {x' : Opd} {t : TypeId} {c : Call} {k : Nat} (ho : o.op = .call c) (hc : c.callee = .builtin .len) (hat : c.argTypes = #[t]) (hargs : c.args = #[x]) (hx : opd x = some x')
    (hu : (P.underlying t = some .string ∧ k = 0) ∨ (∃ e, P.underlying t = some (.slice e) ∧ k = 1) ∨ (∃ kt e, P.underlying t = some (.map kt e) ∧ k = 2))
    (he : exec (evO T) (.len k x') s = some (d, s')) : Did P w s ι a o d s' := by
  have vx := V_opd hT hx
  have run1 : ∀ v n, a.eval x = v → (Builtin.len_ #[t] o.type #[v]).run P w = .ok (.int .i64 n) w → (execOp a.eval o).run P w = .ok (.value (.int .i64 n)) w := by
    intro v n hv hr
    simp [execOp, ho, resolve, hc, hargs, hat, hv, invoke, builtin, hr]
  have hsl : k = 1 → ∃ e, P.underlying t = some (.slice e) := by
    intro h
    rcases hu with ⟨_, h'⟩ | ⟨e, hu, _⟩ | ⟨_, _, _, h'⟩
    · omega
    · exact ⟨e, hu⟩
    · omega
  have hst : k = 0 → P.underlying t = some .string := by
    intro h
    rcases hu with ⟨hu, _⟩ | ⟨e, _, h'⟩ | ⟨_, _, _, h'⟩
    · exact hu
    · omega
    · omega
  have hmp : k = 2 → ∃ kt e, P.underlying t = some (.map kt e) := by
    intro h
    rcases hu with ⟨_, h'⟩ | ⟨e, hu, h'⟩ | ⟨kt, e, hu, _⟩
    · omega
    · omega
    · exact ⟨kt, e, hu⟩
  simp only [exec] at he
  split at he
  case h_9 => cases he
  all_goals rename_i hq
  all_goals rw [hq] at vx
  · obtain ⟨e, hu⟩ := hsl rfl
    simp only [Option.some.injEq, Prod.mk.injEq] at he
    obtain ⟨rfl, rfl⟩ := he
    exact Did.still hR hd (run1 _ _ (V_raw vx) (by simp [Builtin.len_, run_under hu, goInt])) (.raw _)
  · obtain ⟨e, hu⟩ := hsl rfl
    simp only [Option.some.injEq, Prod.mk.injEq] at he
    obtain ⟨rfl, rfl⟩ := he
    generalize hv : a.eval x = v at vx
    cases vx
    exact Did.still hR hd (run1 _ _ hv (by simp [Builtin.len_, run_under hu, goInt])) (.raw _)
  · obtain ⟨e, hu⟩ := hsl rfl
    simp only [Option.some.injEq, Prod.mk.injEq] at he
    obtain ⟨rfl, rfl⟩ := he
    generalize hv : a.eval x = v at vx
    cases vx
    exact Did.still hR hd (run1 _ _ hv (by simp [Builtin.len_, run_under hu, goInt])) (.raw _)
  · obtain ⟨e, hu⟩ := hsl rfl
    simp only [Option.some.injEq, Prod.mk.injEq] at he
    obtain ⟨rfl, rfl⟩ := he
    generalize hv : a.eval x = v at vx
    cases vx with
    | lst xs A ad n cap sz u hn =>
      subst hn
      exact Did.still hR hd (run1 _ _ hv (by simp [Builtin.len_, run_under hu, goInt])) (.raw _)
  · have hu := hst rfl
    simp only [Option.some.injEq, Prod.mk.injEq] at he
    obtain ⟨rfl, rfl⟩ := he
    exact Did.still hR hd (run1 _ _ (V_raw vx) (by simp [Builtin.len_, run_under hu, goInt])) (.raw _)
  · obtain ⟨kt, e, hu⟩ := hmp rfl
    simp only [Option.some.injEq, Prod.mk.injEq] at he
    obtain ⟨rfl, rfl⟩ := he
    exact Did.still hR hd (run1 _ _ (V_raw vx) (by simp [Builtin.len_, run_under hu, goInt])) (.raw _)
  · obtain ⟨kt, e, hu⟩ := hmp rfl
    split at he
    case h_2 => cases he
    rename_i es sl hl
    simp only [Option.some.injEq, Prod.mk.injEq] at he
    obtain ⟨rfl, rfl⟩ := he
    generalize hv : a.eval x = v at vx
    cases vx with
    | map n b base hi =>
      obtain ⟨b', base', g1, ents, clock, g2, g3, g4, g5⟩ := hR.obj _ _ hl
      rw [hi] at g1
      simp only [Option.some.injEq, Prod.mk.injEq] at g1
      obtain ⟨rfl, rfl⟩ := g1
      exact Did.still hR hd (run1 _ _ hv (by simp [Builtin.len_, run_under hu, goInt, getObj, Sem.run, g2, g3])) (.raw _)
  · obtain ⟨kt, e, hu⟩ := hmp rfl
    simp only [Option.some.injEq, Prod.mk.injEq] at he
    obtain ⟨rfl, rfl⟩ := he
    generalize hv : a.eval x = v at vx
    cases vx with
    | imap es b ents clock g1 g2 g3 g4 g5 =>
      exact Did.still hR hd (run1 _ _ hv (by simp [Builtin.len_, run_under hu, goInt, getObj, Sem.run, g1, g3])) (.raw _)

theorem did_min2 (hT : TV w (Xof s.H ι) ι T a.tmps) (hR : R w s.H ι) (hd : ι s.nx = none) {x y : Operand} {x' y' : Opd} {c : Call} (ho : o.op = .call c) (hc : c.callee = .builtin .min) (hargs : c.args = #[x, y]) (hx : opd x = some x') (hy : opd y = some y')
    (he : exec (evO T) (.min2 x' y') s = some (d, s')) : Did P w s ι a o d s' := by
  have vx := V_opd hT hx
  have vy := V_opd hT hy
  simp only [exec] at he
  split at he
  case h_2 => cases he
  rename_i k m k' n h1 h2
  rw [h1] at vx
  rw [h2] at vy
  split at he
  case isFalse => cases he
  rename_i hk
  subst hk
  simp only [Option.some.injEq, Prod.mk.injEq] at he
  obtain ⟨rfl, rfl⟩ := he
  exact Did.still hR hd (v := .int k (if n < m then n else m)) (by simp [execOp, ho, resolve, hc, hargs, V_raw vx, V_raw vy, invoke, builtin, Builtin.min_, Builtin.min2]) (.raw _)

theorem did_max2 (hT : TV w (Xof s.H ι) ι T a.tmps) (hR : R w s.H ι) (hd : ι s.nx = none) {x y : Operand} {x' y' : Opd} {c : Call} (ho : o.op = .call c) (hc : c.callee = .builtin .max) (hargs : c.args = #[x, y]) (hx : opd x = some x') (hy : opd y = some y')
    (he : exec (evO T) (.max2 x' y') s = some (d, s')) : Did P w s ι a o d s' := by
  have vx := V_opd hT hx
  have vy := V_opd hT hy
  simp only [exec] at he
  split at he
  case h_2 => cases he
  rename_i k m k' n h1 h2
  rw [h1] at vx
  rw [h2] at vy
  split at he
  case isFalse => cases he
  rename_i hk
  subst hk
  simp only [Option.some.injEq, Prod.mk.injEq] at he
  obtain ⟨rfl, rfl⟩ := he
  exact Did.still hR hd (v := .int k (if m < n then n else m)) (by simp [execOp, ho, resolve, hc, hargs, V_raw vx, V_raw vy, invoke, builtin, Builtin.max_, Builtin.max2]) (.raw _)

/-! ### Look-ups -/
theorem checkKey_kind {t : TypeId} {k : Nat} (h : kindT P t = some k) (b : Bool) (n : Nat) (v : Value) : (Instr.checkKey b (n + 1) t v).run P w = .ok () w := by
  unfold kindT at h
  split at h
  · rename_i kk hu
    cases v <;> simp [Instr.checkKey, run_under hu]
  · rename_i hu
    cases v <;> simp [Instr.checkKey, run_under hu]
  · rename_i hu
    cases v <;> simp [Instr.checkKey, run_under hu]
  · cases h

theorem keyEq_now {t : TypeId} {u : TypeDesc} {k : Nat} (h : kindT P t = some k) (hu : P.underlying t = some u) {x y : Value} {b : Bool} (he : keyEq k x y = some b) : Instr.sameNow u x y = some b := by
  unfold kindT at h
  rw [hu] at h
  unfold keyEq at he
  split at he <;> first | contradiction | skip
  · split at he
    case isFalse => cases he
    rename_i hk
    subst hk
    cases u <;> simp at h
    simp only [Option.some.injEq] at he
    simp [Instr.sameNow, he]
  · cases u <;> simp at h
    simp only [Option.some.injEq] at he
    simp [Instr.sameNow, he]
  · cases u <;> simp at h
    simp only [Option.some.injEq] at he
    simp [Instr.sameNow, he]

theorem findE_now {t : TypeId} {u : TypeDesc} {k : Nat} (h : kindT P t = some k) (hu : P.underlying t = some u) {kv : Value} :
    ∀ (es : List (Value × D)) (ents : List MapEntry) (i : Nat) {r : Option (Nat × D)}, ents.length = es.length → (∀ j, j < es.length → (ents.getD j default).key = (es.getD j default).1) → findE k kv es i = some r →
      (r = none ∧ Instr.findNow u kv ents i = some none) ∨ ∃ j d, r = some (i + j, d) ∧ j < es.length ∧ (es.getD j default).2 = d ∧ keyEq k kv (es.getD j default).1 = some true ∧ Instr.findNow u kv ents i = some (some (i + j, (ents.getD j default).val))
  | [], ents, i, r, hl, hk, hf => by
    have : ents = [] := List.eq_nil_of_length_eq_zero hl
    subst this
    simp only [findE, Option.some.injEq] at hf
    exact .inl ⟨hf.symm, rfl⟩
  | (k', d) :: es, ents, i, r, hl, hk, hf => by
    cases ents with
    | nil => simp at hl
    | cons e ents =>
      have h0 := hk 0 (by simp)
      simp only [List.getD_cons_zero] at h0
      simp only [findE] at hf
      split at hf
      · rename_i hq
        simp only [Option.some.injEq] at hf
        have := keyEq_now h hu hq
        refine .inr ⟨0, d, by simp [← hf], by simp, by simp, by simpa using hq, ?_⟩
        simp only [Instr.findNow, h0, this]
        rfl
      · rename_i hq
        have hn := keyEq_now h hu hq
        have ih := findE_now h hu es ents (i + 1) (by simpa using hl) (fun j hj => by have := hk (j + 1) (by simpa using hj); simpa [List.getD_eq_getElem?_getD] using this) hf
        rcases ih with ⟨h1, h2⟩ | ⟨j, d', h1, h2, h3, h4, h5⟩
        · exact .inl ⟨h1, by simp only [Instr.findNow, h0, hn]; exact h2⟩
        · refine .inr ⟨j + 1, d', by rw [h1, show i + 1 + j = i + (j + 1) by omega], by simpa using h2, by simpa [List.getD_eq_getElem?_getD] using h3, by simpa [List.getD_eq_getElem?_getD] using h4, ?_⟩
          simp only [Instr.findNow, h0, hn]
          rw [h5, show i + 1 + j = i + (j + 1) by omega]
          simp [List.getD_eq_getElem?_getD]
      · cases hf

theorem zeroD_ok {t : TypeId} {z : D} (h : zeroD P t = some z) {X : Nat → Nat → Prop} : ∃ v, (zeroValue t).run P w = .ok v w ∧ V w X ι z v := by
  unfold zeroD at h
  split at h
  case h_2 => cases h
  rename_i v hv
  split at h
  case isFalse => cases h
  rename_i hf
  simp only [Option.some.injEq] at h
  subst h
  exact ⟨v, run_zeroT hv, V_ofV hf⟩

theorem kind_under {t : TypeId} {k : Nat} (h : kindT P t = some k) : ∃ u, P.underlying t = some u := by
  unfold kindT at h
  cases hu : P.underlying t with
  | none => simp [hu] at h
  | some u => exact ⟨u, rfl⟩

theorem run_findKey {t : TypeId} {k : Nat} (h : kindT P t = some k) {kv : Value} {es : List (Value × D)} {ents : Array MapEntry} {r : Option (Nat × D)} (hl : ents.size = es.length)
    (hk : ∀ j, j < es.length → (ents.getD j default).key = (es.getD j default).1) (hf : findE k kv es 0 = some r) :
    (r = none ∧ (Instr.findKey t kv ents.toList).run P w = .ok none w) ∨ ∃ j d, r = some (j, d) ∧ j < es.length ∧ (es.getD j default).2 = d ∧ keyEq k kv (es.getD j default).1 = some true ∧ (Instr.findKey t kv ents.toList).run P w = .ok (some (j, (ents.getD j default).val)) w := by
  obtain ⟨u, hu⟩ := kind_under h
  have hg : ∀ j, ents.toList.getD j default = ents.getD j default := by
    intro j
    simp [List.getD_eq_getElem?_getD, Array.getD_eq_getD_getElem?]
  rcases findE_now h hu es ents.toList 0 (by simpa using hl) (fun j hj => by rw [hg]; exact hk j hj) hf with ⟨h1, h2⟩ | ⟨j, d, h1, h2, h3, h4, h5⟩
  · exact .inl ⟨h1, by simp [Instr.findKey, run_under hu, h2]⟩
  · refine .inr ⟨j, d, by simpa using h1, h2, h3, h4, ?_⟩
    rw [Nat.zero_add, hg] at h5
    simp [Instr.findKey, run_under hu, h5]

theorem did_lookup (hT : TV w (Xof s.H ι) ι T a.tmps) (hR : R w s.H ι) (hd : ι s.nx = none) {x y : Operand} {x' y' : Opd} {t kt et : TypeId} {kk : Nat} {z : D} {ok : Bool} (ho : o.op = .lookup t x y ok) (hx : opd x = some x') (hy : opd y = some y')
    (hu : P.underlying t = some (.map kt et)) (hk : kindT P kt = some kk) (hz : zeroD P et = some z) (he : exec (evO T) (.lookup kk z ok x' y') s = some (d, s')) : Did P w s ι a o d s' := by
  have vx := V_opd hT hx
  have vy := V_opd hT hy
  obtain ⟨zv, hzr, hzv⟩ := zeroD_ok (w := w) (X := Xof s.H ι) (ι := ι) hz
  -- what each answer gives
  have fin : ∀ (r : Option (Nat × D)) (v : Value), (∀ q, r = some q → V w (Xof s.H ι) ι q.2 v) → (r = none → v = zv) →
      (Instr.lookup t (a.eval x) (a.eval y) ok).run P w = .ok (if ok then .tuple #[v, .bool r.isSome] else v) w →
      (match (some r : Option (Option (Nat × D))) with
      | some (some (_, d)) => some (if ok then .tup [d, .raw (.bool true)] else d, s)
      | some none => some (if ok then .tup [z, .raw (.bool false)] else z, s)
      | none => none) = some (d, s') → Did P w s ι a o d s' := by
    intro r v h1 h2 h3 h4
    have hrun : (execOp a.eval o).run P w = .ok (.value (if ok then .tuple #[v, .bool r.isSome] else v)) w := by simp [execOp, ho, h3]
    have two : ∀ (q : D) (b : Bool), V w (Xof s.H ι) ι q v → V w (Xof s.H ι) ι (.tup [q, .raw (.bool b)]) (.tuple #[v, .bool b]) := by
      intro q b hq
      refine .tup _ _ rfl fun i hi => ?_
      match i, hi with
      | 0, _ => exact hq
      | 1, _ => exact .raw _
    cases r with
    | none =>
      simp only [Option.some.injEq, Prod.mk.injEq] at h4
      obtain ⟨rfl, rfl⟩ := h4
      have hv := h2 rfl
      subst hv
      refine Did.still hR hd hrun ?_
      cases ok
      · exact hzv
      · exact two _ _ hzv
    | some q =>
      obtain ⟨i, q⟩ := q
      simp only [Option.some.injEq, Prod.mk.injEq] at h4
      obtain ⟨rfl, rfl⟩ := h4
      refine Did.still hR hd hrun ?_
      cases ok
      · exact h1 _ rfl
      · exact two _ _ (h1 _ rfl)
  simp only [exec] at he
  split at he
  case h_2 => cases he
  rename_i kv hkv
  rw [hkv] at vy
  have qy := V_raw vy
  have hck : ∀ b, (Instr.checkKey b 10000 kt (a.eval y)).run P w = .ok () w := fun b => checkKey_kind hk b 9999 _
  cases hr : lkE kk kv s.H (evO T x') with
  | none => rw [hr] at he; cases he
  | some r =>
  rw [hr] at he
  unfold lkE at hr
  split at hr
  · -- the nil map
    rename_i hq
    rw [hq] at vx
    have qx := V_raw vx
    simp only [Option.some.injEq] at hr
    subst hr
    refine fin none zv (fun q h => by cases h) (fun _ => rfl) ?_ he
    obtain ⟨u, huu⟩ := kind_under hk
    simp [Instr.lookup, run_under hu, qx, hck, Instr.findKey, run_under huu, Instr.findNow, hzr]
  · rename_i n hq
    rw [hq] at vx
    split at hr
    case h_2 => cases hr
    rename_i es sl hl
    generalize hv : a.eval x = v at vx
    cases vx with
    | map n b base hi =>
      obtain ⟨b', base', g1, ents, clock, g2, g3, g4, g5⟩ := hR.obj _ _ hl
      rw [hi] at g1
      simp only [Option.some.injEq, Prod.mk.injEq] at g1
      obtain ⟨rfl, rfl⟩ := g1
      rcases run_findKey (P := P) (w := w) hk g3 g4 hr with ⟨h1, h2⟩ | ⟨j, dd, h1, h2, h3, h4, h5⟩
      · subst h1
        refine fin none zv (fun q h => by cases h) (fun _ => rfl) ?_ he
        simp only [Instr.lookup, Sem.run_bind, run_under hu, Result.andThen_ok, hv, getObj, Sem.run, g2, Sem.run_pure, hck]
        rw [qy, h2]; simp [hzr]
      · subst h1
        refine fin (some (j, dd)) (ents.getD j default).val (fun q h => ?_) (fun h => by cases h) ?_ he
        · simp only [Option.some.injEq] at h
          subst h
          rw [← h3]
          exact g5 j h2
        · simp only [Instr.lookup, Sem.run_bind, run_under hu, Result.andThen_ok, hv, getObj, Sem.run, g2, Sem.run_pure, hck]
          rw [qy, h5]; simp
  · rename_i es hq
    rw [hq] at vx
    generalize hv : a.eval x = v at vx
    cases vx with
    | imap es b ents clock g2 g6 g3 g4 g5 =>
      rcases run_findKey (P := P) (w := w) hk g3 g4 hr with ⟨h1, h2⟩ | ⟨j, dd, h1, h2, h3, h4, h5⟩
      · subst h1
        refine fin none zv (fun q h => by cases h) (fun _ => rfl) ?_ he
        simp only [Instr.lookup, Sem.run_bind, run_under hu, Result.andThen_ok, hv, getObj, Sem.run, g2, Sem.run_pure, hck]
        rw [qy, h2]; simp [hzr]
      · subst h1
        refine fin (some (j, dd)) (ents.getD j default).val (fun q h => ?_) (fun h => by cases h) ?_ he
        · simp only [Option.some.injEq] at h
          subst h
          rw [← h3]
          exact g5 j h2
        · simp only [Instr.lookup, Sem.run_bind, run_under hu, Result.andThen_ok, hv, getObj, Sem.run, g2, Sem.run_pure, hck]
          rw [qy, h5]; simp
  · cases hr
end
end Go.Ai
