/-
  A part of an interpreter over abstract data, proved sound once for the model: what it says of the code, the machine does in every order. Conditions: none beyond the statement.
-/
import Derived.Test.YtemeabkpllolmaaGreatDoorAi5
import Derived.Laws.StructEq
import Derived.Laws.Entries
/-! Comparisons, cuts, lengths, look-ups. -/
set_option linter.unusedVariables false
set_option linter.unusedSimpArgs false
namespace Go.Ai
section
variable {P : Program} {w : World} {s : St} {ι : Imap} {T : List D} {a : Act} {o : Oper} {d : D} {s' : St}

theorem run_bin {op : BinOp} {u v r : Value} (h : bin op u v = some r) (t : TypeId) (x y : Operand) (w : World) : (do eqGuard op t x y u v; binOp op t u v : Sem Value).run P w = .ok r w := by
  unfold bin at h
  split at h
  · rename_i k a k' b
    have hg : (eqGuard op t x y (.int k a) (.int k' b)).run P w = .ok () w := by cases op <;> simp [eqGuard]
    cases op <;> simp only at h
    case shl =>
      split at h
      · cases h
      · rename_i hb
        simp only [Option.some.injEq] at h; subst h
        simp [hg, binOp, Op.shift, hb]
    case shr =>
      split at h
      · cases h
      · rename_i hb
        simp only [Option.some.injEq] at h; subst h
        simp [hg, binOp, Op.shift, hb]
    case quo | rem =>
      split at h
      · rename_i hk
        subst hk
        split at h
        · cases h
        · rename_i hb
          simp only [Option.some.injEq] at h; subst h
          simp [hg, binOp, Op.intDiv, hb]
      · cases h
    all_goals
      split at h
      case isFalse => cases h
      rename_i hk
      subst hk
      simp only [Option.some.injEq] at h
      subst h
      simp [hg, binOp, Op.intArith, Op.intBits, Op.intCmp]
  · rename_i x' y'
    have hg : (eqGuard op t x y (.string x') (.string y')).run P w = .ok () w := by cases op <;> simp [eqGuard]
    cases op <;> simp only at h
    case add =>
      split at h
      · cases h
      · rename_i hb
        simp only [Option.some.injEq] at h; subst h
        simp only [Sem.run_bind, hg, Result.andThen_ok, binOp, Op.stringOp, if_neg hb, Sem.run_pure]
    all_goals first
      | (cases h; done)
      | (simp only [Option.some.injEq] at h; subst h; simp [hg, binOp, Op.stringOp])
  · cases h

theorem did_bin (hT : TV w (Xof s.H ι) ι T a.tmps) (hR : R w s.H ι) (hd : ι s.nx = none) {x y : Operand} {x' y' : Opd} {op : BinOp} {t u : TypeId} (ho : o.op = .binOp op t x y u) (hx : opd x = some x') (hy : opd y = some y')
    (he : exec (evO T) (.bin op x' y') s = some (d, s')) : Did P w s ι a o d s' := by
  have vx := V_opd hT hx
  have vy := V_opd hT hy
  simp only [exec] at he
  split at he
  case h_2 => cases he
  rename_i u1 u2 h1 h2
  rw [h1] at vx
  rw [h2] at vy
  have qx := V_raw vx
  have qy := V_raw vy
  simp only [Option.map_eq_some_iff, Prod.mk.injEq] at he
  obtain ⟨v, hv, rfl, rfl⟩ := he
  refine Did.still hR hd (v := v) ?_ (.raw _)
  have := run_bin (P := P) hv t x y w
  simp only [Sem.run_bind] at this
  simp only [execOp, ho, qx, qy, Sem.run_bind, Sem.run_pure, this]
  generalize (eqGuard op t x y u1 u2).run P w = r at this ⊢
  cases r with
  | ok x w1 =>
    simp only [Result.andThen_ok] at this
    simp only [Result.andThen_ok, this]
  | halt x w1 => cases this

theorem run_kind {k : Nat} {x y : D} {u v : Value} {X : Nat → Nat → Prop} {b : Bool} {t : TypeId} (hk : kindT P t = some k) (vx : V w X ι x u) (vy : V w X ι y v) (h : eqCell k x y = some b) (n : Nat) :
    (Op.equalIn (n + 1) t u v).run P w = .ok b w := by
  unfold eqCell at h
  unfold kindT at hk
  split at hk
  · rename_i kk hu
    simp only [Option.some.injEq] at hk
    subst hk
    split at h
    case h_1 =>
      rw [V_raw vx, V_raw vy]
      split at h
      case isFalse => cases h
      rename_i hk
      subst hk
      simp only [Option.some.injEq] at h
      subst h
      exact run_equalIn_int w _ _ _ kk _ _ hu
    all_goals first
      | (cases h; done)
      | (rename_i h0; cases h0; done)
      | contradiction
  · rename_i hu
    simp only [Option.some.injEq] at hk
    subst hk
    split at h
    case h_2 =>
      rw [V_raw vx, V_raw vy]
      simp only [Option.some.injEq] at h
      subst h
      rw [run_equalIn_string w _ _ _ _ hu, beq_toListBytes]
    all_goals first
      | (cases h; done)
      | contradiction
  · rename_i hu
    simp only [Option.some.injEq] at hk
    subst hk
    split at h
    case h_3 =>
      rw [V_raw vx, V_raw vy]
      simp only [Option.some.injEq] at h
      subst h
      exact run_equalIn_bool' w _ _ _ _ hu
    all_goals first
      | (cases h; done)
      | contradiction
  · cases hk

theorem kind_agg {t : TypeId} {k : Nat} (h : kindT P t = some k) : isAggT P t = some false := by
  unfold kindT at h
  unfold isAggT
  split at h <;> simp_all

theorem eqCells_run {us vs : Array Value} {X : Nat → Nat → Prop} :
    ∀ (fs : List Field) (ks : List Nat) (xs ys : List D) (i : Nat), kindsT P fs i = some ks →
      (∀ j, j < xs.length → V w X ι (xs.getD j default) (us.getD (i + j) undef)) → (∀ j, j < ys.length → V w X ι (ys.getD j default) (vs.getD (i + j) undef)) →
      us.size = i + xs.length → vs.size = i + ys.length → ∀ b, eqCells ks xs ys = some b → (Op.eqFields 9999 us vs fs).run P w = .ok b w := by
  intro fs
  induction fs with
  | nil =>
    intro ks xs ys i hk hu hv h1 h2 b hb
    simp only [kindsT, Option.some.injEq] at hk
    subst hk
    cases xs <;> cases ys <;> simp [eqCells] at hb
    subst hb
    rfl
  | cons f fs ih =>
    intro ks xs ys i hk hu hv h1 h2 b hb
    simp only [kindsT] at hk
    split at hk
    case h_2 => cases hk
    rename_i k ks' hk1 hk2
    split at hk
    case isFalse => cases hk
    rename_i hc
    simp only [Option.some.injEq] at hk
    subst hk
    simp only [Bool.and_eq_true, beq_iff_eq, bne_iff_ne] at hc
    obtain ⟨⟨hoff, hn⟩, hz⟩ := hc
    cases xs with
    | nil => simp [eqCells] at hb
    | cons x xs =>
      cases ys with
      | nil => simp [eqCells] at hb
      | cons y ys =>
        have vx := hu 0 (by simp)
        have vy := hv 0 (by simp)
        simp only [List.getD_cons_zero, Nat.add_zero] at vx vy
        simp only [List.length_cons] at h1 h2
        have hp : ∀ (zs : Array Value), i < zs.size → (part f.type zs f.offset).run P w = .ok (zs.getD i undef) w := by
          intro zs hz
          simp [part, run_isAggT (kind_agg hk1), hoff, hz, Array.getD]
        have p1 := hp us (by omega)
        have p2 := hp vs (by omega)
        have key : ∀ c, eqCell k x y = some c → (Op.equalIn 9999 f.type (us.getD i undef) (vs.getD i undef)).run P w = .ok c w :=
          fun c hc => run_kind hk1 vx vy hc 9998
        simp only [eqCells] at hb
        simp only [Op.eqFields, ne_eq, hn, not_false_eq_true, if_true, Sem.run_bind, p1, p2, Result.andThen_ok]
        split at hb
        · rename_i hc
          rw [key _ hc]
          simp only [Result.andThen_ok, Bool.not_true, Bool.false_eq_true, if_false]
          refine ih ks' xs ys (i + 1) hk2 (fun j hj => ?_) (fun j hj => ?_) (by omega) (by omega) b hb
          · have := hu (j + 1) (by simpa using hj)
            rw [List.getD_cons_succ] at this
            rwa [show i + 1 + j = i + (j + 1) by omega]
          · have := hv (j + 1) (by simpa using hj)
            rw [List.getD_cons_succ] at this
            rwa [show i + 1 + j = i + (j + 1) by omega]
        · rename_i hc
          simp only [Option.some.injEq] at hb
          subst hb
          rw [key _ hc]
          simp
        · cases hb

theorem eqIn_slice (n : Nat) {t e : TypeId} (h : P.underlying t = some (.slice e)) (A : Option Addr) (l c l' c' : Nat) : (Op.equalIn (n + 1) t (.slice A l c) (.slice none l' c')).run P w = .ok A.isNone w := by
  cases A <;> simp [Op.equalIn, run_under h]
theorem eqIn_nilf (n : Nat) {t : TypeId} {p r : Array TypeId} {v : Bool} (h : P.underlying t = some (.func p r v)) : (Op.equalIn (n + 1) t .nilFunc .nilFunc).run P w = .ok true w := by
  simp [Op.equalIn, run_under h]
theorem eqIn_fn (n : Nat) {t : TypeId} {p r : Array TypeId} {v : Bool} (h : P.underlying t = some (.func p r v)) (f : Fn) (us vs : Array Value) : (Op.equalIn (n + 1) t (.func f us vs) .nilFunc).run P w = .ok false w := by
  simp [Op.equalIn, run_under h]
theorem bin_slice (t : TypeId) (A B : Option Addr) (l c l' c' : Nat) {b : Bool} (h : (Op.equalIn 10000 t (.slice A l c) (.slice B l' c')).run P w = .ok b w) :
    (binOp .eql t (.slice A l c) (.slice B l' c')).run P w = .ok (.bool b) w ∧ (binOp .neq t (.slice A l c) (.slice B l' c')).run P w = .ok (.bool (!b)) w := by
  constructor <;> (simp only [binOp]; simp [Op.equal, Op.maxDepth, h])
theorem bin_bool (t : TypeId) (x y : Bool) {b : Bool} (h : (Op.equalIn 10000 t (.bool x) (.bool y)).run P w = .ok b w) :
    (binOp .eql t (.bool x) (.bool y)).run P w = .ok (.bool b) w ∧ (binOp .neq t (.bool x) (.bool y)).run P w = .ok (.bool (!b)) w := by
  constructor <;> (simp only [binOp]; simp [Op.equal, Op.maxDepth, h])
theorem bin_nilf (t : TypeId) {b : Bool} (h : (Op.equalIn 10000 t .nilFunc .nilFunc).run P w = .ok b w) :
    (binOp .eql t .nilFunc .nilFunc).run P w = .ok (.bool b) w ∧ (binOp .neq t .nilFunc .nilFunc).run P w = .ok (.bool (!b)) w := by
  constructor <;> (simp only [binOp]; simp [Op.equal, Op.maxDepth, h])
theorem bin_fn (t : TypeId) (f : Fn) (us vs : Array Value) {b : Bool} (h : (Op.equalIn 10000 t (.func f us vs) .nilFunc).run P w = .ok b w) :
    (binOp .eql t (.func f us vs) .nilFunc).run P w = .ok (.bool b) w ∧ (binOp .neq t (.func f us vs) .nilFunc).run P w = .ok (.bool (!b)) w := by
  constructor <;> (simp only [binOp]; simp [Op.equal, Op.maxDepth, h])

theorem run_eqD {X : Nat → Nat → Prop} {k : EqK} {t : TypeId} {x y : D} {u v : Value} {b : Bool} (hk : eqK P t = some k) (vx : V w X ι x u) (vy : V w X ι y v) (h : eqD k x y = some b) (xo yo : Operand) :
    (eqGuard .eql t xo yo u v).run P w = .ok () w ∧ (eqGuard .neq t xo yo u v).run P w = .ok () w ∧ (binOp .eql t u v).run P w = .ok (.bool b) w ∧ (binOp .neq t u v).run P w = .ok (.bool (!b)) w := by
  unfold eqK at hk
  split at hk
  · rename_i hu
    simp only [Option.some.injEq] at hk
    subst hk
    unfold eqD at h
    split at h <;> first | contradiction | (cases h; done) | skip
    rw [V_raw vx, V_raw vy]
    simp only [Option.some.injEq] at h
    subst h
    exact ⟨rfl, rfl, bin_bool t _ _ (run_equalIn_bool' w 9999 t _ _ hu)⟩
  · rename_i e hu
    simp only [Option.some.injEq] at hk
    subst hk
    unfold eqD at h
    split at h <;> first | contradiction | (cases h; done) | skip
    · rw [V_raw vx, V_raw vy]
      simp only [Option.some.injEq] at h
      subst h
      exact ⟨rfl, rfl, bin_slice t _ _ _ _ _ _ (eqIn_slice 9999 hu none _ _ _ _)⟩
    · rw [V_raw vy]
      cases vx
      simp only [Option.some.injEq] at h
      subst h
      exact ⟨rfl, rfl, bin_slice t _ _ _ _ _ _ (eqIn_slice 9999 hu (some _) _ _ _ _)⟩
    · rw [V_raw vy]
      simp only [Option.some.injEq] at h
      subst h
      cases vx with
      | lst xs A ad n cap sz u hn hcap hA hsp hz' hc hx' hv =>
        rcases hA with rfl | hA
        case inr => cases hA
        exact ⟨rfl, rfl, bin_slice t _ _ _ _ _ _ (eqIn_slice 9999 hu (some _) _ _ _ _)⟩
  · rename_i hu
    simp only [Option.some.injEq] at hk
    subst hk
    unfold eqD at h
    split at h <;> first | contradiction | (cases h; done) | skip
    · rw [V_raw vx, V_raw vy]
      simp only [Option.some.injEq] at h
      subst h
      exact ⟨rfl, rfl, bin_nilf t (eqIn_nilf 9999 hu)⟩
    · rw [V_raw vy]
      cases vx
      simp only [Option.some.injEq] at h
      subst h
      exact ⟨rfl, rfl, bin_fn t _ _ _ (eqIn_fn 9999 hu _ _ _)⟩
  · rename_i fs hu
    split at hk
    case isFalse => cases hk
    rename_i hc
    simp only [Bool.and_eq_true, Bool.not_eq_true'] at hc
    simp only [Option.map_eq_some_iff] at hk
    obtain ⟨ks, hks, rfl⟩ := hk
    unfold eqD at h
    split at h <;> first | contradiction | (cases h; done) | skip
    rename_i ks' xs ys he1
    cases he1
    split at h
    case isFalse => cases h
    rename_i hl
    cases vx with
    | agg xs us a1 a2 =>
      cases vy with
      | agg ys vs b1 b2 =>
        have hf : P.fieldsOf t = fs := by simp [Program.fieldsOf, hu]
        have hr : (Op.equalIn 10000 t (.agg us) (.agg vs)).run P w = .ok b w := by
          rw [run_equalIn_agg w 9999 t us vs (by rw [hf]; exact hu) hc.1, hf]
          exact eqCells_run fs.toList ks xs ys 0 hks (fun j hj => by rw [Nat.zero_add]; exact a2 j hj) (fun j hj => by rw [Nat.zero_add]; exact b2 j hj) (by omega) (by omega) b h
        refine ⟨run_eqGuard_agg w _ _ _ _ _ _ hc.2, run_eqGuard_agg w _ _ _ _ _ _ hc.2, ?_, ?_⟩
        · rw [run_eql_struct, hr]; rfl
        · rw [run_neq_struct, hr]; rfl
  · cases hk

theorem did_eq (hT : TV w (Xof s.H ι) ι T a.tmps) (hR : R w s.H ι) (hd : ι s.nx = none) {x y : Operand} {x' y' : Opd} {op : BinOp} {t u : TypeId} {neg : Bool} {k : EqK} (ho : o.op = .binOp op t x y u) (hx : opd x = some x') (hy : opd y = some y')
    (hk : eqK P t = some k) (hop : op = if neg then .neq else .eql) (he : exec (evO T) (.eq neg k x' y') s = some (d, s')) : Did P w s ι a o d s' := by
  have vx := V_opd hT hx
  have vy := V_opd hT hy
  simp only [exec, Option.map_eq_some_iff, Prod.mk.injEq] at he
  obtain ⟨b, hb, rfl, rfl⟩ := he
  obtain ⟨g1, g2, g3, g4⟩ := run_eqD hk vx vy hb x y
  refine Did.still hR hd (v := .bool (neg != b)) ?_ (.raw _)
  cases neg with
  | true => subst hop; simp [execOp, ho, g2, g4]
  | false => subst hop; simp [execOp, ho, g1, g3]
end
end Go.Ai
