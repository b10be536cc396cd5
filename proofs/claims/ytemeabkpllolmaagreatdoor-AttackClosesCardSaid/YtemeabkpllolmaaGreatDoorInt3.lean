/-
  A part of an interpreter over abstract data, proved sound once for the model: what it says of the code, the machine does in every order. Conditions: none beyond the statement.
-/
import Derived.Test.YtemeabkpllolmaaGreatDoorInt2
import Derived.Laws.Append
/-! Cuts, lengths, look-ups. -/
set_option linter.unusedVariables false
set_option linter.unusedSimpArgs false
namespace Go.Ai
section
variable {P : Program} {w : World} {s : St} {ι : Imap} {T : List D} {a : Act} {o : Oper} {d : D} {s' : St}

theorem optOpd_ok (hT : TV w (Xof s.H ι) ι T a.tmps) {x : Option Operand} {y : Option Opd} (h : optOpd x = some y) : (x = none ∧ y = none) ∨ ∃ p q, x = some p ∧ y = some q ∧ V w (Xof s.H ι) ι (evO T q) (a.eval p) := by
  cases x with
  | none => simp only [optOpd, Option.some.injEq] at h; exact .inl ⟨rfl, h.symm⟩
  | some p =>
    simp only [optOpd, Option.map_eq_some_iff] at h
    obtain ⟨q, hq, rfl⟩ := h
    exact .inr ⟨p, q, rfl, rfl, V_opd hT hq⟩

/-- A bound, as it is reckoned. -/
theorem bnd_ok {X : Nat → Nat → Prop} {d : D} {v : Value} {df most r : Nat} (hv : V w X ι d v) (h : bnd (some d) df most = some r) (big : Nat) (hb : most ≤ big) (c : BoundsCode) : (Instr.sliceBound v big c).run P w = .ok r w ∧ r ≤ most := by
  unfold bnd at h
  split at h
  · rename_i h0; cases h0
  · rename_i k n h0
    simp only [Option.some.injEq] at h0
    subst h0
    split at h
    case isFalse => cases h
    rename_i hc
    simp only [Option.some.injEq] at h
    subst h
    rw [V_raw hv]
    have : 0 ≤ n ∧ n ≤ (big : Int) := ⟨hc.1, by omega⟩
    refine ⟨by simp [Instr.sliceBound, asIntOf, this], by omega⟩
  · cases h

def one1 (ρ : Opd → D) (lo hi mx : Option Opd) (len : Nat) : Option (Nat × Nat) := match bnd (hi.map ρ) len len with
      | some h => match bnd (lo.map ρ) 0 h with
        | some l => match mx with
          | none => some (l, h)
          | some m => match bnd (some (ρ m)) 0 len with
            | some m => if h ≤ m ∧ hi.isSome then some (l, h) else none
            | none => none
        | none => none
      | none => none
def capz (ρ : Opd → D) (mx : Option Opd) (l : Nat) : Bool := match mx with
      | none => false
      | some m => match asI (ρ m) with
        | some m => m == l
        | none => false

theorem exec_slice (ρ : Opd → D) (sz : Nat) (x : Opd) (lo hi mx : Option Opd) (s : St) : exec ρ (.slice sz x lo hi mx) s = match ρ x with
    | .sl n off len sz' => if sz' = sz then match one1 ρ lo hi mx len with
      | some (l, h) => if capz ρ mx l then some (.e0, s) else if mx.isSome then none else some (.sl n (off + l * sz) (h - l) sz, s)
      | none => none
      else none
    | .lst xs => if (match xs with | [] => true | x :: _ => x.length == sz) then match one1 ρ lo hi mx xs.length with
      | some (l, h) => if capz ρ mx l then some (.e0, s) else if mx.isSome then none else some (.lst ((xs.drop l).take (h - l)), s)
      | none => none
      else none
    | .raw (.slice none 0 0) => match one1 ρ lo hi mx 0 with
      | some _ => some (.raw (.slice none 0 0), s)
      | none => none
    | .e0 => match one1 ρ lo hi mx 0 with
      | some _ => some (.e0, s)
      | none => none
    | _ => none := rfl

/-- The three bounds. -/
theorem bounds_ok (hT : TV w (Xof s.H ι) ι T a.tmps) {lo hi mx : Option Operand} {lo' hi' mx' : Option Opd} (h1 : optOpd lo = some lo') (h2 : optOpd hi = some hi') (h3 : optOpd mx = some mx') {len cap l h : Nat} (hl : len ≤ cap)
    (ho : one1 (evO T) lo' hi' mx' len = some (l, h)) : l ≤ h ∧ h ≤ len ∧ ∃ m, (Instr.sliceBounds true len cap (lo.map a.eval) (hi.map a.eval) (mx.map a.eval)).run P w = .ok (l, h, m) w ∧ h ≤ m ∧ m ≤ cap ∧
      (mx' = none → m = cap) ∧ (∀ q, capz (evO T) mx' q = true → m = q) := by
  unfold one1 at ho
  split at ho
  case h_2 => cases ho
  rename_i hh hhh
  split at ho
  case h_2 => cases ho
  rename_i ll hll
  have hi_ok : hh ≤ len ∧ ∀ (big : Nat) (c : BoundsCode), len ≤ big → ((hi.map a.eval) = none ∧ hh = len) ∨ ∃ v, hi.map a.eval = some v ∧ (Instr.sliceBound v big c).run P w = .ok hh w := by
    rcases optOpd_ok hT h2 with ⟨rfl, rfl⟩ | ⟨p, q, rfl, rfl, hv⟩
    · simp only [Option.map_none, bnd, Option.some.injEq] at hhh
      exact ⟨by omega, fun big c hb => .inl ⟨rfl, hhh.symm⟩⟩
    · simp only [Option.map_some] at hhh
      refine ⟨(bnd_ok (P := P) hv hhh len (Nat.le_refl _) .index).2, fun big c hb => .inr ⟨_, rfl, (bnd_ok hv hhh big hb c).1⟩⟩
  have lo_ok : ll ≤ hh ∧ ∀ (c : BoundsCode), ((lo.map a.eval) = none ∧ ll = 0) ∨ ∃ v, lo.map a.eval = some v ∧ (Instr.sliceBound v hh c).run P w = .ok ll w := by
    rcases optOpd_ok hT h1 with ⟨rfl, rfl⟩ | ⟨p, q, rfl, rfl, hv⟩
    · simp only [Option.map_none, bnd, Option.some.injEq] at hll
      exact ⟨by omega, fun c => .inl ⟨rfl, hll.symm⟩⟩
    · simp only [Option.map_some] at hll
      refine ⟨(bnd_ok (P := P) hv hll hh (Nat.le_refl _) .index).2, fun c => .inr ⟨_, rfl, (bnd_ok hv hll hh (Nat.le_refl _) c).1⟩⟩
  obtain ⟨hi1, hi2⟩ := hi_ok
  obtain ⟨lo1, lo2⟩ := lo_ok
  rcases optOpd_ok hT h3 with ⟨rfl, rfl⟩ | ⟨p, q, rfl, rfl, hv⟩
  · simp only [Option.some.injEq, Prod.mk.injEq] at ho
    obtain ⟨rfl, rfl⟩ := ho
    refine ⟨lo1, hi1, cap, ?_, by omega, Nat.le_refl _, fun _ => rfl, fun q hq => by simp [capz] at hq⟩
    rcases hi2 cap .sliceAcap hl with ⟨e1, e2⟩ | ⟨v, e1, e2⟩ <;> rcases lo2 .sliceB with ⟨g1, g2⟩ | ⟨u, g1, g2⟩ <;>
      (unfold Instr.sliceBounds; rw [e1, g1]; simp [e2, g2] <;> (try rw [← e2]; simp [g2]))
  · simp only at ho
    split at ho
    case h_2 => cases ho
    rename_i mm hmm
    split at ho
    case isFalse => cases ho
    rename_i hc
    simp only [Option.some.injEq, Prod.mk.injEq] at ho
    obtain ⟨rfl, rfl⟩ := ho
    have m_ok := fun c => bnd_ok (P := P) hv hmm cap hl c
    refine ⟨lo1, hi1, mm, ?_, hc.1, by have := (m_ok .index).2; omega, (fun h => by cases h), fun q' hq => ?_⟩
    · have hsome : ∃ v, hi.map a.eval = some v ∧ ∀ c, (Instr.sliceBound v mm c).run P w = .ok hh w := by
        rcases optOpd_ok hT h2 with ⟨rfl, rfl⟩ | ⟨p', q', rfl, rfl, hv'⟩
        · simp at hc
        · refine ⟨_, rfl, fun c => ?_⟩
          simp only [Option.map_some] at hhh
          have hb : bnd (some (evO T q')) len hh = some hh := by
            generalize evO T q' = z at hhh ⊢
            unfold bnd at hhh ⊢
            split at hhh
            · rename_i h0; cases h0
            · rename_i k n h0
              split at hhh
              case isFalse => cases hhh
              rename_i hc'
              simp only [Option.some.injEq] at hhh
              cases h0
              rw [if_pos ⟨hc'.1, by omega⟩, hhh]
            · cases hhh
          exact (bnd_ok hv' hb mm hc.1 c).1
      obtain ⟨v, e1, e2⟩ := hsome
      have m1 := (m_ok .slice3Acap).1
      rcases lo2 .slice3C with ⟨g1, g2⟩ | ⟨u, g1, g2⟩ <;> (unfold Instr.sliceBounds; rw [e1, g1]; simp [e2, g2, m1])
    · simp only [capz] at hq
      unfold bnd at hmm
      split at hmm
      · rename_i h0; cases h0
      · rename_i k n h0
        simp only [Option.some.injEq] at h0
        rw [h0] at hq
        simp only [asI] at hq
        split at hmm
        case isFalse => cases hmm
        simp only [Option.some.injEq] at hmm
        have : n = (q' : Int) := by simpa using hq
        omega
      · cases hmm

theorem did_slice (hT : TV w (Xof s.H ι) ι T a.tmps) (hR : R w s.H ι) (hd : ι s.nx = none) {x : Operand} {x' : Opd} {lo hi mx : Option Operand} {lo' hi' mx' : Option Opd} {t e : TypeId} {sz : Nat}
    (ho : o.op = .slice t x lo hi mx) (hx : opd x = some x') (h1 : optOpd lo = some lo') (h2 : optOpd hi = some hi') (h3 : optOpd mx = some mx')
    (hu : P.underlying t = some (.slice e)) (hs : szT P e = some sz) (he : exec (evO T) (.slice sz x' lo' hi' mx') s = some (d, s')) : Did P w s ι a o d s' := by
  have vx := V_opd hT hx
  have run1 : ∀ (A : Option Addr) (len cap l h m : Nat), a.eval x = .slice A len cap → (Instr.sliceBounds true len cap (lo.map a.eval) (hi.map a.eval) (mx.map a.eval)).run P w = .ok (l, h, m) w →
      (execOp a.eval o).run P w = .ok (.value (.slice (if m = l then A else A.map (·.add (l * sz))) (h - l) (m - l))) w := by
    intro A len cap l h m hq hb
    simp [execOp, ho, hq, Instr.sliceAt, run_under hu, Instr.slice, hb, run_szT hs]
  rw [exec_slice] at he
  split at he
  · rename_i n off len sz' hq
    rw [hq] at vx
    split at he
    case isFalse => cases he
    rename_i hz
    subst hz
    split at he
    case h_2 => cases he
    rename_i l h hone
    generalize hv : a.eval x = v at vx
    cases vx with
    | sl n b base off len sz' cap ad arr ee fr g1 g2 g3 g4 g5 =>
      obtain ⟨k1, k2, m, k3, k4, k5, k6, k7⟩ := bounds_ok (P := P) hT h1 h2 h3 g2 hone
      have hrun := run1 _ _ _ _ _ _ hv k3
      split at he
      · rename_i hcz
        simp only [Option.some.injEq, Prod.mk.injEq] at he
        obtain ⟨rfl, rfl⟩ := he
        have := k7 _ hcz
        subst this
        have hh : h = m := by omega
        subst hh
        refine Did.still hR hd hrun ?_
        simp only [if_true, Nat.sub_self]
        exact .e0 _
      · split at he
        · cases he
        rename_i hmx
        simp only [Option.some.injEq, Prod.mk.injEq] at he
        obtain ⟨rfl, rfl⟩ := he
        have hm : m = cap := k6 (by cases mx' <;> simp_all)
        subst hm
        refine Did.still hR hd hrun ?_
        have hle : base + (off + l * sz') + (m - l) * sz' ≤ arr.size := by
          have : l * sz' + (m - l) * sz' = m * sz' := by rw [← Nat.add_mul]; congr 1; omega
          omega
        by_cases hml : m = l
        · rw [if_pos hml]
          exact .sl n b base _ _ sz' _ ad arr ee fr g1 (by omega) g3 hle (.inr (by omega))
        · rw [if_neg hml]
          rcases g5 with rfl | g5
          case inr => omega
          simp only [Option.map_some, add_at]
          exact .sl n b base _ _ sz' _ _ arr ee fr g1 (by omega) g3 hle (.inl (by rw [Nat.add_assoc]))
  · rename_i xs hq
    rw [hq] at vx
    have hz : ∀ y ys, xs = y :: ys → y.length = sz := by
      intro y ys hxy
      subst hxy
      simp only at he
      split at he
      · rename_i hz; simpa using hz
      · cases he
    have he : (match one1 (evO T) lo' hi' mx' xs.length with
      | some (l, h) => if capz (evO T) mx' l then some (.e0, s) else if mx'.isSome then none else some (.lst ((xs.drop l).take (h - l)), s)
      | none => none) = some (d, s') := by
      cases xs with
      | nil => simpa using he
      | cons y ys => simpa [hz y ys rfl] using he
    split at he
    case h_2 => cases he
    rename_i l h hone
    generalize hv : a.eval x = v at vx
    cases vx with
    | lst xs A ad n cap sz' u hn hcap hA hsp hz' hc hx' hvv =>
      subst hn
      obtain ⟨k1, k2, m, k3, k4, k5, k6, k7⟩ := bounds_ok (P := P) hT h1 h2 h3 hcap hone
      have hrun := run1 _ _ _ _ _ _ hv k3
      split at he
      · rename_i hcz
        simp only [Option.some.injEq, Prod.mk.injEq] at he
        obtain ⟨rfl, rfl⟩ := he
        have := k7 _ hcz
        subst this
        have hh : h = m := by omega
        subst hh
        refine Did.still hR hd hrun ?_
        simp only [if_true, Nat.sub_self]
        exact .e0 _
      · split at he
        · cases he
        rename_i hmx
        simp only [Option.some.injEq, Prod.mk.injEq] at he
        obtain ⟨rfl, rfl⟩ := he
        have hm : m = cap := k6 (by cases mx' <;> simp_all)
        subst hm
        refine Did.still hR hd hrun ?_
        have hlen : ((xs.drop l).take (h - l)).length = h - l := by rw [List.length_take, List.length_drop]; omega
        rcases Nat.eq_zero_or_pos (h - l) with h0 | h0
        · have he : (xs.drop l).take (h - l) = [] := List.eq_nil_of_length_eq_zero (by omega)
          rw [he]
          exact .lst [] _ ⟨0, 0, none⟩ (h - l) (m - l) 0 (fun _ _ => undef) (by simpa using h0) (by omega) (.inr rfl) rfl (fun i hi => absurd hi (Nat.not_lt_zero _)) (fun i j hi => absurd hi (Nat.not_lt_zero _)) (fun i j hi => absurd hi (Nat.not_lt_zero _)) (fun i j hi => absurd hi (Nat.not_lt_zero _))
        · rw [if_neg (by omega)]
          rcases hA with rfl | hA
          case inr => subst hA; simp at k2; omega
          have hszz : sz' = sz := by
            cases xs with
            | nil => simp at k2; omega
            | cons y ys =>
              have := hz' 0 (by simp)
              simp only [List.getD_cons_zero] at this
              have := hz y ys rfl
              omega
          subst hszz
          simp only [Option.map_some, add_sp hsp]
          have hget : ∀ i, i < h - l → ((xs.drop l).take (h - l)).getD i [] = xs.getD (l + i) [] := by
            intro i hi
            simp [List.getD_eq_getElem?_getD, List.getElem?_take, hi]
          refine .lst _ _ ⟨ad.block, ad.off + l * sz', none⟩ _ _ sz' (fun i j => u (l + i) j) hlen.symm (by omega) (.inl rfl) rfl ?_ ?_ ?_ ?_
          · intro i hi
            rw [hlen] at hi
            rw [hget i hi]
            exact hz' _ (by omega)
          · intro i j hi hj
            rw [hlen] at hi
            have := hc (l + i) j (by omega) hj
            simp only
            rwa [show ad.off + l * sz' + i * sz' + j = ad.off + (l + i) * sz' + j by rw [Nat.add_mul]; omega]
          · intro i j hi hj
            rw [hlen] at hi
            have := hx' (l + i) j (by omega) hj
            simp only
            rwa [show ad.off + l * sz' + i * sz' + j = ad.off + (l + i) * sz' + j by rw [Nat.add_mul]; omega]
          · intro i j hi hj
            rw [hlen] at hi
            rw [hget i hi]
            exact hvv (l + i) j (by omega) hj
  · rename_i hq
    rw [hq] at vx
    have qx := V_raw vx
    split at he
    case h_2 => cases he
    rename_i r hone
    obtain ⟨l, h⟩ := r
    simp only [Option.some.injEq, Prod.mk.injEq] at he
    obtain ⟨rfl, rfl⟩ := he
    obtain ⟨k1, k2, m, k3, k4, k5, k6, k7⟩ := bounds_ok (P := P) hT h1 h2 h3 (Nat.le_refl 0) hone
    have hrun := run1 _ _ _ _ _ _ qx k3
    refine Did.still hR hd hrun ?_
    have : h = 0 := by omega
    have : l = 0 := by omega
    have : m = 0 := by omega
    subst_vars
    simp only [if_true]
    exact .raw _
  · rename_i hq
    rw [hq] at vx
    split at he
    case h_2 => cases he
    rename_i r hone
    obtain ⟨l, h⟩ := r
    simp only [Option.some.injEq, Prod.mk.injEq] at he
    obtain ⟨rfl, rfl⟩ := he
    obtain ⟨k1, k2, m, k3, k4, k5, k6, k7⟩ := bounds_ok (P := P) hT h1 h2 h3 (Nat.le_refl 0) hone
    generalize hv : a.eval x = v at vx
    cases vx with
    | e0 A =>
      have hrun := run1 _ _ _ _ _ _ hv k3
      refine Did.still hR hd hrun ?_
      have : h = 0 := by omega
      have : l = 0 := by omega
      have : m = 0 := by omega
      subst_vars
      simp only [if_true]
      exact .e0 _
  · cases he
end
end Go.Ai
/-! Operations that make memory and write it. -/
set_option linter.unusedVariables false
set_option linter.unusedSimpArgs false
namespace Go.Ai
section
variable {P : Program} {w : World} {s : St} {ι : Imap} {T : List D} {a : Act} {o : Oper} {d : D} {s' : St}

theorem did_sliceS (hT : TV w (Xof s.H ι) ι T a.tmps) (hR : R w s.H ι) (hd : ι s.nx = none) {x : Operand} {x' : Opd} {lo hi : Option Operand} {lo' hi' : Option Opd} {t : TypeId}
    (ho : o.op = .slice t x lo hi none) (hx : opd x = some x') (h1 : optOpd lo = some lo') (h2 : optOpd hi = some hi')
    (hu : P.underlying t = some .string) (he : exec (evO T) (.sliceS x' lo' hi') s = some (d, s')) : Did P w s ι a o d s' := by
  have vx := V_opd hT hx
  simp only [exec] at he
  split at he
  case h_2 => cases he
  rename_i b hb
  rw [hb] at vx
  have qx := V_raw vx
  split at he
  case h_2 => cases he
  rename_i h hh
  split at he
  case h_2 => cases he
  rename_i l hl
  simp only [Option.some.injEq, Prod.mk.injEq] at he
  obtain ⟨rfl, rfl⟩ := he
  refine Did.still hR hd (v := .string (b.extract l h)) ?_ (.raw _)
  have e1 : (∃ v, hi.map a.eval = some v ∧ (Instr.sliceBound v b.size .sliceAlen).run P w = .ok h w) ∨ (hi.map a.eval = none ∧ h = b.size) := by
    rcases optOpd_ok hT h2 with ⟨rfl, rfl⟩ | ⟨p, q, rfl, rfl, hv⟩
    · simp only [Option.map_none, bnd, Option.some.injEq] at hh
      exact .inr ⟨rfl, hh.symm⟩
    · exact .inl ⟨_, rfl, (bnd_ok hv hh _ (Nat.le_refl _) _).1⟩
  have e2 : (∃ v, lo.map a.eval = some v ∧ (Instr.sliceBound v h .sliceB).run P w = .ok l w) ∨ (lo.map a.eval = none ∧ l = 0) := by
    rcases optOpd_ok hT h1 with ⟨rfl, rfl⟩ | ⟨p, q, rfl, rfl, hv⟩
    · simp only [Option.map_none, bnd, Option.some.injEq] at hl
      exact .inr ⟨rfl, hl.symm⟩
    · exact .inl ⟨_, rfl, (bnd_ok hv hl _ (Nat.le_refl _) _).1⟩
  have hb : (Instr.sliceBounds false b.size b.size (lo.map a.eval) (hi.map a.eval) none).run P w = .ok (l, h, b.size) w := by
    rcases e1 with ⟨v, q1, q2⟩ | ⟨q1, q2⟩ <;> rcases e2 with ⟨u, r1, r2⟩ | ⟨r1, r2⟩ <;>
      (unfold Instr.sliceBounds; rw [q1, r1]; simp [q2, r2] <;> (try rw [← q2]; simp [r2]))
  simp [execOp, ho, qx, Instr.sliceAt, run_under hu, Instr.slice, hb]

theorem did_len (hT : TV w (Xof s.H ι) ι T a.tmps) (hR : R w s.H ι) (hd : ι s.nx = none) {x : Operand} {x' : Opd} {t : TypeId} {c : Call} {k : Nat} (ho : o.op = .call c) (hc : c.callee = .builtin .len) (hat : c.argTypes = #[t]) (hargs : c.args = #[x]) (hx : opd x = some x')
    (hu : (P.underlying t = some .string ∧ k = 0) ∨ (∃ e, P.underlying t = some (.slice e) ∧ k = 1) ∨ (∃ kt e, P.underlying t = some (.map kt e) ∧ k = 2))
    (he : exec (evO T) (.len k x') s = some (d, s')) : Did P w s ι a o d s' := by
  have vx := V_opd hT hx
  have run1 : ∀ v n, a.eval x = v → (Builtin.len_ #[t] o.type #[v]).run P w = .ok (.int .i64 n) w → (execOp a.eval o).run P w = .ok (.value (.int .i64 n)) w := by
    intro v n hv hr
    simp [execOp, ho, resolve, hc, hargs, hat, hv, invoke, builtin, hr]
  have hsl : k = 1 → ∃ e, P.underlying t = some (.slice e) := by
    intro h
    rcases hu with ⟨_, h'⟩ | ⟨e, hu, _⟩ | ⟨_, _, _, h'⟩
    · omega
    · exact ⟨e, hu⟩
    · omega
  have hst : k = 0 → P.underlying t = some .string := by
    intro h
    rcases hu with ⟨hu, _⟩ | ⟨e, _, h'⟩ | ⟨_, _, _, h'⟩
    · exact hu
    · omega
    · omega
  have hmp : k = 2 → ∃ kt e, P.underlying t = some (.map kt e) := by
    intro h
    rcases hu with ⟨_, h'⟩ | ⟨e, hu, h'⟩ | ⟨kt, e, hu, _⟩
    · omega
    · omega
    · exact ⟨kt, e, hu⟩
  simp only [exec] at he
  split at he
  case h_9 => cases he
  all_goals rename_i hq
  all_goals rw [hq] at vx
  · obtain ⟨e, hu⟩ := hsl rfl
    simp only [Option.some.injEq, Prod.mk.injEq] at he
    obtain ⟨rfl, rfl⟩ := he
    exact Did.still hR hd (run1 _ _ (V_raw vx) (by simp [Builtin.len_, run_under hu, goInt])) (.raw _)
  · obtain ⟨e, hu⟩ := hsl rfl
    simp only [Option.some.injEq, Prod.mk.injEq] at he
    obtain ⟨rfl, rfl⟩ := he
    generalize hv : a.eval x = v at vx
    cases vx
    exact Did.still hR hd (run1 _ _ hv (by simp [Builtin.len_, run_under hu, goInt])) (.raw _)
  · obtain ⟨e, hu⟩ := hsl rfl
    simp only [Option.some.injEq, Prod.mk.injEq] at he
    obtain ⟨rfl, rfl⟩ := he
    generalize hv : a.eval x = v at vx
    cases vx
    exact Did.still hR hd (run1 _ _ hv (by simp [Builtin.len_, run_under hu, goInt])) (.raw _)
  · obtain ⟨e, hu⟩ := hsl rfl
    simp only [Option.some.injEq, Prod.mk.injEq] at he
    obtain ⟨rfl, rfl⟩ := he
    generalize hv : a.eval x = v at vx
    cases vx with
    | lst xs A ad n cap sz u hn =>
      subst hn
      exact Did.still hR hd (run1 _ _ hv (by simp [Builtin.len_, run_under hu, goInt])) (.raw _)
  · have hu := hst rfl
    simp only [Option.some.injEq, Prod.mk.injEq] at he
    obtain ⟨rfl, rfl⟩ := he
    exact Did.still hR hd (run1 _ _ (V_raw vx) (by simp [Builtin.len_, run_under hu, goInt])) (.raw _)
  · obtain ⟨kt, e, hu⟩ := hmp rfl
    simp only [Option.some.injEq, Prod.mk.injEq] at he
    obtain ⟨rfl, rfl⟩ := he
    exact Did.still hR hd (run1 _ _ (V_raw vx) (by simp [Builtin.len_, run_under hu, goInt])) (.raw _)
  · obtain ⟨kt, e, hu⟩ := hmp rfl
    split at he
    case h_2 => cases he
    rename_i es sl hl
    simp only [Option.some.injEq, Prod.mk.injEq] at he
    obtain ⟨rfl, rfl⟩ := he
    generalize hv : a.eval x = v at vx
    cases vx with
    | map n b base hi =>
      obtain ⟨b', base', g1, ents, clock, g2, g3, g4, g5, g6⟩ := hR.obj _ _ hl
      rw [hi] at g1
      simp only [Option.some.injEq, Prod.mk.injEq] at g1
      obtain ⟨rfl, rfl⟩ := g1
      exact Did.still hR hd (run1 _ _ hv (by simp [Builtin.len_, run_under hu, goInt, getObj, Sem.run, g2, g3])) (.raw _)
  · obtain ⟨kt, e, hu⟩ := hmp rfl
    simp only [Option.some.injEq, Prod.mk.injEq] at he
    obtain ⟨rfl, rfl⟩ := he
    generalize hv : a.eval x = v at vx
    cases vx with
    | imap es b ents clock g1 g2 g3 g4 g5 g6 =>
      exact Did.still hR hd (run1 _ _ hv (by simp [Builtin.len_, run_under hu, goInt, getObj, Sem.run, g1, g3])) (.raw _)

theorem did_min2 (hT : TV w (Xof s.H ι) ι T a.tmps) (hR : R w s.H ι) (hd : ι s.nx = none) {x y : Operand} {x' y' : Opd} {c : Call} (ho : o.op = .call c) (hc : c.callee = .builtin .min) (hargs : c.args = #[x, y]) (hx : opd x = some x') (hy : opd y = some y')
    (he : exec (evO T) (.min2 x' y') s = some (d, s')) : Did P w s ι a o d s' := by
  have vx := V_opd hT hx
  have vy := V_opd hT hy
  simp only [exec] at he
  split at he
  case h_2 => cases he
  rename_i k m k' n h1 h2
  rw [h1] at vx
  rw [h2] at vy
  split at he
  case isFalse => cases he
  rename_i hk
  subst hk
  simp only [Option.some.injEq, Prod.mk.injEq] at he
  obtain ⟨rfl, rfl⟩ := he
  exact Did.still hR hd (v := .int k (if n < m then n else m)) (by simp [execOp, ho, resolve, hc, hargs, V_raw vx, V_raw vy, invoke, builtin, Builtin.min_, Builtin.min2]) (.raw _)

theorem did_max2 (hT : TV w (Xof s.H ι) ι T a.tmps) (hR : R w s.H ι) (hd : ι s.nx = none) {x y : Operand} {x' y' : Opd} {c : Call} (ho : o.op = .call c) (hc : c.callee = .builtin .max) (hargs : c.args = #[x, y]) (hx : opd x = some x') (hy : opd y = some y')
    (he : exec (evO T) (.max2 x' y') s = some (d, s')) : Did P w s ι a o d s' := by
  have vx := V_opd hT hx
  have vy := V_opd hT hy
  simp only [exec] at he
  split at he
  case h_2 => cases he
  rename_i k m k' n h1 h2
  rw [h1] at vx
  rw [h2] at vy
  split at he
  case isFalse => cases he
  rename_i hk
  subst hk
  simp only [Option.some.injEq, Prod.mk.injEq] at he
  obtain ⟨rfl, rfl⟩ := he
  exact Did.still hR hd (v := .int k (if m < n then n else m)) (by simp [execOp, ho, resolve, hc, hargs, V_raw vx, V_raw vy, invoke, builtin, Builtin.max_, Builtin.max2]) (.raw _)

/-! ### Look-ups -/
theorem checkKey_kind {t : TypeId} {k : Nat} (h : kindT P t = some k) (b : Bool) (n : Nat) (v : Value) : (Instr.checkKey b (n + 1) t v).run P w = .ok () w := by
  unfold kindT at h
  split at h
  · rename_i kk hu
    cases v <;> simp [Instr.checkKey, run_under hu]
  · rename_i hu
    cases v <;> simp [Instr.checkKey, run_under hu]
  · rename_i hu
    cases v <;> simp [Instr.checkKey, run_under hu]
  · cases h

theorem keyEq_now {t : TypeId} {u : TypeDesc} {k : Nat} (h : kindT P t = some k) (hu : P.underlying t = some u) {x y : Value} {b : Bool} (he : keyEq k x y = some b) : Instr.sameNow u x y = some b := by
  unfold kindT at h
  rw [hu] at h
  unfold keyEq at he
  split at he <;> first | contradiction | skip
  · split at he
    case isFalse => cases he
    rename_i hk
    subst hk
    cases u <;> simp at h
    simp only [Option.some.injEq] at he
    simp [Instr.sameNow, he]
  · cases u <;> simp at h
    simp only [Option.some.injEq] at he
    simp [Instr.sameNow, he]
  · cases u <;> simp at h
    simp only [Option.some.injEq] at he
    simp [Instr.sameNow, he]

theorem findE_now {t : TypeId} {u : TypeDesc} {k : Nat} (h : kindT P t = some k) (hu : P.underlying t = some u) {kv : Value} :
    ∀ (es : List (Value × D)) (ents : List MapEntry) (i : Nat) {r : Option (Nat × D)}, ents.length = es.length → (∀ j, j < es.length → (ents.getD j default).key = (es.getD j default).1) → findE k kv es i = some r →
      (r = none ∧ Instr.findNow u kv ents i = some none) ∨ ∃ j d, r = some (i + j, d) ∧ j < es.length ∧ (es.getD j default).2 = d ∧ keyEq k kv (es.getD j default).1 = some true ∧ Instr.findNow u kv ents i = some (some (i + j, (ents.getD j default).val))
  | [], ents, i, r, hl, hk, hf => by
    have : ents = [] := List.eq_nil_of_length_eq_zero hl
    subst this
    simp only [findE, Option.some.injEq] at hf
    exact .inl ⟨hf.symm, rfl⟩
  | (k', d) :: es, ents, i, r, hl, hk, hf => by
    cases ents with
    | nil => simp at hl
    | cons e ents =>
      have h0 := hk 0 (by simp)
      simp only [List.getD_cons_zero] at h0
      simp only [findE] at hf
      split at hf
      · rename_i hq
        simp only [Option.some.injEq] at hf
        have := keyEq_now h hu hq
        refine .inr ⟨0, d, by simp [← hf], by simp, by simp, by simpa using hq, ?_⟩
        simp only [Instr.findNow, h0, this]
        rfl
      · rename_i hq
        have hn := keyEq_now h hu hq
        have ih := findE_now h hu es ents (i + 1) (by simpa using hl) (fun j hj => by have := hk (j + 1) (by simpa using hj); simpa [List.getD_eq_getElem?_getD] using this) hf
        rcases ih with ⟨h1, h2⟩ | ⟨j, d', h1, h2, h3, h4, h5⟩
        · exact .inl ⟨h1, by simp only [Instr.findNow, h0, hn]; exact h2⟩
        · refine .inr ⟨j + 1, d', by rw [h1, show i + 1 + j = i + (j + 1) by omega], by simpa using h2, by simpa [List.getD_eq_getElem?_getD] using h3, by simpa [List.getD_eq_getElem?_getD] using h4, ?_⟩
          simp only [Instr.findNow, h0, hn]
          rw [h5, show i + 1 + j = i + (j + 1) by omega]
          simp [List.getD_eq_getElem?_getD]
      · cases hf

theorem zeroD_ok {t : TypeId} {z : D} (h : zeroD P t = some z) {X : Nat → Nat → Prop} : ∃ v, (zeroValue t).run P w = .ok v w ∧ V w X ι z v := by
  unfold zeroD at h
  split at h
  case h_2 => cases h
  rename_i v hv
  split at h
  case isFalse => cases h
  rename_i hf
  simp only [Option.some.injEq] at h
  subst h
  exact ⟨v, run_zeroT hv, V_ofV hf⟩

theorem kind_under {t : TypeId} {k : Nat} (h : kindT P t = some k) : ∃ u, P.underlying t = some u := by
  unfold kindT at h
  cases hu : P.underlying t with
  | none => simp [hu] at h
  | some u => exact ⟨u, rfl⟩

theorem run_findKey {t : TypeId} {k : Nat} (h : kindT P t = some k) {kv : Value} {es : List (Value × D)} {ents : Array MapEntry} {r : Option (Nat × D)} (hl : ents.size = es.length)
    (hk : ∀ j, j < es.length → (ents.getD j default).key = (es.getD j default).1) (hf : findE k kv es 0 = some r) :
    (r = none ∧ (Instr.findKey t kv ents.toList).run P w = .ok none w) ∨ ∃ j d, r = some (j, d) ∧ j < es.length ∧ (es.getD j default).2 = d ∧ keyEq k kv (es.getD j default).1 = some true ∧ (Instr.findKey t kv ents.toList).run P w = .ok (some (j, (ents.getD j default).val)) w := by
  obtain ⟨u, hu⟩ := kind_under h
  have hg : ∀ j, ents.toList.getD j default = ents.getD j default := by
    intro j
    simp [List.getD_eq_getElem?_getD, Array.getD_eq_getD_getElem?]
  rcases findE_now h hu es ents.toList 0 (by simpa using hl) (fun j hj => by rw [hg]; exact hk j hj) hf with ⟨h1, h2⟩ | ⟨j, d, h1, h2, h3, h4, h5⟩
  · exact .inl ⟨h1, by simp [Instr.findKey, run_under hu, h2]⟩
  · refine .inr ⟨j, d, by simpa using h1, h2, h3, h4, ?_⟩
    rw [Nat.zero_add, hg] at h5
    simp [Instr.findKey, run_under hu, h5]

theorem did_lookup (hT : TV w (Xof s.H ι) ι T a.tmps) (hR : R w s.H ι) (hd : ι s.nx = none) {x y : Operand} {x' y' : Opd} {t kt et : TypeId} {kk : Nat} {z : D} {ok : Bool} (ho : o.op = .lookup t x y ok) (hx : opd x = some x') (hy : opd y = some y')
    (hu : P.underlying t = some (.map kt et)) (hk : kindT P kt = some kk) (hz : zeroD P et = some z) (he : exec (evO T) (.lookup kk z ok x' y') s = some (d, s')) : Did P w s ι a o d s' := by
  have vx := V_opd hT hx
  have vy := V_opd hT hy
  obtain ⟨zv, hzr, hzv⟩ := zeroD_ok (w := w) (X := Xof s.H ι) (ι := ι) hz
  -- what each answer gives
  have fin : ∀ (r : Option (Nat × D)) (v : Value), (∀ q, r = some q → V w (Xof s.H ι) ι q.2 v) → (r = none → v = zv) →
      (Instr.lookup t (a.eval x) (a.eval y) ok).run P w = .ok (if ok then .tuple #[v, .bool r.isSome] else v) w →
      (match (some r : Option (Option (Nat × D))) with
      | some (some (_, d)) => some (if ok then .tup [d, .raw (.bool true)] else d, s)
      | some none => some (if ok then .tup [z, .raw (.bool false)] else z, s)
      | none => none) = some (d, s') → Did P w s ι a o d s' := by
    intro r v h1 h2 h3 h4
    have hrun : (execOp a.eval o).run P w = .ok (.value (if ok then .tuple #[v, .bool r.isSome] else v)) w := by simp [execOp, ho, h3]
    have two : ∀ (q : D) (b : Bool), V w (Xof s.H ι) ι q v → V w (Xof s.H ι) ι (.tup [q, .raw (.bool b)]) (.tuple #[v, .bool b]) := by
      intro q b hq
      refine .tup _ _ rfl fun i hi => ?_
      match i, hi with
      | 0, _ => exact hq
      | 1, _ => exact .raw _
    cases r with
    | none =>
      simp only [Option.some.injEq, Prod.mk.injEq] at h4
      obtain ⟨rfl, rfl⟩ := h4
      have hv := h2 rfl
      subst hv
      refine Did.still hR hd hrun ?_
      cases ok
      · exact hzv
      · exact two _ _ hzv
    | some q =>
      obtain ⟨i, q⟩ := q
      simp only [Option.some.injEq, Prod.mk.injEq] at h4
      obtain ⟨rfl, rfl⟩ := h4
      refine Did.still hR hd hrun ?_
      cases ok
      · exact h1 _ rfl
      · exact two _ _ (h1 _ rfl)
  simp only [exec] at he
  split at he
  case h_2 => cases he
  rename_i kv hkv
  rw [hkv] at vy
  have qy := V_raw vy
  have hck : ∀ b, (Instr.checkKey b 10000 kt (a.eval y)).run P w = .ok () w := fun b => checkKey_kind hk b 9999 _
  cases hr : lkE kk kv s.H (evO T x') with
  | none => rw [hr] at he; cases he
  | some r =>
  rw [hr] at he
  unfold lkE at hr
  split at hr
  · -- the nil map
    rename_i hq
    rw [hq] at vx
    have qx := V_raw vx
    simp only [Option.some.injEq] at hr
    subst hr
    refine fin none zv (fun q h => by cases h) (fun _ => rfl) ?_ he
    obtain ⟨u, huu⟩ := kind_under hk
    simp [Instr.lookup, run_under hu, qx, hck, Instr.findKey, run_under huu, Instr.findNow, hzr]
  · rename_i n hq
    rw [hq] at vx
    split at hr
    case h_2 => cases hr
    rename_i es sl hl
    generalize hv : a.eval x = v at vx
    cases vx with
    | map n b base hi =>
      obtain ⟨b', base', g1, ents, clock, g2, g3, g4, g5, g6⟩ := hR.obj _ _ hl
      rw [hi] at g1
      simp only [Option.some.injEq, Prod.mk.injEq] at g1
      obtain ⟨rfl, rfl⟩ := g1
      rcases run_findKey (P := P) (w := w) hk g3 g4 hr with ⟨h1, h2⟩ | ⟨j, dd, h1, h2, h3, h4, h5⟩
      · subst h1
        refine fin none zv (fun q h => by cases h) (fun _ => rfl) ?_ he
        simp only [Instr.lookup, Sem.run_bind, run_under hu, Result.andThen_ok, hv, getObj, Sem.run, g2, Sem.run_pure, hck]
        rw [qy, h2]; simp [hzr]
      · subst h1
        refine fin (some (j, dd)) (ents.getD j default).val (fun q h => ?_) (fun h => by cases h) ?_ he
        · simp only [Option.some.injEq] at h
          subst h
          rw [← h3]
          exact g5 j h2
        · simp only [Instr.lookup, Sem.run_bind, run_under hu, Result.andThen_ok, hv, getObj, Sem.run, g2, Sem.run_pure, hck]
          rw [qy, h5]; simp
  · rename_i es hq
    rw [hq] at vx
    generalize hv : a.eval x = v at vx
    cases vx with
    | imap es b ents clock g2 g6 g3 g4 g5 g7 =>
      rcases run_findKey (P := P) (w := w) hk g3 g4 hr with ⟨h1, h2⟩ | ⟨j, dd, h1, h2, h3, h4, h5⟩
      · subst h1
        refine fin none zv (fun q h => by cases h) (fun _ => rfl) ?_ he
        simp only [Instr.lookup, Sem.run_bind, run_under hu, Result.andThen_ok, hv, getObj, Sem.run, g2, Sem.run_pure, hck]
        rw [qy, h2]; simp [hzr]
      · subst h1
        refine fin (some (j, dd)) (ents.getD j default).val (fun q h => ?_) (fun h => by cases h) ?_ he
        · simp only [Option.some.injEq] at h
          subst h
          rw [← h3]
          exact g5 j h2
        · simp only [Instr.lookup, Sem.run_bind, run_under hu, Result.andThen_ok, hv, getObj, Sem.run, g2, Sem.run_pure, hck]
          rw [qy, h5]; simp
  · cases hr
end
end Go.Ai
/-! Operations that make memory and write it. -/
set_option linter.unusedVariables false
set_option linter.unusedSimpArgs false
namespace Go.Ai
section
variable {P : Program} {w : World} {s : St} {ι : Imap} {T : List D} {a : Act} {o : Oper} {d : D} {s' : St}

/-- One object's block is written. -/
theorem good_upd (hR : R w s.H ι) (hd : ι s.nx = none) {n b base : Nat} {ob ob' : Obj} (hl : lk s.H n = some ob) (hi : ι n = some (b, base)) (hro : s.ro ≤ n) (w' : World)
    (h1 : w'.os = w.os) (h2 : w'.tape = w.tape) (h3 : w'.output = w.output) (h4 : w'.heap.size = w.heap.size) (hoth : ∀ k, k ≠ b → w'.heap[k]? = w.heap[k]?)
    (hcell : ∀ arr e fr, w.heap[b]? = some (.cells arr e fr) → ∃ arr', w'.heap[b]? = some (.cells arr' e fr) ∧ arr'.size = arr.size ∧ ∀ o, ¬ ob.free base o → arr'[o]? = arr[o]?)
    (hmap : ∀ x, w.heap[b]? = some x → (∀ arr e fr, x ≠ .cells arr e fr) → ob.free base 0)
    (hfree : ∀ o, ob'.free base o → ob.free base o)
    (hok : (∀ d v, V w (Xof s.H ι) ι d v → V w' (Xof (upd s.H n ob') ι) ι d v) → ObjOk w' (Xof (upd s.H n ob') ι) ι b base ob') :
    Good w w' s { s with H := upd s.H n ob' } ι ι := by
  have hX : ∀ b' o', Xof (upd s.H n ob') ι b' o' → Xof s.H ι b' o' := by
    rintro b' o' ⟨m, x, base', g1, g2, g3⟩
    rw [lk_upd] at g1
    by_cases hm : m = n
    · subst hm
      rw [if_pos rfl, hl] at g1
      simp only [Option.map_some, Option.some.injEq] at g1
      subst g1
      rw [hi] at g2
      simp only [Option.some.injEq, Prod.mk.injEq] at g2
      obtain ⟨rfl, rfl⟩ := g2
      exact ⟨m, ob, base, hl, hi, hfree _ g3⟩
    · rw [if_neg hm] at g1
      exact ⟨m, x, base', g1, g2, g3⟩
  have hchg : Chg (Xof s.H ι) w w' := by
    refine ⟨h1, h2, h3, by omega, fun b' arr e fr hb => ?_, fun b' x hb hn hx => ?_⟩
    · by_cases hbb : b' = b
      · subst hbb
        obtain ⟨arr', g1, g2, g3⟩ := hcell arr e fr hb
        exact ⟨arr', fr, g1, g2, fun o ho => g3 o fun hf => ho ⟨n, ob, base, hl, hi, hf⟩, fun _ => rfl⟩
      · exact ⟨arr, fr, by rw [hoth _ hbb]; exact hb, rfl, fun _ _ => rfl, fun _ => rfl⟩
    · by_cases hbb : b' = b
      · subst hbb
        exact absurd ⟨n, ob, base, hl, hi, hmap x hb hn⟩ hx
      · rw [hoth _ hbb]; exact hb
  have hV : ∀ d v, V w (Xof s.H ι) ι d v → V w' (Xof (upd s.H n ob') ι) ι d v := fun d v h => h.step hchg (fun b o _ h => hX b o h) (fun _ _ h => h)
  refine ⟨⟨?_, ?_, ?_⟩, hchg, fun _ _ h => h, fun _ _ h => .inl h, fun b o _ h => hX b o h, Nat.le_refl _, rfl, ?_⟩
  · intro m x hm
    rw [lk_upd] at hm
    by_cases hmn : m = n
    · subst hmn
      rw [if_pos rfl, hl] at hm
      simp only [Option.map_some, Option.some.injEq] at hm
      subst hm
      exact ⟨b, base, hi, hok hV⟩
    · rw [if_neg hmn] at hm
      obtain ⟨b', base', g1, g2⟩ := hR.obj m x hm
      refine ⟨b', base', g1, g2.step (hoth _ fun e => ?_) hV⟩
      subst e
      exact hmn (hR.inj _ _ _ _ _ _ _ hm hl g1 hi)
  · intro m k x y b' c1 c2 g1 g2 g3 g4
    have key : ∀ j z, lk (upd s.H n ob') j = some z → ∃ z', lk s.H j = some z' := by
      intro j z hj
      rw [lk_upd] at hj
      by_cases hjn : j = n
      · subst hjn; exact ⟨ob, hl⟩
      · rw [if_neg hjn] at hj; exact ⟨z, hj⟩
    obtain ⟨x', g1'⟩ := key _ _ g1
    obtain ⟨y', g2'⟩ := key _ _ g2
    exact hR.inj _ _ _ _ _ _ _ g1' g2' g3 g4
  · intro m b' base' hm
    rw [h4]
    exact hR.low _ _ _ hm
  · intro m x hm hlm
    have hmn : m ≠ n := by omega
    refine ⟨⟨x, by simp only [lk_upd, if_neg hmn]; exact hlm, Obj.like_refl _⟩, fun b' base' hb => hoth _ fun e => ?_⟩
    subst e
    exact hmn (hR.inj _ _ _ _ _ _ _ hlm hl hb hi)

/-- An object is forgotten. -/
theorem good_rm (hR : R w s.H ι) (hd : ι s.nx = none) {n : Nat} (hro : s.ro ≤ n) : Good w w s { s with H := rm s.H n } ι ι := by
  have hsub : ∀ m x, lk (rm s.H n) m = some x → lk s.H m = some x := by
    intro m x h
    rw [lk_rm] at h
    by_cases hm : m = n
    · rw [if_pos hm] at h; cases h
    · rwa [if_neg hm] at h
  have hX : ∀ b' o', Xof (rm s.H n) ι b' o' → Xof s.H ι b' o' := by
    rintro b' o' ⟨m, x, base', g1, g2, g3⟩
    exact ⟨m, x, base', hsub _ _ g1, g2, g3⟩
  have hV : ∀ d v, V w (Xof s.H ι) ι d v → V w (Xof (rm s.H n) ι) ι d v := fun d v h => h.step (Chg.refl _ _) (fun b o _ h => hX b o h) (fun _ _ h => h)
  refine ⟨⟨?_, ?_, hR.low⟩, Chg.refl _ _, fun _ _ h => h, fun _ _ h => .inl h, fun b o _ h => hX b o h, Nat.le_refl _, rfl, ?_⟩
  · intro m x hm
    obtain ⟨b, base, g1, g2⟩ := hR.obj m x (hsub _ _ hm)
    exact ⟨b, base, g1, g2.step rfl hV⟩
  · intro m k x y b' c1 c2 g1 g2 g3 g4
    exact hR.inj _ _ _ _ _ _ _ (hsub _ _ g1) (hsub _ _ g2) g3 g4
  · intro m x hm hlm
    have hmn : m ≠ n := by omega
    exact ⟨⟨x, by simp only [lk_rm, if_neg hmn]; exact hlm, Obj.like_refl _⟩, fun _ _ _ => rfl⟩

/-- An object under a new name, its beginning cut off. -/
theorem good_ren (hR : R w s.H ι) (hd : ι s.nx = none) {n b base off lo : Nat} {cs : List D} {e : TypeId} (hl : lk s.H n = some (.cells cs e lo)) (hi : ι n = some (b, base)) (hro : s.ro ≤ n) (hoff : off ≤ cs.length) :
    Good w w s (new { s with H := rm s.H n } (.cells (cs.drop off) e (lo - off))).2 ι (ext ι s.nx b (base + off)) := by
  have hfresh : ι s.nx = none := hd
  have hext : ∀ m c, ι m = some c → ext ι s.nx b (base + off) m = some c := by
    intro m c h
    have : m ≠ s.nx := fun e => by rw [e, hfresh] at h; cases h
    simp [ext, this, h]
  have hsub : ∀ m x, m ≠ s.nx → lk (new { s with H := rm s.H n } (.cells (cs.drop off) e (lo - off))).2.H m = some x → m ≠ n ∧ lk s.H m = some x := by
    intro m x hm h
    simp only [new, lk_cons, if_neg hm, lk_rm] at h
    by_cases hmn : m = n
    · rw [if_pos hmn] at h; cases h
    · rw [if_neg hmn] at h; exact ⟨hmn, h⟩
  have hX : ∀ b' o', Xof (new { s with H := rm s.H n } (.cells (cs.drop off) e (lo - off))).2.H (ext ι s.nx b (base + off)) b' o' → Xof s.H ι b' o' := by
    rintro b' o' ⟨m, x, base', g1, g2, g3⟩
    by_cases hm : m = s.nx
    · subst hm
      simp only [new, lk_cons, if_true, Option.some.injEq] at g1
      subst g1
      simp only [ext, if_true, Option.some.injEq, Prod.mk.injEq] at g2
      obtain ⟨rfl, rfl⟩ := g2
      refine ⟨n, _, base, hl, hi, ?_⟩
      simp only [Obj.free] at g3 ⊢
      omega
    · obtain ⟨_, g1'⟩ := hsub _ _ hm g1
      simp only [ext, if_neg hm] at g2
      exact ⟨m, x, base', g1', g2, g3⟩
  have hV : ∀ d v, V w (Xof s.H ι) ι d v → V w (Xof (new { s with H := rm s.H n } (.cells (cs.drop off) e (lo - off))).2.H (ext ι s.nx b (base + off))) (ext ι s.nx b (base + off)) d v :=
    fun d v h => h.step (Chg.refl _ _) (fun b o _ h => hX b o h) hext
  refine ⟨⟨?_, ?_, ?_⟩, Chg.refl _ _, hext, ?_, fun b o _ h => hX b o h, Nat.le_succ _, rfl, ?_⟩
  · intro m x hm
    by_cases hmn : m = s.nx
    · subst hmn
      simp only [new, lk_cons, if_true, Option.some.injEq] at hm
      subst hm
      obtain ⟨b', base', g1, arr, g2, g3, g4⟩ := hR.obj _ _ hl
      rw [hi] at g1
      simp only [Option.some.injEq, Prod.mk.injEq] at g1
      obtain ⟨rfl, rfl⟩ := g1
      refine ⟨b, base + off, by simp [ext], arr, g2, by rw [List.length_drop]; omega, fun i hi' => ?_⟩
      rw [List.length_drop] at hi'
      have := hV _ _ (g4 (off + i) (by omega))
      have e1 : (cs.drop off).getD i default = cs.getD (off + i) default := by simp [List.getD_eq_getElem?_getD]
      rw [e1, Nat.add_assoc]
      exact this
    · obtain ⟨_, hm'⟩ := hsub _ _ hmn hm
      obtain ⟨b', base', g1, g2⟩ := hR.obj m x hm'
      exact ⟨b', base', hext _ _ g1, g2.step rfl hV⟩
  · intro m k x y b' c1 c2 g1 g2 g3 g4
    by_cases hm : m = s.nx <;> by_cases hk : k = s.nx
    · rw [hm, hk]
    · obtain ⟨hkn, g2'⟩ := hsub _ _ hk g2
      simp only [ext, if_pos hm, Option.some.injEq, Prod.mk.injEq] at g3
      simp only [ext, if_neg hk] at g4
      rw [← g3.1] at g4
      exact absurd (hR.inj _ _ _ _ _ _ _ g2' hl g4 hi) hkn
    · obtain ⟨hmn, g1'⟩ := hsub _ _ hm g1
      simp only [ext, if_pos hk, Option.some.injEq, Prod.mk.injEq] at g4
      simp only [ext, if_neg hm] at g3
      rw [← g4.1] at g3
      exact absurd (hR.inj _ _ _ _ _ _ _ g1' hl g3 hi) hmn
    · obtain ⟨_, g1'⟩ := hsub _ _ hm g1
      obtain ⟨_, g2'⟩ := hsub _ _ hk g2
      simp only [ext, if_neg hm] at g3
      simp only [ext, if_neg hk] at g4
      exact hR.inj _ _ _ _ _ _ _ g1' g2' g3 g4
  · intro m b' base' hm
    simp only [ext] at hm
    split at hm
    · simp only [Option.some.injEq, Prod.mk.injEq] at hm
      rw [← hm.1]
      exact hR.low _ _ _ hi
    · exact hR.low _ _ _ hm
  · intro m c hm
    simp only [ext] at hm
    simp only [new]
    split at hm
    · rename_i e'; exact .inr (by omega)
    · exact .inl hm
  · intro m x hm hlm
    have hmn : m ≠ n := by omega
    have hmx : m ≠ s.nx := by
      intro e'
      subst e'
      obtain ⟨b', base', g1, _⟩ := hR.obj _ _ hlm
      rw [hfresh] at g1; cases g1
    exact ⟨⟨x, by simp only [new, lk_cons, if_neg hmx, lk_rm, if_neg hmn]; exact hlm, Obj.like_refl _⟩, fun _ _ _ => rfl⟩

theorem V_new {w' : World} {X : Nat → Nat → Prop} (ι : Imap) (n b base : Nat) : V w' X (ext ι n b base) (.ref n 0) (.pointer (some ⟨b, base, none⟩)) := by
  have := V.ref (w := w') (X := X) (ι := ext ι n b base) n b base 0 (by simp [ext])
  simpa using this

/-! ### alloc, box -/
theorem cells_of_zero {t : TypeId} {z : List D} (h : zeroCells P t = some z) {X : Nat → Nat → Prop} (h1 : z.all one = true) :
    ∃ v, (zeroValue t).run P w = .ok v w ∧ v.cells.size = z.length ∧ ∀ i, i < z.length → V w X ι (z.getD i default) (v.cells.getD i undef) := by
  unfold zeroCells at h
  split at h
  case h_2 => cases h
  rename_i v hv
  split at h
  case isFalse => cases h
  rename_i hf
  simp only [Option.some.injEq] at h
  subst h
  obtain ⟨g1, g2⟩ := cells_V (w := w) (X := X) (ι := ι) (V_ofV hf) h1
  exact ⟨v, run_zeroT hv, g1, g2⟩

theorem did_alloc (hT : TV w (Xof s.H ι) ι T a.tmps) (hR : R w s.H ι) (hd : ι s.nx = none) {e : TypeId} {z : List D} (ho : o.op = .alloc e) (hz : zeroCells P e = some z)
    (he : exec (evO T) (.alloc e z) s = some (d, s')) : Did P w s ι a o d s' := by
  simp only [exec] at he
  split at he
  case isFalse => cases he
  rename_i h1
  simp only [Option.some.injEq, Prod.mk.injEq] at he
  obtain ⟨rfl, rfl⟩ := he
  obtain ⟨v, g1, g2, g3⟩ := cells_of_zero (w := w) (ι := ι) (X := Xof s.H ι) hz h1
  refine ⟨.pointer (some ⟨w.heap.size, 0, none⟩), w.alloc (.cells v.cells e), _, .inl ?_, good_new_cells hR hd v.cells e z 0 (by omega) g3, V_new _ _ _ _⟩
  simp [execOp, ho, Instr.alloc, g1, newVar, newRow]

theorem did_box (hT : TV w (Xof s.H ι) ι T a.tmps) (hR : R w s.H ι) (hd : ι s.nx = none) {e : TypeId} {x : Operand} {x' : Opd} (ho : o.op = .box e x) (hx : opd x = some x')
    (he : exec (evO T) (.box e x') s = some (d, s')) : Did P w s ι a o d s' := by
  have vx := V_opd hT hx
  simp only [exec] at he
  split at he
  case isFalse => cases he
  rename_i h1
  simp only [Option.some.injEq, Prod.mk.injEq] at he
  obtain ⟨rfl, rfl⟩ := he
  obtain ⟨g2, g3⟩ := cells_V vx h1
  refine ⟨.pointer (some ⟨w.heap.size, 0, none⟩), w.alloc (.cells (a.eval x).cells e), _, .inl ?_, good_new_cells hR hd _ e _ 0 (by omega) g3, V_new _ _ _ _⟩
  simp [execOp, ho, Instr.box, newVar, newRow]

theorem did_mkmap (hT : TV w (Xof s.H ι) ι T a.tmps) (hR : R w s.H ι) (hd : ι s.nx = none) {t : TypeId} (ho : o.op = .makeMap t none)
    (he : exec (evO T) .mkmap s = some (d, s')) : Did P w s ι a o d s' := by
  simp only [exec, Option.some.injEq, Prod.mk.injEq] at he
  obtain ⟨rfl, rfl⟩ := he
  refine ⟨.map (some w.heap.size), w.alloc (.map #[] 0), _, .inl ?_, good_new hR hd (.map #[] 0) (.map [] false) (fun X' ι' hV => ⟨#[], 0, by simp only [World.alloc, Array.getElem?_push_size], rfl, fun i hi => absurd hi (Nat.not_lt_zero _), fun i hi => absurd hi (Nat.not_lt_zero _), rfl, fun i hi => absurd hi (Nat.not_lt_zero _)⟩), ?_⟩
  · simp [execOp, ho, Instr.makeMap]
  · exact .map _ _ 0 (by simp [ext])

/-! ### store -/
theorem getD_splice (cs vs : List D) (off i : Nat) (h : off + vs.length ≤ cs.length) : (splice cs off vs).getD i default = if off ≤ i ∧ i < off + vs.length then vs.getD (i - off) default else cs.getD i default := by
  simp only [splice, List.getD_eq_getElem?_getD, List.getElem?_append, List.length_take, List.getElem?_take, List.getElem?_drop]
  have : min off cs.length = off := by omega
  rw [this]
  by_cases h1 : i < off
  · have h2 : ¬ (off ≤ i ∧ i < off + vs.length) := by omega
    simp [h1, h2]
  · by_cases h3 : i < off + vs.length
    · have h2 : off ≤ i ∧ i < off + vs.length := by omega
      have h4 : i - off < vs.length := by omega
      simp [h1, h2, h4]
    · have h2 : ¬ (off ≤ i ∧ i < off + vs.length) := by omega
      have h4 : ¬ i - off < vs.length := by omega
      simp [h1, h2, h4]
      congr 2
      omega
theorem length_splice (cs vs : List D) (off : Nat) (h : off + vs.length ≤ cs.length) : (splice cs off vs).length = cs.length := by
  simp only [splice, List.length_append, List.length_take, List.length_drop]
  omega

/-- The row behind a store. -/
theorem row_getElem (cur : Array Value) (vs : List Value) (k i : Nat) (h : k + vs.length ≤ cur.size) :
    (cur.toList.take k ++ vs ++ cur.toList.drop (k + vs.length)).toArray[i]? = if k ≤ i ∧ i < k + vs.length then vs[i - k]? else cur[i]? := by
  simp only [List.getElem?_toArray, List.append_assoc, List.getElem?_append, List.length_take, Array.length_toList, List.getElem?_take, List.getElem?_drop, Array.getElem?_toList]
  have : min k cur.size = k := by omega
  rw [this]
  by_cases h1 : i < k
  · have h2 : ¬ (k ≤ i ∧ i < k + vs.length) := by omega
    simp [h1, h2]
  · by_cases h3 : i < k + vs.length
    · have h2 : k ≤ i ∧ i < k + vs.length := by omega
      have h4 : i - k < vs.length := by omega
      simp [h1, h2, h4]
    · have h2 : ¬ (k ≤ i ∧ i < k + vs.length) := by omega
      have h4 : ¬ i - k < vs.length := by omega
      simp [h1, h2, h4]
      congr 1
      omega

/-- Cells of an object are overwritten. -/
theorem good_cells (hR : R w s.H ι) (hd : ι s.nx = none) {n b base off lo : Nat} {cs : List D} {e : TypeId} {arr : Array Value} (hl : lk s.H n = some (.cells cs e lo)) (hi : ι n = some (b, base)) (hro : s.ro ≤ n)
    (hb : w.heap[b]? = some (.cells arr e (0, 0))) (hsz : base + cs.length ≤ arr.size) (hv : ∀ i, i < cs.length → V w (Xof s.H ι) ι (cs.getD i default) (arr.getD (base + i) undef))
    {ds : List D} {vs : List Value} (hlen : vs.length = ds.length) (hvs : ∀ i, i < ds.length → V w (Xof s.H ι) ι (ds.getD i default) (vs.getD i undef)) (hfit : base + off + ds.length ≤ arr.size) (hlo : lo ≤ off)
    (cs' : List D) (hcs' : base + cs'.length ≤ arr.size) (hget : ∀ i, i < cs'.length → cs'.getD i default = if off ≤ i ∧ i < off + ds.length then ds.getD (i - off) default else cs.getD i default) (hlen' : ∀ i, i < cs'.length → i < cs.length ∨ (off ≤ i ∧ i < off + ds.length)) :
    Good w (w.setRow b (arr.toList.take (base + off) ++ vs ++ arr.toList.drop (base + off + vs.length)).toArray) s { s with H := upd s.H n (.cells cs' e lo) } ι ι := by
  have hsize : (arr.toList.take (base + off) ++ vs ++ arr.toList.drop (base + off + vs.length)).toArray.size = arr.size := by
    simp only [List.size_toArray, List.length_append, List.length_take, List.length_drop, Array.length_toList]
    omega
  have hrow := fun i => row_getElem arr vs (base + off) i (by omega)
  refine good_upd hR hd hl hi hro _ rfl rfl rfl (by simp [World.setRow]) (fun k hk => setRow_other w b k _ hk) ?_ (fun x hx hn => absurd hb (by rw [hx]; exact fun h => hn _ _ _ (Option.some.inj h))) (fun o h => h) ?_
  · intro arr' e' fr hb'
    rw [hb] at hb'
    simp only [Option.some.injEq, Obj.cells.injEq, Go.Obj.cells.injEq] at hb'
    obtain ⟨rfl, rfl, rfl⟩ := hb'
    refine ⟨_, setRow_heap w b arr _ e (0, 0) hb, hsize, fun o hf => ?_⟩
    simp only [Obj.free] at hf
    rw [hrow, if_neg (by omega)]
  · intro hV
    refine ⟨_, setRow_heap w b arr _ e (0, 0) hb, by rw [hsize]; exact hcs', fun i hi' => ?_⟩
    have e1 : (arr.toList.take (base + off) ++ vs ++ arr.toList.drop (base + off + vs.length)).toArray.getD (base + i) undef = if off ≤ i ∧ i < off + ds.length then vs.getD (i - off) undef else arr.getD (base + i) undef := by
      rw [Array.getD_eq_getD_getElem?, hrow]
      by_cases hc : off ≤ i ∧ i < off + ds.length
      · have hc2 : base + off ≤ base + i ∧ base + i < base + off + vs.length := by omega
        rw [if_pos hc, if_pos hc2, List.getD_eq_getElem?_getD]
        congr 2
        omega
      · have hc2 : ¬ (base + off ≤ base + i ∧ base + i < base + off + vs.length) := by omega
        rw [if_neg hc, if_neg hc2, Array.getD_eq_getD_getElem?]
    rw [e1, hget i hi']
    by_cases hc : off ≤ i ∧ i < off + ds.length
    · rw [if_pos hc, if_pos hc]
      exact hV _ _ (hvs _ (by omega))
    · rw [if_neg hc, if_neg hc]
      rcases hlen' i hi' with h | h
      · exact hV _ _ (hv i h)
      · exact absurd h hc

theorem one_cells {X : Nat → Nat → Prop} {ds : List D} {vs : List Value} (hlen : vs.length = ds.length) (hvs : ∀ i, i < ds.length → V w X ι (ds.getD i default) (vs.getD i undef)) (h1 : ds.all one = true) : ∀ v ∈ vs, v.oneCell' = true := by
  intro v hv
  obtain ⟨i, hi, rfl⟩ := List.getElem_of_mem hv
  have hi' : i < ds.length := by omega
  have := hvs i hi'
  have h2 : one (ds.getD i default) = true := by
    have := List.all_eq_true.1 h1 ds[i] (List.getElem_mem hi')
    simpa [List.getD_eq_getElem?_getD, hi'] using this
  have := one_cell this h2
  simpa [List.getD_eq_getElem?_getD, hi] using this

theorem did_store (hT : TV w (Xof s.H ι) ι T a.tmps) (hR : R w s.H ι) (hd : ι s.nx = none) {t : TypeId} {x y : Operand} {x' y' : Opd} {sz : Nat} (ho : o.op = .store t x y) (hx : opd x = some x') (hy : opd y = some y') (hs : szT P t = some sz)
    (he : exec (evO T) (.store sz x' y') s = some (d, s')) : Did P w s ι a o d s' := by
  have vx := V_opd hT hx
  have vy := V_opd hT hy
  simp only [exec] at he
  split at he
  case h_2 => cases he
  rename_i n k hq
  rw [hq] at vx
  split at he
  case h_2 => cases he
  rename_i cs e lo hl
  split at he
  case isFalse => cases he
  rename_i hc
  obtain ⟨c1, c2, c3, c4, c5⟩ := hc
  simp only [Option.some.injEq, Prod.mk.injEq] at he
  obtain ⟨rfl, rfl⟩ := he
  generalize hv : a.eval x = v at vx
  cases vx with
  | ref n b base k hi =>
    obtain ⟨b', base', g1, arr, g2, g3, g4⟩ := hR.obj _ _ hl
    rw [hi] at g1
    simp only [Option.some.injEq, Prod.mk.injEq] at g1
    obtain ⟨rfl, rfl⟩ := g1
    obtain ⟨v1, v2⟩ := cells_V vy c2
    have v2' : ∀ i, i < (cellsOf (evO T y')).length → V w (Xof s.H ι) ι ((cellsOf (evO T y')).getD i default) ((a.eval y).cells.toList.getD i undef) := by
      intro i hi'
      have := v2 i hi'
      simpa [List.getD_eq_getElem?_getD, Array.getD_eq_getD_getElem?] using this
    have hone := one_cells (by simpa using v1) v2' c2
    have hst := run_storeCells_at P b (base + k) e (a.eval y).cells.toList 0 arr w g2 (by simp only [Nat.add_zero, Array.length_toList]; omega) hone
    refine ⟨undef, _, ι, .inr ⟨?_, rfl⟩, good_cells hR hd hl hi c5 g2 g3 g4 (vs := (a.eval y).cells.toList) (by simpa using v1) v2' (by omega) c4 (splice cs k (cellsOf (evO T y'))) (by rw [length_splice _ _ _ (by omega)]; exact g3) (fun i hi' => getD_splice _ _ _ _ (by omega)) (fun i hi' => .inl (by rwa [length_splice _ _ _ (by omega)] at hi')), .raw _⟩
    simp only [execOp, ho, Sem.run_bind, Instr.storeAt, hv, Instr.sureAddr, Sem.run_pure, Result.andThen_ok, storeVar, run_szT hs, Sem.run_ite]
    rw [if_neg (by simp only [ne_eq, Decidable.not_not]; omega)]
    simp only [Nat.add_zero] at hst
    rw [hst]
    rfl
end
end Go.Ai
