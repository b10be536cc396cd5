/-
  A part of an interpreter over abstract data, proved sound once for the model: what it says of the code, the machine does in every order. Conditions: none beyond the statement.
-/
import Derived.Test.YtemeabkpllolmaaGreatDoorAi6
/-! Cuts, lengths, look-ups. -/
set_option linter.unusedVariables false
set_option linter.unusedSimpArgs false
namespace Go.Ai
section
variable {P : Program} {w : World} {s : St} {ι : Imap} {T : List D} {a : Act} {o : Oper} {d : D} {s' : St}

theorem optOpd_ok (hT : TV w (Xof s.H ι) ι T a.tmps) {x : Option Operand} {y : Option Opd} (h : optOpd x = some y) : (x = none ∧ y = none) ∨ ∃ p q, x = some p ∧ y = some q ∧ V w (Xof s.H ι) ι (evO T q) (a.eval p) := by
  cases x with
  | none => simp only [optOpd, Option.some.injEq] at h; exact .inl ⟨rfl, h.symm⟩
  | some p =>
    simp only [optOpd, Option.map_eq_some_iff] at h
    obtain ⟨q, hq, rfl⟩ := h
    exact .inr ⟨p, q, rfl, rfl, V_opd hT hq⟩

/-- A bound, as it is reckoned. -/
theorem bnd_ok {X : Nat → Nat → Prop} {d : D} {v : Value} {df most r : Nat} (hv : V w X ι d v) (h : bnd (some d) df most = some r) (big : Nat) (hb : most ≤ big) (c : BoundsCode) : (Instr.sliceBound v big c).run P w = .ok r w ∧ r ≤ most := by
  unfold bnd at h
  split at h
  · rename_i h0; cases h0
  · rename_i k n h0
    simp only [Option.some.injEq] at h0
    subst h0
    split at h
    case isFalse => cases h
    rename_i hc
    simp only [Option.some.injEq] at h
    subst h
    rw [V_raw hv]
    have : 0 ≤ n ∧ n ≤ (big : Int) := ⟨hc.1, by omega⟩
    refine ⟨by simp [Instr.sliceBound, asIntOf, this], by omega⟩
  · cases h

def one1 (ρ : Opd → D) (lo hi mx : Option Opd) (len : Nat) : Option (Nat × Nat) := match bnd (hi.map ρ) len len with
      | some h => match bnd (lo.map ρ) 0 h with
        | some l => match mx with
          | none => some (l, h)
          | some m => match bnd (some (ρ m)) 0 len with
            | some m => if h ≤ m ∧ hi.isSome then some (l, h) else none
            | none => none
        | none => none
      | none => none
def capz (ρ : Opd → D) (mx : Option Opd) (l : Nat) : Bool := match mx with
      | none => false
      | some m => match asI (ρ m) with
        | some m => m == l
        | none => false

theorem exec_slice (ρ : Opd → D) (sz : Nat) (x : Opd) (lo hi mx : Option Opd) (s : St) : exec ρ (.slice sz x lo hi mx) s = match ρ x with
    | .sl n off len sz' => if sz' = sz then match one1 ρ lo hi mx len with
      | some (l, h) => if capz ρ mx l then some (.e0, s) else if mx.isSome then none else some (.sl n (off + l * sz) (h - l) sz, s)
      | none => none
      else none
    | .lst xs => if (match xs with | [] => true | x :: _ => x.length == sz) then match one1 ρ lo hi mx xs.length with
      | some (l, h) => if capz ρ mx l then some (.e0, s) else if mx.isSome then none else some (.lst ((xs.drop l).take (h - l)), s)
      | none => none
      else none
    | .raw (.slice none 0 0) => match one1 ρ lo hi mx 0 with
      | some _ => some (.raw (.slice none 0 0), s)
      | none => none
    | .e0 => match one1 ρ lo hi mx 0 with
      | some _ => some (.e0, s)
      | none => none
    | _ => none := rfl

/-- The three bounds. -/
theorem bounds_ok (hT : TV w (Xof s.H ι) ι T a.tmps) {lo hi mx : Option Operand} {lo' hi' mx' : Option Opd} (h1 : optOpd lo = some lo') (h2 : optOpd hi = some hi') (h3 : optOpd mx = some mx') {len cap l h : Nat} (hl : len ≤ cap)
    (ho : one1 (evO T) lo' hi' mx' len = some (l, h)) : l ≤ h ∧ h ≤ len ∧ ∃ m, (Instr.sliceBounds true len cap (lo.map a.eval) (hi.map a.eval) (mx.map a.eval)).run P w = .ok (l, h, m) w ∧ h ≤ m ∧ m ≤ cap ∧
      (mx' = none → m = cap) ∧ (∀ q, capz (evO T) mx' q = true → m = q) := by
  unfold one1 at ho
  split at ho
  case h_2 => cases ho
  rename_i hh hhh
  split at ho
  case h_2 => cases ho
  rename_i ll hll
  have hi_ok : hh ≤ len ∧ ∀ (big : Nat) (c : BoundsCode), len ≤ big → ((hi.map a.eval) = none ∧ hh = len) ∨ ∃ v, hi.map a.eval = some v ∧ (Instr.sliceBound v big c).run P w = .ok hh w := by
    rcases optOpd_ok hT h2 with ⟨rfl, rfl⟩ | ⟨p, q, rfl, rfl, hv⟩
    · simp only [Option.map_none, bnd, Option.some.injEq] at hhh
      exact ⟨by omega, fun big c hb => .inl ⟨rfl, hhh.symm⟩⟩
    · simp only [Option.map_some] at hhh
      refine ⟨(bnd_ok (P := P) hv hhh len (Nat.le_refl _) .index).2, fun big c hb => .inr ⟨_, rfl, (bnd_ok hv hhh big hb c).1⟩⟩
  have lo_ok : ll ≤ hh ∧ ∀ (c : BoundsCode), ((lo.map a.eval) = none ∧ ll = 0) ∨ ∃ v, lo.map a.eval = some v ∧ (Instr.sliceBound v hh c).run P w = .ok ll w := by
    rcases optOpd_ok hT h1 with ⟨rfl, rfl⟩ | ⟨p, q, rfl, rfl, hv⟩
    · simp only [Option.map_none, bnd, Option.some.injEq] at hll
      exact ⟨by omega, fun c => .inl ⟨rfl, hll.symm⟩⟩
    · simp only [Option.map_some] at hll
      refine ⟨(bnd_ok (P := P) hv hll hh (Nat.le_refl _) .index).2, fun c => .inr ⟨_, rfl, (bnd_ok hv hll hh (Nat.le_refl _) c).1⟩⟩
  obtain ⟨hi1, hi2⟩ := hi_ok
  obtain ⟨lo1, lo2⟩ := lo_ok
  rcases optOpd_ok hT h3 with ⟨rfl, rfl⟩ | ⟨p, q, rfl, rfl, hv⟩
  · simp only [Option.some.injEq, Prod.mk.injEq] at ho
    obtain ⟨rfl, rfl⟩ := ho
    refine ⟨lo1, hi1, cap, ?_, by omega, Nat.le_refl _, fun _ => rfl, fun q hq => by simp [capz] at hq⟩
    rcases hi2 cap .sliceAcap hl with ⟨e1, e2⟩ | ⟨v, e1, e2⟩ <;> rcases lo2 .sliceB with ⟨g1, g2⟩ | ⟨u, g1, g2⟩ <;>
      (unfold Instr.sliceBounds; rw [e1, g1]; simp [e2, g2] <;> (try rw [← e2]; simp [g2]))
  · simp only at ho
    split at ho
    case h_2 => cases ho
    rename_i mm hmm
    split at ho
    case isFalse => cases ho
    rename_i hc
    simp only [Option.some.injEq, Prod.mk.injEq] at ho
    obtain ⟨rfl, rfl⟩ := ho
    have m_ok := fun c => bnd_ok (P := P) hv hmm cap hl c
    refine ⟨lo1, hi1, mm, ?_, hc.1, by have := (m_ok .index).2; omega, (fun h => by cases h), fun q' hq => ?_⟩
    · have hsome : ∃ v, hi.map a.eval = some v ∧ ∀ c, (Instr.sliceBound v mm c).run P w = .ok hh w := by
        rcases optOpd_ok hT h2 with ⟨rfl, rfl⟩ | ⟨p', q', rfl, rfl, hv'⟩
        · simp at hc
        · refine ⟨_, rfl, fun c => ?_⟩
          simp only [Option.map_some] at hhh
          have hb : bnd (some (evO T q')) len hh = some hh := by
            generalize evO T q' = z at hhh ⊢
            unfold bnd at hhh ⊢
            split at hhh
            · rename_i h0; cases h0
            · rename_i k n h0
              split at hhh
              case isFalse => cases hhh
              rename_i hc'
              simp only [Option.some.injEq] at hhh
              cases h0
              rw [if_pos ⟨hc'.1, by omega⟩, hhh]
            · cases hhh
          exact (bnd_ok hv' hb mm hc.1 c).1
      obtain ⟨v, e1, e2⟩ := hsome
      have m1 := (m_ok .slice3Acap).1
      rcases lo2 .slice3C with ⟨g1, g2⟩ | ⟨u, g1, g2⟩ <;> (unfold Instr.sliceBounds; rw [e1, g1]; simp [e2, g2, m1])
    · simp only [capz] at hq
      unfold bnd at hmm
      split at hmm
      · rename_i h0; cases h0
      · rename_i k n h0
        simp only [Option.some.injEq] at h0
        rw [h0] at hq
        simp only [asI] at hq
        split at hmm
        case isFalse => cases hmm
        simp only [Option.some.injEq] at hmm
        have : n = (q' : Int) := by simpa using hq
        omega
      · cases hmm

theorem did_slice (hT : TV w (Xof s.H ι) ι T a.tmps) (hR : R w s.H ι) (hd : ι s.nx = none) {x : Operand} {x' : Opd} {lo hi mx : Option Operand} {lo' hi' mx' : Option Opd} {t e : TypeId} {sz : Nat}
    (ho : o.op = .slice t x lo hi mx) (hx : opd x = some x') (h1 : optOpd lo = some lo') (h2 : optOpd hi = some hi') (h3 : optOpd mx = some mx')
    (hu : P.underlying t = some (.slice e)) (hs : szT P e = some sz) (he : exec (evO T) (.slice sz x' lo' hi' mx') s = some (d, s')) : Did P w s ι a o d s' := by
  have vx := V_opd hT hx
  have run1 : ∀ (A : Option Addr) (len cap l h m : Nat), a.eval x = .slice A len cap → (Instr.sliceBounds true len cap (lo.map a.eval) (hi.map a.eval) (mx.map a.eval)).run P w = .ok (l, h, m) w →
      (execOp a.eval o).run P w = .ok (.value (.slice (if m = l then A else A.map (·.add (l * sz))) (h - l) (m - l))) w := by
    intro A len cap l h m hq hb
    simp [execOp, ho, hq, Instr.sliceAt, run_under hu, Instr.slice, hb, run_szT hs]
  rw [exec_slice] at he
  split at he
  · rename_i n off len sz' hq
    rw [hq] at vx
    split at he
    case isFalse => cases he
    rename_i hz
    subst hz
    split at he
    case h_2 => cases he
    rename_i l h hone
    generalize hv : a.eval x = v at vx
    cases vx with
    | sl n b base off len sz' cap ad arr ee fr g1 g2 g3 g4 g5 =>
      obtain ⟨k1, k2, m, k3, k4, k5, k6, k7⟩ := bounds_ok (P := P) hT h1 h2 h3 g2 hone
      have hrun := run1 _ _ _ _ _ _ hv k3
      split at he
      · rename_i hcz
        simp only [Option.some.injEq, Prod.mk.injEq] at he
        obtain ⟨rfl, rfl⟩ := he
        have := k7 _ hcz
        subst this
        have hh : h = m := by omega
        subst hh
        refine Did.still hR hd hrun ?_
        simp only [if_true, Nat.sub_self]
        exact .e0 _
      · split at he
        · cases he
        rename_i hmx
        simp only [Option.some.injEq, Prod.mk.injEq] at he
        obtain ⟨rfl, rfl⟩ := he
        have hm : m = cap := k6 (by cases mx' <;> simp_all)
        subst hm
        refine Did.still hR hd hrun ?_
        have hle : base + (off + l * sz') + (m - l) * sz' ≤ arr.size := by
          have : l * sz' + (m - l) * sz' = m * sz' := by rw [← Nat.add_mul]; congr 1; omega
          omega
        by_cases hml : m = l
        · rw [if_pos hml]
          exact .sl n b base _ _ sz' _ ad arr ee fr g1 (by omega) g3 hle (.inr (by omega))
        · rw [if_neg hml]
          rcases g5 with rfl | g5
          case inr => omega
          simp only [Option.map_some, add_at]
          exact .sl n b base _ _ sz' _ _ arr ee fr g1 (by omega) g3 hle (.inl (by rw [Nat.add_assoc]))
  · rename_i xs hq
    rw [hq] at vx
    have hz : ∀ y ys, xs = y :: ys → y.length = sz := by
      intro y ys hxy
      subst hxy
      simp only at he
      split at he
      · rename_i hz; simpa using hz
      · cases he
    have he : (match one1 (evO T) lo' hi' mx' xs.length with
      | some (l, h) => if capz (evO T) mx' l then some (.e0, s) else if mx'.isSome then none else some (.lst ((xs.drop l).take (h - l)), s)
      | none => none) = some (d, s') := by
      cases xs with
      | nil => simpa using he
      | cons y ys => simpa [hz y ys rfl] using he
    split at he
    case h_2 => cases he
    rename_i l h hone
    generalize hv : a.eval x = v at vx
    cases vx with
    | lst xs A ad n cap sz' u hn hcap hA hsp hz' hc hx' hvv =>
      subst hn
      obtain ⟨k1, k2, m, k3, k4, k5, k6, k7⟩ := bounds_ok (P := P) hT h1 h2 h3 hcap hone
      have hrun := run1 _ _ _ _ _ _ hv k3
      split at he
      · rename_i hcz
        simp only [Option.some.injEq, Prod.mk.injEq] at he
        obtain ⟨rfl, rfl⟩ := he
        have := k7 _ hcz
        subst this
        have hh : h = m := by omega
        subst hh
        refine Did.still hR hd hrun ?_
        simp only [if_true, Nat.sub_self]
        exact .e0 _
      · split at he
        · cases he
        rename_i hmx
        simp only [Option.some.injEq, Prod.mk.injEq] at he
        obtain ⟨rfl, rfl⟩ := he
        have hm : m = cap := k6 (by cases mx' <;> simp_all)
        subst hm
        refine Did.still hR hd hrun ?_
        have hlen : ((xs.drop l).take (h - l)).length = h - l := by rw [List.length_take, List.length_drop]; omega
        rcases Nat.eq_zero_or_pos (h - l) with h0 | h0
        · have he : (xs.drop l).take (h - l) = [] := List.eq_nil_of_length_eq_zero (by omega)
          rw [he]
          exact .lst [] _ ⟨0, 0, none⟩ (h - l) (m - l) 0 (fun _ _ => undef) (by simpa using h0) (by omega) (.inr rfl) rfl (fun i hi => absurd hi (Nat.not_lt_zero _)) (fun i j hi => absurd hi (Nat.not_lt_zero _)) (fun i j hi => absurd hi (Nat.not_lt_zero _)) (fun i j hi => absurd hi (Nat.not_lt_zero _))
        · rw [if_neg (by omega)]
          rcases hA with rfl | hA
          case inr => subst hA; simp at k2; omega
          have hszz : sz' = sz := by
            cases xs with
            | nil => simp at k2; omega
            | cons y ys =>
              have := hz' 0 (by simp)
              simp only [List.getD_cons_zero] at this
              have := hz y ys rfl
              omega
          subst hszz
          simp only [Option.map_some, add_sp hsp]
          have hget : ∀ i, i < h - l → ((xs.drop l).take (h - l)).getD i [] = xs.getD (l + i) [] := by
            intro i hi
            simp [List.getD_eq_getElem?_getD, List.getElem?_take, hi]
          refine .lst _ _ ⟨ad.block, ad.off + l * sz', none⟩ _ _ sz' (fun i j => u (l + i) j) hlen.symm (by omega) (.inl rfl) rfl ?_ ?_ ?_ ?_
          · intro i hi
            rw [hlen] at hi
            rw [hget i hi]
            exact hz' _ (by omega)
          · intro i j hi hj
            rw [hlen] at hi
            have := hc (l + i) j (by omega) hj
            simp only
            rwa [show ad.off + l * sz' + i * sz' + j = ad.off + (l + i) * sz' + j by rw [Nat.add_mul]; omega]
          · intro i j hi hj
            rw [hlen] at hi
            have := hx' (l + i) j (by omega) hj
            simp only
            rwa [show ad.off + l * sz' + i * sz' + j = ad.off + (l + i) * sz' + j by rw [Nat.add_mul]; omega]
          · intro i j hi hj
            rw [hlen] at hi
            rw [hget i hi]
            exact hvv (l + i) j (by omega) hj
  · rename_i hq
    rw [hq] at vx
    have qx := V_raw vx
    split at he
    case h_2 => cases he
    rename_i r hone
    obtain ⟨l, h⟩ := r
    simp only [Option.some.injEq, Prod.mk.injEq] at he
    obtain ⟨rfl, rfl⟩ := he
    obtain ⟨k1, k2, m, k3, k4, k5, k6, k7⟩ := bounds_ok (P := P) hT h1 h2 h3 (Nat.le_refl 0) hone
    have hrun := run1 _ _ _ _ _ _ qx k3
    refine Did.still hR hd hrun ?_
    have : h = 0 := by omega
    have : l = 0 := by omega
    have : m = 0 := by omega
    subst_vars
    simp only [if_true]
    exact .raw _
  · rename_i hq
    rw [hq] at vx
    split at he
    case h_2 => cases he
    rename_i r hone
    obtain ⟨l, h⟩ := r
    simp only [Option.some.injEq, Prod.mk.injEq] at he
    obtain ⟨rfl, rfl⟩ := he
    obtain ⟨k1, k2, m, k3, k4, k5, k6, k7⟩ := bounds_ok (P := P) hT h1 h2 h3 (Nat.le_refl 0) hone
    generalize hv : a.eval x = v at vx
    cases vx with
    | e0 A =>
      have hrun := run1 _ _ _ _ _ _ hv k3
      refine Did.still hR hd hrun ?_
      have : h = 0 := by omega
      have : l = 0 := by omega
      have : m = 0 := by omega
      subst_vars
      simp only [if_true]
      exact .e0 _
  · cases he
end
end Go.Ai
