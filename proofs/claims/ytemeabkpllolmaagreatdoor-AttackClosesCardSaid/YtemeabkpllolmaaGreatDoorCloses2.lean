/-
  A part of the walk through the law: what its functions compute. Conditions: none beyond the statement.
-/
import Derived.Test.YtemeabkpllolmaaGreatDoorCloses1
set_option maxRecDepth 100000
set_option maxHeartbeats 4000000
set_option linter.unusedVariables false
set_option linter.unusedSimpArgs false
namespace K36
open Go Go.Ai

theorem view_ownN {H : Heap} {lo nx e k : Nat} {X : D} {L : List Int} (hX : Own H lo nx e X (L.map I64)) (hk : L.length + 5 < k) : ∃ H1, view k X H = some (intL L, H1) ∧ ∀ b, nameOf X ≠ some b → lk H1 b = lk H b := by
  obtain ⟨k, rfl⟩ : ∃ j, k = j + 1 := ⟨k - 1, by omega⟩
  rcases hX with ⟨h1, rfl⟩ | ⟨w, rfl, h1, h2, h3⟩
  · have : L = [] := by simpa using h1
    subst this
    exact ⟨H, rfl, fun _ _ => rfl⟩
  · refine ⟨upd H w (.cells (L.map I64) e (max 0 (0 + (L.map I64).length * 1))), ?_, fun b hb => by rw [lk_upd, if_neg (fun e => hb (by rw [e]; rfl))]⟩
    have h4 : 0 + (L.map I64).length * 1 ≤ (L.map I64).length := by omega
    have h5 : ((L.map I64).drop 0).take ((L.map I64).length * 1) = L.map I64 := by
      rw [List.drop_zero, Nat.mul_one]
      exact List.take_of_length_le (Nat.le_refl _)
    simp only [view, h3, if_pos h4, h5]
    rw [viewL_intsH _ L _ (by omega)]
    simp only [chunks_one (α := Unit), List.map_map]
    rfl
theorem viewL_c {k : Nat} {d d' : D} {ds l : List D} {H H1 H2 : Heap} (h1 : view k d H = some (d', H1)) (h2 : viewL k ds H1 = some (l, H2)) : viewL (k + 1) (d :: ds) H = some (d' :: l, H2) := by
  simp only [viewL, h1, h2]
theorem view_q {q : Qry} {w : Int} {H : Heap} {lo nx e : Nat} {X : D} {L : List Int} (hX : Own H lo nx e X (L.map I64)) (hl : L.length < 900000) : ∃ H1, viewL fuelV [q.enc, I64 w, X] H = some ([q.enc, I64 w, intL L], H1) ∧ ∀ b, nameOf X ≠ some b → lk H1 b = lk H b := by
  obtain ⟨H1, h1, h2⟩ := view_ownN (k := 999997) hX (by omega)
  exact ⟨H1, viewL_c (k := 999999) rfl (viewL_c (k := 999998) rfl (viewL_c (k := 999997) h1 rfl)), h2⟩
theorem elems_intL (H : Heap) (l : List Int) : elems H 1 (intL l) = some (l.map I64, (l.map I64).length) := by
  simp only [intL, Ai.elems]
  rw [if_pos (by simp)]
  simp only [List.length_map, Option.some.injEq, Prod.mk.injEq, and_true]
  induction l with
  | nil => rfl
  | cons a t ih => simp only [List.map_cons, List.flatten_cons, ih, List.singleton_append]

section
variable {cl : Cl} {Q : Ex × List D → St → Prop}
theorem e_bs0 {nm k e lo : Nat} {z : D} {af : List Nat} {T : List D} {E : Env} {nt : Nat} {H : Heap} {nx ro : Nat} {K : List D → St → Prop} (hT : T.length = nt) (hE : envOf T = E) (hk : Nat.blt k nt = true) (hz : one z = true) (hlo : lo ≤ nm) (hn : nm < nx)
    (h : ∀ (X' : D) (H' : Heap) (T' : List D), Own H' lo nx e X' [] → (∀ m, m < lo → lk H' m = lk H m) → T'.length = nt → envOf T' = put E k X' → K T' ⟨H', nx, ro⟩) : stepD cl nm ⟨some k, .bslice e 1 0 [z] [], none, af⟩ T Q K ⟨H, nx, ro⟩ := by
  have h1 := h (.sl nm 0 0 1) (norm ((nm, .cells [] e 0) :: H)) _ (Or.inr ⟨nm, rfl, hlo, hn, by rw [lk_norm]; exact lk_here _ _ _⟩) (fun m hm => by rw [lk_norm, lk_there _ _ (by omega)]) (env_set hT hE hk _).1 (env_set hT hE hk _).2
  have he : exec (evO T) (.bslice e 1 0 [z] []) ⟨H, nm, ro⟩ = some (.sl nm 0 0 1, ⟨(nm, .cells [] e 0) :: H, nm + 1, ro⟩) := by simp [exec, fill, repZ, new, hz]
  have h4 : isCall (I.bslice e 1 0 [z] []) = false := rfl
  have h5 : readI (I.bslice e 1 0 [z] []) = false := rfl
  simp only [stepD, wants, if_true, opD, h4, h5, Bool.or_self, Bool.false_eq_true, if_false]
  rw [he]
  exact h1
theorem e_app {nm k e b lo : Nat} {x y : Opd} {X Y : D} {cs ys : List D} {af : List Nat} {T : List D} {E : Env} {nt : Nat} {H : Heap} {nx ro : Nat} {K : List D → St → Prop} (hT : T.length = nt) (hE : envOf T = E) (hk : Nat.blt k nt = true) (hx : evF E x = X) (hX : Own H lo nx e X cs) (hy : evF E y = Y) (hys : elems H 1 Y = some (ys, ys.length)) (ho : ys.all one = true) (hlo : lo ≤ nm) (hn : nm < nx) (hr : ro ≤ lo)
    (hb : (cs.length + ys.length) * b ≤ 2 ^ 47) (hb2 : cs.length + ys.length ≤ 2 ^ 47)
    (h : ∀ (X' : D) (H' : Heap) (T' : List D), Own H' lo nx e X' (cs ++ ys) → (∀ m, m < lo → lk H' m = lk H m) → T'.length = nt → envOf T' = put E k X' → K T' ⟨H', nx, ro⟩) : stepD cl nm ⟨some k, .append e 1 b x y, none, af⟩ T Q K ⟨H, nx, ro⟩ := by
  have hx' : evO T x = X := by rw [evO_E hE]; exact hx
  have hy' : evO T y = Y := by rw [evO_E hE]; exact hy
  have go : ∀ (X' : D) (H' : Heap), exec (evO T) (.append e 1 b x y) ⟨H, nm, ro⟩ = some (X', ⟨H', nm, ro⟩) ∨ exec (evO T) (.append e 1 b x y) ⟨H, nm, ro⟩ = some (X', ⟨H', nm + 1, ro⟩) → Own (norm H') lo nx e X' (cs ++ ys) → (∀ m, m < lo → lk H' m = lk H m) → stepD cl nm ⟨some k, .append e 1 b x y, none, af⟩ T Q K ⟨H, nx, ro⟩ := by
    intro X' H' he h1 h2
    have h3 := h X' (norm H') _ h1 (fun m hm => by rw [lk_norm]; exact h2 m hm) (env_set hT hE hk _).1 (env_set hT hE hk _).2
    have h4 : isCall (I.append e 1 b x y) = false := rfl
    have h5 : readI (I.append e 1 b x y) = false := rfl
    simp only [stepD, wants, if_true, opD, h4, h5, Bool.or_self, Bool.false_eq_true, if_false]
    rcases he with he | he
    · rw [he]; exact h3
    · rw [he]; exact h3
  by_cases h0 : ys.length = 0
  · have hnil : ys = [] := List.eq_nil_of_length_eq_zero h0
    subst hnil
    refine go X H (Or.inl ?_) (by rw [List.append_nil]; exact hX.step (Nat.le_refl _) fun m _ _ => lk_norm _ _) (fun _ _ => rfl)
    simp only [exec, hy', hys, hx']
    rcases hX with ⟨rfl, rfl⟩ | ⟨w, rfl, -⟩ <;> rfl
  · rcases hX with ⟨rfl, rfl⟩ | ⟨w, rfl, h1, h2, h3⟩
    · refine go (.sl nm 0 ys.length 1) ((nm, .cells ys e 0) :: H) (Or.inr ?_) (Or.inr ⟨nm, by rfl, hlo, hn, by rw [lk_norm]; exact lk_here _ _ _⟩) (fun m hm => by rw [lk_there _ _ (by omega)])
      simp only [exec, hy', hys, hx', if_neg h0]
      simp only [List.length_nil, Nat.zero_add] at hb hb2
      simp [hb, hb2, ho, new]
    · refine go (.sl nm 0 (cs.length + ys.length) 1) ((nm, .cells (cs.drop 0 ++ ys) e (0 - 0)) :: rm H w) (Or.inr ?_) (Or.inr ⟨nm, by rw [List.length_append], hlo, hn, by rw [lk_norm]; exact lk_here _ _ _⟩) (fun m hm => by rw [lk_there _ _ (by omega), lk_rm, if_neg (by omega)])
      simp only [exec, hy', hys, hx', if_neg h0, h3]
      have hrw : ro ≤ w := by omega
      simp [hb, hb2, ho, new, hrw]
end

def opsC : IC → List IOp
  | .draw ops => ops
  | _ => []
def closD : IC := fstC (sndC (sndC (sndC (sndC (sndC c6)))))

/-- The closure of both lists together. -/
theorem closDraw {cl : Cl} (hm : MonoQ cl) (hle : LeCl (callL ir) cl) (hc : Closed irX cl) (hsort : Sorts cl) (q : Qry) (hq0 : q.Fits) (hok : q.ok = true) (w : Int) (f : Nat) (hwf : ∀ i : Nat, i < q.atoms.length → ((i : Int) = w ↔ i = f)) (one two : List Int) (h1 : one.length ≤ 60) (h2 : two.length ≤ 60) (hin : q.inside (one ++ two))
    {E : Env} {H : Heap} {nx : Nat} {da : D} {Q : Ex × Env → St → Prop} (hE : Agree E [(1, I64 w), (2, intL one), (3, intL two), (4, .ref 0 0), (9, B true), (12, da)]) (hq : lk H 0 = some (.cells q.cells 25 0)) (hnx : 0 < nx)
    (hQ : ∀ E' H' n' db L, IL db L → SetOf L (Cls q f (one ++ two)) → Agree E' [(1, I64 w), (2, intL one), (3, intL two), (4, .ref 0 0), (9, B true), (12, da), (13, db)] → nx ≤ n' → lk H' 0 = some (.cells q.cells 25 0) → Q (.nrm, E') ⟨H', n', 0⟩) : CodeR cl 135 closD E ⟨H, nx, 0⟩ Q := by
  obtain ⟨E0, rfl⟩ : ∃ E0, E = puts E0 _ := ⟨_, puts_ex hE⟩
  clear hE
  show CodeR cl 135 (.draw (opsC closD)) _ _ _
  refine ⟨fun T hT hE => ?_⟩
  show drawM cl nx (opsC closD) 9 [false, false, false, false, false, false, false, false, false] T ⟨H, nx + 9, 0⟩ _
  have fin : ∀ (T : List D) (E' : Env) (H' : Heap) (X : D), T.length = 135 → envOf T = E' → Agree E' [(1, I64 w), (2, intL one), (3, intL two), (4, .ref 0 0), (9, B true), (12, da), (73, q.enc), (74, I64 w), (79, X)] → Own H' nx (nx + 9) 3 X ((one ++ two).map I64) → lk H' 0 = some (.cells q.cells 25 0) →
      drawM cl nx (opsC closD) 2 [true, true, true, true, true, true, true, false, false] T ⟨H', nx + 9, 0⟩ fun r s' => Q (r.1, envOf r.2) s' := by
    intro T E' H' X hT hE hAg hX hq'
    obtain ⟨E0, rfl⟩ : ∃ E0, E' = puts E0 _ := ⟨_, puts_ex hAg⟩
    clear hAg
    obtain ⟨H1, hv, hf⟩ := view_q (q := q) (w := w) hX (by rw [List.length_append]; omega)
    refine d_one 7 rfl (by decide) ?_
    refine e_call (P := fun d s' => (∃ L, IL d L ∧ SetOf L (Cls q f (one ++ two))) ∧ FrV ⟨H', nx + 9, 0⟩ H1 s') (args := [q.enc, I64 w, X]) hm hT hE rfl rfl (hm _ _ _ _ _ (fun o s' ho => ?_) (clos23 hm hle hc hsort q hq0 w f hwf (one ++ two) (by rw [List.length_append]; omega) _ hv)) ?_
    · obtain ⟨d', g1, ⟨L, g2, g3⟩, g4⟩ := ho
      refine ⟨d', g1, ⟨L, g2, ?_⟩, g4⟩
      rcases g3 with ⟨-, -, g5⟩ | ⟨g5, -⟩
      · exact g5
      · exact absurd ⟨hok, hin⟩ g5
    · rintro db ⟨H2, n2, ro2⟩ T ⟨⟨L, hil, hsl⟩, f1, f2, f3⟩ hT hE
      dsimp only at f1 f2 f3
      subst f1
      refine e_pure hm hT hE 8 [] rfl rfl rfl rfl rfl (fun _ => rfl) (fun T hT hE => ?_)
      refine d_end rfl ?_
      show Q (Ex.nrm, envOf T) _
      rw [hE]
      refine hQ _ _ _ db L hil hsl ⟨rfl, rfl, rfl, rfl, rfl, rfl, rfl, trivial⟩ (by omega) ?_
      rcases f3 with rfl | f3
      · exact hq'
      · rw [f3 0 (by omega), hf 0 (hX.low hnx)]
        exact hq'
  have eln : ([] ++ one.map I64).length = one.length := by simp
  refine e_pure hm hT hE 1 [7, 8] rfl rfl rfl rfl rfl (fun _ => rfl) (fun T hT hE => ?_)
  refine e_pure hm hT hE 3 [4, 6, 7, 8] rfl rfl rfl rfl rfl (fun _ => rfl) (fun T hT hE => ?_)
  refine e_pure hm hT hE 5 [6, 7, 8] rfl rfl rfl rfl rfl (fun _ => rfl) (fun T hT hE => ?_)
  refine d_two 0 2 rfl (by decide) (by decide) ?_ ?_
  · refine e_ld hT hE rfl rfl hq (by rfl) (fun T hT hE => ?_)
    refine d_one 2 rfl (by decide) ?_
    refine e_bs0 (lo := nx) hT hE rfl rfl (by omega) (by omega) (fun X1 H1 T hX1 g1 hT hE => ?_)
    refine d_one 4 rfl (by decide) ?_
    refine e_app (lo := nx) (X := X1) (Y := intL one) hT hE rfl rfl hX1 rfl (elems_intL _ _) (ones_ints _) (by omega) (by omega) (by omega) (by simp only [List.length_map, List.length_nil]; omega) (by simp only [List.length_map, List.length_nil]; omega) (fun X2 H2 T hX2 g2 hT hE => ?_)
    refine d_one 6 rfl (by decide) ?_
    refine e_app (lo := nx) (X := X2) (Y := intL two) hT hE rfl rfl hX2 rfl (elems_intL _ _) (ones_ints _) (by omega) (by omega) (by omega) (by rw [eln, List.length_map]; omega) (by rw [eln, List.length_map]; omega) (fun X3 H3 T hX3 g3 hT hE => ?_)
    exact fin T _ H3 X3 hT hE ⟨rfl, rfl, rfl, rfl, rfl, rfl, rfl, rfl, rfl, trivial⟩ (by rw [List.map_append]; exact hX3) (by rw [g3 0 hnx, g2 0 hnx, g1 0 hnx]; exact hq)
  · refine e_bs0 (lo := nx) hT hE rfl rfl (by omega) (by omega) (fun X1 H1 T hX1 g1 hT hE => ?_)
    have hq1 : lk H1 0 = some (.cells q.cells 25 0) := by rw [g1 0 hnx]; exact hq
    refine d_two 0 4 rfl (by decide) (by decide) ?_ ?_
    · refine e_ld hT hE rfl rfl hq1 (by rfl) (fun T hT hE => ?_)
      refine d_one 4 rfl (by decide) ?_
      refine e_app (lo := nx) (X := X1) (Y := intL one) hT hE rfl rfl hX1 rfl (elems_intL _ _) (ones_ints _) (by omega) (by omega) (by omega) (by simp only [List.length_map, List.length_nil]; omega) (by simp only [List.length_map, List.length_nil]; omega) (fun X2 H2 T hX2 g2 hT hE => ?_)
      refine d_one 6 rfl (by decide) ?_
      refine e_app (lo := nx) (X := X2) (Y := intL two) hT hE rfl rfl hX2 rfl (elems_intL _ _) (ones_ints _) (by omega) (by omega) (by omega) (by rw [eln, List.length_map]; omega) (by rw [eln, List.length_map]; omega) (fun X3 H3 T hX3 g3 hT hE => ?_)
      exact fin T _ H3 X3 hT hE ⟨rfl, rfl, rfl, rfl, rfl, rfl, rfl, rfl, rfl, trivial⟩ (by rw [List.map_append]; exact hX3) (by rw [g3 0 hnx, g2 0 hnx]; exact hq1)
    · refine e_app (lo := nx) (X := X1) (Y := intL one) hT hE rfl rfl hX1 rfl (elems_intL _ _) (ones_ints _) (by omega) (by omega) (by omega) (by simp only [List.length_map, List.length_nil]; omega) (by simp only [List.length_map, List.length_nil]; omega) (fun X2 H2 T hX2 g2 hT hE => ?_)
      have hq2 : lk H2 0 = some (.cells q.cells 25 0) := by rw [g2 0 hnx]; exact hq1
      refine d_two 0 6 rfl (by decide) (by decide) ?_ ?_
      · refine e_ld hT hE rfl rfl hq2 (by rfl) (fun T hT hE => ?_)
        refine d_one 6 rfl (by decide) ?_
        refine e_app (lo := nx) (X := X2) (Y := intL two) hT hE rfl rfl hX2 rfl (elems_intL _ _) (ones_ints _) (by omega) (by omega) (by omega) (by rw [eln, List.length_map]; omega) (by rw [eln, List.length_map]; omega) (fun X3 H3 T hX3 g3 hT hE => ?_)
        exact fin T _ H3 X3 hT hE ⟨rfl, rfl, rfl, rfl, rfl, rfl, rfl, rfl, rfl, trivial⟩ (by rw [List.map_append]; exact hX3) (by rw [g3 0 hnx]; exact hq2)
      · refine e_app (lo := nx) (X := X2) (Y := intL two) hT hE rfl rfl hX2 rfl (elems_intL _ _) (ones_ints _) (by omega) (by omega) (by omega) (by rw [eln, List.length_map]; omega) (by rw [eln, List.length_map]; omega) (fun X3 H3 T hX3 g3 hT hE => ?_)
        have hq3 : lk H3 0 = some (.cells q.cells 25 0) := by rw [g3 0 hnx]; exact hq2
        refine d_one 0 rfl (by decide) ?_
        refine e_ld hT hE rfl rfl hq3 (by rfl) (fun T hT hE => ?_)
        exact fin T _ H3 X3 hT hE ⟨rfl, rfl, rfl, rfl, rfl, rfl, rfl, rfl, rfl, trivial⟩ (by rw [List.map_append]; exact hX3) hq3
end K36
