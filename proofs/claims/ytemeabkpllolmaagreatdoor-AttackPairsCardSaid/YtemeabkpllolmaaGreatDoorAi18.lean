/-
  A part of an interpreter over abstract data, proved sound once for the model: what it says of the code, the machine does in every order. Conditions: none beyond the statement.
-/
import Derived.Test.YtemeabkpllolmaaGreatDoorAi17
import Derived.Scope
/-! Whole code. -/
set_option linter.unusedVariables false
set_option linter.unusedSimpArgs false
namespace Go.Ai
section
variable {P : Program}

theorem PostC.mk {Q Q' : Ex × List D → St → Prop} {w w' : World} {s s' : St} {ι ι' : Imap} {x : Ex} {e : Exit} {T' : List D} {a' : Act} (hdf : a'.defers = []) (hq : Q (x, T') s') (hg : Good w w' s s' ι ι') (hd : Dom ι' s'.nx)
    (ht : TVx w' (Xof s'.H ι') ι' x T' a'.tmps) (hx : ExR w' (Xof s'.H ι') ι' x e) : PostC Q w s ι e a' w' :=
  ⟨hdf, x, T', s', ι', hq, hg, hd, ht, hx⟩

theorem opd_bool {w : World} {X : Nat → Nat → Prop} {ι : Imap} {T : List D} {a : Act} (ht : TV w X ι T a.tmps) {x : Operand} {y : Opd} (h : opd x = some y) {b : Bool} (he : evO T y = .raw (.bool b)) : a.eval x = .bool b := by
  have := V_opd ht h
  rw [he] at this
  generalize a.eval x = v at this
  cases this
  rfl

theorem code_sim (hfo : P.follows .mixedOrders = true) : ∀ (c : Code) (ic : IC), compC P c = some ic → ∀ (Q : Ex × List D → St → Prop) (T : List D) (a : Act) (w : World) (s : St) (ι : Imap), Sim w s ι T a →
    codeM (simC P) ic T s Q → c.wp P (PostC Q w s ι) a w := by
  intro c
  induction c with
  | skip =>
    intro ic hc Q T a w s ι hs h
    simp only [compC, Option.some.injEq] at hc
    subst hc
    exact wp_skip (PostC.mk (Q' := Q) hs.df h (Good.refl hs.r) hs.dom hs.tv trivial)
  | region id ops draw =>
    intro ic hc Q T a w s ι hs h
    simp only [compC, Option.map_eq_some_iff] at hc
    obtain ⟨ios, h1, rfl⟩ := hc
    have hm := match_of h1
    cases draw with
    | true =>
      cases hq : quietOrder ios with
      | none =>
        simp only [hq, if_true] at h
        exact region_draw_sim hfo hm hs h
      | some l =>
        simp only [hq, if_true] at h
        exact region_quiet_sim hfo hm hq hs h
    | false =>
      refine wp_region (ops_sim _ ios (by rw [List.length_range]; exact hm.len) (fun j hj => ?_) w s ι T a hs h)
      rw [List.length_range] at hj
      obtain ⟨io, g1, g2⟩ := hm.get j ops[j] (by simp [hj])
      exact ⟨j, ops[j], io, by simp [hj], by simp [hj], g1, g2⟩
  | seq x y ihx ihy =>
    intro ic hc Q T a w s ι hs h
    simp only [compC] at hc
    split at hc
    case h_2 => cases hc
    rename_i ix iy hx hy
    simp only [Option.some.injEq] at hc
    subst hc
    refine wp_seq (wp_mono (ihx ix hx _ T a w s ι hs h) ?_)
    rintro e a' w' ⟨hdf, x, T', s', ι', hq, hg, hd, ht, hxe⟩
    cases x <;> cases e <;> first | exact hxe.elim | skip
    · exact wp_mono (ihy iy hy Q T' a' w' s' ι' ⟨ht, hg.r, hd, hdf⟩ hq) fun e a w => PostC.trans hg
    · exact PostC.mk (Q' := Q) hdf hq hg hd ht hxe
    · exact PostC.mk (Q' := Q) hdf hq hg hd ht hxe
    · exact PostC.mk (Q' := Q) hdf hq hg hd ht hxe
  | cond o x y ihx ihy =>
    intro ic hc Q T a w s ι hs h
    simp only [compC] at hc
    split at hc
    case h_2 => cases hc
    rename_i oc ix iy ho hx hy
    simp only [Option.some.injEq] at hc
    subst hc
    simp only [codeM] at h
    split at h
    · rename_i he
      exact wp_cond_true (opd_bool hs.tv ho he) (ihx ix hx Q T a w s ι hs h)
    · rename_i he
      exact wp_cond_false (opd_bool hs.tv ho he) (ihy iy hy Q T a w s ι hs h)
    · exact h.elim
  | block id x ih =>
    intro ic hc Q T a w s ι hs h
    simp only [compC, Option.map_eq_some_iff] at hc
    obtain ⟨ix, hx, rfl⟩ := hc
    refine wp_block (wp_mono (ih ix hx _ T a w s ι hs h) ?_)
    rintro e a' w' ⟨hdf, x, T', s', ι', hq, hg, hd, ht, hxe⟩
    cases x <;> cases e <;> first | exact hxe.elim | skip
    · exact PostC.mk (Q' := Q) hdf hq hg hd ht hxe
    · rename_i i j
      have hij : i = j := hxe
      subst hij
      dsimp only at hq
      simp only [Exit.inBlock]
      by_cases hi : i = id
      · rw [if_pos hi] at hq ⊢
        exact PostC.mk (Q' := Q) hdf hq hg hd ht trivial
      · rw [if_neg hi] at hq ⊢
        exact PostC.mk (Q' := Q) hdf hq hg hd ht hxe
    · exact PostC.mk (Q' := Q) hdf hq hg hd ht hxe
    · exact PostC.mk (Q' := Q) hdf hq hg hd ht hxe
  | loop x ih =>
    intro ic hc Q T a w s ι hs h
    simp only [compC, Option.map_eq_some_iff] at hc
    obtain ⟨ix, hx, rfl⟩ := hc
    have key := h (fun T s => ∀ (w : World) (ι : Imap) (a : Act), Sim w s ι T a → ∀ (b : Frame) (k : List Item) (cs : List Frame), ∃ e a' w', PostC Q w s ι e a' w' ∧ Arrives P (lone (b.at a (.code x :: .inLoop x :: k)) cs w) b k cs e a' w') ?_
    · intro b k cs
      obtain ⟨e, a', w', hq, harr⟩ := key w ι a hs b k cs
      exact ⟨e, a', w', hq, .of_steps (.one step_loop) harr⟩
    · intro T s hb w ι a hs b k cs
      obtain ⟨e, a1, w1, hq1, harr⟩ := ih ix hx _ T a w s ι hs hb b (.inLoop x :: k) cs
      obtain ⟨hdf, xx, T', s', ι', hq, hg, hd, ht, hxe⟩ := hq1
      cases xx <;> cases e <;> first | exact hxe.elim | skip
      · obtain ⟨e2, a2, w2, hq2, harr2⟩ := hq w1 ι' a1 ⟨ht, hg.r, hd, hdf⟩ b k cs
        exact ⟨e2, a2, w2, PostC.trans hg hq2, .of_steps (Steps.trans harr (.one step_inLoop)) harr2⟩
      · exact ⟨_, a1, w1, PostC.mk (Q' := Q) hdf hq hg hd ht hxe, .pass (x := .inLoop x) rfl (fun _ _ => .inl (by simp)) harr⟩
      · exact ⟨_, a1, w1, PostC.mk (Q' := Q) hdf hq hg hd ht hxe, .pass (x := .inLoop x) rfl (fun _ _ => .inl (by simp)) harr⟩
      · exact ⟨_, a1, w1, PostC.mk (Q' := Q) hdf hq hg hd ht hxe, .pass (x := .inLoop x) rfl (fun _ _ => .inl (by simp)) harr⟩
  | scope x ih =>
    intro ic hc Q T a w s ι hs h
    simp only [compC, Option.map_eq_some_iff] at hc
    obtain ⟨ix, hx, rfl⟩ := hc
    refine wp_scope_straight (wp_mono (ih ix hx Q T a w s ι hs h) ?_)
    rintro e a' w' ⟨hdf, x, T', s', ι', hq, hg, hd, ht, hxe⟩
    cases x <;> cases e <;> first | exact hxe.elim | exact PostC.mk (Q' := Q) hdf hq hg hd ht hxe
  | exit id =>
    intro ic hc Q T a w s ι hs h
    simp only [compC, Option.some.injEq] at hc
    subst hc
    exact wp_exit (PostC.mk (Q' := Q) hs.df h (Good.refl hs.r) hs.dom hs.tv rfl)
  | ret =>
    intro ic hc Q T a w s ι hs h
    simp only [compC, Option.some.injEq] at hc
    subst hc
    exact wp_ret (PostC.mk (Q' := Q) hs.df h (Good.refl hs.r) hs.dom hs.tv trivial)
  | _ =>
    intro ic hc
    simp [compC] at hc
end
end Go.Ai
