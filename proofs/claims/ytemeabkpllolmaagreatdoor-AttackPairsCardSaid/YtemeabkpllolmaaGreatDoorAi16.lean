/-
  A part of an interpreter over abstract data, proved sound once for the model: what it says of the code, the machine does in every order. Conditions: none beyond the statement.
-/
import Derived.Test.YtemeabkpllolmaaGreatDoorAi15
/-! Regions, plain and drawn. -/
set_option linter.unusedVariables false
set_option linter.unusedSimpArgs false
namespace Go.Ai

theorem lk_ins (p : Nat × Obj) (H : Heap) (n : Nat) : lk (ins p H) n = lk (p :: H) n := by
  induction H with
  | nil => rfl
  | cons q t ih =>
    obtain ⟨k, ob⟩ := p
    obtain ⟨k', ob'⟩ := q
    simp only [ins]
    cases hb : Nat.blt k k' with
    | false => rfl
    | true =>
      have hlt : k < k' := by simpa using hb
      simp only [cond_true, lk_cons, ih]
      by_cases h1 : n = k' <;> by_cases h2 : n = k
      · omega
      · simp [h1, h2]
        intro h; omega
      · simp [h1, h2]
        intro h; omega
      · simp [h1, h2]
theorem lk_norm (H : Heap) (n : Nat) : lk (norm H) n = lk H n := by
  cases H with
  | nil => rfl
  | cons p t => exact lk_ins p t n

theorem exec_nx {ρ : Opd → D} {i : I} {s s' : St} {d : D} (h : exec ρ i s = some (d, s')) : s'.nx ≤ s.nx + 1 := by
  unfold exec at h
  repeat' split at h
  all_goals first
    | (cases h; done)
    | (simp only [Option.some.injEq, Prod.mk.injEq] at h; obtain ⟨-, rfl⟩ := h; first | exact Nat.le_succ _ | exact Nat.le_refl _)
    | (simp only [Option.map_eq_some_iff, Prod.mk.injEq] at h; obtain ⟨_, _, -, rfl⟩ := h; exact Nat.le_succ _)
    | (dsimp only at h
       repeat' split at h
       all_goals first
         | (cases h; done)
         | (simp only [Option.some.injEq, Prod.mk.injEq] at h; obtain ⟨-, rfl⟩ := h; exact Nat.le_succ _))

theorem Xof_congr {H H' : Heap} (h : ∀ n, lk H' n = lk H n) (ι : Imap) : Xof H' ι = Xof H ι := by
  funext b o
  simp only [Xof, h]
theorem R_congr {w : World} {H H' : Heap} {ι : Imap} (h : ∀ n, lk H' n = lk H n) (hR : R w H ι) : R w H' ι :=
  ⟨fun n o ho => by
    obtain ⟨b, base, h1, h2⟩ := hR.obj n o (by rw [← h]; exact ho)
    exact ⟨b, base, h1, by rw [Xof_congr h]; exact h2⟩,
  fun n m o o' b base base' h1 h2 h3 h4 => hR.inj n m o o' b base base' (by rw [← h]; exact h1) (by rw [← h]; exact h2) h3 h4, hR.low⟩

structure Sim (w : World) (s : St) (ι : Imap) (T : List D) (a : Act) : Prop where
  tv : TV w (Xof s.H ι) ι T a.tmps
  r : R w s.H ι
  dom : Dom ι s.nx
  df : a.defers = []

def ExR (w : World) (X : Nat → Nat → Prop) (ι : Imap) : Ex → Exit → Prop
  | .nrm, .normal => True
  | .exit i, .exit j => i = j
  | .ret, .ret => True
  | .pan d, .panic ch => ∃ v, ch = [{ v, recovered := false }] ∧ V w X ι d v
  | _, _ => False

def TVx (w : World) (X : Nat → Nat → Prop) (ι : Imap) (x : Ex) (T : List D) (a : Array Value) : Prop := match x with
  | .pan _ => True
  | _ => TV w X ι T a

def PostC (Q : Ex × List D → St → Prop) (w : World) (s : St) (ι : Imap) : Exit → Act → World → Prop := fun e a' w' =>
  a'.defers = [] ∧ ∃ x T' s' ι', Q (x, T') s' ∧ Good w w' s s' ι ι' ∧ Dom ι' s'.nx ∧ TVx w' (Xof s'.H ι') ι' x T' a'.tmps ∧ ExR w' (Xof s'.H ι') ι' x e

theorem PostC.trans {Q : Ex × List D → St → Prop} {w w1 w' : World} {s s1 : St} {ι ι1 : Imap} {e : Exit} {a' : Act} (hg : Good w w1 s s1 ι ι1) (h : PostC Q w1 s1 ι1 e a' w') : PostC Q w s ι e a' w' := by
  obtain ⟨h1, x, T', s', ι', h2, h3, h4, h5⟩ := h
  exact ⟨h1, x, T', s', ι', h2, hg.trans h3, h4, h5⟩

theorem Good.domN {w w' : World} {s s' : St} {ι ι' : Imap} (h : Good w w' s s' ι ι') (hd : Dom ι s.nx) : Dom ι' s'.nx := by
  intro m b hm
  have := h.nx
  rcases h.dom m b hm with h1 | h1
  · have := hd m b h1; omega
  · exact h1.2

theorem put_defers (a : Act) (dst : Option Nat) (v : Value) : (a.put dst v).defers = a.defers := by cases dst <;> rfl
theorem TV.put {w : World} {X : Nat → Nat → Prop} {ι : Imap} {T : List D} {a : Act} (h : TV w X ι T a.tmps) {d : D} {v : Value} (hv : V w X ι d v) (dst : Option Nat) : TV w X ι (setT T dst d) (a.put dst v).tmps := by
  cases dst with
  | none => exact h
  | some k =>
    have hs := h.size
    refine ⟨by simpa [Act.put, setT] using hs, fun i hi => ?_⟩
    simp only [setT, List.length_set] at hi
    by_cases hik : i = k
    · subst hik
      have e1 : (T.set i d).getD i default = d := by simp [List.getD_eq_getElem?_getD, hi]
      have e2 : (a.tmps.setIfInBounds i v).getD i undef = v := by
        have : i < a.tmps.size := by omega
        simp [Array.getD_eq_getD_getElem?, this]
      simp only [setT, Act.put]
      rw [e1, e2]; exact hv
    · have e1 : (T.set k d).getD i default = T.getD i default := by simp [List.getD_eq_getElem?_getD, List.getElem?_set, Ne.symm hik]
      have e2 : (a.tmps.setIfInBounds k v).getD i undef = a.tmps.getD i undef := by
        simp [Array.getD_eq_getD_getElem?, Array.getElem?_setIfInBounds, Ne.symm hik]
      simp only [setT, Act.put]
      rw [e1, e2]; exact h.v i hi

section
variable {P : Program} {ops : Array Oper}

theorem wp_post {o : Oper} {a : Act} {w : World} {K K' : Act → World → Prop} {Q Q' : Exit → Act → World → Prop} (h : ∀ a w, K a w → K' a w) (hq : ∀ e a w, Q e a w → Q' e a w)
    (hh : o.wp P a w K Q) : o.wp P a w K' Q' := by
  unfold Oper.wp at *
  generalize (execOp a.eval o).run P w = r at *
  cases r with
  | ok n w' =>
    cases n <;> simp only [Oper.upon] at hh ⊢ <;>
      first
        | exact h _ _ hh
        | exact Calls.mono hh (fun e w'' he => by cases e <;> first | exact h _ _ he | exact hq _ _ _ he | exact he.imp fun a h => h.imp fun w h => hq _ _ _ h)
        | exact Rows.mono hh (fun _ _ he => h _ _ he)
  | halt x w' => cases x <;> simp only [Oper.upon] at hh ⊢ <;> first | exact hh | exact hq _ _ _ hh

theorem wpOps_post {Q Q' : Exit → Act → World → Prop} (hq : ∀ e a w, Q e a w → Q' e a w) : ∀ (l : List Nat) (a : Act) (w : World), wpOps P ops Q l a w → wpOps P ops Q' l a w
  | [], a, w, h => hq _ _ _ h
  | i :: rest, a, w, h => by
    simp only [wpOps] at *
    split
    · rename_i e
      simp only [e] at h
      exact wpOps_post hq rest a w h
    · rename_i o e
      simp only [e] at h
      split
      · rename_i hw
        rw [if_pos hw] at h
        rcases h with h | ⟨h1, a₀, w₀, h2⟩
        · exact .inl (wp_post (fun a w => wpOps_post hq rest a w) hq h)
        · exact .inr ⟨h1, a₀, w₀, hq _ _ _ h2⟩
      · rename_i hw
        rw [if_neg hw] at h
        exact wpOps_post hq rest _ w h

theorem wants_ok {w : World} {X : Nat → Nat → Prop} {ι : Imap} {T : List D} {tmps : Array Value} (hT : TV w X ι T tmps) {o : Oper} {io : IOp} (h : compOp P ops o = some io) :
    Region.wanted o (yielded ops tmps) = wants T io.guard := by
  unfold compOp at h
  split at h
  case h_2 => cases h
  unfold Region.wanted
  split at h
  · rename_i hg
    simp only [Option.some.injEq] at h
    subst h
    simp [hg, wants]
  · rename_i k b hg
    split at h
    case h_2 => cases h
    rename_i t ht
    simp only [Option.some.injEq] at h
    subst h
    simp only [hg, wants, yielded, ht, Option.bind_some]
    have hs := hT.size
    rcases Nat.lt_or_ge t T.length with hl | hl
    · have hv := hT.v t hl
      have e1 : tmps[t]? = some (tmps.getD t undef) := by
        have : t < tmps.size := by rw [hs]; exact hl
        simp [Array.getD_eq_getD_getElem?, this]
      rw [e1]
      generalize T.getD t default = d at hv
      generalize tmps.getD t undef = v at hv
      cases hv with
      | raw v => cases v <;> cases b <;> rfl
      | _ => cases b <;> rfl
    · have e1 : T.getD t default = default := by simp [List.getD_eq_getElem?_getD, List.getElem?_eq_none hl]
      have e2 : tmps[t]? = none := Array.getElem?_eq_none (by rw [hs]; exact hl)
      rw [e1, e2]
      cases b <;> rfl

theorem compOp_ok {o : Oper} {io : IOp} (h : compOp P ops o = some io) : io.dst = o.dst ∧ comp P o = some io.i ∧ io.af = (o.after.toList.filter (Region.binds .any)).map (·.on) := by
  unfold compOp at h
  split at h
  case h_2 => cases h
  rename_i i hi
  split at h
  · simp only [Option.some.injEq] at h
    subst h
    exact ⟨rfl, hi, rfl⟩
  · split at h
    · simp only [Option.some.injEq] at h
      subst h
      exact ⟨rfl, hi, rfl⟩
    · cases h

theorem compOpL_ok : ∀ (l : List Oper) (ios : List IOp), compOpL P ops l = some ios → ios.length = l.length ∧ ∀ (j : Nat) (o : Oper), l[j]? = some o → ∃ io, ios[j]? = some io ∧ compOp P ops o = some io
  | [], ios, h => by
    simp only [compOpL, Option.some.injEq] at h
    subst h
    exact ⟨rfl, fun j o h => by simp at h⟩
  | o :: rest, ios, h => by
    simp only [compOpL] at h
    split at h
    case h_2 => cases h
    rename_i i l hi hl
    simp only [Option.some.injEq] at h
    subst h
    obtain ⟨h1, h2⟩ := compOpL_ok rest l hl
    refine ⟨by simp [h1], fun j o' hj => ?_⟩
    cases j with
    | zero =>
      simp only [List.getElem?_cons_zero, Option.some.injEq] at hj
      subst hj
      exact ⟨i, rfl, hi⟩
    | succ j => exact h2 j o' (by simpa using hj)

/-- A region in the order of its text. -/
theorem ops_sim {Q : Ex × List D → St → Prop} : ∀ (l : List Nat) (ios : List IOp), ios.length = l.length → (∀ j : Nat, j < l.length → ∃ k o io, l[j]? = some k ∧ ops[k]? = some o ∧ ios[j]? = some io ∧ compOp P ops o = some io) →
    ∀ (w : World) (s : St) (ι : Imap) (T : List D) (a : Act), Sim w s ι T a → opsM (simC P) ios T s Q → wpOps P ops (PostC Q w s ι) l a w
  | [], ios, hl, hk, w, s, ι, T, a, hs, h => by
    have : ios = [] := by simpa using hl
    subst this
    exact ⟨hs.df, .nrm, T, s, ι, h, Good.refl hs.r, hs.dom, hs.tv, trivial⟩
  | k :: l, ios, hl, hk, w, s, ι, T, a, hs, h => by
    cases ios with
    | nil => simp at hl
    | cons io ios =>
      obtain ⟨k', o, io', h1, h2, h3, h4⟩ := hk 0 (Nat.succ_pos _)
      simp only [List.getElem?_cons_zero, Option.some.injEq] at h1 h3
      subst h1; subst h3
      have hk' : ∀ j : Nat, j < l.length → ∃ k o io, l[j]? = some k ∧ ops[k]? = some o ∧ ios[j]? = some io ∧ compOp P ops o = some io := by
        intro j hj
        obtain ⟨k, o, io, g1, g2, g3, g4⟩ := hk (j + 1) (by simpa using hj)
        exact ⟨k, o, io, by simpa using g1, g2, by simpa using g3, g4⟩
      obtain ⟨c1, c2, c3⟩ := compOp_ok h4
      have ih := ops_sim (Q := Q) l ios (by simpa using hl) hk'
      simp only [wpOps, h2, wants_ok hs.tv h4]
      simp only [opsM] at h
      split
      · rename_i hw
        rw [if_pos hw] at h
        refine .inl (op_sim hs.tv hs.r hs.dom ?_ c2 h)
        refine ⟨fun d v w' s' ι' hq hg hv => ?_, fun d v w' s' ι' hq hg hv => ?_⟩
        · have := ih w' s' ι' (setT T io.dst d) (a.put o.dst v) ⟨by rw [c1]; exact (hg.tv hs.tv).put hv _, hg.r, hg.domN hs.dom, by rw [put_defers]; exact hs.df⟩ hq
          exact wpOps_post (fun e a' w'' => PostC.trans hg) _ _ _ this
        · exact ⟨hs.df, .pan d, [], s', ι', hq, hg, hg.domN hs.dom, trivial, v, rfl, hv⟩
      · rename_i hw
        rw [if_neg hw] at h
        exact ih w s ι _ _ ⟨by rw [c1]; exact hs.tv.put (.raw _) _, hs.r, hs.dom, by rw [put_defers]; exact hs.df⟩ h
end
end Go.Ai
