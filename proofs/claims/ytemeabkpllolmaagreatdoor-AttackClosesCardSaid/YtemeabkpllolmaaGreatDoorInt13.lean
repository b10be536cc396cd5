/-
  A part of an interpreter over abstract data, proved sound once for the model: what it says of the code, the machine does in every order. Conditions: none beyond the statement.
-/
import Derived.Test.YtemeabkpllolmaaGreatDoorInt9
/-! Temporaries in a tree. -/
set_option linter.unusedVariables false
set_option linter.unusedSimpArgs false
namespace Go.Ai
noncomputable section

inductive Tr where
  | leaf (d : D)
  | node (l r : Tr)
def Tr.get (t : Tr) : Nat → D := Tr.rec (fun d _ => d) (fun _ _ l r i => Nat.rec (l (Nat.div i 2)) (fun _ _ => r (Nat.div i 2)) (Nat.mod i 2)) t
def Tr.put (t : Tr) : Nat → D → Tr := Tr.rec (fun _ _ d => .leaf d) (fun l r pl pr i d => Nat.rec (.node (pl (Nat.div i 2) d) r) (fun _ _ => .node l (pr (Nat.div i 2) d)) (Nat.mod i 2)) t
/-- A full tree. -/
def Tr.full : Nat → Tr := Nat.rec (.leaf default) (fun _ t => .node t t)

/-- Depth. -/
inductive Tr.Deep : Nat → Tr → Prop
  | leaf (d : D) : Deep 0 (.leaf d)
  | node {n : Nat} {l r : Tr} (hl : Deep n l) (hr : Deep n r) : Deep (n + 1) (.node l r)
theorem Tr.full_deep : ∀ n, Tr.Deep n (Tr.full n)
  | 0 => .leaf _
  | n + 1 => .node (full_deep n) (full_deep n)
theorem Tr.full_get : ∀ n i, (Tr.full n).get i = default
  | 0, i => rfl
  | n + 1, i => by
    have h : (Tr.full (n + 1)).get i = Nat.rec (motive := fun _ => D) ((Tr.full n).get (Nat.div i 2)) (fun _ _ => (Tr.full n).get (Nat.div i 2)) (Nat.mod i 2) := rfl
    rw [h, Tr.full_get n]
    cases Nat.mod i 2 <;> rfl
theorem Tr.put_deep {n : Nat} {t : Tr} (h : Tr.Deep n t) : ∀ i d, Tr.Deep n (t.put i d) := by
  induction h with
  | leaf d => exact fun i d => .leaf d
  | @node n l r hl hr il ir =>
    intro i d
    have h : (Tr.node l r).put i d = Nat.rec (motive := fun _ => Tr) (.node (l.put (Nat.div i 2) d) r) (fun _ _ => .node l (r.put (Nat.div i 2) d)) (Nat.mod i 2) := rfl
    rw [h]
    cases Nat.mod i 2 with
    | zero => exact .node (il _ _) hr
    | succ k => exact .node hl (ir _ _)
theorem Tr.get_put {n : Nat} {t : Tr} (h : Tr.Deep n t) : ∀ i j d, i < 2 ^ n → j < 2 ^ n → (t.put i d).get j = if j = i then d else t.get j := by
  induction h with
  | leaf d =>
    intro i j d' hi hj
    have e1 : i = 0 := by simpa using hi
    have e2 : j = 0 := by simpa using hj
    subst e1; subst e2
    rfl
  | @node n l r hl hr il ir =>
    intro i j d hi hj
    have hp : ∀ (a b : Tr) (k : Nat), (Tr.node a b).get k = Nat.rec (motive := fun _ => D) (a.get (k / 2)) (fun _ _ => b.get (k / 2)) (k % 2) := fun _ _ _ => rfl
    have hq : (Tr.node l r).put i d = Nat.rec (motive := fun _ => Tr) (.node (l.put (i / 2) d) r) (fun _ _ => .node l (r.put (i / 2) d)) (i % 2) := rfl
    have hi2 : i / 2 < 2 ^ n := by rw [Nat.pow_succ] at hi; omega
    have hj2 : j / 2 < 2 ^ n := by rw [Nat.pow_succ] at hj; omega
    rw [hq, hp l r j]
    rcases Nat.mod_two_eq_zero_or_one i with h0 | h0 <;> rcases Nat.mod_two_eq_zero_or_one j with h1 | h1 <;> rw [h0]
    · change (Tr.node (l.put (i / 2) d) r).get j = _
      rw [hp, h1]
      change (l.put (i / 2) d).get (j / 2) = if j = i then d else l.get (j / 2)
      rw [il _ _ _ hi2 hj2]
      by_cases e : j = i
      · subst e; simp
      · have : ¬ j / 2 = i / 2 := by omega
        simp [e, this]
    · change (Tr.node (l.put (i / 2) d) r).get j = _
      rw [hp, h1]
      have : ¬ j = i := by omega
      rw [if_neg this]
      rfl
    · change (Tr.node l (r.put (i / 2) d)).get j = _
      rw [hp, h1]
      have : ¬ j = i := by omega
      rw [if_neg this]
      rfl
    · change (Tr.node l (r.put (i / 2) d)).get j = _
      rw [hp, h1]
      change (r.put (i / 2) d).get (j / 2) = if j = i then d else r.get (j / 2)
      rw [ir _ _ _ hi2 hj2]
      by_cases e : j = i
      · subst e; simp
      · have : ¬ j / 2 = i / 2 := by omega
        simp [e, this]

/-- The tree holds the list. -/
structure Holds (dp nt : Nat) (t : Tr) (T : List D) : Prop where
  deep : Tr.Deep dp t
  len : T.length = nt
  fit : nt ≤ 2 ^ dp
  get : ∀ i, i < nt → t.get i = T.getD i default

def getT (nt : Nat) (t : Tr) (i : Nat) : D := bif Nat.blt i nt then t.get i else default
theorem getT_eq {dp nt : Nat} {t : Tr} {T : List D} (h : Holds dp nt t T) (i : Nat) : getT nt t i = T.getD i default := by
  unfold getT
  cases hb : Nat.blt i nt with
  | true => exact h.get i (by simpa using hb)
  | false =>
    have hge : ¬ i < nt := fun hh => by rw [show Nat.blt i nt = true by simpa using hh] at hb; cases hb
    have : T.length ≤ i := by rw [h.len]; omega
    simp [List.getD_eq_getElem?_getD, List.getElem?_eq_none this]
def setTr (nt : Nat) (t : Tr) (dst : Option Nat) (d : D) : Tr := match dst with
  | some k => bif Nat.blt k nt then t.put k d else t
  | none => t
theorem setTr_ok {dp nt : Nat} {t : Tr} {T : List D} (h : Holds dp nt t T) (dst : Option Nat) (d : D) : Holds dp nt (setTr nt t dst d) (setT T dst d) := by
  cases dst with
  | none => exact h
  | some k =>
    simp only [setTr, setT]
    cases hb : Nat.blt k nt with
    | true =>
      have hlt : k < nt := by simpa using hb
      have hf := h.fit
      refine ⟨Tr.put_deep h.deep _ _, by rw [List.length_set]; exact h.len, hf, fun i hi => ?_⟩
      simp only [cond_true]
      rw [Tr.get_put h.deep _ _ _ (by omega) (by omega)]
      have hl := h.len
      by_cases e : i = k
      · subst e
        have : i < T.length := by omega
        simp [List.getD_eq_getElem?_getD, this]
      · rw [if_neg e, h.get i hi]
        simp [List.getD_eq_getElem?_getD, List.getElem?_set, Ne.symm e]
    | false =>
      have hge : ¬ k < nt := fun hh => by rw [show Nat.blt k nt = true by simpa using hh] at hb; cases hb
      have : T.set k d = T := List.set_eq_of_length_le (by rw [h.len]; omega)
      simp only [cond_false, this]
      exact h

/-- Puts a list in. -/
def fillT (nt : Nat) (l : List D) : Nat → Tr → Tr := List.rec (fun _ t => t) (fun x _ ih i t => ih (Nat.succ i) (setTr nt t (some i) x)) l
def listT (nt : Nat) (t : Tr) : List D := (List.range nt).map t.get
theorem listT_ok {dp nt : Nat} {t : Tr} {T : List D} (h : Holds dp nt t T) : listT nt t = T := by
  apply List.ext_getElem?
  intro i
  unfold listT
  rcases Nat.lt_or_ge i nt with hi | hi
  · have := h.get i hi
    have hl : i < T.length := by rw [h.len]; exact hi
    simp [List.getD_eq_getElem?_getD, hl] at this
    simp [hi, hl, this]
  · have hl : T.length ≤ i := by rw [h.len]; exact hi
    simp [List.getElem?_eq_none hl, hi]
theorem fillT_ok {dp nt : Nat} : ∀ (l : List D) (i : Nat) (t : Tr) (T : List D), Holds dp nt t T → ∃ T', Holds dp nt (fillT nt l i t) T' ∧ ∀ j, T'.getD j default = if i ≤ j ∧ j < i + l.length ∧ j < nt then l.getD (j - i) default else T.getD j default
  | [], i, t, T, h => ⟨T, h, fun j => by simp; omega⟩
  | x :: l, i, t, T, h => by
    obtain ⟨T', h1, h2⟩ := fillT_ok l (i + 1) _ _ (setTr_ok h (some i) x)
    refine ⟨T', h1, fun j => ?_⟩
    rw [h2 j]
    by_cases hj : j = i
    · subst hj
      have hn : ¬ (j + 1 ≤ j ∧ j < j + 1 + l.length ∧ j < nt) := by omega
      rw [if_neg hn]
      by_cases hlt : j < nt
      · have hp : j ≤ j ∧ j < j + (x :: l).length ∧ j < nt := ⟨Nat.le_refl _, by simp, hlt⟩
        rw [if_pos hp]
        have : j < T.length := by rw [h.len]; exact hlt
        simp [setT, List.getD_eq_getElem?_getD, this]
      · have hp : ¬ (j ≤ j ∧ j < j + (x :: l).length ∧ j < nt) := by omega
        rw [if_neg hp]
        have : T.length ≤ j := by rw [h.len]; omega
        simp [setT, List.getD_eq_getElem?_getD, List.getElem?_eq_none, this]
    · have e : (setT T (some i) x).getD j default = T.getD j default := by simp [setT, List.getD_eq_getElem?_getD, List.getElem?_set, Ne.symm hj]
      rw [e]
      by_cases hc : i + 1 ≤ j ∧ j < i + 1 + l.length ∧ j < nt
      · have hp : i ≤ j ∧ j < i + (x :: l).length ∧ j < nt := by simp; omega
        rw [if_pos hc, if_pos hp]
        have : j - i = (j - (i + 1)) + 1 := by omega
        rw [this, List.getD_cons_succ]
      · have hp : ¬ (i ≤ j ∧ j < i + (x :: l).length ∧ j < nt) := by simp; omega
        rw [if_neg hc, if_neg hp]
end
end Go.Ai
