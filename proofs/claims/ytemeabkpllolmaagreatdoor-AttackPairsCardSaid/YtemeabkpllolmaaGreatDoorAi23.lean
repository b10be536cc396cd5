/-
  A part of an interpreter over abstract data, proved sound once for the model: what it says of the code, the machine does in every order. Conditions: none beyond the statement.
-/
import Derived.Test.YtemeabkpllolmaaGreatDoorAi22
/-! Drawn regions, named by place: pure operations come first. -/
set_option linter.unusedVariables false
set_option linter.unusedSimpArgs false
namespace Go.Ai

theorem opD_congr {cl : Cl} {ρ ρ' : Opd → D} {i : I} (nm : Nat) (h : ∀ x ∈ opnds i, ρ x = ρ' x) : opD cl ρ i nm = opD cl ρ' i nm := by
  funext s Q
  unfold opD
  rw [opM_congr h, exec_congr _ h]
theorem opD_mono {cl : Cl} (hm : MonoQ cl) {ρ : Opd → D} {i : I} {nm : Nat} {s : St} {Q Q' : Out → St → Prop} (h : ∀ r s, Q r s → Q' r s) (hh : opD cl ρ i nm s Q) : opD cl ρ i nm s Q' := by
  unfold opD at *
  split
  · rename_i hc
    rw [if_pos hc] at hh
    exact opM_mono (fun _ _ _ _ h => h) hm h hh
  · rename_i hc
    rw [if_neg hc] at hh
    split at hh
    · exact h _ _ hh
    · exact hh.elim
theorem stepD_mono1 {cl : Cl} (hm : MonoQ cl) {nm : Nat} {o : IOp} {T : List D} {Q : Ex × List D → St → Prop} {K K' : List D → St → Prop} (hk : ∀ T s, K T s → K' T s) {s : St} (h : stepD cl nm o T Q K s) : stepD cl nm o T Q K' s :=
  stepD_mono (fun _ _ _ _ h => h) hm (fun _ _ h => h) hk h

/-- What a pure operation yields. -/
def Yld (x : IOp) (T : List D) (d : D) : Prop := if wants T x.guard then ∀ s, exec (evO T) x.i s = some (d, s) else d = default
theorem Yld.step {cl : Cl} {x : IOp} (hx : pureI x.i = true) {T : List D} {d : D} (h : Yld x T d) {nm : Nat} {Q : Ex × List D → St → Prop} {K : List D → St → Prop} {s : St} (hk : K (setT T x.dst d) s) : stepD cl nm x T Q K s := by
  unfold Yld at h
  unfold stepD opD
  have hr : (isCall x.i || readI x.i) = true := by
    have : readI x.i = true := by cases hh : x.i <;> simp_all [readI, pureI]
    simp [this]
  rw [if_pos hr]
  split
  · rename_i hw
    rw [if_pos hw] at h
    rw [opM_exec (pure_noCall hx), h s]
    exact hk
  · rename_i hw
    rw [if_neg hw] at h
    subst h
    exact hk
theorem Yld.keep {x : IOp} {T : List D} {d : D} (h : Yld x T d) {dst : Option Nat} (hu : ∀ k, dst = some k → k ∉ looks x) (e : D) : Yld x (setT T dst e) d := by
  obtain ⟨u1, u2⟩ := unseen hu T e
  unfold Yld at *
  rw [u1]
  split
  · rename_i hw
    rw [if_pos hw] at h
    intro s
    rw [exec_congr s u2]
    exact h s
  · rename_i hw
    rw [if_neg hw] at h
    exact h

theorem drawM_first {cl : Cl} (hm : MonoQ cl) {base : Nat} {ops : List IOp} {i : Nat} {d : D} {Q : Ex × List D → St → Prop} (hp : pureI (atO ops i).i = true) : ∀ (fuel : Nat) (l : List Bool) (T : List D) (s : St),
    (∀ j, j < ops.length → j ≠ i → l.getD j true = false → i ∉ (atO ops j).af → apart (atO ops i) (atO ops j) = true) → i ∈ readyD ops l → Yld (atO ops i) T d →
    drawM cl base ops fuel (l.set i true) (setT T (atO ops i).dst d) s Q → drawM cl base ops (fuel + 1) l T s Q := by
  have eo : ∀ j, j < ops.length → ops[j]? = some (atO ops j) := fun j hj => by simp [atO, List.getD_eq_getElem?_getD, hj]
  have rmono : ∀ (l : List Bool) (j : Nat), j ∈ readyD ops l → j ≠ i → j ∈ readyD ops (l.set i true) := by
    intro l j hj hne
    obtain ⟨h1, h2, h3⟩ := mem_readyD.1 hj
    refine mem_readyD.2 ⟨h1, by simpa [List.getD_eq_getElem?_getD, List.getElem?_set, Ne.symm hne] using h2, fun k hk => ?_⟩
    have := h3 k hk
    by_cases hki : k = i
    · subst hki
      have := getD_lt_true _ _ this
      simp [List.getD_eq_getElem?_getD, this]
    · simpa [List.getD_eq_getElem?_getD, List.getElem?_set, Ne.symm hki] using this
  intro fuel
  induction fuel with
  | zero =>
    intro l T s ha hr hy H
    refine ⟨fun e => (by rw [e] at hr; simp at hr), fun j hj => ?_⟩
    rw [eo j (mem_readyD.1 hj).1]
    by_cases hji : j = i
    · subst hji; exact hy.step hp H
    · have := rmono l j hj hji
      rw [H.1] at this
      simp at this
  | succ fuel ih =>
    intro l T s ha hr hy H
    refine ⟨fun e => (by rw [e] at hr; simp at hr), fun j hj => ?_⟩
    obtain ⟨j1, j2, j3⟩ := mem_readyD.1 hj
    rw [eo j j1]
    by_cases hji : j = i
    · subst hji; exact hy.step hp H
    · have h1 := H.2 j (rmono l j hj hji)
      rw [eo j j1] at h1
      dsimp only at h1 ⊢
      have hi := mem_readyD.1 hr
      have hna : i ∉ (atO ops j).af := by
        intro hmem
        have g := j3 i hmem
        have hil := getD_lt_true _ _ g
        have g2 := hi.2.1
        simp [List.getD_eq_getElem?_getD, hil] at g g2
        rw [g] at g2
        cases g2
      have hap := ha j j1 hji j2 hna
      obtain ⟨a1, a2, a3⟩ := apart_spec hap
      have hnext : ∀ (e : D) (s : St), drawM cl base ops fuel ((l.set i true).set j true) (setT (setT T (atO ops i).dst d) (atO ops j).dst e) s Q → drawM cl base ops (fuel + 1) (l.set j true) (setT T (atO ops j).dst e) s Q := by
        intro e s hh
        refine ih (l.set j true) _ s (fun k hk hki hun hno => ha k hk hki ?_ hno) ?_ (hy.keep a2 e) ?_
        · by_cases hkj : k = j
          · subst hkj; exact j2
          · simpa [List.getD_eq_getElem?_getD, List.getElem?_set, Ne.symm hkj] using hun
        · refine mem_readyD.2 ⟨hi.1, by simpa [List.getD_eq_getElem?_getD, List.getElem?_set, hji] using hi.2.1, fun k hk => ?_⟩
          have g := hi.2.2 k hk
          by_cases hkj : k = j
          · subst hkj
            have := getD_lt_true _ _ g
            simp [List.getD_eq_getElem?_getD, this]
          · simpa [List.getD_eq_getElem?_getD, List.getElem?_set, Ne.symm hkj] using g
        · rw [List.set_comm _ _ hji, ← set_comm' T a3]
          exact hh
      obtain ⟨u1, u2⟩ := unseen a1 T d
      unfold stepD at h1 ⊢
      rw [u1, opD_congr _ u2] at h1
      split
      · rename_i hw
        rw [if_pos hw] at h1
        refine opD_mono hm (fun r s' hr' => ?_) h1
        cases r with
        | ret e => exact hnext e s' hr'
        | pan e => exact hr'
      · rename_i hw
        rw [if_neg hw] at h1
        exact hnext default s h1

/-! ### Reads come first too, where what is left keeps what they read -/
def YldP (x : IOp) (T : List D) (P : St → Prop) (d : D) : Prop := if wants T x.guard then ∀ s, P s → exec (evO T) x.i s = some (d, s) else d = default
def KeepP (cl : Cl) (nm : Nat) (o : IOp) (P : St → Prop) : Prop := ∀ T Q K s, P s → stepD cl nm o T Q K s → stepD cl nm o T Q (fun T' s' => P s' ∧ K T' s') s
theorem YldP.step {cl : Cl} {x : IOp} (hx : readI x.i = true) {T : List D} {P : St → Prop} {d : D} (h : YldP x T P d) {nm : Nat} {Q : Ex × List D → St → Prop} {K : List D → St → Prop} {s : St} (hs : P s) (hk : K (setT T x.dst d) s) : stepD cl nm x T Q K s := by
  unfold YldP at h
  unfold stepD opD
  have hr : (isCall x.i || readI x.i) = true := by simp [hx]
  rw [if_pos hr]
  split
  · rename_i hw
    rw [if_pos hw] at h
    rw [opM_exec (read_noCall hx), h s hs]
    exact hk
  · rename_i hw
    rw [if_neg hw] at h
    subst h
    exact hk
theorem YldP.keep {x : IOp} {T : List D} {P : St → Prop} {d : D} (h : YldP x T P d) {dst : Option Nat} (hu : ∀ k, dst = some k → k ∉ looks x) (e : D) : YldP x (setT T dst e) P d := by
  obtain ⟨u1, u2⟩ := unseen hu T e
  unfold YldP at *
  rw [u1]
  split
  · rename_i hw
    rw [if_pos hw] at h
    intro s hs
    rw [exec_congr s u2]
    exact h s hs
  · rename_i hw
    rw [if_neg hw] at h
    exact h

theorem drawM_firstP {cl : Cl} (hm : MonoQ cl) {base : Nat} {ops : List IOp} {i : Nat} {d : D} {P : St → Prop} {Q : Ex × List D → St → Prop} (hp : readI (atO ops i).i = true) : ∀ (fuel : Nat) (l : List Bool) (T : List D) (s : St),
    (∀ j, j < ops.length → j ≠ i → l.getD j true = false → i ∉ (atO ops j).af → apart (atO ops i) (atO ops j) = true ∧ KeepP cl (base + j) (atO ops j) P) → i ∈ readyD ops l → YldP (atO ops i) T P d → P s →
    drawM cl base ops fuel (l.set i true) (setT T (atO ops i).dst d) s Q → drawM cl base ops (fuel + 1) l T s Q := by
  have eo : ∀ j, j < ops.length → ops[j]? = some (atO ops j) := fun j hj => by simp [atO, List.getD_eq_getElem?_getD, hj]
  have rmono : ∀ (l : List Bool) (j : Nat), j ∈ readyD ops l → j ≠ i → j ∈ readyD ops (l.set i true) := by
    intro l j hj hne
    obtain ⟨h1, h2, h3⟩ := mem_readyD.1 hj
    refine mem_readyD.2 ⟨h1, by simpa [List.getD_eq_getElem?_getD, List.getElem?_set, Ne.symm hne] using h2, fun k hk => ?_⟩
    have := h3 k hk
    by_cases hki : k = i
    · subst hki
      have := getD_lt_true _ _ this
      simp [List.getD_eq_getElem?_getD, this]
    · simpa [List.getD_eq_getElem?_getD, List.getElem?_set, Ne.symm hki] using this
  intro fuel
  induction fuel with
  | zero =>
    intro l T s ha hr hy hs H
    refine ⟨fun e => (by rw [e] at hr; simp at hr), fun j hj => ?_⟩
    rw [eo j (mem_readyD.1 hj).1]
    by_cases hji : j = i
    · subst hji; exact hy.step hp hs H
    · have := rmono l j hj hji
      rw [H.1] at this
      simp at this
  | succ fuel ih =>
    intro l T s ha hr hy hs H
    refine ⟨fun e => (by rw [e] at hr; simp at hr), fun j hj => ?_⟩
    obtain ⟨j1, j2, j3⟩ := mem_readyD.1 hj
    rw [eo j j1]
    by_cases hji : j = i
    · subst hji; exact hy.step hp hs H
    · have h1 := H.2 j (rmono l j hj hji)
      rw [eo j j1] at h1
      dsimp only at h1 ⊢
      have hi := mem_readyD.1 hr
      have hna : i ∉ (atO ops j).af := by
        intro hmem
        have g := j3 i hmem
        have hil := getD_lt_true _ _ g
        have g2 := hi.2.1
        simp [List.getD_eq_getElem?_getD, hil] at g g2
        rw [g] at g2
        cases g2
      obtain ⟨hap, hkp⟩ := ha j j1 hji j2 hna
      obtain ⟨a1, a2, a3⟩ := apart_spec hap
      have hnext : ∀ (e : D) (s : St), P s ∧ drawM cl base ops fuel ((l.set i true).set j true) (setT (setT T (atO ops i).dst d) (atO ops j).dst e) s Q → drawM cl base ops (fuel + 1) (l.set j true) (setT T (atO ops j).dst e) s Q := by
        intro e s hh
        refine ih (l.set j true) _ s (fun k hk hki hun hno => ha k hk hki ?_ hno) ?_ (hy.keep a2 e) hh.1 ?_
        · by_cases hkj : k = j
          · subst hkj; exact j2
          · simpa [List.getD_eq_getElem?_getD, List.getElem?_set, Ne.symm hkj] using hun
        · refine mem_readyD.2 ⟨hi.1, by simpa [List.getD_eq_getElem?_getD, List.getElem?_set, hji] using hi.2.1, fun k hk => ?_⟩
          have g := hi.2.2 k hk
          by_cases hkj : k = j
          · subst hkj
            have := getD_lt_true _ _ g
            simp [List.getD_eq_getElem?_getD, this]
          · simpa [List.getD_eq_getElem?_getD, List.getElem?_set, Ne.symm hkj] using g
        · rw [List.set_comm _ _ hji, ← set_comm' T a3]
          exact hh.2
      obtain ⟨u1, u2⟩ := unseen a1 T d
      have h1 := hkp _ _ _ _ hs h1
      unfold stepD at h1 ⊢
      rw [u1, opD_congr _ u2] at h1
      split
      · rename_i hw
        rw [if_pos hw] at h1
        refine opD_mono hm (fun r s' hr' => ?_) h1
        cases r with
        | ret e => exact hnext e s' hr'
        | pan e => exact hr'
      · rename_i hw
        rw [if_neg hw] at h1
        exact hnext default s h1

/-- An operation that leaves an object as it is. -/
def keepsB (nm : Nat) (i : I) (m : Nat) (ob : Obj) : Bool := match i with
  | .alloc .. | .box .. | .bslice .. | .mk .. | .mkmap => !Nat.beq nm m
  | .append e _ _ _ _ => !Nat.beq nm m && (match ob with
    | .cells _ e' _ => !Nat.beq e' e
    | _ => true)
  | i => readI i
theorem lk_normK (H : Heap) (n : Nat) : lk (norm H) n = lk H n := by
  have h1 : ∀ (p : Nat × Obj) (H : Heap), lk (ins p H) n = lk (p :: H) n := by
    intro p H
    induction H with
    | nil => rfl
    | cons q t ih =>
      simp only [ins]
      cases hb : Nat.blt p.1 q.1 with
      | false => rfl
      | true =>
        have hlt : p.1 < q.1 := by rw [Nat.blt_eq] at hb; exact hb
        obtain ⟨a, o⟩ := p
        obtain ⟨b, u⟩ := q
        simp only [cond_true]
        rw [lk_cons, ih, lk_cons, lk_cons, lk_cons]
        dsimp only at hlt
        by_cases e1 : n = b
        · subst e1
          have : ¬ n = a := by omega
          simp [this]
        · simp [e1]
  cases H with
  | nil => rfl
  | cons p t => exact h1 p t
theorem keepsB_exec {nm m : Nat} {i : I} {ob : Obj} (h : keepsB nm i m ob = true) (hr : readI i = false) {ρ : Opd → D} {s s' : St} {d : D} (he : exec ρ i { s with nx := nm } = some (d, s')) (hl : lk s.H m = some ob) : lk s'.H m = some ob := by
  have hnew : ∀ (o : Obj) (H : Heap), nm ≠ m → lk H m = some ob → lk ((nm, o) :: H) m = some ob := by
    intro o H hne hh
    rw [lk_cons, if_neg (Ne.symm hne)]
    exact hh
  have hb : ∀ a b : Nat, (!Nat.beq a b) = true → a ≠ b := by
    intro a b h e
    subst e
    simp at h
  unfold keepsB at h
  split at h
  · have hn := hb _ _ h
    simp only [exec] at he
    split at he
    · simp only [Option.some.injEq, Prod.mk.injEq] at he
      obtain ⟨-, rfl⟩ := he
      exact hnew _ _ hn hl
    · cases he
  · have hn := hb _ _ h
    simp only [exec] at he
    split at he
    · simp only [Option.some.injEq, Prod.mk.injEq] at he
      obtain ⟨-, rfl⟩ := he
      exact hnew _ _ hn hl
    · cases he
  · have hn := hb _ _ h
    simp only [exec] at he
    split at he
    · split at he
      · simp only [Option.some.injEq, Prod.mk.injEq] at he
        obtain ⟨-, rfl⟩ := he
        exact hnew _ _ hn hl
      · cases he
    · cases he
  · have hn := hb _ _ h
    simp only [exec] at he
    split at he
    · split at he
      · simp only [Option.some.injEq, Prod.mk.injEq] at he
        obtain ⟨-, rfl⟩ := he
        exact hnew _ _ hn hl
      · cases he
    · cases he
  · have hn := hb _ _ h
    simp only [exec, Option.some.injEq, Prod.mk.injEq] at he
    obtain ⟨-, rfl⟩ := he
    exact hnew _ _ hn hl
  · rename_i e sz bytes x y
    simp only [Bool.and_eq_true] at h
    have hn := hb _ _ h.1
    simp only [exec] at he
    split at he
    · split at he
      · split at he
        all_goals first
          | (simp only [Option.some.injEq, Prod.mk.injEq] at he; obtain ⟨-, rfl⟩ := he; exact hl)
          | cases he
      · split at he
        · split at he
          · simp only [Option.some.injEq, Prod.mk.injEq] at he
            obtain ⟨-, rfl⟩ := he
            exact hnew _ _ hn hl
          · cases he
        · split at he
          · simp only [Option.some.injEq, Prod.mk.injEq] at he
            obtain ⟨-, rfl⟩ := he
            exact hnew _ _ hn hl
          · cases he
        · rename_i n off len sz' hx
          split at he
          · rename_i cs e' lo hlk
            split at he
            · rename_i hc
              simp only [Option.some.injEq, Prod.mk.injEq] at he
              obtain ⟨-, rfl⟩ := he
              refine hnew _ _ hn ?_
              have hnm : m ≠ n := by
                intro e0
                subst e0
                rw [hl] at hlk
                simp only [Option.some.injEq] at hlk
                rw [hlk] at h
                exact hb _ _ h.2 hc.2.1
              rw [lk_rm, if_neg hnm]
              exact hl
            · cases he
          · cases he
        · cases he
    · cases he
  · rw [hr] at h; cases h
theorem keepsB_ok {cl : Cl} {nm m : Nat} {o : IOp} {ob : Obj} (h : keepsB nm o.i m ob = true) : KeepP cl nm o fun s => lk s.H m = some ob := by
  intro T Q K s hl hh
  have hnc : isCall o.i = false := by
    cases hi : o.i <;> simp_all [keepsB, readI, pureI, isCall]
  unfold stepD opD at *
  split
  · rename_i hw
    rw [if_pos hw] at hh
    split
    · rename_i hc
      rw [if_pos hc] at hh
      have hrd : readI o.i = true := by simpa [hnc] using hc
      rw [opM_exec hnc] at hh ⊢
      cases he : exec (evO T) o.i s with
      | none => rw [he] at hh; exact hh
      | some p =>
        obtain ⟨d, s'⟩ := p
        rw [he] at hh
        have := exec_read hrd he
        subst this
        exact ⟨hl, hh⟩
    · rename_i hc
      rw [if_neg hc] at hh
      have hrd : readI o.i = false := by
        cases hx : readI o.i with
        | false => rfl
        | true => simp [hx] at hc
      cases he : exec (evO T) o.i { s with nx := nm } with
      | none => rw [he] at hh; exact hh
      | some p =>
        obtain ⟨d, s'⟩ := p
        rw [he] at hh
        refine ⟨?_, hh⟩
        dsimp only
        rw [lk_normK]
        exact keepsB_exec h hrd he hl
  · rename_i hw
    rw [if_neg hw] at hh
    exact ⟨hl, hh⟩
theorem KeepP.true_ {cl : Cl} (hm : MonoQ cl) {nm : Nat} {o : IOp} : KeepP cl nm o fun _ => True := by
  intro T Q K s _ hh
  exact stepD_mono1 hm (fun T s h => ⟨trivial, h⟩) hh
end Go.Ai
