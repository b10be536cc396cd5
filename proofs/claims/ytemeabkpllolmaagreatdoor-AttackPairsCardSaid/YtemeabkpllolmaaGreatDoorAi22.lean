/-
  A part of an interpreter over abstract data, proved sound once for the model: what it says of the code, the machine does in every order. Conditions: none beyond the statement.
-/
import Derived.Test.YtemeabkpllolmaaGreatDoorAi21
/-! Regions whose order does not matter: one order is enough. -/
set_option linter.unusedVariables false
set_option linter.unusedSimpArgs false
namespace Go.Ai

/-- All orders, names as they come. -/
def drawQ (cl : Cl) (ops : List IOp) : Nat → List Bool → List D → MC
  | 0, l, T => fun s Q => readyD ops l = [] ∧ Q (.nrm, T) s
  | k + 1, l, T => fun s Q => (readyD ops l = [] → Q (.nrm, T) s) ∧ ∀ i ∈ readyD ops l, stepO cl (atO ops i) T Q (fun T s => drawQ cl ops k (l.set i true) T s Q) s

theorem nodupB_ok : ∀ (c : List Nat), nodupB c = true → c.Nodup
  | [], _ => List.nodup_nil
  | i :: rest, h => by
    simp only [nodupB, Bool.and_eq_true, Bool.not_eq_true'] at h
    refine List.nodup_cons.2 ⟨fun hm => ?_, nodupB_ok rest h.2⟩
    simp [hm] at h

theorem chk_ok (ops : List IOp) (anc : List (List Nat)) : ∀ (c done : List Nat), chk ops anc done c = true → c.Nodup → (∀ i ∈ c, i ∉ done) →
    c.Pairwise (fun i j => i ∈ anc.getD j [] ∨ compat (atO ops i) (atO ops j) = true) ∧ c.Pairwise (fun i j => j ∉ (atO ops i).af) ∧ ∀ i ∈ c, i ∉ (atO ops i).af
  | [], _, _, _, _ => ⟨.nil, .nil, fun i hi => by simp at hi⟩
  | i :: rest, done, h, hn, hd => by
    simp only [chk, Bool.and_eq_true, List.all_eq_true, Bool.or_eq_true, List.contains_iff_mem] at h
    obtain ⟨⟨h1, h2⟩, h3⟩ := h
    have hn' := List.nodup_cons.1 hn
    obtain ⟨g1, g2, g3⟩ := chk_ok ops anc rest (i :: done) h3 hn'.2 (fun j hj hm => by
      rcases List.mem_cons.1 hm with e | e
      · subst e; exact hn'.1 hj
      · exact hd j (List.mem_cons_of_mem _ hj) e)
    refine ⟨List.pairwise_cons.2 ⟨fun j hj => h2 j hj, g1⟩, List.pairwise_cons.2 ⟨fun j hj hm => hd j (List.mem_cons_of_mem _ hj) (h1 j hm), g2⟩, fun j hj => ?_⟩
    rcases List.mem_cons.1 hj with e | e
    · subst e; exact fun hm => hd j (List.mem_cons_self ..) (h1 j hm)
    · exact g3 j e

theorem getD_lt_true (l : List Bool) (k : Nat) (h : l.getD k false = true) : k < l.length := by
  rcases Nat.lt_or_ge k l.length with h1 | h1
  · exact h1
  · simp [List.getD_eq_getElem?_getD, List.getElem?_eq_none, h1] at h

theorem mem_readyD {ops : List IOp} {l : List Bool} {i : Nat} : i ∈ readyD ops l ↔ i < ops.length ∧ l.getD i true = false ∧ ∀ k ∈ (atO ops i).af, l.getD k false = true := by
  unfold readyD
  rw [List.mem_filter, List.mem_range]
  constructor
  · rintro ⟨h1, h2⟩
    have e : ops[i]? = some (atO ops i) := by simp [atO, List.getD_eq_getElem?_getD, h1]
    simp only [e, Option.map_some, Option.getD_some, Bool.and_eq_true, Bool.not_eq_true', List.all_eq_true] at h2
    exact ⟨h1, h2.1, h2.2⟩
  · rintro ⟨h1, h2, h3⟩
    have e : ops[i]? = some (atO ops i) := by simp [atO, List.getD_eq_getElem?_getD, h1]
    refine ⟨h1, ?_⟩
    simp only [e, Option.map_some, Option.getD_some, Bool.and_eq_true, Bool.not_eq_true', List.all_eq_true]
    exact ⟨h2, h3⟩

theorem opsM_mono1 {cl : Cl} (hm : MonoQ cl) {ops : List IOp} {T : List D} {s : St} {Q Q' : Ex × List D → St → Prop} (h : ∀ r s, Q r s → Q' r s) (hh : opsM cl ops T s Q) : opsM cl ops T s Q' :=
  opsM_mono (fun _ _ _ _ h => h) hm h ops T s hh

/-- A ready operation may come first. -/
theorem bubble {cl : Cl} (hm : MonoQ cl) (y : IOp) (post : List IOp) : ∀ (pre : List IOp), (∀ x ∈ pre, compat x y = true) → ∀ (T : List D) (s : St) (Q : Ex × List D → St → Prop), opsM cl (pre ++ y :: post) T s Q → stepO cl y T Q (fun T s => opsM cl (pre ++ post) T s Q) s
  | [], _, T, s, Q, h => h
  | x :: pre, hc, T, s, Q, h => by
    rw [List.cons_append, opsM_cons] at h
    have := stepO_mono hm (fun T s h => bubble hm y post pre (fun z hz => hc z (List.mem_cons_of_mem _ hz)) T s Q h) h
    exact swap_ok hm (hc x (List.mem_cons_self ..)) this

theorem quiet_go {cl : Cl} (hm : MonoQ cl) {ops : List IOp} {anc : List (List Nat)} (hlt : ∀ i, i < ops.length → ∀ k ∈ (atO ops i).af, k < ops.length)
    (hanc : ∀ i, i < ops.length → ∀ j ∈ anc.getD i [], j ∈ (atO ops i).af ∨ ∃ k ∈ (atO ops i).af, j ∈ anc.getD k []) {Q : Ex × List D → St → Prop} : ∀ (fuel : Nat) (r : List Nat) (l : List Bool) (T : List D) (s : St),
    r.length = fuel → l.length = ops.length → (∀ i, i ∈ r ↔ i < ops.length ∧ l.getD i true = false) → r.Nodup →
    r.Pairwise (fun i j => i ∈ anc.getD j [] ∨ compat (atO ops i) (atO ops j) = true) → r.Pairwise (fun i j => j ∉ (atO ops i).af) → (∀ i ∈ r, i ∉ (atO ops i).af) →
    (∀ k, l.getD k false = true → ∀ j ∈ anc.getD k [], l.getD j false = true) → opsM cl (r.map (atO ops)) T s Q → drawQ cl ops fuel l T s Q := by
  intro fuel
  have none_ready : ∀ (l : List Bool), (∀ i, ¬ (i < ops.length ∧ l.getD i true = false)) → readyD ops l = [] := by
    intro l hl
    refine List.eq_nil_iff_forall_not_mem.2 fun i hi => ?_
    have := mem_readyD.1 hi
    exact hl i ⟨this.1, this.2.1⟩
  induction fuel with
  | zero =>
    intro r l T s hf hl hr hn hp hd hs hac h
    have : r = [] := List.length_eq_zero_iff.1 hf
    subst this
    exact ⟨none_ready l fun i hi => by have := (hr i).2 hi; simp at this, h⟩
  | succ fuel ih =>
    intro r l T s hf hl hr hn hp hd hs hac h
    refine ⟨fun e => ?_, fun i hi => ?_⟩
    · exfalso
      cases r with
      | nil => simp at hf
      | cons i rest =>
        obtain ⟨h1, h2⟩ := (hr i).1 (List.mem_cons_self ..)
        have : i ∈ readyD ops l := by
          refine mem_readyD.2 ⟨h1, h2, fun k hk => ?_⟩
          have hkl := hlt i h1 k hk
          cases hb : l.getD k false with
          | true => rfl
          | false =>
            have hb' : l.getD k true = false := by
              have : k < l.length := by omega
              simpa [List.getD_eq_getElem?_getD, this] using hb
            rcases List.mem_cons.1 ((hr k).2 ⟨hkl, hb'⟩) with e' | e'
            · subst e'; exact absurd hk (hs k (List.mem_cons_self ..))
            · exact absurd hk ((List.pairwise_cons.1 hd).1 k e')
        rw [e] at this
        simp at this
    · obtain ⟨h1, h2, h3⟩ := mem_readyD.1 hi
      obtain ⟨r1, r2, rfl⟩ := List.append_of_mem ((hr i).2 ⟨h1, h2⟩)
      have hdown : ∀ j ∈ anc.getD i [], l.getD j false = true := by
        intro j hj
        rcases hanc i h1 j hj with g | ⟨k, g1, g2⟩
        · exact h3 j g
        · exact hac k (h3 k g1) j g2
      have hcomp : ∀ x ∈ r1.map (atO ops), compat x (atO ops i) = true := by
        intro x hx
        obtain ⟨j, hj, rfl⟩ := List.mem_map.1 hx
        rcases (List.pairwise_append.1 hp).2.2 j hj i (List.mem_cons_self ..) with g | g
        · exfalso
          have := hdown j g
          have hj' := (hr j).1 (List.mem_append_left _ hj)
          have hjl : j < l.length := by omega
          simp [List.getD_eq_getElem?_getD, hjl] at this hj'
          rw [this] at hj'
          exact absurd hj'.2 (by simp)
        · exact g
      rw [List.map_append, List.map_cons] at h
      have hb := bubble hm (atO ops i) (r2.map (atO ops)) (r1.map (atO ops)) hcomp T s Q h
      have hsub : (r1 ++ r2).Sublist (r1 ++ i :: r2) := List.Sublist.append_left (List.sublist_cons_self ..) _
      have hni : i ∉ r1 ++ r2 := by
        intro hm'
        have := List.nodup_append.1 hn
        rcases List.mem_append.1 hm' with g | g
        · exact this.2.2 i g i (List.mem_cons_self ..) rfl
        · exact (List.nodup_cons.1 this.2.1).1 g
      refine stepO_mono hm (fun T s hh => ?_) hb
      refine ih (r1 ++ r2) (l.set i true) T s (by simp at hf ⊢; omega) (by simpa using hl) (fun j => ?_) (hn.sublist hsub) (hp.sublist hsub) (hd.sublist hsub) (fun j hj => hs j (hsub.subset hj)) (fun k hk j hj => ?_) (by rw [List.map_append]; exact hh)
      · constructor
        · intro hj
          have hji : j ≠ i := fun e => hni (e ▸ hj)
          obtain ⟨g1, g2⟩ := (hr j).1 (hsub.subset hj)
          exact ⟨g1, by simpa [List.getD_eq_getElem?_getD, List.getElem?_set, Ne.symm hji] using g2⟩
        · rintro ⟨g1, g2⟩
          have hji : j ≠ i := by
            intro e
            subst e
            have : j < l.length := by omega
            simp [List.getD_eq_getElem?_getD, this] at g2
          have g3 : l.getD j true = false := by simpa [List.getD_eq_getElem?_getD, List.getElem?_set, Ne.symm hji] using g2
          rcases List.mem_append.1 ((hr j).2 ⟨g1, g3⟩) with g | g
          · exact List.mem_append_left _ g
          · rcases List.mem_cons.1 g with e | e
            · exact absurd e hji
            · exact List.mem_append_right _ e
      · have keep : ∀ j, l.getD j false = true → (l.set i true).getD j false = true := by
          intro j hj
          by_cases hji : j = i
          · subst hji
            have := getD_lt_true _ _ hj
            simp [List.getD_eq_getElem?_getD, this]
          · simpa [List.getD_eq_getElem?_getD, List.getElem?_set, Ne.symm hji] using hj
        by_cases hki : k = i
        · subst hki; exact keep j (hdown j hj)
        · have hk' : l.getD k false = true := by simpa [List.getD_eq_getElem?_getD, List.getElem?_set, Ne.symm hki] using hk
          exact keep j (hac k hk' j hj)

theorem quiet_draw {cl : Cl} (hm : MonoQ cl) {ops l : List IOp} (hq : quietOrder ops = some l) {T : List D} {s : St} {Q : Ex × List D → St → Prop} (h : opsM cl l T s Q) : drawQ cl ops ops.length (List.replicate ops.length false) T s Q := by
  unfold quietOrder at hq
  dsimp only at hq
  split at hq
  case isFalse => cases hq
  rename_i hok
  simp only [Option.some.injEq] at hq
  subst hq
  generalize topo ops ops.length [] = c at *
  generalize ancs ops [] = anc at *
  simp only [okOrder, Bool.and_eq_true, beq_iff_eq, List.all_eq_true, Bool.or_eq_true, List.contains_iff_mem, List.any_eq_true, List.mem_range, Nat.blt_eq] at hok
  obtain ⟨⟨⟨⟨⟨⟨h1, hall⟩, h2⟩, h3⟩, h4⟩, h5⟩, h6⟩ := hok
  have hnd := nodupB_ok c h3
  obtain ⟨g1, g2, g3⟩ := chk_ok ops anc c [] h6 hnd (fun _ _ h => by simp at h)
  refine quiet_go hm (anc := anc) (fun i hi k hk => ?_) h5 ops.length c _ T s h1 (by simp) (fun i => ⟨fun hi => ⟨h2 i hi, by simp [List.getD_eq_getElem?_getD, h2 i hi]⟩, fun hi => hall i hi.1⟩) hnd g1 g2 g3 (fun k hk => by
    have := getD_lt_true _ _ hk
    rw [List.length_replicate] at this
    simp [List.getD_eq_getElem?_getD, this] at hk) h
  have e : ops[i]? = some (atO ops i) := by simp [atO, List.getD_eq_getElem?_getD, hi]
  exact h4 _ (List.mem_of_getElem? e) k hk
end Go.Ai
