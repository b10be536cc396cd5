/-
  A part of an interpreter over abstract data, proved sound once for the model: what it says of the code, the machine does in every order. Conditions: none beyond the statement.
-/
import Derived.Test.YtemeabkpllolmaaGreatDoorAi14
/-! Regions whose order does not matter. -/
set_option linter.unusedVariables false
set_option linter.unusedSimpArgs false
namespace Go.Ai

theorem map_congr {ρ ρ' : Opd → D} : ∀ (xs : List Opd), (∀ x ∈ xs, ρ x = ρ' x) → xs.map ρ = xs.map ρ' := fun xs h => List.map_congr_left h
theorem ps_congr {ρ ρ' : Opd → D} (ps : List (Nat × Nat × Opd)) (h : ∀ x ∈ ps.map (·.2.2), ρ x = ρ' x) : ps.map (fun p => (p.1, p.2.1, ρ p.2.2)) = ps.map (fun p => (p.1, p.2.1, ρ' p.2.2)) :=
  List.map_congr_left fun p hp => by rw [h _ (List.mem_map.2 ⟨p, hp, rfl⟩)]
theorem omap_congr {ρ ρ' : Opd → D} (x : Option Opd) (h : ∀ y ∈ x.toList, ρ y = ρ' y) : x.map ρ = x.map ρ' := by
  cases x with
  | none => rfl
  | some y => simp only [Option.map_some]; rw [h y (by simp)]

theorem exec_congr {ρ ρ' : Opd → D} {i : I} (s : St) (h : ∀ x ∈ opnds i, ρ x = ρ' x) : exec ρ i s = exec ρ' i s := by
  cases i
  case build z ps => simp only [exec]; rw [ps_congr ps h]
  case bslice e sz len z ps => simp only [exec]; rw [ps_congr ps h]
  case mkfn f xs ys =>
    simp only [exec]
    rw [map_congr xs fun x hx => h x (by simp [opnds, hx]), map_congr ys fun x hx => h x (by simp [opnds, hx])]
  case slice sz x lo hi mx =>
    have hx : ρ x = ρ' x := h x (by simp [opnds])
    have h1 := omap_congr lo fun y hy => h y (by simp [opnds] at hy ⊢; simp [hy])
    have h2 := omap_congr hi fun y hy => h y (by simp [opnds] at hy ⊢; simp [hy])
    cases mx with
    | none => simp only [exec, hx, h1, h2]
    | some m =>
      have h3 : ρ m = ρ' m := h m (by simp [opnds])
      simp only [exec, hx, h1, h2, h3]
  case sliceS x lo hi =>
    have hx : ρ x = ρ' x := h x (by simp [opnds])
    have h1 := omap_congr lo fun y hy => h y (by simp [opnds] at hy ⊢; simp [hy])
    have h2 := omap_congr hi fun y hy => h y (by simp [opnds] at hy ⊢; simp [hy])
    simp only [exec, hx, h1, h2]
  case call => rfl
  case callv => rfl
  case panic => rfl
  all_goals
    simp only [opnds, List.mem_cons, List.not_mem_nil, or_false, forall_eq_or_imp, forall_eq] at h
    simp only [exec, h]

theorem opM_congr {cl : Cl} {ρ ρ' : Opd → D} {i : I} (h : ∀ x ∈ opnds i, ρ x = ρ' x) : opM cl ρ i = opM cl ρ' i := by
  funext s Q
  unfold opM
  split
  · rename_i f xs
    rw [map_congr xs fun x hx => h x hx]
  · rename_i x xs
    rw [h x (by simp [opnds]), map_congr xs fun y hy => h y (by simp [opnds, hy])]
  · rename_i x
    rw [h x (by simp [opnds])]
  · rw [exec_congr s h]

theorem exec_pure {ρ : Opd → D} {i : I} {s s' : St} {d : D} (hp : pureI i = true) (h : exec ρ i s = some (d, s')) : s' = s ∧ ∀ s2, exec ρ i s2 = some (d, s2) := by
  have key : ∃ f : Option D, ∀ s, exec ρ i s = f.map fun d => (d, s) := by
    refine ⟨(exec ρ i ⟨[], 0, 0⟩).map (·.1), fun s => ?_⟩
    cases i <;> first | (simp [pureI] at hp; done) | skip
    case len k x =>
      have hk : k ≠ 2 := by simpa [pureI] using hp
      simp only [exec]
      repeat' split
      all_goals first
        | (exact absurd rfl hk)
        | rfl
    case slice sz x lo hi mx =>
      cases mx with
      | none =>
        simp only [exec]
        repeat' split
        all_goals first
          | rfl
          | simp only [Option.map_map, Function.comp_def, Option.map_some, Option.map_none]
      | some m =>
        simp only [exec]
        repeat' split
        all_goals first
          | rfl
          | simp only [Option.map_map, Function.comp_def, Option.map_some, Option.map_none]
    all_goals
      simp only [exec]
      repeat' split
      all_goals first
        | rfl
        | simp only [Option.map_map, Function.comp_def, Option.map_some, Option.map_none]
  obtain ⟨f, hf⟩ := key
  rw [hf] at h
  cases f with
  | none => cases h
  | some d' =>
    simp only [Option.map_some, Option.some.injEq, Prod.mk.injEq] at h
    obtain ⟨rfl, rfl⟩ := h
    exact ⟨rfl, fun s2 => by rw [hf]; rfl⟩

theorem exec_read {ρ : Opd → D} {i : I} {s s' : St} {d : D} (hp : readI i = true) (h : exec ρ i s = some (d, s')) : s' = s := by
  by_cases hpu : pureI i = true
  · exact (exec_pure hpu h).1
  cases i <;> first | (exact absurd rfl hpu) | (simp [readI, pureI] at hp; done) | skip
  all_goals
    simp only [exec] at h
    repeat' split at h
    all_goals first
      | (cases h; done)
      | (simp only [Option.some.injEq, Prod.mk.injEq] at h; exact h.2.symm)
      | (simp only [Option.map_eq_some_iff, Prod.mk.injEq] at h; obtain ⟨_, _, -, h⟩ := h; exact h.symm)

theorem evO_set {T : List D} {dst : Option Nat} {d : D} {x : Opd} (h : ∀ k, dst = some k → k ∉ tmpOf x) : evO (setT T dst d) x = evO T x := by
  cases dst with
  | none => rfl
  | some k =>
    cases x with
    | c => rfl
    | t i =>
      have : i ≠ k := by
        have := h k rfl
        simp only [tmpOf, List.mem_singleton] at this
        exact fun e => this e.symm
      simp [evO, setT, List.getD_eq_getElem?_getD, List.getElem?_set, Ne.symm this]
theorem wants_set {T : List D} {dst : Option Nat} {d : D} {g : Option (Nat × Bool)} (h : ∀ k, dst = some k → ∀ t b, g = some (t, b) → t ≠ k) : wants (setT T dst d) g = wants T g := by
  cases g with
  | none => rfl
  | some p =>
    obtain ⟨t, b⟩ := p
    cases dst with
    | none => rfl
    | some k =>
      have := h k rfl t b rfl
      simp [wants, setT, List.getD_eq_getElem?_getD, List.getElem?_set, Ne.symm this]
theorem set_comm' (T : List D) {x y : Option Nat} (h : ∀ k, x = some k → y ≠ some k) (d e : D) : setT (setT T x d) y e = setT (setT T y e) x d := by
  cases x with
  | none => rfl
  | some i =>
    cases y with
    | none => rfl
    | some j =>
      have : i ≠ j := fun e => h i rfl (by rw [e])
      simp only [setT]
      exact List.set_comm _ _ this

def stepO (cl : Cl) (o : IOp) (T : List D) (Q : Ex × List D → St → Prop) (K : List D → St → Prop) (s : St) : Prop :=
  if wants T o.guard then opM cl (evO T) o.i s fun out s' => match out with
    | .ret d => K (setT T o.dst d) s'
    | .pan d => Q (.pan d, []) s'
  else K (setT T o.dst default) s
theorem opsM_cons (cl : Cl) (o : IOp) (rest : List IOp) (T : List D) (s : St) (Q : Ex × List D → St → Prop) : opsM cl (o :: rest) T s Q = stepO cl o T Q (fun T s => opsM cl rest T s Q) s := rfl

theorem stepO_mono {cl : Cl} (hm : MonoQ cl) {o : IOp} {T : List D} {Q : Ex × List D → St → Prop} {K K' : List D → St → Prop} (hk : ∀ T s, K T s → K' T s) {s : St} (h : stepO cl o T Q K s) : stepO cl o T Q K' s := by
  unfold stepO at *
  split
  · rename_i hw
    rw [if_pos hw] at h
    refine opM_mono (fun _ _ _ _ h => h) hm (fun r s' hr => ?_) h
    cases r with
    | ret d => exact hk _ _ hr
    | pan d => exact hr
  · rename_i hw
    rw [if_neg hw] at h
    exact hk _ _ h

/-- Does the operation not see the other's temporary? -/
theorem unseen {o : IOp} {dst : Option Nat} (h : ∀ k, dst = some k → k ∉ looks o) (T : List D) (d : D) :
    wants (setT T dst d) o.guard = wants T o.guard ∧ ∀ x ∈ opnds o.i, evO (setT T dst d) x = evO T x := by
  refine ⟨wants_set fun k hk t b hg e => ?_, fun x hx => evO_set fun k hk hm => ?_⟩
  · refine h k hk ?_
    unfold looks
    rw [hg]
    exact List.mem_append_right _ (by simp [e])
  · exact h k hk (List.mem_append_left _ (List.mem_flatMap.2 ⟨x, hx, hm⟩))
theorem apart_spec {x y : IOp} (h : apart x y = true) : (∀ k, x.dst = some k → k ∉ looks y) ∧ (∀ k, y.dst = some k → k ∉ looks x) ∧ (∀ k, x.dst = some k → y.dst ≠ some k) := by
  simp only [apart, Bool.and_eq_true, Bool.not_eq_true'] at h
  obtain ⟨⟨h1, h2⟩, h3⟩ := h
  refine ⟨fun k hk hm => ?_, fun k hk hm => ?_, fun k hk hy => ?_⟩
  · simp [dstIn, hk, hm] at h1
  · simp [dstIn, hk, hm] at h2
  · simp [hk, hy] at h3

theorem opM_exec {cl : Cl} {ρ : Opd → D} {i : I} (hc : isCall i = false) (s : St) (Q : Out → St → Prop) : opM cl ρ i s Q = match exec ρ i s with
    | some (d, s') => Q (.ret d) s'
    | none => False := by
  unfold opM
  split
  · cases hc
  · cases hc
  · cases hc
  · rfl
theorem pure_noCall {i : I} (h : pureI i = true) : isCall i = false := by cases i <;> first | rfl | (simp [pureI] at h; done)
theorem read_noCall {i : I} (h : readI i = true) : isCall i = false := by cases i <;> first | rfl | (simp [readI, pureI] at h; done)

theorem swap_pure {cl : Cl} (hm : MonoQ cl) {x y : IOp} (ha : apart x y = true) (hx : pureI x.i = true) {T : List D} {Q : Ex × List D → St → Prop} {K : List D → St → Prop} {s : St}
    (h : stepO cl x T Q (fun T s => stepO cl y T Q K s) s) : stepO cl y T Q (fun T s => stepO cl x T Q K s) s := by
  obtain ⟨a1, a2, a3⟩ := apart_spec ha
  -- what x yields, wherever it is done
  have key : ∃ d, (∀ (T' : List D) (s' : St) (K' : List D → St → Prop), (wants T' x.guard = wants T x.guard) → (∀ z ∈ opnds x.i, evO T' z = evO T z) → K' (setT T' x.dst d) s' → stepO cl x T' Q K' s') ∧ stepO cl y (setT T x.dst d) Q K s := by
    unfold stepO at h
    split at h
    · rename_i hw
      rw [opM_exec (pure_noCall hx)] at h
      split at h
      case h_2 => exact h.elim
      rename_i d s1 he
      obtain ⟨rfl, hall⟩ := exec_pure hx he
      refine ⟨d, fun T' s' K' h1 h2 hk => ?_, h⟩
      unfold stepO
      rw [if_pos (by rw [h1]; exact hw), opM_exec (pure_noCall hx), exec_congr s' h2, hall]
      exact hk
    · rename_i hw
      refine ⟨default, fun T' s' K' h1 h2 hk => ?_, h⟩
      unfold stepO
      rw [if_neg (by rw [h1]; exact hw)]
      exact hk
  obtain ⟨d, k1, k2⟩ := key
  obtain ⟨u1, u2⟩ := unseen a1 T d
  unfold stepO at k2
  rw [u1, opM_congr u2] at k2
  unfold stepO
  split
  · rename_i hw
    rw [if_pos hw] at k2
    refine opM_mono (fun _ _ _ _ h => h) hm (fun r s' hr => ?_) k2
    cases r with
    | ret d' =>
      obtain ⟨v1, v2⟩ := unseen a2 T d'
      refine k1 _ _ _ v1 v2 ?_
      rw [← set_comm' T a3]
      exact hr
    | pan d' => exact hr
  · rename_i hw
    rw [if_neg hw] at k2
    obtain ⟨v1, v2⟩ := unseen a2 T default
    refine k1 _ _ _ v1 v2 ?_
    rw [← set_comm' T a3]
    exact k2

/-- An operation that is done by exec: what it does. -/
theorem step_exec {cl : Cl} {x : IOp} (hc : isCall x.i = false) {T : List D} {Q : Ex × List D → St → Prop} {K : List D → St → Prop} {s : St} (h : stepO cl x T Q K s) :
    ∃ d s1, K (setT T x.dst d) s1 ∧ (readI x.i = true → s1 = s) ∧ (pureI x.i = true → ∀ (T' : List D) (s' : St) (K' : List D → St → Prop), (wants T' x.guard = wants T x.guard) → (∀ z ∈ opnds x.i, evO T' z = evO T z) → K' (setT T' x.dst d) s' → stepO cl x T' Q K' s') ∧
      ∀ (T' : List D) (K' : List D → St → Prop), (wants T' x.guard = wants T x.guard) → (∀ z ∈ opnds x.i, evO T' z = evO T z) → K' (setT T' x.dst d) s1 → stepO cl x T' Q K' s := by
  unfold stepO at h
  split at h
  · rename_i hw
    rw [opM_exec hc] at h
    split at h
    case h_2 => exact h.elim
    rename_i d s1 he
    refine ⟨d, s1, h, fun hr => exec_read hr he, fun hp T' s' K' h1 h2 hk => ?_, fun T' K' h1 h2 hk => ?_⟩
    · unfold stepO
      rw [if_pos (by rw [h1]; exact hw), opM_exec hc, exec_congr s' h2, (exec_pure hp he).2]
      exact hk
    · unfold stepO
      rw [if_pos (by rw [h1]; exact hw), opM_exec hc, exec_congr s h2, he]
      exact hk
  · rename_i hw
    refine ⟨default, s, h, fun _ => rfl, fun hp T' s' K' h1 h2 hk => ?_, fun T' K' h1 h2 hk => ?_⟩
    · unfold stepO
      rw [if_neg (by rw [h1]; exact hw)]
      exact hk
    · unfold stepO
      rw [if_neg (by rw [h1]; exact hw)]
      exact hk

theorem swap_ok {cl : Cl} (hm : MonoQ cl) {x y : IOp} (hc : compat x y = true) {T : List D} {Q : Ex × List D → St → Prop} {K : List D → St → Prop} {s : St}
    (h : stepO cl x T Q (fun T s => stepO cl y T Q K s) s) : stepO cl y T Q (fun T s => stepO cl x T Q K s) s := by
  simp only [compat, Bool.and_eq_true, Bool.or_eq_true, Bool.not_eq_true'] at hc
  obtain ⟨ha, hc⟩ := hc
  obtain ⟨a1, a2, a3⟩ := apart_spec ha
  rcases hc with (hx | ⟨hy, hx⟩) | ⟨hx, hy⟩
  · exact swap_pure hm ha hx h
  · obtain ⟨d, s1, g1, _, _, g2⟩ := step_exec hx h
    obtain ⟨e, s2, k1, k0, k2, _⟩ := step_exec (pure_noCall hy) g1
    obtain ⟨u1, u2⟩ := unseen a1 T d
    obtain ⟨v1, v2⟩ := unseen a2 T e
    refine k2 hy T s _ u1.symm (fun z hz => (u2 z hz).symm) ?_
    refine g2 _ _ v1 v2 ?_
    rw [← set_comm' T a3]
    have : s2 = s1 := k0 (by cases hh : y.i <;> simp_all [readI, pureI])
    rw [← this]
    exact k1
  · obtain ⟨d, s1, g1, g0, _, g2⟩ := step_exec (read_noCall hx) h
    have e1 := g0 hx
    subst e1
    obtain ⟨e, s2, k1, k0, _, k2⟩ := step_exec (read_noCall hy) g1
    have e2 := k0 hy
    subst e2
    obtain ⟨u1, u2⟩ := unseen a1 T d
    obtain ⟨v1, v2⟩ := unseen a2 T e
    refine k2 T _ u1.symm (fun z hz => (u2 z hz).symm) ?_
    refine g2 _ _ v1 v2 ?_
    rw [← set_comm' T a3]
    exact k1
end Go.Ai
