/-
  A part of an interpreter over abstract data, proved sound once for the model: what it says of the code, the machine does in every order. Conditions: none beyond the statement.
-/
import Derived.Test.YtemeabkpllolmaaGreatDoorInt5
/-! Regions whose order does not matter. -/
set_option linter.unusedVariables false
set_option linter.unusedSimpArgs false
namespace Go.Ai

theorem map_congr {ρ ρ' : Opd → D} : ∀ (xs : List Opd), (∀ x ∈ xs, ρ x = ρ' x) → xs.map ρ = xs.map ρ' := fun xs h => List.map_congr_left h
theorem ps_congr {ρ ρ' : Opd → D} (ps : List (Nat × Nat × Opd)) (h : ∀ x ∈ ps.map (·.2.2), ρ x = ρ' x) : ps.map (fun p => (p.1, p.2.1, ρ p.2.2)) = ps.map (fun p => (p.1, p.2.1, ρ' p.2.2)) :=
  List.map_congr_left fun p hp => by rw [h _ (List.mem_map.2 ⟨p, hp, rfl⟩)]
theorem omap_congr {ρ ρ' : Opd → D} (x : Option Opd) (h : ∀ y ∈ x.toList, ρ y = ρ' y) : x.map ρ = x.map ρ' := by
  cases x with
  | none => rfl
  | some y => simp only [Option.map_some]; rw [h y (by simp)]

theorem exec_congr {ρ ρ' : Opd → D} {i : I} (s : St) (h : ∀ x ∈ opnds i, ρ x = ρ' x) : exec ρ i s = exec ρ' i s := by
  cases i
  case build z ps => simp only [exec]; rw [ps_congr ps h]
  case bslice e sz len z ps => simp only [exec]; rw [ps_congr ps h]
  case mkfn f xs ys =>
    simp only [exec]
    rw [map_congr xs fun x hx => h x (by simp [opnds, hx]), map_congr ys fun x hx => h x (by simp [opnds, hx])]
  case slice sz x lo hi mx =>
    have hx : ρ x = ρ' x := h x (by simp [opnds])
    have h1 := omap_congr lo fun y hy => h y (by simp [opnds] at hy ⊢; simp [hy])
    have h2 := omap_congr hi fun y hy => h y (by simp [opnds] at hy ⊢; simp [hy])
    cases mx with
    | none => simp only [exec, hx, h1, h2]
    | some m =>
      have h3 : ρ m = ρ' m := h m (by simp [opnds])
      simp only [exec, hx, h1, h2, h3]
  case sliceS x lo hi =>
    have hx : ρ x = ρ' x := h x (by simp [opnds])
    have h1 := omap_congr lo fun y hy => h y (by simp [opnds] at hy ⊢; simp [hy])
    have h2 := omap_congr hi fun y hy => h y (by simp [opnds] at hy ⊢; simp [hy])
    simp only [exec, hx, h1, h2]
  case call => rfl
  case callv => rfl
  case panic => rfl
  case next => rfl
  all_goals
    simp only [opnds, List.mem_cons, List.not_mem_nil, or_false, forall_eq_or_imp, forall_eq] at h
    simp only [exec, h]

theorem opM_congr {cl : Cl} {ρ ρ' : Opd → D} {i : I} (h : ∀ x ∈ opnds i, ρ x = ρ' x) : opM cl ρ i = opM cl ρ' i := by
  funext s Q
  unfold opM
  split
  · rename_i f xs
    rw [map_congr xs fun x hx => h x hx]
  · rename_i x xs
    rw [h x (by simp [opnds]), map_congr xs fun y hy => h y (by simp [opnds, hy])]
  · rename_i x
    rw [h x (by simp [opnds])]
  · rename_i x
    rw [h x (by simp [opnds])]
  · rw [exec_congr s h]

theorem exec_pure {ρ : Opd → D} {i : I} {s s' : St} {d : D} (hp : pureI i = true) (h : exec ρ i s = some (d, s')) : s' = s ∧ ∀ s2, exec ρ i s2 = some (d, s2) := by
  have key : ∃ f : Option D, ∀ s, exec ρ i s = f.map fun d => (d, s) := by
    refine ⟨(exec ρ i ⟨[], 0, 0⟩).map (·.1), fun s => ?_⟩
    cases i <;> first | (simp [pureI] at hp; done) | skip
    case len k x =>
      have hk : k ≠ 2 := by simpa [pureI] using hp
      simp only [exec]
      repeat' split
      all_goals first
        | (exact absurd rfl hk)
        | rfl
    case slice sz x lo hi mx =>
      cases mx with
      | none =>
        simp only [exec]
        repeat' split
        all_goals first
          | rfl
          | simp only [Option.map_map, Function.comp_def, Option.map_some, Option.map_none]
      | some m =>
        simp only [exec]
        repeat' split
        all_goals first
          | rfl
          | simp only [Option.map_map, Function.comp_def, Option.map_some, Option.map_none]
    all_goals
      simp only [exec]
      repeat' split
      all_goals first
        | rfl
        | simp only [Option.map_map, Function.comp_def, Option.map_some, Option.map_none]
  obtain ⟨f, hf⟩ := key
  rw [hf] at h
  cases f with
  | none => cases h
  | some d' =>
    simp only [Option.map_some, Option.some.injEq, Prod.mk.injEq] at h
    obtain ⟨rfl, rfl⟩ := h
    exact ⟨rfl, fun s2 => by rw [hf]; rfl⟩

theorem exec_read {ρ : Opd → D} {i : I} {s s' : St} {d : D} (hp : readI i = true) (h : exec ρ i s = some (d, s')) : s' = s := by
  by_cases hpu : pureI i = true
  · exact (exec_pure hpu h).1
  cases i <;> first | (exact absurd rfl hpu) | (simp [readI, pureI] at hp; done) | skip
  all_goals
    simp only [exec] at h
    repeat' split at h
    all_goals first
      | (cases h; done)
      | (simp only [Option.some.injEq, Prod.mk.injEq] at h; exact h.2.symm)
      | (simp only [Option.map_eq_some_iff, Prod.mk.injEq] at h; obtain ⟨_, _, -, h⟩ := h; exact h.symm)

theorem evO_set {T : List D} {dst : Option Nat} {d : D} {x : Opd} (h : ∀ k, dst = some k → k ∉ tmpOf x) : evO (setT T dst d) x = evO T x := by
  cases dst with
  | none => rfl
  | some k =>
    cases x with
    | c => rfl
    | t i =>
      have : i ≠ k := by
        have := h k rfl
        simp only [tmpOf, List.mem_singleton] at this
        exact fun e => this e.symm
      simp [evO, setT, List.getD_eq_getElem?_getD, List.getElem?_set, Ne.symm this]
theorem wants_set {T : List D} {dst : Option Nat} {d : D} {g : Option (Nat × Bool)} (h : ∀ k, dst = some k → ∀ t b, g = some (t, b) → t ≠ k) : wants (setT T dst d) g = wants T g := by
  cases g with
  | none => rfl
  | some p =>
    obtain ⟨t, b⟩ := p
    cases dst with
    | none => rfl
    | some k =>
      have := h k rfl t b rfl
      simp [wants, setT, List.getD_eq_getElem?_getD, List.getElem?_set, Ne.symm this]
theorem set_comm' (T : List D) {x y : Option Nat} (h : ∀ k, x = some k → y ≠ some k) (d e : D) : setT (setT T x d) y e = setT (setT T y e) x d := by
  cases x with
  | none => rfl
  | some i =>
    cases y with
    | none => rfl
    | some j =>
      have : i ≠ j := fun e => h i rfl (by rw [e])
      simp only [setT]
      exact List.set_comm _ _ this

def stepO (cl : Cl) (o : IOp) (T : List D) (Q : Ex × List D → St → Prop) (K : List D → St → Prop) (s : St) : Prop :=
  if wants T o.guard then opM cl (evO T) o.i s fun out s' => match out with
    | .ret d => K (setT T o.dst d) s'
    | .pan d => Q (.pan d, []) s'
  else K (setT T o.dst default) s
theorem opsM_cons (cl : Cl) (o : IOp) (rest : List IOp) (T : List D) (s : St) (Q : Ex × List D → St → Prop) : opsM cl (o :: rest) T s Q = stepO cl o T Q (fun T s => opsM cl rest T s Q) s := rfl

theorem stepO_mono {cl : Cl} (hm : MonoQ cl) {o : IOp} {T : List D} {Q : Ex × List D → St → Prop} {K K' : List D → St → Prop} (hk : ∀ T s, K T s → K' T s) {s : St} (h : stepO cl o T Q K s) : stepO cl o T Q K' s := by
  unfold stepO at *
  split
  · rename_i hw
    rw [if_pos hw] at h
    refine opM_mono (fun _ _ _ _ h => h) hm (fun r s' hr => ?_) h
    cases r with
    | ret d => exact hk _ _ hr
    | pan d => exact hr
  · rename_i hw
    rw [if_neg hw] at h
    exact hk _ _ h

/-- Does the operation not see the other's temporary? -/
theorem unseen {o : IOp} {dst : Option Nat} (h : ∀ k, dst = some k → k ∉ looks o) (T : List D) (d : D) :
    wants (setT T dst d) o.guard = wants T o.guard ∧ ∀ x ∈ opnds o.i, evO (setT T dst d) x = evO T x := by
  refine ⟨wants_set fun k hk t b hg e => ?_, fun x hx => evO_set fun k hk hm => ?_⟩
  · refine h k hk ?_
    unfold looks
    rw [hg]
    exact List.mem_append_right _ (by simp [e])
  · exact h k hk (List.mem_append_left _ (List.mem_flatMap.2 ⟨x, hx, hm⟩))
theorem apart_spec {x y : IOp} (h : apart x y = true) : (∀ k, x.dst = some k → k ∉ looks y) ∧ (∀ k, y.dst = some k → k ∉ looks x) ∧ (∀ k, x.dst = some k → y.dst ≠ some k) := by
  simp only [apart, Bool.and_eq_true, Bool.not_eq_true'] at h
  obtain ⟨⟨h1, h2⟩, h3⟩ := h
  refine ⟨fun k hk hm => ?_, fun k hk hm => ?_, fun k hk hy => ?_⟩
  · simp [dstIn, hk, hm] at h1
  · simp [dstIn, hk, hm] at h2
  · simp [hk, hy] at h3

theorem opM_exec {cl : Cl} {ρ : Opd → D} {i : I} (hc : isCall i = false) (s : St) (Q : Out → St → Prop) : opM cl ρ i s Q = match exec ρ i s with
    | some (d, s') => Q (.ret d) s'
    | none => False := by
  unfold opM
  split
  · cases hc
  · cases hc
  · cases hc
  · cases hc
  · rfl
theorem pure_noCall {i : I} (h : pureI i = true) : isCall i = false := by cases i <;> first | rfl | (simp [pureI] at h; done)
theorem read_noCall {i : I} (h : readI i = true) : isCall i = false := by cases i <;> first | rfl | (simp [readI, pureI] at h; done)

theorem swap_pure {cl : Cl} (hm : MonoQ cl) {x y : IOp} (ha : apart x y = true) (hx : pureI x.i = true) {T : List D} {Q : Ex × List D → St → Prop} {K : List D → St → Prop} {s : St}
    (h : stepO cl x T Q (fun T s => stepO cl y T Q K s) s) : stepO cl y T Q (fun T s => stepO cl x T Q K s) s := by
  obtain ⟨a1, a2, a3⟩ := apart_spec ha
  -- what x yields, wherever it is done
  have key : ∃ d, (∀ (T' : List D) (s' : St) (K' : List D → St → Prop), (wants T' x.guard = wants T x.guard) → (∀ z ∈ opnds x.i, evO T' z = evO T z) → K' (setT T' x.dst d) s' → stepO cl x T' Q K' s') ∧ stepO cl y (setT T x.dst d) Q K s := by
    unfold stepO at h
    split at h
    · rename_i hw
      rw [opM_exec (pure_noCall hx)] at h
      split at h
      case h_2 => exact h.elim
      rename_i d s1 he
      obtain ⟨rfl, hall⟩ := exec_pure hx he
      refine ⟨d, fun T' s' K' h1 h2 hk => ?_, h⟩
      unfold stepO
      rw [if_pos (by rw [h1]; exact hw), opM_exec (pure_noCall hx), exec_congr s' h2, hall]
      exact hk
    · rename_i hw
      refine ⟨default, fun T' s' K' h1 h2 hk => ?_, h⟩
      unfold stepO
      rw [if_neg (by rw [h1]; exact hw)]
      exact hk
  obtain ⟨d, k1, k2⟩ := key
  obtain ⟨u1, u2⟩ := unseen a1 T d
  unfold stepO at k2
  rw [u1, opM_congr u2] at k2
  unfold stepO
  split
  · rename_i hw
    rw [if_pos hw] at k2
    refine opM_mono (fun _ _ _ _ h => h) hm (fun r s' hr => ?_) k2
    cases r with
    | ret d' =>
      obtain ⟨v1, v2⟩ := unseen a2 T d'
      refine k1 _ _ _ v1 v2 ?_
      rw [← set_comm' T a3]
      exact hr
    | pan d' => exact hr
  · rename_i hw
    rw [if_neg hw] at k2
    obtain ⟨v1, v2⟩ := unseen a2 T default
    refine k1 _ _ _ v1 v2 ?_
    rw [← set_comm' T a3]
    exact k2

/-- An operation that is done by exec: what it does. -/
theorem step_exec {cl : Cl} {x : IOp} (hc : isCall x.i = false) {T : List D} {Q : Ex × List D → St → Prop} {K : List D → St → Prop} {s : St} (h : stepO cl x T Q K s) :
    ∃ d s1, K (setT T x.dst d) s1 ∧ (readI x.i = true → s1 = s) ∧ (pureI x.i = true → ∀ (T' : List D) (s' : St) (K' : List D → St → Prop), (wants T' x.guard = wants T x.guard) → (∀ z ∈ opnds x.i, evO T' z = evO T z) → K' (setT T' x.dst d) s' → stepO cl x T' Q K' s') ∧
      ∀ (T' : List D) (K' : List D → St → Prop), (wants T' x.guard = wants T x.guard) → (∀ z ∈ opnds x.i, evO T' z = evO T z) → K' (setT T' x.dst d) s1 → stepO cl x T' Q K' s := by
  unfold stepO at h
  split at h
  · rename_i hw
    rw [opM_exec hc] at h
    split at h
    case h_2 => exact h.elim
    rename_i d s1 he
    refine ⟨d, s1, h, fun hr => exec_read hr he, fun hp T' s' K' h1 h2 hk => ?_, fun T' K' h1 h2 hk => ?_⟩
    · unfold stepO
      rw [if_pos (by rw [h1]; exact hw), opM_exec hc, exec_congr s' h2, (exec_pure hp he).2]
      exact hk
    · unfold stepO
      rw [if_pos (by rw [h1]; exact hw), opM_exec hc, exec_congr s h2, he]
      exact hk
  · rename_i hw
    refine ⟨default, s, h, fun _ => rfl, fun hp T' s' K' h1 h2 hk => ?_, fun T' K' h1 h2 hk => ?_⟩
    · unfold stepO
      rw [if_neg (by rw [h1]; exact hw)]
      exact hk
    · unfold stepO
      rw [if_neg (by rw [h1]; exact hw)]
      exact hk

theorem swap_ok {cl : Cl} (hm : MonoQ cl) {x y : IOp} (hc : compat x y = true) {T : List D} {Q : Ex × List D → St → Prop} {K : List D → St → Prop} {s : St}
    (h : stepO cl x T Q (fun T s => stepO cl y T Q K s) s) : stepO cl y T Q (fun T s => stepO cl x T Q K s) s := by
  simp only [compat, Bool.and_eq_true, Bool.or_eq_true, Bool.not_eq_true'] at hc
  obtain ⟨ha, hc⟩ := hc
  obtain ⟨a1, a2, a3⟩ := apart_spec ha
  rcases hc with (hx | ⟨hy, hx⟩) | ⟨hx, hy⟩
  · exact swap_pure hm ha hx h
  · obtain ⟨d, s1, g1, _, _, g2⟩ := step_exec hx h
    obtain ⟨e, s2, k1, k0, k2, _⟩ := step_exec (pure_noCall hy) g1
    obtain ⟨u1, u2⟩ := unseen a1 T d
    obtain ⟨v1, v2⟩ := unseen a2 T e
    refine k2 hy T s _ u1.symm (fun z hz => (u2 z hz).symm) ?_
    refine g2 _ _ v1 v2 ?_
    rw [← set_comm' T a3]
    have : s2 = s1 := k0 (by cases hh : y.i <;> simp_all [readI, pureI])
    rw [← this]
    exact k1
  · obtain ⟨d, s1, g1, g0, _, g2⟩ := step_exec (read_noCall hx) h
    have e1 := g0 hx
    subst e1
    obtain ⟨e, s2, k1, k0, _, k2⟩ := step_exec (read_noCall hy) g1
    have e2 := k0 hy
    subst e2
    obtain ⟨u1, u2⟩ := unseen a1 T d
    obtain ⟨v1, v2⟩ := unseen a2 T e
    refine k2 T _ u1.symm (fun z hz => (u2 z hz).symm) ?_
    refine g2 _ _ v1 v2 ?_
    rw [← set_comm' T a3]
    exact k1
end Go.Ai
/-! Regions whose order does not matter: one order is enough. -/
set_option linter.unusedVariables false
set_option linter.unusedSimpArgs false
namespace Go.Ai

/-- All orders, names as they come. -/
def drawQ (cl : Cl) (ops : List IOp) : Nat → List Bool → List D → MC
  | 0, l, T => fun s Q => readyD ops l = [] ∧ Q (.nrm, T) s
  | k + 1, l, T => fun s Q => (readyD ops l = [] → Q (.nrm, T) s) ∧ ∀ i ∈ readyD ops l, stepO cl (atO ops i) T Q (fun T s => drawQ cl ops k (l.set i true) T s Q) s

theorem nodupB_ok : ∀ (c : List Nat), nodupB c = true → c.Nodup
  | [], _ => List.nodup_nil
  | i :: rest, h => by
    simp only [nodupB, Bool.and_eq_true, Bool.not_eq_true'] at h
    refine List.nodup_cons.2 ⟨fun hm => ?_, nodupB_ok rest h.2⟩
    simp [hm] at h

theorem chk_ok (ops : List IOp) (anc : List (List Nat)) : ∀ (c done : List Nat), chk ops anc done c = true → c.Nodup → (∀ i ∈ c, i ∉ done) →
    c.Pairwise (fun i j => i ∈ anc.getD j [] ∨ compat (atO ops i) (atO ops j) = true) ∧ c.Pairwise (fun i j => j ∉ (atO ops i).af) ∧ ∀ i ∈ c, i ∉ (atO ops i).af
  | [], _, _, _, _ => ⟨.nil, .nil, fun i hi => by simp at hi⟩
  | i :: rest, done, h, hn, hd => by
    simp only [chk, Bool.and_eq_true, List.all_eq_true, Bool.or_eq_true, List.contains_iff_mem] at h
    obtain ⟨⟨h1, h2⟩, h3⟩ := h
    have hn' := List.nodup_cons.1 hn
    obtain ⟨g1, g2, g3⟩ := chk_ok ops anc rest (i :: done) h3 hn'.2 (fun j hj hm => by
      rcases List.mem_cons.1 hm with e | e
      · subst e; exact hn'.1 hj
      · exact hd j (List.mem_cons_of_mem _ hj) e)
    refine ⟨List.pairwise_cons.2 ⟨fun j hj => h2 j hj, g1⟩, List.pairwise_cons.2 ⟨fun j hj hm => hd j (List.mem_cons_of_mem _ hj) (h1 j hm), g2⟩, fun j hj => ?_⟩
    rcases List.mem_cons.1 hj with e | e
    · subst e; exact fun hm => hd j (List.mem_cons_self ..) (h1 j hm)
    · exact g3 j e

theorem getD_lt_true (l : List Bool) (k : Nat) (h : l.getD k false = true) : k < l.length := by
  rcases Nat.lt_or_ge k l.length with h1 | h1
  · exact h1
  · simp [List.getD_eq_getElem?_getD, List.getElem?_eq_none, h1] at h

theorem mem_readyD {ops : List IOp} {l : List Bool} {i : Nat} : i ∈ readyD ops l ↔ i < ops.length ∧ l.getD i true = false ∧ ∀ k ∈ (atO ops i).af, l.getD k false = true := by
  unfold readyD
  rw [List.mem_filter, List.mem_range]
  constructor
  · rintro ⟨h1, h2⟩
    have e : ops[i]? = some (atO ops i) := by simp [atO, List.getD_eq_getElem?_getD, h1]
    simp only [e, Option.map_some, Option.getD_some, Bool.and_eq_true, Bool.not_eq_true', List.all_eq_true] at h2
    exact ⟨h1, h2.1, h2.2⟩
  · rintro ⟨h1, h2, h3⟩
    have e : ops[i]? = some (atO ops i) := by simp [atO, List.getD_eq_getElem?_getD, h1]
    refine ⟨h1, ?_⟩
    simp only [e, Option.map_some, Option.getD_some, Bool.and_eq_true, Bool.not_eq_true', List.all_eq_true]
    exact ⟨h2, h3⟩

theorem opsM_mono1 {cl : Cl} (hm : MonoQ cl) {ops : List IOp} {T : List D} {s : St} {Q Q' : Ex × List D → St → Prop} (h : ∀ r s, Q r s → Q' r s) (hh : opsM cl ops T s Q) : opsM cl ops T s Q' :=
  opsM_mono (fun _ _ _ _ h => h) hm h ops T s hh

/-- A ready operation may come first. -/
theorem bubble {cl : Cl} (hm : MonoQ cl) (y : IOp) (post : List IOp) : ∀ (pre : List IOp), (∀ x ∈ pre, compat x y = true) → ∀ (T : List D) (s : St) (Q : Ex × List D → St → Prop), opsM cl (pre ++ y :: post) T s Q → stepO cl y T Q (fun T s => opsM cl (pre ++ post) T s Q) s
  | [], _, T, s, Q, h => h
  | x :: pre, hc, T, s, Q, h => by
    rw [List.cons_append, opsM_cons] at h
    have := stepO_mono hm (fun T s h => bubble hm y post pre (fun z hz => hc z (List.mem_cons_of_mem _ hz)) T s Q h) h
    exact swap_ok hm (hc x (List.mem_cons_self ..)) this

theorem quiet_go {cl : Cl} (hm : MonoQ cl) {ops : List IOp} {anc : List (List Nat)} (hlt : ∀ i, i < ops.length → ∀ k ∈ (atO ops i).af, k < ops.length)
    (hanc : ∀ i, i < ops.length → ∀ j ∈ anc.getD i [], j ∈ (atO ops i).af ∨ ∃ k ∈ (atO ops i).af, j ∈ anc.getD k []) {Q : Ex × List D → St → Prop} : ∀ (fuel : Nat) (r : List Nat) (l : List Bool) (T : List D) (s : St),
    r.length = fuel → l.length = ops.length → (∀ i, i ∈ r ↔ i < ops.length ∧ l.getD i true = false) → r.Nodup →
    r.Pairwise (fun i j => i ∈ anc.getD j [] ∨ compat (atO ops i) (atO ops j) = true) → r.Pairwise (fun i j => j ∉ (atO ops i).af) → (∀ i ∈ r, i ∉ (atO ops i).af) →
    (∀ k, l.getD k false = true → ∀ j ∈ anc.getD k [], l.getD j false = true) → opsM cl (r.map (atO ops)) T s Q → drawQ cl ops fuel l T s Q := by
  intro fuel
  have none_ready : ∀ (l : List Bool), (∀ i, ¬ (i < ops.length ∧ l.getD i true = false)) → readyD ops l = [] := by
    intro l hl
    refine List.eq_nil_iff_forall_not_mem.2 fun i hi => ?_
    have := mem_readyD.1 hi
    exact hl i ⟨this.1, this.2.1⟩
  induction fuel with
  | zero =>
    intro r l T s hf hl hr hn hp hd hs hac h
    have : r = [] := List.length_eq_zero_iff.1 hf
    subst this
    exact ⟨none_ready l fun i hi => by have := (hr i).2 hi; simp at this, h⟩
  | succ fuel ih =>
    intro r l T s hf hl hr hn hp hd hs hac h
    refine ⟨fun e => ?_, fun i hi => ?_⟩
    · exfalso
      cases r with
      | nil => simp at hf
      | cons i rest =>
        obtain ⟨h1, h2⟩ := (hr i).1 (List.mem_cons_self ..)
        have : i ∈ readyD ops l := by
          refine mem_readyD.2 ⟨h1, h2, fun k hk => ?_⟩
          have hkl := hlt i h1 k hk
          cases hb : l.getD k false with
          | true => rfl
          | false =>
            have hb' : l.getD k true = false := by
              have : k < l.length := by omega
              simpa [List.getD_eq_getElem?_getD, this] using hb
            rcases List.mem_cons.1 ((hr k).2 ⟨hkl, hb'⟩) with e' | e'
            · subst e'; exact absurd hk (hs k (List.mem_cons_self ..))
            · exact absurd hk ((List.pairwise_cons.1 hd).1 k e')
        rw [e] at this
        simp at this
    · obtain ⟨h1, h2, h3⟩ := mem_readyD.1 hi
      obtain ⟨r1, r2, rfl⟩ := List.append_of_mem ((hr i).2 ⟨h1, h2⟩)
      have hdown : ∀ j ∈ anc.getD i [], l.getD j false = true := by
        intro j hj
        rcases hanc i h1 j hj with g | ⟨k, g1, g2⟩
        · exact h3 j g
        · exact hac k (h3 k g1) j g2
      have hcomp : ∀ x ∈ r1.map (atO ops), compat x (atO ops i) = true := by
        intro x hx
        obtain ⟨j, hj, rfl⟩ := List.mem_map.1 hx
        rcases (List.pairwise_append.1 hp).2.2 j hj i (List.mem_cons_self ..) with g | g
        · exfalso
          have := hdown j g
          have hj' := (hr j).1 (List.mem_append_left _ hj)
          have hjl : j < l.length := by omega
          simp [List.getD_eq_getElem?_getD, hjl] at this hj'
          rw [this] at hj'
          exact absurd hj'.2 (by simp)
        · exact g
      rw [List.map_append, List.map_cons] at h
      have hb := bubble hm (atO ops i) (r2.map (atO ops)) (r1.map (atO ops)) hcomp T s Q h
      have hsub : (r1 ++ r2).Sublist (r1 ++ i :: r2) := List.Sublist.append_left (List.sublist_cons_self ..) _
      have hni : i ∉ r1 ++ r2 := by
        intro hm'
        have := List.nodup_append.1 hn
        rcases List.mem_append.1 hm' with g | g
        · exact this.2.2 i g i (List.mem_cons_self ..) rfl
        · exact (List.nodup_cons.1 this.2.1).1 g
      refine stepO_mono hm (fun T s hh => ?_) hb
      refine ih (r1 ++ r2) (l.set i true) T s (by simp at hf ⊢; omega) (by simpa using hl) (fun j => ?_) (hn.sublist hsub) (hp.sublist hsub) (hd.sublist hsub) (fun j hj => hs j (hsub.subset hj)) (fun k hk j hj => ?_) (by rw [List.map_append]; exact hh)
      · constructor
        · intro hj
          have hji : j ≠ i := fun e => hni (e ▸ hj)
          obtain ⟨g1, g2⟩ := (hr j).1 (hsub.subset hj)
          exact ⟨g1, by simpa [List.getD_eq_getElem?_getD, List.getElem?_set, Ne.symm hji] using g2⟩
        · rintro ⟨g1, g2⟩
          have hji : j ≠ i := by
            intro e
            subst e
            have : j < l.length := by omega
            simp [List.getD_eq_getElem?_getD, this] at g2
          have g3 : l.getD j true = false := by simpa [List.getD_eq_getElem?_getD, List.getElem?_set, Ne.symm hji] using g2
          rcases List.mem_append.1 ((hr j).2 ⟨g1, g3⟩) with g | g
          · exact List.mem_append_left _ g
          · rcases List.mem_cons.1 g with e | e
            · exact absurd e hji
            · exact List.mem_append_right _ e
      · have keep : ∀ j, l.getD j false = true → (l.set i true).getD j false = true := by
          intro j hj
          by_cases hji : j = i
          · subst hji
            have := getD_lt_true _ _ hj
            simp [List.getD_eq_getElem?_getD, this]
          · simpa [List.getD_eq_getElem?_getD, List.getElem?_set, Ne.symm hji] using hj
        by_cases hki : k = i
        · subst hki; exact keep j (hdown j hj)
        · have hk' : l.getD k false = true := by simpa [List.getD_eq_getElem?_getD, List.getElem?_set, Ne.symm hki] using hk
          exact keep j (hac k hk' j hj)

theorem quiet_draw {cl : Cl} (hm : MonoQ cl) {ops l : List IOp} (hq : quietOrder ops = some l) {T : List D} {s : St} {Q : Ex × List D → St → Prop} (h : opsM cl l T s Q) : drawQ cl ops ops.length (List.replicate ops.length false) T s Q := by
  unfold quietOrder at hq
  dsimp only at hq
  split at hq
  case isFalse => cases hq
  rename_i hok
  simp only [Option.some.injEq] at hq
  subst hq
  generalize topo ops ops.length [] = c at *
  generalize ancs ops [] = anc at *
  simp only [okOrder, Bool.and_eq_true, beq_iff_eq, List.all_eq_true, Bool.or_eq_true, List.contains_iff_mem, List.any_eq_true, List.mem_range, Nat.blt_eq] at hok
  obtain ⟨⟨⟨⟨⟨⟨h1, hall⟩, h2⟩, h3⟩, h4⟩, h5⟩, h6⟩ := hok
  have hnd := nodupB_ok c h3
  obtain ⟨g1, g2, g3⟩ := chk_ok ops anc c [] h6 hnd (fun _ _ h => by simp at h)
  refine quiet_go hm (anc := anc) (fun i hi k hk => ?_) h5 ops.length c _ T s h1 (by simp) (fun i => ⟨fun hi => ⟨h2 i hi, by simp [List.getD_eq_getElem?_getD, h2 i hi]⟩, fun hi => hall i hi.1⟩) hnd g1 g2 g3 (fun k hk => by
    have := getD_lt_true _ _ hk
    rw [List.length_replicate] at this
    simp [List.getD_eq_getElem?_getD, this] at hk) h
  have e : ops[i]? = some (atO ops i) := by simp [atO, List.getD_eq_getElem?_getD, hi]
  exact h4 _ (List.mem_of_getElem? e) k hk
end Go.Ai
