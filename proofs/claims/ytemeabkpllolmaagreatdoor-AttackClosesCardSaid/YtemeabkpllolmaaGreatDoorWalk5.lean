/-
  A part of the walk through the law: what its functions compute. Conditions: none beyond the statement.
-/
import Derived.Test.YtemeabkpllolmaaGreatDoorWalk4
set_option maxRecDepth 100000
set_option maxHeartbeats 1000000
set_option linter.unusedVariables false
set_option linter.unusedSimpArgs false
namespace K36
open Go Go.Ai

abbrev Qry.at (q : Qry) (i : Nat) : Atm := q.atoms.getD i default
def Atm.keys (a : Atm) : List Int := a.terms.take a.key.toNat
/-- What variables determine, by the keys of all atoms but one. -/
inductive Cls (q : Qry) (f : Nat) (vs : List Int) : Int → Prop
  | base {t : Int} : t ∈ vs → 0 ≤ t → Cls q f vs t
  | step {t : Int} (i : Nat) : i < q.atoms.length → i ≠ f → (∀ u ∈ (q.at i).keys, 0 ≤ u → Cls q f vs u) → t ∈ (q.at i).terms → 0 ≤ t → Cls q f vs t

/-- What 'Valid' checks, as far as it matters. -/
structure Qry.Good (q : Qry) : Prop where
  a : q.atoms.length ≤ 20
  k : ∀ i, i < q.atoms.length → 0 ≤ (q.at i).key ∧ (q.at i).key.toNat ≤ (q.at i).terms.length
  l : ∀ i, i < q.atoms.length → (q.at i).terms.length ≤ 12

theorem pre_ad (l : List Int) (t : Int) : l <+: ad l t := by
  unfold ad
  split
  · split
    · exact List.prefix_refl _
    · exact List.prefix_append _ _
  · exact List.prefix_refl _
theorem pre_addL : ∀ (ts l : List Int), l <+: addL l ts
  | [], l => List.prefix_refl _
  | t :: ts, l => (pre_ad l t).trans (pre_addL ts (ad l t))
theorem mem_ad {l : List Int} {t x : Int} : x ∈ ad l t ↔ x ∈ l ∨ (x = t ∧ 0 ≤ x) := by
  unfold ad
  split
  · rename_i h0
    split
    · rename_i h1
      constructor
      · exact Or.inl
      · rintro (h | ⟨rfl, -⟩)
        · exact h
        · exact h1
    · simp only [List.mem_append, List.mem_singleton]
      constructor
      · rintro (h | rfl)
        · exact Or.inl h
        · exact Or.inr ⟨rfl, h0⟩
      · rintro (h | ⟨h, -⟩)
        · exact Or.inl h
        · exact Or.inr h
  · rename_i h0
    constructor
    · exact Or.inl
    · rintro (h | ⟨rfl, h⟩)
      · exact h
      · exact absurd h h0
theorem mem_addL {x : Int} : ∀ {ts l : List Int}, x ∈ addL l ts ↔ x ∈ l ∨ (x ∈ ts ∧ 0 ≤ x)
  | [], l => by simp [addL]
  | t :: ts, l => by
    have : x ∈ addL (ad l t) ts ↔ _ := mem_addL
    show x ∈ addL (ad l t) ts ↔ _
    rw [this, mem_ad]
    simp only [List.mem_cons]
    constructor
    · rintro ((h | ⟨h, h0⟩) | ⟨h, h0⟩)
      · exact Or.inl h
      · exact Or.inr ⟨Or.inl h, h0⟩
      · exact Or.inr ⟨Or.inr h, h0⟩
    · rintro (h | ⟨h | h, h0⟩)
      · exact Or.inl (Or.inl h)
      · exact Or.inl (Or.inr ⟨h, h0⟩)
      · exact Or.inr ⟨h, h0⟩
theorem nodup_ad {l : List Int} (h : l.Nodup) (t : Int) : (ad l t).Nodup := by
  unfold ad
  split
  · split
    · exact h
    · rename_i hn
      rw [List.nodup_append]
      refine ⟨h, by simp, ?_⟩
      intro x hx y hy
      simp only [List.mem_singleton] at hy
      subst hy
      intro e
      subst e
      exact hn hx
  · exact h
theorem nodup_addL : ∀ (ts : List Int) {l : List Int}, l.Nodup → (addL l ts).Nodup
  | [], l, h => h
  | t :: ts, l, h => nodup_addL ts (nodup_ad h t)
theorem len_of_nodup : ∀ {l u : List Int}, l.Nodup → (∀ x ∈ l, x ∈ u) → l.length ≤ u.length
  | [], u, _, _ => Nat.zero_le _
  | x :: l, u, h, hs => by
    rw [List.nodup_cons] at h
    have hx : x ∈ u := hs x (List.mem_cons_self ..)
    have := @len_of_nodup l (u.erase x) h.2 (fun y hy => by
      have hne : y ≠ x := fun e => h.1 (e ▸ hy)
      exact (List.mem_erase_of_ne hne).2 (hs y (List.mem_cons_of_mem _ hy)))
    rw [List.length_erase_of_mem hx] at this
    have hp : 0 < u.length := List.length_pos_of_mem hx
    simp only [List.length_cons]
    omega
theorem pre_len {l l' : List Int} (h : l <+: l') (hl : l'.length = l.length) : l' = l := (h.eq_of_length hl.symm).symm

/-- All the terms. -/
def Qry.all (q : Qry) : List Int := (List.range q.atoms.length).flatMap fun i => (q.at i).terms
theorem all_len {q : Qry} (hg : q.Good) : q.all.length ≤ 240 := by
  have h : ∀ n, n ≤ q.atoms.length → ((List.range n).flatMap fun i => (q.at i).terms).length ≤ 12 * n := by
    intro n
    induction n with
    | zero => intro _; simp
    | succ n ih =>
      intro hn
      rw [List.range_succ, List.flatMap_append, List.length_append]
      have := ih (by omega)
      have h2 := hg.l n (by omega)
      simp only [List.flatMap_cons, List.flatMap_nil, List.append_nil]
      omega
  have := h _ (Nat.le_refl _)
  have := hg.a
  unfold Qry.all
  omega
theorem cls_all {q : Qry} {f : Nat} {vs : List Int} {t : Int} (h : Cls q f vs t) : t ∈ vs ++ q.all := by
  cases h with
  | base h _ => exact List.mem_append_left _ h
  | step i hi _ _ ht _ => exact List.mem_append_right _ (List.mem_flatMap.2 ⟨i, by simpa using hi, ht⟩)
theorem cls_len {q : Qry} (hg : q.Good) {f : Nat} {vs l : List Int} (hn : l.Nodup) (h : ∀ t ∈ l, Cls q f vs t) : l.length ≤ vs.length + 240 := by
  have := len_of_nodup hn fun t ht => cls_all (h t ht)
  have := all_len hg
  simp only [List.length_append] at *
  omega

/-- A finished set. -/
theorem cls_done {q : Qry} {f : Nat} {vs l : List Int} (h1 : ∀ t ∈ l, Cls q f vs t) (h2 : ∀ t ∈ vs, 0 ≤ t → t ∈ l) (h3 : ∀ j, j < q.atoms.length → j ≠ f → covB l (q.at j).keys = true → ∀ t ∈ (q.at j).terms, 0 ≤ t → t ∈ l) (t : Int) : t ∈ l ↔ Cls q f vs t := by
  constructor
  · exact h1 t
  · intro h
    induction h with
    | base h h0 => exact h2 _ h h0
    | step i hi hf _ ht h0 ih => exact h3 i hi hf (covB_iff.2 ih) _ ht h0

theorem closure61 (q : Qry) (gd : q.Good) (f : Nat) (vs : List Int) (hv : vs.length ≤ 12) (s : St) :
    callL ir 61 [q.enc, I64 f, intL vs] s fun o s' => ∃ d, o = .ret d ∧ (∃ l : List Int, d = .imap (mp l) ∧ ∀ t, t ∈ l ↔ Cls q f vs t) ∧ Fr s s' := by
  have hm := callL_mono ir
  have hal := gd.a
  refine fun_view (fn := i61) (args' := [q.enc, I64 f, intL vs]) (H1 := s.H) (P := fun d => ∃ l : List Int, d = .imap (mp l) ∧ ∀ t, t ∈ l ↔ Cls q f vs t) rfl rfl rfl rfl rfl ?_
  show CodeR _ 47 c61 _ _ _
  unfold c61
  repeat' (first | refine c_seq hm ?_ | refine c_region ?_ | refine o_nil ?_ | refine q_c ?_ | refine c_skip ?_ | refine c_ret ?_ | refine c_exit ?_ | refine c_scope ?_ | refine c_block hm ?_ | refine q_ret ?_ | refine q_exit ?_ | refine b_nrm ?_ | refine b_ret ?_ | refine b_hit ?_ | refine b_miss (by decide) ?_ | refine l_ret ?_ | refine l_exit ?_ | refine o_mv rfl ?_ | refine g_yes rfl (by first | rfl | assumption) ?_ | refine g_no rfl (by first | rfl | assumption) ?_ | refine o_pick_t rfl (by first | rfl | assumption) rfl ?_ | refine o_pick_f rfl (by first | rfl | assumption) rfl ?_ | refine o_lss rfl rfl ?_ | refine o_leq rfl rfl ?_ | refine o_gtr rfl rfl ?_ | refine o_geq rfl rfl ?_ | refine o_eql rfl rfl ?_ | refine o_neq rfl rfl ?_ | refine o_neqs rfl rfl ?_ | refine o_not rfl ?_ | refine o_eqb rfl rfl ?_ | refine o_neg rfl ?_ | refine o_len_lst rfl ?_ | refine o_len_sl rfl ?_ | refine o_len_nil rfl ?_ | refine o_len_str rfl ?_ | refine o_faddr_ref rfl ?_ | refine o_faddr_iptr rfl ?_ | refine o_alloc rfl ?_ | refine o_box rfl rfl ?_ | refine o_mkmap ?_ | refine o_load_iptr rfl rfl ?_ | refine o_load_ref rfl (by repeat (first | exact lk_here _ _ _ | assumption | refine lk_skip (by omega) ?_ | refine lk_updS (by omega) ?_ | refine lk_rmS (by omega) ?_ | refine lk_normS ?_ | exact lk_updH (by repeat (first | exact lk_here _ _ _ | assumption | refine lk_skip (by omega) ?_ | refine lk_updS (by omega) ?_ | refine lk_rmS (by omega) ?_ | refine lk_normS ?_ | exact lk_updH (by repeat (first | exact lk_here _ _ _ | assumption | refine lk_skip (by omega) ?_ | refine lk_updS (by omega) ?_ | refine lk_rmS (by omega) ?_ | refine lk_normS ?_)))))) (by rfl) ?_ | refine o_extract rfl rfl ?_ | refine o_mkfn ?_ | refine o_store_top rfl rfl rfl rfl rfl rfl (by omega) ?_ | refine o_nilChk_ref rfl ?_ | refine c_true rfl (by first | rfl | assumption) ?_ | refine c_false rfl (by first | rfl | assumption) ?_ | refine g_split rfl (fun hg => ?_) (fun hg => ?_) | refine c_cond rfl (fun hg => ?_) (fun hg => ?_))
  refine o_call (args := [.map (s.nx + 1), intL vs]) hm rfl (add97 (s.nx + 1) vs [] _ (by omega) (lk_here _ _ _) (by dsimp only; omega)) ?_
  rintro s1 ⟨H, rfl, hl, hfr⟩
  repeat' (first | refine c_seq hm ?_ | refine c_region ?_ | refine o_nil ?_ | refine q_c ?_ | refine c_skip ?_ | refine c_ret ?_ | refine c_exit ?_ | refine c_scope ?_ | refine c_block hm ?_ | refine q_ret ?_ | refine q_exit ?_ | refine b_nrm ?_ | refine b_ret ?_ | refine b_hit ?_ | refine b_miss (by decide) ?_ | refine l_ret ?_ | refine l_exit ?_ | refine o_mv rfl ?_ | refine g_yes rfl (by first | rfl | assumption) ?_ | refine g_no rfl (by first | rfl | assumption) ?_ | refine o_pick_t rfl (by first | rfl | assumption) rfl ?_ | refine o_pick_f rfl (by first | rfl | assumption) rfl ?_ | refine o_lss rfl rfl ?_ | refine o_leq rfl rfl ?_ | refine o_gtr rfl rfl ?_ | refine o_geq rfl rfl ?_ | refine o_eql rfl rfl ?_ | refine o_neq rfl rfl ?_ | refine o_neqs rfl rfl ?_ | refine o_not rfl ?_ | refine o_eqb rfl rfl ?_ | refine o_neg rfl ?_ | refine o_len_lst rfl ?_ | refine o_len_sl rfl ?_ | refine o_len_nil rfl ?_ | refine o_len_str rfl ?_ | refine o_faddr_ref rfl ?_ | refine o_faddr_iptr rfl ?_ | refine o_alloc rfl ?_ | refine o_box rfl rfl ?_ | refine o_mkmap ?_ | refine o_load_iptr rfl rfl ?_ | refine o_load_ref rfl (by repeat (first | exact lk_here _ _ _ | assumption | refine lk_skip (by omega) ?_ | refine lk_updS (by omega) ?_ | refine lk_rmS (by omega) ?_ | refine lk_normS ?_ | exact lk_updH (by repeat (first | exact lk_here _ _ _ | assumption | refine lk_skip (by omega) ?_ | refine lk_updS (by omega) ?_ | refine lk_rmS (by omega) ?_ | refine lk_normS ?_ | exact lk_updH (by repeat (first | exact lk_here _ _ _ | assumption | refine lk_skip (by omega) ?_ | refine lk_updS (by omega) ?_ | refine lk_rmS (by omega) ?_ | refine lk_normS ?_)))))) (by rfl) ?_ | refine o_extract rfl rfl ?_ | refine o_mkfn ?_ | refine o_store_top rfl rfl rfl rfl rfl rfl (by omega) ?_ | refine o_nilChk_ref rfl ?_ | refine c_true rfl (by first | rfl | assumption) ?_ | refine c_false rfl (by first | rfl | assumption) ?_ | refine g_split rfl (fun hg => ?_) (fun hg => ?_) | refine c_cond rfl (fun hg => ?_) (fun hg => ?_))
  refine c_loop hm (fun n E s' => ∃ (l : List Int) (sz : Int) (E0 : Env) (H : Heap) (nx : Nat), n = (vs.length + 241 - sz).toNat ∧ E = puts E0 [(1, I64 f), (3, .ref s.nx 0), (7, .map (s.nx + 1)), (8, I64 sz)] ∧ s' = ⟨H, nx, s.nx⟩ ∧ s.nx + 1 < nx ∧
      lk H s.nx = some (.cells q.cells 25 0) ∧ lk H (s.nx + 1) = some (.map (mp l) false) ∧ (∀ b, b < s.nx → lk H b = lk s.H b) ∧ l.Nodup ∧ (∀ t ∈ l, Cls q f vs t) ∧ (∀ t ∈ vs, 0 ≤ t → t ∈ l) ∧ sz ≤ l.length ∧
      (sz = l.length → ∀ j, j < q.atoms.length → j ≠ f → covB l (q.at j).keys = true → ∀ t ∈ (q.at j).terms, 0 ≤ t → t ∈ l))
    (n0 := vs.length + 242) ⟨addL [] vs, -1, _, _, _, by omega, puts_ex ⟨rfl, rfl, rfl, rfl, trivial⟩, rfl, by dsimp only; omega, ?_, hl, ?_, nodup_addL _ (by simp), ?_, ?_, by omega, fun h => by omega⟩ ?_
  · rw [hfr _ (by omega)]; repeat (first | exact lk_here _ _ _ | assumption | refine lk_skip (by omega) ?_ | refine lk_updS (by omega) ?_ | refine lk_rmS (by omega) ?_ | refine lk_normS ?_ | exact lk_updH (by repeat (first | exact lk_here _ _ _ | assumption | refine lk_skip (by omega) ?_ | refine lk_updS (by omega) ?_ | refine lk_rmS (by omega) ?_ | refine lk_normS ?_ | exact lk_updH (by repeat (first | exact lk_here _ _ _ | assumption | refine lk_skip (by omega) ?_ | refine lk_updS (by omega) ?_ | refine lk_rmS (by omega) ?_ | refine lk_normS ?_)))))
  · intro b hb
    rw [hfr _ (by omega)]
    repeat (first | rfl | rw [lk_there _ _ (by omega)] | rw [lk_upd, if_neg (by omega)] | rw [lk_rm, if_neg (by omega)] | rw [lk_norm])
  · intro t ht
    rcases mem_addL.1 ht with h | ⟨h, h0⟩
    · simp at h
    · exact .base h h0
  · intro t ht h0
    exact mem_addL.2 (Or.inr ⟨ht, h0⟩)
  rintro n E s' ⟨l, sz, E0, H, nx, rfl, rfl, rfl, hnx, hq, hlm, hfr, hnd, hs, hbs, hsz, hcl⟩
  have hlb := cls_len gd hnd hs
  repeat' (first | refine c_seq hm ?_ | refine c_region ?_ | refine o_nil ?_ | refine q_c ?_ | refine c_skip ?_ | refine c_ret ?_ | refine c_exit ?_ | refine c_scope ?_ | refine c_block hm ?_ | refine q_ret ?_ | refine q_exit ?_ | refine b_nrm ?_ | refine b_ret ?_ | refine b_hit ?_ | refine b_miss (by decide) ?_ | refine l_ret ?_ | refine l_exit ?_ | refine o_mv rfl ?_ | refine g_yes rfl (by first | rfl | assumption) ?_ | refine g_no rfl (by first | rfl | assumption) ?_ | refine o_pick_t rfl (by first | rfl | assumption) rfl ?_ | refine o_pick_f rfl (by first | rfl | assumption) rfl ?_ | refine o_lss rfl rfl ?_ | refine o_leq rfl rfl ?_ | refine o_gtr rfl rfl ?_ | refine o_geq rfl rfl ?_ | refine o_eql rfl rfl ?_ | refine o_neq rfl rfl ?_ | refine o_neqs rfl rfl ?_ | refine o_not rfl ?_ | refine o_eqb rfl rfl ?_ | refine o_neg rfl ?_ | refine o_len_lst rfl ?_ | refine o_len_sl rfl ?_ | refine o_len_nil rfl ?_ | refine o_len_str rfl ?_ | refine o_faddr_ref rfl ?_ | refine o_faddr_iptr rfl ?_ | refine o_alloc rfl ?_ | refine o_box rfl rfl ?_ | refine o_mkmap ?_ | refine o_load_iptr rfl rfl ?_ | refine o_load_ref rfl (by repeat (first | exact lk_here _ _ _ | assumption | refine lk_skip (by omega) ?_ | refine lk_updS (by omega) ?_ | refine lk_rmS (by omega) ?_ | refine lk_normS ?_ | exact lk_updH (by repeat (first | exact lk_here _ _ _ | assumption | refine lk_skip (by omega) ?_ | refine lk_updS (by omega) ?_ | refine lk_rmS (by omega) ?_ | refine lk_normS ?_ | exact lk_updH (by repeat (first | exact lk_here _ _ _ | assumption | refine lk_skip (by omega) ?_ | refine lk_updS (by omega) ?_ | refine lk_rmS (by omega) ?_ | refine lk_normS ?_)))))) (by rfl) ?_ | refine o_extract rfl rfl ?_ | refine o_mkfn ?_ | refine o_store_top rfl rfl rfl rfl rfl rfl (by omega) ?_ | refine o_nilChk_ref rfl ?_ | refine c_true rfl (by first | rfl | assumption) ?_ | refine c_false rfl (by first | rfl | assumption) ?_ | refine o_len_map rfl (by assumption) ?_ | refine g_split rfl (fun hg => ?_) (fun hg => ?_) | refine c_cond rfl (fun hg => ?_) (fun hg => ?_))
  · have hlt : sz < l.length := by simpa [mp] using hg
    refine c_loop hm (fun n E s' => ∃ (i : Nat) (l' : List Int) (E0 : Env) (H : Heap) (nx : Nat), n = q.atoms.length - i ∧ i ≤ q.atoms.length ∧ E = puts E0 [(1, I64 f), (3, .ref s.nx 0), (7, .map (s.nx + 1)), (8, I64 (mp l).length), (22, .lst (q.atoms.map Atm.enc)), (23, I64 (q.atoms.map Atm.enc).length), (24, I64 i)] ∧ s' = ⟨H, nx, s.nx⟩ ∧ s.nx + 1 < nx ∧
        lk H s.nx = some (.cells q.cells 25 0) ∧ lk H (s.nx + 1) = some (.map (mp l') false) ∧ (∀ b, b < s.nx → lk H b = lk s.H b) ∧ l'.Nodup ∧ (∀ t ∈ l', Cls q f vs t) ∧ l <+: l' ∧
        (l'.length = l.length → ∀ j, j < i → j ≠ f → covB l (q.at j).keys = true → ∀ t ∈ (q.at j).terms, 0 ≤ t → t ∈ l))
      (n0 := q.atoms.length) ⟨0, l, _, _, _, rfl, Nat.zero_le _, puts_ex ⟨rfl, rfl, rfl, rfl, rfl, rfl, rfl, trivial⟩, rfl, hnx, hq, hlm, hfr, hnd, hs, List.prefix_refl _, fun _ j hj => absurd hj (Nat.not_lt_zero _)⟩ ?_
    clear hq hlm hfr hnx hcl
    rintro n E s' ⟨i, l', E0, H, nx, rfl, hi, rfl, rfl, hnx, hq, hlm, hfr, hnd', hs', hpre, hcl⟩
    have hlb' := cls_len gd hnd' hs'
    repeat' (first | refine c_seq hm ?_ | refine c_region ?_ | refine o_nil ?_ | refine q_c ?_ | refine c_skip ?_ | refine c_ret ?_ | refine c_exit ?_ | refine c_scope ?_ | refine c_block hm ?_ | refine q_ret ?_ | refine q_exit ?_ | refine b_nrm ?_ | refine b_ret ?_ | refine b_hit ?_ | refine b_miss (by decide) ?_ | refine l_ret ?_ | refine l_exit ?_ | refine o_mv rfl ?_ | refine g_yes rfl (by first | rfl | assumption) ?_ | refine g_no rfl (by first | rfl | assumption) ?_ | refine o_pick_t rfl (by first | rfl | assumption) rfl ?_ | refine o_pick_f rfl (by first | rfl | assumption) rfl ?_ | refine o_lss rfl rfl ?_ | refine o_leq rfl rfl ?_ | refine o_gtr rfl rfl ?_ | refine o_geq rfl rfl ?_ | refine o_eql rfl rfl ?_ | refine o_neq rfl rfl ?_ | refine o_neqs rfl rfl ?_ | refine o_not rfl ?_ | refine o_eqb rfl rfl ?_ | refine o_neg rfl ?_ | refine o_len_lst rfl ?_ | refine o_len_sl rfl ?_ | refine o_len_nil rfl ?_ | refine o_len_str rfl ?_ | refine o_faddr_ref rfl ?_ | refine o_faddr_iptr rfl ?_ | refine o_alloc rfl ?_ | refine o_box rfl rfl ?_ | refine o_mkmap ?_ | refine o_load_iptr rfl rfl ?_ | refine o_load_ref rfl (by repeat (first | exact lk_here _ _ _ | assumption | refine lk_skip (by omega) ?_ | refine lk_updS (by omega) ?_ | refine lk_rmS (by omega) ?_ | refine lk_normS ?_ | exact lk_updH (by repeat (first | exact lk_here _ _ _ | assumption | refine lk_skip (by omega) ?_ | refine lk_updS (by omega) ?_ | refine lk_rmS (by omega) ?_ | refine lk_normS ?_ | exact lk_updH (by repeat (first | exact lk_here _ _ _ | assumption | refine lk_skip (by omega) ?_ | refine lk_updS (by omega) ?_ | refine lk_rmS (by omega) ?_ | refine lk_normS ?_)))))) (by rfl) ?_ | refine o_extract rfl rfl ?_ | refine o_mkfn ?_ | refine o_store_top rfl rfl rfl rfl rfl rfl (by omega) ?_ | refine o_nilChk_ref rfl ?_ | refine c_true rfl (by first | rfl | assumption) ?_ | refine c_false rfl (by first | rfl | assumption) ?_ | refine g_split rfl (fun hg => ?_) (fun hg => ?_) | refine c_cond rfl (fun hg => ?_) (fun hg => ?_))
    · have hlt2 : i < q.atoms.length := by simpa using hg
      generalize ha : q.at i = a
      have hkeys : intL a.keys = .lst ((a.terms.map fun t => [I64 t]).take a.key.toNat) := by simp only [intL, Atm.keys, List.map_take]
      have hk := gd.k i hlt2
      have hl12 := gd.l i hlt2
      rw [ha] at hk hl12
      refine o_iaddr_lst (cs := a.enc) rfl rfl (by rw [← ha]; simp [hlt2]) rfl ?_
      repeat' (first | refine c_seq hm ?_ | refine c_region ?_ | refine o_nil ?_ | refine q_c ?_ | refine c_skip ?_ | refine c_ret ?_ | refine c_exit ?_ | refine c_scope ?_ | refine c_block hm ?_ | refine q_ret ?_ | refine q_exit ?_ | refine b_nrm ?_ | refine b_ret ?_ | refine b_hit ?_ | refine b_miss (by decide) ?_ | refine l_ret ?_ | refine l_exit ?_ | refine o_mv rfl ?_ | refine g_yes rfl (by first | rfl | assumption) ?_ | refine g_no rfl (by first | rfl | assumption) ?_ | refine o_pick_t rfl (by first | rfl | assumption) rfl ?_ | refine o_pick_f rfl (by first | rfl | assumption) rfl ?_ | refine o_lss rfl rfl ?_ | refine o_leq rfl rfl ?_ | refine o_gtr rfl rfl ?_ | refine o_geq rfl rfl ?_ | refine o_eql rfl rfl ?_ | refine o_neq rfl rfl ?_ | refine o_neqs rfl rfl ?_ | refine o_not rfl ?_ | refine o_eqb rfl rfl ?_ | refine o_neg rfl ?_ | refine o_len_lst rfl ?_ | refine o_len_sl rfl ?_ | refine o_len_nil rfl ?_ | refine o_len_str rfl ?_ | refine o_faddr_ref rfl ?_ | refine o_faddr_iptr rfl ?_ | refine o_alloc rfl ?_ | refine o_box rfl rfl ?_ | refine o_mkmap ?_ | refine o_load_iptr rfl rfl ?_ | refine o_load_ref rfl (by repeat (first | exact lk_here _ _ _ | assumption | refine lk_skip (by omega) ?_ | refine lk_updS (by omega) ?_ | refine lk_rmS (by omega) ?_ | refine lk_normS ?_ | exact lk_updH (by repeat (first | exact lk_here _ _ _ | assumption | refine lk_skip (by omega) ?_ | refine lk_updS (by omega) ?_ | refine lk_rmS (by omega) ?_ | refine lk_normS ?_ | exact lk_updH (by repeat (first | exact lk_here _ _ _ | assumption | refine lk_skip (by omega) ?_ | refine lk_updS (by omega) ?_ | refine lk_rmS (by omega) ?_ | refine lk_normS ?_)))))) (by rfl) ?_ | refine o_extract rfl rfl ?_ | refine o_mkfn ?_ | refine o_store_top rfl rfl rfl rfl rfl rfl (by omega) ?_ | refine o_nilChk_ref rfl ?_ | refine c_true rfl (by first | rfl | assumption) ?_ | refine c_false rfl (by first | rfl | assumption) ?_ | refine o_take (j := a.key.toNat) rfl (show _ = I64 (a.key.toNat : Int) by rw [Int.toNat_of_nonneg hk.1]; rfl) (by intro c hc; obtain ⟨x, -, rfl⟩ := List.mem_map.1 hc; rfl) (by simp only [List.length_map]; omega) ?_ | refine g_split rfl (fun hg => ?_) (fun hg => ?_) | refine c_cond rfl (fun hg => ?_) (fun hg => ?_))
      · refine o_at (args := [.map (s.nx + 1), intL a.keys]) hm (by rw [hkeys]; rfl) (cov98 (s.nx + 1) l' a.keys false _ (by rw [Atm.keys, List.length_take]; omega) (by omega) (by repeat (first | exact lk_here _ _ _ | assumption | refine lk_skip (by omega) ?_ | refine lk_updS (by omega) ?_ | refine lk_rmS (by omega) ?_ | refine lk_normS ?_ | exact lk_updH (by repeat (first | exact lk_here _ _ _ | assumption | refine lk_skip (by omega) ?_ | refine lk_updS (by omega) ?_ | refine lk_rmS (by omega) ?_ | refine lk_normS ?_ | exact lk_updH (by repeat (first | exact lk_here _ _ _ | assumption | refine lk_skip (by omega) ?_ | refine lk_updS (by omega) ?_ | refine lk_rmS (by omega) ?_ | refine lk_normS ?_))))))) (fun n2 hn2 => ?_)
        have hif : i ≠ f := by
          have := hg
          simp at this
          omega
        repeat' (first | refine c_seq hm ?_ | refine c_region ?_ | refine o_nil ?_ | refine q_c ?_ | refine c_skip ?_ | refine c_ret ?_ | refine c_exit ?_ | refine c_scope ?_ | refine c_block hm ?_ | refine q_ret ?_ | refine q_exit ?_ | refine b_nrm ?_ | refine b_ret ?_ | refine b_hit ?_ | refine b_miss (by decide) ?_ | refine l_ret ?_ | refine l_exit ?_ | refine o_mv rfl ?_ | refine g_yes rfl (by first | rfl | assumption) ?_ | refine g_no rfl (by first | rfl | assumption) ?_ | refine o_pick_t rfl (by first | rfl | assumption) rfl ?_ | refine o_pick_f rfl (by first | rfl | assumption) rfl ?_ | refine o_lss rfl rfl ?_ | refine o_leq rfl rfl ?_ | refine o_gtr rfl rfl ?_ | refine o_geq rfl rfl ?_ | refine o_eql rfl rfl ?_ | refine o_neq rfl rfl ?_ | refine o_neqs rfl rfl ?_ | refine o_not rfl ?_ | refine o_eqb rfl rfl ?_ | refine o_neg rfl ?_ | refine o_len_lst rfl ?_ | refine o_len_sl rfl ?_ | refine o_len_nil rfl ?_ | refine o_len_str rfl ?_ | refine o_faddr_ref rfl ?_ | refine o_faddr_iptr rfl ?_ | refine o_alloc rfl ?_ | refine o_box rfl rfl ?_ | refine o_mkmap ?_ | refine o_load_iptr rfl rfl ?_ | refine o_load_ref rfl (by repeat (first | exact lk_here _ _ _ | assumption | refine lk_skip (by omega) ?_ | refine lk_updS (by omega) ?_ | refine lk_rmS (by omega) ?_ | refine lk_normS ?_ | exact lk_updH (by repeat (first | exact lk_here _ _ _ | assumption | refine lk_skip (by omega) ?_ | refine lk_updS (by omega) ?_ | refine lk_rmS (by omega) ?_ | refine lk_normS ?_ | exact lk_updH (by repeat (first | exact lk_here _ _ _ | assumption | refine lk_skip (by omega) ?_ | refine lk_updS (by omega) ?_ | refine lk_rmS (by omega) ?_ | refine lk_normS ?_)))))) (by rfl) ?_ | refine o_extract rfl rfl ?_ | refine o_mkfn ?_ | refine o_store_top rfl rfl rfl rfl rfl rfl (by omega) ?_ | refine o_nilChk_ref rfl ?_ | refine c_true rfl (by first | rfl | assumption) ?_ | refine c_false rfl (by first | rfl | assumption) ?_ | refine g_split rfl (fun hg => ?_) (fun hg => ?_) | refine c_cond rfl (fun hg => ?_) (fun hg => ?_))
        · have hcov : covB l' a.keys = true := hg
          refine o_call (args := [.map (s.nx + 1), intL a.terms]) hm rfl (add97 (s.nx + 1) a.terms l' _ (by omega) (by repeat (first | exact lk_here _ _ _ | assumption | refine lk_skip (by omega) ?_ | refine lk_updS (by omega) ?_ | refine lk_rmS (by omega) ?_ | refine lk_normS ?_ | exact lk_updH (by repeat (first | exact lk_here _ _ _ | assumption | refine lk_skip (by omega) ?_ | refine lk_updS (by omega) ?_ | refine lk_rmS (by omega) ?_ | refine lk_normS ?_ | exact lk_updH (by repeat (first | exact lk_here _ _ _ | assumption | refine lk_skip (by omega) ?_ | refine lk_updS (by omega) ?_ | refine lk_rmS (by omega) ?_ | refine lk_normS ?_)))))) (by dsimp only; omega)) ?_
          rintro s1 ⟨H2, rfl, hl2, hfr2⟩
          repeat' (first | refine c_seq hm ?_ | refine c_region ?_ | refine o_nil ?_ | refine q_c ?_ | refine c_skip ?_ | refine c_ret ?_ | refine c_exit ?_ | refine c_scope ?_ | refine c_block hm ?_ | refine q_ret ?_ | refine q_exit ?_ | refine b_nrm ?_ | refine b_ret ?_ | refine b_hit ?_ | refine b_miss (by decide) ?_ | refine l_ret ?_ | refine l_exit ?_ | refine o_mv rfl ?_ | refine g_yes rfl (by first | rfl | assumption) ?_ | refine g_no rfl (by first | rfl | assumption) ?_ | refine o_pick_t rfl (by first | rfl | assumption) rfl ?_ | refine o_pick_f rfl (by first | rfl | assumption) rfl ?_ | refine o_lss rfl rfl ?_ | refine o_leq rfl rfl ?_ | refine o_gtr rfl rfl ?_ | refine o_geq rfl rfl ?_ | refine o_eql rfl rfl ?_ | refine o_neq rfl rfl ?_ | refine o_neqs rfl rfl ?_ | refine o_not rfl ?_ | refine o_eqb rfl rfl ?_ | refine o_neg rfl ?_ | refine o_len_lst rfl ?_ | refine o_len_sl rfl ?_ | refine o_len_nil rfl ?_ | refine o_len_str rfl ?_ | refine o_faddr_ref rfl ?_ | refine o_faddr_iptr rfl ?_ | refine o_alloc rfl ?_ | refine o_box rfl rfl ?_ | refine o_mkmap ?_ | refine o_load_iptr rfl rfl ?_ | refine o_load_ref rfl (by repeat (first | exact lk_here _ _ _ | assumption | refine lk_skip (by omega) ?_ | refine lk_updS (by omega) ?_ | refine lk_rmS (by omega) ?_ | refine lk_normS ?_ | exact lk_updH (by repeat (first | exact lk_here _ _ _ | assumption | refine lk_skip (by omega) ?_ | refine lk_updS (by omega) ?_ | refine lk_rmS (by omega) ?_ | refine lk_normS ?_ | exact lk_updH (by repeat (first | exact lk_here _ _ _ | assumption | refine lk_skip (by omega) ?_ | refine lk_updS (by omega) ?_ | refine lk_rmS (by omega) ?_ | refine lk_normS ?_)))))) (by rfl) ?_ | refine o_extract rfl rfl ?_ | refine o_mkfn ?_ | refine o_store_top rfl rfl rfl rfl rfl rfl (by omega) ?_ | refine o_nilChk_ref rfl ?_ | refine c_true rfl (by first | rfl | assumption) ?_ | refine c_false rfl (by first | rfl | assumption) ?_ | refine g_split rfl (fun hg => ?_) (fun hg => ?_) | refine c_cond rfl (fun hg => ?_) (fun hg => ?_))
          refine o_inc rfl (by omega) ?_
          repeat' (first | refine c_seq hm ?_ | refine c_region ?_ | refine o_nil ?_ | refine q_c ?_ | refine c_skip ?_ | refine c_ret ?_ | refine c_exit ?_ | refine c_scope ?_ | refine c_block hm ?_ | refine q_ret ?_ | refine q_exit ?_ | refine b_nrm ?_ | refine b_ret ?_ | refine b_hit ?_ | refine b_miss (by decide) ?_ | refine l_ret ?_ | refine l_exit ?_ | refine o_mv rfl ?_ | refine g_yes rfl (by first | rfl | assumption) ?_ | refine g_no rfl (by first | rfl | assumption) ?_ | refine o_pick_t rfl (by first | rfl | assumption) rfl ?_ | refine o_pick_f rfl (by first | rfl | assumption) rfl ?_ | refine o_lss rfl rfl ?_ | refine o_leq rfl rfl ?_ | refine o_gtr rfl rfl ?_ | refine o_geq rfl rfl ?_ | refine o_eql rfl rfl ?_ | refine o_neq rfl rfl ?_ | refine o_neqs rfl rfl ?_ | refine o_not rfl ?_ | refine o_eqb rfl rfl ?_ | refine o_neg rfl ?_ | refine o_len_lst rfl ?_ | refine o_len_sl rfl ?_ | refine o_len_nil rfl ?_ | refine o_len_str rfl ?_ | refine o_faddr_ref rfl ?_ | refine o_faddr_iptr rfl ?_ | refine o_alloc rfl ?_ | refine o_box rfl rfl ?_ | refine o_mkmap ?_ | refine o_load_iptr rfl rfl ?_ | refine o_load_ref rfl (by repeat (first | exact lk_here _ _ _ | assumption | refine lk_skip (by omega) ?_ | refine lk_updS (by omega) ?_ | refine lk_rmS (by omega) ?_ | refine lk_normS ?_ | exact lk_updH (by repeat (first | exact lk_here _ _ _ | assumption | refine lk_skip (by omega) ?_ | refine lk_updS (by omega) ?_ | refine lk_rmS (by omega) ?_ | refine lk_normS ?_ | exact lk_updH (by repeat (first | exact lk_here _ _ _ | assumption | refine lk_skip (by omega) ?_ | refine lk_updS (by omega) ?_ | refine lk_rmS (by omega) ?_ | refine lk_normS ?_)))))) (by rfl) ?_ | refine o_extract rfl rfl ?_ | refine o_mkfn ?_ | refine o_store_top rfl rfl rfl rfl rfl rfl (by omega) ?_ | refine o_nilChk_ref rfl ?_ | refine c_true rfl (by first | rfl | assumption) ?_ | refine c_false rfl (by first | rfl | assumption) ?_ | refine g_split rfl (fun hg => ?_) (fun hg => ?_) | refine c_cond rfl (fun hg => ?_) (fun hg => ?_))
          refine l_nrm (q.atoms.length - (i + 1)) (by omega) ⟨i + 1, addL l' a.terms, _, _, _, rfl, hlt2, puts_ex ⟨rfl, rfl, rfl, rfl, rfl, rfl, rfl, trivial⟩, rfl, by first | omega | (dsimp only; omega), ?_, hl2, ?_, nodup_addL _ hnd', ?_, hpre.trans (pre_addL _ _), ?_⟩
          · rw [hfr2 _ (by omega)]; repeat (first | exact lk_here _ _ _ | assumption | refine lk_skip (by omega) ?_ | refine lk_updS (by omega) ?_ | refine lk_rmS (by omega) ?_ | refine lk_normS ?_ | exact lk_updH (by repeat (first | exact lk_here _ _ _ | assumption | refine lk_skip (by omega) ?_ | refine lk_updS (by omega) ?_ | refine lk_rmS (by omega) ?_ | refine lk_normS ?_ | exact lk_updH (by repeat (first | exact lk_here _ _ _ | assumption | refine lk_skip (by omega) ?_ | refine lk_updS (by omega) ?_ | refine lk_rmS (by omega) ?_ | refine lk_normS ?_)))))
          · intro b hb'
            rw [hfr2 _ (by omega)]
            repeat (first | rfl | rw [lk_there _ _ (by omega)] | rw [lk_upd, if_neg (by omega)] | rw [lk_rm, if_neg (by omega)] | rw [lk_norm])
            exact hfr b hb'
          · intro t ht
            rcases mem_addL.1 ht with h | ⟨h, h0⟩
            · exact hs' t h
            · exact .step i hlt2 hif (by rw [ha]; exact fun u hu hu0 => hs' u (covB_iff.1 hcov u hu hu0)) (by rw [ha]; exact h) h0
          · intro he
            have p1 := hpre.length_le
            have p2 := (pre_addL a.terms l').length_le
            have e1 := pre_len hpre (by omega)
            have e2 := pre_len (hpre.trans (pre_addL a.terms l')) he
            intro j hj hjf hc t ht h0
            rcases Nat.lt_succ_iff_lt_or_eq.1 hj with h | h
            · exact hcl (by omega) j h hjf hc t ht h0
            · subst h
              rw [ha] at ht
              rw [← e2]
              exact mem_addL.2 (Or.inr ⟨ht, h0⟩)
        · have hcov : covB l' a.keys = false := hg
          refine o_inc rfl (by omega) ?_
          repeat' (first | refine c_seq hm ?_ | refine c_region ?_ | refine o_nil ?_ | refine q_c ?_ | refine c_skip ?_ | refine c_ret ?_ | refine c_exit ?_ | refine c_scope ?_ | refine c_block hm ?_ | refine q_ret ?_ | refine q_exit ?_ | refine b_nrm ?_ | refine b_ret ?_ | refine b_hit ?_ | refine b_miss (by decide) ?_ | refine l_ret ?_ | refine l_exit ?_ | refine o_mv rfl ?_ | refine g_yes rfl (by first | rfl | assumption) ?_ | refine g_no rfl (by first | rfl | assumption) ?_ | refine o_pick_t rfl (by first | rfl | assumption) rfl ?_ | refine o_pick_f rfl (by first | rfl | assumption) rfl ?_ | refine o_lss rfl rfl ?_ | refine o_leq rfl rfl ?_ | refine o_gtr rfl rfl ?_ | refine o_geq rfl rfl ?_ | refine o_eql rfl rfl ?_ | refine o_neq rfl rfl ?_ | refine o_neqs rfl rfl ?_ | refine o_not rfl ?_ | refine o_eqb rfl rfl ?_ | refine o_neg rfl ?_ | refine o_len_lst rfl ?_ | refine o_len_sl rfl ?_ | refine o_len_nil rfl ?_ | refine o_len_str rfl ?_ | refine o_faddr_ref rfl ?_ | refine o_faddr_iptr rfl ?_ | refine o_alloc rfl ?_ | refine o_box rfl rfl ?_ | refine o_mkmap ?_ | refine o_load_iptr rfl rfl ?_ | refine o_load_ref rfl (by repeat (first | exact lk_here _ _ _ | assumption | refine lk_skip (by omega) ?_ | refine lk_updS (by omega) ?_ | refine lk_rmS (by omega) ?_ | refine lk_normS ?_ | exact lk_updH (by repeat (first | exact lk_here _ _ _ | assumption | refine lk_skip (by omega) ?_ | refine lk_updS (by omega) ?_ | refine lk_rmS (by omega) ?_ | refine lk_normS ?_ | exact lk_updH (by repeat (first | exact lk_here _ _ _ | assumption | refine lk_skip (by omega) ?_ | refine lk_updS (by omega) ?_ | refine lk_rmS (by omega) ?_ | refine lk_normS ?_)))))) (by rfl) ?_ | refine o_extract rfl rfl ?_ | refine o_mkfn ?_ | refine o_store_top rfl rfl rfl rfl rfl rfl (by omega) ?_ | refine o_nilChk_ref rfl ?_ | refine c_true rfl (by first | rfl | assumption) ?_ | refine c_false rfl (by first | rfl | assumption) ?_ | refine g_split rfl (fun hg => ?_) (fun hg => ?_) | refine c_cond rfl (fun hg => ?_) (fun hg => ?_))
          refine l_nrm (q.atoms.length - (i + 1)) (by omega) ⟨i + 1, l', _, _, _, rfl, hlt2, puts_ex ⟨rfl, rfl, rfl, rfl, rfl, rfl, rfl, trivial⟩, rfl, by first | omega | (dsimp only at *; omega), (by repeat (first | exact lk_here _ _ _ | assumption | refine lk_skip (by omega) ?_ | refine lk_updS (by omega) ?_ | refine lk_rmS (by omega) ?_ | refine lk_normS ?_ | exact lk_updH (by repeat (first | exact lk_here _ _ _ | assumption | refine lk_skip (by omega) ?_ | refine lk_updS (by omega) ?_ | refine lk_rmS (by omega) ?_ | refine lk_normS ?_ | exact lk_updH (by repeat (first | exact lk_here _ _ _ | assumption | refine lk_skip (by omega) ?_ | refine lk_updS (by omega) ?_ | refine lk_rmS (by omega) ?_ | refine lk_normS ?_)))))), (by repeat (first | exact lk_here _ _ _ | assumption | refine lk_skip (by omega) ?_ | refine lk_updS (by omega) ?_ | refine lk_rmS (by omega) ?_ | refine lk_normS ?_ | exact lk_updH (by repeat (first | exact lk_here _ _ _ | assumption | refine lk_skip (by omega) ?_ | refine lk_updS (by omega) ?_ | refine lk_rmS (by omega) ?_ | refine lk_normS ?_ | exact lk_updH (by repeat (first | exact lk_here _ _ _ | assumption | refine lk_skip (by omega) ?_ | refine lk_updS (by omega) ?_ | refine lk_rmS (by omega) ?_ | refine lk_normS ?_)))))), ?_, hnd', hs', hpre, ?_⟩
          · intro b hb'
            repeat (first | rfl | rw [lk_there _ _ (by omega)] | rw [lk_upd, if_neg (by omega)] | rw [lk_rm, if_neg (by omega)] | rw [lk_norm])
            exact hfr b hb'
          · intro he j hj hjf hc t ht h0
            rcases Nat.lt_succ_iff_lt_or_eq.1 hj with h | h
            · exact hcl he j h hjf hc t ht h0
            · subst h
              rw [pre_len hpre he] at hcov
              rw [ha, hcov] at hc
              cases hc
      · have hif : i = f := by
          have := hg
          simp at this
          omega
        refine o_inc rfl (by omega) ?_
        repeat' (first | refine c_seq hm ?_ | refine c_region ?_ | refine o_nil ?_ | refine q_c ?_ | refine c_skip ?_ | refine c_ret ?_ | refine c_exit ?_ | refine c_scope ?_ | refine c_block hm ?_ | refine q_ret ?_ | refine q_exit ?_ | refine b_nrm ?_ | refine b_ret ?_ | refine b_hit ?_ | refine b_miss (by decide) ?_ | refine l_ret ?_ | refine l_exit ?_ | refine o_mv rfl ?_ | refine g_yes rfl (by first | rfl | assumption) ?_ | refine g_no rfl (by first | rfl | assumption) ?_ | refine o_pick_t rfl (by first | rfl | assumption) rfl ?_ | refine o_pick_f rfl (by first | rfl | assumption) rfl ?_ | refine o_lss rfl rfl ?_ | refine o_leq rfl rfl ?_ | refine o_gtr rfl rfl ?_ | refine o_geq rfl rfl ?_ | refine o_eql rfl rfl ?_ | refine o_neq rfl rfl ?_ | refine o_neqs rfl rfl ?_ | refine o_not rfl ?_ | refine o_eqb rfl rfl ?_ | refine o_neg rfl ?_ | refine o_len_lst rfl ?_ | refine o_len_sl rfl ?_ | refine o_len_nil rfl ?_ | refine o_len_str rfl ?_ | refine o_faddr_ref rfl ?_ | refine o_faddr_iptr rfl ?_ | refine o_alloc rfl ?_ | refine o_box rfl rfl ?_ | refine o_mkmap ?_ | refine o_load_iptr rfl rfl ?_ | refine o_load_ref rfl (by repeat (first | exact lk_here _ _ _ | assumption | refine lk_skip (by omega) ?_ | refine lk_updS (by omega) ?_ | refine lk_rmS (by omega) ?_ | refine lk_normS ?_ | exact lk_updH (by repeat (first | exact lk_here _ _ _ | assumption | refine lk_skip (by omega) ?_ | refine lk_updS (by omega) ?_ | refine lk_rmS (by omega) ?_ | refine lk_normS ?_ | exact lk_updH (by repeat (first | exact lk_here _ _ _ | assumption | refine lk_skip (by omega) ?_ | refine lk_updS (by omega) ?_ | refine lk_rmS (by omega) ?_ | refine lk_normS ?_)))))) (by rfl) ?_ | refine o_extract rfl rfl ?_ | refine o_mkfn ?_ | refine o_store_top rfl rfl rfl rfl rfl rfl (by omega) ?_ | refine o_nilChk_ref rfl ?_ | refine c_true rfl (by first | rfl | assumption) ?_ | refine c_false rfl (by first | rfl | assumption) ?_ | refine g_split rfl (fun hg => ?_) (fun hg => ?_) | refine c_cond rfl (fun hg => ?_) (fun hg => ?_))
        refine l_nrm (q.atoms.length - (i + 1)) (by omega) ⟨i + 1, l', _, _, _, rfl, hlt2, puts_ex ⟨rfl, rfl, rfl, rfl, rfl, rfl, rfl, trivial⟩, rfl, by first | omega | (dsimp only at *; omega), (by repeat (first | exact lk_here _ _ _ | assumption | refine lk_skip (by omega) ?_ | refine lk_updS (by omega) ?_ | refine lk_rmS (by omega) ?_ | refine lk_normS ?_ | exact lk_updH (by repeat (first | exact lk_here _ _ _ | assumption | refine lk_skip (by omega) ?_ | refine lk_updS (by omega) ?_ | refine lk_rmS (by omega) ?_ | refine lk_normS ?_ | exact lk_updH (by repeat (first | exact lk_here _ _ _ | assumption | refine lk_skip (by omega) ?_ | refine lk_updS (by omega) ?_ | refine lk_rmS (by omega) ?_ | refine lk_normS ?_)))))), (by repeat (first | exact lk_here _ _ _ | assumption | refine lk_skip (by omega) ?_ | refine lk_updS (by omega) ?_ | refine lk_rmS (by omega) ?_ | refine lk_normS ?_ | exact lk_updH (by repeat (first | exact lk_here _ _ _ | assumption | refine lk_skip (by omega) ?_ | refine lk_updS (by omega) ?_ | refine lk_rmS (by omega) ?_ | refine lk_normS ?_ | exact lk_updH (by repeat (first | exact lk_here _ _ _ | assumption | refine lk_skip (by omega) ?_ | refine lk_updS (by omega) ?_ | refine lk_rmS (by omega) ?_ | refine lk_normS ?_)))))), ?_, hnd', hs', hpre, ?_⟩
        · intro b hb'
          repeat (first | rfl | rw [lk_there _ _ (by omega)] | rw [lk_upd, if_neg (by omega)] | rw [lk_rm, if_neg (by omega)] | rw [lk_norm])
          exact hfr b hb'
        · intro he j hj hjf hc t ht h0
          rcases Nat.lt_succ_iff_lt_or_eq.1 hj with h | h
          · exact hcl he j h hjf hc t ht h0
          · exact absurd (h.trans hif) hjf
    · have hge : q.atoms.length ≤ i := by simpa using hg
      have p1 := hpre.length_le
      refine l_nrm (vs.length + 241 - (mp l).length : Int).toNat (by simp only [mp, List.length_map]; omega) ⟨l', ((mp l).length : Int), _, _, _, rfl, puts_ex ⟨rfl, rfl, rfl, rfl, trivial⟩, rfl, hnx, hq, hlm, hfr, hnd', hs', fun t ht h0 => hpre.subset (hbs t ht h0), by simp only [mp, List.length_map]; omega, ?_⟩
      intro he
      have he' : l'.length = l.length := by simp only [mp, List.length_map] at he; omega
      have e1 := pre_len hpre he'
      intro j hj hjf hc t ht h0
      rw [e1] at hc ⊢
      exact hcl he' j (by omega) hjf hc t ht h0
  · have hge : sz = l.length := by
      have : ¬ sz < l.length := by simpa [mp] using hg
      omega
    refine e_end ⟨Or.inr rfl, .map (s.nx + 1), .imap (mp l), _, rfl, rfl, view_mp hlm fuelV (by simp only [fuelV]; omega), ?_, by first | omega | (dsimp only; omega), l, rfl, cls_done hs hbs (hcl hge)⟩
    intro b hb'
    rw [lk_upd, if_neg (by omega)]
    exact hfr b hb'
end K36
