/-
  A part of the walk through the law: what its functions compute. Conditions: none beyond the statement.
-/
import Derived.Test.YtemeabkpllolmaaGreatDoorWalk7
set_option maxRecDepth 100000
set_option maxHeartbeats 2000000
set_option linter.unusedVariables false
set_option linter.unusedSimpArgs false
namespace K36
open Go Go.Ai

/-- An edge: one atom attacks another. -/
def Edg (q : Qry) (f g : Nat) : Prop := f < q.atoms.length ∧ g < q.atoms.length ∧ Att q f g
/-- A way of one edge or more. -/
inductive Way (q : Qry) : Nat → Nat → Prop
  | one {f g : Nat} : Edg q f g → Way q f g
  | more {f g h : Nat} : Way q f g → Edg q g h → Way q f h
theorem Way.trans {q : Qry} {a b c : Nat} (h : Way q a b) (k : Way q b c) : Way q a c := by
  induction k with
  | one e => exact .more h e
  | more _ e ih => exact .more ih e
theorem Way.front {q : Qry} {a b c : Nat} (h : Edg q a b) (k : Way q b c) : Way q a c := Way.trans (.one h) k

/-- What is finished leads to what is finished, and to no circle. -/
def Fin (q : Qry) (st : List Int) : Prop := ∀ x, x < q.atoms.length → st.getD x 0 = 2 → (∀ y, Edg q x y → st.getD y 0 = 2) ∧ ¬ Way q x x
theorem Fin.way {q : Qry} {st : List Int} (h : Fin q st) {a b : Nat} (hw : Way q a b) : st.getD a 0 = 2 → st.getD b 0 = 2 := by
  induction hw with
  | one e => exact fun ha => (h _ e.1 ha).1 _ e
  | more _ e ih => exact fun ha => (h _ e.1 (ih ha)).1 _ e
/-- The number of those not yet looked at. -/
def cntZ : List Int → Nat
  | [] => 0
  | b :: l => (if b = 0 then 1 else 0) + cntZ l
theorem cntZ_set : ∀ (l : List Int) (i : Nat) (v : Int), v ≠ 0 → i < l.length → l.getD i 0 = 0 → cntZ l = cntZ (l.set i v) + 1
  | [], i, v, _, h, _ => by simp at h
  | b :: l, 0, v, hv, h, h2 => by
    simp only [List.getD_cons_zero] at h2
    subst h2
    simp [cntZ, hv]
    omega
  | b :: l, i + 1, v, hv, h, h2 => by
    have := cntZ_set l i v hv (by simpa using h) (by simpa using h2)
    simp only [List.set_cons_succ, cntZ]
    omega
theorem cntZ_le : ∀ (l l' : List Int), l'.length = l.length → (∀ i, l.getD i 0 ≠ 0 → l'.getD i 0 ≠ 0) → cntZ l' ≤ cntZ l
  | [], [], _, _ => Nat.le_refl _
  | [], _ :: _, h, _ => by simp at h
  | _ :: _, [], h, _ => by simp at h
  | b :: l, b' :: l', h, hh => by
    have h0 := hh 0
    simp only [List.getD_cons_zero] at h0
    have ih := cntZ_le l l' (by simpa using h) (fun i hi => by simpa using hh (i + 1) (by simpa using hi))
    simp only [cntZ]
    by_cases hb : b = 0
    · by_cases hb' : b' = 0 <;> simp [hb, hb'] <;> omega
    · simp [hb, h0 hb]
      omega
theorem splice_ints (st : List Int) (h : Nat) (v : Int) (hh : h < st.length) : splice (st.map I64) (0 + h * 1) [I64 v] = (st.set h v).map I64 := by
  simp only [splice, Nat.zero_add, Nat.mul_one, List.length_singleton]
  rw [List.set_eq_take_append_cons_drop, if_pos hh]
  simp [List.map_take, List.map_drop]
theorem take_int (st : List Int) (h : Nat) (hh : h < st.length) : takeN ((st.map I64).drop (0 + h * 1)) false 1 = some (I64 (st.getD h 0)) := by
  simp only [Nat.zero_add, Nat.mul_one, takeN]
  have : ((st.map I64).drop h).take 1 = [I64 (st.getD h 0)] := by
    rw [← List.map_drop, List.drop_eq_getElem_cons hh, List.map_cons, List.take_succ_cons, List.take_zero]
    simp [List.getD_eq_getElem?_getD, hh]
  rw [this]
  rfl
theorem zset {st : List Int} {i h : Nat} {v : Int} (hi : i < st.length) : (st.set i v).getD h 0 = if h = i then v else st.getD h 0 := by
  by_cases e : h = i
  · subst e; simp [hi]
  · simp [List.getD_eq_getElem?_getD, List.getElem?_set, Ne.symm e, e]
section
variable {cl : Cl} {E : Env} {Q : Ex × Env → St → Prop} {rest : List IOp} {k : Nat} {af : List Nat} {x y z : Opd} {H : Heap} {nx ro : Nat}
theorem o_store_int {o h e lo : Nat} {st : List Int} {v : Int} (hx : evF E x = .ref o (0 + h * 1)) (hy : evF E y = I64 v) (hl : lk H o = some (.cells (st.map I64) e lo)) (hh : h < st.length) (h0 : lo = 0) (hr : ro ≤ o) (hk : OpsR cl rest E ⟨upd H o (.cells ((st.set h v).map I64) e lo), nx, ro⟩ Q) :
    OpsR cl (⟨none, .store 1 x y, none, af⟩ :: rest) E ⟨H, nx, ro⟩ Q := by
  subst h0
  refine o_store hx hy hl rfl rfl (by simp; omega) (Nat.zero_le _) hr ?_
  show OpsR cl rest E ⟨upd H o (.cells (splice (st.map I64) (0 + h * 1) [I64 v]) e 0), nx, ro⟩ Q
  rw [splice_ints st h v hh]
  exact hk
end

/-- What the search leaves. -/
structure Left (q : Qry) (f : Nat) (st st' : List Int) : Prop where
  len : st'.length = st.length
  fin : Fin q st'
  two : st'.getD f 0 = 2
  keep2 : ∀ x, st.getD x 0 = 2 → st'.getD x 0 = 2
  keep1 : ∀ x, st'.getD x 0 = 1 ↔ st.getD x 0 = 1
theorem Left.zero {q : Qry} {f : Nat} {st st' : List Int} (h : Left q f st st') (hv : ∀ x, st.getD x 0 = 0 ∨ st.getD x 0 = 1 ∨ st.getD x 0 = 2) : cntZ st' ≤ cntZ st := by
  refine cntZ_le _ _ h.len fun i hi => ?_
  rcases hv i with e | e | e
  · exact absurd e hi
  · rw [(h.keep1 i).2 e]; decide
  · rw [h.keep2 i e]; decide

theorem Way.split {q : Qry} {a c : Nat} (h : Way q a c) : ∃ b, Edg q a b ∧ (b = c ∨ Way q b c) := by
  induction h with
  | one e => exact ⟨_, e, Or.inl rfl⟩
  | more _ e ih =>
    obtain ⟨b, h1, h2⟩ := ih
    rcases h2 with h2 | h2
    · subst h2; exact ⟨_, h1, Or.inr (.one e)⟩
    · exact ⟨b, h1, Or.inr (.more h2 e)⟩

theorem cycle41 (q : Qry) (gd : q.Good) (rows : List D) (hrl : rows.length = q.atoms.length) (hrows : ∀ i, i < q.atoms.length → rowOf q i (rows.getD i default)) (sr lr cr a : Nat) (hd : sr ≠ a ∧ lr ≠ a ∧ cr ≠ a) :
    ∀ (k : Nat) (f : Nat) (st : List Int) (s : St), cntZ st = k → f < q.atoms.length → st.length = q.atoms.length → (∀ x, st.getD x 0 = 0 ∨ st.getD x 0 = 1 ∨ st.getD x 0 = 2) → Fin q st → (∀ x, st.getD x 0 = 1 → Way q x f) →
      lk s.H sr = some (.cells [.sl a 0 q.atoms.length 1] 36 0) → lk s.H lr = some (.cells [.lst (rows.map fun r => [r])] 29 0) → lk s.H cr = some (.cells [.fn (.func 41) [] [.ref sr 0, .ref lr 0, .ref cr 0]] 84 0) → lk s.H a = some (.cells (st.map I64) 3 0) → s.ro ≤ a →
      callL ir 41 [I64 f, .ref sr 0, .ref lr 0, .ref cr 0] s fun o s' => ∃ d, o = .ret d ∧ s'.nx = s.nx ∧ ((d = B true ∧ ∃ x, Way q x x) ∨ (d = B false ∧ ∃ st' : List Int, Left q f st st' ∧ (∀ x, st'.getD x 0 = 0 ∨ st'.getD x 0 = 1 ∨ st'.getD x 0 = 2) ∧ lk s'.H a = some (.cells (st'.map I64) 3 0) ∧ (∀ b, b ≠ a → lk s'.H b = lk s.H b) ∧ s'.ro = s.ro)) := by
  intro k
  have hm := callL_mono ir
  have hal := gd.a
  induction k using Nat.strongRecOn with
  | _ k ih =>
  intro f st s hk hf hsl hv hfin hgrey h1 h2 h3 h4 hro
  obtain ⟨d1, d2, d3⟩ := hd
  obtain ⟨bs, hbl, hatt, hrow⟩ := hrows f hf
  refine fun_k (fn := i41) rfl rfl rfl rfl ?_
  show CodeR _ 41 c41 _ _ _
  unfold c41
  repeat' (first | refine c_seq hm ?_ | refine c_region ?_ | refine o_nil ?_ | refine q_c ?_ | refine c_skip ?_ | refine c_ret ?_ | refine c_exit ?_ | refine c_scope ?_ | refine c_block hm ?_ | refine q_ret ?_ | refine q_exit ?_ | refine b_nrm ?_ | refine b_ret ?_ | refine b_hit ?_ | refine b_miss (by decide) ?_ | refine l_ret ?_ | refine l_exit ?_ | refine o_mv rfl ?_ | refine g_yes rfl (by first | rfl | assumption) ?_ | refine g_no rfl (by first | rfl | assumption) ?_ | refine o_pick_t rfl (by first | rfl | assumption) rfl ?_ | refine o_pick_f rfl (by first | rfl | assumption) rfl ?_ | refine o_lss rfl rfl ?_ | refine o_leq rfl rfl ?_ | refine o_gtr rfl rfl ?_ | refine o_geq rfl rfl ?_ | refine o_eql rfl rfl ?_ | refine o_neq rfl rfl ?_ | refine o_neqs rfl rfl ?_ | refine o_not rfl ?_ | refine o_eqb rfl rfl ?_ | refine o_neg rfl ?_ | refine o_len_lst rfl ?_ | refine o_len_sl rfl ?_ | refine o_len_nil rfl ?_ | refine o_len_str rfl ?_ | refine o_faddr_ref rfl ?_ | refine o_faddr_iptr rfl ?_ | refine o_alloc rfl ?_ | refine o_box rfl rfl ?_ | refine o_mkmap ?_ | refine o_load_iptr rfl rfl ?_ | refine o_load_ref rfl (by repeat (first | exact lk_here _ _ _ | assumption | refine lk_skip (by omega) ?_ | refine lk_updS (by omega) ?_ | refine lk_rmS (by omega) ?_ | refine lk_normS ?_ | exact lk_updH (by repeat (first | exact lk_here _ _ _ | assumption | refine lk_skip (by omega) ?_ | refine lk_updS (by omega) ?_ | refine lk_rmS (by omega) ?_ | refine lk_normS ?_ | exact lk_updH (by repeat (first | exact lk_here _ _ _ | assumption | refine lk_skip (by omega) ?_ | refine lk_updS (by omega) ?_ | refine lk_rmS (by omega) ?_ | refine lk_normS ?_)))))) (by rfl) ?_ | refine o_extract rfl rfl ?_ | refine o_mkfn ?_ | refine o_store_top rfl rfl rfl rfl rfl rfl (by omega) ?_ | refine o_nilChk_ref rfl ?_ | refine c_true rfl (by first | rfl | assumption) ?_ | refine c_false rfl (by first | rfl | assumption) ?_ | refine o_iaddr_sl rfl rfl hf ?_ | refine o_load_ref rfl (by repeat (first | exact lk_here _ _ _ | assumption | refine lk_skip (by omega) ?_ | refine lk_updS (by omega) ?_ | refine lk_rmS (by omega) ?_ | refine lk_normS ?_ | exact lk_updH (by repeat (first | exact lk_here _ _ _ | assumption | refine lk_skip (by omega) ?_ | refine lk_updS (by omega) ?_ | refine lk_rmS (by omega) ?_ | refine lk_normS ?_ | exact lk_updH (by repeat (first | exact lk_here _ _ _ | assumption | refine lk_skip (by omega) ?_ | refine lk_updS (by omega) ?_ | refine lk_rmS (by omega) ?_ | refine lk_normS ?_)))))) (take_int st f (by omega)) ?_ | refine g_split rfl (fun hg => ?_) (fun hg => ?_) | refine c_cond rfl (fun hg => ?_) (fun hg => ?_))
  · have hne : st.getD f 0 ≠ 0 := by simpa using hg
    refine e_end ⟨Or.inr rfl, B (st.getD f 0 == 1), res1 rfl, B (st.getD f 0 == 1), rfl, rfl, ?_⟩
    rcases hv f with e | e | e
    · exact absurd e hne
    · exact Or.inl ⟨by rw [e]; rfl, f, hgrey f e⟩
    · exact Or.inr ⟨by rw [e]; rfl, st, ⟨rfl, hfin, e, fun _ h => h, fun _ => Iff.rfl⟩, hv, h4, fun _ _ => rfl, rfl⟩
  · have h0 : st.getD f 0 = 0 := by simpa using hg
    clear hg
    refine o_store_int (st := st) (v := 1) rfl rfl h4 (by omega) rfl hro ?_
    repeat' (first | refine c_seq hm ?_ | refine c_region ?_ | refine o_nil ?_ | refine q_c ?_ | refine c_skip ?_ | refine c_ret ?_ | refine c_exit ?_ | refine c_scope ?_ | refine c_block hm ?_ | refine q_ret ?_ | refine q_exit ?_ | refine b_nrm ?_ | refine b_ret ?_ | refine b_hit ?_ | refine b_miss (by decide) ?_ | refine l_ret ?_ | refine l_exit ?_ | refine o_mv rfl ?_ | refine g_yes rfl (by first | rfl | assumption) ?_ | refine g_no rfl (by first | rfl | assumption) ?_ | refine o_pick_t rfl (by first | rfl | assumption) rfl ?_ | refine o_pick_f rfl (by first | rfl | assumption) rfl ?_ | refine o_lss rfl rfl ?_ | refine o_leq rfl rfl ?_ | refine o_gtr rfl rfl ?_ | refine o_geq rfl rfl ?_ | refine o_eql rfl rfl ?_ | refine o_neq rfl rfl ?_ | refine o_neqs rfl rfl ?_ | refine o_not rfl ?_ | refine o_eqb rfl rfl ?_ | refine o_neg rfl ?_ | refine o_len_lst rfl ?_ | refine o_len_sl rfl ?_ | refine o_len_nil rfl ?_ | refine o_len_str rfl ?_ | refine o_faddr_ref rfl ?_ | refine o_faddr_iptr rfl ?_ | refine o_alloc rfl ?_ | refine o_box rfl rfl ?_ | refine o_mkmap ?_ | refine o_load_iptr rfl rfl ?_ | refine o_load_ref rfl (by repeat (first | exact lk_here _ _ _ | assumption | refine lk_skip (by omega) ?_ | refine lk_updS (by omega) ?_ | refine lk_rmS (by omega) ?_ | refine lk_normS ?_ | exact lk_updH (by repeat (first | exact lk_here _ _ _ | assumption | refine lk_skip (by omega) ?_ | refine lk_updS (by omega) ?_ | refine lk_rmS (by omega) ?_ | refine lk_normS ?_ | exact lk_updH (by repeat (first | exact lk_here _ _ _ | assumption | refine lk_skip (by omega) ?_ | refine lk_updS (by omega) ?_ | refine lk_rmS (by omega) ?_ | refine lk_normS ?_)))))) (by rfl) ?_ | refine o_extract rfl rfl ?_ | refine o_mkfn ?_ | refine o_store_top rfl rfl rfl rfl rfl rfl (by omega) ?_ | refine o_nilChk_ref rfl ?_ | refine c_true rfl (by first | rfl | assumption) ?_ | refine c_false rfl (by first | rfl | assumption) ?_ | refine g_split rfl (fun hg => ?_) (fun hg => ?_) | refine c_cond rfl (fun hg => ?_) (fun hg => ?_))
    refine o_iaddr_lst (cs := [.lst (bs.map fun b => [B b])]) rfl rfl (by rw [← hrow]; simp [hrl, hf]) rfl ?_
    repeat' (first | refine c_seq hm ?_ | refine c_region ?_ | refine o_nil ?_ | refine q_c ?_ | refine c_skip ?_ | refine c_ret ?_ | refine c_exit ?_ | refine c_scope ?_ | refine c_block hm ?_ | refine q_ret ?_ | refine q_exit ?_ | refine b_nrm ?_ | refine b_ret ?_ | refine b_hit ?_ | refine b_miss (by decide) ?_ | refine l_ret ?_ | refine l_exit ?_ | refine o_mv rfl ?_ | refine g_yes rfl (by first | rfl | assumption) ?_ | refine g_no rfl (by first | rfl | assumption) ?_ | refine o_pick_t rfl (by first | rfl | assumption) rfl ?_ | refine o_pick_f rfl (by first | rfl | assumption) rfl ?_ | refine o_lss rfl rfl ?_ | refine o_leq rfl rfl ?_ | refine o_gtr rfl rfl ?_ | refine o_geq rfl rfl ?_ | refine o_eql rfl rfl ?_ | refine o_neq rfl rfl ?_ | refine o_neqs rfl rfl ?_ | refine o_not rfl ?_ | refine o_eqb rfl rfl ?_ | refine o_neg rfl ?_ | refine o_len_lst rfl ?_ | refine o_len_sl rfl ?_ | refine o_len_nil rfl ?_ | refine o_len_str rfl ?_ | refine o_faddr_ref rfl ?_ | refine o_faddr_iptr rfl ?_ | refine o_alloc rfl ?_ | refine o_box rfl rfl ?_ | refine o_mkmap ?_ | refine o_load_iptr rfl rfl ?_ | refine o_load_ref rfl (by repeat (first | exact lk_here _ _ _ | assumption | refine lk_skip (by omega) ?_ | refine lk_updS (by omega) ?_ | refine lk_rmS (by omega) ?_ | refine lk_normS ?_ | exact lk_updH (by repeat (first | exact lk_here _ _ _ | assumption | refine lk_skip (by omega) ?_ | refine lk_updS (by omega) ?_ | refine lk_rmS (by omega) ?_ | refine lk_normS ?_ | exact lk_updH (by repeat (first | exact lk_here _ _ _ | assumption | refine lk_skip (by omega) ?_ | refine lk_updS (by omega) ?_ | refine lk_rmS (by omega) ?_ | refine lk_normS ?_)))))) (by rfl) ?_ | refine o_extract rfl rfl ?_ | refine o_mkfn ?_ | refine o_store_top rfl rfl rfl rfl rfl rfl (by omega) ?_ | refine o_nilChk_ref rfl ?_ | refine c_true rfl (by first | rfl | assumption) ?_ | refine c_false rfl (by first | rfl | assumption) ?_ | refine g_split rfl (fun hg => ?_) (fun hg => ?_) | refine c_cond rfl (fun hg => ?_) (fun hg => ?_))
    have hlen1 : (st.set f 1).length = q.atoms.length := by rw [List.length_set]; exact hsl
    have hz : cntZ (st.set f 1) < k := by
      have := cntZ_set st f 1 (by decide) (by omega) h0
      omega
    have hff : f < st.length := by omega
    have hv1 : ∀ x, (st.set f 1).getD x 0 = 0 ∨ (st.set f 1).getD x 0 = 1 ∨ (st.set f 1).getD x 0 = 2 := by
      intro x
      rw [zset hff]
      split
      · exact Or.inr (Or.inl rfl)
      · exact hv x
    have hfin1 : Fin q (st.set f 1) := by
      intro x hx h2'
      rw [zset hff] at h2'
      split at h2'
      · cases h2'
      · refine ⟨fun y hy => ?_, (hfin x hx h2').2⟩
        have := (hfin x hx h2').1 y hy
        rw [zset hff]
        split
        · rename_i e; subst e; rw [h0] at this; cases this
        · exact this
    refine c_loop hm (fun n E s' => ∃ (i : Nat) (sc : List Int) (E0 : Env) (H : Heap), n = q.atoms.length - i ∧ i ≤ q.atoms.length ∧ E = puts E0 [(0, I64 f), (1, .ref sr 0), (2, .ref lr 0), (3, .ref cr 0), (24, .lst (bs.map fun b => [B b])), (25, I64 (bs.map fun b => [B b]).length), (26, I64 i)] ∧ s' = ⟨H, s.nx, s.ro⟩ ∧
        lk H a = some (.cells (sc.map I64) 3 0) ∧ (∀ b, b ≠ a → lk H b = lk s.H b) ∧ sc.length = q.atoms.length ∧ (∀ x, sc.getD x 0 = 0 ∨ sc.getD x 0 = 1 ∨ sc.getD x 0 = 2) ∧ Fin q sc ∧ (∀ x, sc.getD x 0 = 1 ↔ (st.set f 1).getD x 0 = 1) ∧ (∀ x, (st.set f 1).getD x 0 = 2 → sc.getD x 0 = 2) ∧
        (∀ j, j < i → bs.getD j false = true → sc.getD j 0 = 2) ∧ cntZ sc ≤ cntZ (st.set f 1))
      (n0 := q.atoms.length) ⟨0, st.set f 1, _, _, rfl, Nat.zero_le _, puts_ex ⟨rfl, rfl, rfl, rfl, rfl, rfl, rfl, trivial⟩, rfl, lk_updH h4, fun b hb => by rw [lk_upd, if_neg hb], hlen1, hv1, hfin1, fun _ => Iff.rfl, fun _ h => h, fun j hj => absurd hj (Nat.not_lt_zero _), Nat.le_refl _⟩ ?_
    rintro n E s' ⟨i, sc, E0, H, rfl, hi, rfl, rfl, ha, hoth, hscl, hscv, hscf, hk1, hk2, hdone, hcz⟩
    have hH1 : lk H sr = some (.cells [.sl a 0 q.atoms.length 1] 36 0) := by rw [hoth _ d1]; exact h1
    have hH2 : lk H lr = some (.cells [.lst (rows.map fun r => [r])] 29 0) := by rw [hoth _ d2]; exact h2
    have hH3 : lk H cr = some (.cells [.fn (.func 41) [] [.ref sr 0, .ref lr 0, .ref cr 0]] 84 0) := by rw [hoth _ d3]; exact h3
    repeat' (first | refine c_seq hm ?_ | refine c_region ?_ | refine o_nil ?_ | refine q_c ?_ | refine c_skip ?_ | refine c_ret ?_ | refine c_exit ?_ | refine c_scope ?_ | refine c_block hm ?_ | refine q_ret ?_ | refine q_exit ?_ | refine b_nrm ?_ | refine b_ret ?_ | refine b_hit ?_ | refine b_miss (by decide) ?_ | refine l_ret ?_ | refine l_exit ?_ | refine o_mv rfl ?_ | refine g_yes rfl (by first | rfl | assumption) ?_ | refine g_no rfl (by first | rfl | assumption) ?_ | refine o_pick_t rfl (by first | rfl | assumption) rfl ?_ | refine o_pick_f rfl (by first | rfl | assumption) rfl ?_ | refine o_lss rfl rfl ?_ | refine o_leq rfl rfl ?_ | refine o_gtr rfl rfl ?_ | refine o_geq rfl rfl ?_ | refine o_eql rfl rfl ?_ | refine o_neq rfl rfl ?_ | refine o_neqs rfl rfl ?_ | refine o_not rfl ?_ | refine o_eqb rfl rfl ?_ | refine o_neg rfl ?_ | refine o_len_lst rfl ?_ | refine o_len_sl rfl ?_ | refine o_len_nil rfl ?_ | refine o_len_str rfl ?_ | refine o_faddr_ref rfl ?_ | refine o_faddr_iptr rfl ?_ | refine o_alloc rfl ?_ | refine o_box rfl rfl ?_ | refine o_mkmap ?_ | refine o_load_iptr rfl rfl ?_ | refine o_load_ref rfl (by repeat (first | exact lk_here _ _ _ | assumption | refine lk_skip (by omega) ?_ | refine lk_updS (by omega) ?_ | refine lk_rmS (by omega) ?_ | refine lk_normS ?_ | exact lk_updH (by repeat (first | exact lk_here _ _ _ | assumption | refine lk_skip (by omega) ?_ | refine lk_updS (by omega) ?_ | refine lk_rmS (by omega) ?_ | refine lk_normS ?_ | exact lk_updH (by repeat (first | exact lk_here _ _ _ | assumption | refine lk_skip (by omega) ?_ | refine lk_updS (by omega) ?_ | refine lk_rmS (by omega) ?_ | refine lk_normS ?_)))))) (by rfl) ?_ | refine o_extract rfl rfl ?_ | refine o_mkfn ?_ | refine o_store_top rfl rfl rfl rfl rfl rfl (by omega) ?_ | refine o_nilChk_ref rfl ?_ | refine c_true rfl (by first | rfl | assumption) ?_ | refine c_false rfl (by first | rfl | assumption) ?_ | refine g_split rfl (fun hg => ?_) (fun hg => ?_) | refine c_cond rfl (fun hg => ?_) (fun hg => ?_))
    · have hlt : i < q.atoms.length := by simpa [hbl] using hg
      clear hg
      refine o_iaddr_lst (cs := [B (bs.getD i false)]) rfl rfl (by simp [hbl, hlt]) rfl ?_
      repeat' (first | refine c_seq hm ?_ | refine c_region ?_ | refine o_nil ?_ | refine q_c ?_ | refine c_skip ?_ | refine c_ret ?_ | refine c_exit ?_ | refine c_scope ?_ | refine c_block hm ?_ | refine q_ret ?_ | refine q_exit ?_ | refine b_nrm ?_ | refine b_ret ?_ | refine b_hit ?_ | refine b_miss (by decide) ?_ | refine l_ret ?_ | refine l_exit ?_ | refine o_mv rfl ?_ | refine g_yes rfl (by first | rfl | assumption) ?_ | refine g_no rfl (by first | rfl | assumption) ?_ | refine o_pick_t rfl (by first | rfl | assumption) rfl ?_ | refine o_pick_f rfl (by first | rfl | assumption) rfl ?_ | refine o_lss rfl rfl ?_ | refine o_leq rfl rfl ?_ | refine o_gtr rfl rfl ?_ | refine o_geq rfl rfl ?_ | refine o_eql rfl rfl ?_ | refine o_neq rfl rfl ?_ | refine o_neqs rfl rfl ?_ | refine o_not rfl ?_ | refine o_eqb rfl rfl ?_ | refine o_neg rfl ?_ | refine o_len_lst rfl ?_ | refine o_len_sl rfl ?_ | refine o_len_nil rfl ?_ | refine o_len_str rfl ?_ | refine o_faddr_ref rfl ?_ | refine o_faddr_iptr rfl ?_ | refine o_alloc rfl ?_ | refine o_box rfl rfl ?_ | refine o_mkmap ?_ | refine o_load_iptr rfl rfl ?_ | refine o_load_ref rfl (by repeat (first | exact lk_here _ _ _ | assumption | refine lk_skip (by omega) ?_ | refine lk_updS (by omega) ?_ | refine lk_rmS (by omega) ?_ | refine lk_normS ?_ | exact lk_updH (by repeat (first | exact lk_here _ _ _ | assumption | refine lk_skip (by omega) ?_ | refine lk_updS (by omega) ?_ | refine lk_rmS (by omega) ?_ | refine lk_normS ?_ | exact lk_updH (by repeat (first | exact lk_here _ _ _ | assumption | refine lk_skip (by omega) ?_ | refine lk_updS (by omega) ?_ | refine lk_rmS (by omega) ?_ | refine lk_normS ?_)))))) (by rfl) ?_ | refine o_extract rfl rfl ?_ | refine o_mkfn ?_ | refine o_store_top rfl rfl rfl rfl rfl rfl (by omega) ?_ | refine o_nilChk_ref rfl ?_ | refine c_true rfl (by first | rfl | assumption) ?_ | refine c_false rfl (by first | rfl | assumption) ?_ | refine g_split rfl (fun hg => ?_) (fun hg => ?_) | refine c_cond rfl (fun hg => ?_) (fun hg => ?_))
      · have hbi : bs.getD i false = true := hg
        have hedge : Edg q f i := ⟨hf, hlt, (hatt i hlt).1 hbi⟩
        have hgrey' : ∀ x, sc.getD x 0 = 1 → Way q x i := by
          intro x hx
          have := (hk1 x).1 hx
          rw [zset hff] at this
          split at this
          · rename_i e; subst e; exact .one hedge
          · exact .more (hgrey x this) hedge
        refine o_callvE (args := [I64 i, .ref sr 0, .ref lr 0, .ref cr 0]) hm rfl rfl (ih (cntZ sc) (by omega) i sc ⟨H, s.nx, s.ro⟩ rfl hlt hscl hscv hscf hgrey' hH1 hH2 hH3 ha hro) ?_
        rintro d ⟨H2, nx2, ro2⟩ ⟨rfl, hres⟩
        rcases hres with ⟨rfl, x, hx⟩ | ⟨rfl, sd, hl, hsdv, hsda, hsdo, rfl⟩
        · repeat' (first | refine c_seq hm ?_ | refine c_region ?_ | refine o_nil ?_ | refine q_c ?_ | refine c_skip ?_ | refine c_ret ?_ | refine c_exit ?_ | refine c_scope ?_ | refine c_block hm ?_ | refine q_ret ?_ | refine q_exit ?_ | refine b_nrm ?_ | refine b_ret ?_ | refine b_hit ?_ | refine b_miss (by decide) ?_ | refine l_ret ?_ | refine l_exit ?_ | refine o_mv rfl ?_ | refine g_yes rfl (by first | rfl | assumption) ?_ | refine g_no rfl (by first | rfl | assumption) ?_ | refine o_pick_t rfl (by first | rfl | assumption) rfl ?_ | refine o_pick_f rfl (by first | rfl | assumption) rfl ?_ | refine o_lss rfl rfl ?_ | refine o_leq rfl rfl ?_ | refine o_gtr rfl rfl ?_ | refine o_geq rfl rfl ?_ | refine o_eql rfl rfl ?_ | refine o_neq rfl rfl ?_ | refine o_neqs rfl rfl ?_ | refine o_not rfl ?_ | refine o_eqb rfl rfl ?_ | refine o_neg rfl ?_ | refine o_len_lst rfl ?_ | refine o_len_sl rfl ?_ | refine o_len_nil rfl ?_ | refine o_len_str rfl ?_ | refine o_faddr_ref rfl ?_ | refine o_faddr_iptr rfl ?_ | refine o_alloc rfl ?_ | refine o_box rfl rfl ?_ | refine o_mkmap ?_ | refine o_load_iptr rfl rfl ?_ | refine o_load_ref rfl (by repeat (first | exact lk_here _ _ _ | assumption | refine lk_skip (by omega) ?_ | refine lk_updS (by omega) ?_ | refine lk_rmS (by omega) ?_ | refine lk_normS ?_ | exact lk_updH (by repeat (first | exact lk_here _ _ _ | assumption | refine lk_skip (by omega) ?_ | refine lk_updS (by omega) ?_ | refine lk_rmS (by omega) ?_ | refine lk_normS ?_ | exact lk_updH (by repeat (first | exact lk_here _ _ _ | assumption | refine lk_skip (by omega) ?_ | refine lk_updS (by omega) ?_ | refine lk_rmS (by omega) ?_ | refine lk_normS ?_)))))) (by rfl) ?_ | refine o_extract rfl rfl ?_ | refine o_mkfn ?_ | refine o_store_top rfl rfl rfl rfl rfl rfl (by omega) ?_ | refine o_nilChk_ref rfl ?_ | refine c_true rfl (by first | rfl | assumption) ?_ | refine c_false rfl (by first | rfl | assumption) ?_ | refine g_split rfl (fun hg => ?_) (fun hg => ?_) | refine c_cond rfl (fun hg => ?_) (fun hg => ?_))
          exact e_end ⟨Or.inr rfl, B true, res1 rfl, B true, rfl, rfl, Or.inl ⟨rfl, x, hx⟩⟩
        · repeat' (first | refine c_seq hm ?_ | refine c_region ?_ | refine o_nil ?_ | refine q_c ?_ | refine c_skip ?_ | refine c_ret ?_ | refine c_exit ?_ | refine c_scope ?_ | refine c_block hm ?_ | refine q_ret ?_ | refine q_exit ?_ | refine b_nrm ?_ | refine b_ret ?_ | refine b_hit ?_ | refine b_miss (by decide) ?_ | refine l_ret ?_ | refine l_exit ?_ | refine o_mv rfl ?_ | refine g_yes rfl (by first | rfl | assumption) ?_ | refine g_no rfl (by first | rfl | assumption) ?_ | refine o_pick_t rfl (by first | rfl | assumption) rfl ?_ | refine o_pick_f rfl (by first | rfl | assumption) rfl ?_ | refine o_lss rfl rfl ?_ | refine o_leq rfl rfl ?_ | refine o_gtr rfl rfl ?_ | refine o_geq rfl rfl ?_ | refine o_eql rfl rfl ?_ | refine o_neq rfl rfl ?_ | refine o_neqs rfl rfl ?_ | refine o_not rfl ?_ | refine o_eqb rfl rfl ?_ | refine o_neg rfl ?_ | refine o_len_lst rfl ?_ | refine o_len_sl rfl ?_ | refine o_len_nil rfl ?_ | refine o_len_str rfl ?_ | refine o_faddr_ref rfl ?_ | refine o_faddr_iptr rfl ?_ | refine o_alloc rfl ?_ | refine o_box rfl rfl ?_ | refine o_mkmap ?_ | refine o_load_iptr rfl rfl ?_ | refine o_load_ref rfl (by repeat (first | exact lk_here _ _ _ | assumption | refine lk_skip (by omega) ?_ | refine lk_updS (by omega) ?_ | refine lk_rmS (by omega) ?_ | refine lk_normS ?_ | exact lk_updH (by repeat (first | exact lk_here _ _ _ | assumption | refine lk_skip (by omega) ?_ | refine lk_updS (by omega) ?_ | refine lk_rmS (by omega) ?_ | refine lk_normS ?_ | exact lk_updH (by repeat (first | exact lk_here _ _ _ | assumption | refine lk_skip (by omega) ?_ | refine lk_updS (by omega) ?_ | refine lk_rmS (by omega) ?_ | refine lk_normS ?_)))))) (by rfl) ?_ | refine o_extract rfl rfl ?_ | refine o_mkfn ?_ | refine o_store_top rfl rfl rfl rfl rfl rfl (by omega) ?_ | refine o_nilChk_ref rfl ?_ | refine c_true rfl (by first | rfl | assumption) ?_ | refine c_false rfl (by first | rfl | assumption) ?_ | refine g_split rfl (fun hg => ?_) (fun hg => ?_) | refine c_cond rfl (fun hg => ?_) (fun hg => ?_))
          refine o_inc rfl (by omega) ?_
          repeat' (first | refine c_seq hm ?_ | refine c_region ?_ | refine o_nil ?_ | refine q_c ?_ | refine c_skip ?_ | refine c_ret ?_ | refine c_exit ?_ | refine c_scope ?_ | refine c_block hm ?_ | refine q_ret ?_ | refine q_exit ?_ | refine b_nrm ?_ | refine b_ret ?_ | refine b_hit ?_ | refine b_miss (by decide) ?_ | refine l_ret ?_ | refine l_exit ?_ | refine o_mv rfl ?_ | refine g_yes rfl (by first | rfl | assumption) ?_ | refine g_no rfl (by first | rfl | assumption) ?_ | refine o_pick_t rfl (by first | rfl | assumption) rfl ?_ | refine o_pick_f rfl (by first | rfl | assumption) rfl ?_ | refine o_lss rfl rfl ?_ | refine o_leq rfl rfl ?_ | refine o_gtr rfl rfl ?_ | refine o_geq rfl rfl ?_ | refine o_eql rfl rfl ?_ | refine o_neq rfl rfl ?_ | refine o_neqs rfl rfl ?_ | refine o_not rfl ?_ | refine o_eqb rfl rfl ?_ | refine o_neg rfl ?_ | refine o_len_lst rfl ?_ | refine o_len_sl rfl ?_ | refine o_len_nil rfl ?_ | refine o_len_str rfl ?_ | refine o_faddr_ref rfl ?_ | refine o_faddr_iptr rfl ?_ | refine o_alloc rfl ?_ | refine o_box rfl rfl ?_ | refine o_mkmap ?_ | refine o_load_iptr rfl rfl ?_ | refine o_load_ref rfl (by repeat (first | exact lk_here _ _ _ | assumption | refine lk_skip (by omega) ?_ | refine lk_updS (by omega) ?_ | refine lk_rmS (by omega) ?_ | refine lk_normS ?_ | exact lk_updH (by repeat (first | exact lk_here _ _ _ | assumption | refine lk_skip (by omega) ?_ | refine lk_updS (by omega) ?_ | refine lk_rmS (by omega) ?_ | refine lk_normS ?_ | exact lk_updH (by repeat (first | exact lk_here _ _ _ | assumption | refine lk_skip (by omega) ?_ | refine lk_updS (by omega) ?_ | refine lk_rmS (by omega) ?_ | refine lk_normS ?_)))))) (by rfl) ?_ | refine o_extract rfl rfl ?_ | refine o_mkfn ?_ | refine o_store_top rfl rfl rfl rfl rfl rfl (by omega) ?_ | refine o_nilChk_ref rfl ?_ | refine c_true rfl (by first | rfl | assumption) ?_ | refine c_false rfl (by first | rfl | assumption) ?_ | refine g_split rfl (fun hg => ?_) (fun hg => ?_) | refine c_cond rfl (fun hg => ?_) (fun hg => ?_))
          refine l_nrm (q.atoms.length - (i + 1)) (by omega) ⟨i + 1, sd, _, _, rfl, hlt, puts_ex ⟨rfl, rfl, rfl, rfl, rfl, rfl, rfl, trivial⟩, rfl, hsda, fun b hb => by rw [hsdo b hb]; exact hoth b hb, by rw [hl.len]; exact hscl, hsdv, hl.fin, fun x => (hl.keep1 x).trans (hk1 x), fun x hx => hl.keep2 x (hk2 x hx), ?_, Nat.le_trans (hl.zero hscv) hcz⟩
          intro j hj hb
          rcases Nat.lt_succ_iff_lt_or_eq.1 hj with h | h
          · exact hl.keep2 j (hdone j h hb)
          · subst h; exact hl.two
      · have hbi : bs.getD i false = false := hg
        refine o_inc rfl (by omega) ?_
        repeat' (first | refine c_seq hm ?_ | refine c_region ?_ | refine o_nil ?_ | refine q_c ?_ | refine c_skip ?_ | refine c_ret ?_ | refine c_exit ?_ | refine c_scope ?_ | refine c_block hm ?_ | refine q_ret ?_ | refine q_exit ?_ | refine b_nrm ?_ | refine b_ret ?_ | refine b_hit ?_ | refine b_miss (by decide) ?_ | refine l_ret ?_ | refine l_exit ?_ | refine o_mv rfl ?_ | refine g_yes rfl (by first | rfl | assumption) ?_ | refine g_no rfl (by first | rfl | assumption) ?_ | refine o_pick_t rfl (by first | rfl | assumption) rfl ?_ | refine o_pick_f rfl (by first | rfl | assumption) rfl ?_ | refine o_lss rfl rfl ?_ | refine o_leq rfl rfl ?_ | refine o_gtr rfl rfl ?_ | refine o_geq rfl rfl ?_ | refine o_eql rfl rfl ?_ | refine o_neq rfl rfl ?_ | refine o_neqs rfl rfl ?_ | refine o_not rfl ?_ | refine o_eqb rfl rfl ?_ | refine o_neg rfl ?_ | refine o_len_lst rfl ?_ | refine o_len_sl rfl ?_ | refine o_len_nil rfl ?_ | refine o_len_str rfl ?_ | refine o_faddr_ref rfl ?_ | refine o_faddr_iptr rfl ?_ | refine o_alloc rfl ?_ | refine o_box rfl rfl ?_ | refine o_mkmap ?_ | refine o_load_iptr rfl rfl ?_ | refine o_load_ref rfl (by repeat (first | exact lk_here _ _ _ | assumption | refine lk_skip (by omega) ?_ | refine lk_updS (by omega) ?_ | refine lk_rmS (by omega) ?_ | refine lk_normS ?_ | exact lk_updH (by repeat (first | exact lk_here _ _ _ | assumption | refine lk_skip (by omega) ?_ | refine lk_updS (by omega) ?_ | refine lk_rmS (by omega) ?_ | refine lk_normS ?_ | exact lk_updH (by repeat (first | exact lk_here _ _ _ | assumption | refine lk_skip (by omega) ?_ | refine lk_updS (by omega) ?_ | refine lk_rmS (by omega) ?_ | refine lk_normS ?_)))))) (by rfl) ?_ | refine o_extract rfl rfl ?_ | refine o_mkfn ?_ | refine o_store_top rfl rfl rfl rfl rfl rfl (by omega) ?_ | refine o_nilChk_ref rfl ?_ | refine c_true rfl (by first | rfl | assumption) ?_ | refine c_false rfl (by first | rfl | assumption) ?_ | refine g_split rfl (fun hg => ?_) (fun hg => ?_) | refine c_cond rfl (fun hg => ?_) (fun hg => ?_))
        refine l_nrm (q.atoms.length - (i + 1)) (by omega) ⟨i + 1, sc, _, _, rfl, hlt, puts_ex ⟨rfl, rfl, rfl, rfl, rfl, rfl, rfl, trivial⟩, rfl, ha, hoth, hscl, hscv, hscf, hk1, hk2, ?_, hcz⟩
        intro j hj hb
        rcases Nat.lt_succ_iff_lt_or_eq.1 hj with h | h
        · exact hdone j h hb
        · subst h; rw [hbi] at hb; cases hb
    · have hge : q.atoms.length ≤ i := by simpa [hbl] using hg
      repeat' (first | refine c_seq hm ?_ | refine c_region ?_ | refine o_nil ?_ | refine q_c ?_ | refine c_skip ?_ | refine c_ret ?_ | refine c_exit ?_ | refine c_scope ?_ | refine c_block hm ?_ | refine q_ret ?_ | refine q_exit ?_ | refine b_nrm ?_ | refine b_ret ?_ | refine b_hit ?_ | refine b_miss (by decide) ?_ | refine l_ret ?_ | refine l_exit ?_ | refine o_mv rfl ?_ | refine g_yes rfl (by first | rfl | assumption) ?_ | refine g_no rfl (by first | rfl | assumption) ?_ | refine o_pick_t rfl (by first | rfl | assumption) rfl ?_ | refine o_pick_f rfl (by first | rfl | assumption) rfl ?_ | refine o_lss rfl rfl ?_ | refine o_leq rfl rfl ?_ | refine o_gtr rfl rfl ?_ | refine o_geq rfl rfl ?_ | refine o_eql rfl rfl ?_ | refine o_neq rfl rfl ?_ | refine o_neqs rfl rfl ?_ | refine o_not rfl ?_ | refine o_eqb rfl rfl ?_ | refine o_neg rfl ?_ | refine o_len_lst rfl ?_ | refine o_len_sl rfl ?_ | refine o_len_nil rfl ?_ | refine o_len_str rfl ?_ | refine o_faddr_ref rfl ?_ | refine o_faddr_iptr rfl ?_ | refine o_alloc rfl ?_ | refine o_box rfl rfl ?_ | refine o_mkmap ?_ | refine o_load_iptr rfl rfl ?_ | refine o_load_ref rfl (by repeat (first | exact lk_here _ _ _ | assumption | refine lk_skip (by omega) ?_ | refine lk_updS (by omega) ?_ | refine lk_rmS (by omega) ?_ | refine lk_normS ?_ | exact lk_updH (by repeat (first | exact lk_here _ _ _ | assumption | refine lk_skip (by omega) ?_ | refine lk_updS (by omega) ?_ | refine lk_rmS (by omega) ?_ | refine lk_normS ?_ | exact lk_updH (by repeat (first | exact lk_here _ _ _ | assumption | refine lk_skip (by omega) ?_ | refine lk_updS (by omega) ?_ | refine lk_rmS (by omega) ?_ | refine lk_normS ?_)))))) (by rfl) ?_ | refine o_extract rfl rfl ?_ | refine o_mkfn ?_ | refine o_store_top rfl rfl rfl rfl rfl rfl (by omega) ?_ | refine o_nilChk_ref rfl ?_ | refine c_true rfl (by first | rfl | assumption) ?_ | refine c_false rfl (by first | rfl | assumption) ?_ | refine o_iaddr_sl rfl rfl hf ?_ | refine g_split rfl (fun hg => ?_) (fun hg => ?_) | refine c_cond rfl (fun hg => ?_) (fun hg => ?_))
      refine o_store_int (st := sc) (v := 2) rfl rfl ha (by omega) rfl hro ?_
      repeat' (first | refine c_seq hm ?_ | refine c_region ?_ | refine o_nil ?_ | refine q_c ?_ | refine c_skip ?_ | refine c_ret ?_ | refine c_exit ?_ | refine c_scope ?_ | refine c_block hm ?_ | refine q_ret ?_ | refine q_exit ?_ | refine b_nrm ?_ | refine b_ret ?_ | refine b_hit ?_ | refine b_miss (by decide) ?_ | refine l_ret ?_ | refine l_exit ?_ | refine o_mv rfl ?_ | refine g_yes rfl (by first | rfl | assumption) ?_ | refine g_no rfl (by first | rfl | assumption) ?_ | refine o_pick_t rfl (by first | rfl | assumption) rfl ?_ | refine o_pick_f rfl (by first | rfl | assumption) rfl ?_ | refine o_lss rfl rfl ?_ | refine o_leq rfl rfl ?_ | refine o_gtr rfl rfl ?_ | refine o_geq rfl rfl ?_ | refine o_eql rfl rfl ?_ | refine o_neq rfl rfl ?_ | refine o_neqs rfl rfl ?_ | refine o_not rfl ?_ | refine o_eqb rfl rfl ?_ | refine o_neg rfl ?_ | refine o_len_lst rfl ?_ | refine o_len_sl rfl ?_ | refine o_len_nil rfl ?_ | refine o_len_str rfl ?_ | refine o_faddr_ref rfl ?_ | refine o_faddr_iptr rfl ?_ | refine o_alloc rfl ?_ | refine o_box rfl rfl ?_ | refine o_mkmap ?_ | refine o_load_iptr rfl rfl ?_ | refine o_load_ref rfl (by repeat (first | exact lk_here _ _ _ | assumption | refine lk_skip (by omega) ?_ | refine lk_updS (by omega) ?_ | refine lk_rmS (by omega) ?_ | refine lk_normS ?_ | exact lk_updH (by repeat (first | exact lk_here _ _ _ | assumption | refine lk_skip (by omega) ?_ | refine lk_updS (by omega) ?_ | refine lk_rmS (by omega) ?_ | refine lk_normS ?_ | exact lk_updH (by repeat (first | exact lk_here _ _ _ | assumption | refine lk_skip (by omega) ?_ | refine lk_updS (by omega) ?_ | refine lk_rmS (by omega) ?_ | refine lk_normS ?_)))))) (by rfl) ?_ | refine o_extract rfl rfl ?_ | refine o_mkfn ?_ | refine o_store_top rfl rfl rfl rfl rfl rfl (by omega) ?_ | refine o_nilChk_ref rfl ?_ | refine c_true rfl (by first | rfl | assumption) ?_ | refine c_false rfl (by first | rfl | assumption) ?_ | refine g_split rfl (fun hg => ?_) (fun hg => ?_) | refine c_cond rfl (fun hg => ?_) (fun hg => ?_))
      have hfs : f < sc.length := by omega
      have hf1 : sc.getD f 0 = 1 := (hk1 f).2 (by rw [zset hff, if_pos rfl])
      have hsucc : ∀ y, Edg q f y → sc.getD y 0 = 2 := fun y hy => hdone y (by have := hy.2.1; omega) ((hatt y hy.2.1).2 hy.2.2)
      refine e_end ⟨Or.inr rfl, B false, res1 rfl, B false, rfl, rfl, Or.inr ⟨rfl, sc.set f 2, ⟨by rw [List.length_set, hscl, hsl], ?_, ?_, ?_, ?_⟩, ?_, lk_updH ha, ?_, rfl⟩⟩
      · intro x hx h2'
        rw [zset hfs] at h2'
        split at h2'
        · rename_i e
          subst e
          refine ⟨fun y hy => ?_, fun hw => ?_⟩
          · rw [zset hfs]
            split
            · rfl
            · exact hsucc y hy
          · obtain ⟨b, e1, e2⟩ := hw.split
            have hb := hsucc b e1
            rcases e2 with e2 | e2
            · subst e2; rw [hf1] at hb; cases hb
            · have := hscf.way e2 hb
              rw [hf1] at this; cases this
        · refine ⟨fun y hy => ?_, (hscf x hx h2').2⟩
          rw [zset hfs]
          split
          · rfl
          · exact (hscf x hx h2').1 y hy
      · rw [zset hfs, if_pos rfl]
      · intro x hx
        rw [zset hfs]
        split
        · rfl
        · rename_i e
          exact hk2 x (by rw [zset hff, if_neg e]; exact hx)
      · intro x
        rw [zset hfs]
        split
        · rename_i e
          subst e
          rw [h0]
          constructor <;> intro h <;> cases h
        · rename_i e
          rw [hk1 x, zset hff, if_neg e]
      · intro x
        rw [zset hfs]
        split
        · exact Or.inr (Or.inr rfl)
        · exact hscv x
      · intro b hb
        rw [lk_upd, if_neg hb]
        exact hoth b hb
end K36
