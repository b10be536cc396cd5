/-
  A part of the walk through the law: what its functions compute. Conditions: none beyond the statement.
-/
import Derived.Test.YtemeabkpllolmaaGreatDoorWalk6
import Derived.Test.YtemeabkpllolmaaGreatDoorInt11
import Derived.Test.YtemeabkpllolmaaGreatDoorWalk3
set_option maxRecDepth 100000
set_option maxHeartbeats 2000000
set_option linter.unusedVariables false
set_option linter.unusedSimpArgs false
namespace K36
open Go Go.Ai

def rowOf (q : Qry) (f : Nat) (d : D) : Prop := ∃ bs : List Bool, bs.length = q.atoms.length ∧ (∀ h, h < q.atoms.length → (bs.getD h false = true ↔ Att q f h)) ∧ d = .lst (bs.map fun b => [B b])

def draw40 : List IOp := match c40 with
  | .seq _ (.seq _ (.seq (.draw ops) _)) => ops
  | _ => []

theorem attacks40 (q : Qry) (gd : q.Good) (f : Nat) (hf : f < q.atoms.length) (s : St) : callL ir 40 [q.enc, I64 f] s fun o s' => ∃ d, o = .ret d ∧ rowOf q f d ∧ Fr s s' := by
  have hm := callL_mono ir
  have hk := gd.k f hf
  have hl12 := gd.l f hf
  refine fun_view (fn := i40) (args' := [q.enc, I64 f]) (H1 := s.H) (P := rowOf q f) rfl rfl rfl rfl rfl ?_
  show CodeR _ 72 c40 _ _ _
  unfold c40
  repeat' (first | refine c_seq hm ?_ | refine c_region ?_ | refine o_nil ?_ | refine q_c ?_ | refine c_skip ?_ | refine c_ret ?_ | refine c_exit ?_ | refine c_scope ?_ | refine c_block hm ?_ | refine q_ret ?_ | refine q_exit ?_ | refine b_nrm ?_ | refine b_ret ?_ | refine b_hit ?_ | refine b_miss (by decide) ?_ | refine l_ret ?_ | refine l_exit ?_ | refine o_mv rfl ?_ | refine g_yes rfl (by first | rfl | assumption) ?_ | refine g_no rfl (by first | rfl | assumption) ?_ | refine o_pick_t rfl (by first | rfl | assumption) rfl ?_ | refine o_pick_f rfl (by first | rfl | assumption) rfl ?_ | refine o_lss rfl rfl ?_ | refine o_leq rfl rfl ?_ | refine o_gtr rfl rfl ?_ | refine o_geq rfl rfl ?_ | refine o_eql rfl rfl ?_ | refine o_neq rfl rfl ?_ | refine o_neqs rfl rfl ?_ | refine o_not rfl ?_ | refine o_eqb rfl rfl ?_ | refine o_neg rfl ?_ | refine o_len_lst rfl ?_ | refine o_len_sl rfl ?_ | refine o_len_nil rfl ?_ | refine o_len_str rfl ?_ | refine o_faddr_ref rfl ?_ | refine o_faddr_iptr rfl ?_ | refine o_alloc rfl ?_ | refine o_box rfl rfl ?_ | refine o_mkmap ?_ | refine o_load_iptr rfl rfl ?_ | refine o_load_ref rfl (by repeat (first | exact lk_here _ _ _ | assumption | refine lk_skip (by omega) ?_ | refine lk_updS (by omega) ?_ | refine lk_rmS (by omega) ?_ | refine lk_normS ?_ | exact lk_updH (by repeat (first | exact lk_here _ _ _ | assumption | refine lk_skip (by omega) ?_ | refine lk_updS (by omega) ?_ | refine lk_rmS (by omega) ?_ | refine lk_normS ?_ | exact lk_updH (by repeat (first | exact lk_here _ _ _ | assumption | refine lk_skip (by omega) ?_ | refine lk_updS (by omega) ?_ | refine lk_rmS (by omega) ?_ | refine lk_normS ?_)))))) (by rfl) ?_ | refine o_extract rfl rfl ?_ | refine o_mkfn ?_ | refine o_store_top rfl rfl rfl rfl rfl rfl (by omega) ?_ | refine o_nilChk_ref rfl ?_ | refine c_true rfl (by first | rfl | assumption) ?_ | refine c_false rfl (by first | rfl | assumption) ?_ | refine g_split rfl (fun hg => ?_) (fun hg => ?_) | refine c_cond rfl (fun hg => ?_) (fun hg => ?_))
  refine o_iaddr_lst (cs := (q.at f).enc) rfl rfl (by simp [hf]) rfl ?_
  repeat' (first | refine c_seq hm ?_ | refine c_region ?_ | refine o_nil ?_ | refine q_c ?_ | refine c_skip ?_ | refine c_ret ?_ | refine c_exit ?_ | refine c_scope ?_ | refine c_block hm ?_ | refine q_ret ?_ | refine q_exit ?_ | refine b_nrm ?_ | refine b_ret ?_ | refine b_hit ?_ | refine b_miss (by decide) ?_ | refine l_ret ?_ | refine l_exit ?_ | refine o_mv rfl ?_ | refine g_yes rfl (by first | rfl | assumption) ?_ | refine g_no rfl (by first | rfl | assumption) ?_ | refine o_pick_t rfl (by first | rfl | assumption) rfl ?_ | refine o_pick_f rfl (by first | rfl | assumption) rfl ?_ | refine o_lss rfl rfl ?_ | refine o_leq rfl rfl ?_ | refine o_gtr rfl rfl ?_ | refine o_geq rfl rfl ?_ | refine o_eql rfl rfl ?_ | refine o_neq rfl rfl ?_ | refine o_neqs rfl rfl ?_ | refine o_not rfl ?_ | refine o_eqb rfl rfl ?_ | refine o_neg rfl ?_ | refine o_len_lst rfl ?_ | refine o_len_sl rfl ?_ | refine o_len_nil rfl ?_ | refine o_len_str rfl ?_ | refine o_faddr_ref rfl ?_ | refine o_faddr_iptr rfl ?_ | refine o_alloc rfl ?_ | refine o_box rfl rfl ?_ | refine o_mkmap ?_ | refine o_load_iptr rfl rfl ?_ | refine o_load_ref rfl (by repeat (first | exact lk_here _ _ _ | assumption | refine lk_skip (by omega) ?_ | refine lk_updS (by omega) ?_ | refine lk_rmS (by omega) ?_ | refine lk_normS ?_ | exact lk_updH (by repeat (first | exact lk_here _ _ _ | assumption | refine lk_skip (by omega) ?_ | refine lk_updS (by omega) ?_ | refine lk_rmS (by omega) ?_ | refine lk_normS ?_ | exact lk_updH (by repeat (first | exact lk_here _ _ _ | assumption | refine lk_skip (by omega) ?_ | refine lk_updS (by omega) ?_ | refine lk_rmS (by omega) ?_ | refine lk_normS ?_)))))) (by rfl) ?_ | refine o_extract rfl rfl ?_ | refine o_mkfn ?_ | refine o_store_top rfl rfl rfl rfl rfl rfl (by omega) ?_ | refine o_nilChk_ref rfl ?_ | refine c_true rfl (by first | rfl | assumption) ?_ | refine c_false rfl (by first | rfl | assumption) ?_ | refine g_split rfl (fun hg => ?_) (fun hg => ?_) | refine c_cond rfl (fun hg => ?_) (fun hg => ?_))
  refine ⟨fun T hT hE => ?_⟩
  have key0 : (q.at f).key = ((q.at f).key.toNat : Int) := (Int.toNat_of_nonneg hk.1).symm
  refine e_load hm hT hE 0 [7, 9] rfl rfl rfl rfl rfl rfl (by repeat (first | exact lk_here _ _ _ | assumption | refine lk_skip (by omega) ?_ | refine lk_updS (by omega) ?_ | refine lk_rmS (by omega) ?_ | refine lk_normS ?_ | exact lk_updH (by repeat (first | exact lk_here _ _ _ | assumption | refine lk_skip (by omega) ?_ | refine lk_updS (by omega) ?_ | refine lk_rmS (by omega) ?_ | refine lk_normS ?_ | exact lk_updH (by repeat (first | exact lk_here _ _ _ | assumption | refine lk_skip (by omega) ?_ | refine lk_updS (by omega) ?_ | refine lk_rmS (by omega) ?_ | refine lk_normS ?_)))))) (by rfl) (by dsimp only; omega) (fun T hT hE => ?_)
  refine e_pure hm hT hE 1 [7, 9] rfl rfl rfl rfl rfl (fun _ => rfl) (fun T hT hE => ?_)
  refine e_pure hm hT hE 2 [3, 6, 7, 9] rfl rfl rfl rfl rfl (fun _ => rfl) (fun T hT hE => ?_)
  refine e_load hm hT hE 3 [6, 7, 9] rfl rfl rfl rfl rfl rfl (by repeat (first | exact lk_here _ _ _ | assumption | refine lk_skip (by omega) ?_ | refine lk_updS (by omega) ?_ | refine lk_rmS (by omega) ?_ | refine lk_normS ?_ | exact lk_updH (by repeat (first | exact lk_here _ _ _ | assumption | refine lk_skip (by omega) ?_ | refine lk_updS (by omega) ?_ | refine lk_rmS (by omega) ?_ | refine lk_normS ?_ | exact lk_updH (by repeat (first | exact lk_here _ _ _ | assumption | refine lk_skip (by omega) ?_ | refine lk_updS (by omega) ?_ | refine lk_rmS (by omega) ?_ | refine lk_normS ?_)))))) (by rfl) (by dsimp only; omega) (fun T hT hE => ?_)
  refine e_pure hm hT hE 4 [5, 6, 7, 9] rfl rfl rfl rfl rfl (fun _ => rfl) (fun T hT hE => ?_)
  refine e_load hm hT hE 5 [6, 7, 9] rfl rfl rfl rfl rfl rfl (by repeat (first | exact lk_here _ _ _ | assumption | refine lk_skip (by omega) ?_ | refine lk_updS (by omega) ?_ | refine lk_rmS (by omega) ?_ | refine lk_normS ?_ | exact lk_updH (by repeat (first | exact lk_here _ _ _ | assumption | refine lk_skip (by omega) ?_ | refine lk_updS (by omega) ?_ | refine lk_rmS (by omega) ?_ | refine lk_normS ?_ | exact lk_updH (by repeat (first | exact lk_here _ _ _ | assumption | refine lk_skip (by omega) ?_ | refine lk_updS (by omega) ?_ | refine lk_rmS (by omega) ?_ | refine lk_normS ?_)))))) (by rfl) (by dsimp only; omega) (fun T hT hE => ?_)
  refine e_pure hm hT hE 6 [7, 9] rfl rfl rfl rfl rfl (fun s => exec_take (xs := (q.at f).terms.map fun t => [I64 t]) (j := (q.at f).key.toNat) rfl (show _ = I64 ((q.at f).key.toNat : Int) by rw [← key0]; rfl) (by intro c hc; obtain ⟨x, -, rfl⟩ := List.mem_map.1 hc; rfl) (by simp only [List.length_map]; omega) s) (fun T hT hE => ?_)
  have hkeys : intL (q.at f).keys = .lst (((q.at f).terms.map fun t => [I64 t]).take (q.at f).key.toNat) := by simp only [intL, Atm.keys, List.map_take]
  have hkl : (q.at f).keys.length ≤ 12 := by rw [Atm.keys, List.length_take]; omega
  have fin : ∀ (E' : Env) (H' : Heap) (nx' : Nat) (l : List Int), E' 1 = I64 f → E' 2 = .ref s.nx 0 → E' 6 = .ref (s.nx + 1 + 1 + 8) 0 → (∀ t, t ∈ l ↔ Cls q f (q.at f).keys t) → lk H' s.nx = some (.cells q.cells 25 0) → lk H' (s.nx + 1 + 1 + 8) = some (.cells [.imap (mp l)] 111 0) → s.nx + 12 ≤ nx' →
      (∀ b, b < s.nx → lk H' b = lk s.H b) → CodeR (callL ir) 72 rest40 E' ⟨H', nx', s.nx⟩ (EndQ fun r s' => (r.1 = .nrm ∨ r.1 = .ret) ∧ ∃ d d' H2, resEnv r.2 s'.H i40.res = some d ∧ rigid fuelV d = false ∧ view fuelV d s'.H = some (d', H2) ∧ (∀ b, b < s.nx → lk H2 b = lk s.H b) ∧ s.nx ≤ s'.nx ∧ rowOf q f d') := by
    intro E' H' nx' l a1 a2 a3 a4 a5 a6 a7 a8
    have hE' : E' = puts E' [(1, I64 f), (2, .ref s.nx 0), (6, .ref (s.nx + 1 + 1 + 8) 0)] := puts_ex ⟨a1, a2, a3, trivial⟩
    rw [hE']
    refine CodeR.mono hm (fun r s' hr => ?_) (attacks_rest q gd f hf l a4 E' H' nx' s.nx (s.nx + 1 + 1 + 8) s.nx a5 a6 (by omega) (by omega) (by omega) (by omega))
    obtain ⟨h1, d, d', H2, h2, h3, h4, h5, h6, h7⟩ := hr.h
    exact ⟨h1, d, d', H2, h2, h3, h4, fun b hb => by rw [h5 b hb, a8 b hb], by omega, h7⟩
  refine d_two 7 8 rfl (by decide) (by decide) ?_ ?_
  · refine e_call (P := fun d s' => (∃ l : List Int, d = .imap (mp l) ∧ ∀ t, t ∈ l ↔ Cls q f (q.at f).keys t) ∧ Fr _ s') (args := [q.enc, I64 f, intL (q.at f).keys]) hm hT hE rfl (by rw [hkeys]; rfl) (closure61 q gd f _ hkl _) ?_
    rintro d ⟨H', nx', ro'⟩ T ⟨⟨l, rfl, hl⟩, f1, f2, f3⟩ hT hE
    dsimp only at f1 f2 f3
    subst f1
    try simp only [List.length_cons, List.length_nil] at f2 f3
    refine d_one 8 rfl (by decide) ?_
    refine e_alloc hT hE rfl rfl (fun T hT hE => ?_)
    refine d_one 9 rfl (by decide) ?_
    refine e_store hE rfl rfl (by repeat (first | exact lk_here _ _ _ | assumption | refine lk_skip (by omega) ?_ | refine lk_updS (by omega) ?_ | refine lk_rmS (by omega) ?_ | refine lk_normS ?_ | exact lk_updH (by repeat (first | exact lk_here _ _ _ | assumption | refine lk_skip (by omega) ?_ | refine lk_updS (by omega) ?_ | refine lk_rmS (by omega) ?_ | refine lk_normS ?_ | exact lk_updH (by repeat (first | exact lk_here _ _ _ | assumption | refine lk_skip (by omega) ?_ | refine lk_updS (by omega) ?_ | refine lk_rmS (by omega) ?_ | refine lk_normS ?_)))))) rfl rfl (Nat.le_of_ble_eq_true rfl) (Nat.zero_le _) (by dsimp only; omega) ?_
    refine d_end rfl ?_
    refine q_c ?_
    refine fin _ _ _ l (by rw [hE]; rfl) (by rw [hE]; rfl) (by rw [hE]; rfl) hl ?_ ?_ (by omega) ?_
    · refine lk_normS (lk_updS (by first | omega | (dsimp only; omega)) (lk_normS (lk_skip (by first | omega | (dsimp only; omega)) ?_)))
      rw [f3 _ (by omega)]
      repeat (first | exact lk_here _ _ _ | assumption | refine lk_skip (by omega) ?_ | refine lk_updS (by omega) ?_ | refine lk_rmS (by omega) ?_ | refine lk_normS ?_ | exact lk_updH (by repeat (first | exact lk_here _ _ _ | assumption | refine lk_skip (by omega) ?_ | refine lk_updS (by omega) ?_ | refine lk_rmS (by omega) ?_ | refine lk_normS ?_ | exact lk_updH (by repeat (first | exact lk_here _ _ _ | assumption | refine lk_skip (by omega) ?_ | refine lk_updS (by omega) ?_ | refine lk_rmS (by omega) ?_ | refine lk_normS ?_)))))
    · exact lk_normS (lk_updH (lk_normS (lk_here _ _ _)))
    · intro b hb
      rw [lk_norm, lk_upd, if_neg (by first | omega | (dsimp only; omega)), lk_norm, lk_there _ _ (by first | omega | (dsimp only; omega)), f3 b (by omega)]
      repeat (first | rfl | rw [lk_there _ _ (by omega)] | rw [lk_upd, if_neg (by omega)] | rw [lk_rm, if_neg (by omega)] | rw [lk_norm])
  · refine e_alloc hT hE rfl rfl (fun T hT hE => ?_)
    refine d_one 7 rfl (by decide) ?_
    refine e_call (P := fun d s' => (∃ l : List Int, d = .imap (mp l) ∧ ∀ t, t ∈ l ↔ Cls q f (q.at f).keys t) ∧ Fr _ s') (args := [q.enc, I64 f, intL (q.at f).keys]) hm hT hE rfl (by rw [hkeys]; rfl) (closure61 q gd f _ hkl _) ?_
    rintro d ⟨H', nx', ro'⟩ T ⟨⟨l, rfl, hl⟩, f1, f2, f3⟩ hT hE
    dsimp only at f1 f2 f3
    subst f1
    try simp only [List.length_cons, List.length_nil] at f2 f3
    refine d_one 9 rfl (by decide) ?_
    have hpl : lk H' (s.nx + 1 + 1 + 8) = some (.cells [.raw (.map none)] 111 0) := by
      rw [f3 _ (by omega)]
      exact lk_normS (lk_here _ _ _)
    refine e_store hE rfl rfl hpl rfl rfl (Nat.le_of_ble_eq_true rfl) (Nat.zero_le _) (by first | omega | (dsimp only; omega)) ?_
    refine d_end rfl ?_
    refine q_c ?_
    refine fin _ _ _ l (by rw [hE]; rfl) (by rw [hE]; rfl) (by rw [hE]; rfl) hl ?_ ?_ (by omega) ?_
    · refine lk_normS (lk_updS (by first | omega | (dsimp only; omega)) ?_)
      rw [f3 _ (by omega)]
      refine lk_normS (lk_skip (by first | omega | (dsimp only; omega)) ?_)
      repeat (first | exact lk_here _ _ _ | assumption | refine lk_skip (by omega) ?_ | refine lk_updS (by omega) ?_ | refine lk_rmS (by omega) ?_ | refine lk_normS ?_ | exact lk_updH (by repeat (first | exact lk_here _ _ _ | assumption | refine lk_skip (by omega) ?_ | refine lk_updS (by omega) ?_ | refine lk_rmS (by omega) ?_ | refine lk_normS ?_ | exact lk_updH (by repeat (first | exact lk_here _ _ _ | assumption | refine lk_skip (by omega) ?_ | refine lk_updS (by omega) ?_ | refine lk_rmS (by omega) ?_ | refine lk_normS ?_)))))
    · exact lk_normS (lk_updH hpl)
    · intro b hb
      rw [lk_norm, lk_upd, if_neg (by first | omega | (dsimp only; omega)), f3 b (by omega), lk_norm, lk_there _ _ (by first | omega | (dsimp only; omega))]
      repeat (first | rfl | rw [lk_there _ _ (by omega)] | rw [lk_upd, if_neg (by omega)] | rw [lk_rm, if_neg (by omega)] | rw [lk_norm])
end K36
set_option maxRecDepth 100000
set_option maxHeartbeats 2000000
set_option linter.unusedVariables false
set_option linter.unusedSimpArgs false
namespace K36
open Go Go.Ai

theorem good_of {q : Qry} (h : q.ok = true) : q.Good := by
  have hh : q.badH = false := by
    cases hb : q.badH with
    | false => rfl
    | true => rw [ok_h hb] at h; cases h
  have ha : ∀ i, i < q.atoms.length → q.badA i = false := by
    intro i hi
    cases hb : q.badA i with
    | false => rfl
    | true => rw [ok_a hi hb] at h; cases h
  have hL : ∀ i, i < q.atoms.length → (q.at i).badL = false := by
    intro i hi
    have := ha i hi
    simp only [Qry.badA, Bool.or_eq_false_iff] at this
    exact this.2.1
  refine ⟨?_, fun i hi => ?_, fun i hi => ?_⟩
  · simp only [Qry.badH, Bool.or_eq_false_iff, decide_eq_false_iff_not] at hh
    omega
  · have := hL i hi
    simp only [Atm.badL, Bool.or_eq_false_iff, decide_eq_false_iff_not, bne_eq_false_iff_eq] at this
    omega
  · have := hL i hi
    simp only [Atm.badL, Bool.or_eq_false_iff, decide_eq_false_iff_not, bne_eq_false_iff_eq] at this
    omega

/-- What 'Attacks' yields. -/
def rowsOf (q : Qry) (d : D) : Prop := ∃ rows : List D, rows.length = q.atoms.length ∧ (∀ i, i < q.atoms.length → rowOf q i (rows.getD i default)) ∧ (d = .lst (rows.map fun r => [r]) ∨ (q.atoms.length = 0 ∧ d = .raw (.slice none 0 0)))

theorem viewL_rows (H : Heap) (P : Nat → D → Prop) (hP : ∀ i d, P i d → ∃ xs, d = .lst xs) : ∀ (l : List D) (k : Nat), l.length < k → (∀ d ∈ l, ∃ xs, d = .lst xs) → viewL k l H = some (l, H)
  | [], k, h, _ => by cases k <;> rfl
  | t :: l, k + 1, h, hl => by
    have h2 : 0 < k := by simp at h; omega
    obtain ⟨j, rfl⟩ : ∃ j, k = j + 1 := ⟨k - 1, by omega⟩
    have ih := viewL_rows H P hP l (j + 1) (by simpa using h) (fun d hd => hl d (List.mem_cons_of_mem _ hd))
    obtain ⟨xs, rfl⟩ := hl t (List.mem_cons_self ..)
    simp only [viewL, view, ih]
theorem view_rows {H : Heap} {w e lo : Nat} {rows : List D} {z : D} (hl : lk H w = some (.cells rows e lo)) (hb : rows.length < 1000) (hr : ∀ d ∈ rows, ∃ xs, d = .lst xs) (n : Int) : view fuelV (.tup [.sl w 0 rows.length 1, I64 n]) H = some (.tup [.lst (rows.map fun r => [r]), I64 n], upd H w (.cells rows e (max lo (0 + rows.length * 1)))) := by
  have h1 : fuelV = 999999 + 1 := rfl
  have h1b : (999999 : Nat) = 999998 + 1 := rfl
  have h1c : (999998 : Nat) = 999997 + 1 := rfl
  have h2 : (rows.drop 0).take (rows.length * 1) = rows := by
    rw [List.drop_zero, Nat.mul_one]
    exact List.take_of_length_le (Nat.le_refl _)
  have h4 : 0 + rows.length * 1 ≤ rows.length := by omega
  have h5 : view 999998 (.sl w 0 rows.length 1) H = some (.lst (rows.map fun r => [r]), upd H w (.cells rows e (max lo (0 + rows.length * 1)))) := by
    rw [h1c]
    simp only [view, hl, if_pos h4, h2]
    rw [viewL_rows _ (fun _ d => ∃ xs, d = .lst xs) (fun _ _ h => h) rows _ (by omega) hr]
    simp only [chunks1]
  rw [h1]
  simp only [view]
  rw [h1b]
  simp only [viewL]
  rw [h5]
  rfl

theorem attacks12 (q : Qry) (hq0 : q.Fits) (hok : q.ok = true) (s : St) : callL ir 12 [q.enc] s fun o s' => ∃ d, o = .ret d ∧ (∃ r, d = .tup [r, I64 0] ∧ rowsOf q r) ∧ Fr s s' := by
  have hm := callL_mono ir
  have gd := good_of hok
  have hal := gd.a
  refine fun_any (fn := i12) (args' := [q.enc]) (H1 := s.H) (P := fun d => ∃ r, d = .tup [r, I64 0] ∧ rowsOf q r) rfl rfl rfl rfl rfl ?_
  show CodeR _ 23 c12 _ _ _
  unfold c12
  repeat' (first | refine c_seq hm ?_ | refine c_region ?_ | refine o_nil ?_ | refine q_c ?_ | refine c_skip ?_ | refine c_ret ?_ | refine c_exit ?_ | refine c_scope ?_ | refine c_block hm ?_ | refine q_ret ?_ | refine q_exit ?_ | refine b_nrm ?_ | refine b_ret ?_ | refine b_hit ?_ | refine b_miss (by decide) ?_ | refine l_ret ?_ | refine l_exit ?_ | refine o_mv rfl ?_ | refine g_yes rfl (by first | rfl | assumption) ?_ | refine g_no rfl (by first | rfl | assumption) ?_ | refine o_pick_t rfl (by first | rfl | assumption) rfl ?_ | refine o_pick_f rfl (by first | rfl | assumption) rfl ?_ | refine o_lss rfl rfl ?_ | refine o_leq rfl rfl ?_ | refine o_gtr rfl rfl ?_ | refine o_geq rfl rfl ?_ | refine o_eql rfl rfl ?_ | refine o_neq rfl rfl ?_ | refine o_neqs rfl rfl ?_ | refine o_not rfl ?_ | refine o_eqb rfl rfl ?_ | refine o_neg rfl ?_ | refine o_len_lst rfl ?_ | refine o_len_sl rfl ?_ | refine o_len_nil rfl ?_ | refine o_len_str rfl ?_ | refine o_faddr_ref rfl ?_ | refine o_faddr_iptr rfl ?_ | refine o_alloc rfl ?_ | refine o_box rfl rfl ?_ | refine o_mkmap ?_ | refine o_load_iptr rfl rfl ?_ | refine o_load_ref rfl (by repeat (first | exact lk_here _ _ _ | assumption | refine lk_skip (by omega) ?_ | refine lk_updS (by omega) ?_ | refine lk_rmS (by omega) ?_ | refine lk_normS ?_ | exact lk_updH (by repeat (first | exact lk_here _ _ _ | assumption | refine lk_skip (by omega) ?_ | refine lk_updS (by omega) ?_ | refine lk_rmS (by omega) ?_ | refine lk_normS ?_ | exact lk_updH (by repeat (first | exact lk_here _ _ _ | assumption | refine lk_skip (by omega) ?_ | refine lk_updS (by omega) ?_ | refine lk_rmS (by omega) ?_ | refine lk_normS ?_)))))) (by rfl) ?_ | refine o_extract rfl rfl ?_ | refine o_mkfn ?_ | refine o_store_top rfl rfl rfl rfl rfl rfl (by omega) ?_ | refine o_nilChk_ref rfl ?_ | refine c_true rfl (by first | rfl | assumption) ?_ | refine c_false rfl (by first | rfl | assumption) ?_ | refine g_split rfl (fun hg => ?_) (fun hg => ?_) | refine c_cond rfl (fun hg => ?_) (fun hg => ?_))
  refine o_at (args := [q.enc]) hm rfl (valid11 q hq0 _) (fun n2 hn2 => ?_)
  rw [hok]
  repeat' (first | refine c_seq hm ?_ | refine c_region ?_ | refine o_nil ?_ | refine q_c ?_ | refine c_skip ?_ | refine c_ret ?_ | refine c_exit ?_ | refine c_scope ?_ | refine c_block hm ?_ | refine q_ret ?_ | refine q_exit ?_ | refine b_nrm ?_ | refine b_ret ?_ | refine b_hit ?_ | refine b_miss (by decide) ?_ | refine l_ret ?_ | refine l_exit ?_ | refine o_mv rfl ?_ | refine g_yes rfl (by first | rfl | assumption) ?_ | refine g_no rfl (by first | rfl | assumption) ?_ | refine o_pick_t rfl (by first | rfl | assumption) rfl ?_ | refine o_pick_f rfl (by first | rfl | assumption) rfl ?_ | refine o_lss rfl rfl ?_ | refine o_leq rfl rfl ?_ | refine o_gtr rfl rfl ?_ | refine o_geq rfl rfl ?_ | refine o_eql rfl rfl ?_ | refine o_neq rfl rfl ?_ | refine o_neqs rfl rfl ?_ | refine o_not rfl ?_ | refine o_eqb rfl rfl ?_ | refine o_neg rfl ?_ | refine o_len_lst rfl ?_ | refine o_len_sl rfl ?_ | refine o_len_nil rfl ?_ | refine o_len_str rfl ?_ | refine o_faddr_ref rfl ?_ | refine o_faddr_iptr rfl ?_ | refine o_alloc rfl ?_ | refine o_box rfl rfl ?_ | refine o_mkmap ?_ | refine o_load_iptr rfl rfl ?_ | refine o_load_ref rfl (by repeat (first | exact lk_here _ _ _ | assumption | refine lk_skip (by omega) ?_ | refine lk_updS (by omega) ?_ | refine lk_rmS (by omega) ?_ | refine lk_normS ?_ | exact lk_updH (by repeat (first | exact lk_here _ _ _ | assumption | refine lk_skip (by omega) ?_ | refine lk_updS (by omega) ?_ | refine lk_rmS (by omega) ?_ | refine lk_normS ?_ | exact lk_updH (by repeat (first | exact lk_here _ _ _ | assumption | refine lk_skip (by omega) ?_ | refine lk_updS (by omega) ?_ | refine lk_rmS (by omega) ?_ | refine lk_normS ?_)))))) (by rfl) ?_ | refine o_extract rfl rfl ?_ | refine o_mkfn ?_ | refine o_store_top rfl rfl rfl rfl rfl rfl (by omega) ?_ | refine o_nilChk_ref rfl ?_ | refine c_true rfl (by first | rfl | assumption) ?_ | refine c_false rfl (by first | rfl | assumption) ?_ | refine g_split rfl (fun hg => ?_) (fun hg => ?_) | refine c_cond rfl (fun hg => ?_) (fun hg => ?_))
  refine c_loop hm (fun n E s' => ∃ (i : Nat) (rows : List D) (X : D) (E0 : Env) (H : Heap) (nx : Nat), n = q.atoms.length - i ∧ i ≤ q.atoms.length ∧ rows.length = i ∧ (∀ j, j < i → rowOf q j (rows.getD j default)) ∧ (∀ d ∈ rows, ∃ xs, d = .lst xs) ∧ E = puts E0 [(1, .ref s.nx 0), (4, X), (10, .lst (q.atoms.map Atm.enc)), (11, I64 (q.atoms.map Atm.enc).length), (12, I64 i)] ∧ s' = ⟨H, nx, s.nx⟩ ∧ s.nx < nx ∧
      lk H s.nx = some (.cells q.cells 25 0) ∧ (∀ b, b < s.nx → lk H b = lk s.H b) ∧ ((i = 0 ∧ X = .raw (.slice none 0 0)) ∨ (0 < i ∧ ∃ w, X = .sl w 0 i 1 ∧ s.nx < w ∧ w < nx ∧ lk H w = some (.cells rows 35 0))))
    (n0 := q.atoms.length) ⟨0, [], .raw (.slice none 0 0), _, _, _, rfl, Nat.zero_le _, rfl, fun j hj => absurd hj (Nat.not_lt_zero _), fun d hd => by simp at hd, puts_ex ⟨rfl, rfl, rfl, rfl, rfl, trivial⟩, rfl, by first | omega | (dsimp only at *; omega), (by repeat (first | exact lk_here _ _ _ | assumption | refine lk_skip (by omega) ?_ | refine lk_updS (by omega) ?_ | refine lk_rmS (by omega) ?_ | refine lk_normS ?_ | exact lk_updH (by repeat (first | exact lk_here _ _ _ | assumption | refine lk_skip (by omega) ?_ | refine lk_updS (by omega) ?_ | refine lk_rmS (by omega) ?_ | refine lk_normS ?_ | exact lk_updH (by repeat (first | exact lk_here _ _ _ | assumption | refine lk_skip (by omega) ?_ | refine lk_updS (by omega) ?_ | refine lk_rmS (by omega) ?_ | refine lk_normS ?_)))))), ?_, Or.inl ⟨rfl, rfl⟩⟩ ?_
  · intro b hb
    repeat (first | rfl | rw [lk_there _ _ (by omega)] | rw [lk_upd, if_neg (by omega)] | rw [lk_rm, if_neg (by omega)] | rw [lk_norm])
  rintro n E s' ⟨i, rows, X, E0, H, nx, rfl, hi, hrl, hrows, hlst, rfl, rfl, hnx, hq, hfr, hX⟩
  repeat' (first | refine c_seq hm ?_ | refine c_region ?_ | refine o_nil ?_ | refine q_c ?_ | refine c_skip ?_ | refine c_ret ?_ | refine c_exit ?_ | refine c_scope ?_ | refine c_block hm ?_ | refine q_ret ?_ | refine q_exit ?_ | refine b_nrm ?_ | refine b_ret ?_ | refine b_hit ?_ | refine b_miss (by decide) ?_ | refine l_ret ?_ | refine l_exit ?_ | refine o_mv rfl ?_ | refine g_yes rfl (by first | rfl | assumption) ?_ | refine g_no rfl (by first | rfl | assumption) ?_ | refine o_pick_t rfl (by first | rfl | assumption) rfl ?_ | refine o_pick_f rfl (by first | rfl | assumption) rfl ?_ | refine o_lss rfl rfl ?_ | refine o_leq rfl rfl ?_ | refine o_gtr rfl rfl ?_ | refine o_geq rfl rfl ?_ | refine o_eql rfl rfl ?_ | refine o_neq rfl rfl ?_ | refine o_neqs rfl rfl ?_ | refine o_not rfl ?_ | refine o_eqb rfl rfl ?_ | refine o_neg rfl ?_ | refine o_len_lst rfl ?_ | refine o_len_sl rfl ?_ | refine o_len_nil rfl ?_ | refine o_len_str rfl ?_ | refine o_faddr_ref rfl ?_ | refine o_faddr_iptr rfl ?_ | refine o_alloc rfl ?_ | refine o_box rfl rfl ?_ | refine o_mkmap ?_ | refine o_load_iptr rfl rfl ?_ | refine o_load_ref rfl (by repeat (first | exact lk_here _ _ _ | assumption | refine lk_skip (by omega) ?_ | refine lk_updS (by omega) ?_ | refine lk_rmS (by omega) ?_ | refine lk_normS ?_ | exact lk_updH (by repeat (first | exact lk_here _ _ _ | assumption | refine lk_skip (by omega) ?_ | refine lk_updS (by omega) ?_ | refine lk_rmS (by omega) ?_ | refine lk_normS ?_ | exact lk_updH (by repeat (first | exact lk_here _ _ _ | assumption | refine lk_skip (by omega) ?_ | refine lk_updS (by omega) ?_ | refine lk_rmS (by omega) ?_ | refine lk_normS ?_)))))) (by rfl) ?_ | refine o_extract rfl rfl ?_ | refine o_mkfn ?_ | refine o_store_top rfl rfl rfl rfl rfl rfl (by omega) ?_ | refine o_nilChk_ref rfl ?_ | refine c_true rfl (by first | rfl | assumption) ?_ | refine c_false rfl (by first | rfl | assumption) ?_ | refine g_split rfl (fun hg => ?_) (fun hg => ?_) | refine c_cond rfl (fun hg => ?_) (fun hg => ?_))
  · have hlt : i < q.atoms.length := by simpa using hg
    clear hg
    refine o_callE (P := rowOf q i) (args := [q.enc, I64 i]) hm rfl (attacks40 q gd i hlt _) (fun d H' n3 hp hn3 hfr3 => ?_)
    have hp' := hp
    obtain ⟨bs, hbs, hatt, rfl⟩ := hp'
    repeat' (first | refine c_seq hm ?_ | refine c_region ?_ | refine o_nil ?_ | refine q_c ?_ | refine c_skip ?_ | refine c_ret ?_ | refine c_exit ?_ | refine c_scope ?_ | refine c_block hm ?_ | refine q_ret ?_ | refine q_exit ?_ | refine b_nrm ?_ | refine b_ret ?_ | refine b_hit ?_ | refine b_miss (by decide) ?_ | refine l_ret ?_ | refine l_exit ?_ | refine o_mv rfl ?_ | refine g_yes rfl (by first | rfl | assumption) ?_ | refine g_no rfl (by first | rfl | assumption) ?_ | refine o_pick_t rfl (by first | rfl | assumption) rfl ?_ | refine o_pick_f rfl (by first | rfl | assumption) rfl ?_ | refine o_lss rfl rfl ?_ | refine o_leq rfl rfl ?_ | refine o_gtr rfl rfl ?_ | refine o_geq rfl rfl ?_ | refine o_eql rfl rfl ?_ | refine o_neq rfl rfl ?_ | refine o_neqs rfl rfl ?_ | refine o_not rfl ?_ | refine o_eqb rfl rfl ?_ | refine o_neg rfl ?_ | refine o_len_lst rfl ?_ | refine o_len_sl rfl ?_ | refine o_len_nil rfl ?_ | refine o_len_str rfl ?_ | refine o_faddr_ref rfl ?_ | refine o_faddr_iptr rfl ?_ | refine o_alloc rfl ?_ | refine o_box rfl rfl ?_ | refine o_mkmap ?_ | refine o_load_iptr rfl rfl ?_ | refine o_load_ref rfl (by repeat (first | exact lk_here _ _ _ | assumption | refine lk_skip (by omega) ?_ | refine lk_updS (by omega) ?_ | refine lk_rmS (by omega) ?_ | refine lk_normS ?_ | exact lk_updH (by repeat (first | exact lk_here _ _ _ | assumption | refine lk_skip (by omega) ?_ | refine lk_updS (by omega) ?_ | refine lk_rmS (by omega) ?_ | refine lk_normS ?_ | exact lk_updH (by repeat (first | exact lk_here _ _ _ | assumption | refine lk_skip (by omega) ?_ | refine lk_updS (by omega) ?_ | refine lk_rmS (by omega) ?_ | refine lk_normS ?_)))))) (by rfl) ?_ | refine o_extract rfl rfl ?_ | refine o_mkfn ?_ | refine o_store_top rfl rfl rfl rfl rfl rfl (by omega) ?_ | refine o_nilChk_ref rfl ?_ | refine c_true rfl (by first | rfl | assumption) ?_ | refine c_false rfl (by first | rfl | assumption) ?_ | refine o_bslice1 rfl rfl rfl rfl ?_ | refine g_split rfl (fun hg => ?_) (fun hg => ?_) | refine c_cond rfl (fun hg => ?_) (fun hg => ?_))
    have hnew : ∀ j, j < i + 1 → rowOf q j ((rows ++ [D.lst (bs.map fun b => [B b])]).getD j default) := by
      intro j hj
      rcases Nat.lt_succ_iff_lt_or_eq.1 hj with h | h
      · have := hrows j h
        rw [show (rows ++ [D.lst (bs.map fun b => [B b])]).getD j default = rows.getD j default by simp [List.getD_eq_getElem?_getD, List.getElem?_append, hrl, h]]
        exact this
      · subst h
        rw [show (rows ++ [D.lst (bs.map fun b => [B b])]).getD j default = .lst (bs.map fun b => [B b]) by simp [List.getD_eq_getElem?_getD, List.getElem?_append, hrl]]
        exact hp
    have hnewl : ∀ d ∈ rows ++ [D.lst (bs.map fun b => [B b])], ∃ xs, d = .lst xs := by
      intro d hd
      rcases List.mem_append.1 hd with h | h
      · exact hlst d h
      · rw [List.mem_singleton] at h
        exact ⟨_, h⟩
    rcases hX with ⟨rfl, rfl⟩ | ⟨hpos, w, rfl, hw1, hw2, hw⟩
    · obtain rfl : rows = [] := List.eq_nil_of_length_eq_zero hrl
      refine o_append0 rfl rfl (by repeat (first | exact lk_here _ _ _ | assumption | refine lk_skip (by omega) ?_ | refine lk_updS (by omega) ?_ | refine lk_rmS (by omega) ?_ | refine lk_normS ?_ | exact lk_updH (by repeat (first | exact lk_here _ _ _ | assumption | refine lk_skip (by omega) ?_ | refine lk_updS (by omega) ?_ | refine lk_rmS (by omega) ?_ | refine lk_normS ?_ | exact lk_updH (by repeat (first | exact lk_here _ _ _ | assumption | refine lk_skip (by omega) ?_ | refine lk_updS (by omega) ?_ | refine lk_rmS (by omega) ?_ | refine lk_normS ?_)))))) rfl (by decide) ?_
      repeat' (first | refine c_seq hm ?_ | refine c_region ?_ | refine o_nil ?_ | refine q_c ?_ | refine c_skip ?_ | refine c_ret ?_ | refine c_exit ?_ | refine c_scope ?_ | refine c_block hm ?_ | refine q_ret ?_ | refine q_exit ?_ | refine b_nrm ?_ | refine b_ret ?_ | refine b_hit ?_ | refine b_miss (by decide) ?_ | refine l_ret ?_ | refine l_exit ?_ | refine o_mv rfl ?_ | refine g_yes rfl (by first | rfl | assumption) ?_ | refine g_no rfl (by first | rfl | assumption) ?_ | refine o_pick_t rfl (by first | rfl | assumption) rfl ?_ | refine o_pick_f rfl (by first | rfl | assumption) rfl ?_ | refine o_lss rfl rfl ?_ | refine o_leq rfl rfl ?_ | refine o_gtr rfl rfl ?_ | refine o_geq rfl rfl ?_ | refine o_eql rfl rfl ?_ | refine o_neq rfl rfl ?_ | refine o_neqs rfl rfl ?_ | refine o_not rfl ?_ | refine o_eqb rfl rfl ?_ | refine o_neg rfl ?_ | refine o_len_lst rfl ?_ | refine o_len_sl rfl ?_ | refine o_len_nil rfl ?_ | refine o_len_str rfl ?_ | refine o_faddr_ref rfl ?_ | refine o_faddr_iptr rfl ?_ | refine o_alloc rfl ?_ | refine o_box rfl rfl ?_ | refine o_mkmap ?_ | refine o_load_iptr rfl rfl ?_ | refine o_load_ref rfl (by repeat (first | exact lk_here _ _ _ | assumption | refine lk_skip (by omega) ?_ | refine lk_updS (by omega) ?_ | refine lk_rmS (by omega) ?_ | refine lk_normS ?_ | exact lk_updH (by repeat (first | exact lk_here _ _ _ | assumption | refine lk_skip (by omega) ?_ | refine lk_updS (by omega) ?_ | refine lk_rmS (by omega) ?_ | refine lk_normS ?_ | exact lk_updH (by repeat (first | exact lk_here _ _ _ | assumption | refine lk_skip (by omega) ?_ | refine lk_updS (by omega) ?_ | refine lk_rmS (by omega) ?_ | refine lk_normS ?_)))))) (by rfl) ?_ | refine o_extract rfl rfl ?_ | refine o_mkfn ?_ | refine o_store_top rfl rfl rfl rfl rfl rfl (by omega) ?_ | refine o_nilChk_ref rfl ?_ | refine c_true rfl (by first | rfl | assumption) ?_ | refine c_false rfl (by first | rfl | assumption) ?_ | refine g_split rfl (fun hg => ?_) (fun hg => ?_) | refine c_cond rfl (fun hg => ?_) (fun hg => ?_))
      refine o_inc rfl (by omega) ?_
      repeat' (first | refine c_seq hm ?_ | refine c_region ?_ | refine o_nil ?_ | refine q_c ?_ | refine c_skip ?_ | refine c_ret ?_ | refine c_exit ?_ | refine c_scope ?_ | refine c_block hm ?_ | refine q_ret ?_ | refine q_exit ?_ | refine b_nrm ?_ | refine b_ret ?_ | refine b_hit ?_ | refine b_miss (by decide) ?_ | refine l_ret ?_ | refine l_exit ?_ | refine o_mv rfl ?_ | refine g_yes rfl (by first | rfl | assumption) ?_ | refine g_no rfl (by first | rfl | assumption) ?_ | refine o_pick_t rfl (by first | rfl | assumption) rfl ?_ | refine o_pick_f rfl (by first | rfl | assumption) rfl ?_ | refine o_lss rfl rfl ?_ | refine o_leq rfl rfl ?_ | refine o_gtr rfl rfl ?_ | refine o_geq rfl rfl ?_ | refine o_eql rfl rfl ?_ | refine o_neq rfl rfl ?_ | refine o_neqs rfl rfl ?_ | refine o_not rfl ?_ | refine o_eqb rfl rfl ?_ | refine o_neg rfl ?_ | refine o_len_lst rfl ?_ | refine o_len_sl rfl ?_ | refine o_len_nil rfl ?_ | refine o_len_str rfl ?_ | refine o_faddr_ref rfl ?_ | refine o_faddr_iptr rfl ?_ | refine o_alloc rfl ?_ | refine o_box rfl rfl ?_ | refine o_mkmap ?_ | refine o_load_iptr rfl rfl ?_ | refine o_load_ref rfl (by repeat (first | exact lk_here _ _ _ | assumption | refine lk_skip (by omega) ?_ | refine lk_updS (by omega) ?_ | refine lk_rmS (by omega) ?_ | refine lk_normS ?_ | exact lk_updH (by repeat (first | exact lk_here _ _ _ | assumption | refine lk_skip (by omega) ?_ | refine lk_updS (by omega) ?_ | refine lk_rmS (by omega) ?_ | refine lk_normS ?_ | exact lk_updH (by repeat (first | exact lk_here _ _ _ | assumption | refine lk_skip (by omega) ?_ | refine lk_updS (by omega) ?_ | refine lk_rmS (by omega) ?_ | refine lk_normS ?_)))))) (by rfl) ?_ | refine o_extract rfl rfl ?_ | refine o_mkfn ?_ | refine o_store_top rfl rfl rfl rfl rfl rfl (by omega) ?_ | refine o_nilChk_ref rfl ?_ | refine c_true rfl (by first | rfl | assumption) ?_ | refine c_false rfl (by first | rfl | assumption) ?_ | refine g_split rfl (fun hg => ?_) (fun hg => ?_) | refine c_cond rfl (fun hg => ?_) (fun hg => ?_))
      refine l_nrm (q.atoms.length - (0 + 1)) (by omega) ⟨0 + 1, _, _, _, _, _, rfl, hlt, by simp, hnew, hnewl, puts_ex ⟨rfl, rfl, rfl, rfl, rfl, trivial⟩, rfl, by first | omega | (dsimp only at *; omega), ?_, ?_, Or.inr ⟨Nat.succ_pos _, _, rfl, by first | omega | (dsimp only at *; omega), by first | omega | (dsimp only at *; omega), lk_here _ _ _⟩⟩
      · refine lk_skip (by omega) (lk_skip (by omega) ?_)
        rw [hfr3 _ hnx]; exact hq
      · intro b hb
        rw [lk_there _ _ (by omega), lk_there _ _ (by omega), hfr3 b (by omega)]
        exact hfr b hb
    · have hwl : lk H' w = some (.cells rows 35 0) := by rw [hfr3 w hw2]; exact hw
      refine o_append1 rfl rfl (by repeat (first | exact lk_here _ _ _ | assumption | refine lk_skip (by omega) ?_ | refine lk_updS (by omega) ?_ | refine lk_rmS (by omega) ?_ | refine lk_normS ?_ | exact lk_updH (by repeat (first | exact lk_here _ _ _ | assumption | refine lk_skip (by omega) ?_ | refine lk_updS (by omega) ?_ | refine lk_rmS (by omega) ?_ | refine lk_normS ?_ | exact lk_updH (by repeat (first | exact lk_here _ _ _ | assumption | refine lk_skip (by omega) ?_ | refine lk_updS (by omega) ?_ | refine lk_rmS (by omega) ?_ | refine lk_normS ?_)))))) rfl (by repeat (first | exact lk_here _ _ _ | assumption | refine lk_skip (by omega) ?_ | refine lk_updS (by omega) ?_ | refine lk_rmS (by omega) ?_ | refine lk_normS ?_ | exact lk_updH (by repeat (first | exact lk_here _ _ _ | assumption | refine lk_skip (by omega) ?_ | refine lk_updS (by omega) ?_ | refine lk_rmS (by omega) ?_ | refine lk_normS ?_ | exact lk_updH (by repeat (first | exact lk_here _ _ _ | assumption | refine lk_skip (by omega) ?_ | refine lk_updS (by omega) ?_ | refine lk_rmS (by omega) ?_ | refine lk_normS ?_)))))) (by omega) (by omega) (by omega) (by omega) ?_
      repeat' (first | refine c_seq hm ?_ | refine c_region ?_ | refine o_nil ?_ | refine q_c ?_ | refine c_skip ?_ | refine c_ret ?_ | refine c_exit ?_ | refine c_scope ?_ | refine c_block hm ?_ | refine q_ret ?_ | refine q_exit ?_ | refine b_nrm ?_ | refine b_ret ?_ | refine b_hit ?_ | refine b_miss (by decide) ?_ | refine l_ret ?_ | refine l_exit ?_ | refine o_mv rfl ?_ | refine g_yes rfl (by first | rfl | assumption) ?_ | refine g_no rfl (by first | rfl | assumption) ?_ | refine o_pick_t rfl (by first | rfl | assumption) rfl ?_ | refine o_pick_f rfl (by first | rfl | assumption) rfl ?_ | refine o_lss rfl rfl ?_ | refine o_leq rfl rfl ?_ | refine o_gtr rfl rfl ?_ | refine o_geq rfl rfl ?_ | refine o_eql rfl rfl ?_ | refine o_neq rfl rfl ?_ | refine o_neqs rfl rfl ?_ | refine o_not rfl ?_ | refine o_eqb rfl rfl ?_ | refine o_neg rfl ?_ | refine o_len_lst rfl ?_ | refine o_len_sl rfl ?_ | refine o_len_nil rfl ?_ | refine o_len_str rfl ?_ | refine o_faddr_ref rfl ?_ | refine o_faddr_iptr rfl ?_ | refine o_alloc rfl ?_ | refine o_box rfl rfl ?_ | refine o_mkmap ?_ | refine o_load_iptr rfl rfl ?_ | refine o_load_ref rfl (by repeat (first | exact lk_here _ _ _ | assumption | refine lk_skip (by omega) ?_ | refine lk_updS (by omega) ?_ | refine lk_rmS (by omega) ?_ | refine lk_normS ?_ | exact lk_updH (by repeat (first | exact lk_here _ _ _ | assumption | refine lk_skip (by omega) ?_ | refine lk_updS (by omega) ?_ | refine lk_rmS (by omega) ?_ | refine lk_normS ?_ | exact lk_updH (by repeat (first | exact lk_here _ _ _ | assumption | refine lk_skip (by omega) ?_ | refine lk_updS (by omega) ?_ | refine lk_rmS (by omega) ?_ | refine lk_normS ?_)))))) (by rfl) ?_ | refine o_extract rfl rfl ?_ | refine o_mkfn ?_ | refine o_store_top rfl rfl rfl rfl rfl rfl (by omega) ?_ | refine o_nilChk_ref rfl ?_ | refine c_true rfl (by first | rfl | assumption) ?_ | refine c_false rfl (by first | rfl | assumption) ?_ | refine g_split rfl (fun hg => ?_) (fun hg => ?_) | refine c_cond rfl (fun hg => ?_) (fun hg => ?_))
      refine o_inc rfl (by omega) ?_
      repeat' (first | refine c_seq hm ?_ | refine c_region ?_ | refine o_nil ?_ | refine q_c ?_ | refine c_skip ?_ | refine c_ret ?_ | refine c_exit ?_ | refine c_scope ?_ | refine c_block hm ?_ | refine q_ret ?_ | refine q_exit ?_ | refine b_nrm ?_ | refine b_ret ?_ | refine b_hit ?_ | refine b_miss (by decide) ?_ | refine l_ret ?_ | refine l_exit ?_ | refine o_mv rfl ?_ | refine g_yes rfl (by first | rfl | assumption) ?_ | refine g_no rfl (by first | rfl | assumption) ?_ | refine o_pick_t rfl (by first | rfl | assumption) rfl ?_ | refine o_pick_f rfl (by first | rfl | assumption) rfl ?_ | refine o_lss rfl rfl ?_ | refine o_leq rfl rfl ?_ | refine o_gtr rfl rfl ?_ | refine o_geq rfl rfl ?_ | refine o_eql rfl rfl ?_ | refine o_neq rfl rfl ?_ | refine o_neqs rfl rfl ?_ | refine o_not rfl ?_ | refine o_eqb rfl rfl ?_ | refine o_neg rfl ?_ | refine o_len_lst rfl ?_ | refine o_len_sl rfl ?_ | refine o_len_nil rfl ?_ | refine o_len_str rfl ?_ | refine o_faddr_ref rfl ?_ | refine o_faddr_iptr rfl ?_ | refine o_alloc rfl ?_ | refine o_box rfl rfl ?_ | refine o_mkmap ?_ | refine o_load_iptr rfl rfl ?_ | refine o_load_ref rfl (by repeat (first | exact lk_here _ _ _ | assumption | refine lk_skip (by omega) ?_ | refine lk_updS (by omega) ?_ | refine lk_rmS (by omega) ?_ | refine lk_normS ?_ | exact lk_updH (by repeat (first | exact lk_here _ _ _ | assumption | refine lk_skip (by omega) ?_ | refine lk_updS (by omega) ?_ | refine lk_rmS (by omega) ?_ | refine lk_normS ?_ | exact lk_updH (by repeat (first | exact lk_here _ _ _ | assumption | refine lk_skip (by omega) ?_ | refine lk_updS (by omega) ?_ | refine lk_rmS (by omega) ?_ | refine lk_normS ?_)))))) (by rfl) ?_ | refine o_extract rfl rfl ?_ | refine o_mkfn ?_ | refine o_store_top rfl rfl rfl rfl rfl rfl (by omega) ?_ | refine o_nilChk_ref rfl ?_ | refine c_true rfl (by first | rfl | assumption) ?_ | refine c_false rfl (by first | rfl | assumption) ?_ | refine g_split rfl (fun hg => ?_) (fun hg => ?_) | refine c_cond rfl (fun hg => ?_) (fun hg => ?_))
      refine l_nrm (q.atoms.length - (i + 1)) (by omega) ⟨i + 1, rows ++ [.lst (bs.map fun b => [B b])], _, _, _, _, rfl, hlt, by simp [hrl], hnew, hnewl, puts_ex ⟨rfl, rfl, rfl, rfl, rfl, trivial⟩, rfl, by first | omega | (dsimp only at *; omega), ?_, ?_, Or.inr ⟨Nat.succ_pos _, _, rfl, by first | omega | (dsimp only at *; omega), by first | omega | (dsimp only at *; omega), lk_here _ _ _⟩⟩
      · refine lk_skip (by omega) (lk_rmS (by omega) (lk_skip (by omega) ?_))
        rw [hfr3 _ hnx]; exact hq
      · intro b hb
        rw [lk_there _ _ (by omega), lk_rm, if_neg (by omega), lk_there _ _ (by omega), hfr3 b (by omega)]
        exact hfr b hb
  · have hge : i = q.atoms.length := by
      have : q.atoms.length ≤ i := by simpa using hg
      omega
    subst hge
    rcases hX with ⟨h0, rfl⟩ | ⟨hpos, w, rfl, hw1, hw2, hw⟩
    · refine e_end ⟨Or.inr rfl, by first | omega | (dsimp only at *; omega), Or.inl ⟨.tup [.raw (.slice none 0 0), I64 0], rfl, rfl, _, rfl, rows, hrl, hrows, Or.inr ⟨h0, rfl⟩⟩⟩
    · have hv := view_rows (z := default) hw (by omega) hlst 0
      rw [hrl] at hv
      refine e_end ⟨Or.inr rfl, by first | omega | (dsimp only at *; omega), Or.inr ⟨.tup [.sl w 0 q.atoms.length 1, I64 0], _, _, rfl, rfl, hv, ?_, _, rfl, rows, hrl, hrows, Or.inl rfl⟩⟩
      intro b hb
      rw [lk_upd, if_neg (by omega)]
      exact hfr b hb
end K36
