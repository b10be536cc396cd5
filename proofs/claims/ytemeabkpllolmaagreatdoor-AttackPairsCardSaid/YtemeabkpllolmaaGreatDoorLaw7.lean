/-
  A part of the walk through the law AttackPairs: what its functions compute. Conditions: none beyond the statement.
-/
import Derived.Test.YtemeabkpllolmaaGreatDoorLaw6
import Derived.Test.YtemeabkpllolmaaGreatDoorAi33
set_option maxRecDepth 100000
set_option maxHeartbeats 2000000
set_option linter.unusedVariables false
set_option linter.unusedSimpArgs false
namespace K36
open Go Go.Ai

def rowOf (q : Qry) (f : Nat) (d : D) : Prop := ∃ bs : List Bool, bs.length = q.atoms.length ∧ (∀ h, h < q.atoms.length → (bs.getD h false = true ↔ Att q f h)) ∧ d = .lst (bs.map fun b => [B b])

def draw40 : List IOp := match c40 with
  | .seq _ (.seq _ (.seq (.draw ops) _)) => ops
  | _ => []

theorem attacks40 (q : Qry) (gd : q.Good) (f : Nat) (hf : f < q.atoms.length) (s : St) : callL ir 40 [q.enc, I64 f] s fun o s' => ∃ d, o = .ret d ∧ rowOf q f d ∧ Fr s s' := by
  have hm := callL_mono ir
  have hk := gd.k f hf
  have hl12 := gd.l f hf
  refine fun_view (fn := i40) (args' := [q.enc, I64 f]) (H1 := s.H) (P := rowOf q f) rfl rfl rfl rfl rfl ?_
  show CodeR _ 72 c40 _ _ _
  unfold c40
  repeat' (first | refine c_seq hm ?_ | refine c_region ?_ | refine o_nil ?_ | refine q_c ?_ | refine c_skip ?_ | refine c_ret ?_ | refine c_exit ?_ | refine c_scope ?_ | refine c_block hm ?_ | refine q_ret ?_ | refine q_exit ?_ | refine b_nrm ?_ | refine b_ret ?_ | refine b_hit ?_ | refine b_miss (by decide) ?_ | refine l_ret ?_ | refine l_exit ?_ | refine o_mv rfl ?_ | refine g_yes rfl (by first | rfl | assumption) ?_ | refine g_no rfl (by first | rfl | assumption) ?_ | refine o_pick_t rfl (by first | rfl | assumption) rfl ?_ | refine o_pick_f rfl (by first | rfl | assumption) rfl ?_ | refine o_lss rfl rfl ?_ | refine o_leq rfl rfl ?_ | refine o_gtr rfl rfl ?_ | refine o_geq rfl rfl ?_ | refine o_eql rfl rfl ?_ | refine o_neq rfl rfl ?_ | refine o_neqs rfl rfl ?_ | refine o_not rfl ?_ | refine o_eqb rfl rfl ?_ | refine o_neg rfl ?_ | refine o_len_lst rfl ?_ | refine o_len_sl rfl ?_ | refine o_len_nil rfl ?_ | refine o_len_str rfl ?_ | refine o_faddr_ref rfl ?_ | refine o_faddr_iptr rfl ?_ | refine o_alloc rfl ?_ | refine o_box rfl rfl ?_ | refine o_mkmap ?_ | refine o_load_iptr rfl rfl ?_ | refine o_load_ref rfl (by repeat (first | exact lk_here _ _ _ | assumption | refine lk_skip (by omega) ?_ | refine lk_updS (by omega) ?_ | refine lk_rmS (by omega) ?_ | refine lk_normS ?_ | exact lk_updH (by repeat (first | exact lk_here _ _ _ | assumption | refine lk_skip (by omega) ?_ | refine lk_updS (by omega) ?_ | refine lk_rmS (by omega) ?_ | refine lk_normS ?_ | exact lk_updH (by repeat (first | exact lk_here _ _ _ | assumption | refine lk_skip (by omega) ?_ | refine lk_updS (by omega) ?_ | refine lk_rmS (by omega) ?_ | refine lk_normS ?_)))))) (by rfl) ?_ | refine o_extract rfl rfl ?_ | refine o_mkfn ?_ | refine o_store_top rfl rfl rfl rfl rfl rfl (by omega) ?_ | refine o_nilChk_ref rfl ?_ | refine c_true rfl (by first | rfl | assumption) ?_ | refine c_false rfl (by first | rfl | assumption) ?_ | refine g_split rfl (fun hg => ?_) (fun hg => ?_) | refine c_cond rfl (fun hg => ?_) (fun hg => ?_))
  refine o_iaddr_lst (cs := (q.at f).enc) rfl rfl (by simp [hf]) rfl ?_
  repeat' (first | refine c_seq hm ?_ | refine c_region ?_ | refine o_nil ?_ | refine q_c ?_ | refine c_skip ?_ | refine c_ret ?_ | refine c_exit ?_ | refine c_scope ?_ | refine c_block hm ?_ | refine q_ret ?_ | refine q_exit ?_ | refine b_nrm ?_ | refine b_ret ?_ | refine b_hit ?_ | refine b_miss (by decide) ?_ | refine l_ret ?_ | refine l_exit ?_ | refine o_mv rfl ?_ | refine g_yes rfl (by first | rfl | assumption) ?_ | refine g_no rfl (by first | rfl | assumption) ?_ | refine o_pick_t rfl (by first | rfl | assumption) rfl ?_ | refine o_pick_f rfl (by first | rfl | assumption) rfl ?_ | refine o_lss rfl rfl ?_ | refine o_leq rfl rfl ?_ | refine o_gtr rfl rfl ?_ | refine o_geq rfl rfl ?_ | refine o_eql rfl rfl ?_ | refine o_neq rfl rfl ?_ | refine o_neqs rfl rfl ?_ | refine o_not rfl ?_ | refine o_eqb rfl rfl ?_ | refine o_neg rfl ?_ | refine o_len_lst rfl ?_ | refine o_len_sl rfl ?_ | refine o_len_nil rfl ?_ | refine o_len_str rfl ?_ | refine o_faddr_ref rfl ?_ | refine o_faddr_iptr rfl ?_ | refine o_alloc rfl ?_ | refine o_box rfl rfl ?_ | refine o_mkmap ?_ | refine o_load_iptr rfl rfl ?_ | refine o_load_ref rfl (by repeat (first | exact lk_here _ _ _ | assumption | refine lk_skip (by omega) ?_ | refine lk_updS (by omega) ?_ | refine lk_rmS (by omega) ?_ | refine lk_normS ?_ | exact lk_updH (by repeat (first | exact lk_here _ _ _ | assumption | refine lk_skip (by omega) ?_ | refine lk_updS (by omega) ?_ | refine lk_rmS (by omega) ?_ | refine lk_normS ?_ | exact lk_updH (by repeat (first | exact lk_here _ _ _ | assumption | refine lk_skip (by omega) ?_ | refine lk_updS (by omega) ?_ | refine lk_rmS (by omega) ?_ | refine lk_normS ?_)))))) (by rfl) ?_ | refine o_extract rfl rfl ?_ | refine o_mkfn ?_ | refine o_store_top rfl rfl rfl rfl rfl rfl (by omega) ?_ | refine o_nilChk_ref rfl ?_ | refine c_true rfl (by first | rfl | assumption) ?_ | refine c_false rfl (by first | rfl | assumption) ?_ | refine g_split rfl (fun hg => ?_) (fun hg => ?_) | refine c_cond rfl (fun hg => ?_) (fun hg => ?_))
  refine ⟨fun T hT hE => ?_⟩
  have key0 : (q.at f).key = ((q.at f).key.toNat : Int) := (Int.toNat_of_nonneg hk.1).symm
  refine e_load hm hT hE 0 [7, 9] rfl rfl rfl rfl rfl rfl (by repeat (first | exact lk_here _ _ _ | assumption | refine lk_skip (by omega) ?_ | refine lk_updS (by omega) ?_ | refine lk_rmS (by omega) ?_ | refine lk_normS ?_ | exact lk_updH (by repeat (first | exact lk_here _ _ _ | assumption | refine lk_skip (by omega) ?_ | refine lk_updS (by omega) ?_ | refine lk_rmS (by omega) ?_ | refine lk_normS ?_ | exact lk_updH (by repeat (first | exact lk_here _ _ _ | assumption | refine lk_skip (by omega) ?_ | refine lk_updS (by omega) ?_ | refine lk_rmS (by omega) ?_ | refine lk_normS ?_)))))) (by rfl) (by dsimp only; omega) (fun T hT hE => ?_)
  refine e_pure hm hT hE 1 [7, 9] rfl rfl rfl rfl rfl (fun _ => rfl) (fun T hT hE => ?_)
  refine e_pure hm hT hE 2 [3, 6, 7, 9] rfl rfl rfl rfl rfl (fun _ => rfl) (fun T hT hE => ?_)
  refine e_load hm hT hE 3 [6, 7, 9] rfl rfl rfl rfl rfl rfl (by repeat (first | exact lk_here _ _ _ | assumption | refine lk_skip (by omega) ?_ | refine lk_updS (by omega) ?_ | refine lk_rmS (by omega) ?_ | refine lk_normS ?_ | exact lk_updH (by repeat (first | exact lk_here _ _ _ | assumption | refine lk_skip (by omega) ?_ | refine lk_updS (by omega) ?_ | refine lk_rmS (by omega) ?_ | refine lk_normS ?_ | exact lk_updH (by repeat (first | exact lk_here _ _ _ | assumption | refine lk_skip (by omega) ?_ | refine lk_updS (by omega) ?_ | refine lk_rmS (by omega) ?_ | refine lk_normS ?_)))))) (by rfl) (by dsimp only; omega) (fun T hT hE => ?_)
  refine e_pure hm hT hE 4 [5, 6, 7, 9] rfl rfl rfl rfl rfl (fun _ => rfl) (fun T hT hE => ?_)
  refine e_load hm hT hE 5 [6, 7, 9] rfl rfl rfl rfl rfl rfl (by repeat (first | exact lk_here _ _ _ | assumption | refine lk_skip (by omega) ?_ | refine lk_updS (by omega) ?_ | refine lk_rmS (by omega) ?_ | refine lk_normS ?_ | exact lk_updH (by repeat (first | exact lk_here _ _ _ | assumption | refine lk_skip (by omega) ?_ | refine lk_updS (by omega) ?_ | refine lk_rmS (by omega) ?_ | refine lk_normS ?_ | exact lk_updH (by repeat (first | exact lk_here _ _ _ | assumption | refine lk_skip (by omega) ?_ | refine lk_updS (by omega) ?_ | refine lk_rmS (by omega) ?_ | refine lk_normS ?_)))))) (by rfl) (by dsimp only; omega) (fun T hT hE => ?_)
  refine e_pure hm hT hE 6 [7, 9] rfl rfl rfl rfl rfl (fun s => exec_take (xs := (q.at f).terms.map fun t => [I64 t]) (j := (q.at f).key.toNat) rfl (show _ = I64 ((q.at f).key.toNat : Int) by rw [← key0]; rfl) (by intro c hc; obtain ⟨x, -, rfl⟩ := List.mem_map.1 hc; rfl) (by simp only [List.length_map]; omega) s) (fun T hT hE => ?_)
  have hkeys : intL (q.at f).keys = .lst (((q.at f).terms.map fun t => [I64 t]).take (q.at f).key.toNat) := by simp only [intL, Atm.keys, List.map_take]
  have hkl : (q.at f).keys.length ≤ 12 := by rw [Atm.keys, List.length_take]; omega
  have fin : ∀ (E' : Env) (H' : Heap) (nx' : Nat) (l : List Int), E' 1 = I64 f → E' 2 = .ref s.nx 0 → E' 6 = .ref (s.nx + 1 + 1 + 8) 0 → (∀ t, t ∈ l ↔ Cls q f (q.at f).keys t) → lk H' s.nx = some (.cells q.cells 25 0) → lk H' (s.nx + 1 + 1 + 8) = some (.cells [.imap (mp l)] 111 0) → s.nx + 12 ≤ nx' →
      (∀ b, b < s.nx → lk H' b = lk s.H b) → CodeR (callL ir) 72 rest40 E' ⟨H', nx', s.nx⟩ (EndQ fun r s' => (r.1 = .nrm ∨ r.1 = .ret) ∧ ∃ d d' H2, resEnv r.2 s'.H i40.res = some d ∧ rigid fuelV d = false ∧ view fuelV d s'.H = some (d', H2) ∧ (∀ b, b < s.nx → lk H2 b = lk s.H b) ∧ s.nx ≤ s'.nx ∧ rowOf q f d') := by
    intro E' H' nx' l a1 a2 a3 a4 a5 a6 a7 a8
    have hE' : E' = puts E' [(1, I64 f), (2, .ref s.nx 0), (6, .ref (s.nx + 1 + 1 + 8) 0)] := puts_ex ⟨a1, a2, a3, trivial⟩
    rw [hE']
    refine CodeR.mono hm (fun r s' hr => ?_) (attacks_rest q gd f hf l a4 E' H' nx' s.nx (s.nx + 1 + 1 + 8) s.nx a5 a6 (by omega) (by omega) (by omega) (by omega))
    obtain ⟨h1, d, d', H2, h2, h3, h4, h5, h6, h7⟩ := hr.h
    exact ⟨h1, d, d', H2, h2, h3, h4, fun b hb => by rw [h5 b hb, a8 b hb], by omega, h7⟩
  refine d_two 7 8 rfl (by decide) (by decide) ?_ ?_
  · refine e_call (P := fun d s' => (∃ l : List Int, d = .imap (mp l) ∧ ∀ t, t ∈ l ↔ Cls q f (q.at f).keys t) ∧ Fr _ s') (args := [q.enc, I64 f, intL (q.at f).keys]) hm hT hE rfl (by rw [hkeys]; rfl) (closure61 q gd f _ hkl _) ?_
    rintro d ⟨H', nx', ro'⟩ T ⟨⟨l, rfl, hl⟩, f1, f2, f3⟩ hT hE
    dsimp only at f1 f2 f3
    subst f1
    try simp only [List.length_cons, List.length_nil] at f2 f3
    refine d_one 8 rfl (by decide) ?_
    refine e_alloc hT hE rfl rfl (fun T hT hE => ?_)
    refine d_one 9 rfl (by decide) ?_
    refine e_store hE rfl rfl (by repeat (first | exact lk_here _ _ _ | assumption | refine lk_skip (by omega) ?_ | refine lk_updS (by omega) ?_ | refine lk_rmS (by omega) ?_ | refine lk_normS ?_ | exact lk_updH (by repeat (first | exact lk_here _ _ _ | assumption | refine lk_skip (by omega) ?_ | refine lk_updS (by omega) ?_ | refine lk_rmS (by omega) ?_ | refine lk_normS ?_ | exact lk_updH (by repeat (first | exact lk_here _ _ _ | assumption | refine lk_skip (by omega) ?_ | refine lk_updS (by omega) ?_ | refine lk_rmS (by omega) ?_ | refine lk_normS ?_)))))) rfl rfl (Nat.le_of_ble_eq_true rfl) (Nat.zero_le _) (by dsimp only; omega) ?_
    refine d_end rfl ?_
    refine q_c ?_
    refine fin _ _ _ l (by rw [hE]; rfl) (by rw [hE]; rfl) (by rw [hE]; rfl) hl ?_ ?_ (by omega) ?_
    · refine lk_normS (lk_updS (by first | omega | (dsimp only; omega)) (lk_normS (lk_skip (by first | omega | (dsimp only; omega)) ?_)))
      rw [f3 _ (by omega)]
      repeat (first | exact lk_here _ _ _ | assumption | refine lk_skip (by omega) ?_ | refine lk_updS (by omega) ?_ | refine lk_rmS (by omega) ?_ | refine lk_normS ?_ | exact lk_updH (by repeat (first | exact lk_here _ _ _ | assumption | refine lk_skip (by omega) ?_ | refine lk_updS (by omega) ?_ | refine lk_rmS (by omega) ?_ | refine lk_normS ?_ | exact lk_updH (by repeat (first | exact lk_here _ _ _ | assumption | refine lk_skip (by omega) ?_ | refine lk_updS (by omega) ?_ | refine lk_rmS (by omega) ?_ | refine lk_normS ?_)))))
    · exact lk_normS (lk_updH (lk_normS (lk_here _ _ _)))
    · intro b hb
      rw [lk_norm, lk_upd, if_neg (by first | omega | (dsimp only; omega)), lk_norm, lk_there _ _ (by first | omega | (dsimp only; omega)), f3 b (by omega)]
      repeat (first | rfl | rw [lk_there _ _ (by omega)] | rw [lk_upd, if_neg (by omega)] | rw [lk_rm, if_neg (by omega)] | rw [lk_norm])
  · refine e_alloc hT hE rfl rfl (fun T hT hE => ?_)
    refine d_one 7 rfl (by decide) ?_
    refine e_call (P := fun d s' => (∃ l : List Int, d = .imap (mp l) ∧ ∀ t, t ∈ l ↔ Cls q f (q.at f).keys t) ∧ Fr _ s') (args := [q.enc, I64 f, intL (q.at f).keys]) hm hT hE rfl (by rw [hkeys]; rfl) (closure61 q gd f _ hkl _) ?_
    rintro d ⟨H', nx', ro'⟩ T ⟨⟨l, rfl, hl⟩, f1, f2, f3⟩ hT hE
    dsimp only at f1 f2 f3
    subst f1
    try simp only [List.length_cons, List.length_nil] at f2 f3
    refine d_one 9 rfl (by decide) ?_
    have hpl : lk H' (s.nx + 1 + 1 + 8) = some (.cells [.raw (.map none)] 111 0) := by
      rw [f3 _ (by omega)]
      exact lk_normS (lk_here _ _ _)
    refine e_store hE rfl rfl hpl rfl rfl (Nat.le_of_ble_eq_true rfl) (Nat.zero_le _) (by first | omega | (dsimp only; omega)) ?_
    refine d_end rfl ?_
    refine q_c ?_
    refine fin _ _ _ l (by rw [hE]; rfl) (by rw [hE]; rfl) (by rw [hE]; rfl) hl ?_ ?_ (by omega) ?_
    · refine lk_normS (lk_updS (by first | omega | (dsimp only; omega)) ?_)
      rw [f3 _ (by omega)]
      refine lk_normS (lk_skip (by first | omega | (dsimp only; omega)) ?_)
      repeat (first | exact lk_here _ _ _ | assumption | refine lk_skip (by omega) ?_ | refine lk_updS (by omega) ?_ | refine lk_rmS (by omega) ?_ | refine lk_normS ?_ | exact lk_updH (by repeat (first | exact lk_here _ _ _ | assumption | refine lk_skip (by omega) ?_ | refine lk_updS (by omega) ?_ | refine lk_rmS (by omega) ?_ | refine lk_normS ?_ | exact lk_updH (by repeat (first | exact lk_here _ _ _ | assumption | refine lk_skip (by omega) ?_ | refine lk_updS (by omega) ?_ | refine lk_rmS (by omega) ?_ | refine lk_normS ?_)))))
    · exact lk_normS (lk_updH hpl)
    · intro b hb
      rw [lk_norm, lk_upd, if_neg (by first | omega | (dsimp only; omega)), f3 b (by omega), lk_norm, lk_there _ _ (by first | omega | (dsimp only; omega))]
      repeat (first | rfl | rw [lk_there _ _ (by omega)] | rw [lk_upd, if_neg (by omega)] | rw [lk_rm, if_neg (by omega)] | rw [lk_norm])
end K36
