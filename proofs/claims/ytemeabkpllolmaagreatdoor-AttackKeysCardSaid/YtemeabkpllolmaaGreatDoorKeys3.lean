/-
  A part of the walk through the law: what its functions compute. Conditions: none beyond the statement.
-/
import Derived.Test.YtemeabkpllolmaaGreatDoorKeys2
set_option maxRecDepth 100000
set_option maxHeartbeats 4000000
set_option linter.unusedVariables false
set_option linter.unusedSimpArgs false
namespace K36
open Go Go.Ai

section
variable {cl : Cl} {nt : Nat} {a b : IC} {E : Env} {s : St} {Q : Ex × Env → St → Prop}
theorem s_cut (hm : MonoQ cl) (P : Env → St → Prop) (h1 : CodeR cl nt a E s (EndQ fun r s' => r.1 = .nrm ∧ P r.2 s')) (h2 : ∀ E s, P E s → CodeR cl nt b E s Q) : CodeR cl nt a E s (SeqQ (fun E s => CodeR cl nt b E s Q) Q) := by
  refine h1.mono hm fun r s' hr => ?_
  obtain ⟨e, E'⟩ := r
  obtain ⟨h3, h4⟩ := hr.h
  dsimp only at h3
  subst h3
  exact q_c (h2 _ _ h4)
end

def keysL0 : IC := innC (sndC (fstC (sndC (sndC (sndC (sndC (sndC c7)))))))

theorem keysOut {cl : Cl} (hm : MonoQ cl) (hle : LeCl (callL ir) cl) (hc : Closed irX cl) (hsort : Sorts cl) (q : Qry) (hq0 : q.Fits) (hok : q.ok = true) (gd : q.Good) (hin : ∀ i, i < q.atoms.length → q.inside ((q.at i).terms.filter fun t => decide (0 ≤ t))) (rows : List D) (F : Nat → List Bool) (hF : ∀ i, i < q.atoms.length → (F i).length = q.atoms.length)
    (hatt : ∀ i k, i < q.atoms.length → k < q.atoms.length → ((F i).getD k false = true ↔ Att q i k)) (rowF : ∀ i, i < q.atoms.length → (rows.map fun r => [r])[i]? = some [.lst ((F i).map fun b => [B b])]) {r : D} (hrl : rows.length = q.atoms.length) (hr : r = .lst (rows.map fun r => [r]) ∨ (q.atoms.length = 0 ∧ r = .raw (.slice none 0 0)))
    {E : Env} {H : Heap} {nx : Nat} {Q : Ex × Env → St → Prop} (hE : Agree E [(1, .ref 0 0), (3, B true), (4, r), (6, I64 ((0 : Nat) : Int))]) (hq : lk H 0 = some (.cells q.cells 25 0)) (hnx : 0 < nx)
    (hQ : ∀ E' s', Agree E' [(3, B true)] → Q (.nrm, E') s') : CodeR cl 131 keysL0 E ⟨H, nx, 0⟩ (BlockQ 0 Q) := by
  have hal := gd.a
  show CodeR cl 131 (.loop _) E _ _
  refine c_loop hm (fun m E s' => ∃ (i nx' : Nat) (H' : Heap) (E0 : Env), m = q.atoms.length - i ∧ i ≤ q.atoms.length ∧ nx ≤ nx' ∧ E = puts E0 [(1, .ref 0 0), (3, B true), (4, r), (6, I64 i)] ∧ s' = ⟨H', nx', 0⟩ ∧ lk H' 0 = some (.cells q.cells 25 0))
    (n0 := q.atoms.length) ⟨0, nx, H, _, rfl, Nat.zero_le _, Nat.le_refl _, puts_ex hE, rfl, hq⟩ ?_
  clear hE hq
  rintro m E s' ⟨i, nx', H', E0, rfl, hi, hnx2, rfl, rfl, hq⟩
  repeat' (first | refine c_seq hm ?_ | refine c_region ?_ | refine o_nil ?_ | refine q_c ?_ | refine c_skip ?_ | refine c_ret ?_ | refine c_exit ?_ | refine c_scope ?_ | refine c_block hm ?_ | refine q_ret ?_ | refine q_exit ?_ | refine b_nrm ?_ | refine b_ret ?_ | refine b_hit ?_ | refine b_miss (by decide) ?_ | refine l_ret ?_ | refine l_exit ?_ | refine o_mv rfl ?_ | refine g_yes rfl (by first | rfl | assumption) ?_ | refine g_no rfl (by first | rfl | assumption) ?_ | refine o_pick_t rfl (by first | rfl | assumption) rfl ?_ | refine o_pick_f rfl (by first | rfl | assumption) rfl ?_ | refine o_lss rfl rfl ?_ | refine o_leq rfl rfl ?_ | refine o_gtr rfl rfl ?_ | refine o_geq rfl rfl ?_ | refine o_eql rfl rfl ?_ | refine o_neq rfl rfl ?_ | refine o_neqs rfl rfl ?_ | refine o_not rfl ?_ | refine o_eqb rfl rfl ?_ | refine o_neg rfl ?_ | refine o_len_lst rfl ?_ | refine o_len_sl rfl ?_ | refine o_len_nil rfl ?_ | refine o_len_str rfl ?_ | refine o_faddr_ref rfl ?_ | refine o_faddr_iptr rfl ?_ | refine o_alloc rfl ?_ | refine o_box rfl rfl ?_ | refine o_mkmap ?_ | refine o_load_iptr rfl rfl ?_ | refine o_load_ref rfl (by repeat (first | exact lk_here _ _ _ | assumption | refine lk_skip (by omega) ?_ | refine lk_updS (by omega) ?_ | refine lk_rmS (by omega) ?_ | refine lk_normS ?_ | exact lk_updH (by repeat (first | exact lk_here _ _ _ | assumption | refine lk_skip (by omega) ?_ | refine lk_updS (by omega) ?_ | refine lk_rmS (by omega) ?_ | refine lk_normS ?_)))) (by rfl) ?_ | refine o_extract rfl rfl ?_ | refine o_mkfn ?_ | refine o_store_top rfl rfl rfl rfl rfl rfl (by omega) ?_ | refine o_nilChk_ref rfl ?_ | refine c_true rfl (by first | rfl | assumption) ?_ | refine c_false rfl (by first | rfl | assumption) ?_ | refine o_len_rows rfl hr hrl ?_ | refine g_split rfl (fun hg => ?_) (fun hg => ?_) | refine c_cond rfl (fun hg => ?_) (fun hg => ?_))
  · have hlt : i < q.atoms.length := by simpa using hg
    clear hg
    have hrr : r = .lst (rows.map fun r => [r]) := by
      rcases hr with h | ⟨h, -⟩
      · exact h
      · omega
    subst hrr
    have rowI := rowF i hlt
    have hk := gd.k i hlt
    have hl12 := gd.l i hlt
    have key0 : (q.at i).key = ((q.at i).key.toNat : Int) := (Int.toNat_of_nonneg hk.1).symm
    have hkeys : intL (q.at i).keys = .lst (((q.at i).terms.map fun t => [I64 t]).take (q.at i).key.toNat) := by simp only [intL, Atm.keys, List.map_take]
    have hkl : (q.at i).keys.length ≤ 12 := by rw [Atm.keys, List.length_take]; omega
    refine o_iaddr_lst (cs := (q.at i).enc) rfl rfl (by simp [hlt]) rfl ?_
    repeat' (first | refine c_seq hm ?_ | refine c_region ?_ | refine o_nil ?_ | refine q_c ?_ | refine c_skip ?_ | refine c_ret ?_ | refine c_exit ?_ | refine c_scope ?_ | refine c_block hm ?_ | refine q_ret ?_ | refine q_exit ?_ | refine b_nrm ?_ | refine b_ret ?_ | refine b_hit ?_ | refine b_miss (by decide) ?_ | refine l_ret ?_ | refine l_exit ?_ | refine o_mv rfl ?_ | refine g_yes rfl (by first | rfl | assumption) ?_ | refine g_no rfl (by first | rfl | assumption) ?_ | refine o_pick_t rfl (by first | rfl | assumption) rfl ?_ | refine o_pick_f rfl (by first | rfl | assumption) rfl ?_ | refine o_lss rfl rfl ?_ | refine o_leq rfl rfl ?_ | refine o_gtr rfl rfl ?_ | refine o_geq rfl rfl ?_ | refine o_eql rfl rfl ?_ | refine o_neq rfl rfl ?_ | refine o_neqs rfl rfl ?_ | refine o_not rfl ?_ | refine o_eqb rfl rfl ?_ | refine o_neg rfl ?_ | refine o_len_lst rfl ?_ | refine o_len_sl rfl ?_ | refine o_len_nil rfl ?_ | refine o_len_str rfl ?_ | refine o_faddr_ref rfl ?_ | refine o_faddr_iptr rfl ?_ | refine o_alloc rfl ?_ | refine o_box rfl rfl ?_ | refine o_mkmap ?_ | refine o_load_iptr rfl rfl ?_ | refine o_load_ref rfl (by repeat (first | exact lk_here _ _ _ | assumption | refine lk_skip (by omega) ?_ | refine lk_updS (by omega) ?_ | refine lk_rmS (by omega) ?_ | refine lk_normS ?_ | exact lk_updH (by repeat (first | exact lk_here _ _ _ | assumption | refine lk_skip (by omega) ?_ | refine lk_updS (by omega) ?_ | refine lk_rmS (by omega) ?_ | refine lk_normS ?_)))) (by rfl) ?_ | refine o_extract rfl rfl ?_ | refine o_mkfn ?_ | refine o_store_top rfl rfl rfl rfl rfl rfl (by omega) ?_ | refine o_nilChk_ref rfl ?_ | refine c_true rfl (by first | rfl | assumption) ?_ | refine c_false rfl (by first | rfl | assumption) ?_ | refine g_split rfl (fun hg => ?_) (fun hg => ?_) | refine c_cond rfl (fun hg => ?_) (fun hg => ?_))
    refine s_cut hm (fun E' s' => ∃ (plus : List Int) (dp : D) (E0 : Env) (H3 : Heap) (n3 : Nat), IL dp plus ∧ SetOf plus (Cls q i (q.at i).keys) ∧ E' = puts E0 [(1, .ref 0 0), (3, B true), (4, .lst (rows.map fun r => [r])), (6, I64 i), (7, .ref nx' 0), (8, dp)] ∧ s' = ⟨H3, n3, 0⟩ ∧ nx' < n3 ∧ lk H3 0 = some (.cells q.cells 25 0) ∧ lk H3 nx' = some (.cells (q.at i).enc 38 0)) ?_ ?_
    · have hclos : ∀ (ks : List Int) (d : D) (s : St), IL d ks → SetOf ks (fun x => x ∈ (q.at i).keys ∧ 0 ≤ x) → cl 23 [q.enc, I64 i, d] s fun o s' => ∃ d', o = .ret d' ∧ (∃ plus, IL d' plus ∧ SetOf plus (Cls q i (q.at i).keys)) ∧ FrV s s.H s' := by
        intro ks d s hd hks
        have hkn : ks.length ≤ 1000 := by
          have := hks.len (u := (q.at i).keys) (fun x hx => hx.1)
          omega
        have hvw : viewL fuelV [q.enc, I64 i, d] s.H = some ([q.enc, I64 i, intL ks], s.H) := by
          rcases hd with rfl | ⟨rfl, rfl⟩ <;> rfl
        refine hm _ _ _ _ _ (fun o s' ho => ?_) (clos23 hm hle hc hsort q hq0 i i (fun j _ => by omega) ks hkn s hvw)
        obtain ⟨d', h1, ⟨L, h2, h3⟩, h4⟩ := ho
        refine ⟨d', h1, ⟨L, h2, ?_⟩, h4⟩
        rcases h3 with ⟨-, -, h5⟩ | ⟨h5, -⟩
        · exact ⟨h5.1, fun x => (h5.2 x).trans (cls_vars hks)⟩
        · refine absurd ⟨hok, fun v hv => ?_⟩ h5
          have h6 := (hks.2 v).1 hv
          exact hin i hlt v (List.mem_filter.2 ⟨keys_sub h6.1, by simpa using h6.2⟩)
      refine ⟨fun T hT hE => ?_⟩
      refine e_pure hm hT hE 1 [8] rfl rfl rfl rfl rfl (fun _ => rfl) (fun T hT hE => ?_)
      refine e_pure hm hT hE 2 [3] rfl rfl rfl rfl rfl (fun _ => rfl) (fun T hT hE => ?_)
      refine e_load hm hT hE 3 [6, 7, 8] rfl rfl rfl rfl rfl rfl (by repeat (first | exact lk_here _ _ _ | assumption | refine lk_skip (by omega) ?_ | refine lk_updS (by omega) ?_ | refine lk_rmS (by omega) ?_ | refine lk_normS ?_ | exact lk_updH (by repeat (first | exact lk_here _ _ _ | assumption | refine lk_skip (by omega) ?_ | refine lk_updS (by omega) ?_ | refine lk_rmS (by omega) ?_ | refine lk_normS ?_)))) (by rfl) (by dsimp only; omega) (fun T hT hE => ?_)
      refine e_pure hm hT hE 4 [5] rfl rfl rfl rfl rfl (fun _ => rfl) (fun T hT hE => ?_)
      refine e_load hm hT hE 5 [6, 7, 8] rfl rfl rfl rfl rfl rfl (by repeat (first | exact lk_here _ _ _ | assumption | refine lk_skip (by omega) ?_ | refine lk_updS (by omega) ?_ | refine lk_rmS (by omega) ?_ | refine lk_normS ?_ | exact lk_updH (by repeat (first | exact lk_here _ _ _ | assumption | refine lk_skip (by omega) ?_ | refine lk_updS (by omega) ?_ | refine lk_rmS (by omega) ?_ | refine lk_normS ?_)))) (by rfl) (by dsimp only; omega) (fun T hT hE => ?_)
      refine e_pure hm hT hE 6 [7] rfl rfl rfl rfl rfl (fun s => exec_take (xs := (q.at i).terms.map fun t => [I64 t]) (j := (q.at i).key.toNat) rfl (show _ = I64 ((q.at i).key.toNat : Int) by rw [← key0]; rfl) (by intro c hc; obtain ⟨x, -, rfl⟩ := List.mem_map.1 hc; rfl) (by simp only [List.length_map]; omega) s) (fun T hT hE => ?_)
      refine d_two 0 7 rfl (by decide) (by decide) ?_ ?_
      · refine e_ld hT hE rfl rfl (by repeat (first | exact lk_here _ _ _ | assumption | refine lk_skip (by omega) ?_ | refine lk_updS (by omega) ?_ | refine lk_rmS (by omega) ?_ | refine lk_normS ?_ | exact lk_updH (by repeat (first | exact lk_here _ _ _ | assumption | refine lk_skip (by omega) ?_ | refine lk_updS (by omega) ?_ | refine lk_rmS (by omega) ?_ | refine lk_normS ?_)))) (by rfl) (fun T hT hE => ?_)
        refine d_one 7 rfl (by decide) ?_
        refine e_call (P := fun d s' => (∃ L, IL d L ∧ SetOf L (fun x => x ∈ (q.at i).keys ∧ 0 ≤ x)) ∧ Fr _ s') (args := [intL (q.at i).keys]) hm hT hE rfl (by rw [hkeys]; rfl) (hm _ _ _ _ _ (fun o s' ⟨d, h1, h2, h3⟩ => ⟨d, h1, h2, h3.fr⟩) (vars27 hm hc (q.at i).keys (by omega) _ rfl)) ?_
        rintro dk ⟨H2, n2, ro2⟩ T ⟨⟨ks, hik, hsk⟩, f1, f2, f3⟩ hT hE
        dsimp only at f1 f2 f3
        subst f1
        try simp only [List.length_cons, List.length_nil] at f2 f3
        refine d_one 8 rfl (by decide) ?_
        refine e_call (P := fun d s' => (∃ L, IL d L ∧ SetOf L (Cls q i (q.at i).keys)) ∧ Fr _ s') (args := [q.enc, I64 i, dk]) hm hT hE rfl rfl (hm _ _ _ _ _ (fun o s' ⟨d, h1, h2, h3⟩ => ⟨d, h1, h2, h3.fr⟩) (hclos ks dk _ hik hsk)) ?_
        rintro dp ⟨H3, n3, ro3⟩ T ⟨⟨plus, hip, hsp⟩, g1, g2, g3⟩ hT hE
        dsimp only at g1 g2 g3
        subst g1
        refine e_pure hm hT hE 9 [] rfl rfl rfl rfl rfl (fun _ => rfl) (fun T hT hE => ?_)
        refine d_end rfl ?_
        show EndQ _ (Ex.nrm, envOf T) _
        rw [hE]
        refine e_end ⟨rfl, plus, dp, _, _, _, hip, hsp, puts_ex ⟨rfl, rfl, rfl, rfl, rfl, rfl, trivial⟩, rfl, by omega, ?_, ?_⟩
        · rw [g3 0 (by omega), f3 0 (by omega)]
          repeat (first | exact lk_here _ _ _ | assumption | refine lk_skip (by omega) ?_ | refine lk_updS (by omega) ?_ | refine lk_rmS (by omega) ?_ | refine lk_normS ?_ | exact lk_updH (by repeat (first | exact lk_here _ _ _ | assumption | refine lk_skip (by omega) ?_ | refine lk_updS (by omega) ?_ | refine lk_rmS (by omega) ?_ | refine lk_normS ?_)))
        · rw [g3 nx' (by omega), f3 nx' (by omega)]
          repeat (first | exact lk_here _ _ _ | assumption | refine lk_skip (by omega) ?_ | refine lk_updS (by omega) ?_ | refine lk_rmS (by omega) ?_ | refine lk_normS ?_ | exact lk_updH (by repeat (first | exact lk_here _ _ _ | assumption | refine lk_skip (by omega) ?_ | refine lk_updS (by omega) ?_ | refine lk_rmS (by omega) ?_ | refine lk_normS ?_)))
      · refine e_call (P := fun d s' => (∃ L, IL d L ∧ SetOf L (fun x => x ∈ (q.at i).keys ∧ 0 ≤ x)) ∧ Fr _ s') (args := [intL (q.at i).keys]) hm hT hE rfl (by rw [hkeys]; rfl) (hm _ _ _ _ _ (fun o s' ⟨d, h1, h2, h3⟩ => ⟨d, h1, h2, h3.fr⟩) (vars27 hm hc (q.at i).keys (by omega) _ rfl)) ?_
        rintro dk ⟨H2, n2, ro2⟩ T ⟨⟨ks, hik, hsk⟩, f1, f2, f3⟩ hT hE
        dsimp only at f1 f2 f3
        subst f1
        try simp only [List.length_cons, List.length_nil] at f2 f3
        have hq2 : lk H2 0 = some (.cells q.cells 25 0) := by
          rw [f3 0 (by omega)]
          repeat (first | exact lk_here _ _ _ | assumption | refine lk_skip (by omega) ?_ | refine lk_updS (by omega) ?_ | refine lk_rmS (by omega) ?_ | refine lk_normS ?_ | exact lk_updH (by repeat (first | exact lk_here _ _ _ | assumption | refine lk_skip (by omega) ?_ | refine lk_updS (by omega) ?_ | refine lk_rmS (by omega) ?_ | refine lk_normS ?_)))
        refine d_one 0 rfl (by decide) ?_
        refine e_ld hT hE rfl rfl hq2 (by rfl) (fun T hT hE => ?_)
        refine d_one 8 rfl (by decide) ?_
        refine e_call (P := fun d s' => (∃ L, IL d L ∧ SetOf L (Cls q i (q.at i).keys)) ∧ Fr _ s') (args := [q.enc, I64 i, dk]) hm hT hE rfl rfl (hm _ _ _ _ _ (fun o s' ⟨d, h1, h2, h3⟩ => ⟨d, h1, h2, h3.fr⟩) (hclos ks dk _ hik hsk)) ?_
        rintro dp ⟨H3, n3, ro3⟩ T ⟨⟨plus, hip, hsp⟩, g1, g2, g3⟩ hT hE
        dsimp only at g1 g2 g3
        subst g1
        refine e_pure hm hT hE 9 [] rfl rfl rfl rfl rfl (fun _ => rfl) (fun T hT hE => ?_)
        refine d_end rfl ?_
        show EndQ _ (Ex.nrm, envOf T) _
        rw [hE]
        refine e_end ⟨rfl, plus, dp, _, _, _, hip, hsp, puts_ex ⟨rfl, rfl, rfl, rfl, rfl, rfl, trivial⟩, rfl, by omega, ?_, ?_⟩
        · rw [g3 0 (by omega), f3 0 (by omega)]
          repeat (first | exact lk_here _ _ _ | assumption | refine lk_skip (by omega) ?_ | refine lk_updS (by omega) ?_ | refine lk_rmS (by omega) ?_ | refine lk_normS ?_ | exact lk_updH (by repeat (first | exact lk_here _ _ _ | assumption | refine lk_skip (by omega) ?_ | refine lk_updS (by omega) ?_ | refine lk_rmS (by omega) ?_ | refine lk_normS ?_)))
        · rw [g3 nx' (by omega), f3 nx' (by omega)]
          repeat (first | exact lk_here _ _ _ | assumption | refine lk_skip (by omega) ?_ | refine lk_updS (by omega) ?_ | refine lk_rmS (by omega) ?_ | refine lk_normS ?_ | exact lk_updH (by repeat (first | exact lk_here _ _ _ | assumption | refine lk_skip (by omega) ?_ | refine lk_updS (by omega) ?_ | refine lk_rmS (by omega) ?_ | refine lk_normS ?_)))
    · rintro E s' ⟨plus, dp, E0, H3, n3, hip, hsp, rfl, rfl, hn3, hq3, ha3⟩
      repeat' (first | refine c_seq hm ?_ | refine c_region ?_ | refine o_nil ?_ | refine q_c ?_ | refine c_skip ?_ | refine c_ret ?_ | refine c_exit ?_ | refine c_scope ?_ | refine c_block hm ?_ | refine q_ret ?_ | refine q_exit ?_ | refine b_nrm ?_ | refine b_ret ?_ | refine b_hit ?_ | refine b_miss (by decide) ?_ | refine l_ret ?_ | refine l_exit ?_ | refine o_mv rfl ?_ | refine g_yes rfl (by first | rfl | assumption) ?_ | refine g_no rfl (by first | rfl | assumption) ?_ | refine o_pick_t rfl (by first | rfl | assumption) rfl ?_ | refine o_pick_f rfl (by first | rfl | assumption) rfl ?_ | refine o_lss rfl rfl ?_ | refine o_leq rfl rfl ?_ | refine o_gtr rfl rfl ?_ | refine o_geq rfl rfl ?_ | refine o_eql rfl rfl ?_ | refine o_neq rfl rfl ?_ | refine o_neqs rfl rfl ?_ | refine o_not rfl ?_ | refine o_eqb rfl rfl ?_ | refine o_neg rfl ?_ | refine o_len_lst rfl ?_ | refine o_len_sl rfl ?_ | refine o_len_nil rfl ?_ | refine o_len_str rfl ?_ | refine o_faddr_ref rfl ?_ | refine o_faddr_iptr rfl ?_ | refine o_alloc rfl ?_ | refine o_box rfl rfl ?_ | refine o_mkmap ?_ | refine o_load_iptr rfl rfl ?_ | refine o_load_ref rfl (by repeat (first | exact lk_here _ _ _ | assumption | refine lk_skip (by omega) ?_ | refine lk_updS (by omega) ?_ | refine lk_rmS (by omega) ?_ | refine lk_normS ?_ | exact lk_updH (by repeat (first | exact lk_here _ _ _ | assumption | refine lk_skip (by omega) ?_ | refine lk_updS (by omega) ?_ | refine lk_rmS (by omega) ?_ | refine lk_normS ?_)))) (by rfl) ?_ | refine o_extract rfl rfl ?_ | refine o_mkfn ?_ | refine o_store_top rfl rfl rfl rfl rfl rfl (by omega) ?_ | refine o_nilChk_ref rfl ?_ | refine c_true rfl (by first | rfl | assumption) ?_ | refine c_false rfl (by first | rfl | assumption) ?_ | refine g_split rfl (fun hg => ?_) (fun hg => ?_) | refine c_cond rfl (fun hg => ?_) (fun hg => ?_))
      refine o_callV (args := [intL (q.at i).terms]) (H1 := H3) hm rfl (vars27 hm hc (q.at i).terms (by omega) _ rfl) (fun dw H4 n4 hP hn4 hfr4 => ?_)
      obtain ⟨own, how, hos⟩ := hP
      have hq4 : lk H4 0 = some (.cells q.cells 25 0) := by
        rcases hfr4 with rfl | h
        · exact hq3
        · rw [h 0 (by omega)]; exact hq3
      have hpl : plus.length < 100000 := by
        have := cls_len gd (f := i) (vs := (q.at i).keys) (l := plus) (hsp.1.imp fun h => by omega) (fun t ht => (hsp.2 t).1 ht)
        omega
      have hol : own.length < 100000 := by
        have := hos.len (u := (q.at i).terms) (fun x hx => hx.1)
        omega
      clear hfr4
      repeat' (first | refine c_seq hm ?_ | refine c_region ?_ | refine o_nil ?_ | refine q_c ?_ | refine c_skip ?_ | refine c_ret ?_ | refine c_exit ?_ | refine c_scope ?_ | refine c_block hm ?_ | refine q_ret ?_ | refine q_exit ?_ | refine b_nrm ?_ | refine b_ret ?_ | refine b_hit ?_ | refine b_miss (by decide) ?_ | refine l_ret ?_ | refine l_exit ?_ | refine o_mv rfl ?_ | refine g_yes rfl (by first | rfl | assumption) ?_ | refine g_no rfl (by first | rfl | assumption) ?_ | refine o_pick_t rfl (by first | rfl | assumption) rfl ?_ | refine o_pick_f rfl (by first | rfl | assumption) rfl ?_ | refine o_lss rfl rfl ?_ | refine o_leq rfl rfl ?_ | refine o_gtr rfl rfl ?_ | refine o_geq rfl rfl ?_ | refine o_eql rfl rfl ?_ | refine o_neq rfl rfl ?_ | refine o_neqs rfl rfl ?_ | refine o_not rfl ?_ | refine o_eqb rfl rfl ?_ | refine o_neg rfl ?_ | refine o_len_lst rfl ?_ | refine o_len_sl rfl ?_ | refine o_len_nil rfl ?_ | refine o_len_str rfl ?_ | refine o_faddr_ref rfl ?_ | refine o_faddr_iptr rfl ?_ | refine o_alloc rfl ?_ | refine o_box rfl rfl ?_ | refine o_mkmap ?_ | refine o_load_iptr rfl rfl ?_ | refine o_load_ref rfl (by repeat (first | exact lk_here _ _ _ | assumption | refine lk_skip (by omega) ?_ | refine lk_updS (by omega) ?_ | refine lk_rmS (by omega) ?_ | refine lk_normS ?_ | exact lk_updH (by repeat (first | exact lk_here _ _ _ | assumption | refine lk_skip (by omega) ?_ | refine lk_updS (by omega) ?_ | refine lk_rmS (by omega) ?_ | refine lk_normS ?_)))) (by rfl) ?_ | refine o_extract rfl rfl ?_ | refine o_mkfn ?_ | refine o_store_top rfl rfl rfl rfl rfl rfl (by omega) ?_ | refine o_nilChk_ref rfl ?_ | refine c_true rfl (by first | rfl | assumption) ?_ | refine c_false rfl (by first | rfl | assumption) ?_ | refine g_split rfl (fun hg => ?_) (fun hg => ?_) | refine c_cond rfl (fun hg => ?_) (fun hg => ?_))
      refine keysMid hm hc q gd i hlt _ (F i) rowI (hF i hlt) (fun k hk => hatt i k hlt hk) hip how hpl hol hsp hos ?_ hq4 (by omega) (fun E' H5 n5 hn5 hq5 hAg => ?_)
      · exact ⟨rfl, rfl, rfl, rfl, rfl, rfl, rfl, trivial⟩
      · obtain ⟨E0, rfl⟩ : ∃ E0, E' = puts E0 _ := ⟨_, puts_ex hAg⟩
        clear hAg
        repeat' (first | refine c_seq hm ?_ | refine c_region ?_ | refine o_nil ?_ | refine q_c ?_ | refine c_skip ?_ | refine c_ret ?_ | refine c_exit ?_ | refine c_scope ?_ | refine c_block hm ?_ | refine q_ret ?_ | refine q_exit ?_ | refine b_nrm ?_ | refine b_ret ?_ | refine b_hit ?_ | refine b_miss (by decide) ?_ | refine l_ret ?_ | refine l_exit ?_ | refine o_mv rfl ?_ | refine g_yes rfl (by first | rfl | assumption) ?_ | refine g_no rfl (by first | rfl | assumption) ?_ | refine o_pick_t rfl (by first | rfl | assumption) rfl ?_ | refine o_pick_f rfl (by first | rfl | assumption) rfl ?_ | refine o_lss rfl rfl ?_ | refine o_leq rfl rfl ?_ | refine o_gtr rfl rfl ?_ | refine o_geq rfl rfl ?_ | refine o_eql rfl rfl ?_ | refine o_neq rfl rfl ?_ | refine o_neqs rfl rfl ?_ | refine o_not rfl ?_ | refine o_eqb rfl rfl ?_ | refine o_neg rfl ?_ | refine o_len_lst rfl ?_ | refine o_len_sl rfl ?_ | refine o_len_nil rfl ?_ | refine o_len_str rfl ?_ | refine o_faddr_ref rfl ?_ | refine o_faddr_iptr rfl ?_ | refine o_alloc rfl ?_ | refine o_box rfl rfl ?_ | refine o_mkmap ?_ | refine o_load_iptr rfl rfl ?_ | refine o_load_ref rfl (by repeat (first | exact lk_here _ _ _ | assumption | refine lk_skip (by omega) ?_ | refine lk_updS (by omega) ?_ | refine lk_rmS (by omega) ?_ | refine lk_normS ?_ | exact lk_updH (by repeat (first | exact lk_here _ _ _ | assumption | refine lk_skip (by omega) ?_ | refine lk_updS (by omega) ?_ | refine lk_rmS (by omega) ?_ | refine lk_normS ?_)))) (by rfl) ?_ | refine o_extract rfl rfl ?_ | refine o_mkfn ?_ | refine o_store_top rfl rfl rfl rfl rfl rfl (by omega) ?_ | refine o_nilChk_ref rfl ?_ | refine c_true rfl (by first | rfl | assumption) ?_ | refine c_false rfl (by first | rfl | assumption) ?_ | refine g_split rfl (fun hg => ?_) (fun hg => ?_) | refine c_cond rfl (fun hg => ?_) (fun hg => ?_))
        refine o_inc rfl (by omega) ?_
        repeat' (first | refine c_seq hm ?_ | refine c_region ?_ | refine o_nil ?_ | refine q_c ?_ | refine c_skip ?_ | refine c_ret ?_ | refine c_exit ?_ | refine c_scope ?_ | refine c_block hm ?_ | refine q_ret ?_ | refine q_exit ?_ | refine b_nrm ?_ | refine b_ret ?_ | refine b_hit ?_ | refine b_miss (by decide) ?_ | refine l_ret ?_ | refine l_exit ?_ | refine o_mv rfl ?_ | refine g_yes rfl (by first | rfl | assumption) ?_ | refine g_no rfl (by first | rfl | assumption) ?_ | refine o_pick_t rfl (by first | rfl | assumption) rfl ?_ | refine o_pick_f rfl (by first | rfl | assumption) rfl ?_ | refine o_lss rfl rfl ?_ | refine o_leq rfl rfl ?_ | refine o_gtr rfl rfl ?_ | refine o_geq rfl rfl ?_ | refine o_eql rfl rfl ?_ | refine o_neq rfl rfl ?_ | refine o_neqs rfl rfl ?_ | refine o_not rfl ?_ | refine o_eqb rfl rfl ?_ | refine o_neg rfl ?_ | refine o_len_lst rfl ?_ | refine o_len_sl rfl ?_ | refine o_len_nil rfl ?_ | refine o_len_str rfl ?_ | refine o_faddr_ref rfl ?_ | refine o_faddr_iptr rfl ?_ | refine o_alloc rfl ?_ | refine o_box rfl rfl ?_ | refine o_mkmap ?_ | refine o_load_iptr rfl rfl ?_ | refine o_load_ref rfl (by repeat (first | exact lk_here _ _ _ | assumption | refine lk_skip (by omega) ?_ | refine lk_updS (by omega) ?_ | refine lk_rmS (by omega) ?_ | refine lk_normS ?_ | exact lk_updH (by repeat (first | exact lk_here _ _ _ | assumption | refine lk_skip (by omega) ?_ | refine lk_updS (by omega) ?_ | refine lk_rmS (by omega) ?_ | refine lk_normS ?_)))) (by rfl) ?_ | refine o_extract rfl rfl ?_ | refine o_mkfn ?_ | refine o_store_top rfl rfl rfl rfl rfl rfl (by omega) ?_ | refine o_nilChk_ref rfl ?_ | refine c_true rfl (by first | rfl | assumption) ?_ | refine c_false rfl (by first | rfl | assumption) ?_ | refine g_split rfl (fun hg => ?_) (fun hg => ?_) | refine c_cond rfl (fun hg => ?_) (fun hg => ?_))
        exact l_nrm (q.atoms.length - (i + 1)) (by omega) ⟨i + 1, n5, H5, _, rfl, hlt, by omega, puts_ex ⟨rfl, rfl, rfl, rfl, trivial⟩, rfl, hq5⟩
  · exact hQ _ _ ⟨rfl, trivial⟩
end K36
set_option maxRecDepth 100000
set_option maxHeartbeats 4000000
set_option linter.unusedVariables false
set_option linter.unusedSimpArgs false
namespace K36
open Go Go.Ai

theorem law7 {cl : Cl} (hm : MonoQ cl) (hle : LeCl (callL ir) cl) (hc : Closed irX cl) (hsort : Sorts cl) (hhead : ∀ s, At cl 9 [] s (B true)) (q : Qry) (hq0 : q.Fits) : bodyM cl i7 [q.enc] ⟨[], 0, 0⟩ fun o s' => o = .ret (B true) ∧ Same ⟨[], 0, 0⟩ s' := by
  refine body_seal hm (args' := [q.enc]) (H1 := []) rfl rfl rfl rfl rfl ?_
  show CodeR _ 131 c7 _ _ _
  unfold c7
  repeat' (first | refine c_seq hm ?_ | refine c_region ?_ | refine o_nil ?_ | refine q_c ?_ | refine c_skip ?_ | refine c_ret ?_ | refine c_exit ?_ | refine c_scope ?_ | refine c_block hm ?_ | refine q_ret ?_ | refine q_exit ?_ | refine b_nrm ?_ | refine b_ret ?_ | refine b_hit ?_ | refine b_miss (by decide) ?_ | refine l_ret ?_ | refine l_exit ?_ | refine o_mv rfl ?_ | refine g_yes rfl (by first | rfl | assumption) ?_ | refine g_no rfl (by first | rfl | assumption) ?_ | refine o_pick_t rfl (by first | rfl | assumption) rfl ?_ | refine o_pick_f rfl (by first | rfl | assumption) rfl ?_ | refine o_lss rfl rfl ?_ | refine o_leq rfl rfl ?_ | refine o_gtr rfl rfl ?_ | refine o_geq rfl rfl ?_ | refine o_eql rfl rfl ?_ | refine o_neq rfl rfl ?_ | refine o_neqs rfl rfl ?_ | refine o_not rfl ?_ | refine o_eqb rfl rfl ?_ | refine o_neg rfl ?_ | refine o_len_lst rfl ?_ | refine o_len_sl rfl ?_ | refine o_len_nil rfl ?_ | refine o_len_str rfl ?_ | refine o_faddr_ref rfl ?_ | refine o_faddr_iptr rfl ?_ | refine o_alloc rfl ?_ | refine o_box rfl rfl ?_ | refine o_mkmap ?_ | refine o_load_iptr rfl rfl ?_ | refine o_load_ref rfl (by repeat (first | exact lk_here _ _ _ | assumption | refine lk_skip (by omega) ?_ | refine lk_updS (by omega) ?_ | refine lk_rmS (by omega) ?_ | refine lk_normS ?_ | exact lk_updH (by repeat (first | exact lk_here _ _ _ | assumption | refine lk_skip (by omega) ?_ | refine lk_updS (by omega) ?_ | refine lk_rmS (by omega) ?_ | refine lk_normS ?_)))) (by rfl) ?_ | refine o_extract rfl rfl ?_ | refine o_mkfn ?_ | refine o_store_top rfl rfl rfl rfl rfl rfl (by omega) ?_ | refine o_nilChk_ref rfl ?_ | refine c_true rfl (by first | rfl | assumption) ?_ | refine c_false rfl (by first | rfl | assumption) ?_ | refine g_split rfl (fun hg => ?_) (fun hg => ?_) | refine c_cond rfl (fun hg => ?_) (fun hg => ?_))
  refine o_at (args := []) hm rfl (hhead _) (fun n1 hn1 => ?_)
  repeat' (first | refine c_seq hm ?_ | refine c_region ?_ | refine o_nil ?_ | refine q_c ?_ | refine c_skip ?_ | refine c_ret ?_ | refine c_exit ?_ | refine c_scope ?_ | refine c_block hm ?_ | refine q_ret ?_ | refine q_exit ?_ | refine b_nrm ?_ | refine b_ret ?_ | refine b_hit ?_ | refine b_miss (by decide) ?_ | refine l_ret ?_ | refine l_exit ?_ | refine o_mv rfl ?_ | refine g_yes rfl (by first | rfl | assumption) ?_ | refine g_no rfl (by first | rfl | assumption) ?_ | refine o_pick_t rfl (by first | rfl | assumption) rfl ?_ | refine o_pick_f rfl (by first | rfl | assumption) rfl ?_ | refine o_lss rfl rfl ?_ | refine o_leq rfl rfl ?_ | refine o_gtr rfl rfl ?_ | refine o_geq rfl rfl ?_ | refine o_eql rfl rfl ?_ | refine o_neq rfl rfl ?_ | refine o_neqs rfl rfl ?_ | refine o_not rfl ?_ | refine o_eqb rfl rfl ?_ | refine o_neg rfl ?_ | refine o_len_lst rfl ?_ | refine o_len_sl rfl ?_ | refine o_len_nil rfl ?_ | refine o_len_str rfl ?_ | refine o_faddr_ref rfl ?_ | refine o_faddr_iptr rfl ?_ | refine o_alloc rfl ?_ | refine o_box rfl rfl ?_ | refine o_mkmap ?_ | refine o_load_iptr rfl rfl ?_ | refine o_load_ref rfl (by repeat (first | exact lk_here _ _ _ | assumption | refine lk_skip (by omega) ?_ | refine lk_updS (by omega) ?_ | refine lk_rmS (by omega) ?_ | refine lk_normS ?_ | exact lk_updH (by repeat (first | exact lk_here _ _ _ | assumption | refine lk_skip (by omega) ?_ | refine lk_updS (by omega) ?_ | refine lk_rmS (by omega) ?_ | refine lk_normS ?_)))) (by rfl) ?_ | refine o_extract rfl rfl ?_ | refine o_mkfn ?_ | refine o_store_top rfl rfl rfl rfl rfl rfl (by omega) ?_ | refine o_nilChk_ref rfl ?_ | refine c_true rfl (by first | rfl | assumption) ?_ | refine c_false rfl (by first | rfl | assumption) ?_ | refine g_split rfl (fun hg => ?_) (fun hg => ?_) | refine c_cond rfl (fun hg => ?_) (fun hg => ?_))
  refine o_at (args := [q.enc, I64 8]) hm rfl (hle _ _ _ _ (few10 q hq0 _)) (fun n2 hn2 => ?_)
  repeat' (first | refine c_seq hm ?_ | refine c_region ?_ | refine o_nil ?_ | refine q_c ?_ | refine c_skip ?_ | refine c_ret ?_ | refine c_exit ?_ | refine c_scope ?_ | refine c_block hm ?_ | refine q_ret ?_ | refine q_exit ?_ | refine b_nrm ?_ | refine b_ret ?_ | refine b_hit ?_ | refine b_miss (by decide) ?_ | refine l_ret ?_ | refine l_exit ?_ | refine o_mv rfl ?_ | refine g_yes rfl (by first | rfl | assumption) ?_ | refine g_no rfl (by first | rfl | assumption) ?_ | refine o_pick_t rfl (by first | rfl | assumption) rfl ?_ | refine o_pick_f rfl (by first | rfl | assumption) rfl ?_ | refine o_lss rfl rfl ?_ | refine o_leq rfl rfl ?_ | refine o_gtr rfl rfl ?_ | refine o_geq rfl rfl ?_ | refine o_eql rfl rfl ?_ | refine o_neq rfl rfl ?_ | refine o_neqs rfl rfl ?_ | refine o_not rfl ?_ | refine o_eqb rfl rfl ?_ | refine o_neg rfl ?_ | refine o_len_lst rfl ?_ | refine o_len_sl rfl ?_ | refine o_len_nil rfl ?_ | refine o_len_str rfl ?_ | refine o_faddr_ref rfl ?_ | refine o_faddr_iptr rfl ?_ | refine o_alloc rfl ?_ | refine o_box rfl rfl ?_ | refine o_mkmap ?_ | refine o_load_iptr rfl rfl ?_ | refine o_load_ref rfl (by repeat (first | exact lk_here _ _ _ | assumption | refine lk_skip (by omega) ?_ | refine lk_updS (by omega) ?_ | refine lk_rmS (by omega) ?_ | refine lk_normS ?_ | exact lk_updH (by repeat (first | exact lk_here _ _ _ | assumption | refine lk_skip (by omega) ?_ | refine lk_updS (by omega) ?_ | refine lk_rmS (by omega) ?_ | refine lk_normS ?_)))) (by rfl) ?_ | refine o_extract rfl rfl ?_ | refine o_mkfn ?_ | refine o_store_top rfl rfl rfl rfl rfl rfl (by omega) ?_ | refine o_nilChk_ref rfl ?_ | refine c_true rfl (by first | rfl | assumption) ?_ | refine c_false rfl (by first | rfl | assumption) ?_ | refine g_split rfl (fun hg => ?_) (fun hg => ?_) | refine c_cond rfl (fun hg => ?_) (fun hg => ?_))
  · refine o_at (args := [q.enc]) hm rfl (hle _ _ _ _ (valid11 q hq0 _)) (fun n3 hn3 => ?_)
    repeat' (first | refine c_seq hm ?_ | refine c_region ?_ | refine o_nil ?_ | refine q_c ?_ | refine c_skip ?_ | refine c_ret ?_ | refine c_exit ?_ | refine c_scope ?_ | refine c_block hm ?_ | refine q_ret ?_ | refine q_exit ?_ | refine b_nrm ?_ | refine b_ret ?_ | refine b_hit ?_ | refine b_miss (by decide) ?_ | refine l_ret ?_ | refine l_exit ?_ | refine o_mv rfl ?_ | refine g_yes rfl (by first | rfl | assumption) ?_ | refine g_no rfl (by first | rfl | assumption) ?_ | refine o_pick_t rfl (by first | rfl | assumption) rfl ?_ | refine o_pick_f rfl (by first | rfl | assumption) rfl ?_ | refine o_lss rfl rfl ?_ | refine o_leq rfl rfl ?_ | refine o_gtr rfl rfl ?_ | refine o_geq rfl rfl ?_ | refine o_eql rfl rfl ?_ | refine o_neq rfl rfl ?_ | refine o_neqs rfl rfl ?_ | refine o_not rfl ?_ | refine o_eqb rfl rfl ?_ | refine o_neg rfl ?_ | refine o_len_lst rfl ?_ | refine o_len_sl rfl ?_ | refine o_len_nil rfl ?_ | refine o_len_str rfl ?_ | refine o_faddr_ref rfl ?_ | refine o_faddr_iptr rfl ?_ | refine o_alloc rfl ?_ | refine o_box rfl rfl ?_ | refine o_mkmap ?_ | refine o_load_iptr rfl rfl ?_ | refine o_load_ref rfl (by repeat (first | exact lk_here _ _ _ | assumption | refine lk_skip (by omega) ?_ | refine lk_updS (by omega) ?_ | refine lk_rmS (by omega) ?_ | refine lk_normS ?_ | exact lk_updH (by repeat (first | exact lk_here _ _ _ | assumption | refine lk_skip (by omega) ?_ | refine lk_updS (by omega) ?_ | refine lk_rmS (by omega) ?_ | refine lk_normS ?_)))) (by rfl) ?_ | refine o_extract rfl rfl ?_ | refine o_mkfn ?_ | refine o_store_top rfl rfl rfl rfl rfl rfl (by omega) ?_ | refine o_nilChk_ref rfl ?_ | refine c_true rfl (by first | rfl | assumption) ?_ | refine c_false rfl (by first | rfl | assumption) ?_ | refine g_split rfl (fun hg => ?_) (fun hg => ?_) | refine c_cond rfl (fun hg => ?_) (fun hg => ?_))
    · exact e_end ⟨Or.inr rfl, rfl, Nat.zero_le _⟩
    · have hok : q.ok = true := by simpa using hg
      have gd := good_of hok
      have hbl := below_of hok
      refine o_callE (P := fun d => ∃ r, d = .tup [r, I64 0] ∧ rowsOf q r) (args := [q.enc]) hm rfl (hle _ _ _ _ (attacks12 q hq0 hok _)) ?_
      rintro d H4 n4 ⟨r, rfl, rows, hrl, hrows, hr⟩ hn4 hfr4
      have hq4 : lk H4 0 = some (.cells q.cells 25 0) := by
        rw [hfr4 0 (by first | omega | (dsimp only at *; omega))]
        exact lk_here _ _ _
      have hn4' : 0 < n4 := by first | omega | (dsimp only at *; omega)
      clear hfr4
      have hneq : ((q.atoms.length : Int) != ((q.atoms.map Atm.enc).length : Int)) = false := by rw [len_encA]; simp
      repeat' (first | refine c_seq hm ?_ | refine c_region ?_ | refine o_nil ?_ | refine q_c ?_ | refine c_skip ?_ | refine c_ret ?_ | refine c_exit ?_ | refine c_scope ?_ | refine c_block hm ?_ | refine q_ret ?_ | refine q_exit ?_ | refine b_nrm ?_ | refine b_ret ?_ | refine b_hit ?_ | refine b_miss (by decide) ?_ | refine l_ret ?_ | refine l_exit ?_ | refine o_mv rfl ?_ | refine g_yes rfl (by first | rfl | assumption) ?_ | refine g_no rfl (by first | rfl | assumption) ?_ | refine o_pick_t rfl (by first | rfl | assumption) rfl ?_ | refine o_pick_f rfl (by first | rfl | assumption) rfl ?_ | refine o_lss rfl rfl ?_ | refine o_leq rfl rfl ?_ | refine o_gtr rfl rfl ?_ | refine o_geq rfl rfl ?_ | refine o_eql rfl rfl ?_ | refine o_neq rfl rfl ?_ | refine o_neqs rfl rfl ?_ | refine o_not rfl ?_ | refine o_eqb rfl rfl ?_ | refine o_neg rfl ?_ | refine o_len_lst rfl ?_ | refine o_len_sl rfl ?_ | refine o_len_nil rfl ?_ | refine o_len_str rfl ?_ | refine o_faddr_ref rfl ?_ | refine o_faddr_iptr rfl ?_ | refine o_alloc rfl ?_ | refine o_box rfl rfl ?_ | refine o_mkmap ?_ | refine o_load_iptr rfl rfl ?_ | refine o_load_ref rfl (by repeat (first | exact lk_here _ _ _ | assumption | refine lk_skip (by omega) ?_ | refine lk_updS (by omega) ?_ | refine lk_rmS (by omega) ?_ | refine lk_normS ?_ | exact lk_updH (by repeat (first | exact lk_here _ _ _ | assumption | refine lk_skip (by omega) ?_ | refine lk_updS (by omega) ?_ | refine lk_rmS (by omega) ?_ | refine lk_normS ?_)))) (by rfl) ?_ | refine o_extract rfl rfl ?_ | refine o_mkfn ?_ | refine o_store_top rfl rfl rfl rfl rfl rfl (by omega) ?_ | refine o_nilChk_ref rfl ?_ | refine c_true rfl (by first | rfl | assumption) ?_ | refine c_false rfl (by first | rfl | assumption) ?_ | refine o_len_rows rfl hr hrl ?_ | refine g_split rfl (fun hg => ?_) (fun hg => ?_) | refine c_cond rfl (fun hg => ?_) (fun hg => ?_))
      obtain ⟨F, hF⟩ := rows_fun hrows
      have rowF : ∀ i, i < q.atoms.length → (rows.map fun r => [r])[i]? = some [.lst ((F i).map fun b => [B b])] := by
        intro i hi
        rw [← (hF i hi).2.2]
        simp [hrl, hi]
      refine keysOut hm hle hc hsort q hq0 hok gd (fun i hi v hv => ?_) rows F (fun i hi => (hF i hi).1) (fun i k hi hk => (hF i hi).2.1 k hk) rowF hrl hr ?_ hq4 hn4' (fun E' s' hAg => ?_)
      · have := List.mem_filter.1 hv
        exact ⟨by simpa using this.2, hbl i hi v this.1⟩
      · exact ⟨rfl, rfl, rfl, rfl, trivial⟩
      · obtain ⟨E0, rfl⟩ : ∃ E0, E' = puts E0 _ := ⟨_, puts_ex hAg⟩
        repeat' (first | refine c_seq hm ?_ | refine c_region ?_ | refine o_nil ?_ | refine q_c ?_ | refine c_skip ?_ | refine c_ret ?_ | refine c_exit ?_ | refine c_scope ?_ | refine c_block hm ?_ | refine q_ret ?_ | refine q_exit ?_ | refine b_nrm ?_ | refine b_ret ?_ | refine b_hit ?_ | refine b_miss (by decide) ?_ | refine l_ret ?_ | refine l_exit ?_ | refine o_mv rfl ?_ | refine g_yes rfl (by first | rfl | assumption) ?_ | refine g_no rfl (by first | rfl | assumption) ?_ | refine o_pick_t rfl (by first | rfl | assumption) rfl ?_ | refine o_pick_f rfl (by first | rfl | assumption) rfl ?_ | refine o_lss rfl rfl ?_ | refine o_leq rfl rfl ?_ | refine o_gtr rfl rfl ?_ | refine o_geq rfl rfl ?_ | refine o_eql rfl rfl ?_ | refine o_neq rfl rfl ?_ | refine o_neqs rfl rfl ?_ | refine o_not rfl ?_ | refine o_eqb rfl rfl ?_ | refine o_neg rfl ?_ | refine o_len_lst rfl ?_ | refine o_len_sl rfl ?_ | refine o_len_nil rfl ?_ | refine o_len_str rfl ?_ | refine o_faddr_ref rfl ?_ | refine o_faddr_iptr rfl ?_ | refine o_alloc rfl ?_ | refine o_box rfl rfl ?_ | refine o_mkmap ?_ | refine o_load_iptr rfl rfl ?_ | refine o_load_ref rfl (by repeat (first | exact lk_here _ _ _ | assumption | refine lk_skip (by omega) ?_ | refine lk_updS (by omega) ?_ | refine lk_rmS (by omega) ?_ | refine lk_normS ?_ | exact lk_updH (by repeat (first | exact lk_here _ _ _ | assumption | refine lk_skip (by omega) ?_ | refine lk_updS (by omega) ?_ | refine lk_rmS (by omega) ?_ | refine lk_normS ?_)))) (by rfl) ?_ | refine o_extract rfl rfl ?_ | refine o_mkfn ?_ | refine o_store_top rfl rfl rfl rfl rfl rfl (by omega) ?_ | refine o_nilChk_ref rfl ?_ | refine c_true rfl (by first | rfl | assumption) ?_ | refine c_false rfl (by first | rfl | assumption) ?_ | refine g_split rfl (fun hg => ?_) (fun hg => ?_) | refine c_cond rfl (fun hg => ?_) (fun hg => ?_))
        exact e_end ⟨Or.inr rfl, rfl, Nat.zero_le _⟩
  all_goals exact e_end ⟨Or.inr rfl, rfl, Nat.zero_le _⟩
end K36
