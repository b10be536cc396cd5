/-
  A part of the walk through the law: what its functions compute. Conditions: none beyond the statement.
-/
import Derived.Test.YtemeabkpllolmaaGreatDoorWalk14
import Derived.Test.YtemeabkpllolmaaGreatDoorInt12
set_option maxRecDepth 100000
set_option maxHeartbeats 2000000
set_option linter.unusedVariables false
set_option linter.unusedSimpArgs false
namespace K36
open Go Go.Ai

theorem c_reset {cl : Cl} {nt : Nat} {c : IC} {E : Env} {s : St} {Q : Ex × Env → St → Prop} (l : List (Nat × D)) (hA : Agree E l) (h : ∀ E0, CodeR cl nt c (puts E0 l) s Q) : CodeR cl nt c E s Q := by
  rw [puts_ex hA]
  exact h E
/-- Behind the calls. -/
def numT : IC := sndC (sndC (sndC (sndC (sndC (sndC (sndC (sndC (sndC (sndC c4)))))))))
theorem numTail {cl : Cl} (hm : MonoQ cl) (n : Nat) (hn : n ≤ 20) (c : Bool) (r r2 : D) (rows rows2 : List D) (F G : Nat → List Bool) (hr : r = .lst (rows.map fun r => [r]) ∨ (n = 0 ∧ r = .raw (.slice none 0 0))) (hrl : rows.length = n) (hr2 : r2 = .lst (rows2.map fun r => [r]) ∨ (n = 0 ∧ r2 = .raw (.slice none 0 0))) (hrl2 : rows2.length = n)
    (hF : ∀ i, i < n → (F i).length = n) (hG : ∀ i, i < n → (G i).length = n)
    (rowF : ∀ i, i < n → (rows.map fun r => [r])[i]? = some [.lst ((F i).map fun b => [B b])]) (rowG : ∀ i, i < n → (rows2.map fun r => [r])[i]? = some [.lst ((G i).map fun b => [B b])])
    (heq : ∀ i k i2 k2, i + i2 + 1 = n → k + k2 + 1 = n → (F i).getD k false = (G i2).getD k2 false)
    {E0 : Env} {s : St} {Q : Ex × Env → St → Prop} (hQ : ∀ E' s', E' 2 = B true → Q (.ret, E') s') :
    CodeR cl 190 numT (puts E0 [(3, B true), (4, I64 n), (10, r), (11, I64 0), (12, r2), (13, I64 0), (14, B c), (15, I64 0), (16, B c), (17, I64 0)]) s Q := by
  have hL : 0 < n → r = .lst (rows.map fun r => [r]) := by
    intro h
    rcases hr with h1 | ⟨h1, -⟩
    · exact h1
    · omega
  have hM : 0 < n → r2 = .lst (rows2.map fun r => [r]) := by
    intro h
    rcases hr2 with h1 | ⟨h1, -⟩
    · exact h1
    · omega
  have hnn : ((n : Int) != (n : Int)) = false := by simp
  show CodeR cl 190 (.seq _ _) _ _ _
  cases c
  all_goals
    repeat' (first | refine c_seq hm ?_ | refine c_region ?_ | refine o_nil ?_ | refine q_c ?_ | refine c_skip ?_ | refine c_ret ?_ | refine c_exit ?_ | refine c_scope ?_ | refine c_block hm ?_ | refine q_ret ?_ | refine q_exit ?_ | refine b_nrm ?_ | refine b_ret ?_ | refine b_hit ?_ | refine b_miss (by decide) ?_ | refine l_ret ?_ | refine l_exit ?_ | refine o_mv rfl ?_ | refine g_yes rfl (by first | rfl | assumption) ?_ | refine g_no rfl (by first | rfl | assumption) ?_ | refine o_pick_t rfl (by first | rfl | assumption) rfl ?_ | refine o_pick_f rfl (by first | rfl | assumption) rfl ?_ | refine o_lss rfl rfl ?_ | refine o_leq rfl rfl ?_ | refine o_gtr rfl rfl ?_ | refine o_geq rfl rfl ?_ | refine o_eql rfl rfl ?_ | refine o_neq rfl rfl ?_ | refine o_neqs rfl rfl ?_ | refine o_not rfl ?_ | refine o_eqb rfl rfl ?_ | refine o_neg rfl ?_ | refine o_len_lst rfl ?_ | refine o_len_sl rfl ?_ | refine o_len_nil rfl ?_ | refine o_len_str rfl ?_ | refine o_faddr_ref rfl ?_ | refine o_faddr_iptr rfl ?_ | refine o_alloc rfl ?_ | refine o_box rfl rfl ?_ | refine o_mkmap ?_ | refine o_load_iptr rfl rfl ?_ | refine o_load_ref rfl (by repeat (first | exact lk_here _ _ _ | assumption | refine lk_skip (by omega) ?_ | refine lk_updS (by omega) ?_ | refine lk_rmS (by omega) ?_ | refine lk_normS ?_ | exact lk_updH (by repeat (first | exact lk_here _ _ _ | assumption | refine lk_skip (by omega) ?_ | refine lk_updS (by omega) ?_ | refine lk_rmS (by omega) ?_ | refine lk_normS ?_ | exact lk_updH (by repeat (first | exact lk_here _ _ _ | assumption | refine lk_skip (by omega) ?_ | refine lk_updS (by omega) ?_ | refine lk_rmS (by omega) ?_ | refine lk_normS ?_)))))) (by rfl) ?_ | refine o_extract rfl rfl ?_ | refine o_mkfn ?_ | refine o_store_top rfl rfl rfl rfl rfl rfl (by omega) ?_ | refine o_nilChk_ref rfl ?_ | refine c_true rfl (by first | rfl | assumption) ?_ | refine c_false rfl (by first | rfl | assumption) ?_ | refine o_len_rows rfl hr hrl ?_ | refine o_len_rows rfl hr2 hrl2 ?_ | refine g_split rfl (fun hg => ?_) (fun hg => ?_) | refine c_cond rfl (fun hg => ?_) (fun hg => ?_))
    clear hr hr2 hnn
    refine c_loop hm (fun m E s' => ∃ (i : Nat) (E0 : Env), m = n - i ∧ i ≤ n ∧ E = puts E0 [(3, B true), (4, I64 n), (10, r), (12, r2), (18, I64 i)])
      (n0 := n) ⟨0, _, rfl, Nat.zero_le _, puts_ex ⟨rfl, rfl, rfl, rfl, rfl, trivial⟩⟩ ?_
    rintro m E s' ⟨i, E0, rfl, hi, rfl⟩
    repeat' (first | refine c_seq hm ?_ | refine c_region ?_ | refine o_nil ?_ | refine q_c ?_ | refine c_skip ?_ | refine c_ret ?_ | refine c_exit ?_ | refine c_scope ?_ | refine c_block hm ?_ | refine q_ret ?_ | refine q_exit ?_ | refine b_nrm ?_ | refine b_ret ?_ | refine b_hit ?_ | refine b_miss (by decide) ?_ | refine l_ret ?_ | refine l_exit ?_ | refine o_mv rfl ?_ | refine g_yes rfl (by first | rfl | assumption) ?_ | refine g_no rfl (by first | rfl | assumption) ?_ | refine o_pick_t rfl (by first | rfl | assumption) rfl ?_ | refine o_pick_f rfl (by first | rfl | assumption) rfl ?_ | refine o_lss rfl rfl ?_ | refine o_leq rfl rfl ?_ | refine o_gtr rfl rfl ?_ | refine o_geq rfl rfl ?_ | refine o_eql rfl rfl ?_ | refine o_neq rfl rfl ?_ | refine o_neqs rfl rfl ?_ | refine o_not rfl ?_ | refine o_eqb rfl rfl ?_ | refine o_neg rfl ?_ | refine o_len_lst rfl ?_ | refine o_len_sl rfl ?_ | refine o_len_nil rfl ?_ | refine o_len_str rfl ?_ | refine o_faddr_ref rfl ?_ | refine o_faddr_iptr rfl ?_ | refine o_alloc rfl ?_ | refine o_box rfl rfl ?_ | refine o_mkmap ?_ | refine o_load_iptr rfl rfl ?_ | refine o_load_ref rfl (by repeat (first | exact lk_here _ _ _ | assumption | refine lk_skip (by omega) ?_ | refine lk_updS (by omega) ?_ | refine lk_rmS (by omega) ?_ | refine lk_normS ?_ | exact lk_updH (by repeat (first | exact lk_here _ _ _ | assumption | refine lk_skip (by omega) ?_ | refine lk_updS (by omega) ?_ | refine lk_rmS (by omega) ?_ | refine lk_normS ?_ | exact lk_updH (by repeat (first | exact lk_here _ _ _ | assumption | refine lk_skip (by omega) ?_ | refine lk_updS (by omega) ?_ | refine lk_rmS (by omega) ?_ | refine lk_normS ?_)))))) (by rfl) ?_ | refine o_extract rfl rfl ?_ | refine o_mkfn ?_ | refine o_store_top rfl rfl rfl rfl rfl rfl (by omega) ?_ | refine o_nilChk_ref rfl ?_ | refine c_true rfl (by first | rfl | assumption) ?_ | refine c_false rfl (by first | rfl | assumption) ?_ | refine c_cond rfl (fun hg => ?_) (fun hg => ?_))
    · have hlt : i < n := by simpa using hg
      clear hg
      have e1 := hL (by omega)
      have e2 := hM (by omega)
      subst e1
      subst e2
      refine numCmp hm n hn _ _ F G hF hG rowF rowG heq i hlt ?_ (fun E' s' hA => ?_)
      · exact ⟨rfl, rfl, rfl, rfl, rfl, rfl, trivial⟩
      · obtain ⟨E0, rfl⟩ : ∃ E0, E' = puts E0 _ := ⟨_, puts_ex hA⟩
        clear hA
        repeat' (first | refine c_seq hm ?_ | refine c_region ?_ | refine o_nil ?_ | refine q_c ?_ | refine c_skip ?_ | refine c_ret ?_ | refine c_exit ?_ | refine c_scope ?_ | refine c_block hm ?_ | refine q_ret ?_ | refine q_exit ?_ | refine b_nrm ?_ | refine b_ret ?_ | refine b_hit ?_ | refine b_miss (by decide) ?_ | refine l_ret ?_ | refine l_exit ?_ | refine o_mv rfl ?_ | refine g_yes rfl (by first | rfl | assumption) ?_ | refine g_no rfl (by first | rfl | assumption) ?_ | refine o_pick_t rfl (by first | rfl | assumption) rfl ?_ | refine o_pick_f rfl (by first | rfl | assumption) rfl ?_ | refine o_lss rfl rfl ?_ | refine o_leq rfl rfl ?_ | refine o_gtr rfl rfl ?_ | refine o_geq rfl rfl ?_ | refine o_eql rfl rfl ?_ | refine o_neq rfl rfl ?_ | refine o_neqs rfl rfl ?_ | refine o_not rfl ?_ | refine o_eqb rfl rfl ?_ | refine o_neg rfl ?_ | refine o_len_lst rfl ?_ | refine o_len_sl rfl ?_ | refine o_len_nil rfl ?_ | refine o_len_str rfl ?_ | refine o_faddr_ref rfl ?_ | refine o_faddr_iptr rfl ?_ | refine o_alloc rfl ?_ | refine o_box rfl rfl ?_ | refine o_mkmap ?_ | refine o_load_iptr rfl rfl ?_ | refine o_load_ref rfl (by repeat (first | exact lk_here _ _ _ | assumption | refine lk_skip (by omega) ?_ | refine lk_updS (by omega) ?_ | refine lk_rmS (by omega) ?_ | refine lk_normS ?_ | exact lk_updH (by repeat (first | exact lk_here _ _ _ | assumption | refine lk_skip (by omega) ?_ | refine lk_updS (by omega) ?_ | refine lk_rmS (by omega) ?_ | refine lk_normS ?_ | exact lk_updH (by repeat (first | exact lk_here _ _ _ | assumption | refine lk_skip (by omega) ?_ | refine lk_updS (by omega) ?_ | refine lk_rmS (by omega) ?_ | refine lk_normS ?_)))))) (by rfl) ?_ | refine o_extract rfl rfl ?_ | refine o_mkfn ?_ | refine o_store_top rfl rfl rfl rfl rfl rfl (by omega) ?_ | refine o_nilChk_ref rfl ?_ | refine c_true rfl (by first | rfl | assumption) ?_ | refine c_false rfl (by first | rfl | assumption) ?_ | refine g_split rfl (fun hg => ?_) (fun hg => ?_) | refine c_cond rfl (fun hg => ?_) (fun hg => ?_))
        refine o_inc rfl (by omega) ?_
        repeat' (first | refine c_seq hm ?_ | refine c_region ?_ | refine o_nil ?_ | refine q_c ?_ | refine c_skip ?_ | refine c_ret ?_ | refine c_exit ?_ | refine c_scope ?_ | refine c_block hm ?_ | refine q_ret ?_ | refine q_exit ?_ | refine b_nrm ?_ | refine b_ret ?_ | refine b_hit ?_ | refine b_miss (by decide) ?_ | refine l_ret ?_ | refine l_exit ?_ | refine o_mv rfl ?_ | refine g_yes rfl (by first | rfl | assumption) ?_ | refine g_no rfl (by first | rfl | assumption) ?_ | refine o_pick_t rfl (by first | rfl | assumption) rfl ?_ | refine o_pick_f rfl (by first | rfl | assumption) rfl ?_ | refine o_lss rfl rfl ?_ | refine o_leq rfl rfl ?_ | refine o_gtr rfl rfl ?_ | refine o_geq rfl rfl ?_ | refine o_eql rfl rfl ?_ | refine o_neq rfl rfl ?_ | refine o_neqs rfl rfl ?_ | refine o_not rfl ?_ | refine o_eqb rfl rfl ?_ | refine o_neg rfl ?_ | refine o_len_lst rfl ?_ | refine o_len_sl rfl ?_ | refine o_len_nil rfl ?_ | refine o_len_str rfl ?_ | refine o_faddr_ref rfl ?_ | refine o_faddr_iptr rfl ?_ | refine o_alloc rfl ?_ | refine o_box rfl rfl ?_ | refine o_mkmap ?_ | refine o_load_iptr rfl rfl ?_ | refine o_load_ref rfl (by repeat (first | exact lk_here _ _ _ | assumption | refine lk_skip (by omega) ?_ | refine lk_updS (by omega) ?_ | refine lk_rmS (by omega) ?_ | refine lk_normS ?_ | exact lk_updH (by repeat (first | exact lk_here _ _ _ | assumption | refine lk_skip (by omega) ?_ | refine lk_updS (by omega) ?_ | refine lk_rmS (by omega) ?_ | refine lk_normS ?_ | exact lk_updH (by repeat (first | exact lk_here _ _ _ | assumption | refine lk_skip (by omega) ?_ | refine lk_updS (by omega) ?_ | refine lk_rmS (by omega) ?_ | refine lk_normS ?_)))))) (by rfl) ?_ | refine o_extract rfl rfl ?_ | refine o_mkfn ?_ | refine o_store_top rfl rfl rfl rfl rfl rfl (by omega) ?_ | refine o_nilChk_ref rfl ?_ | refine c_true rfl (by first | rfl | assumption) ?_ | refine c_false rfl (by first | rfl | assumption) ?_ | refine g_split rfl (fun hg => ?_) (fun hg => ?_) | refine c_cond rfl (fun hg => ?_) (fun hg => ?_))
        exact l_nrm (n - (i + 1)) (by omega) ⟨i + 1, _, rfl, hlt, puts_ex ⟨rfl, rfl, rfl, rfl, rfl, trivial⟩⟩
    · exact hQ _ _ rfl
end K36
set_option maxRecDepth 100000
set_option maxHeartbeats 2000000
set_option linter.unusedVariables false
set_option linter.unusedSimpArgs false
namespace K36
open Go Go.Ai

theorem fits_turned {q : Qry} (h : q.Fits) : q.turned.Fits := by
  refine ⟨by rw [turned_len]; exact h.a, h.c, fun i => ?_⟩
  by_cases hi : i < q.atoms.length
  · have := turned_at hi
    show (q.turned.at i).cols.length < 2 ^ 63 ∧ (q.turned.at i).terms.length < 2 ^ 63
    rw [this]
    have := h.l (q.atoms.length - 1 - i)
    exact ⟨this.1, by simp only [Atm.turned, List.length_map]; exact this.2⟩
  · have : q.turned.atoms.getD i default = default := by
      rw [List.getD_eq_getElem?_getD, List.getElem?_eq_none (by rw [turned_len]; omega)]
      rfl
    rw [this]
    exact ⟨by decide, by decide⟩
theorem bounds {q : Qry} (h : q.ok = true) (hf : q.Fits) : (0 ≤ q.vars ∧ q.vars ≤ 240) ∧ (∀ i, i < q.atoms.length → ∀ t ∈ (q.at i).terms, -300 ≤ t) ∧ ∀ i, i < q.atoms.length → 0 < (q.at i).terms.length := by
  obtain ⟨hH, hC, hp⟩ := ok_parts h
  simp only [Qry.badH, Bool.or_eq_false_iff, decide_eq_false_iff_not] at hH
  refine ⟨by omega, fun i hi t ht => ?_, fun i hi => ?_⟩
  · obtain ⟨-, hL, hT⟩ := hp i hi
    obtain ⟨k, hk, rfl⟩ := List.mem_iff_getElem.1 ht
    simp only [Atm.badL, Bool.or_eq_false_iff, bne_eq_false_iff_eq] at hL
    have hlen := hL.2.2.1
    have := hT k (by omega)
    simp only [Qry.badT, Bool.or_eq_false_iff, decide_eq_false_iff_not] at this
    have h2 := this.2.2.2
    have hw : IntKind.i64.wrap (0 - (q.consts.length : Int)) = 0 - (q.consts.length : Int) := Go.IntWalk.i64_in _ (by constructor <;> omega)
    rw [getD_lt hk, hw] at h2
    omega
  · obtain ⟨-, hL, -⟩ := hp i hi
    simp only [Atm.badL, Bool.or_eq_false_iff, beq_eq_false_iff_ne, bne_eq_false_iff_eq] at hL
    omega

theorem law4 {cl : Cl} (hm : MonoQ cl) (hle : LeCl (callL ir) cl) (hhead : ∀ s, At cl 9 [] s (B true)) (q : Qry) (hq0 : q.Fits) : bodyM cl i4 [q.enc] ⟨[], 0, 0⟩ fun o s' => o = .ret (B true) ∧ Same ⟨[], 0, 0⟩ s' := by
  refine body_seal hm (args' := [q.enc]) (H1 := []) rfl rfl rfl rfl rfl ?_
  show CodeR _ 190 c4 _ _ _
  unfold c4
  repeat' (first | refine c_seq hm ?_ | refine c_region ?_ | refine o_nil ?_ | refine q_c ?_ | refine c_skip ?_ | refine c_ret ?_ | refine c_exit ?_ | refine c_scope ?_ | refine c_block hm ?_ | refine q_ret ?_ | refine q_exit ?_ | refine b_nrm ?_ | refine b_ret ?_ | refine b_hit ?_ | refine b_miss (by decide) ?_ | refine l_ret ?_ | refine l_exit ?_ | refine o_mv rfl ?_ | refine g_yes rfl (by first | rfl | assumption) ?_ | refine g_no rfl (by first | rfl | assumption) ?_ | refine o_pick_t rfl (by first | rfl | assumption) rfl ?_ | refine o_pick_f rfl (by first | rfl | assumption) rfl ?_ | refine o_lss rfl rfl ?_ | refine o_leq rfl rfl ?_ | refine o_gtr rfl rfl ?_ | refine o_geq rfl rfl ?_ | refine o_eql rfl rfl ?_ | refine o_neq rfl rfl ?_ | refine o_neqs rfl rfl ?_ | refine o_not rfl ?_ | refine o_eqb rfl rfl ?_ | refine o_neg rfl ?_ | refine o_len_lst rfl ?_ | refine o_len_sl rfl ?_ | refine o_len_nil rfl ?_ | refine o_len_str rfl ?_ | refine o_faddr_ref rfl ?_ | refine o_faddr_iptr rfl ?_ | refine o_alloc rfl ?_ | refine o_box rfl rfl ?_ | refine o_mkmap ?_ | refine o_load_iptr rfl rfl ?_ | refine o_load_ref rfl (by repeat (first | exact lk_here _ _ _ | assumption | refine lk_skip (by omega) ?_ | refine lk_updS (by omega) ?_ | refine lk_rmS (by omega) ?_ | refine lk_normS ?_ | exact lk_updH (by repeat (first | exact lk_here _ _ _ | assumption | refine lk_skip (by omega) ?_ | refine lk_updS (by omega) ?_ | refine lk_rmS (by omega) ?_ | refine lk_normS ?_ | exact lk_updH (by repeat (first | exact lk_here _ _ _ | assumption | refine lk_skip (by omega) ?_ | refine lk_updS (by omega) ?_ | refine lk_rmS (by omega) ?_ | refine lk_normS ?_)))))) (by rfl) ?_ | refine o_extract rfl rfl ?_ | refine o_mkfn ?_ | refine o_store_top rfl rfl rfl rfl rfl rfl (by omega) ?_ | refine o_nilChk_ref rfl ?_ | refine c_true rfl (by first | rfl | assumption) ?_ | refine c_false rfl (by first | rfl | assumption) ?_ | refine g_split rfl (fun hg => ?_) (fun hg => ?_) | refine c_cond rfl (fun hg => ?_) (fun hg => ?_))
  refine o_at (args := []) hm rfl (hhead _) (fun n1 hn1 => ?_)
  repeat' (first | refine c_seq hm ?_ | refine c_region ?_ | refine o_nil ?_ | refine q_c ?_ | refine c_skip ?_ | refine c_ret ?_ | refine c_exit ?_ | refine c_scope ?_ | refine c_block hm ?_ | refine q_ret ?_ | refine q_exit ?_ | refine b_nrm ?_ | refine b_ret ?_ | refine b_hit ?_ | refine b_miss (by decide) ?_ | refine l_ret ?_ | refine l_exit ?_ | refine o_mv rfl ?_ | refine g_yes rfl (by first | rfl | assumption) ?_ | refine g_no rfl (by first | rfl | assumption) ?_ | refine o_pick_t rfl (by first | rfl | assumption) rfl ?_ | refine o_pick_f rfl (by first | rfl | assumption) rfl ?_ | refine o_lss rfl rfl ?_ | refine o_leq rfl rfl ?_ | refine o_gtr rfl rfl ?_ | refine o_geq rfl rfl ?_ | refine o_eql rfl rfl ?_ | refine o_neq rfl rfl ?_ | refine o_neqs rfl rfl ?_ | refine o_not rfl ?_ | refine o_eqb rfl rfl ?_ | refine o_neg rfl ?_ | refine o_len_lst rfl ?_ | refine o_len_sl rfl ?_ | refine o_len_nil rfl ?_ | refine o_len_str rfl ?_ | refine o_faddr_ref rfl ?_ | refine o_faddr_iptr rfl ?_ | refine o_alloc rfl ?_ | refine o_box rfl rfl ?_ | refine o_mkmap ?_ | refine o_load_iptr rfl rfl ?_ | refine o_load_ref rfl (by repeat (first | exact lk_here _ _ _ | assumption | refine lk_skip (by omega) ?_ | refine lk_updS (by omega) ?_ | refine lk_rmS (by omega) ?_ | refine lk_normS ?_ | exact lk_updH (by repeat (first | exact lk_here _ _ _ | assumption | refine lk_skip (by omega) ?_ | refine lk_updS (by omega) ?_ | refine lk_rmS (by omega) ?_ | refine lk_normS ?_ | exact lk_updH (by repeat (first | exact lk_here _ _ _ | assumption | refine lk_skip (by omega) ?_ | refine lk_updS (by omega) ?_ | refine lk_rmS (by omega) ?_ | refine lk_normS ?_)))))) (by rfl) ?_ | refine o_extract rfl rfl ?_ | refine o_mkfn ?_ | refine o_store_top rfl rfl rfl rfl rfl rfl (by omega) ?_ | refine o_nilChk_ref rfl ?_ | refine c_true rfl (by first | rfl | assumption) ?_ | refine c_false rfl (by first | rfl | assumption) ?_ | refine g_split rfl (fun hg => ?_) (fun hg => ?_) | refine c_cond rfl (fun hg => ?_) (fun hg => ?_))
  refine o_at (args := [q.enc, I64 8]) hm rfl (hle _ _ _ _ (few10 q hq0 _)) (fun n2 hn2 => ?_)
  repeat' (first | refine c_seq hm ?_ | refine c_region ?_ | refine o_nil ?_ | refine q_c ?_ | refine c_skip ?_ | refine c_ret ?_ | refine c_exit ?_ | refine c_scope ?_ | refine c_block hm ?_ | refine q_ret ?_ | refine q_exit ?_ | refine b_nrm ?_ | refine b_ret ?_ | refine b_hit ?_ | refine b_miss (by decide) ?_ | refine l_ret ?_ | refine l_exit ?_ | refine o_mv rfl ?_ | refine g_yes rfl (by first | rfl | assumption) ?_ | refine g_no rfl (by first | rfl | assumption) ?_ | refine o_pick_t rfl (by first | rfl | assumption) rfl ?_ | refine o_pick_f rfl (by first | rfl | assumption) rfl ?_ | refine o_lss rfl rfl ?_ | refine o_leq rfl rfl ?_ | refine o_gtr rfl rfl ?_ | refine o_geq rfl rfl ?_ | refine o_eql rfl rfl ?_ | refine o_neq rfl rfl ?_ | refine o_neqs rfl rfl ?_ | refine o_not rfl ?_ | refine o_eqb rfl rfl ?_ | refine o_neg rfl ?_ | refine o_len_lst rfl ?_ | refine o_len_sl rfl ?_ | refine o_len_nil rfl ?_ | refine o_len_str rfl ?_ | refine o_faddr_ref rfl ?_ | refine o_faddr_iptr rfl ?_ | refine o_alloc rfl ?_ | refine o_box rfl rfl ?_ | refine o_mkmap ?_ | refine o_load_iptr rfl rfl ?_ | refine o_load_ref rfl (by repeat (first | exact lk_here _ _ _ | assumption | refine lk_skip (by omega) ?_ | refine lk_updS (by omega) ?_ | refine lk_rmS (by omega) ?_ | refine lk_normS ?_ | exact lk_updH (by repeat (first | exact lk_here _ _ _ | assumption | refine lk_skip (by omega) ?_ | refine lk_updS (by omega) ?_ | refine lk_rmS (by omega) ?_ | refine lk_normS ?_ | exact lk_updH (by repeat (first | exact lk_here _ _ _ | assumption | refine lk_skip (by omega) ?_ | refine lk_updS (by omega) ?_ | refine lk_rmS (by omega) ?_ | refine lk_normS ?_)))))) (by rfl) ?_ | refine o_extract rfl rfl ?_ | refine o_mkfn ?_ | refine o_store_top rfl rfl rfl rfl rfl rfl (by omega) ?_ | refine o_nilChk_ref rfl ?_ | refine c_true rfl (by first | rfl | assumption) ?_ | refine c_false rfl (by first | rfl | assumption) ?_ | refine g_split rfl (fun hg => ?_) (fun hg => ?_) | refine c_cond rfl (fun hg => ?_) (fun hg => ?_))
  · refine o_at (args := [q.enc]) hm rfl (hle _ _ _ _ (valid11 q hq0 _)) (fun n3 hn3 => ?_)
    repeat' (first | refine c_seq hm ?_ | refine c_region ?_ | refine o_nil ?_ | refine q_c ?_ | refine c_skip ?_ | refine c_ret ?_ | refine c_exit ?_ | refine c_scope ?_ | refine c_block hm ?_ | refine q_ret ?_ | refine q_exit ?_ | refine b_nrm ?_ | refine b_ret ?_ | refine b_hit ?_ | refine b_miss (by decide) ?_ | refine l_ret ?_ | refine l_exit ?_ | refine o_mv rfl ?_ | refine g_yes rfl (by first | rfl | assumption) ?_ | refine g_no rfl (by first | rfl | assumption) ?_ | refine o_pick_t rfl (by first | rfl | assumption) rfl ?_ | refine o_pick_f rfl (by first | rfl | assumption) rfl ?_ | refine o_lss rfl rfl ?_ | refine o_leq rfl rfl ?_ | refine o_gtr rfl rfl ?_ | refine o_geq rfl rfl ?_ | refine o_eql rfl rfl ?_ | refine o_neq rfl rfl ?_ | refine o_neqs rfl rfl ?_ | refine o_not rfl ?_ | refine o_eqb rfl rfl ?_ | refine o_neg rfl ?_ | refine o_len_lst rfl ?_ | refine o_len_sl rfl ?_ | refine o_len_nil rfl ?_ | refine o_len_str rfl ?_ | refine o_faddr_ref rfl ?_ | refine o_faddr_iptr rfl ?_ | refine o_alloc rfl ?_ | refine o_box rfl rfl ?_ | refine o_mkmap ?_ | refine o_load_iptr rfl rfl ?_ | refine o_load_ref rfl (by repeat (first | exact lk_here _ _ _ | assumption | refine lk_skip (by omega) ?_ | refine lk_updS (by omega) ?_ | refine lk_rmS (by omega) ?_ | refine lk_normS ?_ | exact lk_updH (by repeat (first | exact lk_here _ _ _ | assumption | refine lk_skip (by omega) ?_ | refine lk_updS (by omega) ?_ | refine lk_rmS (by omega) ?_ | refine lk_normS ?_ | exact lk_updH (by repeat (first | exact lk_here _ _ _ | assumption | refine lk_skip (by omega) ?_ | refine lk_updS (by omega) ?_ | refine lk_rmS (by omega) ?_ | refine lk_normS ?_)))))) (by rfl) ?_ | refine o_extract rfl rfl ?_ | refine o_mkfn ?_ | refine o_store_top rfl rfl rfl rfl rfl rfl (by omega) ?_ | refine o_nilChk_ref rfl ?_ | refine c_true rfl (by first | rfl | assumption) ?_ | refine c_false rfl (by first | rfl | assumption) ?_ | refine g_split rfl (fun hg => ?_) (fun hg => ?_) | refine c_cond rfl (fun hg => ?_) (fun hg => ?_))
    · exact e_end ⟨Or.inr rfl, rfl, Nat.zero_le _⟩
    · have hok : q.ok = true := by simpa using hg
      have gd := good_of hok
      have hal := gd.a
      obtain ⟨hv, hlow, hpos⟩ := bounds hok hq0
      have hbl := below_of hok
      refine o_build (cs := [I64 q.vars, .lst (q.consts.map Val3.enc), .raw (.slice none 0 0)]) (by rfl) rfl ?_
      repeat' (first | refine c_seq hm ?_ | refine c_region ?_ | refine o_nil ?_ | refine q_c ?_ | refine c_skip ?_ | refine c_ret ?_ | refine c_exit ?_ | refine c_scope ?_ | refine c_block hm ?_ | refine q_ret ?_ | refine q_exit ?_ | refine b_nrm ?_ | refine b_ret ?_ | refine b_hit ?_ | refine b_miss (by decide) ?_ | refine l_ret ?_ | refine l_exit ?_ | refine o_mv rfl ?_ | refine g_yes rfl (by first | rfl | assumption) ?_ | refine g_no rfl (by first | rfl | assumption) ?_ | refine o_pick_t rfl (by first | rfl | assumption) rfl ?_ | refine o_pick_f rfl (by first | rfl | assumption) rfl ?_ | refine o_lss rfl rfl ?_ | refine o_leq rfl rfl ?_ | refine o_gtr rfl rfl ?_ | refine o_geq rfl rfl ?_ | refine o_eql rfl rfl ?_ | refine o_neq rfl rfl ?_ | refine o_neqs rfl rfl ?_ | refine o_not rfl ?_ | refine o_eqb rfl rfl ?_ | refine o_neg rfl ?_ | refine o_len_lst rfl ?_ | refine o_len_sl rfl ?_ | refine o_len_nil rfl ?_ | refine o_len_str rfl ?_ | refine o_faddr_ref rfl ?_ | refine o_faddr_iptr rfl ?_ | refine o_alloc rfl ?_ | refine o_box rfl rfl ?_ | refine o_mkmap ?_ | refine o_load_iptr rfl rfl ?_ | refine o_load_ref rfl (by repeat (first | exact lk_here _ _ _ | assumption | refine lk_skip (by omega) ?_ | refine lk_updS (by omega) ?_ | refine lk_rmS (by omega) ?_ | refine lk_normS ?_ | exact lk_updH (by repeat (first | exact lk_here _ _ _ | assumption | refine lk_skip (by omega) ?_ | refine lk_updS (by omega) ?_ | refine lk_rmS (by omega) ?_ | refine lk_normS ?_ | exact lk_updH (by repeat (first | exact lk_here _ _ _ | assumption | refine lk_skip (by omega) ?_ | refine lk_updS (by omega) ?_ | refine lk_rmS (by omega) ?_ | refine lk_normS ?_)))))) (by rfl) ?_ | refine o_extract rfl rfl ?_ | refine o_mkfn ?_ | refine o_store_top rfl rfl rfl rfl rfl rfl (by omega) ?_ | refine o_nilChk_ref rfl ?_ | refine c_true rfl (by first | rfl | assumption) ?_ | refine c_false rfl (by first | rfl | assumption) ?_ | refine g_split rfl (fun hg => ?_) (fun hg => ?_) | refine c_cond rfl (fun hg => ?_) (fun hg => ?_))
      refine o_sub (u := q.atoms.length) (v := 1) (by rw [← len_encA]; rfl) rfl (by omega) (by omega) ?_
      repeat' (first | refine c_seq hm ?_ | refine c_region ?_ | refine o_nil ?_ | refine q_c ?_ | refine c_skip ?_ | refine c_ret ?_ | refine c_exit ?_ | refine c_scope ?_ | refine c_block hm ?_ | refine q_ret ?_ | refine q_exit ?_ | refine b_nrm ?_ | refine b_ret ?_ | refine b_hit ?_ | refine b_miss (by decide) ?_ | refine l_ret ?_ | refine l_exit ?_ | refine o_mv rfl ?_ | refine g_yes rfl (by first | rfl | assumption) ?_ | refine g_no rfl (by first | rfl | assumption) ?_ | refine o_pick_t rfl (by first | rfl | assumption) rfl ?_ | refine o_pick_f rfl (by first | rfl | assumption) rfl ?_ | refine o_lss rfl rfl ?_ | refine o_leq rfl rfl ?_ | refine o_gtr rfl rfl ?_ | refine o_geq rfl rfl ?_ | refine o_eql rfl rfl ?_ | refine o_neq rfl rfl ?_ | refine o_neqs rfl rfl ?_ | refine o_not rfl ?_ | refine o_eqb rfl rfl ?_ | refine o_neg rfl ?_ | refine o_len_lst rfl ?_ | refine o_len_sl rfl ?_ | refine o_len_nil rfl ?_ | refine o_len_str rfl ?_ | refine o_faddr_ref rfl ?_ | refine o_faddr_iptr rfl ?_ | refine o_alloc rfl ?_ | refine o_box rfl rfl ?_ | refine o_mkmap ?_ | refine o_load_iptr rfl rfl ?_ | refine o_load_ref rfl (by repeat (first | exact lk_here _ _ _ | assumption | refine lk_skip (by omega) ?_ | refine lk_updS (by omega) ?_ | refine lk_rmS (by omega) ?_ | refine lk_normS ?_ | exact lk_updH (by repeat (first | exact lk_here _ _ _ | assumption | refine lk_skip (by omega) ?_ | refine lk_updS (by omega) ?_ | refine lk_rmS (by omega) ?_ | refine lk_normS ?_ | exact lk_updH (by repeat (first | exact lk_here _ _ _ | assumption | refine lk_skip (by omega) ?_ | refine lk_updS (by omega) ?_ | refine lk_rmS (by omega) ?_ | refine lk_normS ?_)))))) (by rfl) ?_ | refine o_extract rfl rfl ?_ | refine o_mkfn ?_ | refine o_store_top rfl rfl rfl rfl rfl rfl (by omega) ?_ | refine o_nilChk_ref rfl ?_ | refine c_true rfl (by first | rfl | assumption) ?_ | refine c_false rfl (by first | rfl | assumption) ?_ | refine g_split rfl (fun hg => ?_) (fun hg => ?_) | refine c_cond rfl (fun hg => ?_) (fun hg => ?_))
      refine numOut hm q gd hbl hv hlow hpos 0 n3 ?_ (by repeat (first | exact lk_here _ _ _ | assumption | refine lk_skip (by omega) ?_ | refine lk_updS (by omega) ?_ | refine lk_rmS (by omega) ?_ | refine lk_normS ?_ | exact lk_updH (by repeat (first | exact lk_here _ _ _ | assumption | refine lk_skip (by omega) ?_ | refine lk_updS (by omega) ?_ | refine lk_rmS (by omega) ?_ | refine lk_normS ?_ | exact lk_updH (by repeat (first | exact lk_here _ _ _ | assumption | refine lk_skip (by omega) ?_ | refine lk_updS (by omega) ?_ | refine lk_rmS (by omega) ?_ | refine lk_normS ?_)))))) (by first | omega | (dsimp only at *; omega)) (by omega) (by first | omega | (dsimp only at *; omega)) (Nat.zero_le _) (by repeat (first | exact lk_here _ _ _ | assumption | refine lk_skip (by omega) ?_ | refine lk_updS (by omega) ?_ | refine lk_rmS (by omega) ?_ | refine lk_normS ?_ | exact lk_updH (by repeat (first | exact lk_here _ _ _ | assumption | refine lk_skip (by omega) ?_ | refine lk_updS (by omega) ?_ | refine lk_rmS (by omega) ?_ | refine lk_normS ?_ | exact lk_updH (by repeat (first | exact lk_here _ _ _ | assumption | refine lk_skip (by omega) ?_ | refine lk_updS (by omega) ?_ | refine lk_rmS (by omega) ?_ | refine lk_normS ?_)))))) ?_
      · exact ⟨rfl, rfl, by rw [← len_encA]; rfl, rfl, rfl, trivial⟩
      intro E' H4 n4 X as hA hn4 hasl hasm htb hfr hX hnm
      obtain ⟨E1, rfl⟩ : ∃ E1, E' = puts E1 _ := ⟨_, puts_ex hA⟩
      clear hA
      have hok' := ok_turned hok
      have hq0' := fits_turned hq0
      have hq4 : lk H4 0 = some (.cells q.cells 25 0) := by
        rw [hfr 0 (by first | omega | (dsimp only at *; omega)) (by first | omega | (dsimp only at *; omega))]
        repeat (first | exact lk_here _ _ _ | assumption | refine lk_skip (by omega) ?_ | refine lk_updS (by omega) ?_ | refine lk_rmS (by omega) ?_ | refine lk_normS ?_ | exact lk_updH (by repeat (first | exact lk_here _ _ _ | assumption | refine lk_skip (by omega) ?_ | refine lk_updS (by omega) ?_ | refine lk_rmS (by omega) ?_ | refine lk_normS ?_ | exact lk_updH (by repeat (first | exact lk_here _ _ _ | assumption | refine lk_skip (by omega) ?_ | refine lk_updS (by omega) ?_ | refine lk_rmS (by omega) ?_ | refine lk_normS ?_)))))
      have h12 : ∀ p ∈ as, p.2.terms.length < 50 := by
        intro p hp
        have hmem : p.2 ∈ q.turned.atoms := by rw [← hasm]; exact List.mem_map.2 ⟨p, hp, rfl⟩
        obtain ⟨j, hj, hje⟩ := List.mem_iff_getElem.1 hmem
        have := (good_of hok').l j hj
        rw [show q.turned.at j = p.2 by simp [Qry.at, hj, hje]] at this
        omega
      repeat' (first | refine c_seq hm ?_ | refine c_region ?_ | refine o_nil ?_ | refine q_c ?_ | refine c_skip ?_ | refine c_ret ?_ | refine c_exit ?_ | refine c_scope ?_ | refine c_block hm ?_ | refine q_ret ?_ | refine q_exit ?_ | refine b_nrm ?_ | refine b_ret ?_ | refine b_hit ?_ | refine b_miss (by decide) ?_ | refine l_ret ?_ | refine l_exit ?_ | refine o_mv rfl ?_ | refine g_yes rfl (by first | rfl | assumption) ?_ | refine g_no rfl (by first | rfl | assumption) ?_ | refine o_pick_t rfl (by first | rfl | assumption) rfl ?_ | refine o_pick_f rfl (by first | rfl | assumption) rfl ?_ | refine o_lss rfl rfl ?_ | refine o_leq rfl rfl ?_ | refine o_gtr rfl rfl ?_ | refine o_geq rfl rfl ?_ | refine o_eql rfl rfl ?_ | refine o_neq rfl rfl ?_ | refine o_neqs rfl rfl ?_ | refine o_not rfl ?_ | refine o_eqb rfl rfl ?_ | refine o_neg rfl ?_ | refine o_len_lst rfl ?_ | refine o_len_sl rfl ?_ | refine o_len_nil rfl ?_ | refine o_len_str rfl ?_ | refine o_faddr_ref rfl ?_ | refine o_faddr_iptr rfl ?_ | refine o_alloc rfl ?_ | refine o_box rfl rfl ?_ | refine o_mkmap ?_ | refine o_load_iptr rfl rfl ?_ | refine o_load_ref rfl (by repeat (first | exact lk_here _ _ _ | assumption | refine lk_skip (by omega) ?_ | refine lk_updS (by omega) ?_ | refine lk_rmS (by omega) ?_ | refine lk_normS ?_ | exact lk_updH (by repeat (first | exact lk_here _ _ _ | assumption | refine lk_skip (by omega) ?_ | refine lk_updS (by omega) ?_ | refine lk_rmS (by omega) ?_ | refine lk_normS ?_ | exact lk_updH (by repeat (first | exact lk_here _ _ _ | assumption | refine lk_skip (by omega) ?_ | refine lk_updS (by omega) ?_ | refine lk_rmS (by omega) ?_ | refine lk_normS ?_)))))) (by rfl) ?_ | refine o_extract rfl rfl ?_ | refine o_mkfn ?_ | refine o_store_top rfl rfl rfl rfl rfl rfl (by omega) ?_ | refine o_nilChk_ref rfl ?_ | refine c_true rfl (by first | rfl | assumption) ?_ | refine c_false rfl (by first | rfl | assumption) ?_ | refine g_split rfl (fun hg => ?_) (fun hg => ?_) | refine c_cond rfl (fun hg => ?_) (fun hg => ?_))
      refine o_callE (P := fun d => ∃ r, d = .tup [r, I64 0] ∧ rowsOf q r) (args := [q.enc]) hm rfl (hle _ _ _ _ (attacks12 q hq0 hok _)) ?_
      rintro d H5 n5 ⟨r, rfl, rows, hrl, hrows, hr⟩ hn5 hfr5
      have hq5 : lk H5 0 = some (.cells q.cells 25 0) := by rw [hfr5 0 (by first | omega | (dsimp only at *; omega))]; exact hq4
      have htb5 : lk H5 n3 = some (.cells [I64 q.vars, .lst (q.consts.map Val3.enc), X] 25 0) := by rw [hfr5 n3 (by first | omega | (dsimp only at *; omega))]; exact htb
      have hX5 : (q.atoms.length = 0 ∧ X = .raw (.slice none 0 0)) ∨ (0 < q.atoms.length ∧ ∃ A, X = .sl A 0 q.atoms.length 4 ∧ A < n5 ∧ ∃ e lo, lk H5 A = some (.cells (as.flatMap fun p => liveA p.1 p.2) e lo)) := by
        rcases hX with h | ⟨h0, A, h1, h2, h3⟩
        · exact Or.inl h
        · exact Or.inr ⟨h0, A, h1, by omega, _, _, by rw [hfr5 A h2]; exact h3⟩
      have hnm5 : ∀ pr ∈ as, pr.1 < n5 ∧ ∃ e lo, lk H5 pr.1 = some (.cells (pr.2.terms.map I64) e lo) := by
        intro pr hp
        obtain ⟨g1, g2⟩ := hnm pr hp
        exact ⟨by omega, _, _, by rw [hfr5 _ g2]; exact g1⟩
      have hn35 : n3 < n5 := by first | omega | (dsimp only at *; omega)
      clear hX hnm hfr5 hfr htb hq4
      repeat' (first | refine c_seq hm ?_ | refine c_region ?_ | refine o_nil ?_ | refine q_c ?_ | refine c_skip ?_ | refine c_ret ?_ | refine c_exit ?_ | refine c_scope ?_ | refine c_block hm ?_ | refine q_ret ?_ | refine q_exit ?_ | refine b_nrm ?_ | refine b_ret ?_ | refine b_hit ?_ | refine b_miss (by decide) ?_ | refine l_ret ?_ | refine l_exit ?_ | refine o_mv rfl ?_ | refine g_yes rfl (by first | rfl | assumption) ?_ | refine g_no rfl (by first | rfl | assumption) ?_ | refine o_pick_t rfl (by first | rfl | assumption) rfl ?_ | refine o_pick_f rfl (by first | rfl | assumption) rfl ?_ | refine o_lss rfl rfl ?_ | refine o_leq rfl rfl ?_ | refine o_gtr rfl rfl ?_ | refine o_geq rfl rfl ?_ | refine o_eql rfl rfl ?_ | refine o_neq rfl rfl ?_ | refine o_neqs rfl rfl ?_ | refine o_not rfl ?_ | refine o_eqb rfl rfl ?_ | refine o_neg rfl ?_ | refine o_len_lst rfl ?_ | refine o_len_sl rfl ?_ | refine o_len_nil rfl ?_ | refine o_len_str rfl ?_ | refine o_faddr_ref rfl ?_ | refine o_faddr_iptr rfl ?_ | refine o_alloc rfl ?_ | refine o_box rfl rfl ?_ | refine o_mkmap ?_ | refine o_load_iptr rfl rfl ?_ | refine o_load_ref rfl (by repeat (first | exact lk_here _ _ _ | assumption | refine lk_skip (by omega) ?_ | refine lk_updS (by omega) ?_ | refine lk_rmS (by omega) ?_ | refine lk_normS ?_ | exact lk_updH (by repeat (first | exact lk_here _ _ _ | assumption | refine lk_skip (by omega) ?_ | refine lk_updS (by omega) ?_ | refine lk_rmS (by omega) ?_ | refine lk_normS ?_ | exact lk_updH (by repeat (first | exact lk_here _ _ _ | assumption | refine lk_skip (by omega) ?_ | refine lk_updS (by omega) ?_ | refine lk_rmS (by omega) ?_ | refine lk_normS ?_)))))) (by rfl) ?_ | refine o_extract rfl rfl ?_ | refine o_mkfn ?_ | refine o_store_top rfl rfl rfl rfl rfl rfl (by omega) ?_ | refine o_nilChk_ref rfl ?_ | refine c_true rfl (by first | rfl | assumption) ?_ | refine c_false rfl (by first | rfl | assumption) ?_ | refine g_split rfl (fun hg => ?_) (fun hg => ?_) | refine c_cond rfl (fun hg => ?_) (fun hg => ?_))
      obtain ⟨H1, hv1, hlw1⟩ := view_X hal h12 hasl hasm (hX5.imp id fun ⟨h0, A, h1, _, h3⟩ => ⟨h0, A, h1, h3⟩) (fun pr hp => (hnm5 pr hp).2)
      refine o_callP (P := fun d s' => (∃ r, d = .tup [r, I64 0] ∧ rowsOf q.turned r) ∧ n5 ≤ s'.nx ∧ s'.ro = 0 ∧ ∀ b, b < n5 → ∀ cs e lo, lk H5 b = some (.cells cs e lo) → ∃ lo', lk s'.H b = some (.cells cs e lo')) (args := [.agg [I64 q.vars, .lst (q.consts.map Val3.enc), X]]) hm rfl
        (hle _ _ _ _ (callL_mono ir _ _ _ _ _ (fun o s' ho => ?_) (call_view (fn := i12) rfl rfl hv1 rfl (attacks12 q.turned hq0' hok' _)))) ?_
      · obtain ⟨s1, ⟨d, rfl, hd, f1, f2, f3⟩, e1, e2, e3⟩ := ho
        refine ⟨d, rfl, hd, by rw [e1]; exact f2, by rw [e2]; exact f1, fun b hb cs e lo hl => ?_⟩
        rcases e3 with e3 | ⟨-, e3⟩
        · obtain ⟨lo', hl'⟩ := hlw1.get hl
          exact ⟨lo', by rw [e3, f3 b hb]; exact hl'⟩
        · exact ⟨lo, by rw [e3]; exact hl⟩
      rintro d ⟨H6, n6, ro6⟩ ⟨⟨r2, rfl, rows2, hrl2, hrows2, hr2⟩, hn6, rfl, hfr6⟩
      dsimp only at hn6 hfr6
      obtain ⟨l1, hq6⟩ := hfr6 0 (by omega) _ _ _ hq5
      obtain ⟨l2, htb6⟩ := hfr6 n3 hn35 _ _ _ htb5
      have hX6 : (q.atoms.length = 0 ∧ X = .raw (.slice none 0 0)) ∨ (0 < q.atoms.length ∧ ∃ A, X = .sl A 0 q.atoms.length 4 ∧ ∃ e lo, lk H6 A = some (.cells (as.flatMap fun p => liveA p.1 p.2) e lo)) := by
        rcases hX5 with h | ⟨h0, A, h1, h2, e, lo, h3⟩
        · exact Or.inl h
        · obtain ⟨lo', h4⟩ := hfr6 A h2 _ _ _ h3
          exact Or.inr ⟨h0, A, h1, e, lo', h4⟩
      have hnm6 : ∀ pr ∈ as, ∃ e lo, lk H6 pr.1 = some (.cells (pr.2.terms.map I64) e lo) := by
        intro pr hp
        obtain ⟨g1, e, lo, g2⟩ := hnm5 pr hp
        obtain ⟨lo', g3⟩ := hfr6 _ g1 _ _ _ g2
        exact ⟨e, lo', g3⟩
      clear hX5 hnm5 hfr6 htb5 hq5 hv1 hlw1
      repeat' (first | refine c_seq hm ?_ | refine c_region ?_ | refine o_nil ?_ | refine q_c ?_ | refine c_skip ?_ | refine c_ret ?_ | refine c_exit ?_ | refine c_scope ?_ | refine c_block hm ?_ | refine q_ret ?_ | refine q_exit ?_ | refine b_nrm ?_ | refine b_ret ?_ | refine b_hit ?_ | refine b_miss (by decide) ?_ | refine l_ret ?_ | refine l_exit ?_ | refine o_mv rfl ?_ | refine g_yes rfl (by first | rfl | assumption) ?_ | refine g_no rfl (by first | rfl | assumption) ?_ | refine o_pick_t rfl (by first | rfl | assumption) rfl ?_ | refine o_pick_f rfl (by first | rfl | assumption) rfl ?_ | refine o_lss rfl rfl ?_ | refine o_leq rfl rfl ?_ | refine o_gtr rfl rfl ?_ | refine o_geq rfl rfl ?_ | refine o_eql rfl rfl ?_ | refine o_neq rfl rfl ?_ | refine o_neqs rfl rfl ?_ | refine o_not rfl ?_ | refine o_eqb rfl rfl ?_ | refine o_neg rfl ?_ | refine o_len_lst rfl ?_ | refine o_len_sl rfl ?_ | refine o_len_nil rfl ?_ | refine o_len_str rfl ?_ | refine o_faddr_ref rfl ?_ | refine o_faddr_iptr rfl ?_ | refine o_alloc rfl ?_ | refine o_box rfl rfl ?_ | refine o_mkmap ?_ | refine o_load_iptr rfl rfl ?_ | refine o_load_ref rfl (by repeat (first | exact lk_here _ _ _ | assumption | refine lk_skip (by omega) ?_ | refine lk_updS (by omega) ?_ | refine lk_rmS (by omega) ?_ | refine lk_normS ?_ | exact lk_updH (by repeat (first | exact lk_here _ _ _ | assumption | refine lk_skip (by omega) ?_ | refine lk_updS (by omega) ?_ | refine lk_rmS (by omega) ?_ | refine lk_normS ?_ | exact lk_updH (by repeat (first | exact lk_here _ _ _ | assumption | refine lk_skip (by omega) ?_ | refine lk_updS (by omega) ?_ | refine lk_rmS (by omega) ?_ | refine lk_normS ?_)))))) (by rfl) ?_ | refine o_extract rfl rfl ?_ | refine o_mkfn ?_ | refine o_store_top rfl rfl rfl rfl rfl rfl (by omega) ?_ | refine o_nilChk_ref rfl ?_ | refine c_true rfl (by first | rfl | assumption) ?_ | refine c_false rfl (by first | rfl | assumption) ?_ | refine g_split rfl (fun hg => ?_) (fun hg => ?_) | refine c_cond rfl (fun hg => ?_) (fun hg => ?_))
      refine o_at (args := [q.enc]) hm rfl (hle _ _ _ _ (first13 q hq0 hok _)) (fun n7 hn7 => ?_)
      repeat' (first | refine c_seq hm ?_ | refine c_region ?_ | refine o_nil ?_ | refine q_c ?_ | refine c_skip ?_ | refine c_ret ?_ | refine c_exit ?_ | refine c_scope ?_ | refine c_block hm ?_ | refine q_ret ?_ | refine q_exit ?_ | refine b_nrm ?_ | refine b_ret ?_ | refine b_hit ?_ | refine b_miss (by decide) ?_ | refine l_ret ?_ | refine l_exit ?_ | refine o_mv rfl ?_ | refine g_yes rfl (by first | rfl | assumption) ?_ | refine g_no rfl (by first | rfl | assumption) ?_ | refine o_pick_t rfl (by first | rfl | assumption) rfl ?_ | refine o_pick_f rfl (by first | rfl | assumption) rfl ?_ | refine o_lss rfl rfl ?_ | refine o_leq rfl rfl ?_ | refine o_gtr rfl rfl ?_ | refine o_geq rfl rfl ?_ | refine o_eql rfl rfl ?_ | refine o_neq rfl rfl ?_ | refine o_neqs rfl rfl ?_ | refine o_not rfl ?_ | refine o_eqb rfl rfl ?_ | refine o_neg rfl ?_ | refine o_len_lst rfl ?_ | refine o_len_sl rfl ?_ | refine o_len_nil rfl ?_ | refine o_len_str rfl ?_ | refine o_faddr_ref rfl ?_ | refine o_faddr_iptr rfl ?_ | refine o_alloc rfl ?_ | refine o_box rfl rfl ?_ | refine o_mkmap ?_ | refine o_load_iptr rfl rfl ?_ | refine o_load_ref rfl (by repeat (first | exact lk_here _ _ _ | assumption | refine lk_skip (by omega) ?_ | refine lk_updS (by omega) ?_ | refine lk_rmS (by omega) ?_ | refine lk_normS ?_ | exact lk_updH (by repeat (first | exact lk_here _ _ _ | assumption | refine lk_skip (by omega) ?_ | refine lk_updS (by omega) ?_ | refine lk_rmS (by omega) ?_ | refine lk_normS ?_ | exact lk_updH (by repeat (first | exact lk_here _ _ _ | assumption | refine lk_skip (by omega) ?_ | refine lk_updS (by omega) ?_ | refine lk_rmS (by omega) ?_ | refine lk_normS ?_)))))) (by rfl) ?_ | refine o_extract rfl rfl ?_ | refine o_mkfn ?_ | refine o_store_top rfl rfl rfl rfl rfl rfl (by omega) ?_ | refine o_nilChk_ref rfl ?_ | refine c_true rfl (by first | rfl | assumption) ?_ | refine c_false rfl (by first | rfl | assumption) ?_ | refine g_split rfl (fun hg => ?_) (fun hg => ?_) | refine c_cond rfl (fun hg => ?_) (fun hg => ?_))
      obtain ⟨H1', hv2, hlw2⟩ := view_X hal h12 hasl hasm hX6 hnm6
      refine o_callP (P := fun d s' => d = .tup [B (noCyc q.turned), I64 0]) (args := [.agg [I64 q.vars, .lst (q.consts.map Val3.enc), X]]) hm rfl
        (hle _ _ _ _ (callL_mono ir _ _ _ _ _ (fun o s' ho => ?_) (call_view (fn := i13) rfl rfl hv2 rfl (first13 q.turned hq0' hok' _)))) ?_
      · obtain ⟨s1, ⟨rfl, -⟩, -⟩ := ho
        exact ⟨_, rfl, rfl⟩
      rintro d s8 rfl
      clear hX6 hnm6 hv2 hlw2 htb6 hq6
      rw [turned_len] at hrl2 hr2
      obtain ⟨F, hF⟩ := rows_fun hrows
      obtain ⟨G, hG⟩ := rows_fun hrows2
      rw [turned_len] at hG
      have rowF : ∀ i, i < q.atoms.length → (rows.map fun r => [r])[i]? = some [.lst ((F i).map fun b => [B b])] := by
        intro i hi
        rw [← (hF i hi).2.2]
        simp [hrl, hi]
      have rowG : ∀ i, i < q.atoms.length → (rows2.map fun r => [r])[i]? = some [.lst ((G i).map fun b => [B b])] := by
        intro i hi
        rw [← (hG i hi).2.2]
        simp [hrl2, hi]
      have heq : ∀ i k i2 k2, i + i2 + 1 = q.atoms.length → k + k2 + 1 = q.atoms.length → (F i).getD k false = (G i2).getD k2 false := by
        intro i k i2 k2 hi hk
        have a1 := (hF i (by omega)).2.1 k (by omega)
        have a2 := (hG i2 (by omega)).2.1 k2 (by omega)
        have a3 := att_turned (q := q) hbl (f := i) (h := k) (by omega) (by omega)
        rw [show q.atoms.length - 1 - i = i2 by omega, show q.atoms.length - 1 - k = k2 by omega] at a3
        exact Bool.eq_iff_iff.2 (a1.trans (a3.symm.trans a2.symm))
      rw [noCyc_turned hbl]
      refine o_mv rfl ?_
      refine o_extract rfl rfl ?_
      refine o_extract rfl rfl ?_
      refine o_mv rfl ?_
      refine o_mv rfl ?_
      refine o_nil ?_
      refine q_c ?_
      refine c_reset [(3, B true), (4, I64 q.atoms.length), (10, r), (11, I64 0), (12, r2), (13, I64 0), (14, B (noCyc q)), (15, I64 0), (16, B (noCyc q)), (17, I64 0)] ⟨rfl, rfl, rfl, rfl, rfl, rfl, rfl, rfl, rfl, rfl, trivial⟩ (fun E0 => ?_)
      refine numTail hm q.atoms.length hal (noCyc q) r r2 rows rows2 F G hr hrl hr2 hrl2 (fun i hi => (hF i hi).1) (fun i hi => (hG i hi).1) rowF rowG heq (fun E' s' h2 => ?_)
      exact e_end ⟨Or.inr rfl, res1 h2, Nat.zero_le _⟩
  all_goals exact e_end ⟨Or.inr rfl, rfl, Nat.zero_le _⟩
end K36
