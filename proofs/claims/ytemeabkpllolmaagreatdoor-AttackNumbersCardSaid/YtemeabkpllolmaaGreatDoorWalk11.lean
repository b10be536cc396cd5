/-
  A part of the walk through the law: what its functions compute. Conditions: none beyond the statement.
-/
import Derived.Test.YtemeabkpllolmaaGreatDoorWalk10
set_option maxRecDepth 100000
set_option maxHeartbeats 4000000
set_option linter.unusedVariables false
set_option linter.unusedSimpArgs false
namespace K36
open Go Go.Ai

def fstC : IC → IC
  | .seq a _ => a
  | c => c
def sndC : IC → IC
  | .seq _ b => b
  | c => c
def innC : IC → IC
  | .block _ b => b
  | .loop b => b
  | c => c
/-- The loops of the law, from outside. -/
def lawL2 : IC := fstC (sndC (sndC (sndC (sndC (sndC (sndC (sndC (sndC (sndC c3)))))))))
def lawB3 : IC := innC (fstC (sndC (innC (innC (sndC lawL2)))))
def lawB5 : IC := innC (fstC (sndC (innC (innC (sndC lawB3)))))
def lawL13 : IC := innC (sndC (sndC lawB5))

theorem loop4 {cl : Cl} (hm : MonoQ cl) (q : Qry) (gd : q.Good) (rows : List D) (F : Nat → List Bool) (hatt : ∀ i k, i < q.atoms.length → k < q.atoms.length → ((F i).getD k false = true ↔ Att q i k))
    (row : ∀ i, i < q.atoms.length → (rows.map fun r => [r])[i]? = some [.lst ((F i).map fun b => [B b])]) (el : ∀ i k, i < q.atoms.length → k < q.atoms.length → ((F i).map fun b => [B b])[k]? = some [B ((F i).getD k false)])
    (i k : Nat) (hlt : i < q.atoms.length) (hlk : k < q.atoms.length) (b6 mu : Bool) {E : Env} {s : St} {Q : Ex × Env → St → Prop} (hE : Agree E [(3, B true), (4, .lst (rows.map fun r => [r])), (6, B b6), (8, I64 (q.atoms.map Atm.enc).length), (9, B mu), (11, I64 i), (12, I64 k), (13, I64 ((0 : Nat) : Int))])
    (hQ : ∀ E' s', Agree E' [(3, B true), (4, .lst (rows.map fun r => [r])), (6, B b6), (8, I64 (q.atoms.map Atm.enc).length), (9, B mu), (11, I64 i), (12, I64 k)] → Q (.nrm, E') s') : CodeR cl 152 lawL13 E s (BlockQ 6 Q) := by
  have hal := gd.a
  have rI := row i hlt
  have rK := row k hlk
  have eIK := el i k hlt hlk
  have eKI := el k i hlk hlt
  show CodeR cl 152 (.loop _) E s _
  refine c_loop hm (fun n E s' => ∃ (m : Nat) (E0 : Env), n = q.atoms.length - m ∧ m ≤ q.atoms.length ∧ E = puts E0 [(3, B true), (4, .lst (rows.map fun r => [r])), (6, B b6), (8, I64 (q.atoms.map Atm.enc).length), (9, B mu), (11, I64 i), (12, I64 k), (13, I64 m)])
    (n0 := q.atoms.length) ⟨0, _, rfl, Nat.zero_le _, puts_ex hE⟩ ?_
  clear hE
  rintro n E s' ⟨m, E0, rfl, hmm, rfl⟩
  repeat' (first | refine c_seq hm ?_ | refine c_region ?_ | refine o_nil ?_ | refine q_c ?_ | refine c_skip ?_ | refine c_ret ?_ | refine c_exit ?_ | refine c_scope ?_ | refine c_block hm ?_ | refine q_ret ?_ | refine q_exit ?_ | refine b_nrm ?_ | refine b_ret ?_ | refine b_hit ?_ | refine b_miss (by decide) ?_ | refine l_ret ?_ | refine l_exit ?_ | refine o_mv rfl ?_ | refine g_yes rfl (by first | rfl | assumption) ?_ | refine g_no rfl (by first | rfl | assumption) ?_ | refine o_pick_t rfl (by first | rfl | assumption) rfl ?_ | refine o_pick_f rfl (by first | rfl | assumption) rfl ?_ | refine o_lss rfl rfl ?_ | refine o_leq rfl rfl ?_ | refine o_gtr rfl rfl ?_ | refine o_geq rfl rfl ?_ | refine o_eql rfl rfl ?_ | refine o_neq rfl rfl ?_ | refine o_neqs rfl rfl ?_ | refine o_not rfl ?_ | refine o_eqb rfl rfl ?_ | refine o_neg rfl ?_ | refine o_len_lst rfl ?_ | refine o_len_sl rfl ?_ | refine o_len_nil rfl ?_ | refine o_len_str rfl ?_ | refine o_faddr_ref rfl ?_ | refine o_faddr_iptr rfl ?_ | refine o_alloc rfl ?_ | refine o_box rfl rfl ?_ | refine o_mkmap ?_ | refine o_load_iptr rfl rfl ?_ | refine o_load_ref rfl (by repeat (first | exact lk_here _ _ _ | assumption | refine lk_skip (by omega) ?_ | refine lk_updS (by omega) ?_ | refine lk_rmS (by omega) ?_ | refine lk_normS ?_ | exact lk_updH (by repeat (first | exact lk_here _ _ _ | assumption | refine lk_skip (by omega) ?_ | refine lk_updS (by omega) ?_ | refine lk_rmS (by omega) ?_ | refine lk_normS ?_ | exact lk_updH (by repeat (first | exact lk_here _ _ _ | assumption | refine lk_skip (by omega) ?_ | refine lk_updS (by omega) ?_ | refine lk_rmS (by omega) ?_ | refine lk_normS ?_)))))) (by rfl) ?_ | refine o_extract rfl rfl ?_ | refine o_mkfn ?_ | refine o_store_top rfl rfl rfl rfl rfl rfl (by omega) ?_ | refine o_nilChk_ref rfl ?_ | refine c_true rfl (by first | rfl | assumption) ?_ | refine c_false rfl (by first | rfl | assumption) ?_ | refine c_cond rfl (fun hg => ?_) (fun hg => ?_))
  · have hlm : m < q.atoms.length := by simpa using hg
    clear hg
    have eIM := el i m hlt hlm
    have eKM := el k m hlk hlm
    have bad : (F i).getD k false = true → (F k).getD m false = true → ((m : Int) != (i : Int)) = true → (!(F i).getD m false) = true → (!(F k).getD i false) = true → False := by
      intro b1 b2 b3 b4 b5
      have hmi : m ≠ i := by
        intro e
        subst e
        simp at b3
      rcases att_trans hlt hlk ((hatt i k hlt hlk).1 b1) ((hatt k m hlk hlm).1 b2) hmi with h | h
      · rw [(hatt i m hlt hlm).2 h] at b4; cases b4
      · rw [(hatt k i hlk hlt).2 h] at b5; cases b5
    repeat' (first | refine c_seq hm ?_ | refine c_region ?_ | refine o_nil ?_ | refine q_c ?_ | refine c_skip ?_ | refine c_ret ?_ | refine c_exit ?_ | refine c_scope ?_ | refine c_block hm ?_ | refine q_ret ?_ | refine q_exit ?_ | refine b_nrm ?_ | refine b_ret ?_ | refine b_hit ?_ | refine b_miss (by decide) ?_ | refine l_ret ?_ | refine l_exit ?_ | refine o_mv rfl ?_ | refine g_yes rfl (by first | rfl | assumption) ?_ | refine g_no rfl (by first | rfl | assumption) ?_ | refine o_pick_t rfl (by first | rfl | assumption) rfl ?_ | refine o_pick_f rfl (by first | rfl | assumption) rfl ?_ | refine o_lss rfl rfl ?_ | refine o_leq rfl rfl ?_ | refine o_gtr rfl rfl ?_ | refine o_geq rfl rfl ?_ | refine o_eql rfl rfl ?_ | refine o_neq rfl rfl ?_ | refine o_neqs rfl rfl ?_ | refine o_not rfl ?_ | refine o_eqb rfl rfl ?_ | refine o_neg rfl ?_ | refine o_len_lst rfl ?_ | refine o_len_sl rfl ?_ | refine o_len_nil rfl ?_ | refine o_len_str rfl ?_ | refine o_faddr_ref rfl ?_ | refine o_faddr_iptr rfl ?_ | refine o_alloc rfl ?_ | refine o_box rfl rfl ?_ | refine o_mkmap ?_ | refine o_load_iptr rfl rfl ?_ | refine o_load_ref rfl (by repeat (first | exact lk_here _ _ _ | assumption | refine lk_skip (by omega) ?_ | refine lk_updS (by omega) ?_ | refine lk_rmS (by omega) ?_ | refine lk_normS ?_ | exact lk_updH (by repeat (first | exact lk_here _ _ _ | assumption | refine lk_skip (by omega) ?_ | refine lk_updS (by omega) ?_ | refine lk_rmS (by omega) ?_ | refine lk_normS ?_ | exact lk_updH (by repeat (first | exact lk_here _ _ _ | assumption | refine lk_skip (by omega) ?_ | refine lk_updS (by omega) ?_ | refine lk_rmS (by omega) ?_ | refine lk_normS ?_)))))) (by rfl) ?_ | refine o_extract rfl rfl ?_ | refine o_mkfn ?_ | refine o_store_top rfl rfl rfl rfl rfl rfl (by omega) ?_ | refine o_nilChk_ref rfl ?_ | refine c_true rfl (by first | rfl | assumption) ?_ | refine c_false rfl (by first | rfl | assumption) ?_ | refine o_iaddr_lst rfl rfl rI rfl ?_ | refine o_iaddr_lst rfl rfl rK rfl ?_ | refine o_iaddr_lst rfl rfl eIK rfl ?_ | refine o_iaddr_lst rfl rfl eKI rfl ?_ | refine o_iaddr_lst rfl rfl eIM rfl ?_ | refine o_iaddr_lst rfl rfl eKM rfl ?_ | refine o_inc rfl (by omega) ?_ | refine g_split rfl (fun hg => ?_) (fun hg => ?_) | refine c_cond rfl (fun hg => ?_) (fun hg => ?_))
    all_goals first
      | (refine l_nrm (q.atoms.length - (m + 1)) (by omega) ⟨m + 1, _, rfl, hlm, puts_ex ⟨rfl, rfl, rfl, rfl, rfl, rfl, rfl, rfl, trivial⟩⟩; done)
      | (exfalso; exact bad (by assumption) (by assumption) (by assumption) (by assumption) (by assumption))
  · exact hQ _ _ ⟨rfl, rfl, rfl, rfl, rfl, rfl, rfl, trivial⟩
section
variable {cl : Cl} {E : Env} {s : St} {Q : Ex × Env → St → Prop} {rest : List IOp} {dst : Option Nat} {i : I} {af : List Nat}
theorem g_off {t : Nat} {b : Bool} (hw : wantsF E (some (t, b)) = false) (h : OpsR cl rest (setF E dst default) s Q) : OpsR cl (⟨dst, i, some (t, b), af⟩ :: rest) E s Q :=
  ⟨by simp only [opsF, hw, Bool.false_eq_true, if_false]; exact h.h⟩
end
def lawL12 : IC := innC (sndC lawB3)

theorem loop3 {cl : Cl} (hm : MonoQ cl) (q : Qry) (gd : q.Good) (rows : List D) (F : Nat → List Bool) (hatt : ∀ i k, i < q.atoms.length → k < q.atoms.length → ((F i).getD k false = true ↔ Att q i k))
    (row : ∀ i, i < q.atoms.length → (rows.map fun r => [r])[i]? = some [.lst ((F i).map fun b => [B b])]) (el : ∀ i k, i < q.atoms.length → k < q.atoms.length → ((F i).map fun b => [B b])[k]? = some [B ((F i).getD k false)])
    (i : Nat) (hlt : i < q.atoms.length) (b6 mu : Bool) {E : Env} {s : St} {Q : Ex × Env → St → Prop} (hE : Agree E [(3, B true), (4, .lst (rows.map fun r => [r])), (6, B b6), (8, I64 (q.atoms.map Atm.enc).length), (9, B mu), (11, I64 i), (12, I64 ((0 : Nat) : Int))])
    (hm1 : mu = true → ∃ a b, a < q.atoms.length ∧ b < q.atoms.length ∧ Att q a b ∧ Att q b a) (hm2 : ∀ a b, a < i → b < q.atoms.length → Att q a b → Att q b a → mu = true)
    (hQ : ∀ (mu : Bool) E' s', Agree E' [(3, B true), (4, .lst (rows.map fun r => [r])), (6, B b6), (8, I64 (q.atoms.map Atm.enc).length), (9, B mu), (11, I64 i)] → (mu = true → ∃ a b, a < q.atoms.length ∧ b < q.atoms.length ∧ Att q a b ∧ Att q b a) →
      (∀ a b, a < i + 1 → b < q.atoms.length → Att q a b → Att q b a → mu = true) → Q (.nrm, E') s') : CodeR cl 152 lawL12 E s (BlockQ 4 Q) := by
  have hal := gd.a
  have rI := row i hlt
  show CodeR cl 152 (.loop _) E s _
  refine c_loop hm (fun n E s' => ∃ (k : Nat) (mu : Bool) (E0 : Env), n = q.atoms.length - k ∧ k ≤ q.atoms.length ∧ E = puts E0 [(3, B true), (4, .lst (rows.map fun r => [r])), (6, B b6), (8, I64 (q.atoms.map Atm.enc).length), (9, B mu), (11, I64 i), (12, I64 k)] ∧
      (mu = true → ∃ a b, a < q.atoms.length ∧ b < q.atoms.length ∧ Att q a b ∧ Att q b a) ∧ (∀ a b, a < i → b < q.atoms.length → Att q a b → Att q b a → mu = true) ∧ (∀ b, b < k → Att q i b → Att q b i → mu = true))
    (n0 := q.atoms.length) ⟨0, mu, _, rfl, Nat.zero_le _, puts_ex hE, hm1, hm2, fun b h => absurd h (Nat.not_lt_zero _)⟩ ?_
  clear hm1 hm2 hE
  rintro n E s' ⟨k, mu, E0, rfl, hk, rfl, hm1, hm2, hm3⟩
  repeat' (first | refine c_seq hm ?_ | refine c_region ?_ | refine o_nil ?_ | refine q_c ?_ | refine c_skip ?_ | refine c_ret ?_ | refine c_exit ?_ | refine c_scope ?_ | refine c_block hm ?_ | refine q_ret ?_ | refine q_exit ?_ | refine b_nrm ?_ | refine b_ret ?_ | refine b_hit ?_ | refine b_miss (by decide) ?_ | refine l_ret ?_ | refine l_exit ?_ | refine o_mv rfl ?_ | refine g_yes rfl (by first | rfl | assumption) ?_ | refine g_no rfl (by first | rfl | assumption) ?_ | refine o_pick_t rfl (by first | rfl | assumption) rfl ?_ | refine o_pick_f rfl (by first | rfl | assumption) rfl ?_ | refine o_lss rfl rfl ?_ | refine o_leq rfl rfl ?_ | refine o_gtr rfl rfl ?_ | refine o_geq rfl rfl ?_ | refine o_eql rfl rfl ?_ | refine o_neq rfl rfl ?_ | refine o_neqs rfl rfl ?_ | refine o_not rfl ?_ | refine o_eqb rfl rfl ?_ | refine o_neg rfl ?_ | refine o_len_lst rfl ?_ | refine o_len_sl rfl ?_ | refine o_len_nil rfl ?_ | refine o_len_str rfl ?_ | refine o_faddr_ref rfl ?_ | refine o_faddr_iptr rfl ?_ | refine o_alloc rfl ?_ | refine o_box rfl rfl ?_ | refine o_mkmap ?_ | refine o_load_iptr rfl rfl ?_ | refine o_load_ref rfl (by repeat (first | exact lk_here _ _ _ | assumption | refine lk_skip (by omega) ?_ | refine lk_updS (by omega) ?_ | refine lk_rmS (by omega) ?_ | refine lk_normS ?_ | exact lk_updH (by repeat (first | exact lk_here _ _ _ | assumption | refine lk_skip (by omega) ?_ | refine lk_updS (by omega) ?_ | refine lk_rmS (by omega) ?_ | refine lk_normS ?_ | exact lk_updH (by repeat (first | exact lk_here _ _ _ | assumption | refine lk_skip (by omega) ?_ | refine lk_updS (by omega) ?_ | refine lk_rmS (by omega) ?_ | refine lk_normS ?_)))))) (by rfl) ?_ | refine o_extract rfl rfl ?_ | refine o_mkfn ?_ | refine o_store_top rfl rfl rfl rfl rfl rfl (by omega) ?_ | refine o_nilChk_ref rfl ?_ | refine c_true rfl (by first | rfl | assumption) ?_ | refine c_false rfl (by first | rfl | assumption) ?_ | refine c_cond rfl (fun hg => ?_) (fun hg => ?_))
  · have hlk : k < q.atoms.length := by simpa using hg
    clear hg
    have rK := row k hlk
    have eIK := el i k hlt hlk
    have eKI := el k i hlk hlt
    have hik := hatt i k hlt hlk
    have hki := hatt k i hlk hlt
    have hn1 : (mu || ((F i).getD k false && (F k).getD i false)) = true → ∃ a b, a < q.atoms.length ∧ b < q.atoms.length ∧ Att q a b ∧ Att q b a := by
      intro h
      rw [Bool.or_eq_true, Bool.and_eq_true] at h
      rcases h with h | h
      · exact hm1 h
      · exact ⟨i, k, hlt, hlk, hik.1 h.1, hki.1 h.2⟩
    have hn2 : ∀ a b, a < i → b < q.atoms.length → Att q a b → Att q b a → (mu || ((F i).getD k false && (F k).getD i false)) = true := by
      intro a b h1 h2 h3 h4
      rw [hm2 a b h1 h2 h3 h4]; rfl
    have hn3 : ∀ b, b < k + 1 → Att q i b → Att q b i → (mu || ((F i).getD k false && (F k).getD i false)) = true := by
      intro b hb h1 h2
      rcases Nat.lt_succ_iff_lt_or_eq.1 hb with h | h
      · rw [hm3 b h h1 h2]; rfl
      · subst h
        rw [hik.2 h1, hki.2 h2]; simp
    generalize hmu' : (mu || ((F i).getD k false && (F k).getD i false)) = mu' at hn1 hn2 hn3
    clear hm1 hm2 hm3
    repeat' (first | refine c_seq hm ?_ | refine c_region ?_ | refine o_nil ?_ | refine q_c ?_ | refine c_skip ?_ | refine c_ret ?_ | refine c_exit ?_ | refine c_scope ?_ | refine c_block hm ?_ | refine q_ret ?_ | refine q_exit ?_ | refine b_nrm ?_ | refine b_ret ?_ | refine b_hit ?_ | refine b_miss (by decide) ?_ | refine l_ret ?_ | refine l_exit ?_ | refine o_mv rfl ?_ | refine g_yes rfl (by first | rfl | assumption) ?_ | refine g_no rfl (by first | rfl | assumption) ?_ | refine o_pick_t rfl (by first | rfl | assumption) rfl ?_ | refine o_pick_f rfl (by first | rfl | assumption) rfl ?_ | refine o_lss rfl rfl ?_ | refine o_leq rfl rfl ?_ | refine o_gtr rfl rfl ?_ | refine o_geq rfl rfl ?_ | refine o_eql rfl rfl ?_ | refine o_neq rfl rfl ?_ | refine o_neqs rfl rfl ?_ | refine o_not rfl ?_ | refine o_eqb rfl rfl ?_ | refine o_neg rfl ?_ | refine o_len_lst rfl ?_ | refine o_len_sl rfl ?_ | refine o_len_nil rfl ?_ | refine o_len_str rfl ?_ | refine o_faddr_ref rfl ?_ | refine o_faddr_iptr rfl ?_ | refine o_alloc rfl ?_ | refine o_box rfl rfl ?_ | refine o_mkmap ?_ | refine o_load_iptr rfl rfl ?_ | refine o_load_ref rfl (by repeat (first | exact lk_here _ _ _ | assumption | refine lk_skip (by omega) ?_ | refine lk_updS (by omega) ?_ | refine lk_rmS (by omega) ?_ | refine lk_normS ?_ | exact lk_updH (by repeat (first | exact lk_here _ _ _ | assumption | refine lk_skip (by omega) ?_ | refine lk_updS (by omega) ?_ | refine lk_rmS (by omega) ?_ | refine lk_normS ?_ | exact lk_updH (by repeat (first | exact lk_here _ _ _ | assumption | refine lk_skip (by omega) ?_ | refine lk_updS (by omega) ?_ | refine lk_rmS (by omega) ?_ | refine lk_normS ?_)))))) (by rfl) ?_ | refine o_extract rfl rfl ?_ | refine o_mkfn ?_ | refine o_store_top rfl rfl rfl rfl rfl rfl (by omega) ?_ | refine o_nilChk_ref rfl ?_ | refine c_true rfl (by first | rfl | assumption) ?_ | refine c_false rfl (by first | rfl | assumption) ?_ | refine o_iaddr_lst rfl rfl rI rfl ?_ | refine o_iaddr_lst rfl rfl rK rfl ?_ | refine o_iaddr_lst rfl rfl eIK rfl ?_ | refine o_iaddr_lst rfl rfl eKI rfl ?_ | refine g_off rfl ?_ | refine g_split rfl (fun hg => ?_) (fun hg => ?_) | refine c_cond rfl (fun hg => ?_) (fun hg => ?_))
    all_goals
      refine loop4 hm q gd rows F hatt row el i k hlt hlk b6 mu' ?_ (fun E' s' hA => ?_)
      · exact ⟨rfl, rfl, rfl, rfl, Eq.trans (b := B _) rfl (congrArg B (by rw [← hmu']; first | (rw [(show mu = true by first | assumption | exact (by assumption : mu = !false))]; rfl) | (rw [(show mu = false by first | assumption | exact (by assumption : mu = !true)), (show (F i).getD k false = true by first | assumption | exact (by assumption : (F i).getD k false = !false))]; rfl) | (rw [(show mu = false by first | assumption | exact (by assumption : mu = !true)), (show (F i).getD k false = false by first | assumption | exact (by assumption : (F i).getD k false = !true))]; rfl))), rfl, rfl, rfl, trivial⟩
      · obtain ⟨E0, rfl⟩ : ∃ E0, E' = puts E0 _ := ⟨_, puts_ex hA⟩
        clear hA
        repeat' (first | refine c_seq hm ?_ | refine c_region ?_ | refine o_nil ?_ | refine q_c ?_ | refine c_skip ?_ | refine c_ret ?_ | refine c_exit ?_ | refine c_scope ?_ | refine c_block hm ?_ | refine q_ret ?_ | refine q_exit ?_ | refine b_nrm ?_ | refine b_ret ?_ | refine b_hit ?_ | refine b_miss (by decide) ?_ | refine l_ret ?_ | refine l_exit ?_ | refine o_mv rfl ?_ | refine g_yes rfl (by first | rfl | assumption) ?_ | refine g_no rfl (by first | rfl | assumption) ?_ | refine o_pick_t rfl (by first | rfl | assumption) rfl ?_ | refine o_pick_f rfl (by first | rfl | assumption) rfl ?_ | refine o_lss rfl rfl ?_ | refine o_leq rfl rfl ?_ | refine o_gtr rfl rfl ?_ | refine o_geq rfl rfl ?_ | refine o_eql rfl rfl ?_ | refine o_neq rfl rfl ?_ | refine o_neqs rfl rfl ?_ | refine o_not rfl ?_ | refine o_eqb rfl rfl ?_ | refine o_neg rfl ?_ | refine o_len_lst rfl ?_ | refine o_len_sl rfl ?_ | refine o_len_nil rfl ?_ | refine o_len_str rfl ?_ | refine o_faddr_ref rfl ?_ | refine o_faddr_iptr rfl ?_ | refine o_alloc rfl ?_ | refine o_box rfl rfl ?_ | refine o_mkmap ?_ | refine o_load_iptr rfl rfl ?_ | refine o_load_ref rfl (by repeat (first | exact lk_here _ _ _ | assumption | refine lk_skip (by omega) ?_ | refine lk_updS (by omega) ?_ | refine lk_rmS (by omega) ?_ | refine lk_normS ?_ | exact lk_updH (by repeat (first | exact lk_here _ _ _ | assumption | refine lk_skip (by omega) ?_ | refine lk_updS (by omega) ?_ | refine lk_rmS (by omega) ?_ | refine lk_normS ?_ | exact lk_updH (by repeat (first | exact lk_here _ _ _ | assumption | refine lk_skip (by omega) ?_ | refine lk_updS (by omega) ?_ | refine lk_rmS (by omega) ?_ | refine lk_normS ?_)))))) (by rfl) ?_ | refine o_extract rfl rfl ?_ | refine o_mkfn ?_ | refine o_store_top rfl rfl rfl rfl rfl rfl (by omega) ?_ | refine o_nilChk_ref rfl ?_ | refine c_true rfl (by first | rfl | assumption) ?_ | refine c_false rfl (by first | rfl | assumption) ?_ | refine g_split rfl (fun hg => ?_) (fun hg => ?_) | refine c_cond rfl (fun hg => ?_) (fun hg => ?_))
        refine o_inc rfl (by omega) ?_
        repeat' (first | refine c_seq hm ?_ | refine c_region ?_ | refine o_nil ?_ | refine q_c ?_ | refine c_skip ?_ | refine c_ret ?_ | refine c_exit ?_ | refine c_scope ?_ | refine c_block hm ?_ | refine q_ret ?_ | refine q_exit ?_ | refine b_nrm ?_ | refine b_ret ?_ | refine b_hit ?_ | refine b_miss (by decide) ?_ | refine l_ret ?_ | refine l_exit ?_ | refine o_mv rfl ?_ | refine g_yes rfl (by first | rfl | assumption) ?_ | refine g_no rfl (by first | rfl | assumption) ?_ | refine o_pick_t rfl (by first | rfl | assumption) rfl ?_ | refine o_pick_f rfl (by first | rfl | assumption) rfl ?_ | refine o_lss rfl rfl ?_ | refine o_leq rfl rfl ?_ | refine o_gtr rfl rfl ?_ | refine o_geq rfl rfl ?_ | refine o_eql rfl rfl ?_ | refine o_neq rfl rfl ?_ | refine o_neqs rfl rfl ?_ | refine o_not rfl ?_ | refine o_eqb rfl rfl ?_ | refine o_neg rfl ?_ | refine o_len_lst rfl ?_ | refine o_len_sl rfl ?_ | refine o_len_nil rfl ?_ | refine o_len_str rfl ?_ | refine o_faddr_ref rfl ?_ | refine o_faddr_iptr rfl ?_ | refine o_alloc rfl ?_ | refine o_box rfl rfl ?_ | refine o_mkmap ?_ | refine o_load_iptr rfl rfl ?_ | refine o_load_ref rfl (by repeat (first | exact lk_here _ _ _ | assumption | refine lk_skip (by omega) ?_ | refine lk_updS (by omega) ?_ | refine lk_rmS (by omega) ?_ | refine lk_normS ?_ | exact lk_updH (by repeat (first | exact lk_here _ _ _ | assumption | refine lk_skip (by omega) ?_ | refine lk_updS (by omega) ?_ | refine lk_rmS (by omega) ?_ | refine lk_normS ?_ | exact lk_updH (by repeat (first | exact lk_here _ _ _ | assumption | refine lk_skip (by omega) ?_ | refine lk_updS (by omega) ?_ | refine lk_rmS (by omega) ?_ | refine lk_normS ?_)))))) (by rfl) ?_ | refine o_extract rfl rfl ?_ | refine o_mkfn ?_ | refine o_store_top rfl rfl rfl rfl rfl rfl (by omega) ?_ | refine o_nilChk_ref rfl ?_ | refine c_true rfl (by first | rfl | assumption) ?_ | refine c_false rfl (by first | rfl | assumption) ?_ | refine g_split rfl (fun hg => ?_) (fun hg => ?_) | refine c_cond rfl (fun hg => ?_) (fun hg => ?_))
        refine l_nrm (q.atoms.length - (k + 1)) (by omega) ⟨k + 1, mu', _, rfl, hlk, puts_ex ⟨rfl, rfl, rfl, rfl, rfl, rfl, rfl, trivial⟩, hn1, hn2, hn3⟩
  · have hge : q.atoms.length ≤ k := by simpa using hg
    refine hQ mu _ _ ⟨rfl, rfl, rfl, rfl, rfl, rfl, trivial⟩ hm1 ?_
    intro a b ha hb h1 h2
    rcases Nat.lt_succ_iff_lt_or_eq.1 ha with h | h
    · exact hm2 a b h hb h1 h2
    · subst h
      exact hm3 b (by omega) h1 h2

end K36
