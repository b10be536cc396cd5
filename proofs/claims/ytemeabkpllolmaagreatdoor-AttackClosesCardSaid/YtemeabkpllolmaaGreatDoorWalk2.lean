/-
  A part of the walk through the law: what its functions compute. Conditions: none beyond the statement.
-/
import Derived.Test.YtemeabkpllolmaaGreatDoorWalk1
set_option maxRecDepth 100000
set_option maxHeartbeats 4000000
set_option linter.unusedVariables false
set_option linter.unusedSimpArgs false
namespace K36
open Go Go.Ai

def Val3.ok (v : Val3) : Bool :=
  if (v.k != 1 && !(v.b.toList == (⟨#[]⟩ : ByteArray).toList)) = true then false
  else if (v.k == 0) = true then decide (0 ≤ v.n) && decide (v.n ≤ 0)
  else if (v.k == 1) = true then (if decide ((v.b.size : Int) > 200) = true then false else decide (0 ≤ v.n) && decide (v.n ≤ 0))
  else if (v.k == 2) = true then decide (-1000000000 ≤ v.n) && decide (v.n ≤ 1000000000)
  else if (v.k == 3) = true then decide (0 ≤ v.n) && decide (v.n ≤ 73048)
  else if (v.k == 4) = true then decide (0 ≤ v.n) && decide (v.n ≤ 1)
  else false
theorem val35 (v : Val3) (s : St) : At (callL ir) 35 [.agg v.enc] s (B v.ok) := by
  have hm := callL_mono ir
  refine fun_at (fn := i35) (args' := [.agg v.enc]) (H1 := s.H) rfl rfl rfl rfl rfl rfl ?_
  show CodeR _ 39 c35 _ _ _
  unfold c35
  repeat' (first | refine c_seq hm ?_ | refine c_region ?_ | refine o_nil ?_ | refine q_c ?_ | refine c_skip ?_ | refine c_ret ?_ | refine c_exit ?_ | refine c_scope ?_ | refine c_block hm ?_ | refine q_ret ?_ | refine q_exit ?_ | refine b_nrm ?_ | refine b_ret ?_ | refine b_hit ?_ | refine b_miss (by decide) ?_ | refine l_ret ?_ | refine l_exit ?_ | refine o_mv rfl ?_ | refine g_yes rfl (by first | rfl | assumption) ?_ | refine g_no rfl (by first | rfl | assumption) ?_ | refine o_pick_t rfl (by first | rfl | assumption) rfl ?_ | refine o_pick_f rfl (by first | rfl | assumption) rfl ?_ | refine o_lss rfl rfl ?_ | refine o_leq rfl rfl ?_ | refine o_gtr rfl rfl ?_ | refine o_geq rfl rfl ?_ | refine o_eql rfl rfl ?_ | refine o_neq rfl rfl ?_ | refine o_neqs rfl rfl ?_ | refine o_not rfl ?_ | refine o_eqb rfl rfl ?_ | refine o_neg rfl ?_ | refine o_len_lst rfl ?_ | refine o_len_sl rfl ?_ | refine o_len_nil rfl ?_ | refine o_len_str rfl ?_ | refine o_faddr_ref rfl ?_ | refine o_faddr_iptr rfl ?_ | refine o_alloc rfl ?_ | refine o_box rfl rfl ?_ | refine o_mkmap ?_ | refine o_load_iptr rfl rfl ?_ | refine o_load_ref rfl (by repeat (first | exact lk_here _ _ _ | assumption | refine lk_skip (by omega) ?_ | refine lk_updS (by omega) ?_ | refine lk_rmS (by omega) ?_ | refine lk_normS ?_ | exact lk_updH (by repeat (first | exact lk_here _ _ _ | assumption | refine lk_skip (by omega) ?_ | refine lk_updS (by omega) ?_ | refine lk_rmS (by omega) ?_ | refine lk_normS ?_ | exact lk_updH (by repeat (first | exact lk_here _ _ _ | assumption | refine lk_skip (by omega) ?_ | refine lk_updS (by omega) ?_ | refine lk_rmS (by omega) ?_ | refine lk_normS ?_)))))) (by rfl) ?_ | refine o_extract rfl rfl ?_ | refine o_mkfn ?_ | refine o_store_top rfl rfl rfl rfl rfl rfl (by omega) ?_ | refine o_nilChk_ref rfl ?_ | refine c_true rfl (by first | rfl | assumption) ?_ | refine c_false rfl (by first | rfl | assumption) ?_ | refine g_split rfl (fun hg => ?_) (fun hg => ?_) | refine c_cond rfl (fun hg => ?_) (fun hg => ?_))
  all_goals refine e_end ⟨Or.inr rfl, res1 (Eq.trans (b := B _) rfl (congrArg B ?_)), Nat.le_succ _⟩
  all_goals first | (simp_all [Val3.ok]; done) | (simp_all [Val3.ok]; omega)

def Qry.badC (q : Qry) (i : Nat) : Bool := !(q.consts.getD i default).ok || ((q.consts.getD i default).k == 0 || decide (0 ≤ firstI (fun j => (q.consts.getD i default).same ((q.consts.take i).getD j default)) (q.consts.take i).length))
def Qry.badT (q : Qry) (a : Atm) (k : Nat) : Bool := decide (a.cols.getD k 0 < 0) || (decide (0 ≤ firstI (fun j => a.cols.getD k 0 == (a.cols.take k).getD j 0) (a.cols.take k).length) || (decide (a.terms.getD k 0 ≥ q.vars) || decide (a.terms.getD k 0 < IntKind.i64.wrap (0 - (q.consts.length : Int)))))
def Qry.badS (q : Qry) (i : Nat) : Bool := decide ((q.atoms.getD i default).tbl < 0) || decide (0 ≤ firstI (fun j => ((q.atoms.take i).getD j default).tbl == (q.atoms.getD i default).tbl) (q.atoms.take i).length)
def Atm.badL (a : Atm) : Bool := ((a.cols.length : Int) == 0) || (decide ((a.cols.length : Int) > 12) || (((a.terms.length : Int) != (a.cols.length : Int)) || (decide (a.key < 1) || decide (a.key > (a.cols.length : Int)))))
def Qry.badA (q : Qry) (i : Nat) : Bool := q.badS i || ((q.atoms.getD i default).badL || (List.range (q.atoms.getD i default).cols.length).any (q.badT (q.atoms.getD i default)))
def Qry.badH (q : Qry) : Bool := decide (q.vars < 0) || (decide (q.vars > 240) || (decide ((q.consts.length : Int) > 240) || decide ((q.atoms.length : Int) > 20)))
def Qry.ok (q : Qry) : Bool := !q.badH && ((List.range q.consts.length).all (fun i => !q.badC i) && (List.range q.atoms.length).all (fun i => !q.badA i))

theorem ok_h {q : Qry} (h : q.badH = true) : q.ok = false := by simp [Qry.ok, h]
theorem ok_c {q : Qry} {i : Nat} (hi : i < q.consts.length) (h : q.badC i = true) : q.ok = false := by
  have : (List.range q.consts.length).all (fun i => !q.badC i) = false := by
    rw [List.all_eq_false]
    exact ⟨i, by simpa using hi, by simp [h]⟩
  simp [Qry.ok, this]
theorem ok_a {q : Qry} {i : Nat} (hi : i < q.atoms.length) (h : q.badA i = true) : q.ok = false := by
  have : (List.range q.atoms.length).all (fun i => !q.badA i) = false := by
    rw [List.all_eq_false]
    exact ⟨i, by simpa using hi, by simp [h]⟩
  simp [Qry.ok, this]
theorem ok_t {q : Qry} {i k : Nat} (hi : i < q.atoms.length) (hk : k < (q.atoms.getD i default).cols.length) (h : q.badT (q.atoms.getD i default) k = true) : q.ok = false := by
  refine ok_a hi ?_
  have : (List.range (q.atoms.getD i default).cols.length).any (q.badT (q.atoms.getD i default)) = true := by
    rw [List.any_eq_true]
    exact ⟨k, by simpa using hk, h⟩
  simp only [Qry.badA, this, Bool.or_true]
theorem ok_all {q : Qry} (h0 : q.badH = false) (h1 : ∀ j, j < q.consts.length → q.badC j = false) (h2 : ∀ j, j < q.atoms.length → q.badA j = false) : q.ok = true := by
  have a1 : (List.range q.consts.length).all (fun i => !q.badC i) = true := by
    rw [List.all_eq_true]
    exact fun j hj => by simp [h1 j (by simpa using hj)]
  have a2 : (List.range q.atoms.length).all (fun i => !q.badA i) = true := by
    rw [List.all_eq_true]
    exact fun j hj => by simp [h2 j (by simpa using hj)]
  simp [Qry.ok, h0, a1, a2]
theorem badA_of {q : Qry} {i : Nat} (h1 : q.badS i = false) (h2 : (q.atoms.getD i default).badL = false) (h3 : ∀ j, j < (q.atoms.getD i default).cols.length → q.badT (q.atoms.getD i default) j = false) : q.badA i = false := by
  have : (List.range (q.atoms.getD i default).cols.length).any (q.badT (q.atoms.getD i default)) = false := by
    rw [List.any_eq_false]
    exact fun j hj => by rw [h3 j (by simpa using hj)]; simp
  simp only [Qry.badA, h1, h2, this, Bool.or_false]

structure Qry.Fits (q : Qry) : Prop where
  a : q.atoms.length < 2 ^ 63
  c : q.consts.length < 2 ^ 63
  l : ∀ i, (q.atoms.getD i default).cols.length < 2 ^ 63 ∧ (q.atoms.getD i default).terms.length < 2 ^ 63

end K36
