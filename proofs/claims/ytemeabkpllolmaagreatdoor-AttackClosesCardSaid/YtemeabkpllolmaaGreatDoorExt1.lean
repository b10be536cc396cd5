/-
  A part of the walk through the law: what its functions compute. Conditions: none beyond the statement.
-/
import Derived.Test.YtemeabkpllolmaaGreatDoorWalk7
import Derived.Test.YtemeabkpllolmaaGreatDoorInt12
set_option maxRecDepth 100000
set_option maxHeartbeats 2000000
set_option linter.unusedVariables false
set_option linter.unusedSimpArgs false
namespace K36
open Go Go.Ai
def Qry.badF (q : Qry) (i : Nat) : Bool := decide (((q.at i).cols.length : Int) > 14) || decide (((q.at i).terms.length : Int) > 14)
def Qry.few (q : Qry) : Bool := (List.range q.atoms.length).all (fun i => !q.badF i) && (decide ((q.atoms.length : Int) ≤ 8) && (decide ((q.consts.length : Int) ≤ 30) && decide (q.vars ≤ 40)))
theorem few_a {q : Qry} {i : Nat} (hi : i < q.atoms.length) (h : q.badF i = true) : q.few = false := by
  have : (List.range q.atoms.length).all (fun i => !q.badF i) = false := by
    rw [List.all_eq_false]
    exact ⟨i, by simpa using hi, by simp [h]⟩
  simp [Qry.few, this]
theorem few_b {q : Qry} (h : ∀ j, j < q.atoms.length → q.badF j = false) : q.few = (decide ((q.atoms.length : Int) ≤ 8) && (decide ((q.consts.length : Int) ≤ 30) && decide (q.vars ≤ 40))) := by
  have : (List.range q.atoms.length).all (fun i => !q.badF i) = true := by
    rw [List.all_eq_true]
    exact fun j hj => by simp [h j (by simpa using hj)]
  simp only [Qry.few, this, Bool.true_and]

theorem few10 (q : Qry) (hb : q.Fits) (s : St) : At (callL ir) 10 [q.enc, I64 8] s (B q.few) := by
  have hm := callL_mono ir
  refine fun_at (fn := i10) (args' := [q.enc, I64 8]) (H1 := s.H) rfl rfl rfl rfl rfl rfl ?_
  show CodeR _ 47 c10 _ _ _
  unfold c10
  repeat' (first | refine c_seq hm ?_ | refine c_region ?_ | refine o_nil ?_ | refine q_c ?_ | refine c_skip ?_ | refine c_ret ?_ | refine c_exit ?_ | refine c_scope ?_ | refine c_block hm ?_ | refine q_ret ?_ | refine q_exit ?_ | refine b_nrm ?_ | refine b_ret ?_ | refine b_hit ?_ | refine b_miss (by decide) ?_ | refine l_ret ?_ | refine l_exit ?_ | refine o_mv rfl ?_ | refine g_yes rfl (by first | rfl | assumption) ?_ | refine g_no rfl (by first | rfl | assumption) ?_ | refine o_pick_t rfl (by first | rfl | assumption) rfl ?_ | refine o_pick_f rfl (by first | rfl | assumption) rfl ?_ | refine o_lss rfl rfl ?_ | refine o_leq rfl rfl ?_ | refine o_gtr rfl rfl ?_ | refine o_geq rfl rfl ?_ | refine o_eql rfl rfl ?_ | refine o_neq rfl rfl ?_ | refine o_neqs rfl rfl ?_ | refine o_not rfl ?_ | refine o_eqb rfl rfl ?_ | refine o_neg rfl ?_ | refine o_len_lst rfl ?_ | refine o_len_sl rfl ?_ | refine o_len_nil rfl ?_ | refine o_len_str rfl ?_ | refine o_faddr_ref rfl ?_ | refine o_faddr_iptr rfl ?_ | refine o_alloc rfl ?_ | refine o_box rfl rfl ?_ | refine o_mkmap ?_ | refine o_load_iptr rfl rfl ?_ | refine o_load_ref rfl (by repeat (first | exact lk_here _ _ _ | assumption | refine lk_skip (by omega) ?_ | refine lk_updS (by omega) ?_ | refine lk_rmS (by omega) ?_ | refine lk_normS ?_ | exact lk_updH (by repeat (first | exact lk_here _ _ _ | assumption | refine lk_skip (by omega) ?_ | refine lk_updS (by omega) ?_ | refine lk_rmS (by omega) ?_ | refine lk_normS ?_)))) (by rfl) ?_ | refine o_extract rfl rfl ?_ | refine o_mkfn ?_ | refine o_store_top rfl rfl rfl rfl rfl rfl (by omega) ?_ | refine o_nilChk_ref rfl ?_ | refine c_true rfl (by first | rfl | assumption) ?_ | refine c_false rfl (by first | rfl | assumption) ?_ | refine g_split rfl (fun hg => ?_) (fun hg => ?_) | refine c_cond rfl (fun hg => ?_) (fun hg => ?_))
  refine c_loop hm (fun n E s' => ∃ i E0 H nx, n = q.atoms.length - i ∧ i ≤ q.atoms.length ∧ (∀ j, j < i → q.badF j = false) ∧ E = puts E0 [(1, I64 8), (2, .ref s.nx 0), (5, I64 i)] ∧ s' = ⟨H, nx, s.nx⟩ ∧ s.nx < nx ∧ lk H s.nx = some (.cells q.cells 25 0))
    (n0 := q.atoms.length) ⟨0, _, _, _, rfl, Nat.zero_le _, fun j hj => absurd hj (Nat.not_lt_zero _), puts_ex ⟨rfl, rfl, rfl, trivial⟩, rfl, by first | omega | (dsimp only; omega), (by repeat (first | exact lk_here _ _ _ | assumption | refine lk_skip (by omega) ?_ | refine lk_updS (by omega) ?_ | refine lk_rmS (by omega) ?_ | refine lk_normS ?_ | exact lk_updH (by repeat (first | exact lk_here _ _ _ | assumption | refine lk_skip (by omega) ?_ | refine lk_updS (by omega) ?_ | refine lk_rmS (by omega) ?_ | refine lk_normS ?_))))⟩ ?_
  rintro n E s' ⟨i, E0, H, nx, rfl, hi, hall, rfl, rfl, hlt0, hq⟩
  repeat' (first | refine c_seq hm ?_ | refine c_region ?_ | refine o_nil ?_ | refine q_c ?_ | refine c_skip ?_ | refine c_ret ?_ | refine c_exit ?_ | refine c_scope ?_ | refine c_block hm ?_ | refine q_ret ?_ | refine q_exit ?_ | refine b_nrm ?_ | refine b_ret ?_ | refine b_hit ?_ | refine b_miss (by decide) ?_ | refine l_ret ?_ | refine l_exit ?_ | refine o_mv rfl ?_ | refine g_yes rfl (by first | rfl | assumption) ?_ | refine g_no rfl (by first | rfl | assumption) ?_ | refine o_pick_t rfl (by first | rfl | assumption) rfl ?_ | refine o_pick_f rfl (by first | rfl | assumption) rfl ?_ | refine o_lss rfl rfl ?_ | refine o_leq rfl rfl ?_ | refine o_gtr rfl rfl ?_ | refine o_geq rfl rfl ?_ | refine o_eql rfl rfl ?_ | refine o_neq rfl rfl ?_ | refine o_neqs rfl rfl ?_ | refine o_not rfl ?_ | refine o_eqb rfl rfl ?_ | refine o_neg rfl ?_ | refine o_len_lst rfl ?_ | refine o_len_sl rfl ?_ | refine o_len_nil rfl ?_ | refine o_len_str rfl ?_ | refine o_faddr_ref rfl ?_ | refine o_faddr_iptr rfl ?_ | refine o_alloc rfl ?_ | refine o_box rfl rfl ?_ | refine o_mkmap ?_ | refine o_load_iptr rfl rfl ?_ | refine o_load_ref rfl (by repeat (first | exact lk_here _ _ _ | assumption | refine lk_skip (by omega) ?_ | refine lk_updS (by omega) ?_ | refine lk_rmS (by omega) ?_ | refine lk_normS ?_ | exact lk_updH (by repeat (first | exact lk_here _ _ _ | assumption | refine lk_skip (by omega) ?_ | refine lk_updS (by omega) ?_ | refine lk_rmS (by omega) ?_ | refine lk_normS ?_)))) (by rfl) ?_ | refine o_extract rfl rfl ?_ | refine o_mkfn ?_ | refine o_store_top rfl rfl rfl rfl rfl rfl (by omega) ?_ | refine o_nilChk_ref rfl ?_ | refine c_true rfl (by first | rfl | assumption) ?_ | refine c_false rfl (by first | rfl | assumption) ?_ | refine g_split rfl (fun hg => ?_) (fun hg => ?_) | refine c_cond rfl (fun hg => ?_) (fun hg => ?_))
  · have hlt : i < q.atoms.length := by simpa using hg
    clear hg
    refine o_iaddr_lst (cs := (q.at i).enc) rfl rfl (by simp [hlt]) rfl ?_
    repeat' (first | refine c_seq hm ?_ | refine c_region ?_ | refine o_nil ?_ | refine q_c ?_ | refine c_skip ?_ | refine c_ret ?_ | refine c_exit ?_ | refine c_scope ?_ | refine c_block hm ?_ | refine q_ret ?_ | refine q_exit ?_ | refine b_nrm ?_ | refine b_ret ?_ | refine b_hit ?_ | refine b_miss (by decide) ?_ | refine l_ret ?_ | refine l_exit ?_ | refine o_mv rfl ?_ | refine g_yes rfl (by first | rfl | assumption) ?_ | refine g_no rfl (by first | rfl | assumption) ?_ | refine o_pick_t rfl (by first | rfl | assumption) rfl ?_ | refine o_pick_f rfl (by first | rfl | assumption) rfl ?_ | refine o_lss rfl rfl ?_ | refine o_leq rfl rfl ?_ | refine o_gtr rfl rfl ?_ | refine o_geq rfl rfl ?_ | refine o_eql rfl rfl ?_ | refine o_neq rfl rfl ?_ | refine o_neqs rfl rfl ?_ | refine o_not rfl ?_ | refine o_eqb rfl rfl ?_ | refine o_neg rfl ?_ | refine o_len_lst rfl ?_ | refine o_len_sl rfl ?_ | refine o_len_nil rfl ?_ | refine o_len_str rfl ?_ | refine o_faddr_ref rfl ?_ | refine o_faddr_iptr rfl ?_ | refine o_alloc rfl ?_ | refine o_box rfl rfl ?_ | refine o_mkmap ?_ | refine o_load_iptr rfl rfl ?_ | refine o_load_ref rfl (by repeat (first | exact lk_here _ _ _ | assumption | refine lk_skip (by omega) ?_ | refine lk_updS (by omega) ?_ | refine lk_rmS (by omega) ?_ | refine lk_normS ?_ | exact lk_updH (by repeat (first | exact lk_here _ _ _ | assumption | refine lk_skip (by omega) ?_ | refine lk_updS (by omega) ?_ | refine lk_rmS (by omega) ?_ | refine lk_normS ?_)))) (by rfl) ?_ | refine o_extract rfl rfl ?_ | refine o_mkfn ?_ | refine o_store_top rfl rfl rfl rfl rfl rfl (by omega) ?_ | refine o_nilChk_ref rfl ?_ | refine c_true rfl (by first | rfl | assumption) ?_ | refine c_false rfl (by first | rfl | assumption) ?_ | refine g_split rfl (fun hg => ?_) (fun hg => ?_) | refine c_cond rfl (fun hg => ?_) (fun hg => ?_))
    · refine o_iaddr_lst (cs := (q.at i).enc) rfl rfl (by simp [hlt]) rfl ?_
      repeat' (first | refine c_seq hm ?_ | refine c_region ?_ | refine o_nil ?_ | refine q_c ?_ | refine c_skip ?_ | refine c_ret ?_ | refine c_exit ?_ | refine c_scope ?_ | refine c_block hm ?_ | refine q_ret ?_ | refine q_exit ?_ | refine b_nrm ?_ | refine b_ret ?_ | refine b_hit ?_ | refine b_miss (by decide) ?_ | refine l_ret ?_ | refine l_exit ?_ | refine o_mv rfl ?_ | refine g_yes rfl (by first | rfl | assumption) ?_ | refine g_no rfl (by first | rfl | assumption) ?_ | refine o_pick_t rfl (by first | rfl | assumption) rfl ?_ | refine o_pick_f rfl (by first | rfl | assumption) rfl ?_ | refine o_lss rfl rfl ?_ | refine o_leq rfl rfl ?_ | refine o_gtr rfl rfl ?_ | refine o_geq rfl rfl ?_ | refine o_eql rfl rfl ?_ | refine o_neq rfl rfl ?_ | refine o_neqs rfl rfl ?_ | refine o_not rfl ?_ | refine o_eqb rfl rfl ?_ | refine o_neg rfl ?_ | refine o_len_lst rfl ?_ | refine o_len_sl rfl ?_ | refine o_len_nil rfl ?_ | refine o_len_str rfl ?_ | refine o_faddr_ref rfl ?_ | refine o_faddr_iptr rfl ?_ | refine o_alloc rfl ?_ | refine o_box rfl rfl ?_ | refine o_mkmap ?_ | refine o_load_iptr rfl rfl ?_ | refine o_load_ref rfl (by repeat (first | exact lk_here _ _ _ | assumption | refine lk_skip (by omega) ?_ | refine lk_updS (by omega) ?_ | refine lk_rmS (by omega) ?_ | refine lk_normS ?_ | exact lk_updH (by repeat (first | exact lk_here _ _ _ | assumption | refine lk_skip (by omega) ?_ | refine lk_updS (by omega) ?_ | refine lk_rmS (by omega) ?_ | refine lk_normS ?_)))) (by rfl) ?_ | refine o_extract rfl rfl ?_ | refine o_mkfn ?_ | refine o_store_top rfl rfl rfl rfl rfl rfl (by omega) ?_ | refine o_nilChk_ref rfl ?_ | refine c_true rfl (by first | rfl | assumption) ?_ | refine c_false rfl (by first | rfl | assumption) ?_ | refine g_split rfl (fun hg => ?_) (fun hg => ?_) | refine c_cond rfl (fun hg => ?_) (fun hg => ?_))
      · refine e_end ⟨Or.inr rfl, by rw [few_a hlt (by rw [Qry.badF]; simp_all)]; rfl, by first | omega | (dsimp only; omega)⟩
      · refine o_inc rfl (by have := hb.a; omega) ?_
        repeat' (first | refine c_seq hm ?_ | refine c_region ?_ | refine o_nil ?_ | refine q_c ?_ | refine c_skip ?_ | refine c_ret ?_ | refine c_exit ?_ | refine c_scope ?_ | refine c_block hm ?_ | refine q_ret ?_ | refine q_exit ?_ | refine b_nrm ?_ | refine b_ret ?_ | refine b_hit ?_ | refine b_miss (by decide) ?_ | refine l_ret ?_ | refine l_exit ?_ | refine o_mv rfl ?_ | refine g_yes rfl (by first | rfl | assumption) ?_ | refine g_no rfl (by first | rfl | assumption) ?_ | refine o_pick_t rfl (by first | rfl | assumption) rfl ?_ | refine o_pick_f rfl (by first | rfl | assumption) rfl ?_ | refine o_lss rfl rfl ?_ | refine o_leq rfl rfl ?_ | refine o_gtr rfl rfl ?_ | refine o_geq rfl rfl ?_ | refine o_eql rfl rfl ?_ | refine o_neq rfl rfl ?_ | refine o_neqs rfl rfl ?_ | refine o_not rfl ?_ | refine o_eqb rfl rfl ?_ | refine o_neg rfl ?_ | refine o_len_lst rfl ?_ | refine o_len_sl rfl ?_ | refine o_len_nil rfl ?_ | refine o_len_str rfl ?_ | refine o_faddr_ref rfl ?_ | refine o_faddr_iptr rfl ?_ | refine o_alloc rfl ?_ | refine o_box rfl rfl ?_ | refine o_mkmap ?_ | refine o_load_iptr rfl rfl ?_ | refine o_load_ref rfl (by repeat (first | exact lk_here _ _ _ | assumption | refine lk_skip (by omega) ?_ | refine lk_updS (by omega) ?_ | refine lk_rmS (by omega) ?_ | refine lk_normS ?_ | exact lk_updH (by repeat (first | exact lk_here _ _ _ | assumption | refine lk_skip (by omega) ?_ | refine lk_updS (by omega) ?_ | refine lk_rmS (by omega) ?_ | refine lk_normS ?_)))) (by rfl) ?_ | refine o_extract rfl rfl ?_ | refine o_mkfn ?_ | refine o_store_top rfl rfl rfl rfl rfl rfl (by omega) ?_ | refine o_nilChk_ref rfl ?_ | refine c_true rfl (by first | rfl | assumption) ?_ | refine c_false rfl (by first | rfl | assumption) ?_ | refine g_split rfl (fun hg => ?_) (fun hg => ?_) | refine c_cond rfl (fun hg => ?_) (fun hg => ?_))
        refine l_nrm (q.atoms.length - (i + 1)) (by omega) ⟨i + 1, _, _, _, rfl, hlt, ?_, puts_ex ⟨rfl, rfl, rfl, trivial⟩, rfl, hlt0, hq⟩
        intro j hj
        rcases Nat.lt_succ_iff_lt_or_eq.1 hj with h | h
        · exact hall j h
        · subst h
          rw [Qry.badF]; simp_all
    · refine e_end ⟨Or.inr rfl, by rw [few_a hlt (by rw [Qry.badF]; simp_all)]; rfl, by first | omega | (dsimp only; omega)⟩
  all_goals
    have hge : ¬ i < q.atoms.length := by
      intro hx
      simp_all
    have hfew := few_b (q := q) (fun j hj => hall j (by omega))
    refine e_end ⟨Or.inr rfl, res1 (Eq.trans (b := B _) rfl (congrArg B ?_)), by first | omega | (dsimp only; omega)⟩
    rw [hfew, ← len_enc, ← len_encA]
    clear hall hfew hge
    first | (simp_all; done) | (simp_all; omega)
theorem rch_lt {q : Qry} {f h : Nat} (hf : f < q.atoms.length) (hr : Rch q f h) : h < q.atoms.length := by
  cases hr with
  | base => exact hf
  | step _ h _ => exact h
theorem keys_sub {q : Qry} {i : Nat} {u : Int} (h : u ∈ (q.at i).keys) : u ∈ (q.at i).terms := List.mem_of_mem_take h
theorem rch_last {q : Qry} {f g : Nat} (hr : Rch q f g) (hne : g ≠ f) : ∃ t, 0 ≤ t ∧ ¬ Cls q f (q.at f).keys t ∧ t ∈ (q.at g).terms := by
  cases hr with
  | base => exact absurd rfl hne
  | step _ _ hl =>
    obtain ⟨t, h1, h2, _, h4⟩ := hl
    exact ⟨t, h1, h2, h4⟩
theorem rows_fun {q : Qry} {rows : List D} (h : ∀ i, i < q.atoms.length → rowOf q i (rows.getD i default)) : ∃ F : Nat → List Bool, ∀ i, i < q.atoms.length → (F i).length = q.atoms.length ∧ (∀ k, k < q.atoms.length → ((F i).getD k false = true ↔ Att q i k)) ∧ rows.getD i default = .lst ((F i).map fun b => [B b]) :=
  ⟨fun i => if hi : i < q.atoms.length then Classical.choose (h i hi) else [], fun i hi => by
    simp only [dif_pos hi]
    exact Classical.choose_spec (h i hi)⟩

section
variable {cl : Cl} {E : Env} {s : St} {Q : Ex × Env → St → Prop} {rest : List IOp} {k : Nat} {af : List Nat} {x : Opd}
theorem o_len_rows {r : D} {rows : List D} {n : Nat} (hx : evF E x = r) (hr : r = .lst (rows.map fun r => [r]) ∨ (n = 0 ∧ r = .raw (.slice none 0 0))) (hrl : rows.length = n) (h : OpsR cl rest (put E k (I64 n)) s Q) : OpsR cl (⟨some k, .len 1 x, none, af⟩ :: rest) E s Q := by
  rcases hr with rfl | ⟨rfl, rfl⟩
  · refine o_len_lst hx ?_
    rw [List.length_map, hrl]
    exact h
  · exact o_len_nil hx h
end
def fstC : IC → IC
  | .seq a _ => a
  | c => c
def sndC : IC → IC
  | .seq _ b => b
  | c => c
def innC : IC → IC
  | .block _ b => b
  | .loop b => b
  | c => c
section
variable {cl : Cl} {E : Env} {s : St} {Q : Ex × Env → St → Prop} {rest : List IOp} {dst : Option Nat} {i : I} {af : List Nat}
theorem g_off {t : Nat} {b : Bool} (hw : wantsF E (some (t, b)) = false) (h : OpsR cl rest (setF E dst default) s Q) : OpsR cl (⟨dst, i, some (t, b), af⟩ :: rest) E s Q :=
  ⟨by simp only [opsF, hw, Bool.false_eq_true, if_false]; exact h.h⟩
end
def Qry.Below (q : Qry) : Prop := ∀ i, i < q.atoms.length → ∀ t ∈ (q.at i).terms, t < q.vars

theorem ok_parts {q : Qry} (h : q.ok = true) : q.badH = false ∧ (∀ j, j < q.consts.length → q.badC j = false) ∧ ∀ i, i < q.atoms.length → q.badS i = false ∧ (q.at i).badL = false ∧ ∀ k, k < (q.at i).cols.length → q.badT (q.at i) k = false := by
  have nb : ∀ b : Bool, (b = true → q.ok = false) → b = false := by
    intro b hb
    cases b with
    | false => rfl
    | true => rw [hb rfl] at h; cases h
  refine ⟨nb _ ok_h, fun j hj => nb _ (ok_c hj), fun i hi => ?_⟩
  have ha := nb _ (ok_a (q := q) hi)
  simp only [Qry.badA, Bool.or_eq_false_iff] at ha
  exact ⟨ha.1, ha.2.1, fun k hk => nb _ (ok_t hi hk)⟩
theorem below_of {q : Qry} (h : q.ok = true) : q.Below := by
  intro i hi t ht
  obtain ⟨-, -, hp⟩ := ok_parts h
  obtain ⟨-, hL, hT⟩ := hp i hi
  obtain ⟨k, hk, rfl⟩ := List.mem_iff_getElem.1 ht
  have hlen : (q.at i).terms.length = (q.at i).cols.length := by
    simp only [Atm.badL, Bool.or_eq_false_iff, bne_eq_false_iff_eq] at hL
    have := hL.2.2.1
    omega
  have := hT k (by omega)
  simp only [Qry.badT, Bool.or_eq_false_iff, decide_eq_false_iff_not] at this
  have h2 := this.2.2.1
  rw [getD_lt hk] at h2
  omega
end K36
