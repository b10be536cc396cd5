/-
  A part of the walk through the law: what its functions compute. Conditions: none beyond the statement.
-/
import Derived.Test.YtemeabkpllolmaaGreatDoorExt2
import Derived.Test.YtemeabkpllolmaaGreatDoorExt7
import Derived.Test.YtemeabkpllolmaaGreatDoorExt1
/-! Functions in the form of the interpreter, printed by a program. -/
set_option maxRecDepth 100000
namespace K36
open Go Go.Ai
/-- cleanse/cleanselaw36.AttackCloses -/
def c6 : IC := (.seq (.region [⟨some 4, .box 25 (.t 0), none, []⟩, ⟨some 8, .mv (.c (.raw (.bool false))), none, []⟩]) (.seq (.region [⟨some 16, .call 9 [], none, []⟩, ⟨some 9, .mv (.t 16), none, [0, 0, 0]⟩]) (.seq (.seq (.region [⟨some 17, .load true 3 (.t 4), none, []⟩, ⟨some 18, .call 10 [(.t 17), (.c (.raw (.int .i64 (.ofNat 8))))], none, [0]⟩, ⟨some 19, .un .not (.t 18), none, [1]⟩, ⟨some 20, .mv (.t 19), none, [2, 1]⟩, ⟨some 21, .load true 3 (.t 4), some (20, false), [3]⟩, ⟨some 22, .call 11 [(.t 21)], some (20, false), [4, 3, 3]⟩, ⟨some 23, .un .not (.t 22), some (20, false), [5, 3]⟩, ⟨some 24, .pick (.t 20) (.c (.raw (.bool true))) (.t 23), none, [3, 6]⟩, ⟨some 25, .mv (.t 24), none, [7, 5]⟩, ⟨some 26, .mv (.t 2), some (25, false), [8]⟩, ⟨some 27, .len 1 (.t 26), some (25, false), [9, 8]⟩,
 ⟨some 28, .bin .gtr (.t 27) (.c (.raw (.int .i64 (.ofNat 60)))), some (25, false), [10, 8]⟩, ⟨some 29, .pick (.t 25) (.c (.raw (.bool true))) (.t 28), none, [8, 11]⟩, ⟨some 30, .mv (.t 29), none, [12, 8]⟩, ⟨some 31, .mv (.t 3), some (30, false), [13]⟩, ⟨some 32, .len 1 (.t 31), some (30, false), [14, 13]⟩, ⟨some 33, .bin .gtr (.t 32) (.c (.raw (.int .i64 (.ofNat 60)))), some (30, false), [15, 13]⟩, ⟨some 34, .pick (.t 30) (.c (.raw (.bool true))) (.t 33), none, [13, 16]⟩]) (.cond (.t 34) (.seq (.region [⟨some 35, .mv (.t 9), none, []⟩, ⟨some 8, .mv (.t 35), none, [0, 0]⟩]) .ret) .skip)) (.seq (.seq (.region [⟨some 10, .mv (.c (.raw (.int .i64 (.ofNat 0)))), none, []⟩]) (.block 0 (.loop (.seq (.seq (.region [⟨some 36, .mv (.t 10), none, []⟩, ⟨some 37, .mv (.t 2), none, []⟩, ⟨some 38, .len 1 (.t 37), none, [1]⟩, ⟨some 39, .mv (.t 3), none, []⟩, ⟨some 40, .len 1 (.t 39), none, [3]⟩,
 ⟨some 41, .bin .add (.t 38) (.t 40), none, [2, 4]⟩, ⟨some 42, .bin .lss (.t 36) (.t 41), none, [0, 5]⟩]) (.cond (.t 42) .skip (.exit 0))) (.seq (.block 1 (.seq (.region [⟨some 11, .mv (.c (.raw (.int .i64 (.ofNat 0)))), none, []⟩]) (.seq (.seq (.region [⟨some 45, .mv (.t 10), none, []⟩, ⟨some 46, .mv (.t 2), none, []⟩, ⟨some 47, .len 1 (.t 46), none, [1]⟩, ⟨some 48, .bin .lss (.t 45) (.t 47), none, [0, 2]⟩]) (.cond (.t 48) (.region [⟨some 49, .mv (.t 2), none, []⟩, ⟨some 50, .mv (.t 10), none, []⟩, ⟨some 51, .iaddr 1 (.t 49) (.t 50), none, [0, 1]⟩, ⟨some 52, .load false 1 (.t 51), none, [2]⟩, ⟨some 11, .mv (.t 52), none, [3, 0, 1, 2, 3]⟩]) (.region [⟨some 53, .mv (.t 3), none, []⟩, ⟨some 54, .mv (.t 10), none, []⟩, ⟨some 55, .mv (.t 2), none, []⟩, ⟨some 56, .len 1 (.t 55), none, [2]⟩, ⟨some 57, .bin .sub (.t 54) (.t 56), none, [1, 3]⟩,
 ⟨some 58, .iaddr 1 (.t 53) (.t 57), none, [0, 4]⟩, ⟨some 59, .load false 1 (.t 58), none, [5]⟩, ⟨some 11, .mv (.t 59), none, [6, 0, 1, 2, 3, 4, 5, 6]⟩]))) (.seq (.region [⟨some 60, .mv (.t 11), none, []⟩, ⟨some 61, .bin .lss (.t 60) (.c (.raw (.int .i64 (.ofNat 0)))), none, [0]⟩, ⟨some 62, .mv (.t 61), none, [1]⟩, ⟨some 63, .mv (.t 11), some (62, false), [2]⟩, ⟨some 64, .faddr 0 (.t 4), some (62, false), [2]⟩, ⟨some 65, .load false 1 (.t 64), some (62, false), [4, 2]⟩, ⟨some 66, .bin .geq (.t 63) (.t 65), some (62, false), [3, 5, 2]⟩, ⟨some 67, .pick (.t 62) (.c (.raw (.bool true))) (.t 66), none, [2, 6]⟩]) (.cond (.t 67) (.seq (.region [⟨some 68, .mv (.t 9), none, []⟩, ⟨some 8, .mv (.t 68), none, [0, 0]⟩]) .ret) .skip))))) (.region [⟨some 43, .mv (.t 10), none, []⟩, ⟨some 44, .bin .add (.t 43) (.c (.raw (.int .i64 (.ofNat 1)))), none, [0]⟩,
 ⟨some 10, .mv (.t 44), none, [1, 0, 1]⟩])))))) (.seq (.region [⟨some 69, .load true 3 (.t 4), none, []⟩, ⟨some 70, .mv (.t 1), none, []⟩, ⟨some 71, .mv (.t 2), none, []⟩, ⟨some 72, .call 23 [(.t 69), (.t 70), (.t 71)], none, [0, 1, 2]⟩, ⟨some 12, .mv (.t 72), none, [3, 3, 0, 1, 2, 3]⟩]) (.seq (.draw [⟨some 73, .load true 3 (.t 4), none, []⟩, ⟨some 74, .mv (.t 1), none, []⟩, ⟨some 75, .bslice 3 1 0 [(.raw (.int .i64 (.ofNat 0)))] [], none, []⟩, ⟨some 76, .mv (.t 2), none, []⟩, ⟨some 77, .append 3 1 8 (.t 75) (.t 76), none, [2, 3]⟩, ⟨some 78, .mv (.t 3), none, []⟩, ⟨some 79, .append 3 1 8 (.t 77) (.t 78), none, [4, 5, 4]⟩, ⟨some 80, .call 23 [(.t 73), (.t 74), (.t 79)], none, [0, 1, 6, 6]⟩, ⟨some 13, .mv (.t 80), none, [7, 7, 0, 1, 2, 3, 4, 5, 6, 7]⟩]) (.seq (.seq (.region [⟨some 81, .mv (.t 12), none, []⟩, ⟨some 82, .mv (.t 2), none, []⟩, ⟨some 83, .call 26 [(.t 82)], none, [1]⟩,
 ⟨some 84, .call 25 [(.t 81), (.t 83)], none, [0, 2, 2]⟩, ⟨some 85, .un .not (.t 84), none, [3]⟩, ⟨some 86, .mv (.t 85), none, [4, 3]⟩, ⟨some 87, .mv (.t 13), some (86, false), [5]⟩, ⟨some 88, .mv (.t 12), some (86, false), [5]⟩, ⟨some 89, .call 25 [(.t 87), (.t 88)], some (86, false), [6, 7, 5, 5]⟩, ⟨some 90, .un .not (.t 89), some (86, false), [8, 5]⟩, ⟨some 91, .pick (.t 86) (.c (.raw (.bool true))) (.t 90), none, [5, 9]⟩, ⟨some 92, .mv (.t 91), none, [10, 8]⟩, ⟨some 93, .load true 3 (.t 4), some (92, false), [11]⟩, ⟨some 94, .mv (.t 1), some (92, false), [11]⟩, ⟨some 95, .mv (.t 12), some (92, false), [11]⟩, ⟨some 96, .call 23 [(.t 93), (.t 94), (.t 95)], some (92, false), [12, 13, 14, 11, 11]⟩, ⟨some 97, .mv (.t 12), some (92, false), [11]⟩, ⟨some 98, .call 22 [(.t 96), (.t 97)], some (92, false), [15, 16, 15, 11]⟩, ⟨some 99, .un .not (.t 98), some (92, false), [17, 11]⟩,
 ⟨some 100, .pick (.t 92) (.c (.raw (.bool true))) (.t 99), none, [11, 18]⟩]) (.cond (.t 100) (.seq (.region [⟨some 8, .mv (.c (.raw (.bool false))), none, []⟩]) .ret) .skip)) (.seq (.seq (.region [⟨some 14, .mv (.c (.raw (.int .i64 (.ofNat 0)))), none, []⟩]) (.block 2 (.loop (.seq (.seq (.region [⟨some 101, .mv (.t 14), none, []⟩, ⟨some 102, .faddr 2 (.t 4), none, []⟩, ⟨some 103, .load false 1 (.t 102), none, [1]⟩, ⟨some 104, .len 1 (.t 103), none, [2]⟩, ⟨some 105, .bin .lss (.t 101) (.t 104), none, [0, 3]⟩]) (.cond (.t 105) .skip (.exit 2))) (.seq (.block 3 (.seq (.region [⟨some 108, .faddr 2 (.t 4), none, []⟩, ⟨some 109, .load false 1 (.t 108), none, [0]⟩, ⟨some 110, .mv (.t 14), none, []⟩, ⟨some 111, .iaddr 4 (.t 109) (.t 110), none, [1, 2]⟩, ⟨some 112, .load true 4 (.t 111), none, [3]⟩,
 ⟨some 15, .alloc 38 [(.raw (.int .i64 (.ofNat 0))), (.raw (.slice none 0 0)), (.raw (.slice none 0 0)), (.raw (.int .i64 (.ofNat 0)))], none, []⟩, ⟨none, .store 4 (.t 15) (.t 112), none, [5, 4, 0, 1, 2, 3, 4, 5]⟩]) (.seq (.region [⟨some 113, .mv (.t 14), none, []⟩, ⟨some 114, .mv (.t 1), none, []⟩, ⟨some 115, .bin .neq (.t 113) (.t 114), none, [0, 1]⟩, ⟨some 116, .mv (.t 115), none, [2]⟩, ⟨some 117, .mv (.t 12), some (116, true), [3]⟩, ⟨some 118, .faddr 2 (.t 15), some (116, true), [3]⟩, ⟨some 119, .load false 1 (.t 118), some (116, true), [5, 3]⟩, ⟨some 120, .faddr 3 (.t 15), some (116, true), [3]⟩, ⟨some 121, .load false 1 (.t 120), some (116, true), [7, 3]⟩, ⟨some 122, .slice 1 (.t 119) none (some (.t 121)) none, some (116, true), [6, 8, 3]⟩, ⟨some 123, .call 27 [(.t 122)], some (116, true), [9, 3, 3]⟩, ⟨some 124, .call 25 [(.t 117), (.t 123)], some (116, true), [4, 10, 10, 3]⟩,
 ⟨some 125, .pick (.t 116) (.t 124) (.c (.raw (.bool false))), none, [3, 11]⟩, ⟨some 126, .mv (.t 125), none, [12, 11]⟩, ⟨some 127, .mv (.t 12), some (126, true), [13]⟩, ⟨some 128, .faddr 2 (.t 15), some (126, true), [13]⟩, ⟨some 129, .load false 1 (.t 128), some (126, true), [15, 13]⟩, ⟨some 130, .call 27 [(.t 129)], some (126, true), [16, 13, 13]⟩, ⟨some 131, .call 25 [(.t 127), (.t 130)], some (126, true), [14, 17, 17, 13]⟩, ⟨some 132, .un .not (.t 131), some (126, true), [18, 13]⟩, ⟨some 133, .pick (.t 126) (.t 132) (.c (.raw (.bool false))), none, [13, 19]⟩]) (.cond (.t 133) (.seq (.region [⟨some 8, .mv (.c (.raw (.bool false))), none, []⟩]) .ret) .skip)))) (.region [⟨some 106, .mv (.t 14), none, []⟩, ⟨some 107, .bin .add (.t 106) (.c (.raw (.int .i64 (.ofNat 1)))), none, [0]⟩, ⟨some 14, .mv (.t 107), none, [1, 0, 1]⟩])))))) (.seq (.region [⟨some 134, .mv (.t 9), none, []⟩,
 ⟨some 8, .mv (.t 134), none, [0, 0]⟩]) .ret)))))))))
def i6 : IF := ⟨135, [.tmp 8], false, c6⟩

end K36
set_option maxRecDepth 100000
set_option maxHeartbeats 4000000
set_option linter.unusedVariables false
set_option linter.unusedSimpArgs false
namespace K36
open Go Go.Ai

theorem cls_sub {q : Qry} {f : Nat} {vs vs' : List Int} (h : ∀ x ∈ vs, 0 ≤ x → Cls q f vs' x) {t : Int} (hc : Cls q f vs t) : Cls q f vs' t := by
  induction hc with
  | base h1 h0 => exact h _ h1 h0
  | step i hi hif _ ht h0 ih => exact .step i hi hif ih ht h0

section
variable {cl : Cl}
theorem e_ld {nm k n o sz : Nat} {ag : Bool} {x : Opd} {cs : List D} {e lo : Nat} {d : D} {af : List Nat} {T : List D} {E : Env} {nt : Nat} {H : Heap} {nx ro : Nat} {Q : Ex × List D → St → Prop} {K : List D → St → Prop} (hT : T.length = nt) (hE : envOf T = E) (hk : Nat.blt k nt = true) (hx : evF E x = .ref n o) (hl : lk H n = some (.cells cs e lo)) (ht : takeN (cs.drop o) ag sz = some d)
    (h : ∀ T' : List D, T'.length = nt → envOf T' = put E k d → K T' ⟨H, nx, ro⟩) : stepD cl nm ⟨some k, .load ag sz x, none, af⟩ T Q K ⟨H, nx, ro⟩ := by
  have hx' : evO T x = .ref n o := by rw [evO_E hE]; exact hx
  simp only [stepD, wants, if_true, opD, isCall, readI, Bool.false_or, opM, exec, hx', hl, ht, Option.map_some]
  exact h _ (env_set hT hE hk d).1 (env_set hT hE hk d).2
end
section
variable {cl : Cl} {nt : Nat} {a b : IC} {E : Env} {s : St} {Q : Ex × Env → St → Prop}
theorem s_cut (hm : MonoQ cl) (P : Env → St → Prop) (h1 : CodeR cl nt a E s (EndQ fun r s' => r.1 = .nrm ∧ P r.2 s')) (h2 : ∀ E s, P E s → CodeR cl nt b E s Q) : CodeR cl nt a E s (SeqQ (fun E s => CodeR cl nt b E s Q) Q) := by
  refine h1.mono hm fun r s' hr => ?_
  obtain ⟨e, E'⟩ := r
  obtain ⟨h3, h4⟩ := hr.h
  dsimp only at h3
  subst h3
  exact q_c (h2 _ _ h4)
end


section
variable {cl : Cl} {E : Env} {s : St} {Q : Ex × Env → St → Prop} {rest : List IOp} {k : Nat} {af : List Nat} {x y : Opd}
theorem o_addn {u v : Nat} (hx : evF E x = I64 u) (hy : evF E y = I64 v) (h1 : u < 1000000) (h2 : v < 1000000) (h : OpsR cl rest (put E k (I64 ((u + v : Nat) : Int))) s Q) : OpsR cl (⟨some k, .bin .add x y, none, af⟩ :: rest) E s Q := by
  refine o_bin (w := .int .i64 ((u + v : Nat) : Int)) hx hy ?_ h
  have : ((u : Int) + (v : Int)) = ((u + v : Nat) : Int) := by omega
  simp only [bin, if_true, this, Go.IntWalk.i64_in _ (show -9223372036854775808 ≤ ((u + v : Nat) : Int) ∧ ((u + v : Nat) : Int) ≤ 9223372036854775807 by omega)]
theorem o_subN {u v j : Nat} (hx : evF E x = I64 u) (hy : evF E y = I64 v) (hj : u = v + j) (hb : u < 1000000) (h : OpsR cl rest (put E k (I64 j)) s Q) : OpsR cl (⟨some k, .bin .sub x y, none, af⟩ :: rest) E s Q := by
  refine o_bin (w := .int .i64 (j : Int)) hx hy ?_ h
  have : ((u : Int) - (v : Int)) = (j : Int) := by omega
  simp only [bin, if_true, this, Go.IntWalk.i64_in _ (show -9223372036854775808 ≤ (j : Int) ∧ (j : Int) ≤ 9223372036854775807 by omega)]
end

def closL0 : IC := innC (sndC (fstC (sndC (sndC (sndC c6)))))
def closL2 : IC := innC (sndC (fstC (sndC (sndC (sndC (sndC (sndC (sndC (sndC c6)))))))))

/-- The look at the lists: behind it, all of them are variables of the query. -/
theorem closRange {cl : Cl} (hm : MonoQ cl) (q : Qry) (w : Int) (one two : List Int) (h1 : one.length ≤ 60) (h2 : two.length ≤ 60) {E : Env} {s : St} {Q : Ex × Env → St → Prop} (hq : lk s.H 0 = some (.cells q.cells 25 0))
    (hE : Agree E [(1, I64 w), (2, intL one), (3, intL two), (4, .ref 0 0), (9, B true), (10, I64 ((0 : Nat) : Int))])
    (hR : ∀ E', E' 8 = B true → Q (.ret, E') s) (hQ : ∀ E', q.inside (one ++ two) → Agree E' [(1, I64 w), (2, intL one), (3, intL two), (4, .ref 0 0), (9, B true)] → Q (.nrm, E') s) : CodeR cl 135 closL0 E s (BlockQ 0 Q) := by
  obtain ⟨H, nx, ro⟩ := s
  show CodeR cl 135 (.loop _) E _ _
  refine c_loop hm (fun m E s' => ∃ (i : Nat) (E0 : Env), m = one.length + two.length - i ∧ i ≤ one.length + two.length ∧ (∀ j, j < i → 0 ≤ (one ++ two).getD j 0 ∧ (one ++ two).getD j 0 < q.vars) ∧ E = puts E0 [(1, I64 w), (2, intL one), (3, intL two), (4, .ref 0 0), (9, B true), (10, I64 i)] ∧ s' = ⟨H, nx, ro⟩)
    (n0 := one.length + two.length) ⟨0, _, rfl, Nat.zero_le _, fun j hj => absurd hj (Nat.not_lt_zero _), puts_ex hE, rfl⟩ ?_
  clear hE
  rintro m E s' ⟨i, E0, rfl, hi, hall, rfl, rfl⟩
  have l1 : (one.map fun t => [I64 t]).length = one.length := List.length_map ..
  have l2 : (two.map fun t => [I64 t]).length = two.length := List.length_map ..
  repeat' (first | refine c_seq hm ?_ | refine c_region ?_ | refine o_nil ?_ | refine q_c ?_ | refine c_skip ?_ | refine c_ret ?_ | refine c_exit ?_ | refine c_scope ?_ | refine c_block hm ?_ | refine q_ret ?_ | refine q_exit ?_ | refine b_nrm ?_ | refine b_ret ?_ | refine b_hit ?_ | refine b_miss (by decide) ?_ | refine l_ret ?_ | refine l_exit ?_ | refine o_mv rfl ?_ | refine g_yes rfl (by first | rfl | assumption) ?_ | refine g_no rfl (by first | rfl | assumption) ?_ | refine o_pick_t rfl (by first | rfl | assumption) rfl ?_ | refine o_pick_f rfl (by first | rfl | assumption) rfl ?_ | refine o_lss rfl rfl ?_ | refine o_leq rfl rfl ?_ | refine o_gtr rfl rfl ?_ | refine o_geq rfl rfl ?_ | refine o_eql rfl rfl ?_ | refine o_neq rfl rfl ?_ | refine o_neqs rfl rfl ?_ | refine o_not rfl ?_ | refine o_eqb rfl rfl ?_ | refine o_neg rfl ?_ | refine o_len_lst rfl ?_ | refine o_len_sl rfl ?_ | refine o_len_nil rfl ?_ | refine o_len_str rfl ?_ | refine o_faddr_ref rfl ?_ | refine o_faddr_iptr rfl ?_ | refine o_alloc rfl ?_ | refine o_box rfl rfl ?_ | refine o_mkmap ?_ | refine o_load_iptr rfl rfl ?_ | refine o_load_ref rfl (by repeat (first | exact lk_here _ _ _ | assumption | refine lk_skip (by omega) ?_ | refine lk_updS (by omega) ?_ | refine lk_rmS (by omega) ?_ | refine lk_normS ?_ | exact lk_updH (by repeat (first | exact lk_here _ _ _ | assumption | refine lk_skip (by omega) ?_ | refine lk_updS (by omega) ?_ | refine lk_rmS (by omega) ?_ | refine lk_normS ?_)))) (by rfl) ?_ | refine o_extract rfl rfl ?_ | refine o_mkfn ?_ | refine o_store_top rfl rfl rfl rfl rfl rfl (by omega) ?_ | refine o_nilChk_ref rfl ?_ | refine c_true rfl (by first | rfl | assumption) ?_ | refine c_false rfl (by first | rfl | assumption) ?_ | refine g_split rfl (fun hg => ?_) (fun hg => ?_) | refine c_cond rfl (fun hg => ?_) (fun hg => ?_))
  refine o_addn rfl rfl (by omega) (by omega) ?_
  have fin : ∀ (E : Env) (v : Int), (one ++ two).getD i 0 = v → i < one.length + two.length → Agree E [(1, I64 w), (2, intL one), (3, intL two), (4, .ref 0 0), (9, B true), (10, I64 i), (11, I64 v)] → True := fun _ _ _ _ _ => trivial
  clear fin
  have next : i < one.length + two.length → 0 ≤ (one ++ two).getD i 0 → (one ++ two).getD i 0 < q.vars → ∀ j, j < i + 1 → 0 ≤ (one ++ two).getD j 0 ∧ (one ++ two).getD j 0 < q.vars := by
    intro _ h3 h4 j hj
    rcases Nat.lt_succ_iff_lt_or_eq.1 hj with h | h
    · exact hall j h
    · subst h; exact ⟨h3, h4⟩
  rw [l1, l2]
  repeat' (first | refine c_seq hm ?_ | refine c_region ?_ | refine o_nil ?_ | refine q_c ?_ | refine c_skip ?_ | refine c_ret ?_ | refine c_exit ?_ | refine c_scope ?_ | refine c_block hm ?_ | refine q_ret ?_ | refine q_exit ?_ | refine b_nrm ?_ | refine b_ret ?_ | refine b_hit ?_ | refine b_miss (by decide) ?_ | refine l_ret ?_ | refine l_exit ?_ | refine o_mv rfl ?_ | refine g_yes rfl (by first | rfl | assumption) ?_ | refine g_no rfl (by first | rfl | assumption) ?_ | refine o_pick_t rfl (by first | rfl | assumption) rfl ?_ | refine o_pick_f rfl (by first | rfl | assumption) rfl ?_ | refine o_lss rfl rfl ?_ | refine o_leq rfl rfl ?_ | refine o_gtr rfl rfl ?_ | refine o_geq rfl rfl ?_ | refine o_eql rfl rfl ?_ | refine o_neq rfl rfl ?_ | refine o_neqs rfl rfl ?_ | refine o_not rfl ?_ | refine o_eqb rfl rfl ?_ | refine o_neg rfl ?_ | refine o_len_lst rfl ?_ | refine o_len_sl rfl ?_ | refine o_len_nil rfl ?_ | refine o_len_str rfl ?_ | refine o_faddr_ref rfl ?_ | refine o_faddr_iptr rfl ?_ | refine o_alloc rfl ?_ | refine o_box rfl rfl ?_ | refine o_mkmap ?_ | refine o_load_iptr rfl rfl ?_ | refine o_load_ref rfl (by repeat (first | exact lk_here _ _ _ | assumption | refine lk_skip (by omega) ?_ | refine lk_updS (by omega) ?_ | refine lk_rmS (by omega) ?_ | refine lk_normS ?_ | exact lk_updH (by repeat (first | exact lk_here _ _ _ | assumption | refine lk_skip (by omega) ?_ | refine lk_updS (by omega) ?_ | refine lk_rmS (by omega) ?_ | refine lk_normS ?_)))) (by rfl) ?_ | refine o_extract rfl rfl ?_ | refine o_mkfn ?_ | refine o_store_top rfl rfl rfl rfl rfl rfl (by omega) ?_ | refine o_nilChk_ref rfl ?_ | refine c_true rfl (by first | rfl | assumption) ?_ | refine c_false rfl (by first | rfl | assumption) ?_ | refine g_split rfl (fun hg => ?_) (fun hg => ?_) | refine c_cond rfl (fun hg => ?_) (fun hg => ?_))
  · have hlt : i < one.length + two.length := by
      have := (by assumption : decide ((i : Int) < ((one.length + two.length : Nat) : Int)) = true)
      simp at this
      omega
    have hl1 : i < one.length := by
      have := (by assumption : decide ((i : Int) < ((one.map fun t => [I64 t]).length : Int)) = true)
      simpa using this
    have hv : (one ++ two).getD i 0 = one.getD i 0 := by simp [List.getD_eq_getElem?_getD, List.getElem?_append, hl1]
    refine o_iaddr_lst (cs := [I64 (one.getD i 0)]) rfl rfl (by simp [hl1]) rfl ?_
    rw [hv] at next
    generalize one.getD i 0 = v at *
    repeat' (first | refine c_seq hm ?_ | refine c_region ?_ | refine o_nil ?_ | refine q_c ?_ | refine c_skip ?_ | refine c_ret ?_ | refine c_exit ?_ | refine c_scope ?_ | refine c_block hm ?_ | refine q_ret ?_ | refine q_exit ?_ | refine b_nrm ?_ | refine b_ret ?_ | refine b_hit ?_ | refine b_miss (by decide) ?_ | refine l_ret ?_ | refine l_exit ?_ | refine o_mv rfl ?_ | refine g_yes rfl (by first | rfl | assumption) ?_ | refine g_no rfl (by first | rfl | assumption) ?_ | refine o_pick_t rfl (by first | rfl | assumption) rfl ?_ | refine o_pick_f rfl (by first | rfl | assumption) rfl ?_ | refine o_lss rfl rfl ?_ | refine o_leq rfl rfl ?_ | refine o_gtr rfl rfl ?_ | refine o_geq rfl rfl ?_ | refine o_eql rfl rfl ?_ | refine o_neq rfl rfl ?_ | refine o_neqs rfl rfl ?_ | refine o_not rfl ?_ | refine o_eqb rfl rfl ?_ | refine o_neg rfl ?_ | refine o_len_lst rfl ?_ | refine o_len_sl rfl ?_ | refine o_len_nil rfl ?_ | refine o_len_str rfl ?_ | refine o_faddr_ref rfl ?_ | refine o_faddr_iptr rfl ?_ | refine o_alloc rfl ?_ | refine o_box rfl rfl ?_ | refine o_mkmap ?_ | refine o_load_iptr rfl rfl ?_ | refine o_load_ref rfl (by repeat (first | exact lk_here _ _ _ | assumption | refine lk_skip (by omega) ?_ | refine lk_updS (by omega) ?_ | refine lk_rmS (by omega) ?_ | refine lk_normS ?_ | exact lk_updH (by repeat (first | exact lk_here _ _ _ | assumption | refine lk_skip (by omega) ?_ | refine lk_updS (by omega) ?_ | refine lk_rmS (by omega) ?_ | refine lk_normS ?_)))) (by rfl) ?_ | refine o_extract rfl rfl ?_ | refine o_mkfn ?_ | refine o_store_top rfl rfl rfl rfl rfl rfl (by omega) ?_ | refine o_nilChk_ref rfl ?_ | refine c_true rfl (by first | rfl | assumption) ?_ | refine c_false rfl (by first | rfl | assumption) ?_ | refine g_split rfl (fun hg => ?_) (fun hg => ?_) | refine c_cond rfl (fun hg => ?_) (fun hg => ?_))
    · exact hR _ rfl
    · have h3 := (by assumption : decide (v ≥ q.vars) = false)
      have h4 := (by assumption : decide (v < Int.ofNat 0) = false)
      refine o_inc rfl (by omega) ?_
      repeat' (first | refine c_seq hm ?_ | refine c_region ?_ | refine o_nil ?_ | refine q_c ?_ | refine c_skip ?_ | refine c_ret ?_ | refine c_exit ?_ | refine c_scope ?_ | refine c_block hm ?_ | refine q_ret ?_ | refine q_exit ?_ | refine b_nrm ?_ | refine b_ret ?_ | refine b_hit ?_ | refine b_miss (by decide) ?_ | refine l_ret ?_ | refine l_exit ?_ | refine o_mv rfl ?_ | refine g_yes rfl (by first | rfl | assumption) ?_ | refine g_no rfl (by first | rfl | assumption) ?_ | refine o_pick_t rfl (by first | rfl | assumption) rfl ?_ | refine o_pick_f rfl (by first | rfl | assumption) rfl ?_ | refine o_lss rfl rfl ?_ | refine o_leq rfl rfl ?_ | refine o_gtr rfl rfl ?_ | refine o_geq rfl rfl ?_ | refine o_eql rfl rfl ?_ | refine o_neq rfl rfl ?_ | refine o_neqs rfl rfl ?_ | refine o_not rfl ?_ | refine o_eqb rfl rfl ?_ | refine o_neg rfl ?_ | refine o_len_lst rfl ?_ | refine o_len_sl rfl ?_ | refine o_len_nil rfl ?_ | refine o_len_str rfl ?_ | refine o_faddr_ref rfl ?_ | refine o_faddr_iptr rfl ?_ | refine o_alloc rfl ?_ | refine o_box rfl rfl ?_ | refine o_mkmap ?_ | refine o_load_iptr rfl rfl ?_ | refine o_load_ref rfl (by repeat (first | exact lk_here _ _ _ | assumption | refine lk_skip (by omega) ?_ | refine lk_updS (by omega) ?_ | refine lk_rmS (by omega) ?_ | refine lk_normS ?_ | exact lk_updH (by repeat (first | exact lk_here _ _ _ | assumption | refine lk_skip (by omega) ?_ | refine lk_updS (by omega) ?_ | refine lk_rmS (by omega) ?_ | refine lk_normS ?_)))) (by rfl) ?_ | refine o_extract rfl rfl ?_ | refine o_mkfn ?_ | refine o_store_top rfl rfl rfl rfl rfl rfl (by omega) ?_ | refine o_nilChk_ref rfl ?_ | refine c_true rfl (by first | rfl | assumption) ?_ | refine c_false rfl (by first | rfl | assumption) ?_ | refine g_split rfl (fun hg => ?_) (fun hg => ?_) | refine c_cond rfl (fun hg => ?_) (fun hg => ?_))
      exact l_nrm (one.length + two.length - (i + 1)) (by omega) ⟨i + 1, _, rfl, hlt, next hlt (Int.not_lt.1 (of_decide_eq_false h4)) (Int.not_le.1 (of_decide_eq_false h3)), puts_ex ⟨rfl, rfl, rfl, rfl, rfl, rfl, trivial⟩, rfl⟩
    · exact hR _ rfl
  · have hlt : i < one.length + two.length := by
      have := (by assumption : decide ((i : Int) < ((one.length + two.length : Nat) : Int)) = true)
      simp at this
      omega
    have hl1 : one.length ≤ i := by
      have := (by assumption : decide ((i : Int) < ((one.map fun t => [I64 t]).length : Int)) = false)
      simpa using this
    obtain ⟨j, rfl⟩ : ∃ j, i = one.length + j := ⟨i - one.length, by omega⟩
    have hj2 : j < two.length := by omega
    have hv : (one ++ two).getD (one.length + j) 0 = two.getD j 0 := by
      rw [List.getD_eq_getElem?_getD, List.getD_eq_getElem?_getD, List.getElem?_append_right (Nat.le_add_right _ _), Nat.add_sub_cancel_left]
    refine o_subN (j := j) rfl rfl (by omega) (by omega) ?_
    repeat' (first | refine c_seq hm ?_ | refine c_region ?_ | refine o_nil ?_ | refine q_c ?_ | refine c_skip ?_ | refine c_ret ?_ | refine c_exit ?_ | refine c_scope ?_ | refine c_block hm ?_ | refine q_ret ?_ | refine q_exit ?_ | refine b_nrm ?_ | refine b_ret ?_ | refine b_hit ?_ | refine b_miss (by decide) ?_ | refine l_ret ?_ | refine l_exit ?_ | refine o_mv rfl ?_ | refine g_yes rfl (by first | rfl | assumption) ?_ | refine g_no rfl (by first | rfl | assumption) ?_ | refine o_pick_t rfl (by first | rfl | assumption) rfl ?_ | refine o_pick_f rfl (by first | rfl | assumption) rfl ?_ | refine o_lss rfl rfl ?_ | refine o_leq rfl rfl ?_ | refine o_gtr rfl rfl ?_ | refine o_geq rfl rfl ?_ | refine o_eql rfl rfl ?_ | refine o_neq rfl rfl ?_ | refine o_neqs rfl rfl ?_ | refine o_not rfl ?_ | refine o_eqb rfl rfl ?_ | refine o_neg rfl ?_ | refine o_len_lst rfl ?_ | refine o_len_sl rfl ?_ | refine o_len_nil rfl ?_ | refine o_len_str rfl ?_ | refine o_faddr_ref rfl ?_ | refine o_faddr_iptr rfl ?_ | refine o_alloc rfl ?_ | refine o_box rfl rfl ?_ | refine o_mkmap ?_ | refine o_load_iptr rfl rfl ?_ | refine o_load_ref rfl (by repeat (first | exact lk_here _ _ _ | assumption | refine lk_skip (by omega) ?_ | refine lk_updS (by omega) ?_ | refine lk_rmS (by omega) ?_ | refine lk_normS ?_ | exact lk_updH (by repeat (first | exact lk_here _ _ _ | assumption | refine lk_skip (by omega) ?_ | refine lk_updS (by omega) ?_ | refine lk_rmS (by omega) ?_ | refine lk_normS ?_)))) (by rfl) ?_ | refine o_extract rfl rfl ?_ | refine o_mkfn ?_ | refine o_store_top rfl rfl rfl rfl rfl rfl (by omega) ?_ | refine o_nilChk_ref rfl ?_ | refine c_true rfl (by first | rfl | assumption) ?_ | refine c_false rfl (by first | rfl | assumption) ?_ | refine g_split rfl (fun hg => ?_) (fun hg => ?_) | refine c_cond rfl (fun hg => ?_) (fun hg => ?_))
    refine o_iaddr_lst (cs := [I64 (two.getD j 0)]) rfl rfl (by simp [hj2]) rfl ?_
    rw [hv] at next
    generalize two.getD j 0 = v at *
    repeat' (first | refine c_seq hm ?_ | refine c_region ?_ | refine o_nil ?_ | refine q_c ?_ | refine c_skip ?_ | refine c_ret ?_ | refine c_exit ?_ | refine c_scope ?_ | refine c_block hm ?_ | refine q_ret ?_ | refine q_exit ?_ | refine b_nrm ?_ | refine b_ret ?_ | refine b_hit ?_ | refine b_miss (by decide) ?_ | refine l_ret ?_ | refine l_exit ?_ | refine o_mv rfl ?_ | refine g_yes rfl (by first | rfl | assumption) ?_ | refine g_no rfl (by first | rfl | assumption) ?_ | refine o_pick_t rfl (by first | rfl | assumption) rfl ?_ | refine o_pick_f rfl (by first | rfl | assumption) rfl ?_ | refine o_lss rfl rfl ?_ | refine o_leq rfl rfl ?_ | refine o_gtr rfl rfl ?_ | refine o_geq rfl rfl ?_ | refine o_eql rfl rfl ?_ | refine o_neq rfl rfl ?_ | refine o_neqs rfl rfl ?_ | refine o_not rfl ?_ | refine o_eqb rfl rfl ?_ | refine o_neg rfl ?_ | refine o_len_lst rfl ?_ | refine o_len_sl rfl ?_ | refine o_len_nil rfl ?_ | refine o_len_str rfl ?_ | refine o_faddr_ref rfl ?_ | refine o_faddr_iptr rfl ?_ | refine o_alloc rfl ?_ | refine o_box rfl rfl ?_ | refine o_mkmap ?_ | refine o_load_iptr rfl rfl ?_ | refine o_load_ref rfl (by repeat (first | exact lk_here _ _ _ | assumption | refine lk_skip (by omega) ?_ | refine lk_updS (by omega) ?_ | refine lk_rmS (by omega) ?_ | refine lk_normS ?_ | exact lk_updH (by repeat (first | exact lk_here _ _ _ | assumption | refine lk_skip (by omega) ?_ | refine lk_updS (by omega) ?_ | refine lk_rmS (by omega) ?_ | refine lk_normS ?_)))) (by rfl) ?_ | refine o_extract rfl rfl ?_ | refine o_mkfn ?_ | refine o_store_top rfl rfl rfl rfl rfl rfl (by omega) ?_ | refine o_nilChk_ref rfl ?_ | refine c_true rfl (by first | rfl | assumption) ?_ | refine c_false rfl (by first | rfl | assumption) ?_ | refine g_split rfl (fun hg => ?_) (fun hg => ?_) | refine c_cond rfl (fun hg => ?_) (fun hg => ?_))
    · exact hR _ rfl
    · have h3 := (by assumption : decide (v ≥ q.vars) = false)
      have h4 := (by assumption : decide (v < Int.ofNat 0) = false)
      refine o_inc rfl (by omega) ?_
      repeat' (first | refine c_seq hm ?_ | refine c_region ?_ | refine o_nil ?_ | refine q_c ?_ | refine c_skip ?_ | refine c_ret ?_ | refine c_exit ?_ | refine c_scope ?_ | refine c_block hm ?_ | refine q_ret ?_ | refine q_exit ?_ | refine b_nrm ?_ | refine b_ret ?_ | refine b_hit ?_ | refine b_miss (by decide) ?_ | refine l_ret ?_ | refine l_exit ?_ | refine o_mv rfl ?_ | refine g_yes rfl (by first | rfl | assumption) ?_ | refine g_no rfl (by first | rfl | assumption) ?_ | refine o_pick_t rfl (by first | rfl | assumption) rfl ?_ | refine o_pick_f rfl (by first | rfl | assumption) rfl ?_ | refine o_lss rfl rfl ?_ | refine o_leq rfl rfl ?_ | refine o_gtr rfl rfl ?_ | refine o_geq rfl rfl ?_ | refine o_eql rfl rfl ?_ | refine o_neq rfl rfl ?_ | refine o_neqs rfl rfl ?_ | refine o_not rfl ?_ | refine o_eqb rfl rfl ?_ | refine o_neg rfl ?_ | refine o_len_lst rfl ?_ | refine o_len_sl rfl ?_ | refine o_len_nil rfl ?_ | refine o_len_str rfl ?_ | refine o_faddr_ref rfl ?_ | refine o_faddr_iptr rfl ?_ | refine o_alloc rfl ?_ | refine o_box rfl rfl ?_ | refine o_mkmap ?_ | refine o_load_iptr rfl rfl ?_ | refine o_load_ref rfl (by repeat (first | exact lk_here _ _ _ | assumption | refine lk_skip (by omega) ?_ | refine lk_updS (by omega) ?_ | refine lk_rmS (by omega) ?_ | refine lk_normS ?_ | exact lk_updH (by repeat (first | exact lk_here _ _ _ | assumption | refine lk_skip (by omega) ?_ | refine lk_updS (by omega) ?_ | refine lk_rmS (by omega) ?_ | refine lk_normS ?_)))) (by rfl) ?_ | refine o_extract rfl rfl ?_ | refine o_mkfn ?_ | refine o_store_top rfl rfl rfl rfl rfl rfl (by omega) ?_ | refine o_nilChk_ref rfl ?_ | refine c_true rfl (by first | rfl | assumption) ?_ | refine c_false rfl (by first | rfl | assumption) ?_ | refine g_split rfl (fun hg => ?_) (fun hg => ?_) | refine c_cond rfl (fun hg => ?_) (fun hg => ?_))
      exact l_nrm (one.length + two.length - (one.length + j + 1)) (by omega) ⟨one.length + j + 1, _, rfl, hlt, next hlt (Int.not_lt.1 (of_decide_eq_false h4)) (Int.not_le.1 (of_decide_eq_false h3)), puts_ex ⟨rfl, rfl, rfl, rfl, rfl, rfl, trivial⟩, rfl⟩
    · exact hR _ rfl
  · have hge : one.length + two.length ≤ i := by
      have := (by assumption : decide ((i : Int) < ((one.length + two.length : Nat) : Int)) = false)
      simp at this
      omega
    refine hQ _ (fun v hv => ?_) ⟨rfl, rfl, rfl, rfl, rfl, trivial⟩
    obtain ⟨j, hj, rfl⟩ := mem_getD hv
    rw [List.length_append] at hj
    exact hall j (by omega)
end K36
