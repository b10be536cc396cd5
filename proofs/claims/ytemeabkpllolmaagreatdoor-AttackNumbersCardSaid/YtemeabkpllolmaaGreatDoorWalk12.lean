/-
  A part of the walk through the law: what its functions compute. Conditions: none beyond the statement.
-/
import Derived.Test.YtemeabkpllolmaaGreatDoorCode
import Derived.Test.YtemeabkpllolmaaGreatDoorWalk10
import Derived.Test.YtemeabkpllolmaaGreatDoorInt12
/-! Functions in the form of the interpreter, printed by a program. -/
set_option maxRecDepth 100000
namespace K36
open Go Go.Ai
/-- cleanse/cleanselaw36.AttackNumbers -/
def c4 : IC := (.seq (.region [⟨some 1, .box 25 (.t 0), none, []⟩, ⟨some 2, .mv (.c (.raw (.bool false))), none, []⟩]) (.seq (.region [⟨some 20, .call 9 [], none, []⟩, ⟨some 3, .mv (.t 20), none, [0, 0, 0]⟩]) (.seq (.seq (.region [⟨some 21, .load true 3 (.t 1), none, []⟩, ⟨some 22, .call 10 [(.t 21), (.c (.raw (.int .i64 (.ofNat 8))))], none, [0]⟩, ⟨some 23, .un .not (.t 22), none, [1]⟩, ⟨some 24, .mv (.t 23), none, [2, 1]⟩, ⟨some 25, .load true 3 (.t 1), some (24, false), [3]⟩, ⟨some 26, .call 11 [(.t 25)], some (24, false), [4, 3, 3]⟩, ⟨some 27, .un .not (.t 26), some (24, false), [5, 3]⟩, ⟨some 28, .pick (.t 24) (.c (.raw (.bool true))) (.t 27), none, [3, 6]⟩]) (.cond (.t 28) (.seq (.region [⟨some 29, .mv (.t 3), none, []⟩, ⟨some 2, .mv (.t 29), none, [0, 0]⟩]) .ret) .skip)) (.seq (.region [⟨some 30, .faddr 2 (.t 1), none, []⟩, ⟨some 31, .load false 1 (.t 30), none, [0]⟩,
 ⟨some 32, .len 1 (.t 31), none, [1]⟩, ⟨some 4, .mv (.t 32), none, [2, 0, 1, 2]⟩]) (.seq (.region [⟨some 33, .faddr 0 (.t 1), none, []⟩, ⟨some 34, .load false 1 (.t 33), none, [0]⟩, ⟨some 35, .faddr 1 (.t 1), none, []⟩, ⟨some 36, .load false 1 (.t 35), none, [2]⟩, ⟨some 37, .build [(.raw (.int .i64 (.ofNat 0))), (.raw (.slice none 0 0)), (.raw (.slice none 0 0))] [(0, 1, (.t 34)), (1, 1, (.t 36))], none, [1, 3]⟩, ⟨some 5, .alloc 25 [(.raw (.int .i64 (.ofNat 0))), (.raw (.slice none 0 0)), (.raw (.slice none 0 0))], none, []⟩, ⟨none, .store 3 (.t 5) (.t 37), none, [5, 4, 0, 1, 2, 3, 4, 5]⟩]) (.seq (.seq (.region [⟨some 38, .mv (.t 4), none, []⟩, ⟨some 39, .bin .sub (.t 38) (.c (.raw (.int .i64 (.ofNat 1)))), none, [0]⟩, ⟨some 6, .mv (.t 39), none, [1, 0, 1]⟩]) (.block 0 (.loop (.seq (.seq (.region [⟨some 40, .mv (.t 6), none, []⟩,
 ⟨some 41, .bin .geq (.t 40) (.c (.raw (.int .i64 (.ofNat 0)))), none, [0]⟩]) (.cond (.t 41) .skip (.exit 0))) (.seq (.block 1 (.seq (.region [⟨some 44, .faddr 2 (.t 1), none, []⟩, ⟨some 45, .load false 1 (.t 44), none, [0]⟩, ⟨some 46, .mv (.t 6), none, []⟩, ⟨some 47, .iaddr 4 (.t 45) (.t 46), none, [1, 2]⟩, ⟨some 48, .load true 4 (.t 47), none, [3]⟩, ⟨some 7, .alloc 38 [(.raw (.int .i64 (.ofNat 0))), (.raw (.slice none 0 0)), (.raw (.slice none 0 0)), (.raw (.int .i64 (.ofNat 0)))], none, []⟩, ⟨none, .store 4 (.t 7) (.t 48), none, [5, 4, 0, 1, 2, 3, 4, 5]⟩]) (.seq (.region [⟨some 49, .faddr 2 (.t 7), none, []⟩, ⟨none, .store 1 (.t 49) (.c (.raw (.slice none 0 0))), none, [0]⟩]) (.seq (.seq (.region [⟨some 8, .mv (.c (.raw (.int .i64 (.ofNat 0)))), none, []⟩]) (.block 2 (.loop (.seq (.seq (.region [⟨some 50, .mv (.t 8), none, []⟩, ⟨some 51, .faddr 2 (.t 1), none, []⟩,
 ⟨some 52, .load false 1 (.t 51), none, [1]⟩, ⟨some 53, .mv (.t 6), none, []⟩, ⟨some 54, .iaddr 4 (.t 52) (.t 53), none, [2, 3]⟩, ⟨some 55, .faddr 2 (.t 54), none, [4]⟩, ⟨some 56, .load false 1 (.t 55), none, [5]⟩, ⟨some 57, .len 1 (.t 56), none, [6]⟩, ⟨some 58, .bin .lss (.t 50) (.t 57), none, [0, 7]⟩]) (.cond (.t 58) .skip (.exit 2))) (.seq (.block 3 (.seq (.region [⟨some 61, .faddr 2 (.t 1), none, []⟩, ⟨some 62, .load false 1 (.t 61), none, [0]⟩, ⟨some 63, .mv (.t 6), none, []⟩, ⟨some 64, .iaddr 4 (.t 62) (.t 63), none, [1, 2]⟩, ⟨some 65, .faddr 2 (.t 64), none, [3]⟩, ⟨some 66, .load false 1 (.t 65), none, [4]⟩, ⟨some 67, .mv (.t 8), none, []⟩, ⟨some 68, .iaddr 1 (.t 66) (.t 67), none, [5, 6]⟩, ⟨some 69, .load false 1 (.t 68), none, [7]⟩, ⟨some 9, .mv (.t 69), none, [8, 0, 1, 2, 3, 4, 5, 6, 7, 8]⟩]) (.seq (.seq (.region [⟨some 70, .mv (.t 9), none, []⟩,
 ⟨some 71, .bin .geq (.t 70) (.c (.raw (.int .i64 (.ofNat 0)))), none, [0]⟩]) (.cond (.t 71) (.region [⟨some 72, .faddr 0 (.t 1), none, []⟩, ⟨some 73, .load false 1 (.t 72), none, [0]⟩, ⟨some 74, .bin .sub (.t 73) (.c (.raw (.int .i64 (.ofNat 1)))), none, [1]⟩, ⟨some 75, .mv (.t 9), none, []⟩, ⟨some 76, .bin .sub (.t 74) (.t 75), none, [2, 3]⟩, ⟨some 9, .mv (.t 76), none, [4, 0, 1, 2, 3, 4]⟩]) .skip)) (.region [⟨some 77, .faddr 2 (.t 7), none, []⟩, ⟨some 78, .load false 1 (.t 77), none, [0]⟩, ⟨some 79, .mv (.t 9), none, []⟩, ⟨some 80, .bslice 3 1 1 [(.raw (.int .i64 (.ofNat 0)))] [(0, 1, (.t 79))], none, [2]⟩, ⟨some 81, .append 3 1 8 (.t 78) (.t 80), none, [1, 3]⟩, ⟨some 82, .faddr 2 (.t 7), none, [0, 1, 2, 3, 4]⟩, ⟨none, .store 1 (.t 82) (.t 81), none, [5, 4, 4, 0, 1, 2, 3, 4]⟩])))) (.region [⟨some 59, .mv (.t 8), none, []⟩,
 ⟨some 60, .bin .add (.t 59) (.c (.raw (.int .i64 (.ofNat 1)))), none, [0]⟩, ⟨some 8, .mv (.t 60), none, [1, 0, 1]⟩])))))) (.region [⟨some 83, .faddr 2 (.t 5), none, []⟩, ⟨some 84, .load false 1 (.t 83), none, [0]⟩, ⟨some 85, .load true 4 (.t 7), none, []⟩, ⟨some 86, .bslice 38 4 1 [(.raw (.int .i64 (.ofNat 0))), (.raw (.slice none 0 0)), (.raw (.slice none 0 0)), (.raw (.int .i64 (.ofNat 0)))] [(0, 4, (.t 85))], none, [2]⟩, ⟨some 87, .append 38 4 64 (.t 84) (.t 86), none, [1, 3]⟩, ⟨some 88, .faddr 2 (.t 5), none, [0, 1, 2, 3, 4]⟩, ⟨none, .store 1 (.t 88) (.t 87), none, [5, 4, 4, 0, 1, 2, 3, 4]⟩]))))) (.region [⟨some 42, .mv (.t 6), none, []⟩, ⟨some 43, .bin .sub (.t 42) (.c (.raw (.int .i64 (.ofNat 1)))), none, [0]⟩, ⟨some 6, .mv (.t 43), none, [1, 0, 1]⟩])))))) (.seq (.region [⟨some 90, .load true 3 (.t 1), none, []⟩, ⟨some 91, .call 12 [(.t 90)], none, [0]⟩,
 ⟨some 89, .mv (.t 91), none, [1]⟩, ⟨some 92, .extract (.t 89) 0, none, [2]⟩, ⟨some 93, .extract (.t 89) 1, none, [2]⟩, ⟨some 10, .mv (.t 92), none, [3, 1, 0, 1, 2, 3]⟩, ⟨some 11, .mv (.t 93), none, [4, 5, 0, 1, 2, 3, 4, 5]⟩]) (.seq (.region [⟨some 95, .load true 3 (.t 5), none, []⟩, ⟨some 96, .call 12 [(.t 95)], none, [0]⟩, ⟨some 94, .mv (.t 96), none, [1]⟩, ⟨some 97, .extract (.t 94) 0, none, [2]⟩, ⟨some 98, .extract (.t 94) 1, none, [2]⟩, ⟨some 12, .mv (.t 97), none, [3, 1, 0, 1, 2, 3]⟩, ⟨some 13, .mv (.t 98), none, [4, 5, 0, 1, 2, 3, 4, 5]⟩]) (.seq (.region [⟨some 100, .load true 3 (.t 1), none, []⟩, ⟨some 101, .call 13 [(.t 100)], none, [0]⟩, ⟨some 99, .mv (.t 101), none, [1]⟩, ⟨some 102, .extract (.t 99) 0, none, [2]⟩, ⟨some 103, .extract (.t 99) 1, none, [2]⟩, ⟨some 14, .mv (.t 102), none, [3, 1, 0, 1, 2, 3]⟩,
 ⟨some 15, .mv (.t 103), none, [4, 5, 0, 1, 2, 3, 4, 5]⟩]) (.seq (.region [⟨some 105, .load true 3 (.t 5), none, []⟩, ⟨some 106, .call 13 [(.t 105)], none, [0]⟩, ⟨some 104, .mv (.t 106), none, [1]⟩, ⟨some 107, .extract (.t 104) 0, none, [2]⟩, ⟨some 108, .extract (.t 104) 1, none, [2]⟩, ⟨some 16, .mv (.t 107), none, [3, 1, 0, 1, 2, 3]⟩, ⟨some 17, .mv (.t 108), none, [4, 5, 0, 1, 2, 3, 4, 5]⟩]) (.seq (.seq (.region [⟨some 109, .mv (.t 11), none, []⟩, ⟨some 110, .bin .neq (.t 109) (.c (.raw (.int .i64 (.ofNat 0)))), none, [0]⟩, ⟨some 111, .mv (.t 110), none, [1]⟩, ⟨some 112, .mv (.t 13), some (111, false), [2]⟩, ⟨some 113, .bin .neq (.t 112) (.c (.raw (.int .i64 (.ofNat 0)))), some (111, false), [3, 2]⟩, ⟨some 114, .pick (.t 111) (.c (.raw (.bool true))) (.t 113), none, [2, 4]⟩, ⟨some 115, .mv (.t 114), none, [5, 2]⟩, ⟨some 116, .mv (.t 15), some (115, false), [6]⟩,
 ⟨some 117, .mv (.t 17), some (115, false), [6]⟩, ⟨some 118, .bin .neq (.t 116) (.t 117), some (115, false), [7, 8, 6]⟩, ⟨some 119, .pick (.t 115) (.c (.raw (.bool true))) (.t 118), none, [6, 9]⟩, ⟨some 120, .mv (.t 119), none, [10, 6]⟩, ⟨some 121, .mv (.t 14), some (120, false), [11]⟩, ⟨some 122, .mv (.t 16), some (120, false), [11]⟩, ⟨some 123, .eq true .bool (.t 121) (.t 122), some (120, false), [12, 13, 11]⟩, ⟨some 124, .pick (.t 120) (.c (.raw (.bool true))) (.t 123), none, [11, 14]⟩, ⟨some 125, .mv (.t 124), none, [15, 11]⟩, ⟨some 126, .mv (.t 10), some (125, false), [16]⟩, ⟨some 127, .len 1 (.t 126), some (125, false), [17, 16]⟩, ⟨some 128, .mv (.t 4), some (125, false), [16]⟩, ⟨some 129, .bin .neq (.t 127) (.t 128), some (125, false), [18, 19, 16]⟩, ⟨some 130, .pick (.t 125) (.c (.raw (.bool true))) (.t 129), none, [16, 20]⟩, ⟨some 131, .mv (.t 130), none, [21, 16]⟩,
 ⟨some 132, .mv (.t 12), some (131, false), [22]⟩, ⟨some 133, .len 1 (.t 132), some (131, false), [23, 22]⟩, ⟨some 134, .mv (.t 4), some (131, false), [22]⟩, ⟨some 135, .bin .neq (.t 133) (.t 134), some (131, false), [24, 25, 22]⟩, ⟨some 136, .pick (.t 131) (.c (.raw (.bool true))) (.t 135), none, [22, 26]⟩]) (.cond (.t 136) (.seq (.region [⟨some 2, .mv (.c (.raw (.bool false))), none, []⟩]) .ret) .skip)) (.seq (.seq (.region [⟨some 18, .mv (.c (.raw (.int .i64 (.ofNat 0)))), none, []⟩]) (.block 4 (.loop (.seq (.seq (.region [⟨some 137, .mv (.t 18), none, []⟩, ⟨some 138, .mv (.t 4), none, []⟩, ⟨some 139, .bin .lss (.t 137) (.t 138), none, [0, 1]⟩]) (.cond (.t 139) .skip (.exit 4))) (.seq (.block 5 (.seq (.region [⟨some 19, .mv (.c (.raw (.int .i64 (.ofNat 0)))), none, []⟩]) (.block 6 (.loop (.seq (.seq (.region [⟨some 142, .mv (.t 19), none, []⟩, ⟨some 143, .mv (.t 4), none, []⟩,
 ⟨some 144, .bin .lss (.t 142) (.t 143), none, [0, 1]⟩]) (.cond (.t 144) .skip (.exit 6))) (.seq (.block 7 (.seq (.region [⟨some 147, .mv (.t 10), none, []⟩, ⟨some 148, .mv (.t 18), none, []⟩, ⟨some 149, .iaddr 1 (.t 147) (.t 148), none, [0, 1]⟩, ⟨some 152, .mv (.t 4), none, []⟩, ⟨some 150, .load false 1 (.t 149), none, [2]⟩, ⟨some 151, .len 1 (.t 150), none, [3]⟩, ⟨some 153, .bin .neq (.t 151) (.t 152), none, [4, 5]⟩, ⟨some 154, .mv (.t 153), none, [6]⟩, ⟨some 155, .mv (.t 12), some (154, false), [7]⟩, ⟨some 156, .mv (.t 4), some (154, false), [7]⟩, ⟨some 157, .bin .sub (.t 156) (.c (.raw (.int .i64 (.ofNat 1)))), some (154, false), [9, 7]⟩, ⟨some 158, .mv (.t 18), some (154, false), [7]⟩, ⟨some 159, .bin .sub (.t 157) (.t 158), some (154, false), [10, 11, 7]⟩, ⟨some 160, .iaddr 1 (.t 155) (.t 159), some (154, false), [8, 12, 7]⟩, ⟨some 163, .mv (.t 4), some (154, false), [7]⟩,
 ⟨some 161, .load false 1 (.t 160), some (154, false), [13, 7]⟩, ⟨some 162, .len 1 (.t 161), some (154, false), [14, 7]⟩, ⟨some 164, .bin .neq (.t 162) (.t 163), some (154, false), [15, 16, 7]⟩, ⟨some 165, .pick (.t 154) (.c (.raw (.bool true))) (.t 164), none, [7, 17]⟩, ⟨some 166, .mv (.t 165), none, [18, 7]⟩, ⟨some 167, .mv (.t 10), some (166, false), [19]⟩, ⟨some 168, .mv (.t 18), some (166, false), [19]⟩, ⟨some 169, .iaddr 1 (.t 167) (.t 168), some (166, false), [20, 21, 19]⟩, ⟨some 171, .mv (.t 19), some (166, false), [19]⟩, ⟨some 174, .mv (.t 12), some (166, false), [19]⟩, ⟨some 175, .mv (.t 4), some (166, false), [19]⟩, ⟨some 176, .bin .sub (.t 175) (.c (.raw (.int .i64 (.ofNat 1)))), some (166, false), [28, 19]⟩, ⟨some 177, .mv (.t 18), some (166, false), [19]⟩, ⟨some 178, .bin .sub (.t 176) (.t 177), some (166, false), [29, 30, 19]⟩,
 ⟨some 179, .iaddr 1 (.t 174) (.t 178), some (166, false), [27, 31, 19]⟩, ⟨some 181, .mv (.t 4), some (166, false), [19]⟩, ⟨some 182, .bin .sub (.t 181) (.c (.raw (.int .i64 (.ofNat 1)))), some (166, false), [34, 19]⟩, ⟨some 183, .mv (.t 19), some (166, false), [19]⟩, ⟨some 184, .bin .sub (.t 182) (.t 183), some (166, false), [35, 36, 19]⟩, ⟨some 170, .load false 1 (.t 169), some (166, false), [22, 19]⟩, ⟨some 172, .iaddr 1 (.t 170) (.t 171), some (166, false), [23, 24, 19]⟩, ⟨some 173, .load false 1 (.t 172), some (166, false), [25, 19]⟩, ⟨some 180, .load false 1 (.t 179), some (166, false), [32, 19]⟩, ⟨some 185, .iaddr 1 (.t 180) (.t 184), some (166, false), [33, 37, 19]⟩, ⟨some 186, .load false 1 (.t 185), some (166, false), [38, 19]⟩, ⟨some 187, .eq true .bool (.t 173) (.t 186), some (166, false), [26, 39, 19]⟩,
 ⟨some 188, .pick (.t 166) (.c (.raw (.bool true))) (.t 187), none, [19, 40]⟩]) (.cond (.t 188) (.seq (.region [⟨some 2, .mv (.c (.raw (.bool false))), none, []⟩]) .ret) .skip))) (.region [⟨some 145, .mv (.t 19), none, []⟩, ⟨some 146, .bin .add (.t 145) (.c (.raw (.int .i64 (.ofNat 1)))), none, [0]⟩, ⟨some 19, .mv (.t 146), none, [1, 0, 1]⟩]))))))) (.region [⟨some 140, .mv (.t 18), none, []⟩, ⟨some 141, .bin .add (.t 140) (.c (.raw (.int .i64 (.ofNat 1)))), none, [0]⟩, ⟨some 18, .mv (.t 141), none, [1, 0, 1]⟩])))))) (.seq (.region [⟨some 189, .mv (.t 3), none, []⟩, ⟨some 2, .mv (.t 189), none, [0, 0]⟩]) .ret)))))))))))))
def i4 : IF := ⟨190, [.tmp 2], false, c4⟩

end K36
set_option maxRecDepth 100000
set_option linter.unusedVariables false
set_option linter.unusedSimpArgs false
namespace K36
open Go Go.Ai

/-! ### A query turned round: variables numbered from the other end, atoms in reverse order -/
def tau (v t : Int) : Int := if 0 ≤ t then v - 1 - t else t
def Atm.turned (v : Int) (a : Atm) : Atm := { a with terms := a.terms.map (tau v) }
def Qry.turned (q : Qry) : Qry := { vars := q.vars, consts := q.consts, atoms := q.atoms.reverse.map (Atm.turned q.vars) }
/-- Terms are below the number of variables. -/
def Qry.Below (q : Qry) : Prop := ∀ i, i < q.atoms.length → ∀ t ∈ (q.at i).terms, t < q.vars

theorem tau_tau {v t : Int} (h : t < v) : tau v (tau v t) = t := by
  unfold tau
  split
  · rw [if_pos (by omega)]; omega
  · rfl
theorem tau_lt {v t : Int} (h : t < v) : tau v t < v := by
  unfold tau
  split <;> omega
theorem tau_nonneg {v t : Int} (h : t < v) : 0 ≤ tau v t ↔ 0 ≤ t := by
  unfold tau
  split <;> omega
theorem turned_len (q : Qry) : q.turned.atoms.length = q.atoms.length := by simp [Qry.turned]
theorem turned_at {q : Qry} {i : Nat} (h : i < q.atoms.length) : q.turned.at i = (q.at (q.atoms.length - 1 - i)).turned q.vars := by
  simp only [Qry.at, Qry.turned, List.getD_eq_getElem?_getD, List.getElem?_map, List.getElem?_reverse h]
  have h2 : q.atoms.length - 1 - i < q.atoms.length := by omega
  rw [List.getElem?_eq_getElem h2]
  rfl
theorem turned_at' {q : Qry} {i : Nat} (h : i < q.atoms.length) : q.turned.at (q.atoms.length - 1 - i) = (q.at i).turned q.vars := by
  rw [turned_at (by omega)]
  congr 2
  omega
theorem map_tau {v : Int} {l : List Int} (h : ∀ t ∈ l, t < v) : (l.map (tau v)).map (tau v) = l := by
  rw [List.map_map]
  conv => rhs; rw [← List.map_id l]
  exact List.map_congr_left fun t ht => tau_tau (h t ht)
theorem below_turned {q : Qry} (hb : q.Below) : q.turned.Below := by
  intro i hi t ht
  rw [turned_len] at hi
  rw [turned_at hi] at ht
  obtain ⟨u, hu, rfl⟩ := List.mem_map.1 ht
  exact tau_lt (hb _ (by omega) u hu)
theorem turned_turned {q : Qry} (hb : q.Below) : q.turned.turned = q := by
  have h : q.turned.turned.atoms = q.atoms := by
    apply List.ext_getElem?
    intro i
    by_cases hi : i < q.atoms.length
    · have h1 : q.turned.turned.at i = q.at i := by
        rw [turned_at (by rw [turned_len]; exact hi), turned_len, turned_at' hi]
        show ({ (q.at i) with terms := ((q.at i).terms.map (tau q.vars)).map (tau q.vars) } : Atm) = q.at i
        rw [map_tau (hb i hi)]
      have h2 : i < q.turned.turned.atoms.length := by rw [turned_len, turned_len]; exact hi
      simp only [Qry.at, List.getD_eq_getElem?_getD] at h1
      rw [List.getElem?_eq_getElem h2, List.getElem?_eq_getElem hi] at h1 ⊢
      exact congrArg some h1
    · rw [List.getElem?_eq_none (by rw [turned_len, turned_len]; omega), List.getElem?_eq_none (by omega)]
  have e : q.turned.turned = { vars := q.vars, consts := q.consts, atoms := q.turned.turned.atoms } := rfl
  rw [e, h]
theorem keys_turned (v : Int) (a : Atm) : (a.turned v).keys = a.keys.map (tau v) := by
  simp only [Atm.keys, Atm.turned, List.map_take]

theorem cls_turned {q : Qry} (hb : q.Below) {f : Nat} (hf : f < q.atoms.length) {vs : List Int} (hv : ∀ t ∈ vs, t < q.vars) {t : Int} (h : Cls q f vs t) : Cls q.turned (q.atoms.length - 1 - f) (vs.map (tau q.vars)) (tau q.vars t) := by
  induction h with
  | base hm h0 => exact .base (List.mem_map.2 ⟨_, hm, rfl⟩) ((tau_nonneg (hv _ hm)).2 h0)
  | @step t i hi hif hks ht h0 ih =>
    refine .step (q.atoms.length - 1 - i) (by rw [turned_len]; omega) (by omega) ?_ ?_ ((tau_nonneg (hb i hi t ht)).2 h0)
    · intro u hu hu0
      rw [turned_at' hi, keys_turned] at hu
      obtain ⟨w, hw, rfl⟩ := List.mem_map.1 hu
      exact ih w hw ((tau_nonneg (hb i hi w (keys_sub hw))).1 hu0)
    · rw [turned_at' hi]
      exact List.mem_map.2 ⟨t, ht, rfl⟩
theorem cls_back {q : Qry} (hb : q.Below) {f : Nat} (hf : f < q.atoms.length) {t : Int} (htv : t < q.vars) (h : Cls q.turned (q.atoms.length - 1 - f) (q.turned.at (q.atoms.length - 1 - f)).keys (tau q.vars t)) : Cls q f (q.at f).keys t := by
  have hk : ∀ u ∈ (q.turned.at (q.atoms.length - 1 - f)).keys, u < q.turned.vars := fun u hu => below_turned hb _ (by rw [turned_len]; omega) u (keys_sub hu)
  have h1 := cls_turned (below_turned hb) (by rw [turned_len]; omega) hk h
  rw [turned_turned hb, turned_len, show q.atoms.length - 1 - (q.atoms.length - 1 - f) = f by omega, turned_at' hf, keys_turned] at h1
  have h2 : (((q.at f).keys.map (tau q.vars)).map (tau q.turned.vars)) = (q.at f).keys := map_tau fun u hu => hb f hf u (keys_sub hu)
  have h3 : tau q.turned.vars (tau q.vars t) = t := tau_tau htv
  rw [h2, h3] at h1
  exact h1
theorem lnk_turned {q : Qry} (hb : q.Below) {f h g : Nat} (hf : f < q.atoms.length) (hh : h < q.atoms.length) (hg : g < q.atoms.length) (hl : Lnk q f h g) : Lnk q.turned (q.atoms.length - 1 - f) (q.atoms.length - 1 - h) (q.atoms.length - 1 - g) := by
  obtain ⟨t, t0, t1, t2, t3⟩ := hl
  have htv := hb h hh t t2
  refine ⟨tau q.vars t, (tau_nonneg htv).2 t0, fun hc => t1 (cls_back hb hf htv hc), ?_, ?_⟩
  · rw [turned_at' hh]; exact List.mem_map.2 ⟨t, t2, rfl⟩
  · rw [turned_at' hg]; exact List.mem_map.2 ⟨t, t3, rfl⟩
theorem rch_turned {q : Qry} (hb : q.Below) {f h : Nat} (hf : f < q.atoms.length) (hr : Rch q f h) : Rch q.turned (q.atoms.length - 1 - f) (q.atoms.length - 1 - h) := by
  induction hr with
  | base => exact .base
  | step ha hg hl ih => exact .step ih (by rw [turned_len]; omega) (lnk_turned hb hf (rch_lt hf ha) hg hl)
theorem att_turned1 {q : Qry} (hb : q.Below) {f h : Nat} (hf : f < q.atoms.length) (hh : h < q.atoms.length) (ha : Att q f h) : Att q.turned (q.atoms.length - 1 - f) (q.atoms.length - 1 - h) :=
  ⟨by have := ha.1; omega, rch_turned hb hf ha.2⟩
/-- The same atoms attack each other. -/
theorem att_turned {q : Qry} (hb : q.Below) {f h : Nat} (hf : f < q.atoms.length) (hh : h < q.atoms.length) : Att q.turned (q.atoms.length - 1 - f) (q.atoms.length - 1 - h) ↔ Att q f h := by
  refine ⟨fun ha => ?_, att_turned1 hb hf hh⟩
  have h1 := att_turned1 (below_turned hb) (by rw [turned_len]; omega) (by rw [turned_len]; omega) ha
  rw [turned_turned hb, turned_len, show q.atoms.length - 1 - (q.atoms.length - 1 - f) = f by omega, show q.atoms.length - 1 - (q.atoms.length - 1 - h) = h by omega] at h1
  exact h1
theorem way_turned {q : Qry} (hb : q.Below) {a b : Nat} (hw : Way q a b) : Way q.turned (q.atoms.length - 1 - a) (q.atoms.length - 1 - b) := by
  have one : ∀ {f g : Nat}, Edg q f g → Edg q.turned (q.atoms.length - 1 - f) (q.atoms.length - 1 - g) := by
    intro f g e
    exact ⟨by rw [turned_len]; have := e.1; omega, by rw [turned_len]; have := e.2.1; omega, att_turned1 hb e.1 e.2.1 e.2.2⟩
  induction hw with
  | one e => exact .one (one e)
  | more _ e ih => exact .more ih (one e)
/-- First order or not as before. -/
theorem noCyc_turned {q : Qry} (hb : q.Below) : noCyc q.turned = noCyc q := by
  have h : ∀ p : Qry, p.Below → noCyc p.turned = true → noCyc p = true := by
    intro p hp ht
    rw [noCyc_iff] at ht ⊢
    exact fun x hx => ht _ (way_turned hp hx)
  have h1 := h q hb
  have h2 := h q.turned (below_turned hb)
  rw [turned_turned hb] at h2
  cases a : noCyc q <;> cases b : noCyc q.turned <;> simp_all
end K36
set_option maxRecDepth 100000
set_option linter.unusedVariables false
set_option linter.unusedSimpArgs false
namespace K36
open Go Go.Ai

theorem ok_parts {q : Qry} (h : q.ok = true) : q.badH = false ∧ (∀ j, j < q.consts.length → q.badC j = false) ∧ ∀ i, i < q.atoms.length → q.badS i = false ∧ (q.at i).badL = false ∧ ∀ k, k < (q.at i).cols.length → q.badT (q.at i) k = false := by
  have nb : ∀ b : Bool, (b = true → q.ok = false) → b = false := by
    intro b hb
    cases b with
    | false => rfl
    | true => rw [hb rfl] at h; cases h
  refine ⟨nb _ ok_h, fun j hj => nb _ (ok_c hj), fun i hi => ?_⟩
  have ha := nb _ (ok_a (q := q) hi)
  simp only [Qry.badA, Bool.or_eq_false_iff] at ha
  exact ⟨ha.1, ha.2.1, fun k hk => nb _ (ok_t hi hk)⟩
theorem below_of {q : Qry} (h : q.ok = true) : q.Below := by
  intro i hi t ht
  obtain ⟨-, -, hp⟩ := ok_parts h
  obtain ⟨-, hL, hT⟩ := hp i hi
  obtain ⟨k, hk, rfl⟩ := List.mem_iff_getElem.1 ht
  have hlen : (q.at i).terms.length = (q.at i).cols.length := by
    simp only [Atm.badL, Bool.or_eq_false_iff, bne_eq_false_iff_eq] at hL
    have := hL.2.2.1
    omega
  have := hT k (by omega)
  simp only [Qry.badT, Bool.or_eq_false_iff, decide_eq_false_iff_not] at this
  have h2 := this.2.2.1
  rw [getD_lt hk] at h2
  omega
theorem tables {q : Qry} (h : q.ok = true) {a b : Nat} (hab : a < b) (hb : b < q.atoms.length) : (q.at a).tbl ≠ (q.at b).tbl := by
  obtain ⟨-, -, hp⟩ := ok_parts h
  have hS := (hp b hb).1
  simp only [Qry.badS, Bool.or_eq_false_iff, decide_eq_false_iff_not] at hS
  intro e
  apply hS.2
  rw [firstI_nonneg]
  refine ⟨a, by simp; omega, ?_⟩
  have : (q.atoms.take b).getD a default = q.at a := by simp [Qry.at, List.getD_eq_getElem?_getD, List.getElem?_take, hab]
  rw [this]
  simpa using e
theorem ok_turned {q : Qry} (h : q.ok = true) : q.turned.ok = true := by
  obtain ⟨hH, hC, hp⟩ := ok_parts h
  refine ok_all ?_ (fun j hj => hC j hj) (fun i hi => ?_)
  · have hl : (q.turned.atoms.length : Int) = (q.atoms.length : Int) := by rw [turned_len]
    simp only [Qry.badH, hl] at hH ⊢
    exact hH
  · rw [turned_len] at hi
    have hi2 : q.atoms.length - 1 - i < q.atoms.length := by omega
    have hat : q.turned.atoms.getD i default = (q.at (q.atoms.length - 1 - i)).turned q.vars := turned_at hi
    obtain ⟨hS, hL, hT⟩ := hp _ hi2
    generalize ha : q.at (q.atoms.length - 1 - i) = a at *
    refine badA_of ?_ ?_ ?_
    · simp only [Qry.badS, Bool.or_eq_false_iff, decide_eq_false_iff_not] at hS ⊢
      rw [hat]
      refine ⟨?_, ?_⟩
      · have := hS.1
        rw [show q.atoms.getD (q.atoms.length - 1 - i) default = a from ha] at this
        exact this
      · rw [firstI_nonneg]
        rintro ⟨j, hj, he⟩
        have hji : j < i := by simp [List.length_take] at hj; omega
        have h1 : (q.turned.atoms.take i).getD j default = q.turned.at j := by simp [Qry.at, List.getD_eq_getElem?_getD, List.getElem?_take, hji]
        rw [h1, turned_at (by omega)] at he
        have h2 := tables h (show q.atoms.length - 1 - i < q.atoms.length - 1 - j by omega) (by omega)
        apply h2
        rw [ha]
        exact (eq_of_beq he).symm
    · rw [hat]
      simp only [Atm.badL, Atm.turned, List.length_map] at hL ⊢
      exact hL
    · rw [hat]
      intro k hk
      have hk' : k < a.cols.length := hk
      have hlen : a.terms.length = a.cols.length := by
        simp only [Atm.badL, Bool.or_eq_false_iff, bne_eq_false_iff_eq] at hL
        have := hL.2.2.1
        omega
      have := hT k hk'
      simp only [Qry.badT, Bool.or_eq_false_iff, decide_eq_false_iff_not] at this ⊢
      have hg : (a.turned q.vars).terms.getD k 0 = tau q.vars (a.terms.getD k 0) := by
        simp [Atm.turned, List.getD_eq_getElem?_getD, hlen, hk']
      obtain ⟨t1, t2, t3, t4⟩ := this
      refine ⟨t1, t2, ?_, ?_⟩
      · rw [hg]
        show ¬ (tau q.vars (a.terms.getD k 0) ≥ q.vars)
        have := tau_lt (v := q.vars) (t := a.terms.getD k 0) (by omega)
        omega
      · rw [hg]
        show ¬ (tau q.vars (a.terms.getD k 0) < IntKind.i64.wrap (0 - (q.consts.length : Int)))
        have hcl : (q.consts.length : Int) ≤ 240 := by
          simp only [Qry.badH, Bool.or_eq_false_iff, decide_eq_false_iff_not] at hH
          omega
        have hw : IntKind.i64.wrap (0 - (q.consts.length : Int)) = 0 - (q.consts.length : Int) := Go.IntWalk.i64_in _ (by constructor <;> omega)
        rw [hw] at t4 ⊢
        unfold tau
        split <;> omega
end K36
set_option maxRecDepth 100000
set_option linter.unusedVariables false
set_option linter.unusedSimpArgs false
namespace K36
open Go Go.Ai

/-- An atom whose terms are still live. -/
def liveA (t : Nat) (a : Atm) : List D := [I64 a.tbl, intL a.cols, .sl t 0 a.terms.length 1, I64 a.key]
theorem viewL_ints (H : Heap) : ∀ (l : List Int) (k : Nat), l.length < k → viewL k (l.map I64) H = some (l.map I64, H)
  | [], k, h => by cases k <;> rfl
  | t :: l, k + 1, h => by
    have h2 : 0 < k := by simp at h; omega
    obtain ⟨j, rfl⟩ : ∃ j, k = j + 1 := ⟨k - 1, by omega⟩
    have ih := viewL_ints H l (j + 1) (by simpa using h)
    simp only [List.map_cons] at ih ⊢
    simp only [viewL, view, ih]
theorem view_ints {H : Heap} {t e lo : Nat} {l : List Int} (hl : lk H t = some (.cells (l.map I64) e lo)) (k : Nat) (hk : l.length < k) : view (k + 1) (.sl t 0 l.length 1) H = some (intL l, upd H t (.cells (l.map I64) e (max lo (0 + l.length * 1)))) := by
  have h2 : ((l.map I64).drop 0).take (l.length * 1) = l.map I64 := by
    rw [List.drop_zero, Nat.mul_one]
    exact List.take_of_length_le (by simp)
  have h3 : chunks 1 l.length (l.map I64) = l.map fun t => [I64 t] := by
    have := chunks1 (l.map I64)
    rw [List.length_map] at this
    rw [this, List.map_map]
    rfl
  have h4 : 0 + l.length * 1 ≤ (l.map I64).length := by simp
  simp only [view, hl, if_pos h4, h2]
  rw [viewL_ints _ l k hk]
  simp only [h3]
theorem viewL_atoms : ∀ (as : List (Nat × Atm)) (k : Nat) (H : Heap), 4 * as.length + 100 < k → (∀ p ∈ as, p.2.terms.length < 50 ∧ ∃ e lo, lk H p.1 = some (.cells (p.2.terms.map I64) e lo)) →
    ∃ H', viewL k (as.flatMap fun p => liveA p.1 p.2) H = some (as.flatMap fun p => p.2.enc, H') ∧ Lw H H'
  | [], k, H, hk, _ => ⟨H, by cases k <;> rfl, Lw.refl H⟩
  | p :: as, k, H, hk, hp => by
    obtain ⟨t, a⟩ := p
    obtain ⟨hlen, e, lo, hl⟩ := hp (t, a) (List.mem_cons_self ..)
    dsimp only at hlen hl
    obtain ⟨j, rfl⟩ : ∃ j, k = j + 1 + 1 + 1 + 1 + 1 := ⟨k - 5, by simp at hk; omega⟩
    have hv := view_ints hl (j + 1) (by simp at hk; omega)
    have hw := lw_upd (lo' := max lo (0 + a.terms.length * 1)) hl
    obtain ⟨H', h1, h2⟩ := viewL_atoms as (j + 1) (upd H t (.cells (a.terms.map I64) e (max lo (0 + a.terms.length * 1)))) (by simp at hk; omega) (fun p hpm => by
      obtain ⟨g1, e', lo', g2⟩ := hp p (List.mem_cons_of_mem _ hpm)
      obtain ⟨lo2, g3⟩ := hw.get g2
      exact ⟨g1, e', lo2, g3⟩)
    refine ⟨H', ?_, hw.trans h2⟩
    simp only [List.flatMap_cons, liveA, Atm.enc, List.cons_append, List.nil_append] at h1 ⊢
    simp only [viewL]
    rw [show view (j + 1 + 1 + 1 + 1) (I64 a.tbl) H = some (I64 a.tbl, H) from rfl]
    dsimp only
    rw [show view (j + 1 + 1 + 1) (intL a.cols) H = some (intL a.cols, H) from rfl]
    dsimp only
    rw [hv]
    dsimp only
    rw [show ∀ H, view (j + 1) (I64 a.key) H = some (I64 a.key, H) from fun _ => rfl]
    dsimp only
    rw [h1]
theorem chunks4 : ∀ (as : List (Nat × Atm)), chunks 4 as.length (as.flatMap fun p => p.2.enc) = as.map fun p => p.2.enc
  | [] => rfl
  | p :: as => by
    have ih := chunks4 as
    simp only [List.flatMap_cons, List.length_cons, List.map_cons, chunks]
    have hlen : p.2.enc.length = 4 := rfl
    rw [List.take_left' hlen, List.drop_left' hlen, ih]
theorem view_turned {H : Heap} {A e lo : Nat} {as : List (Nat × Atm)} (v : Int) (C : List (List D)) (hA : lk H A = some (.cells (as.flatMap fun p => liveA p.1 p.2) e lo)) (hn : as.length < 1000) (hp : ∀ p ∈ as, p.2.terms.length < 50 ∧ ∃ e lo, lk H p.1 = some (.cells (p.2.terms.map I64) e lo)) :
    ∃ H1, viewL fuelV [.agg [I64 v, .lst C, .sl A 0 as.length 4]] H = some ([.agg [I64 v, .lst C, .lst (as.map fun p => p.2.enc)]], H1) ∧ Lw H H1 := by
  have hfl : (as.flatMap fun p => liveA p.1 p.2).length = as.length * 4 := by
    clear hA hn hp
    induction as with
    | nil => rfl
    | cons p as ih => rw [List.flatMap_cons, List.length_append, ih]; simp [liveA]; omega
  have hw := lw_upd (lo' := max lo (0 + as.length * 4)) hA
  obtain ⟨H1, h1, h2⟩ := viewL_atoms as 999994 (upd H A (.cells (as.flatMap fun p => liveA p.1 p.2) e (max lo (0 + as.length * 4)))) (by omega) (fun p hpm => by
    obtain ⟨g1, e', lo', g2⟩ := hp p hpm
    obtain ⟨lo2, g3⟩ := hw.get g2
    exact ⟨g1, e', lo2, g3⟩)
  refine ⟨H1, ?_, hw.trans h2⟩
  have h3 : ((as.flatMap fun p => liveA p.1 p.2).drop 0).take (as.length * 4) = as.flatMap fun p => liveA p.1 p.2 := by
    rw [List.drop_zero]
    exact List.take_of_length_le (by omega)
  have h4 : 0 + as.length * 4 ≤ (as.flatMap fun p => liveA p.1 p.2).length := by omega
  have hsl : view 999995 (.sl A 0 as.length 4) H = some (.lst (as.map fun p => p.2.enc), H1) := by
    have e1 : (999995 : Nat) = 999994 + 1 := rfl
    rw [e1]
    simp only [view, hA, if_pos h4, h3, h1, chunks4]
  have e0 : fuelV = 999999 + 1 := rfl
  rw [e0]
  simp only [viewL]
  have e2 : (999999 : Nat) = 999998 + 1 := rfl
  have hagg : view 999999 (.agg [I64 v, .lst C, .sl A 0 as.length 4]) H = some (.agg [I64 v, .lst C, .lst (as.map fun p => p.2.enc)], H1) := by
    rw [e2]
    simp only [view]
    have e3 : (999998 : Nat) = 999997 + 1 := rfl
    rw [e3]
    simp only [viewL]
    rw [show view 999997 (I64 v) H = some (I64 v, H) from rfl]
    dsimp only
    rw [show view 999996 (.lst C) H = some (.lst C, H) from rfl]
    dsimp only
    rw [hsl]
  rw [hagg]
end K36
