/-
  A part of an interpreter over abstract data, proved sound once for the model: what it says of the code, the machine does in every order. Conditions: none beyond the statement.
-/
import Derived.Test.YtemeabkpllolmaaGreatDoorAi30
import Derived.IntWalk
/-! Steps, one lemma each. -/
set_option linter.unusedVariables false
set_option linter.unusedSimpArgs false
namespace Go.Ai

abbrev I64 (n : Int) : D := .raw (.int .i64 n)
abbrev B (b : Bool) : D := .raw (.bool b)

/-! ### The heap -/
theorem lk_here (n : Nat) (o : Obj) (H : Heap) : lk ((n, o) :: H) n = some o := by simp [lk]
theorem lk_there {n m : Nat} (o : Obj) (H : Heap) (h : n ≠ m) : lk ((m, o) :: H) n = lk H n := by rw [lk_cons, if_neg h]
theorem lk_skip {n m : Nat} {o : Obj} {H : Heap} {r : Option Obj} (h : n ≠ m) (h2 : lk H n = r) : lk ((m, o) :: H) n = r := by rw [lk_there _ _ h]; exact h2
theorem upd_here (n : Nat) (o o' : Obj) (H : Heap) : upd ((n, o) :: H) n o' = (n, o') :: H := by simp [upd]
theorem upd_there {n m : Nat} (o o' : Obj) (H : Heap) (h : n ≠ m) : upd ((m, o) :: H) n o' = (m, o) :: upd H n o' := by
  have : n.beq m = false := by
    cases hb : n.beq m with
    | false => rfl
    | true => exact absurd (Nat.eq_of_beq_eq_true hb) h
  simp only [upd, this, cond_false]


namespace Raw
section
variable {cl : Cl} {E : Env} {s : St} {Q : Ex × Env → St → Prop} {rest : List IOp} {k : Nat} {dst : Option Nat} {i : I} {af : List Nat} {x y z : Opd}
theorem o_nil (h : Q (.nrm, E) s) : opsF cl [] E s Q := h
theorem g_yes {t : Nat} {b v : Bool} (hx : E t = B v) (hv : v = b) (h : opsF cl (⟨dst, i, none, af⟩ :: rest) E s Q) : opsF cl (⟨dst, i, some (t, b), af⟩ :: rest) E s Q := by
  subst hv
  simp only [opsF, wantsF, hx, beq_self_eq_true, if_true] at h ⊢
  exact h
theorem g_no {t : Nat} {b v : Bool} (hx : E t = B v) (hv : v = !b) (h : opsF cl rest (setF E dst default) s Q) : opsF cl (⟨dst, i, some (t, b), af⟩ :: rest) E s Q := by
  subst hv
  have : ((!b) == b) = false := by cases b <;> rfl
  simp only [opsF, wantsF, hx, this, Bool.false_eq_true, if_false]
  exact h
theorem g_split {t : Nat} {b v : Bool} (hx : E t = B v) (h1 : v = b → opsF cl (⟨dst, i, none, af⟩ :: rest) E s Q) (h2 : v = !b → opsF cl rest (setF E dst default) s Q) : opsF cl (⟨dst, i, some (t, b), af⟩ :: rest) E s Q := by
  by_cases hv : v = b
  · exact g_yes hx hv (h1 hv)
  · have hv' : v = !b := by cases v <;> cases b <;> simp_all
    exact g_no hx hv' (h2 hv')
theorem o_exec {d : D} {s' : St} (hc : isCall i = false) (he : exec (evF E) i s = some (d, s')) (h : opsF cl rest (setF E dst d) s' Q) : opsF cl (⟨dst, i, none, af⟩ :: rest) E s Q := by
  simp only [opsF, wantsF, if_true]
  rw [opM_exec hc, he]
  exact h
theorem o_mv {d : D} (hx : evF E x = d) (h : opsF cl rest (put E k d) s Q) : opsF cl (⟨some k, .mv x, none, af⟩ :: rest) E s Q := o_exec rfl (by simp only [exec, hx]) h
theorem o_pick_t {v : Bool} {d : D} (hc : evF E z = B v) (hv : v = true) (hx : evF E x = d) (h : opsF cl rest (put E k d) s Q) : opsF cl (⟨some k, .pick z x y, none, af⟩ :: rest) E s Q := by
  subst hv
  exact o_exec rfl (by simp only [exec, hc, hx]) h
theorem o_pick_f {v : Bool} {d : D} (hc : evF E z = B v) (hv : v = false) (hx : evF E y = d) (h : opsF cl rest (put E k d) s Q) : opsF cl (⟨some k, .pick z x y, none, af⟩ :: rest) E s Q := by
  subst hv
  exact o_exec rfl (by simp only [exec, hc, hx]) h
theorem o_alloc {e : TypeId} {z : List D} (hz : z.all one = true) (h : opsF cl rest (put E k (.ref s.nx 0)) { H := (s.nx, .cells z e 0) :: s.H, nx := s.nx + 1, ro := s.ro } Q) : opsF cl (⟨some k, .alloc e z, none, af⟩ :: rest) E s Q :=
  o_exec rfl (by simp only [exec, hz, if_true, new]) h
theorem o_box {e : TypeId} {d : D} (hx : evF E x = d) (hz : (cellsOf d).all one = true) (h : opsF cl rest (put E k (.ref s.nx 0)) { H := (s.nx, .cells (cellsOf d) e 0) :: s.H, nx := s.nx + 1, ro := s.ro } Q) : opsF cl (⟨some k, .box e x, none, af⟩ :: rest) E s Q :=
  o_exec rfl (by simp only [exec, hx, hz, if_true, new]) h
theorem o_mkmap (h : opsF cl rest (put E k (.map s.nx)) { H := (s.nx, .map [] false) :: s.H, nx := s.nx + 1, ro := s.ro } Q) : opsF cl (⟨some k, .mkmap, none, af⟩ :: rest) E s Q :=
  o_exec rfl (by simp only [exec, new]) h
theorem o_bslice1 {e : Nat} {z x' d : D} (hx : evF E x = d) (hd : cellsOf d = [x']) (ho : one x' = true) (hz : one z = true) (h : opsF cl rest (put E k (.sl s.nx 0 1 1)) { H := (s.nx, .cells [x'] e 0) :: s.H, nx := s.nx + 1, ro := s.ro } Q) :
    opsF cl (⟨some k, .bslice e 1 1 [z] [(0, 1, x)], none, af⟩ :: rest) E s Q :=
  o_exec (d := .sl s.nx 0 1 1) (s' := { H := (s.nx, .cells [x'] e 0) :: s.H, nx := s.nx + 1, ro := s.ro }) rfl (by simp [exec, fill, repZ, hx, hd, ho, hz, splice, new]) h
theorem o_load_ref {ag : Bool} {sz n o : Nat} {cs : List D} {e lo : Nat} {d : D} (hx : evF E x = .ref n o) (hl : lk s.H n = some (.cells cs e lo)) (ht : takeN (cs.drop o) ag sz = some d) (h : opsF cl rest (put E k d) s Q) :
    opsF cl (⟨some k, .load ag sz x, none, af⟩ :: rest) E s Q := o_exec rfl (by simp only [exec, hx, hl, ht, Option.map_some]) h
theorem o_load_iptr {ag : Bool} {sz : Nat} {cs : List D} {d : D} (hx : evF E x = .iptr cs) (ht : takeN cs ag sz = some d) (h : opsF cl rest (put E k d) s Q) :
    opsF cl (⟨some k, .load ag sz x, none, af⟩ :: rest) E s Q := o_exec rfl (by simp only [exec, hx, ht, Option.map_some]) h
theorem o_store {sz n o : Nat} {cs : List D} {e lo : Nat} {d : D} (hx : evF E x = .ref n o) (hy : evF E y = d) (hl : lk s.H n = some (.cells cs e lo)) (hs : (cellsOf d).length = sz) (h1 : (cellsOf d).all one = true) (h2 : o + sz ≤ cs.length) (h3 : lo ≤ o) (h4 : s.ro ≤ n)
    (h : opsF cl rest E { H := upd s.H n (.cells (splice cs o (cellsOf d)) e lo), nx := s.nx, ro := s.ro } Q) : opsF cl (⟨none, .store sz x y, none, af⟩ :: rest) E s Q :=
  o_exec (d := .raw undef) (s' := { H := upd s.H n (.cells (splice cs o (cellsOf d)) e lo), nx := s.nx, ro := s.ro }) rfl (by simp only [exec, hx, hy, hl, hs, h1, h2, h3, h4, and_self, if_true]) h
theorem o_faddr_ref {off n o : Nat} (hx : evF E x = .ref n o) (h : opsF cl rest (put E k (.ref n (o + off))) s Q) : opsF cl (⟨some k, .faddr off x, none, af⟩ :: rest) E s Q := o_exec rfl (by simp only [exec, hx]) h
theorem o_faddr_iptr {off : Nat} {cs : List D} (hx : evF E x = .iptr cs) (h : opsF cl rest (put E k (.iptr (cs.drop off))) s Q) : opsF cl (⟨some k, .faddr off x, none, af⟩ :: rest) E s Q := o_exec rfl (by simp only [exec, hx]) h
theorem o_iaddr_lst {sz : Nat} {xs : List (List D)} {j : Nat} {cs : List D} (hx : evF E x = .lst xs) (hy : evF E y = I64 j) (hj : xs[j]? = some cs) (hs : cs.length = sz) (h : opsF cl rest (put E k (.iptr cs)) s Q) : opsF cl (⟨some k, .iaddr sz x y, none, af⟩ :: rest) E s Q := by
  have hlt : j < xs.length := by
    rcases Nat.lt_or_ge j xs.length with h | h
    · exact h
    · rw [List.getElem?_eq_none h] at hj; cases hj
  refine o_exec (d := .iptr cs) (s' := s) rfl ?_ h
  have h0 : (0 : Int) ≤ (j : Int) := Int.natCast_nonneg j
  have h1 : (j : Int) < (xs.length : Int) := Int.ofNat_lt.2 hlt
  simp only [exec, hy, hx, h0, h1, and_self, if_true, Int.toNat_natCast, List.getD_eq_getElem?_getD, hj, Option.getD_some, hs]
theorem o_iaddr_sl {sz n off len j : Nat} (hx : evF E x = .sl n off len sz) (hy : evF E y = I64 j) (hj : j < len) (h : opsF cl rest (put E k (.ref n (off + j * sz))) s Q) : opsF cl (⟨some k, .iaddr sz x y, none, af⟩ :: rest) E s Q := by
  refine o_exec (d := .ref n (off + j * sz)) (s' := s) rfl ?_ h
  have h0 : (0 : Int) ≤ (j : Int) := Int.natCast_nonneg j
  have h1 : (j : Int) < (len : Int) := Int.ofNat_lt.2 hj
  simp only [exec, hy, hx, h0, h1, and_self, if_true, Int.toNat_natCast]
theorem o_bin {op : BinOp} {u v w : Value} (hx : evF E x = .raw u) (hy : evF E y = .raw v) (hb : bin op u v = some w) (h : opsF cl rest (put E k (.raw w)) s Q) : opsF cl (⟨some k, .bin op x y, none, af⟩ :: rest) E s Q :=
  o_exec rfl (by simp only [exec, hx, hy, hb, Option.map_some]) h
theorem o_lss {u v : Int} (hx : evF E x = I64 u) (hy : evF E y = I64 v) (h : opsF cl rest (put E k (B (decide (u < v)))) s Q) : opsF cl (⟨some k, .bin .lss x y, none, af⟩ :: rest) E s Q := o_bin hx hy rfl h
theorem o_leq {u v : Int} (hx : evF E x = I64 u) (hy : evF E y = I64 v) (h : opsF cl rest (put E k (B (decide (u ≤ v)))) s Q) : opsF cl (⟨some k, .bin .leq x y, none, af⟩ :: rest) E s Q := o_bin hx hy rfl h
theorem o_gtr {u v : Int} (hx : evF E x = I64 u) (hy : evF E y = I64 v) (h : opsF cl rest (put E k (B (decide (u > v)))) s Q) : opsF cl (⟨some k, .bin .gtr x y, none, af⟩ :: rest) E s Q := o_bin hx hy rfl h
theorem o_geq {u v : Int} (hx : evF E x = I64 u) (hy : evF E y = I64 v) (h : opsF cl rest (put E k (B (decide (u ≥ v)))) s Q) : opsF cl (⟨some k, .bin .geq x y, none, af⟩ :: rest) E s Q := o_bin hx hy rfl h
theorem o_eql {u v : Int} (hx : evF E x = I64 u) (hy : evF E y = I64 v) (h : opsF cl rest (put E k (B (u == v))) s Q) : opsF cl (⟨some k, .bin .eql x y, none, af⟩ :: rest) E s Q := o_bin hx hy rfl h
theorem o_neq {u v : Int} (hx : evF E x = I64 u) (hy : evF E y = I64 v) (h : opsF cl rest (put E k (B (u != v))) s Q) : opsF cl (⟨some k, .bin .neq x y, none, af⟩ :: rest) E s Q := o_bin hx hy rfl h
theorem o_neqs {u v : ByteArray} (hx : evF E x = .raw (.string u)) (hy : evF E y = .raw (.string v)) (h : opsF cl rest (put E k (B !(u.toList == v.toList))) s Q) : opsF cl (⟨some k, .bin .neq x y, none, af⟩ :: rest) E s Q := o_bin hx hy rfl h
/-- Adding 1 to an index. -/
theorem o_inc {j : Nat} (hx : evF E x = I64 j) (hj : j + 1 < 2 ^ 63) (h : opsF cl rest (put E k (I64 ((j + 1 : Nat) : Int))) s Q) : opsF cl (⟨some k, .bin .add x (.c (.raw (.int .i64 (.ofNat 1)))), none, af⟩ :: rest) E s Q := by
  refine o_bin (w := .int .i64 ((j + 1 : Nat) : Int)) hx rfl ?_ h
  have : IntKind.i64.wrap ((j : Int) + Int.ofNat 1) = ((j + 1 : Nat) : Int) := by
    rw [Go.IntWalk.i64_in _ (by constructor <;> simp <;> omega)]
    rfl
  simp only [bin, if_true, this]
theorem o_not {b : Bool} (hx : evF E x = B b) (h : opsF cl rest (put E k (B (!b))) s Q) : opsF cl (⟨some k, .un .not x, none, af⟩ :: rest) E s Q := o_exec rfl (by simp only [exec, hx]) h
theorem o_neg {u : Int} (hx : evF E x = I64 u) (h : opsF cl rest (put E k (I64 (IntKind.i64.wrap (0 - u)))) s Q) : opsF cl (⟨some k, .un .neg x, none, af⟩ :: rest) E s Q := o_exec rfl (by simp only [exec, hx]) h
theorem o_eqb {neg u v : Bool} (hx : evF E x = B u) (hy : evF E y = B v) (h : opsF cl rest (put E k (B (neg != (u == v)))) s Q) : opsF cl (⟨some k, .eq neg .bool x y, none, af⟩ :: rest) E s Q := o_exec rfl (by simp only [exec, hx, hy, eqD, Option.map_some]) h
theorem o_len_lst {xs : List (List D)} (hx : evF E x = .lst xs) (h : opsF cl rest (put E k (I64 xs.length)) s Q) : opsF cl (⟨some k, .len 1 x, none, af⟩ :: rest) E s Q := o_exec rfl (by simp only [exec, hx]) h
theorem o_len_sl {n off len sz : Nat} (hx : evF E x = .sl n off len sz) (h : opsF cl rest (put E k (I64 len)) s Q) : opsF cl (⟨some k, .len 1 x, none, af⟩ :: rest) E s Q := o_exec rfl (by simp only [exec, hx]) h
theorem o_len_nil (hx : evF E x = .raw (.slice none 0 0)) (h : opsF cl rest (put E k (I64 ((0 : Nat) : Int))) s Q) : opsF cl (⟨some k, .len 1 x, none, af⟩ :: rest) E s Q := o_exec rfl (by simp only [exec, hx]; rfl) h
theorem o_len_str {b : ByteArray} (hx : evF E x = .raw (.string b)) (h : opsF cl rest (put E k (I64 b.size)) s Q) : opsF cl (⟨some k, .len 0 x, none, af⟩ :: rest) E s Q := o_exec rfl (by simp only [exec, hx]) h
theorem o_len_map {n : Nat} {es : List (Value × D)} {z : Bool} (hx : evF E x = .map n) (hl : lk s.H n = some (.map es z)) (h : opsF cl rest (put E k (I64 es.length)) s Q) : opsF cl (⟨some k, .len 2 x, none, af⟩ :: rest) E s Q := o_exec rfl (by simp only [exec, hx, hl]) h
theorem o_extract {ds : List D} {j : Nat} {d : D} (hx : evF E x = .tup ds) (hd : ds[j]? = some d) (h : opsF cl rest (put E k d) s Q) : opsF cl (⟨some k, .extract x j, none, af⟩ :: rest) E s Q := o_exec rfl (by simp only [exec, hx, hd, Option.map_some]) h
theorem o_mkfn {f : Fn} {xs ys : List Opd} (h : opsF cl rest (put E k (.fn f (xs.map (evF E)) (ys.map (evF E)))) s Q) : opsF cl (⟨some k, .mkfn f xs ys, none, af⟩ :: rest) E s Q := o_exec rfl (by simp only [exec]) h
theorem o_nilChk_ref {n o : Nat} (hx : evF E x = .ref n o) (h : opsF cl rest (put E k (.ref n o)) s Q) : opsF cl (⟨some k, .nilChk x, none, af⟩ :: rest) E s Q := o_exec rfl (by simp only [exec, hx]) h
/-- s[:h] -/
theorem o_take {sz : Nat} {xs : List (List D)} {j : Nat} (hx : evF E x = .lst xs) (hy : evF E y = I64 j) (hs : ∀ c ∈ xs, c.length = sz) (hj : j ≤ xs.length) (h : opsF cl rest (put E k (.lst (xs.take j))) s Q) : opsF cl (⟨some k, .slice sz x none (some y) none, none, af⟩ :: rest) E s Q := by
  refine o_exec (d := .lst (xs.take j)) (s' := s) rfl ?_ h
  have h0 : (0 : Int) ≤ (j : Int) := Int.natCast_nonneg j
  have h1 : (j : Int) ≤ (xs.length : Int) := Int.ofNat_le.2 hj
  cases xs with
  | nil =>
    obtain rfl : j = 0 := by simpa using hj
    simp [exec, hx, bnd, hy]
  | cons c t =>
    have h2 : (j : Int) ≤ (t.length : Int) + 1 := by simpa using h1
    simp [exec, hx, bnd, hy, h0, h2, hs c (List.mem_cons_self ..)]
theorem o_lookup_imap {kk : Nat} {z d : D} {kv : Value} {es : List (Value × D)} {r : Option (Nat × D)} (hx : evF E x = .imap es) (hy : evF E y = .raw kv) (hf : findE kk kv es 0 = some r) (hd : (match r with | some (_, d) => d | none => z) = d) (h : opsF cl rest (put E k d) s Q) :
    opsF cl (⟨some k, .lookup kk z false x y, none, af⟩ :: rest) E s Q := by
  refine o_exec (d := d) (s' := s) rfl ?_ h
  cases r with
  | none => simp only [exec, hx, hy, lkE, hf, Bool.false_eq_true, if_false] at *; rw [← hd]
  | some p => obtain ⟨j, d'⟩ := p; simp only [exec, hx, hy, lkE, hf, Bool.false_eq_true, if_false] at *; rw [← hd]
theorem o_call {f : FuncId} {xs : List Opd} {args : List D} {d : D} (hm : MonoQ cl) (hx : xs.map (evF E) = args) {P : St → Prop} (hf : cl f args s (fun o s' => o = .ret d ∧ P s')) (h : ∀ s', P s' → opsF cl rest (setF E dst d) s' Q) : opsF cl (⟨dst, .call f xs, none, af⟩ :: rest) E s Q := by
  simp only [opsF, wantsF, if_true, opM, hx]
  refine hm _ _ _ _ _ (fun o s' ho => ?_) hf
  obtain ⟨rfl, hp⟩ := ho
  exact h s' hp
theorem o_callv {f : FuncId} {xs : List Opd} {first cap args : List D} {d : D} (hm : MonoQ cl) (hv : evF E x = .fn (.func f) first cap) (hx : first ++ xs.map (evF E) ++ cap = args) {P : St → Prop} (hf : cl f args s (fun o s' => o = .ret d ∧ P s')) (h : ∀ s', P s' → opsF cl rest (setF E dst d) s' Q) : opsF cl (⟨dst, .callv x xs, none, af⟩ :: rest) E s Q := by
  simp only [opsF, wantsF, if_true, opM, hv, hx]
  refine hm _ _ _ _ _ (fun o s' ho => ?_) hf
  obtain ⟨rfl, hp⟩ := ho
  exact h s' hp
end
end Raw

structure OpsR (cl : Cl) (ops : List IOp) (E : Env) (s : St) (Q : Ex × Env → St → Prop) : Prop where
  h : opsF cl ops E s Q
structure CodeR (cl : Cl) (nt : Nat) (c : IC) (E : Env) (s : St) (Q : Ex × Env → St → Prop) : Prop where
  h : codeF cl nt c E s Q
/-- What comes after the first of two. -/
structure SeqQ (K : Env → St → Prop) (Q : Ex × Env → St → Prop) (r : Ex × Env) (s' : St) : Prop where
  h : match r.1 with
    | .nrm => K r.2 s'
    | e => Q (e, r.2) s'
structure BlockQ (id : Nat) (Q : Ex × Env → St → Prop) (r : Ex × Env) (s' : St) : Prop where
  h : match r.1 with
    | .exit i => if i = id then Q (.nrm, r.2) s' else Q (.exit i, r.2) s'
    | e => Q (e, r.2) s'
structure LoopQ (I : Nat → Env → St → Prop) (n : Nat) (Q : Ex × Env → St → Prop) (r : Ex × Env) (s' : St) : Prop where
  h : match r.1 with
    | .nrm => ∃ m, m < n ∧ I m r.2 s'
    | e => Q (e, r.2) s'
/-- The end of a function. -/
structure EndQ (Q : Ex × Env → St → Prop) (r : Ex × Env) (s' : St) : Prop where
  h : Q r s'

section
variable {cl : Cl} {nt : Nat} {a b c : IC} {E : Env} {s : St} {Q : Ex × Env → St → Prop} {K : Env → St → Prop} {ops rest : List IOp} {id i : Nat} {I : Nat → Env → St → Prop} {n : Nat}
theorem CodeR.mono (hm : MonoQ cl) {Q' : Ex × Env → St → Prop} (h : ∀ r s, Q r s → Q' r s) (hh : CodeR cl nt c E s Q) : CodeR cl nt c E s Q' := ⟨codeF_mono hm c E s Q Q' h hh.h⟩
theorem c_seq (hm : MonoQ cl) (h : CodeR cl nt a E s (SeqQ (fun E s => CodeR cl nt b E s Q) Q)) : CodeR cl nt (.seq a b) E s Q := by
  refine ⟨?_⟩
  simp only [codeF]
  refine codeF_mono hm a E s _ _ (fun r s' hr => ?_) h.h
  obtain ⟨e, E'⟩ := r
  have := hr.h
  cases e with
  | nrm => exact CodeR.h this
  | _ => exact this
theorem c_region (h : OpsR cl ops E s Q) : CodeR cl nt (.region ops) E s Q := ⟨h.h⟩
theorem c_skip (h : Q (.nrm, E) s) : CodeR cl nt .skip E s Q := ⟨h⟩
theorem c_ret (h : Q (.ret, E) s) : CodeR cl nt .ret E s Q := ⟨h⟩
theorem c_exit (h : Q (.exit id, E) s) : CodeR cl nt (.exit id) E s Q := ⟨h⟩
theorem c_scope (h : CodeR cl nt b E s Q) : CodeR cl nt (.scope b) E s Q := ⟨h.h⟩
theorem c_block (hm : MonoQ cl) (h : CodeR cl nt b E s (BlockQ id Q)) : CodeR cl nt (.block id b) E s Q := by
  refine ⟨?_⟩
  simp only [codeF]
  refine codeF_mono hm b E s _ _ (fun r s' hr => ?_) h.h
  obtain ⟨e, E'⟩ := r
  exact hr.h
theorem c_true {x : Opd} {v : Bool} (hx : evF E x = B v) (hv : v = true) (h : CodeR cl nt a E s Q) : CodeR cl nt (.cond x a b) E s Q := by
  subst hv
  refine ⟨?_⟩
  simp only [codeF, hx]
  exact h.h
theorem c_false {x : Opd} {v : Bool} (hx : evF E x = B v) (hv : v = false) (h : CodeR cl nt b E s Q) : CodeR cl nt (.cond x a b) E s Q := by
  subst hv
  refine ⟨?_⟩
  simp only [codeF, hx]
  exact h.h
theorem c_cond {x : Opd} {v : Bool} (hx : evF E x = B v) (h1 : v = true → CodeR cl nt a E s Q) (h2 : v = false → CodeR cl nt b E s Q) : CodeR cl nt (.cond x a b) E s Q := by
  cases v with
  | true => exact c_true hx rfl (h1 rfl)
  | false => exact c_false hx rfl (h2 rfl)
theorem q_c {c : IC} {Q' : Ex × Env → St → Prop} (h : CodeR cl nt c E s Q') : SeqQ (fun E s => CodeR cl nt c E s Q') Q (.nrm, E) s := ⟨h⟩
theorem q_ret (h : Q (.ret, E) s) : SeqQ K Q (.ret, E) s := ⟨h⟩
theorem q_exit (h : Q (.exit id, E) s) : SeqQ K Q (.exit id, E) s := ⟨h⟩
theorem b_nrm (h : Q (.nrm, E) s) : BlockQ id Q (.nrm, E) s := ⟨h⟩
theorem b_ret (h : Q (.ret, E) s) : BlockQ id Q (.ret, E) s := ⟨h⟩
theorem b_hit (h : Q (.nrm, E) s) : BlockQ id Q (.exit id, E) s := ⟨by simp only [if_true]; exact h⟩
theorem b_miss (hne : i ≠ id) (h : Q (.exit i, E) s) : BlockQ id Q (.exit i, E) s := ⟨by simp only [if_neg hne]; exact h⟩
theorem l_nrm (m : Nat) (hlt : m < n) (h : I m E s) : LoopQ I n Q (.nrm, E) s := ⟨⟨m, hlt, h⟩⟩
theorem l_ret (h : Q (.ret, E) s) : LoopQ I n Q (.ret, E) s := ⟨h⟩
theorem l_exit (h : Q (.exit id, E) s) : LoopQ I n Q (.exit id, E) s := ⟨h⟩
theorem c_loop (hm : MonoQ cl) (I : Nat → Env → St → Prop) {n0 : Nat} (hi : I n0 E s) (h : ∀ n E s, I n E s → CodeR cl nt c E s (LoopQ I n Q)) : CodeR cl nt (.loop c) E s Q :=
  ⟨loop_inv hm I (fun n E s hh => codeF_mono hm c E s _ _ (fun r s' hr => hr.h) (h n E s hh).h) hi⟩
end
section
variable {cl : Cl} {E : Env} {s : St} {Q : Ex × Env → St → Prop} {rest : List IOp} {k : Nat} {dst : Option Nat} {i : I} {af : List Nat} {x y z : Opd}
theorem o_nil (h : Q (.nrm, E) s) : OpsR cl [] E s Q := ⟨Raw.o_nil h⟩
theorem g_yes {t : Nat} {b v : Bool} (hx : E t = B v) (hv : v = b) (h : OpsR cl (⟨dst, i, none, af⟩ :: rest) E s Q) : OpsR cl (⟨dst, i, some (t, b), af⟩ :: rest) E s Q := ⟨Raw.g_yes hx hv h.h⟩
theorem g_no {t : Nat} {b v : Bool} (hx : E t = B v) (hv : v = !b) (h : OpsR cl rest (setF E dst default) s Q) : OpsR cl (⟨dst, i, some (t, b), af⟩ :: rest) E s Q := ⟨Raw.g_no hx hv h.h⟩
theorem o_exec {d : D} {s' : St} (hc : isCall i = false) (he : exec (evF E) i s = some (d, s')) (h : OpsR cl rest (setF E dst d) s' Q) : OpsR cl (⟨dst, i, none, af⟩ :: rest) E s Q := ⟨Raw.o_exec hc he h.h⟩
theorem o_mv {d : D} (hx : evF E x = d) (h : OpsR cl rest (put E k d) s Q) : OpsR cl (⟨some k, .mv x, none, af⟩ :: rest) E s Q := ⟨Raw.o_mv hx h.h⟩
theorem o_pick_t {v : Bool} {d : D} (hc : evF E z = B v) (hv : v = true) (hx : evF E x = d) (h : OpsR cl rest (put E k d) s Q) : OpsR cl (⟨some k, .pick z x y, none, af⟩ :: rest) E s Q := ⟨Raw.o_pick_t hc hv hx h.h⟩
theorem o_pick_f {v : Bool} {d : D} (hc : evF E z = B v) (hv : v = false) (hx : evF E y = d) (h : OpsR cl rest (put E k d) s Q) : OpsR cl (⟨some k, .pick z x y, none, af⟩ :: rest) E s Q := ⟨Raw.o_pick_f hc hv hx h.h⟩
theorem o_alloc {H : Heap} {nx ro : Nat} {e : TypeId} {z : List D} (hz : z.all one = true) (h : OpsR cl rest (put E k (.ref nx 0)) ⟨(nx, .cells z e 0) :: H, nx + 1, ro⟩ Q) : OpsR cl (⟨some k, .alloc e z, none, af⟩ :: rest) E ⟨H, nx, ro⟩ Q := ⟨Raw.o_alloc hz h.h⟩
theorem o_box {H : Heap} {nx ro : Nat} {e : TypeId} {d : D} (hx : evF E x = d) (hz : (cellsOf d).all one = true) (h : OpsR cl rest (put E k (.ref nx 0)) ⟨(nx, .cells (cellsOf d) e 0) :: H, nx + 1, ro⟩ Q) : OpsR cl (⟨some k, .box e x, none, af⟩ :: rest) E ⟨H, nx, ro⟩ Q := ⟨Raw.o_box hx hz h.h⟩
theorem o_mkmap {H : Heap} {nx ro : Nat} (h : OpsR cl rest (put E k (.map nx)) ⟨(nx, .map [] false) :: H, nx + 1, ro⟩ Q) : OpsR cl (⟨some k, .mkmap, none, af⟩ :: rest) E ⟨H, nx, ro⟩ Q := ⟨Raw.o_mkmap h.h⟩
theorem o_bslice1 {H : Heap} {nx ro : Nat} {e : Nat} {z x' d : D} (hx : evF E x = d) (hd : cellsOf d = [x']) (ho : one x' = true) (hz : one z = true) (h : OpsR cl rest (put E k (.sl nx 0 1 1)) ⟨(nx, .cells [x'] e 0) :: H, nx + 1, ro⟩ Q) : OpsR cl (⟨some k, .bslice e 1 1 [z] [(0, 1, x)], none, af⟩ :: rest) E ⟨H, nx, ro⟩ Q := ⟨Raw.o_bslice1 hx hd ho hz h.h⟩
theorem o_load_ref {H : Heap} {nx ro : Nat} {ag : Bool} {sz n o : Nat} {cs : List D} {e lo : Nat} {d : D} (hx : evF E x = .ref n o) (hl : lk H n = some (.cells cs e lo)) (ht : takeN (cs.drop o) ag sz = some d) (h : OpsR cl rest (put E k d) ⟨H, nx, ro⟩ Q) : OpsR cl (⟨some k, .load ag sz x, none, af⟩ :: rest) E ⟨H, nx, ro⟩ Q := ⟨Raw.o_load_ref hx hl ht h.h⟩
theorem o_load_iptr {ag : Bool} {sz : Nat} {cs : List D} {d : D} (hx : evF E x = .iptr cs) (ht : takeN cs ag sz = some d) (h : OpsR cl rest (put E k d) s Q) : OpsR cl (⟨some k, .load ag sz x, none, af⟩ :: rest) E s Q := ⟨Raw.o_load_iptr hx ht h.h⟩
theorem o_store {H : Heap} {nx ro : Nat} {sz n o : Nat} {cs : List D} {e lo : Nat} {d : D} (hx : evF E x = .ref n o) (hy : evF E y = d) (hl : lk H n = some (.cells cs e lo)) (hs : (cellsOf d).length = sz) (h1 : (cellsOf d).all one = true) (h2 : o + sz ≤ cs.length) (h3 : lo ≤ o) (h4 : ro ≤ n) (h : OpsR cl rest E ⟨upd H n (.cells (splice cs o (cellsOf d)) e lo), nx, ro⟩ Q) : OpsR cl (⟨none, .store sz x y, none, af⟩ :: rest) E ⟨H, nx, ro⟩ Q := ⟨Raw.o_store hx hy hl hs h1 h2 h3 h4 h.h⟩
theorem o_faddr_ref {off n o : Nat} (hx : evF E x = .ref n o) (h : OpsR cl rest (put E k (.ref n (o + off))) s Q) : OpsR cl (⟨some k, .faddr off x, none, af⟩ :: rest) E s Q := ⟨Raw.o_faddr_ref hx h.h⟩
theorem o_faddr_iptr {off : Nat} {cs : List D} (hx : evF E x = .iptr cs) (h : OpsR cl rest (put E k (.iptr (cs.drop off))) s Q) : OpsR cl (⟨some k, .faddr off x, none, af⟩ :: rest) E s Q := ⟨Raw.o_faddr_iptr hx h.h⟩
theorem o_iaddr_lst {sz : Nat} {xs : List (List D)} {j : Nat} {cs : List D} (hx : evF E x = .lst xs) (hy : evF E y = I64 j) (hj : xs[j]? = some cs) (hs : cs.length = sz) (h : OpsR cl rest (put E k (.iptr cs)) s Q) : OpsR cl (⟨some k, .iaddr sz x y, none, af⟩ :: rest) E s Q := ⟨Raw.o_iaddr_lst hx hy hj hs h.h⟩
theorem o_iaddr_sl {sz n off len j : Nat} (hx : evF E x = .sl n off len sz) (hy : evF E y = I64 j) (hj : j < len) (h : OpsR cl rest (put E k (.ref n (off + j * sz))) s Q) : OpsR cl (⟨some k, .iaddr sz x y, none, af⟩ :: rest) E s Q := ⟨Raw.o_iaddr_sl hx hy hj h.h⟩
theorem o_bin {op : BinOp} {u v w : Value} (hx : evF E x = .raw u) (hy : evF E y = .raw v) (hb : bin op u v = some w) (h : OpsR cl rest (put E k (.raw w)) s Q) : OpsR cl (⟨some k, .bin op x y, none, af⟩ :: rest) E s Q := ⟨Raw.o_bin hx hy hb h.h⟩
theorem o_lss {u v : Int} (hx : evF E x = I64 u) (hy : evF E y = I64 v) (h : OpsR cl rest (put E k (B (decide (u < v)))) s Q) : OpsR cl (⟨some k, .bin .lss x y, none, af⟩ :: rest) E s Q := ⟨Raw.o_lss hx hy h.h⟩
theorem o_leq {u v : Int} (hx : evF E x = I64 u) (hy : evF E y = I64 v) (h : OpsR cl rest (put E k (B (decide (u ≤ v)))) s Q) : OpsR cl (⟨some k, .bin .leq x y, none, af⟩ :: rest) E s Q := ⟨Raw.o_leq hx hy h.h⟩
theorem o_gtr {u v : Int} (hx : evF E x = I64 u) (hy : evF E y = I64 v) (h : OpsR cl rest (put E k (B (decide (u > v)))) s Q) : OpsR cl (⟨some k, .bin .gtr x y, none, af⟩ :: rest) E s Q := ⟨Raw.o_gtr hx hy h.h⟩
theorem o_geq {u v : Int} (hx : evF E x = I64 u) (hy : evF E y = I64 v) (h : OpsR cl rest (put E k (B (decide (u ≥ v)))) s Q) : OpsR cl (⟨some k, .bin .geq x y, none, af⟩ :: rest) E s Q := ⟨Raw.o_geq hx hy h.h⟩
theorem o_eql {u v : Int} (hx : evF E x = I64 u) (hy : evF E y = I64 v) (h : OpsR cl rest (put E k (B (u == v))) s Q) : OpsR cl (⟨some k, .bin .eql x y, none, af⟩ :: rest) E s Q := ⟨Raw.o_eql hx hy h.h⟩
theorem o_neq {u v : Int} (hx : evF E x = I64 u) (hy : evF E y = I64 v) (h : OpsR cl rest (put E k (B (u != v))) s Q) : OpsR cl (⟨some k, .bin .neq x y, none, af⟩ :: rest) E s Q := ⟨Raw.o_neq hx hy h.h⟩
theorem o_neqs {u v : ByteArray} (hx : evF E x = .raw (.string u)) (hy : evF E y = .raw (.string v)) (h : OpsR cl rest (put E k (B !(u.toList == v.toList))) s Q) : OpsR cl (⟨some k, .bin .neq x y, none, af⟩ :: rest) E s Q := ⟨Raw.o_neqs hx hy h.h⟩
theorem o_inc {j : Nat} (hx : evF E x = I64 j) (hj : j + 1 < 2 ^ 63) (h : OpsR cl rest (put E k (I64 ((j + 1 : Nat) : Int))) s Q) : OpsR cl (⟨some k, .bin .add x (.c (.raw (.int .i64 (.ofNat 1)))), none, af⟩ :: rest) E s Q := ⟨Raw.o_inc hx hj h.h⟩
theorem o_not {b : Bool} (hx : evF E x = B b) (h : OpsR cl rest (put E k (B (!b))) s Q) : OpsR cl (⟨some k, .un .not x, none, af⟩ :: rest) E s Q := ⟨Raw.o_not hx h.h⟩
theorem o_neg {u : Int} (hx : evF E x = I64 u) (h : OpsR cl rest (put E k (I64 (IntKind.i64.wrap (0 - u)))) s Q) : OpsR cl (⟨some k, .un .neg x, none, af⟩ :: rest) E s Q := ⟨Raw.o_neg hx h.h⟩
theorem o_eqb {neg u v : Bool} (hx : evF E x = B u) (hy : evF E y = B v) (h : OpsR cl rest (put E k (B (neg != (u == v)))) s Q) : OpsR cl (⟨some k, .eq neg .bool x y, none, af⟩ :: rest) E s Q := ⟨Raw.o_eqb hx hy h.h⟩
theorem o_len_lst {xs : List (List D)} (hx : evF E x = .lst xs) (h : OpsR cl rest (put E k (I64 xs.length)) s Q) : OpsR cl (⟨some k, .len 1 x, none, af⟩ :: rest) E s Q := ⟨Raw.o_len_lst hx h.h⟩
theorem o_len_sl {n off len sz : Nat} (hx : evF E x = .sl n off len sz) (h : OpsR cl rest (put E k (I64 len)) s Q) : OpsR cl (⟨some k, .len 1 x, none, af⟩ :: rest) E s Q := ⟨Raw.o_len_sl hx h.h⟩
theorem o_len_nil (hx : evF E x = .raw (.slice none 0 0)) (h : OpsR cl rest (put E k (I64 ((0 : Nat) : Int))) s Q) : OpsR cl (⟨some k, .len 1 x, none, af⟩ :: rest) E s Q := ⟨Raw.o_len_nil hx h.h⟩
theorem o_len_str {b : ByteArray} (hx : evF E x = .raw (.string b)) (h : OpsR cl rest (put E k (I64 b.size)) s Q) : OpsR cl (⟨some k, .len 0 x, none, af⟩ :: rest) E s Q := ⟨Raw.o_len_str hx h.h⟩
theorem o_len_map {H : Heap} {nx ro : Nat} {n : Nat} {es : List (Value × D)} {z : Bool} (hx : evF E x = .map n) (hl : lk H n = some (.map es z)) (h : OpsR cl rest (put E k (I64 es.length)) ⟨H, nx, ro⟩ Q) : OpsR cl (⟨some k, .len 2 x, none, af⟩ :: rest) E ⟨H, nx, ro⟩ Q := ⟨Raw.o_len_map hx hl h.h⟩
theorem o_extract {ds : List D} {j : Nat} {d : D} (hx : evF E x = .tup ds) (hd : ds[j]? = some d) (h : OpsR cl rest (put E k d) s Q) : OpsR cl (⟨some k, .extract x j, none, af⟩ :: rest) E s Q := ⟨Raw.o_extract hx hd h.h⟩
theorem o_mkfn {f : Fn} {xs ys : List Opd} (h : OpsR cl rest (put E k (.fn f (xs.map (evF E)) (ys.map (evF E)))) s Q) : OpsR cl (⟨some k, .mkfn f xs ys, none, af⟩ :: rest) E s Q := ⟨Raw.o_mkfn h.h⟩
theorem o_nilChk_ref {n o : Nat} (hx : evF E x = .ref n o) (h : OpsR cl rest (put E k (.ref n o)) s Q) : OpsR cl (⟨some k, .nilChk x, none, af⟩ :: rest) E s Q := ⟨Raw.o_nilChk_ref hx h.h⟩
theorem o_take {sz : Nat} {xs : List (List D)} {j : Nat} (hx : evF E x = .lst xs) (hy : evF E y = I64 j) (hs : ∀ c ∈ xs, c.length = sz) (hj : j ≤ xs.length) (h : OpsR cl rest (put E k (.lst (xs.take j))) s Q) : OpsR cl (⟨some k, .slice sz x none (some y) none, none, af⟩ :: rest) E s Q := ⟨Raw.o_take hx hy hs hj h.h⟩
theorem o_lookup_imap {kk : Nat} {z d : D} {kv : Value} {es : List (Value × D)} {r : Option (Nat × D)} (hx : evF E x = .imap es) (hy : evF E y = .raw kv) (hf : findE kk kv es 0 = some r) (hd : (match r with | some (_, d) => d | none => z) = d) (h : OpsR cl rest (put E k d) s Q) : OpsR cl (⟨some k, .lookup kk z false x y, none, af⟩ :: rest) E s Q := ⟨Raw.o_lookup_imap hx hy hf hd h.h⟩
theorem o_call {f : FuncId} {xs : List Opd} {args : List D} {d : D} (hm : MonoQ cl) (hx : xs.map (evF E) = args) {P : St → Prop} (hf : cl f args s (fun o s' => o = .ret d ∧ P s')) (h : ∀ s', P s' → OpsR cl rest (setF E dst d) s' Q) : OpsR cl (⟨dst, .call f xs, none, af⟩ :: rest) E s Q := ⟨Raw.o_call hm hx hf (fun s' hp => (h s' hp).h)⟩
theorem o_callv {f : FuncId} {xs : List Opd} {first cap args : List D} {d : D} (hm : MonoQ cl) (hv : evF E x = .fn (.func f) first cap) (hx : first ++ xs.map (evF E) ++ cap = args) {P : St → Prop} (hf : cl f args s (fun o s' => o = .ret d ∧ P s')) (h : ∀ s', P s' → OpsR cl rest (setF E dst d) s' Q) : OpsR cl (⟨dst, .callv x xs, none, af⟩ :: rest) E s Q := ⟨Raw.o_callv hm hv hx hf (fun s' hp => (h s' hp).h)⟩
theorem o_store_top {H : Heap} {nx ro : Nat} {sz n o : Nat} {cs : List D} {e lo : Nat} {d : D} (hx : evF E x = .ref n o) (hy : evF E y = d) (hs : (cellsOf d).length = sz) (h1 : (cellsOf d).all one = true) (h2 : Nat.ble (o + sz) cs.length = true) (h3 : Nat.ble lo o = true) (h4 : ro ≤ n) (h : OpsR cl rest E ⟨(n, .cells (splice cs o (cellsOf d)) e lo) :: H, nx, ro⟩ Q) : OpsR cl (⟨none, .store sz x y, none, af⟩ :: rest) E ⟨(n, .cells cs e lo) :: H, nx, ro⟩ Q :=
  ⟨Raw.o_store hx hy (lk_here n _ _) hs h1 (Nat.le_of_ble_eq_true h2) (Nat.le_of_ble_eq_true h3) h4 (by rw [upd_here]; exact h.h)⟩
theorem g_split {t : Nat} {b v : Bool} (hx : E t = B v) (h1 : v = b → OpsR cl (⟨dst, i, none, af⟩ :: rest) E s Q) (h2 : v = !b → OpsR cl rest (setF E dst default) s Q) : OpsR cl (⟨dst, i, some (t, b), af⟩ :: rest) E s Q := ⟨Raw.g_split hx (fun h => (h1 h).h) (fun h => (h2 h).h)⟩
end

/-! ### Environments -/
theorem put_self (E : Env) (k : Nat) : put E k (E k) = E := by
  funext j
  simp only [put]
  split
  · rename_i e; rw [e]
  · rfl
theorem put_eq {E : Env} {k : Nat} {d : D} (h : E k = d) : E = put E k d := by rw [← h, put_self]

end Go.Ai
