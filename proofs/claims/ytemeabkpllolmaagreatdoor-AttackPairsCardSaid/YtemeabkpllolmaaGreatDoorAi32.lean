/-
  A part of an interpreter over abstract data, proved sound once for the model: what it says of the code, the machine does in every order. Conditions: none beyond the statement.
-/
import Derived.Test.YtemeabkpllolmaaGreatDoorAi31
/-! Helpers for proofs by hand. -/
set_option linter.unusedVariables false
set_option linter.unusedSimpArgs false
namespace Go.Ai

def puts : Env → List (Nat × D) → Env
  | E, [] => E
  | E, (k, d) :: l => put (puts E l) k d
def Agree (E : Env) : List (Nat × D) → Prop
  | [] => True
  | (k, d) :: l => E k = d ∧ Agree E l
theorem puts_ex {E : Env} : ∀ {l : List (Nat × D)}, Agree E l → E = puts E l
  | [], _ => rfl
  | (k, d) :: l, h => by
    simp only [puts]
    rw [← puts_ex h.2, ← h.1, put_self]

/-- The heap and what may be written are as before. -/
def Same (s s' : St) : Prop := ∃ n, s' = { H := s.H, nx := n, ro := s.ro } ∧ s.nx ≤ n
theorem Same.H {s s' : St} (h : Same s s') : s'.H = s.H := by obtain ⟨n, rfl, -⟩ := h; rfl
theorem Same.ro {s s' : St} (h : Same s s') : s'.ro = s.ro := by obtain ⟨n, rfl, -⟩ := h; rfl
theorem Same.nx {s s' : St} (h : Same s s') : s.nx ≤ s'.nx := by obtain ⟨n, rfl, h⟩ := h; exact h
/-- A call that yields this value from this state and leaves the heap as it was. -/
def At (cl : Cl) (f : FuncId) (args : List D) (s : St) (d : D) : Prop := cl f args s fun o s' => o = .ret d ∧ Same s s'

/-- The end of a function that seals its arguments, and whose result is rigid. -/
theorem fun_at {ir : FuncId → Option IF} {f : FuncId} {fn : IF} {args args' : List D} {s : St} {H1 : Heap} {d : D} (hf : ir f = some fn) (hk : fn.keep = false) (hl : Nat.ble args'.length fn.nt = true) (ho : okC fn.nt fn.body = true)
    (hv : viewL fuelV args s.H = some (args', H1)) (hr : rigid fuelV d = true)
    (h : CodeR (callL ir) fn.nt fn.body (envOf args') { H := H1, nx := s.nx, ro := s.nx } (EndQ fun r s' => (r.1 = .nrm ∨ r.1 = .ret) ∧ resEnv r.2 s'.H fn.res = some d ∧ s.nx ≤ s'.nx)) : At (callL ir) f args s d := by
  refine fun_seal hf hk (Nat.le_of_ble_eq_true hl) ho hv ?_
  refine codeF_mono (callL_mono ir) _ _ _ _ _ (fun r s' hh => ?_) h.h
  obtain ⟨e, E⟩ := r
  obtain ⟨h1, h2, h3⟩ := hh.h
  dsimp only at h1 h2 ⊢
  rcases h1 with rfl | rfl
  · dsimp only
    rw [h2]
    dsimp only
    rw [if_pos hr]
    exact ⟨rfl, _, rfl, h3⟩
  · dsimp only
    rw [h2]
    dsimp only
    rw [if_pos hr]
    exact ⟨rfl, _, rfl, h3⟩
/-- What was there is as it was. -/
def Fr (s s' : St) : Prop := s'.ro = s.ro ∧ s.nx ≤ s'.nx ∧ ∀ b, b < s.nx → lk s'.H b = lk s.H b
theorem lk_cutF (k : Nat) (H : Heap) (n : Nat) (h : n < k) : lk (cut k H) n = lk H n := by
  induction H with
  | nil => rfl
  | cons p t ih =>
    obtain ⟨m, o⟩ := p
    simp only [cut, List.filter_cons] at *
    by_cases hm : m < k
    · have : Nat.blt m k = true := by simpa using hm
      rw [if_pos this, lk_cons, lk_cons, ih]
    · have : ¬ (Nat.blt m k = true) := by simpa using hm
      rw [if_neg this, ih, lk_cons, if_neg (by omega)]
/-- The end of a function that seals its arguments, and whose result is not rigid. -/
theorem fun_view {ir : FuncId → Option IF} {f : FuncId} {fn : IF} {args args' : List D} {s : St} {H1 : Heap} {P : D → Prop} (hf : ir f = some fn) (hk : fn.keep = false) (hl : Nat.ble args'.length fn.nt = true) (ho : okC fn.nt fn.body = true)
    (hv : viewL fuelV args s.H = some (args', H1))
    (h : CodeR (callL ir) fn.nt fn.body (envOf args') { H := H1, nx := s.nx, ro := s.nx } (EndQ fun r s' => (r.1 = .nrm ∨ r.1 = .ret) ∧ ∃ d d' H2, resEnv r.2 s'.H fn.res = some d ∧ rigid fuelV d = false ∧ view fuelV d s'.H = some (d', H2) ∧ (∀ b, b < s.nx → lk H2 b = lk s.H b) ∧ s.nx ≤ s'.nx ∧ P d')) :
    callL ir f args s fun o s' => ∃ d', o = .ret d' ∧ P d' ∧ Fr s s' := by
  refine fun_seal hf hk (Nat.le_of_ble_eq_true hl) ho hv ?_
  refine codeF_mono (callL_mono ir) _ _ _ _ _ (fun r s' hh => ?_) h.h
  obtain ⟨e, E⟩ := r
  obtain ⟨h1, d, d', H2, h2, h3, h4, h5, h6, h7⟩ := hh.h
  dsimp only at h1 h2 ⊢
  have hfin : Fr s { H := cut s.nx H2, nx := s'.nx, ro := s.ro } := ⟨rfl, h6, fun b hb => by rw [← h5 b hb]; exact lk_cutF _ _ _ hb⟩
  rcases h1 with rfl | rfl
  · dsimp only
    rw [h2]
    dsimp only
    rw [if_neg (by simp [h3]), h4]
    exact ⟨d', rfl, h7, hfin⟩
  · dsimp only
    rw [h2]
    dsimp only
    rw [if_neg (by simp [h3]), h4]
    exact ⟨d', rfl, h7, hfin⟩
/-- The end of a function that takes its arguments as they are. -/
theorem fun_k {ir : FuncId → Option IF} {f : FuncId} {fn : IF} {args : List D} {s : St} {Q : Out → St → Prop} (hf : ir f = some fn) (hk : fn.keep = true) (hl : Nat.ble args.length fn.nt = true) (ho : okC fn.nt fn.body = true)
    (h : CodeR (callL ir) fn.nt fn.body (envOf args) s (EndQ fun r s' => (r.1 = .nrm ∨ r.1 = .ret) ∧ ∃ d, resEnv r.2 s'.H fn.res = some d ∧ Q (.ret d) s')) : callL ir f args s Q := by
  refine fun_keep hf hk (Nat.le_of_ble_eq_true hl) ho ?_
  refine codeF_mono (callL_mono ir) _ _ _ _ _ (fun r s' hh => ?_) h.h
  obtain ⟨e, E⟩ := r
  obtain ⟨h1, d, h2, h3⟩ := hh.h
  dsimp only at h1 h2 ⊢
  rcases h1 with rfl | rfl
  · dsimp only
    rw [h2]
    exact h3
  · dsimp only
    rw [h2]
    exact h3
theorem e_end {Q : Ex × Env → St → Prop} {r : Ex × Env} {s : St} (h : Q r s) : EndQ Q r s := ⟨h⟩

theorem res1 {E : Env} {H : Heap} {t : Nat} {d : D} (h : E t = d) : resEnv E H [.tmp t] = some d := by simp only [resEnv, resLF, resOneF, h]

/-- The first index with a property, or -1. -/
def firstI (p : Nat → Bool) (n : Nat) : Int := match (List.range n).find? p with
  | some i => (i : Int)
  | none => -1
theorem firstI_hit {p : Nat → Bool} {n i : Nat} (hi : i < n) (hp : p i = true) (hb : ∀ j, j < i → p j = false) : firstI p n = i := by
  have : (List.range n).find? p = some i := by
    rw [List.find?_range_eq_some]
    exact ⟨hp, by simpa using hi, fun j hj => by simp [hb j hj]⟩
  simp [firstI, this]
theorem firstI_none {p : Nat → Bool} {n : Nat} (hb : ∀ j, j < n → p j = false) : firstI p n = -1 := by
  have : (List.range n).find? p = none := by
    rw [List.find?_range_eq_none]
    exact fun j hj => by simp [hb j hj]
  simp [firstI, this]
theorem firstI_nonneg {p : Nat → Bool} {n : Nat} : 0 ≤ firstI p n ↔ ∃ i, i < n ∧ p i = true := by
  constructor
  · intro h
    unfold firstI at h
    split at h
    · rename_i i e
      rw [List.find?_range_eq_some] at e
      exact ⟨i, by simpa using e.2.1, e.1⟩
    · omega
  · rintro ⟨i, hi, hp⟩
    unfold firstI
    split
    · omega
    · rename_i e
      rw [List.find?_range_eq_none] at e
      have := e i hi
      rw [hp] at this
      cases this

/-- Lists of ints, as the program holds them. -/
abbrev intL (ts : List Int) : D := .lst (ts.map fun t => [I64 t])

section
variable {cl : Cl} {E : Env} {s : St} {Q : Ex × Env → St → Prop} {rest : List IOp} {k : Nat} {af : List Nat} {x y : Opd}
theorem o_eqS {neg : Bool} {ks : List Nat} {u v : D} {b : Bool} (hx : evF E x = u) (hy : evF E y = v) (he : eqD (.struct ks) u v = some b) (h : OpsR cl rest (put E k (B (neg != b))) s Q) : OpsR cl (⟨some k, .eq neg (.struct ks) x y, none, af⟩ :: rest) E s Q :=
  ⟨Raw.o_exec rfl (by simp only [exec, hx, hy, he, Option.map_some]) h.h⟩
/-- A call that leaves the heap as it was. -/
theorem o_at {f : FuncId} {xs : List Opd} {args : List D} {d : D} (hm : MonoQ cl) (hx : xs.map (evF E) = args) {H : Heap} {nx ro : Nat} (hf : At cl f args ⟨H, nx, ro⟩ d) (h : ∀ n, nx ≤ n → OpsR cl rest (put E k d) ⟨H, n, ro⟩ Q) : OpsR cl (⟨some k, .call f xs, none, af⟩ :: rest) E ⟨H, nx, ro⟩ Q :=
  o_call hm hx hf (fun s' hp => by obtain ⟨n, rfl, hn⟩ := hp; exact h n hn)
theorem o_atv {f : FuncId} {xs : List Opd} {first cap args : List D} {d : D} (hm : MonoQ cl) (hv : evF E x = .fn (.func f) first cap) (hx : first ++ xs.map (evF E) ++ cap = args) {H : Heap} {nx ro : Nat} (hf : At cl f args ⟨H, nx, ro⟩ d) (h : ∀ n, nx ≤ n → OpsR cl rest (put E k d) ⟨H, n, ro⟩ Q) :
    OpsR cl (⟨some k, .callv x xs, none, af⟩ :: rest) E ⟨H, nx, ro⟩ Q :=
  o_callv hm hv hx hf (fun s' hp => by obtain ⟨n, rfl, hn⟩ := hp; exact h n hn)
end

theorem lk_updS {n m : Nat} {o : Obj} {H : Heap} {r : Option Obj} (h : n ≠ m) (h2 : lk H n = r) : lk (upd H m o) n = r := by rw [lk_upd, if_neg h]; exact h2
theorem lk_updH {n : Nat} {o o' : Obj} {H : Heap} (h2 : lk H n = some o') : lk (upd H n o) n = some o := by rw [lk_upd, if_pos rfl, h2]; rfl
theorem lk_rmS {n m : Nat} {H : Heap} {r : Option Obj} (h : n ≠ m) (h2 : lk H n = r) : lk (rm H m) n = r := by rw [lk_rm, if_neg h]; exact h2
section
variable {cl : Cl} {E : Env} {Q : Ex × Env → St → Prop} {rest : List IOp} {k : Nat} {af : List Nat} {x y z : Opd} {H : Heap} {nx ro : Nat}
/-- Appending one cell to a slice that ends where its block ends. -/
theorem o_append1 {e b w off len u : Nat} {cs : List D} {lo' : Nat} {d : D} (hx : evF E x = .sl w off len 1) (hy : evF E y = .sl u 0 1 1) (hu : lk H u = some (.cells [d] e lo')) (hd : one d = true) (hl : lk H w = some (.cells cs e 0)) (hc : off + len = cs.length) (hr : ro ≤ w) (hb : (len + 1) * b ≤ 2 ^ 47) (hb2 : len + 1 ≤ 2 ^ 47)
    (h : OpsR cl rest (put E k (.sl nx 0 (len + 1) 1)) ⟨(nx, .cells (cs.drop off ++ [d]) e 0) :: rm H w, nx + 1, ro⟩ Q) : OpsR cl (⟨some k, .append e 1 b x y, none, af⟩ :: rest) E ⟨H, nx, ro⟩ Q := by
  refine ⟨Raw.o_exec (d := .sl nx 0 (len + 1) 1) (s' := ⟨(nx, .cells (cs.drop off ++ [d]) e 0) :: rm H w, nx + 1, ro⟩) rfl ?_ h.h⟩
  have he : elems H 1 (.sl u 0 1 1) = some ([d], 1) := by simp [elems, hu]
  simp only [exec, hy, he, hx, hl]
  simp [hc, hr, hb, hb2, hd, new]
/-- The same to no slice. -/
theorem o_append0 {e b u : Nat} {lo' : Nat} {d : D} (hx : evF E x = .raw (.slice none 0 0)) (hy : evF E y = .sl u 0 1 1) (hu : lk H u = some (.cells [d] e lo')) (hd : one d = true) (hb : b ≤ 2 ^ 47)
    (h : OpsR cl rest (put E k (.sl nx 0 1 1)) ⟨(nx, .cells [d] e 0) :: H, nx + 1, ro⟩ Q) : OpsR cl (⟨some k, .append e 1 b x y, none, af⟩ :: rest) E ⟨H, nx, ro⟩ Q := by
  refine ⟨Raw.o_exec (d := .sl nx 0 1 1) (s' := ⟨(nx, .cells [d] e 0) :: H, nx + 1, ro⟩) rfl ?_ h.h⟩
  have he : elems H 1 (.sl u 0 1 1) = some ([d], 1) := by simp [elems, hu]
  simp only [exec, hy, he, hx]
  simp [hb, hd, new]
/-- make([]T, n) -/
theorem o_mk1 {e b : Nat} {z : D} {n : Nat} (hx : evF E x = I64 n) (hy : evF E y = I64 n) (hz : one z = true) (hb : n * b ≤ 2 ^ 47) (hn : n ≤ 2 ^ 47)
    (h : OpsR cl rest (put E k (.sl nx 0 n 1)) ⟨(nx, .cells (List.replicate n z) e 0) :: H, nx + 1, ro⟩ Q) : OpsR cl (⟨some k, .mk e 1 b [z] x y, none, af⟩ :: rest) E ⟨H, nx, ro⟩ Q := by
  refine ⟨Raw.o_exec (d := .sl nx 0 n 1) (s' := ⟨(nx, .cells (List.replicate n z) e 0) :: H, nx + 1, ro⟩) rfl ?_ h.h⟩
  have hrep : ∀ n, repZ [z] n = List.replicate n z := by
    intro n
    induction n with
    | zero => rfl
    | succ n ih => simp [repZ, ih, List.replicate_succ]
  have h1 : (n : Int) * (b : Int) ≤ 2 ^ 47 := by exact_mod_cast hb
  have h2 : (n : Int) ≤ 2 ^ 47 := by exact_mod_cast hn
  simp only [exec, hx, hy]
  simp [hz, hrep, new, h1, h2]
  omega
/-- s[1:] -/
theorem o_tail {w off len : Nat} (hx : evF E x = .sl w off (len + 1) 1) (h : OpsR cl rest (put E k (.sl w (off + 1) len 1)) ⟨H, nx, ro⟩ Q) : OpsR cl (⟨some k, .slice 1 x (some (.c (.raw (.int .i64 (.ofNat 1))))) none none, none, af⟩ :: rest) E ⟨H, nx, ro⟩ Q := by
  refine ⟨Raw.o_exec (d := .sl w (off + 1) len 1) (s' := ⟨H, nx, ro⟩) rfl ?_ h.h⟩
  have : (1 : Int) ≤ (len : Int) + 1 := by omega
  simp only [exec, hx]
  simp [bnd, evF, this]
end

/-! ### Sealing -/
theorem rigid_raw (v : Value) : rigid fuelV (.raw v) = true := rfl
theorem view_raw (k : Nat) (v : Value) (H : Heap) (h : v ≠ .slice none 0 0) : view (k + 1) (.raw v) H = some (.raw v, H) := by
  unfold view
  split <;> first | rfl | simp_all | (rename_i e; cases e)
theorem fuelV_eq (k : Nat) (h : k ≤ 1000000) : fuelV = (1000000 - k) + k := by simp [fuelV]; omega
end Go.Ai
