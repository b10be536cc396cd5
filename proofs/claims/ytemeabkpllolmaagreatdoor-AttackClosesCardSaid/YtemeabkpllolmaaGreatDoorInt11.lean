/-
  A part of an interpreter over abstract data, proved sound once for the model: what it says of the code, the machine does in every order. Conditions: none beyond the statement.
-/
import Derived.Test.YtemeabkpllolmaaGreatDoorInt10
import Derived.Test.YtemeabkpllolmaaGreatDoorInt5
/-! Helpers for proofs by hand. -/
set_option linter.unusedVariables false
set_option linter.unusedSimpArgs false
namespace Go.Ai

def puts : Env → List (Nat × D) → Env
  | E, [] => E
  | E, (k, d) :: l => put (puts E l) k d
def Agree (E : Env) : List (Nat × D) → Prop
  | [] => True
  | (k, d) :: l => E k = d ∧ Agree E l
theorem puts_ex {E : Env} : ∀ {l : List (Nat × D)}, Agree E l → E = puts E l
  | [], _ => rfl
  | (k, d) :: l, h => by
    simp only [puts]
    rw [← puts_ex h.2, ← h.1, put_self]

/-- The heap and what may be written are as before. -/
def Same (s s' : St) : Prop := ∃ n, s' = { H := s.H, nx := n, ro := s.ro } ∧ s.nx ≤ n
theorem Same.H {s s' : St} (h : Same s s') : s'.H = s.H := by obtain ⟨n, rfl, -⟩ := h; rfl
theorem Same.ro {s s' : St} (h : Same s s') : s'.ro = s.ro := by obtain ⟨n, rfl, -⟩ := h; rfl
theorem Same.nx {s s' : St} (h : Same s s') : s.nx ≤ s'.nx := by obtain ⟨n, rfl, h⟩ := h; exact h
/-- A call that yields this value from this state and leaves the heap as it was. -/
def At (cl : Cl) (f : FuncId) (args : List D) (s : St) (d : D) : Prop := cl f args s fun o s' => o = .ret d ∧ Same s s'

/-- The end of a function that seals its arguments, and whose result is rigid. -/
theorem fun_at {ir : FuncId → Option IF} {f : FuncId} {fn : IF} {args args' : List D} {s : St} {H1 : Heap} {d : D} (hf : ir f = some fn) (hk : fn.keep = false) (hl : Nat.ble args'.length fn.nt = true) (ho : okC fn.nt fn.body = true)
    (hv : viewL fuelV args s.H = some (args', H1)) (hr : rigid fuelV d = true)
    (h : CodeR (callL ir) fn.nt fn.body (envOf args') { H := H1, nx := s.nx, ro := s.nx } (EndQ fun r s' => (r.1 = .nrm ∨ r.1 = .ret) ∧ resEnv r.2 s'.H fn.res = some d ∧ s.nx ≤ s'.nx)) : At (callL ir) f args s d := by
  refine fun_seal hf hk (Nat.le_of_ble_eq_true hl) ho hv ?_
  refine codeF_mono (callL_mono ir) _ _ _ _ _ (fun r s' hh => ?_) h.h
  obtain ⟨e, E⟩ := r
  obtain ⟨h1, h2, h3⟩ := hh.h
  dsimp only at h1 h2 ⊢
  rcases h1 with rfl | rfl
  · dsimp only
    rw [h2]
    dsimp only
    rw [if_pos hr]
    exact ⟨rfl, _, rfl, h3⟩
  · dsimp only
    rw [h2]
    dsimp only
    rw [if_pos hr]
    exact ⟨rfl, _, rfl, h3⟩
/-- What was there is as it was. -/
def Fr (s s' : St) : Prop := s'.ro = s.ro ∧ s.nx ≤ s'.nx ∧ ∀ b, b < s.nx → lk s'.H b = lk s.H b
theorem lk_cutF (k : Nat) (H : Heap) (n : Nat) (h : n < k) : lk (cut k H) n = lk H n := by
  induction H with
  | nil => rfl
  | cons p t ih =>
    obtain ⟨m, o⟩ := p
    simp only [cut, List.filter_cons] at *
    by_cases hm : m < k
    · have : Nat.blt m k = true := by simpa using hm
      rw [if_pos this, lk_cons, lk_cons, ih]
    · have : ¬ (Nat.blt m k = true) := by simpa using hm
      rw [if_neg this, ih, lk_cons, if_neg (by omega)]
/-- The end of a function that seals its arguments, and whose result is not rigid. -/
theorem fun_view {ir : FuncId → Option IF} {f : FuncId} {fn : IF} {args args' : List D} {s : St} {H1 : Heap} {P : D → Prop} (hf : ir f = some fn) (hk : fn.keep = false) (hl : Nat.ble args'.length fn.nt = true) (ho : okC fn.nt fn.body = true)
    (hv : viewL fuelV args s.H = some (args', H1))
    (h : CodeR (callL ir) fn.nt fn.body (envOf args') { H := H1, nx := s.nx, ro := s.nx } (EndQ fun r s' => (r.1 = .nrm ∨ r.1 = .ret) ∧ ∃ d d' H2, resEnv r.2 s'.H fn.res = some d ∧ rigid fuelV d = false ∧ view fuelV d s'.H = some (d', H2) ∧ (∀ b, b < s.nx → lk H2 b = lk s.H b) ∧ s.nx ≤ s'.nx ∧ P d')) :
    callL ir f args s fun o s' => ∃ d', o = .ret d' ∧ P d' ∧ Fr s s' := by
  refine fun_seal hf hk (Nat.le_of_ble_eq_true hl) ho hv ?_
  refine codeF_mono (callL_mono ir) _ _ _ _ _ (fun r s' hh => ?_) h.h
  obtain ⟨e, E⟩ := r
  obtain ⟨h1, d, d', H2, h2, h3, h4, h5, h6, h7⟩ := hh.h
  dsimp only at h1 h2 ⊢
  have hfin : Fr s { H := cut s.nx H2, nx := s'.nx, ro := s.ro } := ⟨rfl, h6, fun b hb => by rw [← h5 b hb]; exact lk_cutF _ _ _ hb⟩
  rcases h1 with rfl | rfl
  · dsimp only
    rw [h2]
    dsimp only
    rw [if_neg (by simp [h3]), h4]
    exact ⟨d', rfl, h7, hfin⟩
  · dsimp only
    rw [h2]
    dsimp only
    rw [if_neg (by simp [h3]), h4]
    exact ⟨d', rfl, h7, hfin⟩
/-- The end of a function that takes its arguments as they are. -/
theorem fun_k {ir : FuncId → Option IF} {f : FuncId} {fn : IF} {args : List D} {s : St} {Q : Out → St → Prop} (hf : ir f = some fn) (hk : fn.keep = true) (hl : Nat.ble args.length fn.nt = true) (ho : okC fn.nt fn.body = true)
    (h : CodeR (callL ir) fn.nt fn.body (envOf args) s (EndQ fun r s' => (r.1 = .nrm ∨ r.1 = .ret) ∧ ∃ d, resEnv r.2 s'.H fn.res = some d ∧ Q (.ret d) s')) : callL ir f args s Q := by
  refine fun_keep hf hk (Nat.le_of_ble_eq_true hl) ho ?_
  refine codeF_mono (callL_mono ir) _ _ _ _ _ (fun r s' hh => ?_) h.h
  obtain ⟨e, E⟩ := r
  obtain ⟨h1, d, h2, h3⟩ := hh.h
  dsimp only at h1 h2 ⊢
  rcases h1 with rfl | rfl
  · dsimp only
    rw [h2]
    exact h3
  · dsimp only
    rw [h2]
    exact h3
theorem e_end {Q : Ex × Env → St → Prop} {r : Ex × Env} {s : St} (h : Q r s) : EndQ Q r s := ⟨h⟩

theorem res1 {E : Env} {H : Heap} {t : Nat} {d : D} (h : E t = d) : resEnv E H [.tmp t] = some d := by simp only [resEnv, resLF, resOneF, h]

/-- The first index with a property, or -1. -/
def firstI (p : Nat → Bool) (n : Nat) : Int := match (List.range n).find? p with
  | some i => (i : Int)
  | none => -1
theorem firstI_hit {p : Nat → Bool} {n i : Nat} (hi : i < n) (hp : p i = true) (hb : ∀ j, j < i → p j = false) : firstI p n = i := by
  have : (List.range n).find? p = some i := by
    rw [List.find?_range_eq_some]
    exact ⟨hp, by simpa using hi, fun j hj => by simp [hb j hj]⟩
  simp [firstI, this]
theorem firstI_none {p : Nat → Bool} {n : Nat} (hb : ∀ j, j < n → p j = false) : firstI p n = -1 := by
  have : (List.range n).find? p = none := by
    rw [List.find?_range_eq_none]
    exact fun j hj => by simp [hb j hj]
  simp [firstI, this]
theorem firstI_nonneg {p : Nat → Bool} {n : Nat} : 0 ≤ firstI p n ↔ ∃ i, i < n ∧ p i = true := by
  constructor
  · intro h
    unfold firstI at h
    split at h
    · rename_i i e
      rw [List.find?_range_eq_some] at e
      exact ⟨i, by simpa using e.2.1, e.1⟩
    · omega
  · rintro ⟨i, hi, hp⟩
    unfold firstI
    split
    · omega
    · rename_i e
      rw [List.find?_range_eq_none] at e
      have := e i hi
      rw [hp] at this
      cases this

/-- Lists of ints, as the program holds them. -/
abbrev intL (ts : List Int) : D := .lst (ts.map fun t => [I64 t])

section
variable {cl : Cl} {E : Env} {s : St} {Q : Ex × Env → St → Prop} {rest : List IOp} {k : Nat} {af : List Nat} {x y : Opd}
theorem o_eqS {neg : Bool} {ks : List Nat} {u v : D} {b : Bool} (hx : evF E x = u) (hy : evF E y = v) (he : eqD (.struct ks) u v = some b) (h : OpsR cl rest (put E k (B (neg != b))) s Q) : OpsR cl (⟨some k, .eq neg (.struct ks) x y, none, af⟩ :: rest) E s Q :=
  ⟨Raw.o_exec rfl (by simp only [exec, hx, hy, he, Option.map_some]) h.h⟩
/-- A call that leaves the heap as it was. -/
theorem o_at {f : FuncId} {xs : List Opd} {args : List D} {d : D} (hm : MonoQ cl) (hx : xs.map (evF E) = args) {H : Heap} {nx ro : Nat} (hf : At cl f args ⟨H, nx, ro⟩ d) (h : ∀ n, nx ≤ n → OpsR cl rest (put E k d) ⟨H, n, ro⟩ Q) : OpsR cl (⟨some k, .call f xs, none, af⟩ :: rest) E ⟨H, nx, ro⟩ Q :=
  o_call hm hx hf (fun s' hp => by obtain ⟨n, rfl, hn⟩ := hp; exact h n hn)
theorem o_atv {f : FuncId} {xs : List Opd} {first cap args : List D} {d : D} (hm : MonoQ cl) (hv : evF E x = .fn (.func f) first cap) (hx : first ++ xs.map (evF E) ++ cap = args) {H : Heap} {nx ro : Nat} (hf : At cl f args ⟨H, nx, ro⟩ d) (h : ∀ n, nx ≤ n → OpsR cl rest (put E k d) ⟨H, n, ro⟩ Q) :
    OpsR cl (⟨some k, .callv x xs, none, af⟩ :: rest) E ⟨H, nx, ro⟩ Q :=
  o_callv hm hv hx hf (fun s' hp => by obtain ⟨n, rfl, hn⟩ := hp; exact h n hn)
end

theorem lk_updS {n m : Nat} {o : Obj} {H : Heap} {r : Option Obj} (h : n ≠ m) (h2 : lk H n = r) : lk (upd H m o) n = r := by rw [lk_upd, if_neg h]; exact h2
theorem lk_updH {n : Nat} {o o' : Obj} {H : Heap} (h2 : lk H n = some o') : lk (upd H n o) n = some o := by rw [lk_upd, if_pos rfl, h2]; rfl
theorem lk_rmS {n m : Nat} {H : Heap} {r : Option Obj} (h : n ≠ m) (h2 : lk H n = r) : lk (rm H m) n = r := by rw [lk_rm, if_neg h]; exact h2
section
variable {cl : Cl} {E : Env} {Q : Ex × Env → St → Prop} {rest : List IOp} {k : Nat} {af : List Nat} {x y z : Opd} {H : Heap} {nx ro : Nat}
/-- Appending one cell to a slice that ends where its block ends. -/
theorem o_append1 {e b w off len u : Nat} {cs : List D} {lo' : Nat} {d : D} (hx : evF E x = .sl w off len 1) (hy : evF E y = .sl u 0 1 1) (hu : lk H u = some (.cells [d] e lo')) (hd : one d = true) (hl : lk H w = some (.cells cs e 0)) (hc : off + len = cs.length) (hr : ro ≤ w) (hb : (len + 1) * b ≤ 2 ^ 47) (hb2 : len + 1 ≤ 2 ^ 47)
    (h : OpsR cl rest (put E k (.sl nx 0 (len + 1) 1)) ⟨(nx, .cells (cs.drop off ++ [d]) e 0) :: rm H w, nx + 1, ro⟩ Q) : OpsR cl (⟨some k, .append e 1 b x y, none, af⟩ :: rest) E ⟨H, nx, ro⟩ Q := by
  refine ⟨Raw.o_exec (d := .sl nx 0 (len + 1) 1) (s' := ⟨(nx, .cells (cs.drop off ++ [d]) e 0) :: rm H w, nx + 1, ro⟩) rfl ?_ h.h⟩
  have he : elems H 1 (.sl u 0 1 1) = some ([d], 1) := by simp [elems, hu]
  simp only [exec, hy, he, hx, hl]
  simp [hc, hr, hb, hb2, hd, new]
/-- The same to no slice. -/
theorem o_append0 {e b u : Nat} {lo' : Nat} {d : D} (hx : evF E x = .raw (.slice none 0 0)) (hy : evF E y = .sl u 0 1 1) (hu : lk H u = some (.cells [d] e lo')) (hd : one d = true) (hb : b ≤ 2 ^ 47)
    (h : OpsR cl rest (put E k (.sl nx 0 1 1)) ⟨(nx, .cells [d] e 0) :: H, nx + 1, ro⟩ Q) : OpsR cl (⟨some k, .append e 1 b x y, none, af⟩ :: rest) E ⟨H, nx, ro⟩ Q := by
  refine ⟨Raw.o_exec (d := .sl nx 0 1 1) (s' := ⟨(nx, .cells [d] e 0) :: H, nx + 1, ro⟩) rfl ?_ h.h⟩
  have he : elems H 1 (.sl u 0 1 1) = some ([d], 1) := by simp [elems, hu]
  simp only [exec, hy, he, hx]
  simp [hb, hd, new]
/-- make([]T, n) -/
theorem o_mk1 {e b : Nat} {z : D} {n : Nat} (hx : evF E x = I64 n) (hy : evF E y = I64 n) (hz : one z = true) (hb : n * b ≤ 2 ^ 47) (hn : n ≤ 2 ^ 47)
    (h : OpsR cl rest (put E k (.sl nx 0 n 1)) ⟨(nx, .cells (List.replicate n z) e 0) :: H, nx + 1, ro⟩ Q) : OpsR cl (⟨some k, .mk e 1 b [z] x y, none, af⟩ :: rest) E ⟨H, nx, ro⟩ Q := by
  refine ⟨Raw.o_exec (d := .sl nx 0 n 1) (s' := ⟨(nx, .cells (List.replicate n z) e 0) :: H, nx + 1, ro⟩) rfl ?_ h.h⟩
  have hrep : ∀ n, repZ [z] n = List.replicate n z := by
    intro n
    induction n with
    | zero => rfl
    | succ n ih => simp [repZ, ih, List.replicate_succ]
  have h1 : (n : Int) * (b : Int) ≤ 2 ^ 47 := by exact_mod_cast hb
  have h2 : (n : Int) ≤ 2 ^ 47 := by exact_mod_cast hn
  simp only [exec, hx, hy]
  simp [hz, hrep, new, h1, h2]
  omega
/-- s[1:] -/
theorem o_tail {w off len : Nat} (hx : evF E x = .sl w off (len + 1) 1) (h : OpsR cl rest (put E k (.sl w (off + 1) len 1)) ⟨H, nx, ro⟩ Q) : OpsR cl (⟨some k, .slice 1 x (some (.c (.raw (.int .i64 (.ofNat 1))))) none none, none, af⟩ :: rest) E ⟨H, nx, ro⟩ Q := by
  refine ⟨Raw.o_exec (d := .sl w (off + 1) len 1) (s' := ⟨H, nx, ro⟩) rfl ?_ h.h⟩
  have : (1 : Int) ≤ (len : Int) + 1 := by omega
  simp only [exec, hx]
  simp [bnd, evF, this]
end

/-! ### Sealing -/
theorem rigid_raw (v : Value) : rigid fuelV (.raw v) = true := rfl
theorem view_raw (k : Nat) (v : Value) (H : Heap) (h : v ≠ .slice none 0 0) : view (k + 1) (.raw v) H = some (.raw v, H) := by
  unfold view
  split <;> first | rfl | simp_all | (rename_i e; cases e)
theorem fuelV_eq (k : Nat) (h : k ≤ 1000000) : fuelV = (1000000 - k) + k := by simp [fuelV]; omega
end Go.Ai
/-! Drawn regions by hand. -/
set_option linter.unusedVariables false
set_option linter.unusedSimpArgs false
namespace Go.Ai

theorem drawM_firstA {cl : Cl} (hm : MonoQ cl) {base : Nat} {ops : List IOp} {i : Nat} {d : D} {P : St → Prop} {Q : Ex × List D → St → Prop} (hp : readI (atO ops i).i = true) {ds : List Nat} (hd : ∀ j ∈ ds, ∃ k ∈ (atO ops j).af, k = i ∨ k ∈ ds) : ∀ (fuel : Nat) (l : List Bool) (T : List D) (s : St), (∀ k, l.getD k false = true → k ∉ ds) →
    (∀ j, j < ops.length → j ≠ i → l.getD j true = false → j ∉ ds → apart (atO ops i) (atO ops j) = true ∧ KeepP cl (base + j) (atO ops j) P) → i ∈ readyD ops l → YldP (atO ops i) T P d → P s →
    drawM cl base ops fuel (l.set i true) (setT T (atO ops i).dst d) s Q → drawM cl base ops (fuel + 1) l T s Q := by
  have eo : ∀ j, j < ops.length → ops[j]? = some (atO ops j) := fun j hj => by simp [atO, List.getD_eq_getElem?_getD, hj]
  have rmono : ∀ (l : List Bool) (j : Nat), j ∈ readyD ops l → j ≠ i → j ∈ readyD ops (l.set i true) := by
    intro l j hj hne
    obtain ⟨h1, h2, h3⟩ := mem_readyD.1 hj
    refine mem_readyD.2 ⟨h1, by simpa [List.getD_eq_getElem?_getD, List.getElem?_set, Ne.symm hne] using h2, fun k hk => ?_⟩
    have := h3 k hk
    by_cases hki : k = i
    · subst hki
      have := getD_lt_true _ _ this
      simp [List.getD_eq_getElem?_getD, this]
    · simpa [List.getD_eq_getElem?_getD, List.getElem?_set, Ne.symm hki] using this
  intro fuel
  induction fuel with
  | zero =>
    intro l T s hds ha hr hy hs H
    refine ⟨fun e => (by rw [e] at hr; simp at hr), fun j hj => ?_⟩
    rw [eo j (mem_readyD.1 hj).1]
    by_cases hji : j = i
    · subst hji; exact hy.step hp hs H
    · have := rmono l j hj hji
      rw [H.1] at this
      simp at this
  | succ fuel ih =>
    intro l T s hds ha hr hy hs H
    refine ⟨fun e => (by rw [e] at hr; simp at hr), fun j hj => ?_⟩
    obtain ⟨j1, j2, j3⟩ := mem_readyD.1 hj
    rw [eo j j1]
    by_cases hji : j = i
    · subst hji; exact hy.step hp hs H
    · have h1 := H.2 j (rmono l j hj hji)
      rw [eo j j1] at h1
      dsimp only at h1 ⊢
      have hi := mem_readyD.1 hr
      have hna : i ∉ (atO ops j).af := by
        intro hmem
        have g := j3 i hmem
        have hil := getD_lt_true _ _ g
        have g2 := hi.2.1
        simp [List.getD_eq_getElem?_getD, hil] at g g2
        rw [g] at g2
        cases g2
      have hjd : j ∉ ds := by
        intro hmem
        obtain ⟨k, hk, e⟩ := hd j hmem
        rcases e with e | e
        · subst e; exact hna hk
        · exact hds k (j3 k hk) e
      obtain ⟨hap, hkp⟩ := ha j j1 hji j2 hjd
      obtain ⟨a1, a2, a3⟩ := apart_spec hap
      have hnext : ∀ (e : D) (s : St), P s ∧ drawM cl base ops fuel ((l.set i true).set j true) (setT (setT T (atO ops i).dst d) (atO ops j).dst e) s Q → drawM cl base ops (fuel + 1) (l.set j true) (setT T (atO ops j).dst e) s Q := by
        intro e s hh
        refine ih (l.set j true) _ s (fun k hk => ?_) (fun k hk hki hun hno => ha k hk hki ?_ hno) ?_ (hy.keep a2 e) hh.1 ?_
        · by_cases hkj : k = j
          · subst hkj; exact hjd
          · exact hds k (by simpa [List.getD_eq_getElem?_getD, List.getElem?_set, Ne.symm hkj] using hk)
        · by_cases hkj : k = j
          · subst hkj; exact j2
          · simpa [List.getD_eq_getElem?_getD, List.getElem?_set, Ne.symm hkj] using hun
        · refine mem_readyD.2 ⟨hi.1, by simpa [List.getD_eq_getElem?_getD, List.getElem?_set, hji] using hi.2.1, fun k hk => ?_⟩
          have g := hi.2.2 k hk
          by_cases hkj : k = j
          · subst hkj
            have := getD_lt_true _ _ g
            simp [List.getD_eq_getElem?_getD, this]
          · simpa [List.getD_eq_getElem?_getD, List.getElem?_set, Ne.symm hkj] using g
        · rw [List.set_comm _ _ hji, ← set_comm' T a3]
          exact hh.2
      obtain ⟨u1, u2⟩ := unseen a1 T d
      have h1 := hkp _ _ _ _ hs h1
      unfold stepD at h1 ⊢
      rw [u1, opD_congr _ u2] at h1
      split
      · rename_i hw
        rw [if_pos hw] at h1
        refine opD_mono hm (fun r s' hr' => ?_) h1
        cases r with
        | ret e => exact hnext e s' hr'
        | pan e => exact hr'
      · rename_i hw
        rw [if_neg hw] at h1
        exact hnext default s h1


/-- An operation that reads, or makes an object. -/
def mildI (i : I) : Bool := match i with
  | .alloc .. | .box .. | .bslice .. | .mk .. | .mkmap => true
  | i => readI i
/-- The check that an operation may come first. -/
def firstB (ops : List IOp) (l : List Bool) (ds : List Nat) (i : Nat) (rd : Bool) : Bool :=
  (readyD ops l).contains i && (ds.all fun j => (atO ops j).af.any fun k => Nat.beq k i || ds.contains k) && ((List.range l.length).all fun k => !l.getD k false || !ds.contains k) &&
  (List.range ops.length).all fun j => Nat.beq j i || l.getD j true || ds.contains j || (apart (atO ops i) (atO ops j) && (!rd || mildI (atO ops j).i))
theorem firstB_ok {ops : List IOp} {l : List Bool} {ds : List Nat} {i : Nat} {rd : Bool} (h : firstB ops l ds i rd = true) : i ∈ readyD ops l ∧ (∀ j ∈ ds, ∃ k ∈ (atO ops j).af, k = i ∨ k ∈ ds) ∧ (∀ k, l.getD k false = true → k ∉ ds) ∧
    ∀ j, j < ops.length → j ≠ i → l.getD j true = false → j ∉ ds → apart (atO ops i) (atO ops j) = true ∧ (rd = true → mildI (atO ops j).i = true) := by
  simp only [firstB, Bool.and_eq_true, List.contains_iff_mem, List.all_eq_true, List.any_eq_true, Bool.or_eq_true, Nat.beq_eq, List.mem_range, Bool.not_eq_true', Bool.or_eq_false_iff] at h
  obtain ⟨⟨⟨h1, h2⟩, h3⟩, h4⟩ := h
  refine ⟨h1, h2, fun k hk => ?_, fun j hj hji hun hnd => ?_⟩
  · have hlt := getD_lt_true _ _ hk
    rcases h3 k hlt with e | e
    · rw [hk] at e; cases e
    · intro hm
      have : ds.contains k = true := List.contains_iff_mem.2 hm
      rw [e] at this; cases this
  · rcases h4 j hj with ((e | e) | e) | e
    · exact absurd e hji
    · rw [hun] at e; cases e
    · exact absurd e hnd
    · refine ⟨e.1, fun hr => ?_⟩
      rcases e.2 with e2 | e2
      · rw [hr] at e2; cases e2
      · exact e2

theorem keepsB_mild {nm m : Nat} {i : I} {ob : Obj} (hmi : mildI i = true) (hne : (!Nat.beq nm m) = true) : keepsB nm i m ob = true := by
  cases i <;> first | exact hne | exact hmi | (cases hmi; done)
section
variable {cl : Cl} {base : Nat} {ops : List IOp} {Q : Ex × List D → St → Prop}
/-- A pure operation first. -/
theorem d_pure (hm : MonoQ cl) {fuel : Nat} {l : List Bool} {T : List D} {H : Heap} {nx ro : Nat} (i : Nat) (ds : List Nat) (d : D) (hp : pureI (atO ops i).i = true) (hg : (atO ops i).guard = none) (hb : firstB ops l ds i false = true) (he : ∀ s, exec (evO T) (atO ops i).i s = some (d, s))
    (h : drawM cl base ops fuel (l.set i true) (setT T (atO ops i).dst d) ⟨H, nx, ro⟩ Q) : drawM cl base ops (fuel + 1) l T ⟨H, nx, ro⟩ Q := by
  obtain ⟨h1, h2, h3, h4⟩ := firstB_ok hb
  refine drawM_firstA hm (P := fun _ => True) ?_ h2 fuel l T _ h3 (fun j hj hji hun hnd => ⟨(h4 j hj hji hun hnd).1, KeepP.true_ hm⟩) h1 ?_ trivial h
  · cases hh : (atO ops i).i <;> simp_all [readI, pureI]
  · unfold YldP
    rw [hg]
    exact fun s _ => he s
/-- A load first. -/
theorem d_load (hm : MonoQ cl) {fuel : Nat} {l : List Bool} {T : List D} {H : Heap} {nx ro : Nat} (i : Nat) (ds : List Nat) {ag : Bool} {sz m o : Nat} {x : Opd} {cs : List D} {e lo : Nat} (d : D) (hi : (atO ops i).i = .load ag sz x) (hg : (atO ops i).guard = none) (hb : firstB ops l ds i true = true) (hx : evO T x = .ref m o) (hl : lk H m = some (.cells cs e lo)) (ht : takeN (cs.drop o) ag sz = some d) (hlt : m < base)
    (h : drawM cl base ops fuel (l.set i true) (setT T (atO ops i).dst d) ⟨H, nx, ro⟩ Q) : drawM cl base ops (fuel + 1) l T ⟨H, nx, ro⟩ Q := by
  obtain ⟨h1, h2, h3, h4⟩ := firstB_ok hb
  refine drawM_firstA hm (P := fun s => lk s.H m = some (.cells cs e lo)) (by rw [hi]; rfl) h2 fuel l T _ h3 (fun j hj hji hun hnd => ⟨(h4 j hj hji hun hnd).1, ?_⟩) h1 ?_ hl h
  · refine keepsB_ok ?_
    have hmi := (h4 j hj hji hun hnd).2 rfl
    have hne : (!Nat.beq (base + j) m) = true := by
      cases hb : Nat.beq (base + j) m with
      | false => rfl
      | true => exact absurd (Nat.eq_of_beq_eq_true hb) (by omega)
    exact keepsB_mild hmi hne
  · unfold YldP
    rw [hg]
    intro s hs
    rw [hi]
    simp only [exec, hx, hs, ht, Option.map_some]
theorem d_one {fuel : Nat} {l : List Bool} {T : List D} {s : St} (i : Nat) (hr : readyD ops l = [i]) (hi : i < ops.length) (h : stepD cl (base + i) (atO ops i) T Q (fun T s => drawM cl base ops fuel (l.set i true) T s Q) s) : drawM cl base ops (fuel + 1) l T s Q := by
  refine ⟨fun e => (by rw [hr] at e; cases e), fun j hj => ?_⟩
  rw [hr, List.mem_singleton] at hj
  subst hj
  have : ops[j]? = some (atO ops j) := by simp [atO, List.getD_eq_getElem?_getD, hi]
  rw [this]
  exact h
theorem d_two {fuel : Nat} {l : List Bool} {T : List D} {s : St} (i k : Nat) (hr : readyD ops l = [i, k]) (hi : i < ops.length) (hk : k < ops.length) (h : stepD cl (base + i) (atO ops i) T Q (fun T s => drawM cl base ops fuel (l.set i true) T s Q) s)
    (h2 : stepD cl (base + k) (atO ops k) T Q (fun T s => drawM cl base ops fuel (l.set k true) T s Q) s) : drawM cl base ops (fuel + 1) l T s Q := by
  refine ⟨fun e => (by rw [hr] at e; cases e), fun j hj => ?_⟩
  rw [hr, List.mem_cons, List.mem_singleton] at hj
  rcases hj with e | e
  · subst e
    have : ops[j]? = some (atO ops j) := by simp [atO, List.getD_eq_getElem?_getD, hi]
    rw [this]
    exact h
  · subst e
    have : ops[j]? = some (atO ops j) := by simp [atO, List.getD_eq_getElem?_getD, hk]
    rw [this]
    exact h2
theorem d_end {l : List Bool} {T : List D} {s : St} (hr : readyD ops l = []) (h : Q (.nrm, T) s) : drawM cl base ops 0 l T s Q := ⟨hr, h⟩
theorem d_alloc {nm : Nat} {k : Nat} {af : List Nat} {T : List D} {H : Heap} {nx ro e : Nat} {z : List D} {K : List D → St → Prop} (hz : z.all one = true) (h : K (T.set k (.ref nm 0)) ⟨norm ((nm, .cells z e 0) :: H), nx, ro⟩) : stepD cl nm ⟨some k, .alloc e z, none, af⟩ T Q K ⟨H, nx, ro⟩ := by
  simp only [stepD, wants, if_true, opD, isCall, readI, pureI, Bool.or_self, Bool.false_eq_true, if_false, exec, hz, new]
  exact h
theorem d_call (hm : MonoQ cl) {nm k f : Nat} {xs : List Opd} {args : List D} {d : D} {af : List Nat} {T : List D} {s : St} {K : List D → St → Prop} {P : D → St → Prop} (hx : xs.map (evO T) = args) (hf : cl f args s (fun o s' => ∃ d, o = .ret d ∧ P d s')) (h : ∀ d s', P d s' → K (T.set k d) s') :
    stepD cl nm ⟨some k, .call f xs, none, af⟩ T Q K s := by
  simp only [stepD, wants, if_true, opD, isCall, Bool.true_or, opM, hx]
  refine hm _ _ _ _ _ (fun o s' ho => ?_) hf
  obtain ⟨d, rfl, hp⟩ := ho
  exact h d s' hp
theorem d_store {nm sz n o : Nat} {x y : Opd} {cs : List D} {e lo : Nat} {d : D} {af : List Nat} {T : List D} {H : Heap} {nx ro : Nat} {K : List D → St → Prop} (hx : evO T x = .ref n o) (hy : evO T y = d) (hl : lk H n = some (.cells cs e lo)) (hs : (cellsOf d).length = sz) (h1 : (cellsOf d).all one = true) (h2 : o + sz ≤ cs.length) (h3 : lo ≤ o) (h4 : ro ≤ n)
    (h : K T ⟨norm (upd H n (.cells (splice cs o (cellsOf d)) e lo)), nx, ro⟩) : stepD cl nm ⟨none, .store sz x y, none, af⟩ T Q K ⟨H, nx, ro⟩ := by
  simp only [stepD, wants, if_true, opD, isCall, readI, pureI, Bool.or_self, Bool.false_eq_true, if_false, exec, hx, hy, hl, hs, h1, h2, h3, h4, and_self, setT]
  exact h
end
theorem exec_take {ρ : Opd → D} {x y : Opd} {sz : Nat} {xs : List (List D)} {j : Nat} (hx : ρ x = .lst xs) (hy : ρ y = I64 j) (hs : ∀ c ∈ xs, c.length = sz) (hj : j ≤ xs.length) (s : St) : exec ρ (.slice sz x none (some y) none) s = some (.lst (xs.take j), s) := by
  have h0 : (0 : Int) ≤ (j : Int) := Int.natCast_nonneg j
  have h1 : (j : Int) ≤ (xs.length : Int) := Int.ofNat_le.2 hj
  cases xs with
  | nil =>
    obtain rfl : j = 0 := by simpa using hj
    simp [exec, hx, bnd, hy]
  | cons c t =>
    have h2 : (j : Int) ≤ (t.length : Int) + 1 := by simpa using h1
    simp [exec, hx, bnd, hy, h0, h2, hs c (List.mem_cons_self ..)]
theorem env_set {T : List D} {E : Env} {nt k : Nat} (hT : T.length = nt) (hE : envOf T = E) (hk : Nat.blt k nt = true) (d : D) : (T.set k d).length = nt ∧ envOf (T.set k d) = put E k d := by
  refine ⟨by rw [List.length_set]; exact hT, ?_⟩
  rw [← hE]
  exact envOf_set (by rw [hT]; simpa using hk) d
theorem evO_E {T : List D} {E : Env} (hE : envOf T = E) : evO T = evF E := by rw [← hE, evF_of]
section
variable {cl : Cl} {base : Nat} {ops : List IOp} {Q : Ex × List D → St → Prop}
theorem e_pure (hm : MonoQ cl) {fuel : Nat} {l : List Bool} {T : List D} {E : Env} {nt : Nat} {H : Heap} {nx ro : Nat} (hT : T.length = nt) (hE : envOf T = E) (i : Nat) (ds : List Nat) {k : Nat} {d : D} (hp : pureI (atO ops i).i = true) (hg : (atO ops i).guard = none) (hdst : (atO ops i).dst = some k) (hk : Nat.blt k nt = true) (hb : firstB ops l ds i false = true)
    (he : ∀ s, exec (evF E) (atO ops i).i s = some (d, s)) (h : ∀ T' : List D, T'.length = nt → envOf T' = put E k d → drawM cl base ops fuel (l.set i true) T' ⟨H, nx, ro⟩ Q) : drawM cl base ops (fuel + 1) l T ⟨H, nx, ro⟩ Q := by
  refine d_pure hm i ds d hp hg hb (by rw [evO_E hE]; exact he) ?_
  rw [hdst]
  exact h _ (env_set hT hE hk d).1 (env_set hT hE hk d).2
theorem e_load (hm : MonoQ cl) {fuel : Nat} {l : List Bool} {T : List D} {E : Env} {nt : Nat} {H : Heap} {nx ro : Nat} (hT : T.length = nt) (hE : envOf T = E) (i : Nat) (ds : List Nat) {k : Nat} {ag : Bool} {sz m o : Nat} {x : Opd} {cs : List D} {e lo : Nat} {d : D} (hi : (atO ops i).i = .load ag sz x) (hg : (atO ops i).guard = none) (hdst : (atO ops i).dst = some k) (hk : Nat.blt k nt = true)
    (hb : firstB ops l ds i true = true) (hx : evF E x = .ref m o) (hl : lk H m = some (.cells cs e lo)) (ht : takeN (cs.drop o) ag sz = some d) (hlt : m < base) (h : ∀ T' : List D, T'.length = nt → envOf T' = put E k d → drawM cl base ops fuel (l.set i true) T' ⟨H, nx, ro⟩ Q) : drawM cl base ops (fuel + 1) l T ⟨H, nx, ro⟩ Q := by
  refine d_load hm i ds d hi hg hb (by rw [evO_E hE]; exact hx) hl ht hlt ?_
  rw [hdst]
  exact h _ (env_set hT hE hk d).1 (env_set hT hE hk d).2
theorem e_alloc {nm : Nat} {k : Nat} {af : List Nat} {T : List D} {E : Env} {nt : Nat} {H : Heap} {nx ro e : Nat} {z : List D} {K : List D → St → Prop} (hT : T.length = nt) (hE : envOf T = E) (hk : Nat.blt k nt = true) (hz : z.all one = true) (h : ∀ T' : List D, T'.length = nt → envOf T' = put E k (.ref nm 0) → K T' ⟨norm ((nm, .cells z e 0) :: H), nx, ro⟩) : stepD cl nm ⟨some k, .alloc e z, none, af⟩ T Q K ⟨H, nx, ro⟩ :=
  d_alloc hz (h _ (env_set hT hE hk _).1 (env_set hT hE hk _).2)
theorem e_call (hm : MonoQ cl) {nm k f : Nat} {xs : List Opd} {args : List D} {af : List Nat} {T : List D} {E : Env} {nt : Nat} {s : St} {K : List D → St → Prop} {P : D → St → Prop} (hT : T.length = nt) (hE : envOf T = E) (hk : Nat.blt k nt = true) (hx : xs.map (evF E) = args) (hf : cl f args s (fun o s' => ∃ d, o = .ret d ∧ P d s')) (h : ∀ d s' (T' : List D), P d s' → T'.length = nt → envOf T' = put E k d → K T' s') :
    stepD cl nm ⟨some k, .call f xs, none, af⟩ T Q K s :=
  d_call (d := default) hm (by rw [evO_E hE]; exact hx) hf (fun d s' hp => h d s' _ hp (env_set hT hE hk d).1 (env_set hT hE hk d).2)
theorem e_store {nm sz n o : Nat} {x y : Opd} {cs : List D} {e lo : Nat} {d : D} {af : List Nat} {T : List D} {E : Env} {H : Heap} {nx ro : Nat} {K : List D → St → Prop} (hE : envOf T = E) (hx : evF E x = .ref n o) (hy : evF E y = d) (hl : lk H n = some (.cells cs e lo)) (hs : (cellsOf d).length = sz) (h1 : (cellsOf d).all one = true) (h2 : o + sz ≤ cs.length) (h3 : lo ≤ o) (h4 : ro ≤ n)
    (h : K T ⟨norm (upd H n (.cells (splice cs o (cellsOf d)) e lo)), nx, ro⟩) : stepD cl nm ⟨none, .store sz x y, none, af⟩ T Q K ⟨H, nx, ro⟩ :=
  d_store (by rw [evO_E hE]; exact hx) (by rw [evO_E hE]; exact hy) hl hs h1 h2 h3 h4 h
end
/-- The end of a function that seals its arguments. -/
theorem fun_any {ir : FuncId → Option IF} {f : FuncId} {fn : IF} {args args' : List D} {s : St} {H1 : Heap} {P : D → Prop} (hf : ir f = some fn) (hk : fn.keep = false) (hl : Nat.ble args'.length fn.nt = true) (ho : okC fn.nt fn.body = true)
    (hv : viewL fuelV args s.H = some (args', H1))
    (h : CodeR (callL ir) fn.nt fn.body (envOf args') { H := H1, nx := s.nx, ro := s.nx } (EndQ fun r s' => (r.1 = .nrm ∨ r.1 = .ret) ∧ s.nx ≤ s'.nx ∧ ((∃ d, resEnv r.2 s'.H fn.res = some d ∧ rigid fuelV d = true ∧ P d) ∨ ∃ d d' H2, resEnv r.2 s'.H fn.res = some d ∧ rigid fuelV d = false ∧ view fuelV d s'.H = some (d', H2) ∧ (∀ b, b < s.nx → lk H2 b = lk s.H b) ∧ P d'))) :
    callL ir f args s fun o s' => ∃ d', o = .ret d' ∧ P d' ∧ Fr s s' := by
  refine fun_seal hf hk (Nat.le_of_ble_eq_true hl) ho hv ?_
  refine codeF_mono (callL_mono ir) _ _ _ _ _ (fun r s' hh => ?_) h.h
  obtain ⟨e, E⟩ := r
  obtain ⟨h1, h6, h2⟩ := hh.h
  dsimp only at h1 h2 ⊢
  rcases h2 with ⟨d, h2, h3, h7⟩ | ⟨d, d', H2, h2, h3, h4, h5, h7⟩
  · rcases h1 with rfl | rfl
    · dsimp only
      rw [h2]
      dsimp only
      rw [if_pos h3]
      exact ⟨d, rfl, h7, rfl, h6, fun _ _ => rfl⟩
    · dsimp only
      rw [h2]
      dsimp only
      rw [if_pos h3]
      exact ⟨d, rfl, h7, rfl, h6, fun _ _ => rfl⟩
  · have hfin : Fr s { H := cut s.nx H2, nx := s'.nx, ro := s.ro } := ⟨rfl, h6, fun b hb => by rw [← h5 b hb]; exact lk_cutF _ _ _ hb⟩
    rcases h1 with rfl | rfl
    · dsimp only
      rw [h2]
      dsimp only
      rw [if_neg (by simp [h3]), h4]
      exact ⟨d', rfl, h7, hfin⟩
    · dsimp only
      rw [h2]
      dsimp only
      rw [if_neg (by simp [h3]), h4]
      exact ⟨d', rfl, h7, hfin⟩
section
variable {cl : Cl} {E : Env} {s : St} {Q : Ex × Env → St → Prop} {rest : List IOp} {k : Nat} {af : List Nat} {x y : Opd}
theorem o_callE {f : FuncId} {xs : List Opd} {args : List D} (hm : MonoQ cl) (hx : xs.map (evF E) = args) {P : D → Prop} {H : Heap} {nx ro : Nat} (hf : cl f args ⟨H, nx, ro⟩ (fun o s' => ∃ d, o = .ret d ∧ P d ∧ Fr ⟨H, nx, ro⟩ s')) (h : ∀ d H' n, P d → nx ≤ n → (∀ b, b < nx → lk H' b = lk H b) → OpsR cl rest (put E k d) ⟨H', n, ro⟩ Q) :
    OpsR cl (⟨some k, .call f xs, none, af⟩ :: rest) E ⟨H, nx, ro⟩ Q := by
  refine ⟨?_⟩
  simp only [opsF, wantsF, if_true, opM, hx]
  refine hm _ _ _ _ _ (fun o s' ho => ?_) hf
  obtain ⟨d, rfl, hp, hr⟩ := ho
  obtain ⟨H', n, ro'⟩ := s'
  obtain ⟨f1, f2, f3⟩ := hr
  dsimp only at f1 f2 f3
  subst f1
  exact (h d H' n hp f2 f3).h
theorem o_callvE {f : FuncId} {xs : List Opd} {first cap args : List D} (hm : MonoQ cl) (hv : evF E x = .fn (.func f) first cap) (hx : first ++ xs.map (evF E) ++ cap = args) {P : D → St → Prop} (hf : cl f args s (fun o s' => ∃ d, o = .ret d ∧ P d s')) (h : ∀ d s', P d s' → OpsR cl rest (put E k d) s' Q) :
    OpsR cl (⟨some k, .callv x xs, none, af⟩ :: rest) E s Q := by
  refine ⟨?_⟩
  simp only [opsF, wantsF, if_true, opM, hv, hx]
  refine hm _ _ _ _ _ (fun o s' ho => ?_) hf
  obtain ⟨d, rfl, hp⟩ := ho
  exact (h d s' hp).h
end
theorem lk_normS {H : Heap} {n : Nat} {r : Option Obj} (h : lk H n = r) : lk (norm H) n = r := by rw [lk_norm]; exact h
end Go.Ai
