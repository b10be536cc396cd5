/-
  Lemmas of the interpreter: slices of the call, maps gone round, calls with live arguments. Conditions: none beyond the statement.
-/
import Derived.Test.YtemeabkpllolmaaGreatDoorInt11
set_option maxRecDepth 100000
set_option linter.unusedVariables false
set_option linter.unusedSimpArgs false
namespace Go.Ai

/-! ### Looking up in an environment, step by step, so that values stay small -/
structure Get (E : Env) (x : Opd) (d : D) : Prop where
  h : evF E x = d
section
variable {E : Env} {d x : D} {j k : Nat} {l : List (Nat × D)} {ds : List D}
theorem Get.c : Get E (.c d) d := ⟨rfl⟩
theorem Get.here : Get (put E k d) (.t k) d := ⟨by simp [evF, put]⟩
theorem Get.skip (h : Nat.beq j k = false) (hh : Get E (.t j) d) : Get (put E k x) (.t j) d := ⟨by
  have : j ≠ k := fun e => by rw [e, show Nat.beq k k = true from Nat.beq_refl k] at h; cases h
  have h2 := hh.h
  simp only [evF, put, if_neg this] at h2 ⊢
  exact h2⟩
theorem Get.phere : Get (puts E ((k, d) :: l)) (.t k) d := ⟨by simp [evF, puts, put]⟩
theorem Get.pskip (h : Nat.beq j k = false) (hh : Get (puts E l) (.t j) d) : Get (puts E ((k, x) :: l)) (.t j) d := Get.skip h hh
theorem Get.a0 : Get (envOf (d :: ds)) (.t 0) d := ⟨rfl⟩
theorem Get.a1 (hh : Get (envOf ds) (.t j) d) : Get (envOf (x :: ds)) (.t (j + 1)) d := ⟨hh.h⟩
theorem gv {o : Opd} (h : Get E o d) : evF E o = d := h.h
theorem gt (h : Get E (.t k) d) : E k = d := h.h
theorem mapN : ([] : List Opd).map (evF E) = [] := rfl
theorem mapC {o : Opd} {os : List Opd} (h : Get E o d) (hs : os.map (evF E) = ds) : (o :: os).map (evF E) = d :: ds := by rw [List.map_cons, h.h, hs]
theorem ag_nil : Agree E [] := trivial
theorem ag_cons (h : Get E (.t k) d) (hs : Agree E l) : Agree E ((k, d) :: l) := ⟨h.h, hs⟩
end
section
variable {cl : Cl} {E : Env} {s : St} {Q : Ex × Env → St → Prop} {rest : List IOp} {k : Nat} {dst : Option Nat} {i : I} {af : List Nat} {x y z : Opd}
theorem n_no {t : Nat} {b v : Bool} (hx : E t = B v) (hv : v = !b) (h : OpsR cl rest (put E k default) s Q) : OpsR cl (⟨some k, i, some (t, b), af⟩ :: rest) E s Q := g_no hx hv h
theorem n_mkfn {f : Fn} {xs ys : List Opd} {ds es : List D} (hx : xs.map (evF E) = ds) (hy : ys.map (evF E) = es) (h : OpsR cl rest (put E k (.fn f ds es)) s Q) : OpsR cl (⟨some k, .mkfn f xs ys, none, af⟩ :: rest) E s Q :=
  o_mkfn (by rw [hx, hy]; exact h)
theorem n_split {t : Nat} {b v : Bool} (hx : E t = B v) (h1 : v = b → OpsR cl (⟨some k, i, none, af⟩ :: rest) E s Q) (h2 : v = !b → OpsR cl rest (put E k default) s Q) : OpsR cl (⟨some k, i, some (t, b), af⟩ :: rest) E s Q := g_split hx h1 h2
end
end Go.Ai
set_option maxRecDepth 100000
set_option linter.unusedVariables false
set_option linter.unusedSimpArgs false
namespace Go.Ai

/-! ### Environments anew -/
section
variable {cl : Cl} {nt : Nat} {c : IC} {E : Env} {s : St} {Q : Ex × Env → St → Prop} {ops : List IOp}
theorem c_reset (l : List (Nat × D)) (hA : Agree E l) (h : ∀ E0, CodeR cl nt c (puts E0 l) s Q) : CodeR cl nt c E s Q := by
  rw [puts_ex hA]
  exact h E
theorem o_reset (l : List (Nat × D)) (hA : Agree E l) (h : ∀ E0, OpsR cl ops (puts E0 l) s Q) : OpsR cl ops E s Q := by
  rw [puts_ex hA]
  exact h E
end

/-! ### Lists of ints -/
/-- A list of ints, as results hand it. -/
def IL (d : D) (l : List Int) : Prop := d = intL l ∨ (l = [] ∧ d = .raw (.slice none 0 0))
theorem IL.self (l : List Int) : IL (intL l) l := Or.inl rfl
theorem viewL_IL {d : D} {l : List Int} (h : IL d l) (H : Heap) : viewL fuelV [d] H = some ([intL l], H) := by
  rcases h with rfl | ⟨rfl, rfl⟩ <;> rfl
theorem viewL_IL1 {d : D} {l : List Int} (h : IL d l) (v : Value) (hv : v ≠ .slice none 0 0) (H : Heap) : viewL fuelV [d, .raw v] H = some ([intL l, .raw v], H) := by
  have h1 : fuelV = 999999 + 1 := rfl
  have h2 : (999999 : Nat) = 999998 + 1 := rfl
  rcases h with rfl | ⟨rfl, rfl⟩
  · rw [h1]
    simp only [viewL]
    rw [show view 999999 (intL l) H = some (intL l, H) from rfl]
    dsimp only
    rw [show view 999998 (.raw v) H = some (.raw v, H) from view_raw 999997 v H hv]
  · rw [h1]
    simp only [viewL]
    rw [show view 999999 (.raw (.slice none 0 0)) H = some (.lst [], H) from rfl]
    dsimp only
    rw [show view 999998 (.raw v) H = some (.raw v, H) from view_raw 999997 v H hv]
    rfl
theorem viewL_IL2 {d d' : D} {l l' : List Int} (h : IL d l) (h' : IL d' l') (H : Heap) : viewL fuelV [d, d'] H = some ([intL l, intL l'], H) := by
  rcases h with rfl | ⟨rfl, rfl⟩ <;> rcases h' with rfl | ⟨rfl, rfl⟩ <;> rfl
theorem viewL_intsH (H : Heap) : ∀ (l : List Int) (k : Nat), l.length < k → viewL k (l.map I64) H = some (l.map I64, H)
  | [], k, h => by cases k <;> rfl
  | t :: l, k + 1, h => by
    have h2 : 0 < k := by simp at h; omega
    obtain ⟨j, rfl⟩ : ∃ j, k = j + 1 := ⟨k - 1, by omega⟩
    have ih := viewL_intsH H l (j + 1) (by simpa using h)
    simp only [List.map_cons] at ih ⊢
    simp only [viewL, view, ih]
theorem chunks_one {α : Type} : ∀ l : List D, chunks 1 l.length l = l.map fun x => [x]
  | [] => rfl
  | d :: l => by simp only [List.length_cons, chunks, List.map_cons, List.take_succ_cons, List.take_zero, List.drop_succ_cons, List.drop_zero, chunks_one (α := α) l]

/-! ### Slices of the call's own -/
/-- A slice of cells of the call's own, the whole of its block; or none. -/
def Own (H : Heap) (lo nx e : Nat) (X : D) (cs : List D) : Prop :=
  (cs = [] ∧ X = .raw (.slice none 0 0)) ∨ ∃ w, X = .sl w 0 cs.length 1 ∧ lo ≤ w ∧ w < nx ∧ lk H w = some (.cells cs e 0)
def nameOf : D → Option Nat
  | .sl n _ _ _ => some n
  | _ => none
theorem Own.nil {H : Heap} {lo nx e : Nat} : Own H lo nx e (.raw (.slice none 0 0)) [] := Or.inl ⟨rfl, rfl⟩
theorem Own.step {H H' : Heap} {lo nx nx' e : Nat} {X : D} {cs : List D} (h : Own H lo nx e X cs) (hn : nx ≤ nx') (hf : ∀ m, nameOf X = some m → m < nx → lk H' m = lk H m) : Own H' lo nx' e X cs := by
  rcases h with ⟨rfl, rfl⟩ | ⟨w, rfl, h1, h2, h3⟩
  · exact Or.inl ⟨rfl, rfl⟩
  · exact Or.inr ⟨w, rfl, h1, by omega, by rw [hf w rfl h2]; exact h3⟩
theorem Own.low {H : Heap} {lo nx e : Nat} {X : D} {cs : List D} (h : Own H lo nx e X cs) {m : Nat} (hm : m < lo) : nameOf X ≠ some m := by
  rcases h with ⟨rfl, rfl⟩ | ⟨w, rfl, h1, h2, h3⟩
  · intro h; cases h
  · intro h
    simp only [nameOf, Option.some.injEq] at h
    omega
theorem Own.get {H : Heap} {lo nx e : Nat} {X : D} {cs : List D} (h : Own H lo nx e X cs) (hl : 0 < cs.length) : ∃ w, X = .sl w 0 cs.length 1 ∧ lo ≤ w ∧ w < nx ∧ lk H w = some (.cells cs e 0) := by
  rcases h with ⟨rfl, rfl⟩ | h
  · cases hl
  · exact h
theorem Own.elems {H : Heap} {lo nx e : Nat} {X : D} {cs : List D} (h : Own H lo nx e X cs) : elems H 1 X = some (cs, cs.length) := by
  rcases h with ⟨rfl, rfl⟩ | ⟨w, rfl, h1, h2, h3⟩
  · rfl
  · simp [Ai.elems, h3]

section
variable {cl : Cl} {E : Env} {Q : Ex × Env → St → Prop} {rest : List IOp} {k : Nat} {af : List Nat} {x y z : Opd} {H : Heap} {nx ro : Nat}
theorem o_len_own {lo e : Nat} {X : D} {cs : List D} {s : St} (hx : evF E x = X) (hX : Own H lo nx e X cs) (h : OpsR cl rest (put E k (I64 cs.length)) s Q) : OpsR cl (⟨some k, .len 1 x, none, af⟩ :: rest) E s Q := by
  rcases hX with ⟨rfl, rfl⟩ | ⟨w, rfl, -⟩
  · exact o_len_nil hx h
  · exact o_len_sl hx h
theorem elems_one (H : Heap) (u e lo : Nat) (d : D) : elems ((u, .cells [d] e lo) :: H) 1 (.sl u 0 1 1) = some ([d], 1) := by
  simp [elems, lk_cons]
/-- []T{} -/
theorem o_bslice0 {e : Nat} {z : D} (hz : one z = true) (h : OpsR cl rest (put E k (.sl nx 0 0 1)) ⟨(nx, .cells [] e 0) :: H, nx + 1, ro⟩ Q) : OpsR cl (⟨some k, .bslice e 1 0 [z] [], none, af⟩ :: rest) E ⟨H, nx, ro⟩ Q := by
  refine ⟨Raw.o_exec (d := .sl nx 0 0 1) (s' := ⟨(nx, .cells [] e 0) :: H, nx + 1, ro⟩) rfl ?_ h.h⟩
  simp [exec, fill, repZ, new, hz]
/-- append, to a slice of the call's own, cells of another one. -/
theorem o_appO {e b lo : Nat} {X Y : D} {cs ys : List D} (hx : evF E x = X) (hX : Own H lo nx e X cs) (hy : evF E y = Y) (hys : elems H 1 Y = some (ys, ys.length)) (ho : ys.all one = true) (hlo : lo ≤ nx) (hr : ro ≤ lo)
    (hb : (cs.length + ys.length) * b ≤ 2 ^ 47) (hb2 : cs.length + ys.length ≤ 2 ^ 47)
    (h : ∀ X' H' nx', nx ≤ nx' → Own H' lo nx' e X' (cs ++ ys) → (∀ m, m < nx → nameOf X ≠ some m → lk H' m = lk H m) → (∀ m, nameOf X' = some m → nameOf X = some m ∨ nx ≤ m) → OpsR cl rest (put E k X') ⟨H', nx', ro⟩ Q) :
    OpsR cl (⟨some k, .append e 1 b x y, none, af⟩ :: rest) E ⟨H, nx, ro⟩ Q := by
  by_cases h0 : ys.length = 0
  · have hnil : ys = [] := List.eq_nil_of_length_eq_zero h0
    subst hnil
    refine ⟨Raw.o_exec (d := X) (s' := ⟨H, nx, ro⟩) rfl ?_ (h X H nx (Nat.le_refl _) (by rw [List.append_nil]; exact hX) (fun _ _ _ => rfl) (fun m hm => Or.inl hm)).h⟩
    simp only [exec, hy, hys, hx]
    rcases hX with ⟨rfl, rfl⟩ | ⟨w, rfl, -⟩ <;> rfl
  · have hpos : 0 < ys.length := Nat.pos_of_ne_zero h0
    rcases hX with ⟨rfl, rfl⟩ | ⟨w, rfl, h1, h2, h3⟩
    · refine ⟨Raw.o_exec (d := .sl nx 0 ys.length 1) (s' := ⟨(nx, .cells ys e 0) :: H, nx + 1, ro⟩) rfl ?_ (h _ _ _ (Nat.le_succ _) (Or.inr ⟨nx, by rfl, hlo, Nat.lt_succ_self _, lk_here _ _ _⟩) (fun m hm _ => by rw [lk_there _ _ (by omega)]) (fun m hm => Or.inr (by simp only [nameOf, Option.some.injEq] at hm; omega))).h⟩
      simp only [exec, hy, hys, hx, if_neg h0]
      simp only [List.length_nil, Nat.zero_add] at hb hb2
      simp [hb, hb2, ho, new]
    · refine ⟨Raw.o_exec (d := .sl nx 0 (cs.length + ys.length) 1) (s' := ⟨(nx, .cells (cs.drop 0 ++ ys) e (0 - 0)) :: rm H w, nx + 1, ro⟩) rfl ?_ (h _ _ _ (Nat.le_succ _) (Or.inr ⟨nx, by rw [List.length_append], hlo, Nat.lt_succ_self _, lk_here _ _ _⟩) (fun m hm hne => ?_) (fun m hm => Or.inr (by simp only [nameOf, Option.some.injEq] at hm; omega))).h⟩
      · simp only [exec, hy, hys, hx, if_neg h0, h3]
        have hrw : ro ≤ w := by omega
        simp [hb, hb2, ho, new, hrw]
      · have : m ≠ w := fun e => hne (by rw [e]; rfl)
        rw [lk_there _ _ (by omega), lk_rm, if_neg this]
/-- s[:j] -/
theorem o_cutTo {e lo j : Nat} {X : D} {cs : List D} {s : St} (hx : evF E x = X) (hy : evF E y = I64 j) (hX : Own H lo nx e X cs) (hj : j ≤ cs.length)
    (h : ∀ Y, elems H 1 Y = some (cs.take j, (cs.take j).length) → OpsR cl rest (put E k Y) s Q) : OpsR cl (⟨some k, .slice 1 x none (some y) none, none, af⟩ :: rest) E s Q := by
  have hjj : ((j : Int) ≤ (cs.length : Int)) := by omega
  have hl : (cs.take j).length = j := by rw [List.length_take]; omega
  rcases hX with ⟨rfl, rfl⟩ | ⟨w, rfl, h1, h2, h3⟩
  · have hj0 : j = 0 := by simpa using hj
    subst hj0
    refine ⟨Raw.o_exec (d := .raw (.slice none 0 0)) (s' := s) rfl ?_ (h _ (by rfl)).h⟩
    simp only [exec, hx]
    simp [bnd, hy]
  · refine ⟨Raw.o_exec (d := .sl w 0 j 1) (s' := s) rfl ?_ (h _ (by rw [hl]; simp [Ai.elems, h3, hj])).h⟩
    simp only [exec, hx]
    simp [bnd, hy, hj]
/-- s[j:] -/
theorem o_cutFrom {e lo j : Nat} {X : D} {cs : List D} {s : St} (hx : evF E x = X) (hy : evF E y = I64 j) (hX : Own H lo nx e X cs) (hj : j ≤ cs.length)
    (h : ∀ Y, elems H 1 Y = some (cs.drop j, (cs.drop j).length) → OpsR cl rest (put E k Y) s Q) : OpsR cl (⟨some k, .slice 1 x (some y) none none, none, af⟩ :: rest) E s Q := by
  have hl : (cs.drop j).length = cs.length - j := by rw [List.length_drop]
  rcases hX with ⟨rfl, rfl⟩ | ⟨w, rfl, h1, h2, h3⟩
  · have hj0 : j = 0 := by simpa using hj
    subst hj0
    refine ⟨Raw.o_exec (d := .raw (.slice none 0 0)) (s' := s) rfl ?_ (h _ (by rfl)).h⟩
    simp only [exec, hx]
    simp [bnd, hy]
  · have h4 : (cs.drop j).take (cs.length - j) = cs.drop j := List.take_of_length_le (by rw [hl]; omega)
    refine ⟨Raw.o_exec (d := .sl w j (cs.length - j) 1) (s' := s) rfl ?_ (h _ (by rw [hl]; simp [Ai.elems, h3, h4]; omega)).h⟩
    simp only [exec, hx]
    simp [bnd, hy, hj]
end

/-- The end of a function whose result is a list of ints of its own. -/
theorem own_end {H : Heap} {lo nx e : Nat} {X : D} {L : List Int} (hX : Own H lo nx e X (L.map I64)) (hl : L.length < 900000) : (rigid fuelV X = true ∧ IL X L) ∨ ∃ d' H2, rigid fuelV X = false ∧ view fuelV X H = some (d', H2) ∧ IL d' L ∧ ∀ b, b < lo → lk H2 b = lk H b := by
  rcases hX with ⟨h1, rfl⟩ | ⟨w, rfl, h1, h2, h3⟩
  · have : L = [] := by simpa using h1
    exact Or.inl ⟨rfl, Or.inr ⟨this, rfl⟩⟩
  · refine Or.inr ⟨intL L, upd H w (.cells (L.map I64) e (max 0 (0 + (L.map I64).length * 1))), rfl, ?_, Or.inl rfl, fun b hb => by rw [lk_upd, if_neg (by omega)]⟩
    have h1 : fuelV = 999999 + 1 := rfl
    rw [h1]
    have h4 : 0 + (L.map I64).length * 1 ≤ (L.map I64).length := by omega
    have h5 : ((L.map I64).drop 0).take ((L.map I64).length * 1) = L.map I64 := by
      rw [List.drop_zero, Nat.mul_one]
      exact List.take_of_length_le (Nat.le_refl _)
    simp only [view, h3, if_pos h4, h5]
    rw [viewL_intsH _ L _ (by omega)]
    simp only [chunks_one (α := Unit), List.map_map]
    rfl

/-! ### Functions, whatever the calls mean -/
/-- The functions of a table mean what their bodies do. -/
def Closed (ir : FuncId → Option IF) (cl : Cl) : Prop := ∀ f fn args s Q, ir f = some fn → bodyM cl fn args s Q → cl f args s Q
theorem closed_callL (ir : FuncId → Option IF) : Closed ir (callL ir) := fun f fn args s Q hf h => callL_unfold hf h
theorem Cfun_seal {cl : Cl} (hm : MonoQ cl) {ir : FuncId → Option IF} (hc : Closed ir cl) {f : FuncId} {fn : IF} {args args' : List D} {s : St} {H1 : Heap} {Q : Out → St → Prop} (hf : ir f = some fn) (hk : fn.keep = false) (hl : args'.length ≤ fn.nt) (ho : okC fn.nt fn.body = true)
    (hv : viewL fuelV args s.H = some (args', H1))
    (h : codeF cl fn.nt fn.body (envOf args') { H := H1, nx := s.nx, ro := s.nx } fun r s' => match r.1 with
      | .pan d => match view fuelV d s'.H with
        | some (d, H2) => Q (.pan d) { H := cut s.nx H2, nx := s'.nx, ro := s.ro }
        | none => False
      | .exit _ => False
      | _ => match resEnv r.2 s'.H fn.res with
        | some d => if rigid fuelV d then Q (.ret d) { H := s.H, nx := s'.nx, ro := s.ro } else match view fuelV d s'.H with
          | some (d, H2) => Q (.ret d) { H := cut s.nx H2, nx := s'.nx, ro := s.ro }
          | none => False
        | none => False) : cl f args s Q := by
  refine hc _ _ _ _ _ hf ?_
  unfold bodyM
  rw [if_neg (by simp [hk]), hv]
  dsimp only
  have hp := pad_len hl
  rw [← envOf_pad fn.nt args'] at h
  have h2 := codeF_ok hm fn.body (pad fn.nt args') { H := H1, nx := s.nx, ro := s.nx } _ (by rw [hp]; exact ho) (by rw [hp]; exact h)
  refine codeM_mono (fun _ _ _ _ h => h) hm _ _ _ _ _ (fun r s' hr => ?_) h2
  obtain ⟨e, T⟩ := r
  have := hr.1
  cases e with
  | pan d => exact this
  | exit i => exact this
  | nrm => dsimp only at this ⊢; rw [resEnv_of] at this; exact this
  | ret => dsimp only at this ⊢; rw [resEnv_of] at this; exact this
theorem Cfun_keep {cl : Cl} (hm : MonoQ cl) {ir : FuncId → Option IF} (hc : Closed ir cl) {f : FuncId} {fn : IF} {args : List D} {s : St} {Q : Out → St → Prop} (hf : ir f = some fn) (hk : fn.keep = true) (hl : args.length ≤ fn.nt) (ho : okC fn.nt fn.body = true)
    (h : codeF cl fn.nt fn.body (envOf args) s fun r s' => match r.1 with
      | .pan d => Q (.pan d) s'
      | .exit _ => False
      | _ => match resEnv r.2 s'.H fn.res with
        | some d => Q (.ret d) s'
        | none => False) : cl f args s Q := by
  refine hc _ _ _ _ _ hf ?_
  unfold bodyM
  rw [if_pos hk]
  have hp := pad_len hl
  rw [← envOf_pad fn.nt args] at h
  have h2 := codeF_ok hm fn.body (pad fn.nt args) s _ (by rw [hp]; exact ho) (by rw [hp]; exact h)
  refine codeM_mono (fun _ _ _ _ h => h) hm _ _ _ _ _ (fun r s' hr => ?_) h2
  obtain ⟨e, T⟩ := r
  have := hr.1
  cases e with
  | pan d => exact this
  | exit i => exact this
  | nrm => dsimp only at this ⊢; rw [resEnv_of] at this; exact this
  | ret => dsimp only at this ⊢; rw [resEnv_of] at this; exact this
theorem Cfun_at {cl : Cl} (hm : MonoQ cl) {ir : FuncId → Option IF} (hc : Closed ir cl) {f : FuncId} {fn : IF} {args args' : List D} {s : St} {H1 : Heap} {d : D} (hf : ir f = some fn) (hk : fn.keep = false) (hl : Nat.ble args'.length fn.nt = true) (ho : okC fn.nt fn.body = true)
    (hv : viewL fuelV args s.H = some (args', H1)) (hr : rigid fuelV d = true)
    (h : CodeR cl fn.nt fn.body (envOf args') { H := H1, nx := s.nx, ro := s.nx } (EndQ fun r s' => (r.1 = .nrm ∨ r.1 = .ret) ∧ resEnv r.2 s'.H fn.res = some d ∧ s.nx ≤ s'.nx)) : At cl f args s d := by
  refine Cfun_seal hm hc hf hk (Nat.le_of_ble_eq_true hl) ho hv ?_
  refine codeF_mono hm _ _ _ _ _ (fun r s' hh => ?_) h.h
  obtain ⟨e, E⟩ := r
  obtain ⟨h1, h2, h3⟩ := hh.h
  dsimp only at h1 h2 ⊢
  rcases h1 with rfl | rfl
  · dsimp only
    rw [h2]
    dsimp only
    rw [if_pos hr]
    exact ⟨rfl, _, rfl, h3⟩
  · dsimp only
    rw [h2]
    dsimp only
    rw [if_pos hr]
    exact ⟨rfl, _, rfl, h3⟩
theorem Cfun_view {cl : Cl} (hm : MonoQ cl) {ir : FuncId → Option IF} (hc : Closed ir cl) {f : FuncId} {fn : IF} {args args' : List D} {s : St} {H1 : Heap} {P : D → Prop} (hf : ir f = some fn) (hk : fn.keep = false) (hl : Nat.ble args'.length fn.nt = true) (ho : okC fn.nt fn.body = true)
    (hv : viewL fuelV args s.H = some (args', H1))
    (h : CodeR cl fn.nt fn.body (envOf args') { H := H1, nx := s.nx, ro := s.nx } (EndQ fun r s' => (r.1 = .nrm ∨ r.1 = .ret) ∧ ∃ d d' H2, resEnv r.2 s'.H fn.res = some d ∧ rigid fuelV d = false ∧ view fuelV d s'.H = some (d', H2) ∧ (∀ b, b < s.nx → lk H2 b = lk s.H b) ∧ s.nx ≤ s'.nx ∧ P d')) :
    cl f args s fun o s' => ∃ d', o = .ret d' ∧ P d' ∧ Fr s s' := by
  refine Cfun_seal hm hc hf hk (Nat.le_of_ble_eq_true hl) ho hv ?_
  refine codeF_mono hm _ _ _ _ _ (fun r s' hh => ?_) h.h
  obtain ⟨e, E⟩ := r
  obtain ⟨h1, d, d', H2, h2, h3, h4, h5, h6, h7⟩ := hh.h
  dsimp only at h1 h2 ⊢
  have hfin : Fr s { H := cut s.nx H2, nx := s'.nx, ro := s.ro } := ⟨rfl, h6, fun b hb => by rw [← h5 b hb]; exact lk_cutF _ _ _ hb⟩
  rcases h1 with rfl | rfl
  · dsimp only
    rw [h2]
    dsimp only
    rw [if_neg (by simp [h3]), h4]
    exact ⟨d', rfl, h7, hfin⟩
  · dsimp only
    rw [h2]
    dsimp only
    rw [if_neg (by simp [h3]), h4]
    exact ⟨d', rfl, h7, hfin⟩
theorem Cfun_k {cl : Cl} (hm : MonoQ cl) {ir : FuncId → Option IF} (hc : Closed ir cl) {f : FuncId} {fn : IF} {args : List D} {s : St} {Q : Out → St → Prop} (hf : ir f = some fn) (hk : fn.keep = true) (hl : Nat.ble args.length fn.nt = true) (ho : okC fn.nt fn.body = true)
    (h : CodeR cl fn.nt fn.body (envOf args) s (EndQ fun r s' => (r.1 = .nrm ∨ r.1 = .ret) ∧ ∃ d, resEnv r.2 s'.H fn.res = some d ∧ Q (.ret d) s')) : cl f args s Q := by
  refine Cfun_keep hm hc hf hk (Nat.le_of_ble_eq_true hl) ho ?_
  refine codeF_mono hm _ _ _ _ _ (fun r s' hh => ?_) h.h
  obtain ⟨e, E⟩ := r
  obtain ⟨h1, d, h2, h3⟩ := hh.h
  dsimp only at h1 h2 ⊢
  rcases h1 with rfl | rfl
  · dsimp only
    rw [h2]
    exact h3
  · dsimp only
    rw [h2]
    exact h3
theorem Cfun_any {cl : Cl} (hm : MonoQ cl) {ir : FuncId → Option IF} (hc : Closed ir cl) {f : FuncId} {fn : IF} {args args' : List D} {s : St} {H1 : Heap} {P : D → Prop} (hf : ir f = some fn) (hk : fn.keep = false) (hl : Nat.ble args'.length fn.nt = true) (ho : okC fn.nt fn.body = true)
    (hv : viewL fuelV args s.H = some (args', H1))
    (h : CodeR cl fn.nt fn.body (envOf args') { H := H1, nx := s.nx, ro := s.nx } (EndQ fun r s' => (r.1 = .nrm ∨ r.1 = .ret) ∧ s.nx ≤ s'.nx ∧ ((∃ d, resEnv r.2 s'.H fn.res = some d ∧ rigid fuelV d = true ∧ P d) ∨ ∃ d d' H2, resEnv r.2 s'.H fn.res = some d ∧ rigid fuelV d = false ∧ view fuelV d s'.H = some (d', H2) ∧ (∀ b, b < s.nx → lk H2 b = lk s.H b) ∧ P d'))) :
    cl f args s fun o s' => ∃ d', o = .ret d' ∧ P d' ∧ Fr s s' := by
  refine Cfun_seal hm hc hf hk (Nat.le_of_ble_eq_true hl) ho hv ?_
  refine codeF_mono hm _ _ _ _ _ (fun r s' hh => ?_) h.h
  obtain ⟨e, E⟩ := r
  obtain ⟨h1, h6, h2⟩ := hh.h
  dsimp only at h1 h2 ⊢
  rcases h2 with ⟨d, h2, h3, h7⟩ | ⟨d, d', H2, h2, h3, h4, h5, h7⟩
  · rcases h1 with rfl | rfl
    · dsimp only
      rw [h2]
      dsimp only
      rw [if_pos h3]
      exact ⟨d, rfl, h7, rfl, h6, fun _ _ => rfl⟩
    · dsimp only
      rw [h2]
      dsimp only
      rw [if_pos h3]
      exact ⟨d, rfl, h7, rfl, h6, fun _ _ => rfl⟩
  · have hfin : Fr s { H := cut s.nx H2, nx := s'.nx, ro := s.ro } := ⟨rfl, h6, fun b hb => by rw [← h5 b hb]; exact lk_cutF _ _ _ hb⟩
    rcases h1 with rfl | rfl
    · dsimp only
      rw [h2]
      dsimp only
      rw [if_neg (by simp [h3]), h4]
      exact ⟨d', rfl, h7, hfin⟩
    · dsimp only
      rw [h2]
      dsimp only
      rw [if_neg (by simp [h3]), h4]
      exact ⟨d', rfl, h7, hfin⟩

theorem Own.name {H : Heap} {lo nx e : Nat} {X : D} {cs : List D} (h : Own H lo nx e X cs) {m : Nat} (hm : nameOf X = some m) : lo ≤ m ∧ m < nx := by
  rcases h with ⟨rfl, rfl⟩ | ⟨w, rfl, h1, h2, h3⟩
  · cases hm
  · simp only [nameOf, Option.some.injEq] at hm
    subst hm
    exact ⟨h1, h2⟩
theorem ones_ints (l : List Int) : (l.map I64).all one = true := by
  rw [List.all_eq_true]
  intro x hx
  obtain ⟨t, -, rfl⟩ := List.mem_map.1 hx
  rfl
theorem ones_take (l : List Int) (k : Nat) : ((l.map I64).take k).all one = true := by rw [← List.map_take]; exact ones_ints _
theorem ones_drop (l : List Int) (k : Nat) : ((l.map I64).drop k).all one = true := by rw [← List.map_drop]; exact ones_ints _
/-- The same, as a function's end wants it. -/
theorem own_any {E : Env} {H H0 : Heap} {lo nx e : Nat} {X : D} {L : List Int} {res : List RV} {P : D → Prop} (hX : Own H lo nx e X (L.map I64)) (hl : L.length < 900000) (hres : resEnv E H res = some X) (hfr : ∀ b, b < lo → lk H b = lk H0 b) (hP : ∀ d, IL d L → P d) :
    (∃ d, resEnv E H res = some d ∧ rigid fuelV d = true ∧ P d) ∨ ∃ d d' H2, resEnv E H res = some d ∧ rigid fuelV d = false ∧ view fuelV d H = some (d', H2) ∧ (∀ b, b < lo → lk H2 b = lk H0 b) ∧ P d' := by
  rcases own_end hX hl with ⟨h1, h2⟩ | ⟨d', H2, h1, h2, h3, h4⟩
  · exact Or.inl ⟨X, hres, h1, hP _ h2⟩
  · exact Or.inr ⟨X, d', H2, hres, h1, h2, fun b hb => (h4 b hb).trans (hfr b hb), hP _ h3⟩

/-! ### Cuts -/
section
variable {cl : Cl} {nt : Nat} {b c : IC} {E : Env} {s : St} {Q : Ex × Env → St → Prop} {id : Nat}
/-- A loop in its block: what holds behind it. -/
theorem l_cut (hm : MonoQ cl) (P : Env → St → Prop) (h1 : CodeR cl nt c E s (EndQ fun r s' => r.1 = .exit id ∧ P r.2 s')) (h2 : ∀ E s, P E s → CodeR cl nt b E s Q) : CodeR cl nt c E s (BlockQ id (SeqQ (fun E s => CodeR cl nt b E s Q) Q)) := by
  refine h1.mono hm fun r s' hr => ?_
  obtain ⟨e, E'⟩ := r
  obtain ⟨h3, h4⟩ := hr.h
  dsimp only at h3
  subst h3
  exact b_hit ⟨h2 _ _ h4⟩
theorem l_cutQ (hm : MonoQ cl) (P : Env → St → Prop) (h1 : CodeR cl nt c E s (EndQ fun r s' => r.1 = .exit id ∧ P r.2 s')) (h2 : ∀ E s, P E s → Q (.nrm, E) s) : CodeR cl nt c E s (BlockQ id Q) := by
  refine h1.mono hm fun r s' hr => ?_
  obtain ⟨e, E'⟩ := r
  obtain ⟨h3, h4⟩ := hr.h
  dsimp only at h3
  subst h3
  exact b_hit (h2 _ _ h4)
end

section
variable {cl : Cl} {nt : Nat} {a b : IC} {E : Env} {s : St} {Q : Ex × Env → St → Prop}
/-- What holds between two pieces of code. -/
theorem c_cut (hm : MonoQ cl) (P : Env → St → Prop) (h1 : CodeR cl nt a E s (EndQ fun r s' => (r.1 = .nrm ∧ P r.2 s') ∨ (r.1 ≠ .nrm ∧ Q r s'))) (h2 : ∀ E s, P E s → CodeR cl nt b E s Q) : CodeR cl nt (.seq a b) E s Q := by
  refine c_seq hm (h1.mono hm fun r s' hr => ?_)
  obtain ⟨e, E'⟩ := r
  rcases hr.h with ⟨h3, h4⟩ | ⟨h3, h4⟩
  · dsimp only at h3
    subst h3
    exact q_c (h2 _ _ h4)
  · refine ⟨?_⟩
    cases e with
    | nrm => exact absurd rfl h3
    | _ => exact h4
end

/-! ### Calls whose arguments are still live -/
/-- As it was, or as the sealing of the arguments left it. -/
def FrV (s : St) (H1 : Heap) (s' : St) : Prop := s'.ro = s.ro ∧ s.nx ≤ s'.nx ∧ (s'.H = s.H ∨ ∀ b, b < s.nx → lk s'.H b = lk H1 b)
theorem FrV.fr {s s' : St} (h : FrV s s.H s') : Fr s s' := by
  obtain ⟨h1, h2, h3⟩ := h
  refine ⟨h1, h2, fun b hb => ?_⟩
  rcases h3 with h3 | h3
  · rw [h3]
  · exact h3 b hb
theorem Cfun_anyV {cl : Cl} (hm : MonoQ cl) {ir : FuncId → Option IF} (hc : Closed ir cl) {f : FuncId} {fn : IF} {args args' : List D} {s : St} {H1 : Heap} {P : D → Prop} (hf : ir f = some fn) (hk : fn.keep = false) (hl : Nat.ble args'.length fn.nt = true) (ho : okC fn.nt fn.body = true)
    (hv : viewL fuelV args s.H = some (args', H1))
    (h : CodeR cl fn.nt fn.body (envOf args') { H := H1, nx := s.nx, ro := s.nx } (EndQ fun r s' => (r.1 = .nrm ∨ r.1 = .ret) ∧ s.nx ≤ s'.nx ∧ ((∃ d, resEnv r.2 s'.H fn.res = some d ∧ rigid fuelV d = true ∧ P d) ∨ ∃ d d' H2, resEnv r.2 s'.H fn.res = some d ∧ rigid fuelV d = false ∧ view fuelV d s'.H = some (d', H2) ∧ (∀ b, b < s.nx → lk H2 b = lk H1 b) ∧ P d'))) :
    cl f args s fun o s' => ∃ d', o = .ret d' ∧ P d' ∧ FrV s H1 s' := by
  refine Cfun_seal hm hc hf hk (Nat.le_of_ble_eq_true hl) ho hv ?_
  refine codeF_mono hm _ _ _ _ _ (fun r s' hh => ?_) h.h
  obtain ⟨e, E⟩ := r
  obtain ⟨h1, h6, h2⟩ := hh.h
  dsimp only at h1 h2 ⊢
  rcases h2 with ⟨d, h2, h3, h7⟩ | ⟨d, d', H2, h2, h3, h4, h5, h7⟩
  · rcases h1 with rfl | rfl
    · dsimp only
      rw [h2]
      dsimp only
      rw [if_pos h3]
      exact ⟨d, rfl, h7, rfl, h6, Or.inl rfl⟩
    · dsimp only
      rw [h2]
      dsimp only
      rw [if_pos h3]
      exact ⟨d, rfl, h7, rfl, h6, Or.inl rfl⟩
  · have hfin : FrV s H1 { H := cut s.nx H2, nx := s'.nx, ro := s.ro } := ⟨rfl, h6, Or.inr fun b hb => by rw [← h5 b hb]; exact lk_cutF _ _ _ hb⟩
    rcases h1 with rfl | rfl
    · dsimp only
      rw [h2]
      dsimp only
      rw [if_neg (by simp [h3]), h4]
      exact ⟨d', rfl, h7, hfin⟩
    · dsimp only
      rw [h2]
      dsimp only
      rw [if_neg (by simp [h3]), h4]
      exact ⟨d', rfl, h7, hfin⟩

theorem view_own {H : Heap} {lo nx e : Nat} {X : D} {L : List Int} (hX : Own H lo nx e X (L.map I64)) (hl : L.length < 900000) : ∃ H1, viewL fuelV [X] H = some ([intL L], H1) ∧ ∀ b, nameOf X ≠ some b → lk H1 b = lk H b := by
  rcases hX with ⟨h1, rfl⟩ | ⟨w, rfl, h1, h2, h3⟩
  · have : L = [] := by simpa using h1
    subst this
    exact ⟨H, rfl, fun _ _ => rfl⟩
  · refine ⟨upd H w (.cells (L.map I64) e (max 0 (0 + (L.map I64).length * 1))), ?_, fun b hb => by rw [lk_upd, if_neg (fun e => hb (by rw [e]; rfl))]⟩
    have h1 : fuelV = 999999 + 1 := rfl
    have h1b : (999999 : Nat) = 999998 + 1 := rfl
    have h4 : 0 + (L.map I64).length * 1 ≤ (L.map I64).length := by omega
    have h5 : ((L.map I64).drop 0).take ((L.map I64).length * 1) = L.map I64 := by
      rw [List.drop_zero, Nat.mul_one]
      exact List.take_of_length_le (Nat.le_refl _)
    have h6 : view 999999 (.sl w 0 (L.map I64).length 1) H = some (intL L, upd H w (.cells (L.map I64) e (max 0 (0 + (L.map I64).length * 1)))) := by
      rw [h1b]
      simp only [view, h3, if_pos h4, h5]
      rw [viewL_intsH _ L _ (by omega)]
      simp only [chunks_one (α := Unit), List.map_map]
      rfl
    rw [h1]
    simp only [viewL]
    rw [h6]
section
variable {cl : Cl} {E : Env} {Q : Ex × Env → St → Prop} {rest : List IOp} {k : Nat} {af : List Nat}
theorem o_callV {f : FuncId} {xs : List Opd} {args : List D} (hm : MonoQ cl) (hx : xs.map (evF E) = args) {P : D → Prop} {H H1 : Heap} {nx ro : Nat} (hf : cl f args ⟨H, nx, ro⟩ (fun o s' => ∃ d, o = .ret d ∧ P d ∧ FrV ⟨H, nx, ro⟩ H1 s'))
    (h : ∀ d H' n, P d → nx ≤ n → (H' = H ∨ ∀ b, b < nx → lk H' b = lk H1 b) → OpsR cl rest (put E k d) ⟨H', n, ro⟩ Q) : OpsR cl (⟨some k, .call f xs, none, af⟩ :: rest) E ⟨H, nx, ro⟩ Q := by
  refine ⟨?_⟩
  simp only [opsF, wantsF, if_true, opM, hx]
  refine hm _ _ _ _ _ (fun o s' ho => ?_) hf
  obtain ⟨d, rfl, hp, hr⟩ := ho
  obtain ⟨H', n, ro'⟩ := s'
  obtain ⟨f1, f2, f3⟩ := hr
  dsimp only at f1 f2 f3
  subst f1
  exact (h d H' n hp f2 f3).h
end

/-! ### A round over a map -/
section
variable {cl : Cl} {E : Env} {Q : Ex × Env → St → Prop} {rest : List IOp} {k : Nat} {af : List Nat} {x : Opd} {H : Heap} {nx ro : Nat}
theorem o_range {es : List (Value × D)} (hx : evF E x = .imap es) (h : OpsR cl rest (put E k (.ref nx 0)) ⟨(nx, .iter es []) :: H, nx + 1, ro⟩ Q) : OpsR cl (⟨some k, .range x, none, af⟩ :: rest) E ⟨H, nx, ro⟩ Q :=
  ⟨Raw.o_exec rfl (by simp only [exec, hx, new]) h.h⟩
theorem o_next {n : Nat} {es : List (Value × D)} {seen : List Nat} (hx : evF E x = .ref n 0) (hl : lk H n = some (.iter es seen)) (hr : ro ≤ n) (h0 : (∀ i, i < es.length → i ∈ seen) → OpsR cl rest (put E k (.tup [B false])) ⟨H, nx, ro⟩ Q)
    (h1 : ∀ i, i < es.length → i ∉ seen → OpsR cl rest (put E k (.tup [B true, .raw (es.getD i default).1, (es.getD i default).2])) ⟨upd H n (.iter es (seen ++ [i])), nx, ro⟩ Q) : OpsR cl (⟨some k, .next x, none, af⟩ :: rest) E ⟨H, nx, ro⟩ Q := by
  refine ⟨?_⟩
  simp only [opsF, wantsF, if_true, opM, hx, hl]
  exact ⟨hr, fun hd => (h0 hd).h, fun i hi hn => (h1 i hi hn).h⟩
theorem o_entry {n i : Nat} {es : List (Value × D)} {seen : List Nat} {kv : Value} {d : D} (hx : evF E x = .ref n 0) (hl : lk H n = some (.iter es (seen ++ [i]))) (he : es[i]? = some (kv, d)) (h : OpsR cl rest (put E k (.tup [.raw kv, d])) ⟨H, nx, ro⟩ Q) : OpsR cl (⟨some k, .entry x, none, af⟩ :: rest) E ⟨H, nx, ro⟩ Q :=
  ⟨Raw.o_exec rfl (by simp only [exec, hx, hl, List.getLast?_append, List.getLast?_singleton, Option.some_or, he]) h.h⟩
end

section
variable {cl : Cl} {E : Env} {s : St} {Q : Ex × Env → St → Prop} {rest : List IOp} {k : Nat} {af : List Nat}
theorem o_callS {f : FuncId} {xs : List Opd} {args : List D} (hm : MonoQ cl) (hx : xs.map (evF E) = args) {R : Out → St → Prop} (hf : cl f args s R) (h : ∀ o s', R o s' → ∃ d, o = .ret d ∧ OpsR cl rest (put E k d) s' Q) : OpsR cl (⟨some k, .call f xs, none, af⟩ :: rest) E s Q := by
  refine ⟨?_⟩
  simp only [opsF, wantsF, if_true, opM, hx]
  refine hm _ _ _ _ _ (fun o s' ho => ?_) hf
  obtain ⟨d, rfl, h2⟩ := h o s' ho
  exact h2.h
end
end Go.Ai
