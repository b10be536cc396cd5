/-
  A part of an interpreter over abstract data, proved sound once for the model: what it says of the code, the machine does in every order. Conditions: none beyond the statement.
-/
import Derived.Test.YtemeabkpllolmaaGreatDoorInt8
import Derived.Test.YtemeabkpllolmaaGreatDoorInt1
import Derived.IntWalk
/-! The same meaning over environments, for proofs by hand. -/
set_option linter.unusedVariables false
set_option linter.unusedSimpArgs false
namespace Go.Ai

abbrev Env := Nat → D
def put (E : Env) (k : Nat) (d : D) : Env := fun j => if j = k then d else E j
def evF (E : Env) : Opd → D
  | .t i => E i
  | .c d => d
def wantsF (E : Env) : Option (Nat × Bool) → Bool
  | none => true
  | some (t, b) => match E t with
    | .raw (.bool c) => c == b
    | _ => false
def setF (E : Env) (dst : Option Nat) (d : D) : Env := match dst with
  | some k => put E k d
  | none => E
abbrev MF := M (Ex × Env)
def noEnv : Env := fun _ => default
def opsF (cl : Cl) : List IOp → Env → MF
  | [], E => fun s Q => Q (.nrm, E) s
  | o :: rest, E => fun s Q => if wantsF E o.guard then opM cl (evF E) o.i s fun out s' => match out with
      | .ret d => opsF cl rest (setF E o.dst d) s' Q
      | .pan d => Q (.pan d, noEnv) s'
    else opsF cl rest (setF E o.dst default) s Q
def loopF (b : Env → MF) (E : Env) : MF := fun s Q =>
  ∀ W : Env → St → Prop, (∀ E s, b E s (fun r s' => match r.1 with
    | .nrm => W r.2 s'
    | e => Q (e, r.2) s') → W E s) → W E s
def envOf (T : List D) : Env := fun i => T.getD i default
def codeF (cl : Cl) (nt : Nat) : IC → Env → MF
  | .skip, E => fun s Q => Q (.nrm, E) s
  | .region ops, E => opsF cl ops E
  | .draw ops, E => fun s Q => ∀ T, T.length = nt → envOf T = E → drawM cl s.nx ops ops.length (List.replicate ops.length false) T { s with nx := s.nx + ops.length } fun r s' => Q (r.1, envOf r.2) s'
  | .seq a b, E => fun s Q => codeF cl nt a E s fun r s' => match r.1 with
    | .nrm => codeF cl nt b r.2 s' Q
    | e => Q (e, r.2) s'
  | .cond c a b, E => fun s Q => match evF E c with
    | .raw (.bool true) => codeF cl nt a E s Q
    | .raw (.bool false) => codeF cl nt b E s Q
    | _ => False
  | .block id b, E => fun s Q => codeF cl nt b E s fun r s' => match r.1 with
    | .exit i => if i = id then Q (.nrm, r.2) s' else Q (.exit i, r.2) s'
    | e => Q (e, r.2) s'
  | .loop b, E => loopF (codeF cl nt b) E
  | .scope b, E => codeF cl nt b E
  | .exit id, E => fun s Q => Q (.exit id, E) s
  | .ret, E => fun s Q => Q (.ret, E) s

theorem evF_of (T : List D) : evF (envOf T) = evO T := by
  funext x
  cases x <;> rfl
theorem wantsF_of (T : List D) (g : Option (Nat × Bool)) : wantsF (envOf T) g = wants T g := by
  cases g <;> rfl
theorem envOf_set {T : List D} {k : Nat} (h : k < T.length) (d : D) : envOf (T.set k d) = put (envOf T) k d := by
  funext j
  simp only [envOf, put]
  by_cases e : j = k
  · subst e; simp [List.getD_eq_getElem?_getD, h]
  · simp [List.getD_eq_getElem?_getD, List.getElem?_set, Ne.symm e, e]
def okD (nt : Nat) : Option Nat → Bool
  | some k => Nat.blt k nt
  | none => true
def okC (nt : Nat) : IC → Bool
  | .region ops => ops.all fun o => okD nt o.dst
  | .draw ops => ops.all fun o => okD nt o.dst
  | .seq a b => okC nt a && okC nt b
  | .cond _ a b => okC nt a && okC nt b
  | .block _ b => okC nt b
  | .loop b => okC nt b
  | .scope b => okC nt b
  | _ => true
theorem envOf_setT {T : List D} {dst : Option Nat} (h : okD T.length dst = true) (d : D) : envOf (setT T dst d) = setF (envOf T) dst d := by
  cases dst with
  | none => rfl
  | some k => exact envOf_set (by simpa [okD] using h) d
theorem setT_len (T : List D) (dst : Option Nat) (d : D) : (setT T dst d).length = T.length := by
  cases dst <;> simp [setT]

/-- The temporaries keep their number. -/
def Kept (nt : Nat) (r : Ex × List D) : Prop := r.2.length = nt ∨ ∃ d, r.1 = .pan d

theorem opsF_ok {cl : Cl} (hm : MonoQ cl) : ∀ (ops : List IOp) (T : List D) (s : St) (Q : Ex × Env → St → Prop), (ops.all fun o => okD T.length o.dst) = true → opsF cl ops (envOf T) s Q → opsM cl ops T s fun r s' => Q (r.1, envOf r.2) s' ∧ Kept T.length r
  | [], T, s, Q, ho, h => ⟨h, Or.inl rfl⟩
  | o :: rest, T, s, Q, ho, h => by
    simp only [List.all_cons, Bool.and_eq_true] at ho
    simp only [opsF, wantsF_of, evF_of] at h
    simp only [opsM]
    split
    · rename_i hw
      rw [if_pos hw] at h
      refine opM_mono (fun _ _ _ _ h => h) hm (fun r s' hr => ?_) h
      cases r with
      | ret d =>
        dsimp only at hr ⊢
        have := opsF_ok hm rest (setT T o.dst d) s' Q (by rw [setT_len]; exact ho.2) (by rw [envOf_setT ho.1]; exact hr)
        rw [setT_len] at this
        exact this
      | pan d => exact ⟨hr, Or.inr ⟨d, rfl⟩⟩
    · rename_i hw
      rw [if_neg hw] at h
      have := opsF_ok hm rest (setT T o.dst default) s Q (by rw [setT_len]; exact ho.2) (by rw [envOf_setT ho.1]; exact h)
      rw [setT_len] at this
      exact this

theorem stepD_kept {cl : Cl} (hm : MonoQ cl) {nm : Nat} {o : IOp} {T : List D} {n : Nat} {Q : Ex × List D → St → Prop} {K K' : List D → St → Prop} {s : St} (hk : ∀ d s, K (setT T o.dst d) s → K' (setT T o.dst d) s) (h : stepD cl nm o T Q K s) :
    stepD cl nm o T (fun r s' => Q r s' ∧ Kept n r) K' s := by
  unfold stepD at *
  split
  · rename_i hw
    rw [if_pos hw] at h
    refine opD_mono hm (fun r s' hr => ?_) h
    cases r with
    | ret d => exact hk _ _ hr
    | pan d => exact ⟨hr, Or.inr ⟨d, rfl⟩⟩
  · rename_i hw
    rw [if_neg hw] at h
    exact hk _ _ h
theorem drawM_kept {cl : Cl} (hm : MonoQ cl) {base : Nat} {ops : List IOp} {n : Nat} {Q : Ex × List D → St → Prop} : ∀ (k : Nat) (l : List Bool) (T : List D) (s : St), T.length = n → drawM cl base ops k l T s Q → drawM cl base ops k l T s fun r s' => Q r s' ∧ Kept n r
  | 0, l, T, s, hl, h => ⟨h.1, h.2, Or.inl hl⟩
  | k + 1, l, T, s, hl, h => by
    refine ⟨fun e => ⟨h.1 e, Or.inl hl⟩, fun i hi => ?_⟩
    have := h.2 i hi
    split
    · rename_i e
      simp only [e] at this
      exact drawM_kept hm k _ _ _ hl this
    · rename_i o e
      simp only [e] at this
      exact stepD_kept hm (fun d s hh => drawM_kept hm k _ _ s (by rw [setT_len]; exact hl) hh) this

theorem codeF_ok {cl : Cl} (hm : MonoQ cl) : ∀ (c : IC) (T : List D) (s : St) (Q : Ex × Env → St → Prop), okC T.length c = true → codeF cl T.length c (envOf T) s Q → codeM cl c T s fun r s' => Q (r.1, envOf r.2) s' ∧ Kept T.length r
  | .skip, T, s, Q, ho, h => ⟨h, Or.inl rfl⟩
  | .region ops, T, s, Q, ho, h => opsF_ok hm ops T s Q ho h
  | .draw ops, T, s, Q, ho, h => drawM_kept hm _ _ _ _ rfl (h T rfl rfl)
  | .seq a b, T, s, Q, ho, h => by
    simp only [okC, Bool.and_eq_true] at ho
    simp only [codeF] at h
    simp only [codeM]
    refine codeM_mono (fun _ _ _ _ h => h) hm a T s _ _ (fun r s' hr => ?_) (codeF_ok hm a T s _ ho.1 h)
    obtain ⟨e, T'⟩ := r
    obtain ⟨h1, h2⟩ := hr
    cases e with
    | nrm =>
      have hl : T'.length = T.length := by
        rcases h2 with h2 | ⟨d, h2⟩
        · exact h2
        · cases h2
      dsimp only at h1 ⊢
      rw [← hl] at h1
      have := codeF_ok hm b T' s' Q (by rw [hl]; exact ho.2) h1
      rw [hl] at this
      exact this
    | _ => exact ⟨h1, h2⟩
  | .cond c a b, T, s, Q, ho, h => by
    simp only [okC, Bool.and_eq_true] at ho
    simp only [codeF, evF_of] at h
    simp only [codeM]
    split at h
    · rename_i e; rw [e]; exact codeF_ok hm a T s Q ho.1 h
    · rename_i e; rw [e]; exact codeF_ok hm b T s Q ho.2 h
    · exact h.elim
  | .block id b, T, s, Q, ho, h => by
    simp only [codeF] at h
    simp only [codeM]
    refine codeM_mono (fun _ _ _ _ h => h) hm b T s _ _ (fun r s' hr => ?_) (codeF_ok hm b T s _ ho h)
    obtain ⟨e, T'⟩ := r
    obtain ⟨h1, h2⟩ := hr
    cases e with
    | exit i =>
      have hl : T'.length = T.length := by
        rcases h2 with h2 | ⟨d, h2⟩
        · exact h2
        · cases h2
      dsimp only at h1 ⊢
      split
      · rename_i hi; rw [if_pos hi] at h1; exact ⟨h1, Or.inl hl⟩
      · rename_i hi; rw [if_neg hi] at h1; exact ⟨h1, Or.inl hl⟩
    | _ => exact ⟨h1, h2⟩
  | .loop b, T, s, Q, ho, h => by
    intro W hW
    have h0 : ∀ (E : Env) (s : St), (∀ T', T'.length = T.length → envOf T' = E → W T' s) → ∀ T', T'.length = T.length → envOf T' = E → W T' s := fun _ _ h => h
    refine h (fun E s => ∀ T', T'.length = T.length → envOf T' = E → W T' s) (fun E s hb T' hl he => ?_) T rfl rfl
    subst he
    refine hW T' s ?_
    rw [← hl] at hb
    refine codeM_mono (fun _ _ _ _ h => h) hm b T' s _ _ (fun r s' hr => ?_) (codeF_ok hm b T' s _ (by rw [hl]; exact ho) hb)
    obtain ⟨e, T2⟩ := r
    obtain ⟨h1, h2⟩ := hr
    cases e with
    | nrm =>
      have hl2 : T2.length = T'.length := by
        rcases h2 with h2 | ⟨d, h2⟩
        · exact h2
        · cases h2
      exact h1 T2 hl2 rfl
    | _ => rw [hl] at h2; exact ⟨h1, h2⟩
  | .scope b, T, s, Q, ho, h => codeF_ok hm b T s Q ho h
  | .exit id, T, s, Q, ho, h => ⟨h, Or.inl rfl⟩
  | .ret, T, s, Q, ho, h => ⟨h, Or.inl rfl⟩

theorem opsF_mono {cl : Cl} (hm : MonoQ cl) {Q Q' : Ex × Env → St → Prop} (h : ∀ r s, Q r s → Q' r s) : ∀ (ops : List IOp) (E : Env) (s : St), opsF cl ops E s Q → opsF cl ops E s Q'
  | [], E, s, hh => h _ _ hh
  | o :: rest, E, s, hh => by
    simp only [opsF] at *
    split
    · rename_i hw
      rw [if_pos hw] at hh
      refine opM_mono (fun _ _ _ _ h => h) hm (fun r s hr => ?_) hh
      cases r with
      | ret d => exact opsF_mono hm h rest _ _ hr
      | pan d => exact h _ _ hr
    · rename_i hw
      rw [if_neg hw] at hh
      exact opsF_mono hm h rest _ _ hh
theorem loopF_mono {b b' : Env → MF} {Q Q' : Ex × Env → St → Prop} (h : ∀ r s, Q r s → Q' r s) (hb : ∀ E s (Q Q' : Ex × Env → St → Prop), (∀ r s, Q r s → Q' r s) → b E s Q → b' E s Q') {E : Env} {s : St}
    (hh : loopF b E s Q) : loopF b' E s Q' := by
  intro W hW
  refine hh W fun E s h' => hW E s (hb E s _ _ (fun r s hr => ?_) h')
  obtain ⟨e, T'⟩ := r
  cases e with
  | nrm => exact hr
  | _ => exact h _ _ hr
theorem codeF_mono {cl : Cl} (hm : MonoQ cl) {nt : Nat} : ∀ (c : IC) (E : Env) (s : St) (Q Q' : Ex × Env → St → Prop), (∀ r s, Q r s → Q' r s) → codeF cl nt c E s Q → codeF cl nt c E s Q'
  | .skip, E, s, Q, Q', h, hh => h _ _ hh
  | .region ops, E, s, Q, Q', h, hh => opsF_mono hm h ops E s hh
  | .draw ops, E, s, Q, Q', h, hh => fun T h1 h2 => drawM_mono (fun _ _ _ _ h => h) hm (fun r s hr => h _ _ hr) _ _ _ _ (hh T h1 h2)
  | .seq a b, E, s, Q, Q', h, hh => by
    simp only [codeF] at *
    refine codeF_mono hm a E s _ _ (fun r s' hr => ?_) hh
    obtain ⟨e, T'⟩ := r
    cases e with
    | nrm => exact codeF_mono hm b _ _ _ _ h hr
    | _ => exact h _ _ hr
  | .cond c a b, E, s, Q, Q', h, hh => by
    simp only [codeF] at *
    split at hh
    · exact codeF_mono hm a _ _ _ _ h hh
    · exact codeF_mono hm b _ _ _ _ h hh
    · exact hh.elim
  | .block id b, E, s, Q, Q', h, hh => by
    simp only [codeF] at *
    refine codeF_mono hm b E s _ _ (fun r s' hr => ?_) hh
    obtain ⟨e, T'⟩ := r
    cases e with
    | exit i =>
      dsimp only at hr ⊢
      split
      · rename_i hi; rw [if_pos hi] at hr; exact h _ _ hr
      · rename_i hi; rw [if_neg hi] at hr; exact h _ _ hr
    | _ => exact h _ _ hr
  | .loop b, E, s, Q, Q', h, hh => loopF_mono h (fun E s Q Q' => codeF_mono hm b E s Q Q') hh
  | .scope b, E, s, Q, Q', h, hh => codeF_mono hm b E s Q Q' h hh
  | .exit id, E, s, Q, Q', h, hh => h _ _ hh
  | .ret, E, s, Q, Q', h, hh => h _ _ hh

/-- A loop by an invariant with a number that falls. -/
theorem loop_inv {cl : Cl} (hm : MonoQ cl) {nt : Nat} {c : IC} {Q : Ex × Env → St → Prop} (I : Nat → Env → St → Prop)
    (h : ∀ n E s, I n E s → codeF cl nt c E s fun r s' => match r.1 with
      | .nrm => ∃ m, m < n ∧ I m r.2 s'
      | e => Q (e, r.2) s') {n : Nat} {E : Env} {s : St} (hi : I n E s) : codeF cl nt (.loop c) E s Q := by
  have : ∀ n E s, I n E s → ∀ W : Env → St → Prop, (∀ E s, codeF cl nt c E s (fun r s' => match r.1 with
    | .nrm => W r.2 s'
    | e => Q (e, r.2) s') → W E s) → W E s := by
    intro n
    induction n using Nat.strongRecOn with
    | _ n ih =>
      intro E s hI W hW
      refine hW E s (codeF_mono hm c E s _ _ (fun r s' hr => ?_) (h n E s hI))
      obtain ⟨e, E'⟩ := r
      cases e with
      | nrm =>
        obtain ⟨m, h1, h2⟩ := hr
        exact ih m h1 E' s' h2 W hW
      | _ => exact hr
  exact fun W hW => this n E s hi W hW

/-! ### Functions -/
def resOneF (E : Env) (H : Heap) : RV → Option D
  | .tmp t => some (E t)
  | .cell t ag sz => match E t with
    | .ref n o => match lk H n with
      | some (.cells cs _ _) => takeN (cs.drop o) ag sz
      | _ => none
    | .iptr cs => takeN cs ag sz
    | _ => none
def resLF (E : Env) (H : Heap) : List RV → Option (List D)
  | [] => some []
  | r :: rs => match resOneF E H r, resLF E H rs with
    | some d, some ds => some (d :: ds)
    | _, _ => none
def resEnv (E : Env) (H : Heap) (rs : List RV) : Option D := match resLF E H rs with
  | some [d] => some d
  | some ds => some (.tup ds)
  | none => none
theorem resEnv_of (T : List D) (H : Heap) (rs : List RV) : resEnv (envOf T) H rs = resD T H rs := by
  have h1 : ∀ r, resOneF (envOf T) H r = resOne T H r := by
    intro r
    cases r <;> rfl
  have h2 : resLF (envOf T) H rs = resL T H rs := by
    induction rs with
    | nil => rfl
    | cons r rs ih => simp only [resLF, resL, h1, ih]; rfl
  simp only [resEnv, resD, h2]; rfl
theorem pad_len {nt : Nat} {args : List D} (h : args.length ≤ nt) : (pad nt args).length = nt := by
  simp [pad]; omega
theorem envOf_pad (nt : Nat) (args : List D) : envOf (pad nt args) = envOf args := by
  funext i
  simp only [envOf, pad, List.getD_eq_getElem?_getD, List.getElem?_append]
  split
  · rfl
  · rename_i h
    rw [List.getElem?_replicate]
    rw [List.getElem?_eq_none (by omega)]
    split <;> rfl

/-- A function that seals its arguments. -/
theorem fun_seal {ir : FuncId → Option IF} {f : FuncId} {fn : IF} {args args' : List D} {s : St} {H1 : Heap} {Q : Out → St → Prop} (hf : ir f = some fn) (hk : fn.keep = false) (hl : args'.length ≤ fn.nt) (ho : okC fn.nt fn.body = true)
    (hv : viewL fuelV args s.H = some (args', H1))
    (h : codeF (callL ir) fn.nt fn.body (envOf args') { H := H1, nx := s.nx, ro := s.nx } fun r s' => match r.1 with
      | .pan d => match view fuelV d s'.H with
        | some (d, H2) => Q (.pan d) { H := cut s.nx H2, nx := s'.nx, ro := s.ro }
        | none => False
      | .exit _ => False
      | _ => match resEnv r.2 s'.H fn.res with
        | some d => if rigid fuelV d then Q (.ret d) { H := s.H, nx := s'.nx, ro := s.ro } else match view fuelV d s'.H with
          | some (d, H2) => Q (.ret d) { H := cut s.nx H2, nx := s'.nx, ro := s.ro }
          | none => False
        | none => False) : callL ir f args s Q := by
  refine callL_unfold hf ?_
  unfold bodyM
  rw [if_neg (by simp [hk]), hv]
  dsimp only
  have hp := pad_len hl
  rw [← envOf_pad fn.nt args'] at h
  have h2 := codeF_ok (callL_mono ir) fn.body (pad fn.nt args') { H := H1, nx := s.nx, ro := s.nx } _ (by rw [hp]; exact ho) (by rw [hp]; exact h)
  refine codeM_mono (fun _ _ _ _ h => h) (callL_mono ir) _ _ _ _ _ (fun r s' hr => ?_) h2
  obtain ⟨e, T⟩ := r
  have := hr.1
  cases e with
  | pan d => exact this
  | exit i => exact this
  | nrm => dsimp only at this ⊢; rw [resEnv_of] at this; exact this
  | ret => dsimp only at this ⊢; rw [resEnv_of] at this; exact this
/-- A function that takes its arguments as they are. -/
theorem fun_keep {ir : FuncId → Option IF} {f : FuncId} {fn : IF} {args : List D} {s : St} {Q : Out → St → Prop} (hf : ir f = some fn) (hk : fn.keep = true) (hl : args.length ≤ fn.nt) (ho : okC fn.nt fn.body = true)
    (h : codeF (callL ir) fn.nt fn.body (envOf args) s fun r s' => match r.1 with
      | .pan d => Q (.pan d) s'
      | .exit _ => False
      | _ => match resEnv r.2 s'.H fn.res with
        | some d => Q (.ret d) s'
        | none => False) : callL ir f args s Q := by
  refine callL_unfold hf ?_
  unfold bodyM
  rw [if_pos hk]
  have hp := pad_len hl
  rw [← envOf_pad fn.nt args] at h
  have h2 := codeF_ok (callL_mono ir) fn.body (pad fn.nt args) s _ (by rw [hp]; exact ho) (by rw [hp]; exact h)
  refine codeM_mono (fun _ _ _ _ h => h) (callL_mono ir) _ _ _ _ _ (fun r s' hr => ?_) h2
  obtain ⟨e, T⟩ := r
  have := hr.1
  cases e with
  | pan d => exact this
  | exit i => exact this
  | nrm => dsimp only at this ⊢; rw [resEnv_of] at this; exact this
  | ret => dsimp only at this ⊢; rw [resEnv_of] at this; exact this
end Go.Ai
/-! Steps, one lemma each. -/
set_option linter.unusedVariables false
set_option linter.unusedSimpArgs false
namespace Go.Ai

abbrev I64 (n : Int) : D := .raw (.int .i64 n)
abbrev B (b : Bool) : D := .raw (.bool b)

/-! ### The heap -/
theorem lk_here (n : Nat) (o : Obj) (H : Heap) : lk ((n, o) :: H) n = some o := by simp [lk]
theorem lk_there {n m : Nat} (o : Obj) (H : Heap) (h : n ≠ m) : lk ((m, o) :: H) n = lk H n := by rw [lk_cons, if_neg h]
theorem lk_skip {n m : Nat} {o : Obj} {H : Heap} {r : Option Obj} (h : n ≠ m) (h2 : lk H n = r) : lk ((m, o) :: H) n = r := by rw [lk_there _ _ h]; exact h2
theorem upd_here (n : Nat) (o o' : Obj) (H : Heap) : upd ((n, o) :: H) n o' = (n, o') :: H := by simp [upd]
theorem upd_there {n m : Nat} (o o' : Obj) (H : Heap) (h : n ≠ m) : upd ((m, o) :: H) n o' = (m, o) :: upd H n o' := by
  have : n.beq m = false := by
    cases hb : n.beq m with
    | false => rfl
    | true => exact absurd (Nat.eq_of_beq_eq_true hb) h
  simp only [upd, this, cond_false]


namespace Raw
section
variable {cl : Cl} {E : Env} {s : St} {Q : Ex × Env → St → Prop} {rest : List IOp} {k : Nat} {dst : Option Nat} {i : I} {af : List Nat} {x y z : Opd}
theorem o_nil (h : Q (.nrm, E) s) : opsF cl [] E s Q := h
theorem g_yes {t : Nat} {b v : Bool} (hx : E t = B v) (hv : v = b) (h : opsF cl (⟨dst, i, none, af⟩ :: rest) E s Q) : opsF cl (⟨dst, i, some (t, b), af⟩ :: rest) E s Q := by
  subst hv
  simp only [opsF, wantsF, hx, beq_self_eq_true, if_true] at h ⊢
  exact h
theorem g_no {t : Nat} {b v : Bool} (hx : E t = B v) (hv : v = !b) (h : opsF cl rest (setF E dst default) s Q) : opsF cl (⟨dst, i, some (t, b), af⟩ :: rest) E s Q := by
  subst hv
  have : ((!b) == b) = false := by cases b <;> rfl
  simp only [opsF, wantsF, hx, this, Bool.false_eq_true, if_false]
  exact h
theorem g_split {t : Nat} {b v : Bool} (hx : E t = B v) (h1 : v = b → opsF cl (⟨dst, i, none, af⟩ :: rest) E s Q) (h2 : v = !b → opsF cl rest (setF E dst default) s Q) : opsF cl (⟨dst, i, some (t, b), af⟩ :: rest) E s Q := by
  by_cases hv : v = b
  · exact g_yes hx hv (h1 hv)
  · have hv' : v = !b := by cases v <;> cases b <;> simp_all
    exact g_no hx hv' (h2 hv')
theorem o_exec {d : D} {s' : St} (hc : isCall i = false) (he : exec (evF E) i s = some (d, s')) (h : opsF cl rest (setF E dst d) s' Q) : opsF cl (⟨dst, i, none, af⟩ :: rest) E s Q := by
  simp only [opsF, wantsF, if_true]
  rw [opM_exec hc, he]
  exact h
theorem o_mv {d : D} (hx : evF E x = d) (h : opsF cl rest (put E k d) s Q) : opsF cl (⟨some k, .mv x, none, af⟩ :: rest) E s Q := o_exec rfl (by simp only [exec, hx]) h
theorem o_pick_t {v : Bool} {d : D} (hc : evF E z = B v) (hv : v = true) (hx : evF E x = d) (h : opsF cl rest (put E k d) s Q) : opsF cl (⟨some k, .pick z x y, none, af⟩ :: rest) E s Q := by
  subst hv
  exact o_exec rfl (by simp only [exec, hc, hx]) h
theorem o_pick_f {v : Bool} {d : D} (hc : evF E z = B v) (hv : v = false) (hx : evF E y = d) (h : opsF cl rest (put E k d) s Q) : opsF cl (⟨some k, .pick z x y, none, af⟩ :: rest) E s Q := by
  subst hv
  exact o_exec rfl (by simp only [exec, hc, hx]) h
theorem o_alloc {e : TypeId} {z : List D} (hz : z.all one = true) (h : opsF cl rest (put E k (.ref s.nx 0)) { H := (s.nx, .cells z e 0) :: s.H, nx := s.nx + 1, ro := s.ro } Q) : opsF cl (⟨some k, .alloc e z, none, af⟩ :: rest) E s Q :=
  o_exec rfl (by simp only [exec, hz, if_true, new]) h
theorem o_box {e : TypeId} {d : D} (hx : evF E x = d) (hz : (cellsOf d).all one = true) (h : opsF cl rest (put E k (.ref s.nx 0)) { H := (s.nx, .cells (cellsOf d) e 0) :: s.H, nx := s.nx + 1, ro := s.ro } Q) : opsF cl (⟨some k, .box e x, none, af⟩ :: rest) E s Q :=
  o_exec rfl (by simp only [exec, hx, hz, if_true, new]) h
theorem o_mkmap (h : opsF cl rest (put E k (.map s.nx)) { H := (s.nx, .map [] false) :: s.H, nx := s.nx + 1, ro := s.ro } Q) : opsF cl (⟨some k, .mkmap, none, af⟩ :: rest) E s Q :=
  o_exec rfl (by simp only [exec, new]) h
theorem o_bslice1 {e : Nat} {z x' d : D} (hx : evF E x = d) (hd : cellsOf d = [x']) (ho : one x' = true) (hz : one z = true) (h : opsF cl rest (put E k (.sl s.nx 0 1 1)) { H := (s.nx, .cells [x'] e 0) :: s.H, nx := s.nx + 1, ro := s.ro } Q) :
    opsF cl (⟨some k, .bslice e 1 1 [z] [(0, 1, x)], none, af⟩ :: rest) E s Q :=
  o_exec (d := .sl s.nx 0 1 1) (s' := { H := (s.nx, .cells [x'] e 0) :: s.H, nx := s.nx + 1, ro := s.ro }) rfl (by simp [exec, fill, repZ, hx, hd, ho, hz, splice, new]) h
theorem o_load_ref {ag : Bool} {sz n o : Nat} {cs : List D} {e lo : Nat} {d : D} (hx : evF E x = .ref n o) (hl : lk s.H n = some (.cells cs e lo)) (ht : takeN (cs.drop o) ag sz = some d) (h : opsF cl rest (put E k d) s Q) :
    opsF cl (⟨some k, .load ag sz x, none, af⟩ :: rest) E s Q := o_exec rfl (by simp only [exec, hx, hl, ht, Option.map_some]) h
theorem o_load_iptr {ag : Bool} {sz : Nat} {cs : List D} {d : D} (hx : evF E x = .iptr cs) (ht : takeN cs ag sz = some d) (h : opsF cl rest (put E k d) s Q) :
    opsF cl (⟨some k, .load ag sz x, none, af⟩ :: rest) E s Q := o_exec rfl (by simp only [exec, hx, ht, Option.map_some]) h
theorem o_store {sz n o : Nat} {cs : List D} {e lo : Nat} {d : D} (hx : evF E x = .ref n o) (hy : evF E y = d) (hl : lk s.H n = some (.cells cs e lo)) (hs : (cellsOf d).length = sz) (h1 : (cellsOf d).all one = true) (h2 : o + sz ≤ cs.length) (h3 : lo ≤ o) (h4 : s.ro ≤ n)
    (h : opsF cl rest E { H := upd s.H n (.cells (splice cs o (cellsOf d)) e lo), nx := s.nx, ro := s.ro } Q) : opsF cl (⟨none, .store sz x y, none, af⟩ :: rest) E s Q :=
  o_exec (d := .raw undef) (s' := { H := upd s.H n (.cells (splice cs o (cellsOf d)) e lo), nx := s.nx, ro := s.ro }) rfl (by simp only [exec, hx, hy, hl, hs, h1, h2, h3, h4, and_self, if_true]) h
theorem o_faddr_ref {off n o : Nat} (hx : evF E x = .ref n o) (h : opsF cl rest (put E k (.ref n (o + off))) s Q) : opsF cl (⟨some k, .faddr off x, none, af⟩ :: rest) E s Q := o_exec rfl (by simp only [exec, hx]) h
theorem o_faddr_iptr {off : Nat} {cs : List D} (hx : evF E x = .iptr cs) (h : opsF cl rest (put E k (.iptr (cs.drop off))) s Q) : opsF cl (⟨some k, .faddr off x, none, af⟩ :: rest) E s Q := o_exec rfl (by simp only [exec, hx]) h
theorem o_iaddr_lst {sz : Nat} {xs : List (List D)} {j : Nat} {cs : List D} (hx : evF E x = .lst xs) (hy : evF E y = I64 j) (hj : xs[j]? = some cs) (hs : cs.length = sz) (h : opsF cl rest (put E k (.iptr cs)) s Q) : opsF cl (⟨some k, .iaddr sz x y, none, af⟩ :: rest) E s Q := by
  have hlt : j < xs.length := by
    rcases Nat.lt_or_ge j xs.length with h | h
    · exact h
    · rw [List.getElem?_eq_none h] at hj; cases hj
  refine o_exec (d := .iptr cs) (s' := s) rfl ?_ h
  have h0 : (0 : Int) ≤ (j : Int) := Int.natCast_nonneg j
  have h1 : (j : Int) < (xs.length : Int) := Int.ofNat_lt.2 hlt
  simp only [exec, hy, hx, h0, h1, and_self, if_true, Int.toNat_natCast, List.getD_eq_getElem?_getD, hj, Option.getD_some, hs]
theorem o_iaddr_sl {sz n off len j : Nat} (hx : evF E x = .sl n off len sz) (hy : evF E y = I64 j) (hj : j < len) (h : opsF cl rest (put E k (.ref n (off + j * sz))) s Q) : opsF cl (⟨some k, .iaddr sz x y, none, af⟩ :: rest) E s Q := by
  refine o_exec (d := .ref n (off + j * sz)) (s' := s) rfl ?_ h
  have h0 : (0 : Int) ≤ (j : Int) := Int.natCast_nonneg j
  have h1 : (j : Int) < (len : Int) := Int.ofNat_lt.2 hj
  simp only [exec, hy, hx, h0, h1, and_self, if_true, Int.toNat_natCast]
theorem o_bin {op : BinOp} {u v w : Value} (hx : evF E x = .raw u) (hy : evF E y = .raw v) (hb : bin op u v = some w) (h : opsF cl rest (put E k (.raw w)) s Q) : opsF cl (⟨some k, .bin op x y, none, af⟩ :: rest) E s Q :=
  o_exec rfl (by simp only [exec, hx, hy, hb, Option.map_some]) h
theorem o_lss {u v : Int} (hx : evF E x = I64 u) (hy : evF E y = I64 v) (h : opsF cl rest (put E k (B (decide (u < v)))) s Q) : opsF cl (⟨some k, .bin .lss x y, none, af⟩ :: rest) E s Q := o_bin hx hy rfl h
theorem o_leq {u v : Int} (hx : evF E x = I64 u) (hy : evF E y = I64 v) (h : opsF cl rest (put E k (B (decide (u ≤ v)))) s Q) : opsF cl (⟨some k, .bin .leq x y, none, af⟩ :: rest) E s Q := o_bin hx hy rfl h
theorem o_gtr {u v : Int} (hx : evF E x = I64 u) (hy : evF E y = I64 v) (h : opsF cl rest (put E k (B (decide (u > v)))) s Q) : opsF cl (⟨some k, .bin .gtr x y, none, af⟩ :: rest) E s Q := o_bin hx hy rfl h
theorem o_geq {u v : Int} (hx : evF E x = I64 u) (hy : evF E y = I64 v) (h : opsF cl rest (put E k (B (decide (u ≥ v)))) s Q) : opsF cl (⟨some k, .bin .geq x y, none, af⟩ :: rest) E s Q := o_bin hx hy rfl h
theorem o_eql {u v : Int} (hx : evF E x = I64 u) (hy : evF E y = I64 v) (h : opsF cl rest (put E k (B (u == v))) s Q) : opsF cl (⟨some k, .bin .eql x y, none, af⟩ :: rest) E s Q := o_bin hx hy rfl h
theorem o_neq {u v : Int} (hx : evF E x = I64 u) (hy : evF E y = I64 v) (h : opsF cl rest (put E k (B (u != v))) s Q) : opsF cl (⟨some k, .bin .neq x y, none, af⟩ :: rest) E s Q := o_bin hx hy rfl h
theorem o_neqs {u v : ByteArray} (hx : evF E x = .raw (.string u)) (hy : evF E y = .raw (.string v)) (h : opsF cl rest (put E k (B !(u.toList == v.toList))) s Q) : opsF cl (⟨some k, .bin .neq x y, none, af⟩ :: rest) E s Q := o_bin hx hy rfl h
/-- Adding 1 to an index. -/
theorem o_inc {j : Nat} (hx : evF E x = I64 j) (hj : j + 1 < 2 ^ 63) (h : opsF cl rest (put E k (I64 ((j + 1 : Nat) : Int))) s Q) : opsF cl (⟨some k, .bin .add x (.c (.raw (.int .i64 (.ofNat 1)))), none, af⟩ :: rest) E s Q := by
  refine o_bin (w := .int .i64 ((j + 1 : Nat) : Int)) hx rfl ?_ h
  have : IntKind.i64.wrap ((j : Int) + Int.ofNat 1) = ((j + 1 : Nat) : Int) := by
    rw [Go.IntWalk.i64_in _ (by constructor <;> simp <;> omega)]
    rfl
  simp only [bin, if_true, this]
theorem o_not {b : Bool} (hx : evF E x = B b) (h : opsF cl rest (put E k (B (!b))) s Q) : opsF cl (⟨some k, .un .not x, none, af⟩ :: rest) E s Q := o_exec rfl (by simp only [exec, hx]) h
theorem o_neg {u : Int} (hx : evF E x = I64 u) (h : opsF cl rest (put E k (I64 (IntKind.i64.wrap (0 - u)))) s Q) : opsF cl (⟨some k, .un .neg x, none, af⟩ :: rest) E s Q := o_exec rfl (by simp only [exec, hx]) h
theorem o_eqb {neg u v : Bool} (hx : evF E x = B u) (hy : evF E y = B v) (h : opsF cl rest (put E k (B (neg != (u == v)))) s Q) : opsF cl (⟨some k, .eq neg .bool x y, none, af⟩ :: rest) E s Q := o_exec rfl (by simp only [exec, hx, hy, eqD, Option.map_some]) h
theorem o_len_lst {xs : List (List D)} (hx : evF E x = .lst xs) (h : opsF cl rest (put E k (I64 xs.length)) s Q) : opsF cl (⟨some k, .len 1 x, none, af⟩ :: rest) E s Q := o_exec rfl (by simp only [exec, hx]) h
theorem o_len_sl {n off len sz : Nat} (hx : evF E x = .sl n off len sz) (h : opsF cl rest (put E k (I64 len)) s Q) : opsF cl (⟨some k, .len 1 x, none, af⟩ :: rest) E s Q := o_exec rfl (by simp only [exec, hx]) h
theorem o_len_nil (hx : evF E x = .raw (.slice none 0 0)) (h : opsF cl rest (put E k (I64 ((0 : Nat) : Int))) s Q) : opsF cl (⟨some k, .len 1 x, none, af⟩ :: rest) E s Q := o_exec rfl (by simp only [exec, hx]; rfl) h
theorem o_len_str {b : ByteArray} (hx : evF E x = .raw (.string b)) (h : opsF cl rest (put E k (I64 b.size)) s Q) : opsF cl (⟨some k, .len 0 x, none, af⟩ :: rest) E s Q := o_exec rfl (by simp only [exec, hx]) h
theorem o_len_map {n : Nat} {es : List (Value × D)} {z : Bool} (hx : evF E x = .map n) (hl : lk s.H n = some (.map es z)) (h : opsF cl rest (put E k (I64 es.length)) s Q) : opsF cl (⟨some k, .len 2 x, none, af⟩ :: rest) E s Q := o_exec rfl (by simp only [exec, hx, hl]) h
theorem o_extract {ds : List D} {j : Nat} {d : D} (hx : evF E x = .tup ds) (hd : ds[j]? = some d) (h : opsF cl rest (put E k d) s Q) : opsF cl (⟨some k, .extract x j, none, af⟩ :: rest) E s Q := o_exec rfl (by simp only [exec, hx, hd, Option.map_some]) h
theorem o_mkfn {f : Fn} {xs ys : List Opd} (h : opsF cl rest (put E k (.fn f (xs.map (evF E)) (ys.map (evF E)))) s Q) : opsF cl (⟨some k, .mkfn f xs ys, none, af⟩ :: rest) E s Q := o_exec rfl (by simp only [exec]) h
theorem o_nilChk_ref {n o : Nat} (hx : evF E x = .ref n o) (h : opsF cl rest (put E k (.ref n o)) s Q) : opsF cl (⟨some k, .nilChk x, none, af⟩ :: rest) E s Q := o_exec rfl (by simp only [exec, hx]) h
/-- s[:h] -/
theorem o_take {sz : Nat} {xs : List (List D)} {j : Nat} (hx : evF E x = .lst xs) (hy : evF E y = I64 j) (hs : ∀ c ∈ xs, c.length = sz) (hj : j ≤ xs.length) (h : opsF cl rest (put E k (.lst (xs.take j))) s Q) : opsF cl (⟨some k, .slice sz x none (some y) none, none, af⟩ :: rest) E s Q := by
  refine o_exec (d := .lst (xs.take j)) (s' := s) rfl ?_ h
  have h0 : (0 : Int) ≤ (j : Int) := Int.natCast_nonneg j
  have h1 : (j : Int) ≤ (xs.length : Int) := Int.ofNat_le.2 hj
  cases xs with
  | nil =>
    obtain rfl : j = 0 := by simpa using hj
    simp [exec, hx, bnd, hy]
  | cons c t =>
    have h2 : (j : Int) ≤ (t.length : Int) + 1 := by simpa using h1
    simp [exec, hx, bnd, hy, h0, h2, hs c (List.mem_cons_self ..)]
theorem o_lookup_imap {kk : Nat} {z d : D} {kv : Value} {es : List (Value × D)} {r : Option (Nat × D)} (hx : evF E x = .imap es) (hy : evF E y = .raw kv) (hf : findE kk kv es 0 = some r) (hd : (match r with | some (_, d) => d | none => z) = d) (h : opsF cl rest (put E k d) s Q) :
    opsF cl (⟨some k, .lookup kk z false x y, none, af⟩ :: rest) E s Q := by
  refine o_exec (d := d) (s' := s) rfl ?_ h
  cases r with
  | none => simp only [exec, hx, hy, lkE, hf, Bool.false_eq_true, if_false] at *; rw [← hd]
  | some p => obtain ⟨j, d'⟩ := p; simp only [exec, hx, hy, lkE, hf, Bool.false_eq_true, if_false] at *; rw [← hd]
theorem o_call {f : FuncId} {xs : List Opd} {args : List D} {d : D} (hm : MonoQ cl) (hx : xs.map (evF E) = args) {P : St → Prop} (hf : cl f args s (fun o s' => o = .ret d ∧ P s')) (h : ∀ s', P s' → opsF cl rest (setF E dst d) s' Q) : opsF cl (⟨dst, .call f xs, none, af⟩ :: rest) E s Q := by
  simp only [opsF, wantsF, if_true, opM, hx]
  refine hm _ _ _ _ _ (fun o s' ho => ?_) hf
  obtain ⟨rfl, hp⟩ := ho
  exact h s' hp
theorem o_callv {f : FuncId} {xs : List Opd} {first cap args : List D} {d : D} (hm : MonoQ cl) (hv : evF E x = .fn (.func f) first cap) (hx : first ++ xs.map (evF E) ++ cap = args) {P : St → Prop} (hf : cl f args s (fun o s' => o = .ret d ∧ P s')) (h : ∀ s', P s' → opsF cl rest (setF E dst d) s' Q) : opsF cl (⟨dst, .callv x xs, none, af⟩ :: rest) E s Q := by
  simp only [opsF, wantsF, if_true, opM, hv, hx]
  refine hm _ _ _ _ _ (fun o s' ho => ?_) hf
  obtain ⟨rfl, hp⟩ := ho
  exact h s' hp
end
end Raw

structure OpsR (cl : Cl) (ops : List IOp) (E : Env) (s : St) (Q : Ex × Env → St → Prop) : Prop where
  h : opsF cl ops E s Q
structure CodeR (cl : Cl) (nt : Nat) (c : IC) (E : Env) (s : St) (Q : Ex × Env → St → Prop) : Prop where
  h : codeF cl nt c E s Q
/-- What comes after the first of two. -/
structure SeqQ (K : Env → St → Prop) (Q : Ex × Env → St → Prop) (r : Ex × Env) (s' : St) : Prop where
  h : match r.1 with
    | .nrm => K r.2 s'
    | e => Q (e, r.2) s'
structure BlockQ (id : Nat) (Q : Ex × Env → St → Prop) (r : Ex × Env) (s' : St) : Prop where
  h : match r.1 with
    | .exit i => if i = id then Q (.nrm, r.2) s' else Q (.exit i, r.2) s'
    | e => Q (e, r.2) s'
structure LoopQ (I : Nat → Env → St → Prop) (n : Nat) (Q : Ex × Env → St → Prop) (r : Ex × Env) (s' : St) : Prop where
  h : match r.1 with
    | .nrm => ∃ m, m < n ∧ I m r.2 s'
    | e => Q (e, r.2) s'
/-- The end of a function. -/
structure EndQ (Q : Ex × Env → St → Prop) (r : Ex × Env) (s' : St) : Prop where
  h : Q r s'

section
variable {cl : Cl} {nt : Nat} {a b c : IC} {E : Env} {s : St} {Q : Ex × Env → St → Prop} {K : Env → St → Prop} {ops rest : List IOp} {id i : Nat} {I : Nat → Env → St → Prop} {n : Nat}
theorem CodeR.mono (hm : MonoQ cl) {Q' : Ex × Env → St → Prop} (h : ∀ r s, Q r s → Q' r s) (hh : CodeR cl nt c E s Q) : CodeR cl nt c E s Q' := ⟨codeF_mono hm c E s Q Q' h hh.h⟩
theorem c_seq (hm : MonoQ cl) (h : CodeR cl nt a E s (SeqQ (fun E s => CodeR cl nt b E s Q) Q)) : CodeR cl nt (.seq a b) E s Q := by
  refine ⟨?_⟩
  simp only [codeF]
  refine codeF_mono hm a E s _ _ (fun r s' hr => ?_) h.h
  obtain ⟨e, E'⟩ := r
  have := hr.h
  cases e with
  | nrm => exact CodeR.h this
  | _ => exact this
theorem c_region (h : OpsR cl ops E s Q) : CodeR cl nt (.region ops) E s Q := ⟨h.h⟩
theorem c_skip (h : Q (.nrm, E) s) : CodeR cl nt .skip E s Q := ⟨h⟩
theorem c_ret (h : Q (.ret, E) s) : CodeR cl nt .ret E s Q := ⟨h⟩
theorem c_exit (h : Q (.exit id, E) s) : CodeR cl nt (.exit id) E s Q := ⟨h⟩
theorem c_scope (h : CodeR cl nt b E s Q) : CodeR cl nt (.scope b) E s Q := ⟨h.h⟩
theorem c_block (hm : MonoQ cl) (h : CodeR cl nt b E s (BlockQ id Q)) : CodeR cl nt (.block id b) E s Q := by
  refine ⟨?_⟩
  simp only [codeF]
  refine codeF_mono hm b E s _ _ (fun r s' hr => ?_) h.h
  obtain ⟨e, E'⟩ := r
  exact hr.h
theorem c_true {x : Opd} {v : Bool} (hx : evF E x = B v) (hv : v = true) (h : CodeR cl nt a E s Q) : CodeR cl nt (.cond x a b) E s Q := by
  subst hv
  refine ⟨?_⟩
  simp only [codeF, hx]
  exact h.h
theorem c_false {x : Opd} {v : Bool} (hx : evF E x = B v) (hv : v = false) (h : CodeR cl nt b E s Q) : CodeR cl nt (.cond x a b) E s Q := by
  subst hv
  refine ⟨?_⟩
  simp only [codeF, hx]
  exact h.h
theorem c_cond {x : Opd} {v : Bool} (hx : evF E x = B v) (h1 : v = true → CodeR cl nt a E s Q) (h2 : v = false → CodeR cl nt b E s Q) : CodeR cl nt (.cond x a b) E s Q := by
  cases v with
  | true => exact c_true hx rfl (h1 rfl)
  | false => exact c_false hx rfl (h2 rfl)
theorem q_c {c : IC} {Q' : Ex × Env → St → Prop} (h : CodeR cl nt c E s Q') : SeqQ (fun E s => CodeR cl nt c E s Q') Q (.nrm, E) s := ⟨h⟩
theorem q_ret (h : Q (.ret, E) s) : SeqQ K Q (.ret, E) s := ⟨h⟩
theorem q_exit (h : Q (.exit id, E) s) : SeqQ K Q (.exit id, E) s := ⟨h⟩
theorem b_nrm (h : Q (.nrm, E) s) : BlockQ id Q (.nrm, E) s := ⟨h⟩
theorem b_ret (h : Q (.ret, E) s) : BlockQ id Q (.ret, E) s := ⟨h⟩
theorem b_hit (h : Q (.nrm, E) s) : BlockQ id Q (.exit id, E) s := ⟨by simp only [if_true]; exact h⟩
theorem b_miss (hne : i ≠ id) (h : Q (.exit i, E) s) : BlockQ id Q (.exit i, E) s := ⟨by simp only [if_neg hne]; exact h⟩
theorem l_nrm (m : Nat) (hlt : m < n) (h : I m E s) : LoopQ I n Q (.nrm, E) s := ⟨⟨m, hlt, h⟩⟩
theorem l_ret (h : Q (.ret, E) s) : LoopQ I n Q (.ret, E) s := ⟨h⟩
theorem l_exit (h : Q (.exit id, E) s) : LoopQ I n Q (.exit id, E) s := ⟨h⟩
theorem c_loop (hm : MonoQ cl) (I : Nat → Env → St → Prop) {n0 : Nat} (hi : I n0 E s) (h : ∀ n E s, I n E s → CodeR cl nt c E s (LoopQ I n Q)) : CodeR cl nt (.loop c) E s Q :=
  ⟨loop_inv hm I (fun n E s hh => codeF_mono hm c E s _ _ (fun r s' hr => hr.h) (h n E s hh).h) hi⟩
end
section
variable {cl : Cl} {E : Env} {s : St} {Q : Ex × Env → St → Prop} {rest : List IOp} {k : Nat} {dst : Option Nat} {i : I} {af : List Nat} {x y z : Opd}
theorem o_nil (h : Q (.nrm, E) s) : OpsR cl [] E s Q := ⟨Raw.o_nil h⟩
theorem g_yes {t : Nat} {b v : Bool} (hx : E t = B v) (hv : v = b) (h : OpsR cl (⟨dst, i, none, af⟩ :: rest) E s Q) : OpsR cl (⟨dst, i, some (t, b), af⟩ :: rest) E s Q := ⟨Raw.g_yes hx hv h.h⟩
theorem g_no {t : Nat} {b v : Bool} (hx : E t = B v) (hv : v = !b) (h : OpsR cl rest (setF E dst default) s Q) : OpsR cl (⟨dst, i, some (t, b), af⟩ :: rest) E s Q := ⟨Raw.g_no hx hv h.h⟩
theorem o_exec {d : D} {s' : St} (hc : isCall i = false) (he : exec (evF E) i s = some (d, s')) (h : OpsR cl rest (setF E dst d) s' Q) : OpsR cl (⟨dst, i, none, af⟩ :: rest) E s Q := ⟨Raw.o_exec hc he h.h⟩
theorem o_mv {d : D} (hx : evF E x = d) (h : OpsR cl rest (put E k d) s Q) : OpsR cl (⟨some k, .mv x, none, af⟩ :: rest) E s Q := ⟨Raw.o_mv hx h.h⟩
theorem o_pick_t {v : Bool} {d : D} (hc : evF E z = B v) (hv : v = true) (hx : evF E x = d) (h : OpsR cl rest (put E k d) s Q) : OpsR cl (⟨some k, .pick z x y, none, af⟩ :: rest) E s Q := ⟨Raw.o_pick_t hc hv hx h.h⟩
theorem o_pick_f {v : Bool} {d : D} (hc : evF E z = B v) (hv : v = false) (hx : evF E y = d) (h : OpsR cl rest (put E k d) s Q) : OpsR cl (⟨some k, .pick z x y, none, af⟩ :: rest) E s Q := ⟨Raw.o_pick_f hc hv hx h.h⟩
theorem o_alloc {H : Heap} {nx ro : Nat} {e : TypeId} {z : List D} (hz : z.all one = true) (h : OpsR cl rest (put E k (.ref nx 0)) ⟨(nx, .cells z e 0) :: H, nx + 1, ro⟩ Q) : OpsR cl (⟨some k, .alloc e z, none, af⟩ :: rest) E ⟨H, nx, ro⟩ Q := ⟨Raw.o_alloc hz h.h⟩
theorem o_box {H : Heap} {nx ro : Nat} {e : TypeId} {d : D} (hx : evF E x = d) (hz : (cellsOf d).all one = true) (h : OpsR cl rest (put E k (.ref nx 0)) ⟨(nx, .cells (cellsOf d) e 0) :: H, nx + 1, ro⟩ Q) : OpsR cl (⟨some k, .box e x, none, af⟩ :: rest) E ⟨H, nx, ro⟩ Q := ⟨Raw.o_box hx hz h.h⟩
theorem o_mkmap {H : Heap} {nx ro : Nat} (h : OpsR cl rest (put E k (.map nx)) ⟨(nx, .map [] false) :: H, nx + 1, ro⟩ Q) : OpsR cl (⟨some k, .mkmap, none, af⟩ :: rest) E ⟨H, nx, ro⟩ Q := ⟨Raw.o_mkmap h.h⟩
theorem o_bslice1 {H : Heap} {nx ro : Nat} {e : Nat} {z x' d : D} (hx : evF E x = d) (hd : cellsOf d = [x']) (ho : one x' = true) (hz : one z = true) (h : OpsR cl rest (put E k (.sl nx 0 1 1)) ⟨(nx, .cells [x'] e 0) :: H, nx + 1, ro⟩ Q) : OpsR cl (⟨some k, .bslice e 1 1 [z] [(0, 1, x)], none, af⟩ :: rest) E ⟨H, nx, ro⟩ Q := ⟨Raw.o_bslice1 hx hd ho hz h.h⟩
theorem o_load_ref {H : Heap} {nx ro : Nat} {ag : Bool} {sz n o : Nat} {cs : List D} {e lo : Nat} {d : D} (hx : evF E x = .ref n o) (hl : lk H n = some (.cells cs e lo)) (ht : takeN (cs.drop o) ag sz = some d) (h : OpsR cl rest (put E k d) ⟨H, nx, ro⟩ Q) : OpsR cl (⟨some k, .load ag sz x, none, af⟩ :: rest) E ⟨H, nx, ro⟩ Q := ⟨Raw.o_load_ref hx hl ht h.h⟩
theorem o_load_iptr {ag : Bool} {sz : Nat} {cs : List D} {d : D} (hx : evF E x = .iptr cs) (ht : takeN cs ag sz = some d) (h : OpsR cl rest (put E k d) s Q) : OpsR cl (⟨some k, .load ag sz x, none, af⟩ :: rest) E s Q := ⟨Raw.o_load_iptr hx ht h.h⟩
theorem o_store {H : Heap} {nx ro : Nat} {sz n o : Nat} {cs : List D} {e lo : Nat} {d : D} (hx : evF E x = .ref n o) (hy : evF E y = d) (hl : lk H n = some (.cells cs e lo)) (hs : (cellsOf d).length = sz) (h1 : (cellsOf d).all one = true) (h2 : o + sz ≤ cs.length) (h3 : lo ≤ o) (h4 : ro ≤ n) (h : OpsR cl rest E ⟨upd H n (.cells (splice cs o (cellsOf d)) e lo), nx, ro⟩ Q) : OpsR cl (⟨none, .store sz x y, none, af⟩ :: rest) E ⟨H, nx, ro⟩ Q := ⟨Raw.o_store hx hy hl hs h1 h2 h3 h4 h.h⟩
theorem o_faddr_ref {off n o : Nat} (hx : evF E x = .ref n o) (h : OpsR cl rest (put E k (.ref n (o + off))) s Q) : OpsR cl (⟨some k, .faddr off x, none, af⟩ :: rest) E s Q := ⟨Raw.o_faddr_ref hx h.h⟩
theorem o_faddr_iptr {off : Nat} {cs : List D} (hx : evF E x = .iptr cs) (h : OpsR cl rest (put E k (.iptr (cs.drop off))) s Q) : OpsR cl (⟨some k, .faddr off x, none, af⟩ :: rest) E s Q := ⟨Raw.o_faddr_iptr hx h.h⟩
theorem o_iaddr_lst {sz : Nat} {xs : List (List D)} {j : Nat} {cs : List D} (hx : evF E x = .lst xs) (hy : evF E y = I64 j) (hj : xs[j]? = some cs) (hs : cs.length = sz) (h : OpsR cl rest (put E k (.iptr cs)) s Q) : OpsR cl (⟨some k, .iaddr sz x y, none, af⟩ :: rest) E s Q := ⟨Raw.o_iaddr_lst hx hy hj hs h.h⟩
theorem o_iaddr_sl {sz n off len j : Nat} (hx : evF E x = .sl n off len sz) (hy : evF E y = I64 j) (hj : j < len) (h : OpsR cl rest (put E k (.ref n (off + j * sz))) s Q) : OpsR cl (⟨some k, .iaddr sz x y, none, af⟩ :: rest) E s Q := ⟨Raw.o_iaddr_sl hx hy hj h.h⟩
theorem o_bin {op : BinOp} {u v w : Value} (hx : evF E x = .raw u) (hy : evF E y = .raw v) (hb : bin op u v = some w) (h : OpsR cl rest (put E k (.raw w)) s Q) : OpsR cl (⟨some k, .bin op x y, none, af⟩ :: rest) E s Q := ⟨Raw.o_bin hx hy hb h.h⟩
theorem o_lss {u v : Int} (hx : evF E x = I64 u) (hy : evF E y = I64 v) (h : OpsR cl rest (put E k (B (decide (u < v)))) s Q) : OpsR cl (⟨some k, .bin .lss x y, none, af⟩ :: rest) E s Q := ⟨Raw.o_lss hx hy h.h⟩
theorem o_leq {u v : Int} (hx : evF E x = I64 u) (hy : evF E y = I64 v) (h : OpsR cl rest (put E k (B (decide (u ≤ v)))) s Q) : OpsR cl (⟨some k, .bin .leq x y, none, af⟩ :: rest) E s Q := ⟨Raw.o_leq hx hy h.h⟩
theorem o_gtr {u v : Int} (hx : evF E x = I64 u) (hy : evF E y = I64 v) (h : OpsR cl rest (put E k (B (decide (u > v)))) s Q) : OpsR cl (⟨some k, .bin .gtr x y, none, af⟩ :: rest) E s Q := ⟨Raw.o_gtr hx hy h.h⟩
theorem o_geq {u v : Int} (hx : evF E x = I64 u) (hy : evF E y = I64 v) (h : OpsR cl rest (put E k (B (decide (u ≥ v)))) s Q) : OpsR cl (⟨some k, .bin .geq x y, none, af⟩ :: rest) E s Q := ⟨Raw.o_geq hx hy h.h⟩
theorem o_eql {u v : Int} (hx : evF E x = I64 u) (hy : evF E y = I64 v) (h : OpsR cl rest (put E k (B (u == v))) s Q) : OpsR cl (⟨some k, .bin .eql x y, none, af⟩ :: rest) E s Q := ⟨Raw.o_eql hx hy h.h⟩
theorem o_neq {u v : Int} (hx : evF E x = I64 u) (hy : evF E y = I64 v) (h : OpsR cl rest (put E k (B (u != v))) s Q) : OpsR cl (⟨some k, .bin .neq x y, none, af⟩ :: rest) E s Q := ⟨Raw.o_neq hx hy h.h⟩
theorem o_neqs {u v : ByteArray} (hx : evF E x = .raw (.string u)) (hy : evF E y = .raw (.string v)) (h : OpsR cl rest (put E k (B !(u.toList == v.toList))) s Q) : OpsR cl (⟨some k, .bin .neq x y, none, af⟩ :: rest) E s Q := ⟨Raw.o_neqs hx hy h.h⟩
theorem o_inc {j : Nat} (hx : evF E x = I64 j) (hj : j + 1 < 2 ^ 63) (h : OpsR cl rest (put E k (I64 ((j + 1 : Nat) : Int))) s Q) : OpsR cl (⟨some k, .bin .add x (.c (.raw (.int .i64 (.ofNat 1)))), none, af⟩ :: rest) E s Q := ⟨Raw.o_inc hx hj h.h⟩
theorem o_not {b : Bool} (hx : evF E x = B b) (h : OpsR cl rest (put E k (B (!b))) s Q) : OpsR cl (⟨some k, .un .not x, none, af⟩ :: rest) E s Q := ⟨Raw.o_not hx h.h⟩
theorem o_neg {u : Int} (hx : evF E x = I64 u) (h : OpsR cl rest (put E k (I64 (IntKind.i64.wrap (0 - u)))) s Q) : OpsR cl (⟨some k, .un .neg x, none, af⟩ :: rest) E s Q := ⟨Raw.o_neg hx h.h⟩
theorem o_eqb {neg u v : Bool} (hx : evF E x = B u) (hy : evF E y = B v) (h : OpsR cl rest (put E k (B (neg != (u == v)))) s Q) : OpsR cl (⟨some k, .eq neg .bool x y, none, af⟩ :: rest) E s Q := ⟨Raw.o_eqb hx hy h.h⟩
theorem o_len_lst {xs : List (List D)} (hx : evF E x = .lst xs) (h : OpsR cl rest (put E k (I64 xs.length)) s Q) : OpsR cl (⟨some k, .len 1 x, none, af⟩ :: rest) E s Q := ⟨Raw.o_len_lst hx h.h⟩
theorem o_len_sl {n off len sz : Nat} (hx : evF E x = .sl n off len sz) (h : OpsR cl rest (put E k (I64 len)) s Q) : OpsR cl (⟨some k, .len 1 x, none, af⟩ :: rest) E s Q := ⟨Raw.o_len_sl hx h.h⟩
theorem o_len_nil (hx : evF E x = .raw (.slice none 0 0)) (h : OpsR cl rest (put E k (I64 ((0 : Nat) : Int))) s Q) : OpsR cl (⟨some k, .len 1 x, none, af⟩ :: rest) E s Q := ⟨Raw.o_len_nil hx h.h⟩
theorem o_len_str {b : ByteArray} (hx : evF E x = .raw (.string b)) (h : OpsR cl rest (put E k (I64 b.size)) s Q) : OpsR cl (⟨some k, .len 0 x, none, af⟩ :: rest) E s Q := ⟨Raw.o_len_str hx h.h⟩
theorem o_len_map {H : Heap} {nx ro : Nat} {n : Nat} {es : List (Value × D)} {z : Bool} (hx : evF E x = .map n) (hl : lk H n = some (.map es z)) (h : OpsR cl rest (put E k (I64 es.length)) ⟨H, nx, ro⟩ Q) : OpsR cl (⟨some k, .len 2 x, none, af⟩ :: rest) E ⟨H, nx, ro⟩ Q := ⟨Raw.o_len_map hx hl h.h⟩
theorem o_extract {ds : List D} {j : Nat} {d : D} (hx : evF E x = .tup ds) (hd : ds[j]? = some d) (h : OpsR cl rest (put E k d) s Q) : OpsR cl (⟨some k, .extract x j, none, af⟩ :: rest) E s Q := ⟨Raw.o_extract hx hd h.h⟩
theorem o_mkfn {f : Fn} {xs ys : List Opd} (h : OpsR cl rest (put E k (.fn f (xs.map (evF E)) (ys.map (evF E)))) s Q) : OpsR cl (⟨some k, .mkfn f xs ys, none, af⟩ :: rest) E s Q := ⟨Raw.o_mkfn h.h⟩
theorem o_nilChk_ref {n o : Nat} (hx : evF E x = .ref n o) (h : OpsR cl rest (put E k (.ref n o)) s Q) : OpsR cl (⟨some k, .nilChk x, none, af⟩ :: rest) E s Q := ⟨Raw.o_nilChk_ref hx h.h⟩
theorem o_take {sz : Nat} {xs : List (List D)} {j : Nat} (hx : evF E x = .lst xs) (hy : evF E y = I64 j) (hs : ∀ c ∈ xs, c.length = sz) (hj : j ≤ xs.length) (h : OpsR cl rest (put E k (.lst (xs.take j))) s Q) : OpsR cl (⟨some k, .slice sz x none (some y) none, none, af⟩ :: rest) E s Q := ⟨Raw.o_take hx hy hs hj h.h⟩
theorem o_lookup_imap {kk : Nat} {z d : D} {kv : Value} {es : List (Value × D)} {r : Option (Nat × D)} (hx : evF E x = .imap es) (hy : evF E y = .raw kv) (hf : findE kk kv es 0 = some r) (hd : (match r with | some (_, d) => d | none => z) = d) (h : OpsR cl rest (put E k d) s Q) : OpsR cl (⟨some k, .lookup kk z false x y, none, af⟩ :: rest) E s Q := ⟨Raw.o_lookup_imap hx hy hf hd h.h⟩
theorem o_call {f : FuncId} {xs : List Opd} {args : List D} {d : D} (hm : MonoQ cl) (hx : xs.map (evF E) = args) {P : St → Prop} (hf : cl f args s (fun o s' => o = .ret d ∧ P s')) (h : ∀ s', P s' → OpsR cl rest (setF E dst d) s' Q) : OpsR cl (⟨dst, .call f xs, none, af⟩ :: rest) E s Q := ⟨Raw.o_call hm hx hf (fun s' hp => (h s' hp).h)⟩
theorem o_callv {f : FuncId} {xs : List Opd} {first cap args : List D} {d : D} (hm : MonoQ cl) (hv : evF E x = .fn (.func f) first cap) (hx : first ++ xs.map (evF E) ++ cap = args) {P : St → Prop} (hf : cl f args s (fun o s' => o = .ret d ∧ P s')) (h : ∀ s', P s' → OpsR cl rest (setF E dst d) s' Q) : OpsR cl (⟨dst, .callv x xs, none, af⟩ :: rest) E s Q := ⟨Raw.o_callv hm hv hx hf (fun s' hp => (h s' hp).h)⟩
theorem o_store_top {H : Heap} {nx ro : Nat} {sz n o : Nat} {cs : List D} {e lo : Nat} {d : D} (hx : evF E x = .ref n o) (hy : evF E y = d) (hs : (cellsOf d).length = sz) (h1 : (cellsOf d).all one = true) (h2 : Nat.ble (o + sz) cs.length = true) (h3 : Nat.ble lo o = true) (h4 : ro ≤ n) (h : OpsR cl rest E ⟨(n, .cells (splice cs o (cellsOf d)) e lo) :: H, nx, ro⟩ Q) : OpsR cl (⟨none, .store sz x y, none, af⟩ :: rest) E ⟨(n, .cells cs e lo) :: H, nx, ro⟩ Q :=
  ⟨Raw.o_store hx hy (lk_here n _ _) hs h1 (Nat.le_of_ble_eq_true h2) (Nat.le_of_ble_eq_true h3) h4 (by rw [upd_here]; exact h.h)⟩
theorem g_split {t : Nat} {b v : Bool} (hx : E t = B v) (h1 : v = b → OpsR cl (⟨dst, i, none, af⟩ :: rest) E s Q) (h2 : v = !b → OpsR cl rest (setF E dst default) s Q) : OpsR cl (⟨dst, i, some (t, b), af⟩ :: rest) E s Q := ⟨Raw.g_split hx (fun h => (h1 h).h) (fun h => (h2 h).h)⟩
end

/-! ### Environments -/
theorem put_self (E : Env) (k : Nat) : put E k (E k) = E := by
  funext j
  simp only [put]
  split
  · rename_i e; rw [e]
  · rfl
theorem put_eq {E : Env} {k : Nat} {d : D} (h : E k = d) : E = put E k d := by rw [← h, put_self]

end Go.Ai
