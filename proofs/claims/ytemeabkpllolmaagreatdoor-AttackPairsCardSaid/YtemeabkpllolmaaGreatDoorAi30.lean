/-
  A part of an interpreter over abstract data, proved sound once for the model: what it says of the code, the machine does in every order. Conditions: none beyond the statement.
-/
import Derived.Test.YtemeabkpllolmaaGreatDoorAi25
import Derived.Test.YtemeabkpllolmaaGreatDoorAi4
/-! The same meaning over environments, for proofs by hand. -/
set_option linter.unusedVariables false
set_option linter.unusedSimpArgs false
namespace Go.Ai

abbrev Env := Nat → D
def put (E : Env) (k : Nat) (d : D) : Env := fun j => if j = k then d else E j
def evF (E : Env) : Opd → D
  | .t i => E i
  | .c d => d
def wantsF (E : Env) : Option (Nat × Bool) → Bool
  | none => true
  | some (t, b) => match E t with
    | .raw (.bool c) => c == b
    | _ => false
def setF (E : Env) (dst : Option Nat) (d : D) : Env := match dst with
  | some k => put E k d
  | none => E
abbrev MF := M (Ex × Env)
def noEnv : Env := fun _ => default
def opsF (cl : Cl) : List IOp → Env → MF
  | [], E => fun s Q => Q (.nrm, E) s
  | o :: rest, E => fun s Q => if wantsF E o.guard then opM cl (evF E) o.i s fun out s' => match out with
      | .ret d => opsF cl rest (setF E o.dst d) s' Q
      | .pan d => Q (.pan d, noEnv) s'
    else opsF cl rest (setF E o.dst default) s Q
def loopF (b : Env → MF) (E : Env) : MF := fun s Q =>
  ∀ W : Env → St → Prop, (∀ E s, b E s (fun r s' => match r.1 with
    | .nrm => W r.2 s'
    | e => Q (e, r.2) s') → W E s) → W E s
def envOf (T : List D) : Env := fun i => T.getD i default
def codeF (cl : Cl) (nt : Nat) : IC → Env → MF
  | .skip, E => fun s Q => Q (.nrm, E) s
  | .region ops, E => opsF cl ops E
  | .draw ops, E => fun s Q => ∀ T, T.length = nt → envOf T = E → drawM cl s.nx ops ops.length (List.replicate ops.length false) T { s with nx := s.nx + ops.length } fun r s' => Q (r.1, envOf r.2) s'
  | .seq a b, E => fun s Q => codeF cl nt a E s fun r s' => match r.1 with
    | .nrm => codeF cl nt b r.2 s' Q
    | e => Q (e, r.2) s'
  | .cond c a b, E => fun s Q => match evF E c with
    | .raw (.bool true) => codeF cl nt a E s Q
    | .raw (.bool false) => codeF cl nt b E s Q
    | _ => False
  | .block id b, E => fun s Q => codeF cl nt b E s fun r s' => match r.1 with
    | .exit i => if i = id then Q (.nrm, r.2) s' else Q (.exit i, r.2) s'
    | e => Q (e, r.2) s'
  | .loop b, E => loopF (codeF cl nt b) E
  | .scope b, E => codeF cl nt b E
  | .exit id, E => fun s Q => Q (.exit id, E) s
  | .ret, E => fun s Q => Q (.ret, E) s

theorem evF_of (T : List D) : evF (envOf T) = evO T := by
  funext x
  cases x <;> rfl
theorem wantsF_of (T : List D) (g : Option (Nat × Bool)) : wantsF (envOf T) g = wants T g := by
  cases g <;> rfl
theorem envOf_set {T : List D} {k : Nat} (h : k < T.length) (d : D) : envOf (T.set k d) = put (envOf T) k d := by
  funext j
  simp only [envOf, put]
  by_cases e : j = k
  · subst e; simp [List.getD_eq_getElem?_getD, h]
  · simp [List.getD_eq_getElem?_getD, List.getElem?_set, Ne.symm e, e]
def okD (nt : Nat) : Option Nat → Bool
  | some k => Nat.blt k nt
  | none => true
def okC (nt : Nat) : IC → Bool
  | .region ops => ops.all fun o => okD nt o.dst
  | .draw ops => ops.all fun o => okD nt o.dst
  | .seq a b => okC nt a && okC nt b
  | .cond _ a b => okC nt a && okC nt b
  | .block _ b => okC nt b
  | .loop b => okC nt b
  | .scope b => okC nt b
  | _ => true
theorem envOf_setT {T : List D} {dst : Option Nat} (h : okD T.length dst = true) (d : D) : envOf (setT T dst d) = setF (envOf T) dst d := by
  cases dst with
  | none => rfl
  | some k => exact envOf_set (by simpa [okD] using h) d
theorem setT_len (T : List D) (dst : Option Nat) (d : D) : (setT T dst d).length = T.length := by
  cases dst <;> simp [setT]

/-- The temporaries keep their number. -/
def Kept (nt : Nat) (r : Ex × List D) : Prop := r.2.length = nt ∨ ∃ d, r.1 = .pan d

theorem opsF_ok {cl : Cl} (hm : MonoQ cl) : ∀ (ops : List IOp) (T : List D) (s : St) (Q : Ex × Env → St → Prop), (ops.all fun o => okD T.length o.dst) = true → opsF cl ops (envOf T) s Q → opsM cl ops T s fun r s' => Q (r.1, envOf r.2) s' ∧ Kept T.length r
  | [], T, s, Q, ho, h => ⟨h, Or.inl rfl⟩
  | o :: rest, T, s, Q, ho, h => by
    simp only [List.all_cons, Bool.and_eq_true] at ho
    simp only [opsF, wantsF_of, evF_of] at h
    simp only [opsM]
    split
    · rename_i hw
      rw [if_pos hw] at h
      refine opM_mono (fun _ _ _ _ h => h) hm (fun r s' hr => ?_) h
      cases r with
      | ret d =>
        dsimp only at hr ⊢
        have := opsF_ok hm rest (setT T o.dst d) s' Q (by rw [setT_len]; exact ho.2) (by rw [envOf_setT ho.1]; exact hr)
        rw [setT_len] at this
        exact this
      | pan d => exact ⟨hr, Or.inr ⟨d, rfl⟩⟩
    · rename_i hw
      rw [if_neg hw] at h
      have := opsF_ok hm rest (setT T o.dst default) s Q (by rw [setT_len]; exact ho.2) (by rw [envOf_setT ho.1]; exact h)
      rw [setT_len] at this
      exact this

theorem stepD_kept {cl : Cl} (hm : MonoQ cl) {nm : Nat} {o : IOp} {T : List D} {n : Nat} {Q : Ex × List D → St → Prop} {K K' : List D → St → Prop} {s : St} (hk : ∀ d s, K (setT T o.dst d) s → K' (setT T o.dst d) s) (h : stepD cl nm o T Q K s) :
    stepD cl nm o T (fun r s' => Q r s' ∧ Kept n r) K' s := by
  unfold stepD at *
  split
  · rename_i hw
    rw [if_pos hw] at h
    refine opD_mono hm (fun r s' hr => ?_) h
    cases r with
    | ret d => exact hk _ _ hr
    | pan d => exact ⟨hr, Or.inr ⟨d, rfl⟩⟩
  · rename_i hw
    rw [if_neg hw] at h
    exact hk _ _ h
theorem drawM_kept {cl : Cl} (hm : MonoQ cl) {base : Nat} {ops : List IOp} {n : Nat} {Q : Ex × List D → St → Prop} : ∀ (k : Nat) (l : List Bool) (T : List D) (s : St), T.length = n → drawM cl base ops k l T s Q → drawM cl base ops k l T s fun r s' => Q r s' ∧ Kept n r
  | 0, l, T, s, hl, h => ⟨h.1, h.2, Or.inl hl⟩
  | k + 1, l, T, s, hl, h => by
    refine ⟨fun e => ⟨h.1 e, Or.inl hl⟩, fun i hi => ?_⟩
    have := h.2 i hi
    split
    · rename_i e
      simp only [e] at this
      exact drawM_kept hm k _ _ _ hl this
    · rename_i o e
      simp only [e] at this
      exact stepD_kept hm (fun d s hh => drawM_kept hm k _ _ s (by rw [setT_len]; exact hl) hh) this

theorem codeF_ok {cl : Cl} (hm : MonoQ cl) : ∀ (c : IC) (T : List D) (s : St) (Q : Ex × Env → St → Prop), okC T.length c = true → codeF cl T.length c (envOf T) s Q → codeM cl c T s fun r s' => Q (r.1, envOf r.2) s' ∧ Kept T.length r
  | .skip, T, s, Q, ho, h => ⟨h, Or.inl rfl⟩
  | .region ops, T, s, Q, ho, h => opsF_ok hm ops T s Q ho h
  | .draw ops, T, s, Q, ho, h => drawM_kept hm _ _ _ _ rfl (h T rfl rfl)
  | .seq a b, T, s, Q, ho, h => by
    simp only [okC, Bool.and_eq_true] at ho
    simp only [codeF] at h
    simp only [codeM]
    refine codeM_mono (fun _ _ _ _ h => h) hm a T s _ _ (fun r s' hr => ?_) (codeF_ok hm a T s _ ho.1 h)
    obtain ⟨e, T'⟩ := r
    obtain ⟨h1, h2⟩ := hr
    cases e with
    | nrm =>
      have hl : T'.length = T.length := by
        rcases h2 with h2 | ⟨d, h2⟩
        · exact h2
        · cases h2
      dsimp only at h1 ⊢
      rw [← hl] at h1
      have := codeF_ok hm b T' s' Q (by rw [hl]; exact ho.2) h1
      rw [hl] at this
      exact this
    | _ => exact ⟨h1, h2⟩
  | .cond c a b, T, s, Q, ho, h => by
    simp only [okC, Bool.and_eq_true] at ho
    simp only [codeF, evF_of] at h
    simp only [codeM]
    split at h
    · rename_i e; rw [e]; exact codeF_ok hm a T s Q ho.1 h
    · rename_i e; rw [e]; exact codeF_ok hm b T s Q ho.2 h
    · exact h.elim
  | .block id b, T, s, Q, ho, h => by
    simp only [codeF] at h
    simp only [codeM]
    refine codeM_mono (fun _ _ _ _ h => h) hm b T s _ _ (fun r s' hr => ?_) (codeF_ok hm b T s _ ho h)
    obtain ⟨e, T'⟩ := r
    obtain ⟨h1, h2⟩ := hr
    cases e with
    | exit i =>
      have hl : T'.length = T.length := by
        rcases h2 with h2 | ⟨d, h2⟩
        · exact h2
        · cases h2
      dsimp only at h1 ⊢
      split
      · rename_i hi; rw [if_pos hi] at h1; exact ⟨h1, Or.inl hl⟩
      · rename_i hi; rw [if_neg hi] at h1; exact ⟨h1, Or.inl hl⟩
    | _ => exact ⟨h1, h2⟩
  | .loop b, T, s, Q, ho, h => by
    intro W hW
    have h0 : ∀ (E : Env) (s : St), (∀ T', T'.length = T.length → envOf T' = E → W T' s) → ∀ T', T'.length = T.length → envOf T' = E → W T' s := fun _ _ h => h
    refine h (fun E s => ∀ T', T'.length = T.length → envOf T' = E → W T' s) (fun E s hb T' hl he => ?_) T rfl rfl
    subst he
    refine hW T' s ?_
    rw [← hl] at hb
    refine codeM_mono (fun _ _ _ _ h => h) hm b T' s _ _ (fun r s' hr => ?_) (codeF_ok hm b T' s _ (by rw [hl]; exact ho) hb)
    obtain ⟨e, T2⟩ := r
    obtain ⟨h1, h2⟩ := hr
    cases e with
    | nrm =>
      have hl2 : T2.length = T'.length := by
        rcases h2 with h2 | ⟨d, h2⟩
        · exact h2
        · cases h2
      exact h1 T2 hl2 rfl
    | _ => rw [hl] at h2; exact ⟨h1, h2⟩
  | .scope b, T, s, Q, ho, h => codeF_ok hm b T s Q ho h
  | .exit id, T, s, Q, ho, h => ⟨h, Or.inl rfl⟩
  | .ret, T, s, Q, ho, h => ⟨h, Or.inl rfl⟩

theorem opsF_mono {cl : Cl} (hm : MonoQ cl) {Q Q' : Ex × Env → St → Prop} (h : ∀ r s, Q r s → Q' r s) : ∀ (ops : List IOp) (E : Env) (s : St), opsF cl ops E s Q → opsF cl ops E s Q'
  | [], E, s, hh => h _ _ hh
  | o :: rest, E, s, hh => by
    simp only [opsF] at *
    split
    · rename_i hw
      rw [if_pos hw] at hh
      refine opM_mono (fun _ _ _ _ h => h) hm (fun r s hr => ?_) hh
      cases r with
      | ret d => exact opsF_mono hm h rest _ _ hr
      | pan d => exact h _ _ hr
    · rename_i hw
      rw [if_neg hw] at hh
      exact opsF_mono hm h rest _ _ hh
theorem loopF_mono {b b' : Env → MF} {Q Q' : Ex × Env → St → Prop} (h : ∀ r s, Q r s → Q' r s) (hb : ∀ E s (Q Q' : Ex × Env → St → Prop), (∀ r s, Q r s → Q' r s) → b E s Q → b' E s Q') {E : Env} {s : St}
    (hh : loopF b E s Q) : loopF b' E s Q' := by
  intro W hW
  refine hh W fun E s h' => hW E s (hb E s _ _ (fun r s hr => ?_) h')
  obtain ⟨e, T'⟩ := r
  cases e with
  | nrm => exact hr
  | _ => exact h _ _ hr
theorem codeF_mono {cl : Cl} (hm : MonoQ cl) {nt : Nat} : ∀ (c : IC) (E : Env) (s : St) (Q Q' : Ex × Env → St → Prop), (∀ r s, Q r s → Q' r s) → codeF cl nt c E s Q → codeF cl nt c E s Q'
  | .skip, E, s, Q, Q', h, hh => h _ _ hh
  | .region ops, E, s, Q, Q', h, hh => opsF_mono hm h ops E s hh
  | .draw ops, E, s, Q, Q', h, hh => fun T h1 h2 => drawM_mono (fun _ _ _ _ h => h) hm (fun r s hr => h _ _ hr) _ _ _ _ (hh T h1 h2)
  | .seq a b, E, s, Q, Q', h, hh => by
    simp only [codeF] at *
    refine codeF_mono hm a E s _ _ (fun r s' hr => ?_) hh
    obtain ⟨e, T'⟩ := r
    cases e with
    | nrm => exact codeF_mono hm b _ _ _ _ h hr
    | _ => exact h _ _ hr
  | .cond c a b, E, s, Q, Q', h, hh => by
    simp only [codeF] at *
    split at hh
    · exact codeF_mono hm a _ _ _ _ h hh
    · exact codeF_mono hm b _ _ _ _ h hh
    · exact hh.elim
  | .block id b, E, s, Q, Q', h, hh => by
    simp only [codeF] at *
    refine codeF_mono hm b E s _ _ (fun r s' hr => ?_) hh
    obtain ⟨e, T'⟩ := r
    cases e with
    | exit i =>
      dsimp only at hr ⊢
      split
      · rename_i hi; rw [if_pos hi] at hr; exact h _ _ hr
      · rename_i hi; rw [if_neg hi] at hr; exact h _ _ hr
    | _ => exact h _ _ hr
  | .loop b, E, s, Q, Q', h, hh => loopF_mono h (fun E s Q Q' => codeF_mono hm b E s Q Q') hh
  | .scope b, E, s, Q, Q', h, hh => codeF_mono hm b E s Q Q' h hh
  | .exit id, E, s, Q, Q', h, hh => h _ _ hh
  | .ret, E, s, Q, Q', h, hh => h _ _ hh

/-- A loop by an invariant with a number that falls. -/
theorem loop_inv {cl : Cl} (hm : MonoQ cl) {nt : Nat} {c : IC} {Q : Ex × Env → St → Prop} (I : Nat → Env → St → Prop)
    (h : ∀ n E s, I n E s → codeF cl nt c E s fun r s' => match r.1 with
      | .nrm => ∃ m, m < n ∧ I m r.2 s'
      | e => Q (e, r.2) s') {n : Nat} {E : Env} {s : St} (hi : I n E s) : codeF cl nt (.loop c) E s Q := by
  have : ∀ n E s, I n E s → ∀ W : Env → St → Prop, (∀ E s, codeF cl nt c E s (fun r s' => match r.1 with
    | .nrm => W r.2 s'
    | e => Q (e, r.2) s') → W E s) → W E s := by
    intro n
    induction n using Nat.strongRecOn with
    | _ n ih =>
      intro E s hI W hW
      refine hW E s (codeF_mono hm c E s _ _ (fun r s' hr => ?_) (h n E s hI))
      obtain ⟨e, E'⟩ := r
      cases e with
      | nrm =>
        obtain ⟨m, h1, h2⟩ := hr
        exact ih m h1 E' s' h2 W hW
      | _ => exact hr
  exact fun W hW => this n E s hi W hW

/-! ### Functions -/
def resOneF (E : Env) (H : Heap) : RV → Option D
  | .tmp t => some (E t)
  | .cell t ag sz => match E t with
    | .ref n o => match lk H n with
      | some (.cells cs _ _) => takeN (cs.drop o) ag sz
      | _ => none
    | .iptr cs => takeN cs ag sz
    | _ => none
def resLF (E : Env) (H : Heap) : List RV → Option (List D)
  | [] => some []
  | r :: rs => match resOneF E H r, resLF E H rs with
    | some d, some ds => some (d :: ds)
    | _, _ => none
def resEnv (E : Env) (H : Heap) (rs : List RV) : Option D := match resLF E H rs with
  | some [d] => some d
  | some ds => some (.tup ds)
  | none => none
theorem resEnv_of (T : List D) (H : Heap) (rs : List RV) : resEnv (envOf T) H rs = resD T H rs := by
  have h1 : ∀ r, resOneF (envOf T) H r = resOne T H r := by
    intro r
    cases r <;> rfl
  have h2 : resLF (envOf T) H rs = resL T H rs := by
    induction rs with
    | nil => rfl
    | cons r rs ih => simp only [resLF, resL, h1, ih]; rfl
  simp only [resEnv, resD, h2]; rfl
theorem pad_len {nt : Nat} {args : List D} (h : args.length ≤ nt) : (pad nt args).length = nt := by
  simp [pad]; omega
theorem envOf_pad (nt : Nat) (args : List D) : envOf (pad nt args) = envOf args := by
  funext i
  simp only [envOf, pad, List.getD_eq_getElem?_getD, List.getElem?_append]
  split
  · rfl
  · rename_i h
    rw [List.getElem?_replicate]
    rw [List.getElem?_eq_none (by omega)]
    split <;> rfl

/-- A function that seals its arguments. -/
theorem fun_seal {ir : FuncId → Option IF} {f : FuncId} {fn : IF} {args args' : List D} {s : St} {H1 : Heap} {Q : Out → St → Prop} (hf : ir f = some fn) (hk : fn.keep = false) (hl : args'.length ≤ fn.nt) (ho : okC fn.nt fn.body = true)
    (hv : viewL fuelV args s.H = some (args', H1))
    (h : codeF (callL ir) fn.nt fn.body (envOf args') { H := H1, nx := s.nx, ro := s.nx } fun r s' => match r.1 with
      | .pan d => match view fuelV d s'.H with
        | some (d, H2) => Q (.pan d) { H := cut s.nx H2, nx := s'.nx, ro := s.ro }
        | none => False
      | .exit _ => False
      | _ => match resEnv r.2 s'.H fn.res with
        | some d => if rigid fuelV d then Q (.ret d) { H := s.H, nx := s'.nx, ro := s.ro } else match view fuelV d s'.H with
          | some (d, H2) => Q (.ret d) { H := cut s.nx H2, nx := s'.nx, ro := s.ro }
          | none => False
        | none => False) : callL ir f args s Q := by
  refine callL_unfold hf ?_
  unfold bodyM
  rw [if_neg (by simp [hk]), hv]
  dsimp only
  have hp := pad_len hl
  rw [← envOf_pad fn.nt args'] at h
  have h2 := codeF_ok (callL_mono ir) fn.body (pad fn.nt args') { H := H1, nx := s.nx, ro := s.nx } _ (by rw [hp]; exact ho) (by rw [hp]; exact h)
  refine codeM_mono (fun _ _ _ _ h => h) (callL_mono ir) _ _ _ _ _ (fun r s' hr => ?_) h2
  obtain ⟨e, T⟩ := r
  have := hr.1
  cases e with
  | pan d => exact this
  | exit i => exact this
  | nrm => dsimp only at this ⊢; rw [resEnv_of] at this; exact this
  | ret => dsimp only at this ⊢; rw [resEnv_of] at this; exact this
/-- A function that takes its arguments as they are. -/
theorem fun_keep {ir : FuncId → Option IF} {f : FuncId} {fn : IF} {args : List D} {s : St} {Q : Out → St → Prop} (hf : ir f = some fn) (hk : fn.keep = true) (hl : args.length ≤ fn.nt) (ho : okC fn.nt fn.body = true)
    (h : codeF (callL ir) fn.nt fn.body (envOf args) s fun r s' => match r.1 with
      | .pan d => Q (.pan d) s'
      | .exit _ => False
      | _ => match resEnv r.2 s'.H fn.res with
        | some d => Q (.ret d) s'
        | none => False) : callL ir f args s Q := by
  refine callL_unfold hf ?_
  unfold bodyM
  rw [if_pos hk]
  have hp := pad_len hl
  rw [← envOf_pad fn.nt args] at h
  have h2 := codeF_ok (callL_mono ir) fn.body (pad fn.nt args) s _ (by rw [hp]; exact ho) (by rw [hp]; exact h)
  refine codeM_mono (fun _ _ _ _ h => h) (callL_mono ir) _ _ _ _ _ (fun r s' hr => ?_) h2
  obtain ⟨e, T⟩ := r
  have := hr.1
  cases e with
  | pan d => exact this
  | exit i => exact this
  | nrm => dsimp only at this ⊢; rw [resEnv_of] at this; exact this
  | ret => dsimp only at this ⊢; rw [resEnv_of] at this; exact this
end Go.Ai
