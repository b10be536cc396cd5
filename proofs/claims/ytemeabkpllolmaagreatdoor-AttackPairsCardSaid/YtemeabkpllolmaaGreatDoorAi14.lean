/-
  A part of an interpreter over abstract data, proved sound once for the model: what it says of the code, the machine does in every order. Conditions: none beyond the statement.
-/
import Derived.Test.YtemeabkpllolmaaGreatDoorAi13
/-! Whole code over abstract data: what it leads to, whatever a region draws. -/
set_option linter.unusedVariables false
set_option linter.unusedSimpArgs false
namespace Go.Ai

abbrev Cl := FuncId → List D → M Out
abbrev MC := M (Ex × List D)

def ins (p : Nat × Obj) : Heap → Heap
  | [] => [p]
  | q :: t => bif Nat.blt p.1 q.1 then q :: ins p t else p :: q :: t
def norm : Heap → Heap
  | [] => []
  | p :: t => ins p t
/-- An operation of a drawn region: what it makes has the name of its place. -/
def opD (cl : Cl) (ρ : Opd → D) (i : I) (nm : Nat) : M Out := fun s Q =>
  if isCall i || readI i then opM cl ρ i s Q
  else match exec ρ i { s with nx := nm } with
    | some (d, s') => Q (.ret d) { s' with H := norm s'.H, nx := s.nx }
    | none => False
def readyD (ops : List IOp) (l : List Bool) : List Nat :=
  (List.range ops.length).filter fun i => !l.getD i true && ((ops[i]?).map fun o => o.af.all fun e => l.getD e false).getD false
def stepD (cl : Cl) (nm : Nat) (o : IOp) (T : List D) (Q : Ex × List D → St → Prop) (K : List D → St → Prop) (s : St) : Prop :=
  if wants T o.guard then opD cl (evO T) o.i nm s fun out s' => match out with
    | .ret d => K (setT T o.dst d) s'
    | .pan d => Q (.pan d, []) s'
  else K (setT T o.dst default) s
def drawM (cl : Cl) (base : Nat) (ops : List IOp) : Nat → List Bool → List D → MC
  | 0, l, T => fun s Q => readyD ops l = [] ∧ Q (.nrm, T) s
  | k + 1, l, T => fun s Q => (readyD ops l = [] → Q (.nrm, T) s) ∧ ∀ i ∈ readyD ops l, match ops[i]? with
    | none => drawM cl base ops k (l.set i true) T s Q
    | some o => stepD cl (base + i) o T Q (fun T s => drawM cl base ops k (l.set i true) T s Q) s

def loopM (b : List D → MC) (T : List D) : MC := fun s Q =>
  ∀ W : List D → St → Prop, (∀ T s, b T s (fun r s' => match r.1 with
    | .nrm => W r.2 s'
    | e => Q (e, r.2) s') → W T s) → W T s

def codeM (cl : Cl) : IC → List D → MC
  | .skip, T => fun s Q => Q (.nrm, T) s
  | .region ops, T => opsM cl ops T
  | .draw ops, T => fun s Q => drawM cl s.nx ops ops.length (List.replicate ops.length false) T { s with nx := s.nx + ops.length } Q
  | .seq a b, T => fun s Q => codeM cl a T s fun r s' => match r.1 with
    | .nrm => codeM cl b r.2 s' Q
    | e => Q (e, r.2) s'
  | .cond c a b, T => fun s Q => match evO T c with
    | .raw (.bool true) => codeM cl a T s Q
    | .raw (.bool false) => codeM cl b T s Q
    | _ => False
  | .block id b, T => fun s Q => codeM cl b T s fun r s' => match r.1 with
    | .exit i => if i = id then Q (.nrm, r.2) s' else Q (.exit i, r.2) s'
    | e => Q (e, r.2) s'
  | .loop b, T => loopM (codeM cl b) T
  | .scope b, T => codeM cl b T
  | .exit id, T => fun s Q => Q (.exit id, T) s
  | .ret, T => fun s Q => Q (.ret, T) s

def cut (n : Nat) (H : Heap) : Heap := H.filter fun p => Nat.blt p.1 n
def fuelV : Nat := 1000000
def pad (nt : Nat) (args : List D) : List D := args ++ List.replicate (nt - args.length) default
def bodyM (cl : Cl) (fn : IF) (args : List D) : M Out := fun s Q =>
  if fn.keep then
    codeM cl fn.body (pad fn.nt args) s fun r s' => match r.1 with
      | .pan d => Q (.pan d) s'
      | .exit _ => False
      | _ => match resD r.2 s'.H fn.res with
        | some d => Q (.ret d) s'
        | none => False
  else match viewL fuelV args s.H with
    | none => False
    | some (args, H1) => codeM cl fn.body (pad fn.nt args) { H := H1, nx := s.nx, ro := s.nx } fun r s' => match r.1 with
      | .pan d => match view fuelV d s'.H with
        | some (d, H2) => Q (.pan d) { H := cut s.nx H2, nx := s'.nx, ro := s.ro }
        | none => False
      | .exit _ => False
      | _ => match resD r.2 s'.H fn.res with
        | some d => if rigid fuelV d then Q (.ret d) { H := s.H, nx := s'.nx, ro := s.ro } else match view fuelV d s'.H with
          | some (d, H2) => Q (.ret d) { H := cut s.nx H2, nx := s'.nx, ro := s.ro }
          | none => False
        | none => False

def MonoQ (cl : Cl) : Prop := ∀ f args s (Q Q' : Out → St → Prop), (∀ r s, Q r s → Q' r s) → cl f args s Q → cl f args s Q'
def LeCl (c c' : Cl) : Prop := ∀ f args s Q, c f args s Q → c' f args s Q

theorem opM_mono {cl cl' : Cl} (hl : LeCl cl cl') (hm : MonoQ cl') {ρ : Opd → D} {i : I} {s : St} {Q Q' : Out → St → Prop} (h : ∀ r s, Q r s → Q' r s) (hh : opM cl ρ i s Q) : opM cl' ρ i s Q' := by
  unfold opM at *
  split at hh
  · exact hm _ _ _ _ _ h (hl _ _ _ _ hh)
  · split at hh
    · exact hm _ _ _ _ _ h (hl _ _ _ _ hh)
    · exact hh.elim
  · split at hh
    · exact h _ _ hh
    · exact hh.elim
  · split at hh
    · exact h _ _ hh
    · exact hh.elim

theorem opsM_mono {cl cl' : Cl} (hl : LeCl cl cl') (hm : MonoQ cl') {Q Q' : Ex × List D → St → Prop} (h : ∀ r s, Q r s → Q' r s) : ∀ (ops : List IOp) (T : List D) (s : St), opsM cl ops T s Q → opsM cl' ops T s Q'
  | [], T, s, hh => h _ _ hh
  | o :: rest, T, s, hh => by
    simp only [opsM] at *
    split
    · rename_i hw
      rw [if_pos hw] at hh
      refine opM_mono hl hm (fun r s hr => ?_) hh
      cases r with
      | ret d => exact opsM_mono hl hm h rest _ _ hr
      | pan d => exact h _ _ hr
    · rename_i hw
      rw [if_neg hw] at hh
      exact opsM_mono hl hm h rest _ _ hh

theorem stepD_mono {cl cl' : Cl} (hl : LeCl cl cl') (hm : MonoQ cl') {nm : Nat} {o : IOp} {T : List D} {Q Q' : Ex × List D → St → Prop} (h : ∀ r s, Q r s → Q' r s) {K K' : List D → St → Prop} (hk : ∀ T s, K T s → K' T s) {s : St}
    (hh : stepD cl nm o T Q K s) : stepD cl' nm o T Q' K' s := by
  unfold stepD at *
  split
  · rename_i hw
    rw [if_pos hw] at hh
    have hq : ∀ (r : Out) (s' : St), (match r with | .ret d => K (setT T o.dst d) s' | .pan d => Q (.pan d, []) s') → (match r with | .ret d => K' (setT T o.dst d) s' | .pan d => Q' (.pan d, []) s') := by
      intro r s' hr
      cases r with
      | ret d => exact hk _ _ hr
      | pan d => exact h _ _ hr
    unfold opD at *
    split
    · rename_i hc
      rw [if_pos hc] at hh
      exact opM_mono hl hm hq hh
    · rename_i hc
      rw [if_neg hc] at hh
      split at hh
      · exact hk _ _ hh
      · exact hh.elim
  · rename_i hw
    rw [if_neg hw] at hh
    exact hk _ _ hh

theorem drawM_mono {cl cl' : Cl} (hl : LeCl cl cl') (hm : MonoQ cl') {base : Nat} {ops : List IOp} {Q Q' : Ex × List D → St → Prop} (h : ∀ r s, Q r s → Q' r s) : ∀ (k : Nat) (l : List Bool) (T : List D) (s : St), drawM cl base ops k l T s Q → drawM cl' base ops k l T s Q'
  | 0, l, T, s, hh => ⟨hh.1, h _ _ hh.2⟩
  | k + 1, l, T, s, hh => by
    refine ⟨fun e => h _ _ (hh.1 e), fun i hi => ?_⟩
    have := hh.2 i hi
    split
    · rename_i e
      simp only [e] at this
      exact drawM_mono hl hm h k _ _ _ this
    · rename_i o e
      simp only [e] at this
      exact stepD_mono hl hm h (fun T s => drawM_mono hl hm h k _ T s) this

theorem loopM_mono {b b' : List D → MC} {Q Q' : Ex × List D → St → Prop} (h : ∀ r s, Q r s → Q' r s) (hb : ∀ T s (Q Q' : Ex × List D → St → Prop), (∀ r s, Q r s → Q' r s) → b T s Q → b' T s Q') {T : List D} {s : St}
    (hh : loopM b T s Q) : loopM b' T s Q' := by
  intro W hW
  refine hh W fun T s h' => hW T s (hb T s _ _ (fun r s hr => ?_) h')
  obtain ⟨e, T'⟩ := r
  cases e with
  | nrm => exact hr
  | _ => exact h _ _ hr

theorem codeM_mono {cl cl' : Cl} (hl : LeCl cl cl') (hm : MonoQ cl') : ∀ (c : IC) (T : List D) (s : St) (Q Q' : Ex × List D → St → Prop), (∀ r s, Q r s → Q' r s) → codeM cl c T s Q → codeM cl' c T s Q'
  | .skip, T, s, Q, Q', h, hh => h _ _ hh
  | .region ops, T, s, Q, Q', h, hh => opsM_mono hl hm h ops T s hh
  | .draw ops, T, s, Q, Q', h, hh => drawM_mono hl hm h _ _ _ _ hh
  | .seq a b, T, s, Q, Q', h, hh => by
    simp only [codeM] at *
    refine codeM_mono hl hm a T s _ _ (fun r s' hr => ?_) hh
    obtain ⟨e, T'⟩ := r
    cases e with
    | nrm => exact codeM_mono hl hm b _ _ _ _ h hr
    | _ => exact h _ _ hr
  | .cond c a b, T, s, Q, Q', h, hh => by
    simp only [codeM] at *
    split at hh
    · exact codeM_mono hl hm a _ _ _ _ h hh
    · exact codeM_mono hl hm b _ _ _ _ h hh
    · exact hh.elim
  | .block id b, T, s, Q, Q', h, hh => by
    simp only [codeM] at *
    refine codeM_mono hl hm b T s _ _ (fun r s' hr => ?_) hh
    obtain ⟨e, T'⟩ := r
    cases e with
    | exit i =>
      dsimp only at hr ⊢
      split
      · rename_i hi; rw [if_pos hi] at hr; exact h _ _ hr
      · rename_i hi; rw [if_neg hi] at hr; exact h _ _ hr
    | _ => exact h _ _ hr
  | .loop b, T, s, Q, Q', h, hh => loopM_mono h (fun T s Q Q' => codeM_mono hl hm b T s Q Q') hh
  | .scope b, T, s, Q, Q', h, hh => codeM_mono hl hm b T s Q Q' h hh
  | .exit id, T, s, Q, Q', h, hh => h _ _ hh
  | .ret, T, s, Q, Q', h, hh => h _ _ hh

theorem bodyM_mono {cl cl' : Cl} (hl : LeCl cl cl') (hm : MonoQ cl') {fn : IF} {args : List D} {s : St} {Q Q' : Out → St → Prop} (h : ∀ r s, Q r s → Q' r s) (hh : bodyM cl fn args s Q) : bodyM cl' fn args s Q' := by
  have res1 : ∀ (o : Option D) (s' : St), (match o with | some d => Q (.ret d) s' | none => False) → (match o with | some d => Q' (.ret d) s' | none => False) := by
    intro o s' hr
    cases o with
    | none => exact hr
    | some d => exact h _ _ hr
  have res2 : ∀ (o : Option (D × Heap)) (F : D → Out) (G : Heap → St), (match o with | some (d, H2) => Q (F d) (G H2) | none => False) → (match o with | some (d, H2) => Q' (F d) (G H2) | none => False) := by
    intro o F G hr
    cases o with
    | none => exact hr
    | some d => exact h _ _ hr
  have res3 : ∀ (o : Option D) (s' s3 : St), (match o with
      | some d => if rigid fuelV d then Q (.ret d) s3 else match view fuelV d s'.H with
        | some (d, H2) => Q (.ret d) { H := cut s.nx H2, nx := s'.nx, ro := s.ro }
        | none => False
      | none => False) → (match o with
      | some d => if rigid fuelV d then Q' (.ret d) s3 else match view fuelV d s'.H with
        | some (d, H2) => Q' (.ret d) { H := cut s.nx H2, nx := s'.nx, ro := s.ro }
        | none => False
      | none => False) := by
    intro o s' s3 hr
    cases o with
    | none => exact hr
    | some d =>
      dsimp only at hr ⊢
      split
      · rename_i hc; rw [if_pos hc] at hr; exact h _ _ hr
      · rename_i hc; rw [if_neg hc] at hr; exact res2 _ _ _ hr
  unfold bodyM at *
  split
  · rename_i hk
    rw [if_pos hk] at hh
    refine codeM_mono hl hm _ _ _ _ _ (fun r s' hr => ?_) hh
    obtain ⟨e, T'⟩ := r
    cases e with
    | pan d => exact h _ _ hr
    | exit _ => exact hr
    | _ => exact res1 _ _ hr
  · rename_i hk
    rw [if_neg hk] at hh
    cases hv : viewL fuelV args s.H with
    | none => rw [hv] at hh; exact hh
    | some p =>
      rw [hv] at hh
      refine codeM_mono hl hm _ _ _ _ _ (fun r s' hr => ?_) hh
      obtain ⟨e, T'⟩ := r
      cases e with
      | pan d => exact res2 _ _ _ hr
      | exit _ => exact hr
      | _ => exact res3 _ _ _ hr

/-- The least meaning of calls. -/
def callL (ir : FuncId → Option IF) : Cl := fun f args s Q =>
  ∀ W : Cl, MonoQ W → (∀ f fn args s Q, ir f = some fn → bodyM W fn args s Q → W f args s Q) → W f args s Q
theorem callL_mono (ir : FuncId → Option IF) : MonoQ (callL ir) := fun f args s Q Q' h hh W hm hW => hm _ _ _ _ _ h (hh W hm hW)
theorem callL_le {ir : FuncId → Option IF} {W : Cl} (hm : MonoQ W) (hW : ∀ f fn args s Q, ir f = some fn → bodyM W fn args s Q → W f args s Q) : LeCl (callL ir) W := fun f args s Q hh => hh W hm hW
theorem callL_unfold {ir : FuncId → Option IF} {f : FuncId} {fn : IF} {args : List D} {s : St} {Q : Out → St → Prop} (hf : ir f = some fn) (h : bodyM (callL ir) fn args s Q) : callL ir f args s Q :=
  fun W hm hW => hW f fn args s Q hf (bodyM_mono (callL_le hm hW) hm (fun _ _ h => h) h)
end Go.Ai
