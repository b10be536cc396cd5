/-
  A part of an interpreter over abstract data, proved sound once for the model: what it says of the code, the machine does in every order. Conditions: none beyond the statement.
-/
import Derived.Test.YtemeabkpllolmaaGreatDoorInt4
/-! Whole code over abstract data: what it leads to, whatever a region draws. -/
set_option linter.unusedVariables false
set_option linter.unusedSimpArgs false
namespace Go.Ai

abbrev Cl := FuncId → List D → M Out
abbrev MC := M (Ex × List D)

def ins (p : Nat × Obj) : Heap → Heap
  | [] => [p]
  | q :: t => bif Nat.blt p.1 q.1 then q :: ins p t else p :: q :: t
def norm : Heap → Heap
  | [] => []
  | p :: t => ins p t
/-- An operation of a drawn region: what it makes has the name of its place. -/
def opD (cl : Cl) (ρ : Opd → D) (i : I) (nm : Nat) : M Out := fun s Q =>
  if isCall i || readI i then opM cl ρ i s Q
  else match exec ρ i { s with nx := nm } with
    | some (d, s') => Q (.ret d) { s' with H := norm s'.H, nx := s.nx }
    | none => False
def readyD (ops : List IOp) (l : List Bool) : List Nat :=
  (List.range ops.length).filter fun i => !l.getD i true && ((ops[i]?).map fun o => o.af.all fun e => l.getD e false).getD false
def stepD (cl : Cl) (nm : Nat) (o : IOp) (T : List D) (Q : Ex × List D → St → Prop) (K : List D → St → Prop) (s : St) : Prop :=
  if wants T o.guard then opD cl (evO T) o.i nm s fun out s' => match out with
    | .ret d => K (setT T o.dst d) s'
    | .pan d => Q (.pan d, []) s'
  else K (setT T o.dst default) s
def drawM (cl : Cl) (base : Nat) (ops : List IOp) : Nat → List Bool → List D → MC
  | 0, l, T => fun s Q => readyD ops l = [] ∧ Q (.nrm, T) s
  | k + 1, l, T => fun s Q => (readyD ops l = [] → Q (.nrm, T) s) ∧ ∀ i ∈ readyD ops l, match ops[i]? with
    | none => drawM cl base ops k (l.set i true) T s Q
    | some o => stepD cl (base + i) o T Q (fun T s => drawM cl base ops k (l.set i true) T s Q) s

def loopM (b : List D → MC) (T : List D) : MC := fun s Q =>
  ∀ W : List D → St → Prop, (∀ T s, b T s (fun r s' => match r.1 with
    | .nrm => W r.2 s'
    | e => Q (e, r.2) s') → W T s) → W T s

def codeM (cl : Cl) : IC → List D → MC
  | .skip, T => fun s Q => Q (.nrm, T) s
  | .region ops, T => opsM cl ops T
  | .draw ops, T => fun s Q => drawM cl s.nx ops ops.length (List.replicate ops.length false) T { s with nx := s.nx + ops.length } Q
  | .seq a b, T => fun s Q => codeM cl a T s fun r s' => match r.1 with
    | .nrm => codeM cl b r.2 s' Q
    | e => Q (e, r.2) s'
  | .cond c a b, T => fun s Q => match evO T c with
    | .raw (.bool true) => codeM cl a T s Q
    | .raw (.bool false) => codeM cl b T s Q
    | _ => False
  | .block id b, T => fun s Q => codeM cl b T s fun r s' => match r.1 with
    | .exit i => if i = id then Q (.nrm, r.2) s' else Q (.exit i, r.2) s'
    | e => Q (e, r.2) s'
  | .loop b, T => loopM (codeM cl b) T
  | .scope b, T => codeM cl b T
  | .exit id, T => fun s Q => Q (.exit id, T) s
  | .ret, T => fun s Q => Q (.ret, T) s

def cut (n : Nat) (H : Heap) : Heap := H.filter fun p => Nat.blt p.1 n
def fuelV : Nat := 1000000
def pad (nt : Nat) (args : List D) : List D := args ++ List.replicate (nt - args.length) default
def bodyM (cl : Cl) (fn : IF) (args : List D) : M Out := fun s Q =>
  if fn.keep then
    codeM cl fn.body (pad fn.nt args) s fun r s' => match r.1 with
      | .pan d => Q (.pan d) s'
      | .exit _ => False
      | _ => match resD r.2 s'.H fn.res with
        | some d => Q (.ret d) s'
        | none => False
  else match viewL fuelV args s.H with
    | none => False
    | some (args, H1) => codeM cl fn.body (pad fn.nt args) { H := H1, nx := s.nx, ro := s.nx } fun r s' => match r.1 with
      | .pan d => match view fuelV d s'.H with
        | some (d, H2) => Q (.pan d) { H := cut s.nx H2, nx := s'.nx, ro := s.ro }
        | none => False
      | .exit _ => False
      | _ => match resD r.2 s'.H fn.res with
        | some d => if rigid fuelV d then Q (.ret d) { H := s.H, nx := s'.nx, ro := s.ro } else match view fuelV d s'.H with
          | some (d, H2) => Q (.ret d) { H := cut s.nx H2, nx := s'.nx, ro := s.ro }
          | none => False
        | none => False

def MonoQ (cl : Cl) : Prop := ∀ f args s (Q Q' : Out → St → Prop), (∀ r s, Q r s → Q' r s) → cl f args s Q → cl f args s Q'
def LeCl (c c' : Cl) : Prop := ∀ f args s Q, c f args s Q → c' f args s Q

theorem opM_mono {cl cl' : Cl} (hl : LeCl cl cl') (hm : MonoQ cl') {ρ : Opd → D} {i : I} {s : St} {Q Q' : Out → St → Prop} (h : ∀ r s, Q r s → Q' r s) (hh : opM cl ρ i s Q) : opM cl' ρ i s Q' := by
  unfold opM at *
  split at hh
  · exact hm _ _ _ _ _ h (hl _ _ _ _ hh)
  · split at hh
    · exact hm _ _ _ _ _ h (hl _ _ _ _ hh)
    · exact hh.elim
  · split at hh
    · exact h _ _ hh
    · exact hh.elim
  · split at hh
    · split at hh
      · exact ⟨hh.1, fun hd => h _ _ (hh.2.1 hd), fun i h1 h2 => h _ _ (hh.2.2 i h1 h2)⟩
      · exact hh.elim
    · exact hh.elim
  · split at hh
    · exact h _ _ hh
    · exact hh.elim

theorem opsM_mono {cl cl' : Cl} (hl : LeCl cl cl') (hm : MonoQ cl') {Q Q' : Ex × List D → St → Prop} (h : ∀ r s, Q r s → Q' r s) : ∀ (ops : List IOp) (T : List D) (s : St), opsM cl ops T s Q → opsM cl' ops T s Q'
  | [], T, s, hh => h _ _ hh
  | o :: rest, T, s, hh => by
    simp only [opsM] at *
    split
    · rename_i hw
      rw [if_pos hw] at hh
      refine opM_mono hl hm (fun r s hr => ?_) hh
      cases r with
      | ret d => exact opsM_mono hl hm h rest _ _ hr
      | pan d => exact h _ _ hr
    · rename_i hw
      rw [if_neg hw] at hh
      exact opsM_mono hl hm h rest _ _ hh

theorem stepD_mono {cl cl' : Cl} (hl : LeCl cl cl') (hm : MonoQ cl') {nm : Nat} {o : IOp} {T : List D} {Q Q' : Ex × List D → St → Prop} (h : ∀ r s, Q r s → Q' r s) {K K' : List D → St → Prop} (hk : ∀ T s, K T s → K' T s) {s : St}
    (hh : stepD cl nm o T Q K s) : stepD cl' nm o T Q' K' s := by
  unfold stepD at *
  split
  · rename_i hw
    rw [if_pos hw] at hh
    have hq : ∀ (r : Out) (s' : St), (match r with | .ret d => K (setT T o.dst d) s' | .pan d => Q (.pan d, []) s') → (match r with | .ret d => K' (setT T o.dst d) s' | .pan d => Q' (.pan d, []) s') := by
      intro r s' hr
      cases r with
      | ret d => exact hk _ _ hr
      | pan d => exact h _ _ hr
    unfold opD at *
    split
    · rename_i hc
      rw [if_pos hc] at hh
      exact opM_mono hl hm hq hh
    · rename_i hc
      rw [if_neg hc] at hh
      split at hh
      · exact hk _ _ hh
      · exact hh.elim
  · rename_i hw
    rw [if_neg hw] at hh
    exact hk _ _ hh

theorem drawM_mono {cl cl' : Cl} (hl : LeCl cl cl') (hm : MonoQ cl') {base : Nat} {ops : List IOp} {Q Q' : Ex × List D → St → Prop} (h : ∀ r s, Q r s → Q' r s) : ∀ (k : Nat) (l : List Bool) (T : List D) (s : St), drawM cl base ops k l T s Q → drawM cl' base ops k l T s Q'
  | 0, l, T, s, hh => ⟨hh.1, h _ _ hh.2⟩
  | k + 1, l, T, s, hh => by
    refine ⟨fun e => h _ _ (hh.1 e), fun i hi => ?_⟩
    have := hh.2 i hi
    split
    · rename_i e
      simp only [e] at this
      exact drawM_mono hl hm h k _ _ _ this
    · rename_i o e
      simp only [e] at this
      exact stepD_mono hl hm h (fun T s => drawM_mono hl hm h k _ T s) this

theorem loopM_mono {b b' : List D → MC} {Q Q' : Ex × List D → St → Prop} (h : ∀ r s, Q r s → Q' r s) (hb : ∀ T s (Q Q' : Ex × List D → St → Prop), (∀ r s, Q r s → Q' r s) → b T s Q → b' T s Q') {T : List D} {s : St}
    (hh : loopM b T s Q) : loopM b' T s Q' := by
  intro W hW
  refine hh W fun T s h' => hW T s (hb T s _ _ (fun r s hr => ?_) h')
  obtain ⟨e, T'⟩ := r
  cases e with
  | nrm => exact hr
  | _ => exact h _ _ hr

theorem codeM_mono {cl cl' : Cl} (hl : LeCl cl cl') (hm : MonoQ cl') : ∀ (c : IC) (T : List D) (s : St) (Q Q' : Ex × List D → St → Prop), (∀ r s, Q r s → Q' r s) → codeM cl c T s Q → codeM cl' c T s Q'
  | .skip, T, s, Q, Q', h, hh => h _ _ hh
  | .region ops, T, s, Q, Q', h, hh => opsM_mono hl hm h ops T s hh
  | .draw ops, T, s, Q, Q', h, hh => drawM_mono hl hm h _ _ _ _ hh
  | .seq a b, T, s, Q, Q', h, hh => by
    simp only [codeM] at *
    refine codeM_mono hl hm a T s _ _ (fun r s' hr => ?_) hh
    obtain ⟨e, T'⟩ := r
    cases e with
    | nrm => exact codeM_mono hl hm b _ _ _ _ h hr
    | _ => exact h _ _ hr
  | .cond c a b, T, s, Q, Q', h, hh => by
    simp only [codeM] at *
    split at hh
    · exact codeM_mono hl hm a _ _ _ _ h hh
    · exact codeM_mono hl hm b _ _ _ _ h hh
    · exact hh.elim
  | .block id b, T, s, Q, Q', h, hh => by
    simp only [codeM] at *
    refine codeM_mono hl hm b T s _ _ (fun r s' hr => ?_) hh
    obtain ⟨e, T'⟩ := r
    cases e with
    | exit i =>
      dsimp only at hr ⊢
      split
      · rename_i hi; rw [if_pos hi] at hr; exact h _ _ hr
      · rename_i hi; rw [if_neg hi] at hr; exact h _ _ hr
    | _ => exact h _ _ hr
  | .loop b, T, s, Q, Q', h, hh => loopM_mono h (fun T s Q Q' => codeM_mono hl hm b T s Q Q') hh
  | .scope b, T, s, Q, Q', h, hh => codeM_mono hl hm b T s Q Q' h hh
  | .exit id, T, s, Q, Q', h, hh => h _ _ hh
  | .ret, T, s, Q, Q', h, hh => h _ _ hh

theorem bodyM_mono {cl cl' : Cl} (hl : LeCl cl cl') (hm : MonoQ cl') {fn : IF} {args : List D} {s : St} {Q Q' : Out → St → Prop} (h : ∀ r s, Q r s → Q' r s) (hh : bodyM cl fn args s Q) : bodyM cl' fn args s Q' := by
  have res1 : ∀ (o : Option D) (s' : St), (match o with | some d => Q (.ret d) s' | none => False) → (match o with | some d => Q' (.ret d) s' | none => False) := by
    intro o s' hr
    cases o with
    | none => exact hr
    | some d => exact h _ _ hr
  have res2 : ∀ (o : Option (D × Heap)) (F : D → Out) (G : Heap → St), (match o with | some (d, H2) => Q (F d) (G H2) | none => False) → (match o with | some (d, H2) => Q' (F d) (G H2) | none => False) := by
    intro o F G hr
    cases o with
    | none => exact hr
    | some d => exact h _ _ hr
  have res3 : ∀ (o : Option D) (s' s3 : St), (match o with
      | some d => if rigid fuelV d then Q (.ret d) s3 else match view fuelV d s'.H with
        | some (d, H2) => Q (.ret d) { H := cut s.nx H2, nx := s'.nx, ro := s.ro }
        | none => False
      | none => False) → (match o with
      | some d => if rigid fuelV d then Q' (.ret d) s3 else match view fuelV d s'.H with
        | some (d, H2) => Q' (.ret d) { H := cut s.nx H2, nx := s'.nx, ro := s.ro }
        | none => False
      | none => False) := by
    intro o s' s3 hr
    cases o with
    | none => exact hr
    | some d =>
      dsimp only at hr ⊢
      split
      · rename_i hc; rw [if_pos hc] at hr; exact h _ _ hr
      · rename_i hc; rw [if_neg hc] at hr; exact res2 _ _ _ hr
  unfold bodyM at *
  split
  · rename_i hk
    rw [if_pos hk] at hh
    refine codeM_mono hl hm _ _ _ _ _ (fun r s' hr => ?_) hh
    obtain ⟨e, T'⟩ := r
    cases e with
    | pan d => exact h _ _ hr
    | exit _ => exact hr
    | _ => exact res1 _ _ hr
  · rename_i hk
    rw [if_neg hk] at hh
    cases hv : viewL fuelV args s.H with
    | none => rw [hv] at hh; exact hh
    | some p =>
      rw [hv] at hh
      refine codeM_mono hl hm _ _ _ _ _ (fun r s' hr => ?_) hh
      obtain ⟨e, T'⟩ := r
      cases e with
      | pan d => exact res2 _ _ _ hr
      | exit _ => exact hr
      | _ => exact res3 _ _ _ hr

/-- The least meaning of calls. -/
def callL (ir : FuncId → Option IF) : Cl := fun f args s Q =>
  ∀ W : Cl, MonoQ W → (∀ f fn args s Q, ir f = some fn → bodyM W fn args s Q → W f args s Q) → W f args s Q
theorem callL_mono (ir : FuncId → Option IF) : MonoQ (callL ir) := fun f args s Q Q' h hh W hm hW => hm _ _ _ _ _ h (hh W hm hW)
theorem callL_le {ir : FuncId → Option IF} {W : Cl} (hm : MonoQ W) (hW : ∀ f fn args s Q, ir f = some fn → bodyM W fn args s Q → W f args s Q) : LeCl (callL ir) W := fun f args s Q hh => hh W hm hW
theorem callL_unfold {ir : FuncId → Option IF} {f : FuncId} {fn : IF} {args : List D} {s : St} {Q : Out → St → Prop} (hf : ir f = some fn) (h : bodyM (callL ir) fn args s Q) : callL ir f args s Q :=
  fun W hm hW => hW f fn args s Q hf (bodyM_mono (callL_le hm hW) hm (fun _ _ h => h) h)
end Go.Ai
/-! What the abstract meaning says of the machine: single operations, plain regions. -/
set_option linter.unusedVariables false
set_option linter.unusedSimpArgs false
namespace Go.Ai

def Dom (ι : Imap) (n : Nat) : Prop := ∀ m b, ι m = some b → m < n

/-- A call, as the machine does it. -/
def simC (P : Program) : Cl := fun f args s Q =>
  (∃ fn c, P.funcs[f]? = some fn ∧ fn.body = some c ∧ (fn.name == "runtime.NumGoroutine") = false) ∧
  ∀ w ι vs, TV w (Xof s.H ι) ι args vs → R w s.H ι → Dom ι s.nx → Calls P f vs w fun e w' => ∃ s' ι', Good w w' s s' ι ι' ∧ match e with
    | .returned v => ∃ d, Q (.ret d) s' ∧ V w' (Xof s'.H ι') ι' d v
    | .panicked ch => ∃ d v, ch = [{ v, recovered := false }] ∧ Q (.pan d) s' ∧ V w' (Xof s'.H ι') ι' d v
    | .outgrown => False
theorem simC_mono (P : Program) : MonoQ (simC P) := by
  intro f args s Q Q' h ⟨hf, hh⟩
  refine ⟨hf, fun w ι vs hv hR hd => (hh w ι vs hv hR hd).mono fun e w' => ?_⟩
  rintro ⟨s', ι', hg, he⟩
  refine ⟨s', ι', hg, ?_⟩
  cases e with
  | returned v => obtain ⟨d, h1, h2⟩ := he; exact ⟨d, h _ _ h1, h2⟩
  | panicked ch => obtain ⟨d, v, h1, h2, h3⟩ := he; exact ⟨d, v, h1, h _ _ h2, h3⟩
  | outgrown => exact he

theorem run_enter {P : Program} {f : FuncId} {fn : Func} {c : Code} (hf : P.funcs[f]? = some fn) (hname : (fn.name == "runtime.NumGoroutine") = false) (hb : fn.body = some c) (args : Array Value) (w : World) :
    (callFunc f args).run P w = .ok (.enter f args) w := by
  have h1 : fn.name ≠ "runtime.NumGoroutine" := by simpa using hname
  simp [callFunc, hf, h1, hb]

section
variable {P : Program} {w : World} {s : St} {ι : Imap} {T : List D} {a : Act} {o : Oper} {i : I} {K : Out → St → Prop} {next : Act → World → Prop} {Qp : Exit → Act → World → Prop}

theorem TV.map (hT : TV w (Xof s.H ι) ι T a.tmps) {xs : Array Operand} {ys : List Opd} (h : opds xs.toList = some ys) : TV w (Xof s.H ι) ι (ys.map (evO T)) (xs.map a.eval) := by
  obtain ⟨h1, h2⟩ := opds_ok h hT
  have e : (xs.toList.map a.eval).toArray = xs.map a.eval := by
    apply Array.ext'
    simp
  rw [e] at h2
  exact ⟨by simpa using h1, h2⟩

theorem TV.append {X : Nat → Nat → Prop} {S T : List D} {a b : Array Value} (h : TV w X ι S a) (k : TV w X ι T b) : TV w X ι (S ++ T) (a ++ b) := by
  refine ⟨by rw [Array.size_append, List.length_append, h.size, k.size], fun i hi => ?_⟩
  rw [List.length_append] at hi
  have hs := h.size
  have ks := k.size
  by_cases hl : i < S.length
  · have e1 : (S ++ T).getD i default = S.getD i default := by simp [List.getD_eq_getElem?_getD, List.getElem?_append, hl]
    have e2 : (a ++ b).getD i undef = a.getD i undef := by
      have : i < a.size := by omega
      simp [Array.getD_eq_getD_getElem?, Array.getElem?_append, this]
    rw [e1, e2]; exact h.v i hl
  · have e1 : (S ++ T).getD i default = T.getD (i - S.length) default := by
      simp [List.getD_eq_getElem?_getD, List.getElem?_append, hl]
    have e2 : (a ++ b).getD i undef = b.getD (i - S.length) undef := by
      simp [Array.getD_eq_getD_getElem?, Array.getElem?_append, hl, hs]
    rw [e1, e2]; exact k.v _ (by omega)

/-- What is behind an operation of the machine. -/
structure OpPost (P : Program) (w : World) (s : St) (ι : Imap) (a : Act) (o : Oper) (K : Out → St → Prop) (next : Act → World → Prop) (Qp : Exit → Act → World → Prop) : Prop where
  ret : ∀ d v w' s' ι', K (.ret d) s' → Good w w' s s' ι ι' → V w' (Xof s'.H ι') ι' d v → next (a.put o.dst v) w'
  pan : ∀ d v w' s' ι', K (.pan d) s' → Good w w' s s' ι ι' → V w' (Xof s'.H ι') ι' d v → Qp (.panic [{ v, recovered := false }]) a w'

theorem call_sim (hp : OpPost P w s ι a o K next Qp) (hR : R w s.H ι) (hd : Dom ι s.nx) {f : FuncId} {args : List D} {vs : Array Value} (hv : TV w (Xof s.H ι) ι args vs) (h : simC P f args s K)
    (hrun : ∀ fn c, P.funcs[f]? = some fn → fn.body = some c → (fn.name == "runtime.NumGoroutine") = false → (execOp a.eval o).run P w = .ok (.enter f vs) w) : o.wp P a w next Qp := by
  obtain ⟨⟨fn, c, h1, h2, h3⟩, hh⟩ := h
  unfold Oper.wp
  rw [hrun fn c h1 h2 h3, Oper.upon_enter]
  refine (hh w ι vs hv hR hd).mono fun e w' => ?_
  rintro ⟨s', ι', hg, he⟩
  cases e with
  | returned v => obtain ⟨d, g1, g2⟩ := he; exact hp.ret d v w' s' ι' g1 hg g2
  | panicked ch => obtain ⟨d, v, rfl, g2, g3⟩ := he; exact hp.pan d v w' s' ι' g2 hg g3
  | outgrown => exact he.elim

theorem compCall_ok {c : Call} {f : Operand} (hT : TV w (Xof s.H ι) ι T a.tmps) (hR : R w s.H ι) (hd : Dom ι s.nx) (hp : OpPost P w s ι a o K next Qp) (ho : o.op = .call c) (hc : c.callee = .value f)
    (hi : compCall P f c.args.toList = some i) (h : opM (simC P) (evO T) i s K) : o.wp P a w next Qp := by
  unfold compCall at hi
  split at hi
  · rename_i k
    split at hi
    case h_2 => cases hi
    rename_i fn hf
    split at hi
    case isFalse => cases hi
    simp only [Option.map_eq_some_iff] at hi
    obtain ⟨ys, hys, rfl⟩ := hi
    refine call_sim hp hR hd (hT.map hys) h fun fn c' h1 h2 h3 => ?_
    simp only [execOp, ho, resolve, hc, Act.eval, Deferred.ofValue, Sem.run_bind, Sem.run_pure, Result.andThen_ok, invoke]
    simpa using run_enter h1 h3 h2 (c.args.map a.eval) w
  · rename_i t
    simp only [Option.map_eq_some_iff] at hi
    obtain ⟨ys, hys, rfl⟩ := hi
    simp only [opM] at h
    split at h
    case h_2 => exact h.elim
    rename_i f first cap hf
    have hv := V_opd hT (x := .tmp t) (y := .t t) rfl
    rw [hf] at hv
    generalize hev : a.eval (.tmp t) = v at hv
    cases hv with
    | fn _ _ _ us vs hu hv' h1 h2 =>
      refine call_sim hp hR hd (TV.append (TV.append ⟨hu, h1⟩ (hT.map hys)) ⟨hv', h2⟩) h fun fn c' g1 g2 g3 => ?_
      simp only [execOp, ho, resolve, hc, hev, Deferred.ofValue, Sem.run_bind, Sem.run_pure, Result.andThen_ok, invoke]
      exact run_enter g1 g3 g2 _ w
  · cases hi

theorem compBuiltin_no {b : Builtin} {ts : List TypeId} {xs : List Operand} (h : compBuiltin P b ts xs = some i) : isCall i = false := by
  unfold compBuiltin at h
  repeat' split at h
  all_goals first
    | (cases h; done)
    | (simp only [Option.some.injEq] at h; subst h; rfl)

theorem comp_call (h : comp P o = some i) (hc : isCall i = true) :
    (∃ c g, o.op = .call c ∧ c.callee = .value g ∧ compCall P g c.args.toList = some i) ∨ (∃ x x', o.op = .panic x ∧ opd x = some x' ∧ i = .panic x') ∨ ∃ x x', o.op = .next x false ∧ opd x = some x' ∧ i = .next x' := by
  unfold comp at h
  repeat' split at h
  all_goals first
    | (cases h; done)
    | (simp only [Option.some.injEq] at h; subst h; simp [isCall] at hc; done)
    | (simp only [Option.map_eq_some_iff] at h; obtain ⟨_, _, rfl⟩ := h; simp [isCall] at hc; done)
    | (rename_i ho; simp only [Option.map_eq_some_iff] at h; obtain ⟨x', hx, rfl⟩ := h; exact .inr (.inr ⟨_, _, ho, hx, rfl⟩))
    | (rename_i ho _ f hf; exact .inl ⟨_, _, ho, hf, h⟩)
    | (rw [compBuiltin_no h] at hc; cases hc; done)
    | (rename_i ho; simp only [Option.map_eq_some_iff] at h; obtain ⟨x', hx, rfl⟩ := h; exact .inr (.inl ⟨_, _, ho, hx, rfl⟩))
    | skip

/-- One operation, in its place. -/
theorem op_sim (hT : TV w (Xof s.H ι) ι T a.tmps) (hR : R w s.H ι) (hd : Dom ι s.nx) (hp : OpPost P w s ι a o K next Qp) (hi : comp P o = some i) (h : opM (simC P) (evO T) i s K) : o.wp P a w next Qp := by
  have hn : ι s.nx = none := by
    cases e : ι s.nx with
    | none => rfl
    | some b => exact absurd (hd _ _ e) (Nat.lt_irrefl _)
  by_cases hc : isCall i = true
  · rcases comp_call hi hc with ⟨c, g, h1, h2, h3⟩ | ⟨x, x', h1, h2, rfl⟩ | ⟨x, x', h1, h2, rfl⟩
    · exact compCall_ok hT hR hd hp h1 h2 h3 h
    · simp only [opM] at h
      split at h
      case h_2 => exact h.elim
      rename_i t d he
      have hv := V_opd hT h2
      rw [he] at hv
      generalize hev : a.eval x = v at hv
      have hv' := hv
      cases hv with
      | iface _ _ u hu =>
        unfold Oper.wp
        have : (execOp a.eval o).run P w = .halt (.panic (.iface t u)) w := by
          simp [execOp, h1, hev, Instr.panic, goPanic, Sem.run]
        rw [this, Oper.upon_panic]
        exact hp.pan _ _ w s ι h (Good.refl hR) hv'
    · simp only [opM] at h
      split at h
      case h_2 => exact h.elim
      rename_i n he
      split at h
      case h_2 => exact h.elim
      rename_i es seen hl
      obtain ⟨hro, hdone, hmore⟩ := h
      have hv := V_opd hT h2
      rw [he] at hv
      generalize hev : a.eval x = v at hv
      cases hv with
      | ref _ b base _ hi =>
        obtain ⟨b', base', g1, A, g2, g3, g4⟩ := hR.obj _ _ hl
        rw [hi] at g1
        simp only [Option.some.injEq, Prod.mk.injEq] at g1
        obtain ⟨rfl, rfl⟩ := g1
        subst g3
        unfold Oper.wp
        rcases run_next_ok (P := P) hR hn hl hi hro o.type with ⟨k1, w1, k2, k3⟩ | ⟨i, kv, vv, w1, k1, k2, rfl, k4, k5, k6⟩
        · have : (execOp a.eval o).run P w = .ok (.value (.tuple #[.bool false])) w1 := by simp [execOp, h1, hev, k2]
          rw [this]
          refine hp.ret _ _ w1 s ι (hdone k1) k3 (.tup _ _ rfl fun j hj => ?_)
          match j, hj with
          | 0, _ => exact .raw _
        · have : (execOp a.eval o).run P w = .ok (.value (.tuple #[.bool true, (es.getD i default).1, vv])) w1 := by simp [execOp, h1, hev, k4]
          rw [this]
          refine hp.ret _ _ w1 _ ι (hmore i k1 k2) k5 (.tup _ _ rfl fun j hj => ?_)
          match j, hj with
          | 0, _ => exact .raw _
          | 1, _ => exact .raw _
          | 2, _ => exact k5.val k6
  · have byExec : (match exec (evO T) i s with | some (d, s') => K (.ret d) s' | none => False) := by
      unfold opM at h
      split at h
      · exact absurd rfl hc
      · exact absurd rfl hc
      · exact absurd rfl hc
      · exact absurd rfl hc
      · exact h
    cases he : exec (evO T) i s with
    | none => rw [he] at byExec; exact byExec.elim
    | some p =>
      obtain ⟨d, s'⟩ := p
      rw [he] at byExec
      obtain ⟨v, w', ι', hr, hg, hv⟩ := exec_ok hT hR hn hi he
      unfold Oper.wp
      rcases hr with hr | ⟨hr, rfl⟩
      · rw [hr]; exact hp.ret d v w' s' ι' byExec hg hv
      · rw [hr]; exact hp.ret d undef w' s' ι' byExec hg hv
end
end Go.Ai
/-! Regions, plain and drawn. -/
set_option linter.unusedVariables false
set_option linter.unusedSimpArgs false
namespace Go.Ai

theorem lk_ins (p : Nat × Obj) (H : Heap) (n : Nat) : lk (ins p H) n = lk (p :: H) n := by
  induction H with
  | nil => rfl
  | cons q t ih =>
    obtain ⟨k, ob⟩ := p
    obtain ⟨k', ob'⟩ := q
    simp only [ins]
    cases hb : Nat.blt k k' with
    | false => rfl
    | true =>
      have hlt : k < k' := by simpa using hb
      simp only [cond_true, lk_cons, ih]
      by_cases h1 : n = k' <;> by_cases h2 : n = k
      · omega
      · simp [h1, h2]
        intro h; omega
      · simp [h1, h2]
        intro h; omega
      · simp [h1, h2]
theorem lk_norm (H : Heap) (n : Nat) : lk (norm H) n = lk H n := by
  cases H with
  | nil => rfl
  | cons p t => exact lk_ins p t n

theorem exec_nx {ρ : Opd → D} {i : I} {s s' : St} {d : D} (h : exec ρ i s = some (d, s')) : s'.nx ≤ s.nx + 1 := by
  unfold exec at h
  repeat' split at h
  all_goals first
    | (cases h; done)
    | (simp only [Option.some.injEq, Prod.mk.injEq] at h; obtain ⟨-, rfl⟩ := h; first | exact Nat.le_succ _ | exact Nat.le_refl _)
    | (simp only [Option.map_eq_some_iff, Prod.mk.injEq] at h; obtain ⟨_, _, -, rfl⟩ := h; exact Nat.le_succ _)
    | (dsimp only at h
       repeat' split at h
       all_goals first
         | (cases h; done)
         | (simp only [Option.some.injEq, Prod.mk.injEq] at h; obtain ⟨-, rfl⟩ := h; exact Nat.le_succ _))

theorem Xof_congr {H H' : Heap} (h : ∀ n, lk H' n = lk H n) (ι : Imap) : Xof H' ι = Xof H ι := by
  funext b o
  simp only [Xof, h]
theorem R_congr {w : World} {H H' : Heap} {ι : Imap} (h : ∀ n, lk H' n = lk H n) (hR : R w H ι) : R w H' ι :=
  ⟨fun n o ho => by
    obtain ⟨b, base, h1, h2⟩ := hR.obj n o (by rw [← h]; exact ho)
    exact ⟨b, base, h1, by rw [Xof_congr h]; exact h2⟩,
  fun n m o o' b base base' h1 h2 h3 h4 => hR.inj n m o o' b base base' (by rw [← h]; exact h1) (by rw [← h]; exact h2) h3 h4, hR.low⟩

structure Sim (w : World) (s : St) (ι : Imap) (T : List D) (a : Act) : Prop where
  tv : TV w (Xof s.H ι) ι T a.tmps
  r : R w s.H ι
  dom : Dom ι s.nx
  df : a.defers = []

def ExR (w : World) (X : Nat → Nat → Prop) (ι : Imap) : Ex → Exit → Prop
  | .nrm, .normal => True
  | .exit i, .exit j => i = j
  | .ret, .ret => True
  | .pan d, .panic ch => ∃ v, ch = [{ v, recovered := false }] ∧ V w X ι d v
  | _, _ => False

def TVx (w : World) (X : Nat → Nat → Prop) (ι : Imap) (x : Ex) (T : List D) (a : Array Value) : Prop := match x with
  | .pan _ => True
  | _ => TV w X ι T a

def PostC (Q : Ex × List D → St → Prop) (w : World) (s : St) (ι : Imap) : Exit → Act → World → Prop := fun e a' w' =>
  a'.defers = [] ∧ ∃ x T' s' ι', Q (x, T') s' ∧ Good w w' s s' ι ι' ∧ Dom ι' s'.nx ∧ TVx w' (Xof s'.H ι') ι' x T' a'.tmps ∧ ExR w' (Xof s'.H ι') ι' x e

theorem PostC.trans {Q : Ex × List D → St → Prop} {w w1 w' : World} {s s1 : St} {ι ι1 : Imap} {e : Exit} {a' : Act} (hg : Good w w1 s s1 ι ι1) (h : PostC Q w1 s1 ι1 e a' w') : PostC Q w s ι e a' w' := by
  obtain ⟨h1, x, T', s', ι', h2, h3, h4, h5⟩ := h
  exact ⟨h1, x, T', s', ι', h2, hg.trans h3, h4, h5⟩

theorem Good.domN {w w' : World} {s s' : St} {ι ι' : Imap} (h : Good w w' s s' ι ι') (hd : Dom ι s.nx) : Dom ι' s'.nx := by
  intro m b hm
  have := h.nx
  rcases h.dom m b hm with h1 | h1
  · have := hd m b h1; omega
  · exact h1.2

theorem put_defers (a : Act) (dst : Option Nat) (v : Value) : (a.put dst v).defers = a.defers := by cases dst <;> rfl
theorem TV.put {w : World} {X : Nat → Nat → Prop} {ι : Imap} {T : List D} {a : Act} (h : TV w X ι T a.tmps) {d : D} {v : Value} (hv : V w X ι d v) (dst : Option Nat) : TV w X ι (setT T dst d) (a.put dst v).tmps := by
  cases dst with
  | none => exact h
  | some k =>
    have hs := h.size
    refine ⟨by simpa [Act.put, setT] using hs, fun i hi => ?_⟩
    simp only [setT, List.length_set] at hi
    by_cases hik : i = k
    · subst hik
      have e1 : (T.set i d).getD i default = d := by simp [List.getD_eq_getElem?_getD, hi]
      have e2 : (a.tmps.setIfInBounds i v).getD i undef = v := by
        have : i < a.tmps.size := by omega
        simp [Array.getD_eq_getD_getElem?, this]
      simp only [setT, Act.put]
      rw [e1, e2]; exact hv
    · have e1 : (T.set k d).getD i default = T.getD i default := by simp [List.getD_eq_getElem?_getD, List.getElem?_set, Ne.symm hik]
      have e2 : (a.tmps.setIfInBounds k v).getD i undef = a.tmps.getD i undef := by
        simp [Array.getD_eq_getD_getElem?, Array.getElem?_setIfInBounds, Ne.symm hik]
      simp only [setT, Act.put]
      rw [e1, e2]; exact h.v i hi

section
variable {P : Program} {ops : Array Oper}

theorem wp_post {o : Oper} {a : Act} {w : World} {K K' : Act → World → Prop} {Q Q' : Exit → Act → World → Prop} (h : ∀ a w, K a w → K' a w) (hq : ∀ e a w, Q e a w → Q' e a w)
    (hh : o.wp P a w K Q) : o.wp P a w K' Q' := by
  unfold Oper.wp at *
  generalize (execOp a.eval o).run P w = r at *
  cases r with
  | ok n w' =>
    cases n <;> simp only [Oper.upon] at hh ⊢ <;>
      first
        | exact h _ _ hh
        | exact Calls.mono hh (fun e w'' he => by cases e <;> first | exact h _ _ he | exact hq _ _ _ he | exact he.imp fun a h => h.imp fun w h => hq _ _ _ h)
        | exact Rows.mono hh (fun _ _ he => h _ _ he)
  | halt x w' => cases x <;> simp only [Oper.upon] at hh ⊢ <;> first | exact hh | exact hq _ _ _ hh

theorem wpOps_post {Q Q' : Exit → Act → World → Prop} (hq : ∀ e a w, Q e a w → Q' e a w) : ∀ (l : List Nat) (a : Act) (w : World), wpOps P ops Q l a w → wpOps P ops Q' l a w
  | [], a, w, h => hq _ _ _ h
  | i :: rest, a, w, h => by
    simp only [wpOps] at *
    split
    · rename_i e
      simp only [e] at h
      exact wpOps_post hq rest a w h
    · rename_i o e
      simp only [e] at h
      split
      · rename_i hw
        rw [if_pos hw] at h
        rcases h with h | ⟨h1, a₀, w₀, h2⟩
        · exact .inl (wp_post (fun a w => wpOps_post hq rest a w) hq h)
        · exact .inr ⟨h1, a₀, w₀, hq _ _ _ h2⟩
      · rename_i hw
        rw [if_neg hw] at h
        exact wpOps_post hq rest _ w h

theorem wants_ok {w : World} {X : Nat → Nat → Prop} {ι : Imap} {T : List D} {tmps : Array Value} (hT : TV w X ι T tmps) {o : Oper} {io : IOp} (h : compOp P ops o = some io) :
    Region.wanted o (yielded ops tmps) = wants T io.guard := by
  unfold compOp at h
  split at h
  case h_2 => cases h
  unfold Region.wanted
  split at h
  · rename_i hg
    simp only [Option.some.injEq] at h
    subst h
    simp [hg, wants]
  · rename_i k b hg
    split at h
    case h_2 => cases h
    rename_i t ht
    simp only [Option.some.injEq] at h
    subst h
    simp only [hg, wants, yielded, ht, Option.bind_some]
    have hs := hT.size
    rcases Nat.lt_or_ge t T.length with hl | hl
    · have hv := hT.v t hl
      have e1 : tmps[t]? = some (tmps.getD t undef) := by
        have : t < tmps.size := by rw [hs]; exact hl
        simp [Array.getD_eq_getD_getElem?, this]
      rw [e1]
      generalize T.getD t default = d at hv
      generalize tmps.getD t undef = v at hv
      cases hv with
      | raw v => cases v <;> cases b <;> rfl
      | _ => cases b <;> rfl
    · have e1 : T.getD t default = default := by simp [List.getD_eq_getElem?_getD, List.getElem?_eq_none hl]
      have e2 : tmps[t]? = none := Array.getElem?_eq_none (by rw [hs]; exact hl)
      rw [e1, e2]
      cases b <;> rfl

theorem compOp_ok {o : Oper} {io : IOp} (h : compOp P ops o = some io) : io.dst = o.dst ∧ comp P o = some io.i ∧ io.af = (o.after.toList.filter (Region.binds .any)).map (·.on) := by
  unfold compOp at h
  split at h
  case h_2 => cases h
  rename_i i hi
  split at h
  · simp only [Option.some.injEq] at h
    subst h
    exact ⟨rfl, hi, rfl⟩
  · split at h
    · simp only [Option.some.injEq] at h
      subst h
      exact ⟨rfl, hi, rfl⟩
    · cases h

theorem compOpL_ok : ∀ (l : List Oper) (ios : List IOp), compOpL P ops l = some ios → ios.length = l.length ∧ ∀ (j : Nat) (o : Oper), l[j]? = some o → ∃ io, ios[j]? = some io ∧ compOp P ops o = some io
  | [], ios, h => by
    simp only [compOpL, Option.some.injEq] at h
    subst h
    exact ⟨rfl, fun j o h => by simp at h⟩
  | o :: rest, ios, h => by
    simp only [compOpL] at h
    split at h
    case h_2 => cases h
    rename_i i l hi hl
    simp only [Option.some.injEq] at h
    subst h
    obtain ⟨h1, h2⟩ := compOpL_ok rest l hl
    refine ⟨by simp [h1], fun j o' hj => ?_⟩
    cases j with
    | zero =>
      simp only [List.getElem?_cons_zero, Option.some.injEq] at hj
      subst hj
      exact ⟨i, rfl, hi⟩
    | succ j => exact h2 j o' (by simpa using hj)

/-- A region in the order of its text. -/
theorem ops_sim {Q : Ex × List D → St → Prop} : ∀ (l : List Nat) (ios : List IOp), ios.length = l.length → (∀ j : Nat, j < l.length → ∃ k o io, l[j]? = some k ∧ ops[k]? = some o ∧ ios[j]? = some io ∧ compOp P ops o = some io) →
    ∀ (w : World) (s : St) (ι : Imap) (T : List D) (a : Act), Sim w s ι T a → opsM (simC P) ios T s Q → wpOps P ops (PostC Q w s ι) l a w
  | [], ios, hl, hk, w, s, ι, T, a, hs, h => by
    have : ios = [] := by simpa using hl
    subst this
    exact ⟨hs.df, .nrm, T, s, ι, h, Good.refl hs.r, hs.dom, hs.tv, trivial⟩
  | k :: l, ios, hl, hk, w, s, ι, T, a, hs, h => by
    cases ios with
    | nil => simp at hl
    | cons io ios =>
      obtain ⟨k', o, io', h1, h2, h3, h4⟩ := hk 0 (Nat.succ_pos _)
      simp only [List.getElem?_cons_zero, Option.some.injEq] at h1 h3
      subst h1; subst h3
      have hk' : ∀ j : Nat, j < l.length → ∃ k o io, l[j]? = some k ∧ ops[k]? = some o ∧ ios[j]? = some io ∧ compOp P ops o = some io := by
        intro j hj
        obtain ⟨k, o, io, g1, g2, g3, g4⟩ := hk (j + 1) (by simpa using hj)
        exact ⟨k, o, io, by simpa using g1, g2, by simpa using g3, g4⟩
      obtain ⟨c1, c2, c3⟩ := compOp_ok h4
      have ih := ops_sim (Q := Q) l ios (by simpa using hl) hk'
      simp only [wpOps, h2, wants_ok hs.tv h4]
      simp only [opsM] at h
      split
      · rename_i hw
        rw [if_pos hw] at h
        refine .inl (op_sim hs.tv hs.r hs.dom ?_ c2 h)
        refine ⟨fun d v w' s' ι' hq hg hv => ?_, fun d v w' s' ι' hq hg hv => ?_⟩
        · have := ih w' s' ι' (setT T io.dst d) (a.put o.dst v) ⟨by rw [c1]; exact (hg.tv hs.tv).put hv _, hg.r, hg.domN hs.dom, by rw [put_defers]; exact hs.df⟩ hq
          exact wpOps_post (fun e a' w'' => PostC.trans hg) _ _ _ this
        · exact ⟨hs.df, .pan d, [], s', ι', hq, hg, hg.domN hs.dom, trivial, v, rfl, hv⟩
      · rename_i hw
        rw [if_neg hw] at h
        exact ih w s ι _ _ ⟨by rw [c1]; exact hs.tv.put (.raw _) _, hs.r, hs.dom, by rw [put_defers]; exact hs.df⟩ h
end
end Go.Ai
