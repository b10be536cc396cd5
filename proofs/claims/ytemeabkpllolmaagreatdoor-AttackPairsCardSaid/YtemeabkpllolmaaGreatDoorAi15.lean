/-
  A part of an interpreter over abstract data, proved sound once for the model: what it says of the code, the machine does in every order. Conditions: none beyond the statement.
-/
import Derived.Test.YtemeabkpllolmaaGreatDoorAi14
/-! What the abstract meaning says of the machine: single operations, plain regions. -/
set_option linter.unusedVariables false
set_option linter.unusedSimpArgs false
namespace Go.Ai

def Dom (ι : Imap) (n : Nat) : Prop := ∀ m b, ι m = some b → m < n

/-- A call, as the machine does it. -/
def simC (P : Program) : Cl := fun f args s Q =>
  (∃ fn c, P.funcs[f]? = some fn ∧ fn.body = some c ∧ (fn.name == "runtime.NumGoroutine") = false) ∧
  ∀ w ι vs, TV w (Xof s.H ι) ι args vs → R w s.H ι → Dom ι s.nx → Calls P f vs w fun e w' => ∃ s' ι', Good w w' s s' ι ι' ∧ match e with
    | .returned v => ∃ d, Q (.ret d) s' ∧ V w' (Xof s'.H ι') ι' d v
    | .panicked ch => ∃ d v, ch = [{ v, recovered := false }] ∧ Q (.pan d) s' ∧ V w' (Xof s'.H ι') ι' d v
    | .outgrown => False
theorem simC_mono (P : Program) : MonoQ (simC P) := by
  intro f args s Q Q' h ⟨hf, hh⟩
  refine ⟨hf, fun w ι vs hv hR hd => (hh w ι vs hv hR hd).mono fun e w' => ?_⟩
  rintro ⟨s', ι', hg, he⟩
  refine ⟨s', ι', hg, ?_⟩
  cases e with
  | returned v => obtain ⟨d, h1, h2⟩ := he; exact ⟨d, h _ _ h1, h2⟩
  | panicked ch => obtain ⟨d, v, h1, h2, h3⟩ := he; exact ⟨d, v, h1, h _ _ h2, h3⟩
  | outgrown => exact he

theorem run_enter {P : Program} {f : FuncId} {fn : Func} {c : Code} (hf : P.funcs[f]? = some fn) (hname : (fn.name == "runtime.NumGoroutine") = false) (hb : fn.body = some c) (args : Array Value) (w : World) :
    (callFunc f args).run P w = .ok (.enter f args) w := by
  have h1 : fn.name ≠ "runtime.NumGoroutine" := by simpa using hname
  simp [callFunc, hf, h1, hb]

section
variable {P : Program} {w : World} {s : St} {ι : Imap} {T : List D} {a : Act} {o : Oper} {i : I} {K : Out → St → Prop} {next : Act → World → Prop} {Qp : Exit → Act → World → Prop}

theorem TV.map (hT : TV w (Xof s.H ι) ι T a.tmps) {xs : Array Operand} {ys : List Opd} (h : opds xs.toList = some ys) : TV w (Xof s.H ι) ι (ys.map (evO T)) (xs.map a.eval) := by
  obtain ⟨h1, h2⟩ := opds_ok h hT
  have e : (xs.toList.map a.eval).toArray = xs.map a.eval := by
    apply Array.ext'
    simp
  rw [e] at h2
  exact ⟨by simpa using h1, h2⟩

theorem TV.append {X : Nat → Nat → Prop} {S T : List D} {a b : Array Value} (h : TV w X ι S a) (k : TV w X ι T b) : TV w X ι (S ++ T) (a ++ b) := by
  refine ⟨by rw [Array.size_append, List.length_append, h.size, k.size], fun i hi => ?_⟩
  rw [List.length_append] at hi
  have hs := h.size
  have ks := k.size
  by_cases hl : i < S.length
  · have e1 : (S ++ T).getD i default = S.getD i default := by simp [List.getD_eq_getElem?_getD, List.getElem?_append, hl]
    have e2 : (a ++ b).getD i undef = a.getD i undef := by
      have : i < a.size := by omega
      simp [Array.getD_eq_getD_getElem?, Array.getElem?_append, this]
    rw [e1, e2]; exact h.v i hl
  · have e1 : (S ++ T).getD i default = T.getD (i - S.length) default := by
      simp [List.getD_eq_getElem?_getD, List.getElem?_append, hl]
    have e2 : (a ++ b).getD i undef = b.getD (i - S.length) undef := by
      simp [Array.getD_eq_getD_getElem?, Array.getElem?_append, hl, hs]
    rw [e1, e2]; exact k.v _ (by omega)

/-- What is behind an operation of the machine. -/
structure OpPost (P : Program) (w : World) (s : St) (ι : Imap) (a : Act) (o : Oper) (K : Out → St → Prop) (next : Act → World → Prop) (Qp : Exit → Act → World → Prop) : Prop where
  ret : ∀ d v w' s' ι', K (.ret d) s' → Good w w' s s' ι ι' → V w' (Xof s'.H ι') ι' d v → next (a.put o.dst v) w'
  pan : ∀ d v w' s' ι', K (.pan d) s' → Good w w' s s' ι ι' → V w' (Xof s'.H ι') ι' d v → Qp (.panic [{ v, recovered := false }]) a w'

theorem call_sim (hp : OpPost P w s ι a o K next Qp) (hR : R w s.H ι) (hd : Dom ι s.nx) {f : FuncId} {args : List D} {vs : Array Value} (hv : TV w (Xof s.H ι) ι args vs) (h : simC P f args s K)
    (hrun : ∀ fn c, P.funcs[f]? = some fn → fn.body = some c → (fn.name == "runtime.NumGoroutine") = false → (execOp a.eval o).run P w = .ok (.enter f vs) w) : o.wp P a w next Qp := by
  obtain ⟨⟨fn, c, h1, h2, h3⟩, hh⟩ := h
  unfold Oper.wp
  rw [hrun fn c h1 h2 h3, Oper.upon_enter]
  refine (hh w ι vs hv hR hd).mono fun e w' => ?_
  rintro ⟨s', ι', hg, he⟩
  cases e with
  | returned v => obtain ⟨d, g1, g2⟩ := he; exact hp.ret d v w' s' ι' g1 hg g2
  | panicked ch => obtain ⟨d, v, rfl, g2, g3⟩ := he; exact hp.pan d v w' s' ι' g2 hg g3
  | outgrown => exact he.elim

theorem compCall_ok {c : Call} {f : Operand} (hT : TV w (Xof s.H ι) ι T a.tmps) (hR : R w s.H ι) (hd : Dom ι s.nx) (hp : OpPost P w s ι a o K next Qp) (ho : o.op = .call c) (hc : c.callee = .value f)
    (hi : compCall P f c.args.toList = some i) (h : opM (simC P) (evO T) i s K) : o.wp P a w next Qp := by
  unfold compCall at hi
  split at hi
  · rename_i k
    split at hi
    case h_2 => cases hi
    rename_i fn hf
    split at hi
    case isFalse => cases hi
    simp only [Option.map_eq_some_iff] at hi
    obtain ⟨ys, hys, rfl⟩ := hi
    refine call_sim hp hR hd (hT.map hys) h fun fn c' h1 h2 h3 => ?_
    simp only [execOp, ho, resolve, hc, Act.eval, Deferred.ofValue, Sem.run_bind, Sem.run_pure, Result.andThen_ok, invoke]
    simpa using run_enter h1 h3 h2 (c.args.map a.eval) w
  · rename_i t
    simp only [Option.map_eq_some_iff] at hi
    obtain ⟨ys, hys, rfl⟩ := hi
    simp only [opM] at h
    split at h
    case h_2 => exact h.elim
    rename_i f first cap hf
    have hv := V_opd hT (x := .tmp t) (y := .t t) rfl
    rw [hf] at hv
    generalize hev : a.eval (.tmp t) = v at hv
    cases hv with
    | fn _ _ _ us vs hu hv' h1 h2 =>
      refine call_sim hp hR hd (TV.append (TV.append ⟨hu, h1⟩ (hT.map hys)) ⟨hv', h2⟩) h fun fn c' g1 g2 g3 => ?_
      simp only [execOp, ho, resolve, hc, hev, Deferred.ofValue, Sem.run_bind, Sem.run_pure, Result.andThen_ok, invoke]
      exact run_enter g1 g3 g2 _ w
  · cases hi

theorem compBuiltin_no {b : Builtin} {ts : List TypeId} {xs : List Operand} (h : compBuiltin P b ts xs = some i) : isCall i = false := by
  unfold compBuiltin at h
  repeat' split at h
  all_goals first
    | (cases h; done)
    | (simp only [Option.some.injEq] at h; subst h; rfl)

theorem comp_call (h : comp P o = some i) (hc : isCall i = true) :
    (∃ c g, o.op = .call c ∧ c.callee = .value g ∧ compCall P g c.args.toList = some i) ∨ ∃ x x', o.op = .panic x ∧ opd x = some x' ∧ i = .panic x' := by
  unfold comp at h
  repeat' split at h
  all_goals first
    | (cases h; done)
    | (simp only [Option.some.injEq] at h; subst h; simp [isCall] at hc; done)
    | (simp only [Option.map_eq_some_iff] at h; obtain ⟨_, _, rfl⟩ := h; simp [isCall] at hc; done)
    | (rename_i ho _ f hf; exact .inl ⟨_, _, ho, hf, h⟩)
    | (rw [compBuiltin_no h] at hc; cases hc; done)
    | (rename_i ho; simp only [Option.map_eq_some_iff] at h; obtain ⟨x', hx, rfl⟩ := h; exact .inr ⟨_, _, ho, hx, rfl⟩)
    | skip

/-- One operation, in its place. -/
theorem op_sim (hT : TV w (Xof s.H ι) ι T a.tmps) (hR : R w s.H ι) (hd : Dom ι s.nx) (hp : OpPost P w s ι a o K next Qp) (hi : comp P o = some i) (h : opM (simC P) (evO T) i s K) : o.wp P a w next Qp := by
  have hn : ι s.nx = none := by
    cases e : ι s.nx with
    | none => rfl
    | some b => exact absurd (hd _ _ e) (Nat.lt_irrefl _)
  by_cases hc : isCall i = true
  · rcases comp_call hi hc with ⟨c, g, h1, h2, h3⟩ | ⟨x, x', h1, h2, rfl⟩
    · exact compCall_ok hT hR hd hp h1 h2 h3 h
    · simp only [opM] at h
      split at h
      case h_2 => exact h.elim
      rename_i t d he
      have hv := V_opd hT h2
      rw [he] at hv
      generalize hev : a.eval x = v at hv
      have hv' := hv
      cases hv with
      | iface _ _ u hu =>
        unfold Oper.wp
        have : (execOp a.eval o).run P w = .halt (.panic (.iface t u)) w := by
          simp [execOp, h1, hev, Instr.panic, goPanic, Sem.run]
        rw [this, Oper.upon_panic]
        exact hp.pan _ _ w s ι h (Good.refl hR) hv'
  · have byExec : (match exec (evO T) i s with | some (d, s') => K (.ret d) s' | none => False) := by
      unfold opM at h
      split at h
      · exact absurd rfl hc
      · exact absurd rfl hc
      · exact absurd rfl hc
      · exact h
    cases he : exec (evO T) i s with
    | none => rw [he] at byExec; exact byExec.elim
    | some p =>
      obtain ⟨d, s'⟩ := p
      rw [he] at byExec
      obtain ⟨v, w', ι', hr, hg, hv⟩ := exec_ok hT hR hn hi he
      unfold Oper.wp
      rcases hr with hr | ⟨hr, rfl⟩
      · rw [hr]; exact hp.ret d v w' s' ι' byExec hg hv
      · rw [hr]; exact hp.ret d undef w' s' ι' byExec hg hv
end
end Go.Ai
