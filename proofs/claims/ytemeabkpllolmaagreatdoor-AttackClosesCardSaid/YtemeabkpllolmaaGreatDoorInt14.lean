/-
  A part of an interpreter over abstract data, proved sound once for the model: what it says of the code, the machine does in every order. Conditions: none beyond the statement.
-/
import Derived.Test.YtemeabkpllolmaaGreatDoorInt13
/-! Evaluation with the temporaries in a tree. -/
set_option linter.unusedVariables false
set_option linter.unusedSimpArgs false
namespace Go.Ai
noncomputable section

def evT (nt : Nat) (t : Tr) (x : Opd) : D := Opd.rec (fun i => getT nt t i) (fun d => d) x
theorem evT_eq {dp nt : Nat} {t : Tr} {T : List D} (h : Holds dp nt t T) : evT nt t = evO T := by
  funext x
  cases x with
  | t i => exact getT_eq h i
  | c d => rfl
def wantT (nt : Nat) (t : Tr) (g : Option (Nat × Bool)) : Bool := match g with
  | none => true
  | some (k, b) => match getT nt t k with
    | .raw (.bool c) => c == b
    | _ => false
theorem wantT_eq {dp nt : Nat} {t : Tr} {T : List D} (h : Holds dp nt t T) (g : Option (Nat × Bool)) : wantT nt t g = wants T g := by
  cases g with
  | none => rfl
  | some p => obtain ⟨k, b⟩ := p; simp only [wantT, wants, getT_eq h]; rfl
def opT (ce : ClE) (ρ : Opd → D) (i : I) (s : St) : Option (Out × St) :=
  match i with
  | .call f xs => ce f (xs.map ρ) s
  | .callv x xs => cvK ce (ρ x) (xs.map ρ) s
  | .panic x => panK (ρ x) s
  | i => retK (execK ρ i s)
theorem opT_eq (ce : ClE) (ρ : Opd → D) (i : I) (s : St) : opT ce ρ i s = opE ce ρ i s := by
  cases i <;> simp only [opT, opE, execK_eq] <;> rfl

abbrev R4 := Option (Ex × Tr × St)
/-- The two results say the same. -/
def Same4 (dp nt : Nat) : R4 → R3 → Prop
  | none, _ => True
  | some (x, t, s), some (y, T, s') => x = y ∧ s = s' ∧ match x with
    | .pan _ => True
    | _ => Holds dp nt t T
  | _, _ => False

def afterT (nt : Nat) (t : Tr) (dst : Option Nat) (k : Tr → St → R4) (r : Option (Out × St)) : R4 := match r with
  | some (.ret d, s') => k (setTr nt t dst d) s'
  | some (.pan d, s') => some (.pan d, t, s')
  | none => none
def opsT (ce : ClE) (nt : Nat) (ops : List IOp) : Tr → St → R4 :=
  List.rec (fun t s => some (.nrm, t, s)) (fun o _ ih t s => bif wantT nt t o.guard then afterT nt t o.dst ih (opT ce (evT nt t) o.i s) else ih (setTr nt t o.dst default) s) ops
theorem opsT_ok (ce : ClE) {dp nt : Nat} (ops : List IOp) : ∀ (t : Tr) (T : List D) (s : St), Holds dp nt t T → Same4 dp nt (opsT ce nt ops t s) (opsE ce ops T s) := by
  induction ops with
  | nil => exact fun t T s h => ⟨rfl, rfl, h⟩
  | cons o rest ih =>
    intro t T s h
    have : opsT ce nt (o :: rest) t s = bif wantT nt t o.guard then afterT nt t o.dst (opsT ce nt rest) (opT ce (evT nt t) o.i s) else opsT ce nt rest (setTr nt t o.dst default) s := rfl
    rw [this, wantT_eq h, opT_eq, evT_eq h]
    simp only [opsE]
    cases wants T o.guard with
    | false => exact ih _ _ s (setTr_ok h _ _)
    | true =>
      simp only [cond_true, if_true, afterT]
      cases opE ce (evO T) o.i s with
      | none => trivial
      | some p =>
        obtain ⟨r, s'⟩ := p
        cases r with
        | ret d => exact ih _ _ s' (setTr_ok h _ _)
        | pan d => exact ⟨rfl, rfl, trivial⟩

def seqT (k : Tr → St → R4) (r : R4) : R4 := match r with
  | some (x, T, s) => match x with
    | .nrm => k T s
    | x => some (x, T, s)
  | none => none
theorem Same4.none_ {dp nt : Nat} {r : R3} : Same4 dp nt none r := by cases r <;> trivial
theorem seqT_ok {dp nt : Nat} {k : Tr → St → R4} {k' : List D → St → R3} (hk : ∀ t T s, Holds dp nt t T → Same4 dp nt (k t s) (k' T s)) {r : R4} {r' : R3} (h : Same4 dp nt r r') : Same4 dp nt (seqT k r) (seqK k' r') := by
  cases r with
  | none => trivial
  | some p =>
    cases r' with
    | none => exact h.elim
    | some q =>
      obtain ⟨x, t, s⟩ := p
      obtain ⟨y, T, s'⟩ := q
      obtain ⟨rfl, rfl, h3⟩ := h
      cases x with
      | nrm => exact hk _ _ _ h3
      | _ => exact ⟨rfl, rfl, h3⟩
def condT (c : D) (a b : R4) : R4 := match c with
  | .raw (.bool true) => a
  | .raw (.bool false) => b
  | _ => none
theorem condT_ok {dp nt : Nat} (c : D) {a b : R4} {a' b' : R3} (ha : Same4 dp nt a a') (hb : Same4 dp nt b b') : Same4 dp nt (condT c a b) (condK c a' b') := by
  unfold condT condK
  split
  · exact ha
  · exact hb
  · rename_i h1 h2
    split
    · exact absurd rfl h1
    · exact absurd rfl h2
    · trivial
def blockT (id : Nat) (r : R4) : R4 := match r with
  | some (x, T, s) => match x with
    | .exit i => bif Nat.beq i id then some (.nrm, T, s) else some (.exit i, T, s)
    | x => some (x, T, s)
  | none => none
theorem blockT_ok {dp nt : Nat} (id : Nat) {r : R4} {r' : R3} (h : Same4 dp nt r r') : Same4 dp nt (blockT id r) (blockK id r') := by
  cases r with
  | none => trivial
  | some p =>
    cases r' with
    | none => exact h.elim
    | some q =>
      obtain ⟨x, t, s⟩ := p
      obtain ⟨y, T, s'⟩ := q
      obtain ⟨rfl, rfl, h3⟩ := h
      cases x with
      | exit i =>
        simp only [blockT, blockK]
        cases Nat.beq i id with
        | true => exact ⟨rfl, rfl, h3⟩
        | false => exact ⟨rfl, rfl, h3⟩
      | _ => exact ⟨rfl, rfl, h3⟩
def loopT (b : Tr → St → R4) (n : Nat) : Tr → St → R4 := Nat.rec (fun _ _ => none) (fun _ ih T s => seqT ih (b T s)) n
theorem loopT_ok {dp nt : Nat} {b : Tr → St → R4} {b' : List D → St → R3} (hb : ∀ t T s, Holds dp nt t T → Same4 dp nt (b t s) (b' T s)) : ∀ n t T s, Holds dp nt t T → Same4 dp nt (loopT b n t s) (loopK b' n T s)
  | 0, t, T, s, h => trivial
  | n + 1, t, T, s, h => seqT_ok (loopT_ok hb n) (hb t T s h)
def drawT (nt : Nat) (t : Tr) (r : Option (List D × St)) : R4 := match r with
  | some (T, s) => bif Nat.beq T.length nt then some (.nrm, fillT nt T 0 t, s) else none
  | none => none
def codeT (ce : ClE) (n nt : Nat) (c : IC) : Tr → St → R4 :=
  IC.rec (fun T s => some (.nrm, T, s)) (fun ops => opsT ce nt ops) (fun ops t s => drawT nt t (drawE ce ops (listT nt t) s)) (fun _ _ a b T s => seqT b (a T s)) (fun c _ _ a b T s => condT (evT nt T c) (a T s) (b T s)) (fun id _ b T s => blockT id (b T s))
    (fun _ b => loopT b n) (fun id T s => some (.exit id, T, s)) (fun _ b => b) (fun T s => some (.ret, T, s)) c

theorem fillT_all {dp nt : Nat} {t : Tr} {T : List D} (h : Holds dp nt t T) (l : List D) (hl : l.length = nt) : Holds dp nt (fillT nt l 0 t) l := by
  obtain ⟨T', h1, h2⟩ := fillT_ok l 0 t T h
  have : T' = l := by
    apply List.ext_getElem?
    intro i
    have hi := h2 i
    rcases Nat.lt_or_ge i nt with hlt | hge
    · have hp : 0 ≤ i ∧ i < 0 + l.length ∧ i < nt := by omega
      rw [if_pos hp, Nat.sub_zero] at hi
      have g1 : i < T'.length := by rw [h1.len]; exact hlt
      have g2 : i < l.length := by omega
      simp [List.getD_eq_getElem?_getD, g1, g2] at hi
      simp [g1, g2, hi]
    · have g1 : T'.length ≤ i := by rw [h1.len]; exact hge
      have g2 : l.length ≤ i := by omega
      simp [List.getElem?_eq_none g1, List.getElem?_eq_none g2]
  rw [this] at h1
  exact h1

theorem codeT_ok (ce : ClE) (n : Nat) {dp nt : Nat} : ∀ (c : IC) (t : Tr) (T : List D) (s : St), Holds dp nt t T → Same4 dp nt (codeT ce n nt c t s) (codeK ce n c T s)
  | .skip, t, T, s, h => ⟨rfl, rfl, h⟩
  | .region ops, t, T, s, h => by
    have := opsT_ok ce ops t T s h
    rw [← opsK_eq] at this
    exact this
  | .draw ops, t, T, s, h => by
    have e1 : codeT ce n nt (.draw ops) t s = drawT nt t (drawE ce ops (listT nt t) s) := rfl
    have e2 : codeK ce n (.draw ops) T s = drawK (drawE ce ops T s) := rfl
    rw [e1, e2, listT_ok h]
    cases drawE ce ops T s with
    | none => trivial
    | some p =>
      obtain ⟨T', s'⟩ := p
      simp only [drawT, drawK]
      cases hb : Nat.beq T'.length nt with
      | false => trivial
      | true => exact ⟨rfl, rfl, fillT_all h T' (Nat.eq_of_beq_eq_true hb)⟩
  | .seq a b, t, T, s, h => seqT_ok (fun t T s h => codeT_ok ce n b t T s h) (codeT_ok ce n a t T s h)
  | .cond c a b, t, T, s, h => by
    have e1 : codeT ce n nt (.cond c a b) t s = condT (evT nt t c) (codeT ce n nt a t s) (codeT ce n nt b t s) := rfl
    have e2 : codeK ce n (.cond c a b) T s = condK (evK T c) (codeK ce n a T s) (codeK ce n b T s) := rfl
    rw [e1, e2, evT_eq h, evK_eq]
    exact condT_ok _ (codeT_ok ce n a t T s h) (codeT_ok ce n b t T s h)
  | .block id b, t, T, s, h => blockT_ok id (codeT_ok ce n b t T s h)
  | .loop b, t, T, s, h => loopT_ok (fun t T s h => codeT_ok ce n b t T s h) n t T s h
  | .scope b, t, T, s, h => codeT_ok ce n b t T s h
  | .exit _, t, T, s, h => ⟨rfl, rfl, h⟩
  | .ret, t, T, s, h => ⟨rfl, rfl, h⟩

/-! ### Results, functions -/
def cellG (H : Heap) (ag : Bool) (sz : Nat) (d : D) : Option D := match d with
    | .ref n o => match lk H n with
      | some (.cells cs _ _) => takeN (cs.drop o) ag sz
      | _ => none
    | .iptr cs => takeN cs ag sz
    | _ => none
def resOneG (g : Nat → D) (H : Heap) : RV → Option D
  | .tmp t => some (g t)
  | .cell t ag sz => cellG H ag sz (g t)
def resLG (g : Nat → D) (H : Heap) : List RV → Option (List D)
  | [] => some []
  | r :: rs => match resOneG g H r, resLG g H rs with
    | some d, some ds => some (d :: ds)
    | _, _ => none
def resG (g : Nat → D) (H : Heap) (rs : List RV) : Option D := match resLG g H rs with
  | some [d] => some d
  | some ds => some (.tup ds)
  | none => none
theorem resG_eq (T : List D) (H : Heap) (rs : List RV) : resG (fun i => T.getD i default) H rs = resD T H rs := by
  have h1 : ∀ r, resOneG (fun i => T.getD i default) H r = resOne T H r := by
    intro r
    cases r <;> rfl
  have h2 : resLG (fun i => T.getD i default) H rs = resL T H rs := by
    induction rs with
    | nil => rfl
    | cons r rs ih => simp only [resLG, resL, h1, ih]; rfl
  simp only [resG, resD, h2]; rfl
def finT (nt : Nat) (fn : IF) (r : R4) : Option (Out × St) := match r with
  | some (x, t, s') => match x with
    | .pan d => some (.pan d, s')
    | .exit _ => none
    | _ => match resG (getT nt t) s'.H fn.res with
      | some d => some (.ret d, s')
      | none => none
  | none => none
def fin2T (nt : Nat) (fn : IF) (s : St) (r : R4) : Option (Out × St) := match r with
  | some (x, t, s') => match x with
    | .pan d => (match view fuelV d s'.H with
        | some (d, H2) => some (.pan d, { H := cut s.nx H2, nx := s'.nx, ro := s.ro })
        | none => none)
    | .exit _ => none
    | _ => match resG (getT nt t) s'.H fn.res with
        | some d => if rigid fuelV d then some (.ret d, { H := s.H, nx := s'.nx, ro := s.ro }) else match view fuelV d s'.H with
          | some (d, H2) => some (.ret d, { H := cut s.nx H2, nx := s'.nx, ro := s.ro })
          | none => none
        | none => none
  | none => none
theorem getT_fun {dp nt : Nat} {t : Tr} {T : List D} (h : Holds dp nt t T) : getT nt t = fun i => T.getD i default := funext (getT_eq h)
theorem finT_ok {dp nt : Nat} {fn : IF} {r : R4} {r' : R3} (h : Same4 dp nt r r') {o : Out × St} (ho : finT nt fn r = some o) : finK fn r' = some o := by
  cases r with
  | none => cases ho
  | some p =>
    cases r' with
    | none => exact h.elim
    | some q =>
      obtain ⟨x, t, s⟩ := p
      obtain ⟨y, T, s'⟩ := q
      obtain ⟨rfl, rfl, h3⟩ := h
      cases x with
      | pan d => exact ho
      | exit i => cases ho
      | nrm => simp only [finT, getT_fun h3, resG_eq] at ho; exact ho
      | ret => simp only [finT, getT_fun h3, resG_eq] at ho; exact ho
theorem fin2T_ok {dp nt : Nat} {fn : IF} {s0 : St} {r : R4} {r' : R3} (h : Same4 dp nt r r') {o : Out × St} (ho : fin2T nt fn s0 r = some o) : fin2K fn s0 r' = some o := by
  cases r with
  | none => cases ho
  | some p =>
    cases r' with
    | none => exact h.elim
    | some q =>
      obtain ⟨x, t, s⟩ := p
      obtain ⟨y, T, s'⟩ := q
      obtain ⟨rfl, rfl, h3⟩ := h
      cases x with
      | pan d => exact ho
      | exit i => cases ho
      | nrm => simp only [fin2T, getT_fun h3, resG_eq] at ho; exact ho
      | ret => simp only [fin2T, getT_fun h3, resG_eq] at ho; exact ho

def withT (nt : Nat) (args : List D) (k : Tr → Option (Out × St)) : Option (Out × St) := bif Nat.ble nt 256 && Nat.ble args.length nt then k (fillT nt args 0 (Tr.full 8)) else none
theorem withT_ok {nt : Nat} {args : List D} {k : Tr → Option (Out × St)} {o : Out × St} (h : withT nt args k = some o) : ∃ t, Holds 8 nt t (pad nt args) ∧ k t = some o := by
  unfold withT at h
  cases hb : (Nat.ble nt 256 && Nat.ble args.length nt) with
  | false => rw [hb] at h; cases h
  | true =>
    rw [hb] at h
    simp only [Bool.and_eq_true, Nat.ble_eq] at hb
    refine ⟨_, ?_, h⟩
    have h0 : Holds 8 nt (Tr.full 8) (List.replicate nt default) := ⟨Tr.full_deep 8, by simp, hb.1, fun i hi => by rw [Tr.full_get]; simp [List.getD_eq_getElem?_getD, hi]⟩
    obtain ⟨T', h1, h2⟩ := fillT_ok args 0 _ _ h0
    have : T' = pad nt args := by
      apply List.ext_getElem?
      intro i
      have hi := h2 i
      have hpl : (pad nt args).length = nt := by simp [pad]; omega
      rcases Nat.lt_or_ge i nt with hlt | hge
      · have g1 : i < T'.length := by rw [h1.len]; exact hlt
        have g2 : i < (pad nt args).length := by omega
        by_cases hc : i < args.length
        · have hp : 0 ≤ i ∧ i < 0 + args.length ∧ i < nt := by omega
          rw [if_pos hp, Nat.sub_zero] at hi
          simp [List.getD_eq_getElem?_getD, g1, hc] at hi
          rw [List.getElem?_eq_getElem g1, hi]
          simp [pad, List.getElem?_append, hc]
        · have hp : ¬ (0 ≤ i ∧ i < 0 + args.length ∧ i < nt) := by omega
          rw [if_neg hp] at hi
          simp [List.getD_eq_getElem?_getD, g1, hlt] at hi
          rw [List.getElem?_eq_getElem g1, hi]
          have : i - args.length < nt - args.length := by omega
          simp [pad, List.getElem?_append, hc, this]
      · have g1 : T'.length ≤ i := by rw [h1.len]; exact hge
        rw [List.getElem?_eq_none g1, List.getElem?_eq_none (by omega)]
    rw [this] at h1
    exact h1
def viewT (r : Option (List D × Heap)) (k : List D → Heap → Option (Out × St)) : Option (Out × St) := match r with
  | some (args, H1) => k args H1
  | none => none
def bodyT (ce : ClE) (n : Nat) (fn : IF) (args : List D) (s : St) : Option (Out × St) :=
  bif fn.keep then withT fn.nt args fun t => finT fn.nt fn (codeT ce n fn.nt fn.body t s)
  else viewT (viewL fuelV args s.H) fun args H1 => withT fn.nt args fun t => fin2T fn.nt fn s (codeT ce n fn.nt fn.body t { H := H1, nx := s.nx, ro := s.nx })
theorem bodyT_ok {ce : ClE} {n : Nat} {fn : IF} {args : List D} {s : St} {o : Out × St} (h : bodyT ce n fn args s = some o) : bodyE ce n fn args s = some o := by
  rw [← bodyK_eq]
  unfold bodyT at h
  unfold bodyK
  cases hk : fn.keep with
  | true =>
    rw [hk] at h
    simp only [cond_true] at h ⊢
    obtain ⟨t, h1, h2⟩ := withT_ok h
    exact finT_ok (codeT_ok ce n fn.body t _ s h1) h2
  | false =>
    rw [hk] at h
    simp only [cond_false] at h ⊢
    cases hv : viewL fuelV args s.H with
    | none => rw [hv] at h; cases h
    | some p =>
      rw [hv] at h
      obtain ⟨a, H1⟩ := p
      simp only [viewT] at h
      obtain ⟨t, h1, h2⟩ := withT_ok h
      exact fin2T_ok (codeT_ok ce n fn.body t _ _ h1) h2
def callT (ir : FuncId → Option IF) (n : Nat) (k : Nat) : ClE := Nat.rec (fun _ _ _ => none) (fun _ ih f args s => lookK (ir f) fun fn => bodyT ih n fn args s) k
theorem callT_ok (ir : FuncId → Option IF) (n : Nat) : ∀ k, SoundE (callT ir n k) (callL ir)
  | 0 => fun f args s o s' Q h => by cases h
  | k + 1 => fun f args s o s' Q h hq => by
    have h' : lookK (ir f) (fun fn => bodyT (callT ir n k) n fn args s) = some (o, s') := h
    cases hf : ir f with
    | none => rw [hf] at h'; cases h'
    | some fn =>
      rw [hf] at h'
      exact callL_unfold hf (bodyE_ok (callL_mono ir) (callT_ok ir n k) (bodyT_ok h') hq)
end
end Go.Ai
