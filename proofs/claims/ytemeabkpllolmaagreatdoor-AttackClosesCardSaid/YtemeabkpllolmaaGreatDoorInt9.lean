/-
  A part of an interpreter over abstract data, proved sound once for the model: what it says of the code, the machine does in every order. Conditions: none beyond the statement.
-/
import Derived.Test.YtemeabkpllolmaaGreatDoorInt8
/-! The same evaluation in small steps, for the kernel. -/
set_option linter.unusedVariables false
set_option linter.unusedSimpArgs false
namespace Go.Ai
noncomputable section

def nthD (l : List D) : Nat → D := List.rec (fun _ => default) (fun x _ ih i => Nat.rec x (fun j _ => ih j) i) l
theorem nthD_eq (l : List D) : ∀ i, nthD l i = l.getD i default := by
  induction l with
  | nil => intro i; simp [nthD]
  | cons x l ih =>
    intro i
    cases i with
    | zero => rfl
    | succ i => exact (ih i).trans (by simp)
def setD (l : List D) : Nat → D → List D := List.rec (fun _ _ => []) (fun x t ih i d => Nat.rec (d :: t) (fun j _ => x :: ih j d) i) l
theorem setD_eq (l : List D) : ∀ i d, setD l i d = l.set i d := by
  induction l with
  | nil => intro i d; rfl
  | cons x l ih =>
    intro i d
    cases i with
    | zero => rfl
    | succ i => exact congrArg (x :: ·) (ih i d)

def evK (T : List D) (x : Opd) : D := Opd.rec (fun i => nthD T i) (fun d => d) x
theorem evK_eq (T : List D) : evK T = evO T := by
  funext x
  cases x with
  | t i => exact nthD_eq T i
  | c d => rfl

abbrev R2 := Option (D × St)
def xPick (c a b : D) (s : St) : R2 := match c with
    | .raw (.bool true) => some (a, s)
    | .raw (.bool false) => some (b, s)
    | _ => none
def xNilChk (x : D) (s : St) : R2 := match x with
    | .ref n o => some (.ref n o, s)
    | .iptr cs => some (.iptr cs, s)
    | .fn (.func f) a b => some (.fn (.func f) a b, s)
    | _ => none
def xAlloc (e : TypeId) (z : List D) (s : St) : R2 := if z.all one then some (.ref s.nx 0, (new s (.cells z e 0)).2) else none
def xBox (e : TypeId) (x : D) (s : St) : R2 := if (cellsOf x).all one then some (.ref s.nx 0, (new s (.cells (cellsOf x) e 0)).2) else none
def xBuild (z : List D) (ps : List (Nat × Nat × D)) (s : St) : R2 := match fill 0 z ps with
    | some cs => if z.all one then some (.agg cs, s) else none
    | none => none
def xBslice (e sz len : Nat) (z : List D) (ps : List (Nat × Nat × D)) (s : St) : R2 := match fill 0 (repZ z len) ps with
    | some cs => if z.all one ∧ z.length = sz ∧ len * sz ≤ 2 ^ 24 then some (.sl s.nx 0 len sz, (new s (.cells cs e 0)).2) else none
    | none => none
def xLoad (ag : Bool) (sz : Nat) (x : D) (s : St) : R2 := match x with
    | .ref n o => match lk s.H n with
      | some (.cells cs _ _) => (takeN (cs.drop o) ag sz).map fun d => (d, s)
      | _ => none
    | .iptr cs => (takeN cs ag sz).map fun d => (d, s)
    | _ => none
def xStore (sz : Nat) (x v : D) (s : St) : R2 := match x with
    | .ref n o => match lk s.H n with
      | some (.cells cs e lo) =>
        if (cellsOf v).length = sz ∧ (cellsOf v).all one ∧ o + sz ≤ cs.length ∧ lo ≤ o ∧ s.ro ≤ n then
          some (.raw undef, { s with H := upd s.H n (.cells (splice cs o (cellsOf v)) e lo) })
        else none
      | _ => none
    | _ => none
def xFaddr (off : Nat) (x : D) (s : St) : R2 := match x with
    | .ref n o => some (.ref n (o + off), s)
    | .iptr cs => some (.iptr (cs.drop off), s)
    | _ => none
def xField (ag : Bool) (off sz : Nat) (x : D) (s : St) : R2 := match x with
    | .agg cs => (takeN (cs.drop off) ag sz).map fun d => (d, s)
    | _ => none
def xIaddr (sz : Nat) (x i : D) (s : St) : R2 := match i with
    | .raw (.int _ k) => match x with
      | .sl n off len sz' => if sz' = sz ∧ 0 ≤ k ∧ k < len then some (.ref n (off + k.toNat * sz), s) else none
      | .lst xs => if 0 ≤ k ∧ k < xs.length then (if (xs.getD k.toNat []).length = sz then some (.iptr (xs.getD k.toNat []), s) else none) else none
      | _ => none
    | _ => none
def xIaddrA (len sz : Nat) (x i : D) (s : St) : R2 := match i with
    | .raw (.int _ k) => if 0 ≤ k ∧ k < len then match x with
      | .ref n o => some (.ref n (o + k.toNat * sz), s)
      | .iptr cs => some (.iptr (cs.drop (k.toNat * sz)), s)
      | _ => none
      else none
    | _ => none
def xIdxS (x i : D) (s : St) : R2 := match x, i with
    | .raw (.string b), .raw (.int _ k) => if 0 ≤ k then (b[k.toNat]?).map fun c => (.raw (.int .u8 c.toNat), s) else none
    | _, _ => none
def xIdxA (ag : Bool) (len sz : Nat) (x i : D) (s : St) : R2 := match x, i with
    | .agg cs, .raw (.int _ k) => if 0 ≤ k ∧ k < len then (takeN (cs.drop (k.toNat * sz)) ag sz).map fun d => (d, s) else none
    | _, _ => none
def xBin (op : BinOp) (x y : D) (s : St) : R2 := match x, y with
    | .raw a, .raw b => (bin op a b).map fun v => (.raw v, s)
    | _, _ => none
def xEq (neg : Bool) (k : EqK) (x y : D) (s : St) : R2 := (eqD k x y).map fun b => (.raw (.bool (neg != b)), s)
def xUn (op : UnOp) (x : D) (s : St) : R2 := match op, x with
    | .not, .raw (.bool b) => some (.raw (.bool (!b)), s)
    | .neg, .raw (.int k n) => some (.raw (.int k (k.wrap (0 - n))), s)
    | _, _ => none
def xConv (k : IntKind) (x : D) (s : St) : R2 := match x with
    | .raw (.int _ n) => some (.raw (.int k (k.wrap n)), s)
    | _ => none
def xConvS (x : D) (s : St) : R2 := match x with
    | .raw (.string b) => some (.raw (.string b), s)
    | _ => none
def xLen (k : Nat) (x : D) (s : St) : R2 := match k, x with
    | 1, .raw (.slice none 0 0) => some (.raw (.int .i64 0), s)
    | 1, .e0 => some (.raw (.int .i64 0), s)
    | 1, .sl _ _ n _ => some (.raw (.int .i64 n), s)
    | 1, .lst xs => some (.raw (.int .i64 xs.length), s)
    | 0, .raw (.string b) => some (.raw (.int .i64 b.size), s)
    | 2, .raw (.map none) => some (.raw (.int .i64 0), s)
    | 2, .map n => match lk s.H n with
      | some (.map es _) => some (.raw (.int .i64 es.length), s)
      | _ => none
    | 2, .imap es => some (.raw (.int .i64 es.length), s)
    | _, _ => none
def xMk (e sz bytes : Nat) (z : List D) (len cap : D) (s : St) : R2 := match len, cap with
    | .raw (.int .i64 l), .raw (.int .i64 c) =>
      if 0 ≤ l ∧ l ≤ c ∧ c * bytes ≤ 2 ^ 47 ∧ c ≤ 2 ^ 47 ∧ z.all one ∧ z.length = sz ∧ l = c then some (.sl s.nx 0 l.toNat sz, (new s (.cells (repZ z c.toNat) e 0)).2) else none
    | _, _ => none
def xLookup (kk : Nat) (zero : D) (ok : Bool) (x k : D) (s : St) : R2 := match k with
    | .raw kv =>
      match lkE kk kv s.H x with
      | some (some (_, d)) => some (if ok then .tup [d, .raw (.bool true)] else d, s)
      | some none => some (if ok then .tup [zero, .raw (.bool false)] else zero, s)
      | none => none
    | _ => none
def xMupd (kk : Nat) (x k v : D) (s : St) : R2 := match x, k with
    | .map n, .raw kv => match lk s.H n with
      | some (.map es false) =>
        if s.ro ≤ n then
          match findE kk kv es 0 with
          | some (some (i, _)) => some (.raw undef, { s with H := upd s.H n (.map (es.set i (kv, v)) false) })
          | some none => some (.raw undef, { s with H := upd s.H n (.map (es ++ [(kv, v)]) false) })
          | none => none
        else none
      | _ => none
    | _, _ => none
def xExtract (x : D) (i : Nat) (s : St) : R2 := match x with
    | .tup ds => (ds[i]?).map fun d => (d, s)
    | _ => none
def xMin (x y : D) (s : St) : R2 := match x, y with
    | .raw (.int k a), .raw (.int k' b) => if k = k' then some (.raw (.int k (if b < a then b else a)), s) else none
    | _, _ => none
def xMax (x y : D) (s : St) : R2 := match x, y with
    | .raw (.int k a), .raw (.int k' b) => if k = k' then some (.raw (.int k (if a < b then b else a)), s) else none
    | _, _ => none
def xRest (ρ : Opd → D) (i : I) (s : St) : R2 := exec ρ i s

def execK (ρ : Opd → D) (i : I) (s : St) : R2 :=
  match i with
  | .mv x => some (ρ x, s)
  | .pick c a b => xPick (ρ c) (ρ a) (ρ b) s
  | .nilChk x => xNilChk (ρ x) s
  | .alloc e z => xAlloc e z s
  | .box e x => xBox e (ρ x) s
  | .build z ps => xBuild z (ps.map fun p => (p.1, p.2.1, ρ p.2.2)) s
  | .bslice e sz len z ps => xBslice e sz len z (ps.map fun p => (p.1, p.2.1, ρ p.2.2)) s
  | .load ag sz x => xLoad ag sz (ρ x) s
  | .store sz x v => xStore sz (ρ x) (ρ v) s
  | .faddr off x => xFaddr off (ρ x) s
  | .field ag off sz x => xField ag off sz (ρ x) s
  | .iaddr sz x i => xIaddr sz (ρ x) (ρ i) s
  | .iaddrA len sz x i => xIaddrA len sz (ρ x) (ρ i) s
  | .idxS x i => xIdxS (ρ x) (ρ i) s
  | .idxA ag len sz x i => xIdxA ag len sz (ρ x) (ρ i) s
  | .bin op x y => xBin op (ρ x) (ρ y) s
  | .eq neg k x y => xEq neg k (ρ x) (ρ y) s
  | .un op x => xUn op (ρ x) s
  | .conv k x => xConv k (ρ x) s
  | .convS x => xConvS (ρ x) s
  | .len k x => xLen k (ρ x) s
  | .mk e sz bytes z len cap => xMk e sz bytes z (ρ len) (ρ cap) s
  | .mkmap => some (.map s.nx, (new s (.map [] false)).2)
  | .lookup kk zero ok x k => xLookup kk zero ok (ρ x) (ρ k) s
  | .mupd kk x k v => xMupd kk (ρ x) (ρ k) (ρ v) s
  | .mkfn f first cap => some (.fn f (first.map ρ) (cap.map ρ), s)
  | .mkif t x => some (.iface t (ρ x), s)
  | .extract x i => xExtract (ρ x) i s
  | .min2 x y => xMin (ρ x) (ρ y) s
  | .max2 x y => xMax (ρ x) (ρ y) s
  | .call .. | .callv .. | .panic .. => none
  | i => xRest ρ i s
theorem execK_eq (ρ : Opd → D) (i : I) (s : St) : execK ρ i s = exec ρ i s := by
  cases i <;> rfl

/-! ### Regions and code -/
def wantK (T : List D) (g : Option (Nat × Bool)) : Bool := match g with
  | none => true
  | some (t, b) => match nthD T t with
    | .raw (.bool c) => c == b
    | _ => false
theorem wantK_eq (T : List D) (g : Option (Nat × Bool)) : wantK T g = wants T g := by
  cases g with
  | none => rfl
  | some p => obtain ⟨t, b⟩ := p; simp only [wantK, wants, nthD_eq]; rfl
def putK (T : List D) (dst : Option Nat) (d : D) : List D := match dst with
  | some k => setD T k d
  | none => T
theorem putK_eq (T : List D) (dst : Option Nat) (d : D) : putK T dst d = setT T dst d := by
  cases dst with
  | none => rfl
  | some k => exact setD_eq T k d

def retK (r : R2) : Option (Out × St) := match r with
  | some (d, s') => some (.ret d, s')
  | none => none
def cvK (ce : ClE) (x : D) (xs : List D) (s : St) : Option (Out × St) := match x with
  | .fn (.func f) first cap => ce f (first ++ xs ++ cap) s
  | _ => none
def panK (x : D) (s : St) : Option (Out × St) := match x with
  | .iface t d => some (.pan (.iface t d), s)
  | _ => none
def opK (ce : ClE) (T : List D) (i : I) (s : St) : Option (Out × St) :=
  match i with
  | .call f xs => ce f (xs.map (evK T)) s
  | .callv x xs => cvK ce (evK T x) (xs.map (evK T)) s
  | .panic x => panK (evK T x) s
  | i => retK (execK (evK T) i s)
theorem opK_eq (ce : ClE) (T : List D) (i : I) (s : St) : opK ce T i s = opE ce (evO T) i s := by
  cases i <;> simp only [opK, opE, evK_eq, execK_eq] <;> rfl

abbrev R3 := Option (Ex × List D × St)
def afterK (T : List D) (dst : Option Nat) (k : List D → St → R3) (r : Option (Out × St)) : R3 := match r with
  | some (.ret d, s') => k (putK T dst d) s'
  | some (.pan d, s') => some (.pan d, [], s')
  | none => none
def opsK (ce : ClE) (ops : List IOp) : List D → St → R3 :=
  List.rec (fun T s => some (.nrm, T, s)) (fun o _ ih T s => bif wantK T o.guard then afterK T o.dst ih (opK ce T o.i s) else ih (putK T o.dst default) s) ops
theorem opsK_eq (ce : ClE) (ops : List IOp) : opsK ce ops = opsE ce ops := by
  induction ops with
  | nil => rfl
  | cons o rest ih =>
    funext T s
    have : opsK ce (o :: rest) T s = bif wantK T o.guard then afterK T o.dst (opsK ce rest) (opK ce T o.i s) else opsK ce rest (putK T o.dst default) s := rfl
    rw [this, ih, wantK_eq, putK_eq, opK_eq]
    simp only [opsE]
    cases wants T o.guard with
    | false => rfl
    | true =>
      simp only [cond_true, if_true, afterK]
      cases opE ce (evO T) o.i s with
      | none => rfl
      | some p =>
        obtain ⟨r, s'⟩ := p
        cases r with
        | ret d => simp only [putK_eq]
        | pan d => rfl

def seqK (k : List D → St → R3) (r : R3) : R3 := match r with
  | some (x, T, s) => match x with
    | .nrm => k T s
    | x => some (x, T, s)
  | none => none
def condK (c : D) (a b : R3) : R3 := match c with
  | .raw (.bool true) => a
  | .raw (.bool false) => b
  | _ => none
def blockK (id : Nat) (r : R3) : R3 := match r with
  | some (x, T, s) => match x with
    | .exit i => bif Nat.beq i id then some (.nrm, T, s) else some (.exit i, T, s)
    | x => some (x, T, s)
  | none => none
def loopK (b : List D → St → R3) (n : Nat) : List D → St → R3 := Nat.rec (fun _ _ => none) (fun _ ih T s => seqK ih (b T s)) n
def drawK (r : Option (List D × St)) : R3 := match r with
  | some (T, s) => some (.nrm, T, s)
  | none => none
def codeK (ce : ClE) (n : Nat) (c : IC) : List D → St → R3 :=
  IC.rec (fun T s => some (.nrm, T, s)) (fun ops => opsK ce ops) (fun ops T s => drawK (drawE ce ops T s)) (fun _ _ a b T s => seqK b (a T s)) (fun c _ _ a b T s => condK (evK T c) (a T s) (b T s)) (fun id _ b T s => blockK id (b T s))
    (fun _ b => loopK b n) (fun id T s => some (.exit id, T, s)) (fun _ b => b) (fun T s => some (.ret, T, s)) c
theorem seqK_eq (k : List D → St → R3) (r : R3) : seqK k r = match r with
    | some (.nrm, T', s') => k T' s'
    | r => r := by
  cases r with
  | none => rfl
  | some p => obtain ⟨x, T, s⟩ := p; cases x <;> rfl
theorem loopK_eq (b : List D → St → R3) : ∀ n, loopK b n = loopE b n
  | 0 => rfl
  | n + 1 => by
    funext T s
    have : loopK b (n + 1) T s = seqK (loopK b n) (b T s) := rfl
    rw [this, loopK_eq b n, seqK_eq]
    rfl
theorem codeK_eq (ce : ClE) (n : Nat) : ∀ c, codeK ce n c = codeE ce n c
  | .skip => rfl
  | .region ops => opsK_eq ce ops
  | .draw ops => by
    funext T s
    have : codeK ce n (.draw ops) T s = drawK (drawE ce ops T s) := rfl
    rw [this]
    simp only [codeE, drawK]
    rfl
  | .seq a b => by
    funext T s
    have : codeK ce n (.seq a b) T s = seqK (codeK ce n b) (codeK ce n a T s) := rfl
    rw [this, codeK_eq ce n a, codeK_eq ce n b, seqK_eq]
    rfl
  | .cond c a b => by
    funext T s
    have : codeK ce n (.cond c a b) T s = condK (evK T c) (codeK ce n a T s) (codeK ce n b T s) := rfl
    rw [this, codeK_eq ce n a, codeK_eq ce n b, evK_eq]
    rfl
  | .block id b => by
    funext T s
    have : codeK ce n (.block id b) T s = blockK id (codeK ce n b T s) := rfl
    rw [this, codeK_eq ce n b]
    simp only [codeE]
    cases codeE ce n b T s with
    | none => rfl
    | some p =>
      obtain ⟨x, T', s'⟩ := p
      cases x with
      | exit i =>
        simp only [blockK]
        by_cases h : i = id
        · subst h; simp [Nat.beq_refl]
        · have : Nat.beq i id = false := by
            cases hb : Nat.beq i id with
            | false => rfl
            | true => exact absurd (Nat.eq_of_beq_eq_true hb) h
          simp [this, h]
      | _ => rfl
  | .loop b => by
    have : codeK ce n (.loop b) = loopK (codeK ce n b) n := rfl
    rw [this, codeK_eq ce n b, loopK_eq]
    rfl
  | .scope b => codeK_eq ce n b
  | .exit _ => rfl
  | .ret => rfl

def finK (fn : IF) (r : R3) : Option (Out × St) := match r with
  | some (x, T, s') => match x with
    | .pan d => some (.pan d, s')
    | .exit _ => none
    | _ => match resD T s'.H fn.res with
      | some d => some (.ret d, s')
      | none => none
  | none => none
def fin2K (fn : IF) (s : St) (r : R3) : Option (Out × St) := match r with
  | some (x, T, s') => match x with
    | .pan d => (match view fuelV d s'.H with
        | some (d, H2) => some (.pan d, { H := cut s.nx H2, nx := s'.nx, ro := s.ro })
        | none => none)
    | .exit _ => none
    | _ => match resD T s'.H fn.res with
        | some d => if rigid fuelV d then some (.ret d, { H := s.H, nx := s'.nx, ro := s.ro }) else match view fuelV d s'.H with
          | some (d, H2) => some (.ret d, { H := cut s.nx H2, nx := s'.nx, ro := s.ro })
          | none => none
        | none => none
  | none => none
def bodyK (ce : ClE) (n : Nat) (fn : IF) (args : List D) (s : St) : Option (Out × St) :=
  bif fn.keep then finK fn (codeK ce n fn.body (pad fn.nt args) s)
  else match viewL fuelV args s.H with
    | none => none
    | some (args, H1) => fin2K fn s (codeK ce n fn.body (pad fn.nt args) { H := H1, nx := s.nx, ro := s.nx })
theorem bodyK_eq (ce : ClE) (n : Nat) (fn : IF) (args : List D) (s : St) : bodyK ce n fn args s = bodyE ce n fn args s := by
  unfold bodyK bodyE
  rw [codeK_eq]
  cases fn.keep with
  | true =>
    simp only [cond_true, if_true]
    cases codeE ce n fn.body (pad fn.nt args) s with
    | none => rfl
    | some p => obtain ⟨x, T, s'⟩ := p; cases x <;> rfl
  | false =>
    simp only [cond_false, Bool.false_eq_true, if_false]
    cases viewL fuelV args s.H with
    | none => rfl
    | some q =>
      obtain ⟨args', H1⟩ := q
      dsimp only
      cases codeE ce n fn.body (pad fn.nt args') { H := H1, nx := s.nx, ro := s.nx } with
      | none => rfl
      | some p => obtain ⟨x, T, s'⟩ := p; cases x <;> rfl
def lookK (r : Option IF) (k : IF → Option (Out × St)) : Option (Out × St) := match r with
  | some fn => k fn
  | none => none
def callK (ir : FuncId → Option IF) (n : Nat) (k : Nat) : ClE := Nat.rec (fun _ _ _ => none) (fun _ ih f args s => lookK (ir f) fun fn => bodyK ih n fn args s) k
theorem callK_eq (ir : FuncId → Option IF) (n : Nat) : ∀ k, callK ir n k = callE ir n k
  | 0 => rfl
  | k + 1 => by
    funext f args s
    have : callK ir n (k + 1) f args s = lookK (ir f) fun fn => bodyK (callK ir n k) n fn args s := rfl
    rw [this, callK_eq ir n k]
    simp only [callE, lookK, bodyK_eq]
    rfl
end
end Go.Ai
