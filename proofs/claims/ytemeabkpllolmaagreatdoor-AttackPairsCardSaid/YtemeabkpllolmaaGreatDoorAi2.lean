/-
  A part of an interpreter over abstract data, proved sound once for the model: what it says of the code, the machine does in every order. Conditions: none beyond the statement.
-/
import Derived.Test.YtemeabkpllolmaaGreatDoorAi1
/-! The code's form over abstract data, and what it does. -/
set_option linter.unusedVariables false
namespace Go.Ai

inductive Opd where
  | t (i : Nat)
  | c (d : D)

/-- What '==' compares. -/
inductive EqK where
  | bool
  | slice
  | func
  | struct (ks : List Nat)

inductive I where
  | mv (x : Opd)
  | pick (c a b : Opd)
  | nilChk (x : Opd)
  | alloc (e : TypeId) (z : List D)
  | box (e : TypeId) (x : Opd)
  | build (z : List D) (ps : List (Nat × Nat × Opd))
  | bslice (e sz len : Nat) (z : List D) (ps : List (Nat × Nat × Opd))
  | load (ag : Bool) (sz : Nat) (x : Opd)
  | store (sz : Nat) (x v : Opd)
  | faddr (off : Nat) (x : Opd)
  | field (ag : Bool) (off sz : Nat) (x : Opd)
  | iaddr (sz : Nat) (x i : Opd)
  | iaddrA (len sz : Nat) (x i : Opd)
  | idxS (x i : Opd)
  | idxA (ag : Bool) (len sz : Nat) (x i : Opd)
  | bin (op : BinOp) (x y : Opd)
  | eq (neg : Bool) (k : EqK) (x y : Opd)
  | un (op : UnOp) (x : Opd)
  | conv (k : IntKind) (x : Opd)
  | convS (x : Opd)
  | slice (sz : Nat) (x : Opd) (lo hi mx : Option Opd)
  | sliceS (x : Opd) (lo hi : Option Opd)
  | len (k : Nat) (x : Opd)
  | mk (e sz bytes : Nat) (z : List D) (len cap : Opd)
  | mkmap
  | lookup (kk : Nat) (zero : D) (ok : Bool) (x k : Opd)
  | mupd (kk : Nat) (x k v : Opd)
  | mkfn (f : Fn) (first captured : List Opd)
  | mkif (t : TypeId) (x : Opd)
  | extract (x : Opd) (i : Nat)
  | append (e sz bytes : Nat) (x y : Opd)
  | min2 (x y : Opd)
  | max2 (x y : Opd)
  | clear (sz : Nat) (z : List D) (x : Opd)
  | call (f : FuncId) (xs : List Opd)
  | callv (x : Opd) (xs : List Opd)
  | panic (x : Opd)

structure IOp where
  dst : Option Nat
  i : I
  guard : Option (Nat × Bool)
  af : List Nat

inductive IC where
  | skip
  | region (ops : List IOp)
  | draw (ops : List IOp)
  | seq (a b : IC)
  | cond (c : Opd) (a b : IC)
  | block (id : Nat) (b : IC)
  | loop (b : IC)
  | exit (id : Nat)
  | scope (b : IC)
  | ret

/-- A result: a temporary, or what a variable holds at the end. -/
inductive RV where
  | tmp (t : Nat)
  | cell (t : Nat) (ag : Bool) (sz : Nat)

structure IF where
  nt : Nat
  res : List RV
  keep : Bool
  body : IC

inductive Out where
  | ret (d : D)
  | pan (d : D)

inductive Ex where
  | nrm
  | exit (id : Nat)
  | ret
  | pan (d : D)

/-! ### Plain functions on data -/
def cellsOf : D → List D
  | .agg cs => cs
  | d => [d]
def one : D → Bool
  | .raw (.agg _) => false
  | .raw (.tuple _) => false
  | .agg _ => false
  | .tup _ => false
  | _ => true
def splice (cs : List D) (off : Nat) (vs : List D) : List D := cs.take off ++ (vs ++ cs.drop (off + vs.length))
def chunks (sz : Nat) : Nat → List D → List (List D)
  | 0, _ => []
  | n + 1, cs => cs.take sz :: chunks sz n (cs.drop sz)
def fill (sz? : Nat) (cells : List D) : List (Nat × Nat × D) → Option (List D)
  | [] => some cells
  | (off, sz, d) :: rest =>
    let vs := cellsOf d
    if vs.length = sz ∧ off + sz ≤ cells.length ∧ vs.all one then fill sz? (splice cells off vs) rest else none
def repZ (z : List D) : Nat → List D
  | 0 => []
  | n + 1 => z ++ repZ z n
def takeN (cs : List D) (ag : Bool) (sz : Nat) : Option D :=
  let l := cs.take sz
  if l.length = sz then (if ag then some (.agg l) else if sz = 1 then l.head? else none) else none

def bin : BinOp → Value → Value → Option Value
  | op, .int k a, .int k' b =>
    match op with
    | .shl => if b < 0 then none else some (.int k (k.wrap (a * 2 ^ (min b.toNat k.bits))))
    | .shr => if b < 0 then none else some (.int k (a.fdiv (2 ^ (min b.toNat k.bits))))
    | op =>
      if k = k' then
        match op with
        | .add => some (.int k (k.wrap (a + b)))
        | .sub => some (.int k (k.wrap (a - b)))
        | .mul => some (.int k (k.wrap (a * b)))
        | .quo => if b = 0 then none else some (.int k (k.wrap (a.tdiv b)))
        | .rem => if b = 0 then none else some (.int k (a.tmod b))
        | .and => some (.int k (k.wrap (BitVec.ofInt k.bits a &&& BitVec.ofInt k.bits b).toNat))
        | .or => some (.int k (k.wrap (BitVec.ofInt k.bits a ||| BitVec.ofInt k.bits b).toNat))
        | .xor => some (.int k (k.wrap (BitVec.ofInt k.bits a ^^^ BitVec.ofInt k.bits b).toNat))
        | .andNot => some (.int k (k.wrap (BitVec.ofInt k.bits a &&& ~~~ BitVec.ofInt k.bits b).toNat))
        | .eql => some (.bool (a == b))
        | .neq => some (.bool (a != b))
        | .lss => some (.bool (a < b))
        | .leq => some (.bool (a ≤ b))
        | .gtr => some (.bool (a > b))
        | .geq => some (.bool (a ≥ b))
        | _ => none
      else none
  | op, .string x, .string y =>
    match op with
    | .add => if ((x.size + y.size : Nat) : Int) > IntKind.i64.max then none else some (.string (x ++ y))
    | .eql => some (.bool (x.toList == y.toList))
    | .neq => some (.bool !(x.toList == y.toList))
    | .lss => some (.bool (Op.bytesLess x.toList y.toList))
    | .leq => some (.bool (Op.bytesLess x.toList y.toList || x.toList == y.toList))
    | .gtr => some (.bool !(Op.bytesLess x.toList y.toList || x.toList == y.toList))
    | .geq => some (.bool !(Op.bytesLess x.toList y.toList))
    | _ => none
  | _, _, _ => none

/-- '==' of two cells: of ints (0), strings (1), bools (2). -/
def eqCell : Nat → D → D → Option Bool
  | 0, .raw (.int k a), .raw (.int k' b) => if k = k' then some (a == b) else none
  | 1, .raw (.string a), .raw (.string b) => some (a == b)
  | 2, .raw (.bool a), .raw (.bool b) => some (a == b)
  | _, _, _ => none
def eqCells : List Nat → List D → List D → Option Bool
  | [], [], [] => some true
  | k :: ks, x :: xs, y :: ys => match eqCell k x y with
    | some true => eqCells ks xs ys
    | some false => some false
    | none => none
  | _, _, _ => none
def eqD : EqK → D → D → Option Bool
  | .bool, .raw (.bool a), .raw (.bool b) => some (a == b)
  | .struct ks, .agg xs, .agg ys => if xs.length = ks.length ∧ ys.length = ks.length then eqCells ks xs ys else none
  | .slice, .raw (.slice none _ _), .raw (.slice none _ _) => some true
  | .slice, .sl .., .raw (.slice none _ _) => some false
  | .slice, .lst (_ :: _), .raw (.slice none _ _) => some false
  | .func, .raw .nilFunc, .raw .nilFunc => some true
  | .func, .fn .., .raw .nilFunc => some false
  | _, _, _ => none

def keyEq : Nat → Value → Value → Option Bool
  | 0, .int k a, .int k' b => if k = k' then some (a == b) else none
  | 1, .string a, .string b => some (a == b)
  | 2, .bool a, .bool b => some (a == b)
  | _, _, _ => none
def findE (kk : Nat) (k : Value) : List (Value × D) → Nat → Option (Option (Nat × D))
  | [], _ => some none
  | (k', d) :: t, i => match keyEq kk k k' with
    | some true => some (some (i, d))
    | some false => findE kk k t (i + 1)
    | none => none

def lkE (kk : Nat) (kv : Value) (H : Heap) : D → Option (Option (Nat × D))
  | .raw (.map none) => some none
  | .map n => match lk H n with
    | some (.map es _) => findE kk kv es 0
    | _ => none
  | .imap es => findE kk kv es 0
  | _ => none

def asI : D → Option Int
  | .raw (.int _ n) => some n
  | _ => none
/-- A bound of a slice expression. -/
def bnd (x : Option D) (dflt : Nat) (most : Nat) : Option Nat :=
  match x with
  | none => some dflt
  | some (.raw (.int _ n)) => if 0 ≤ n ∧ n ≤ most then some n.toNat else none
  | _ => none

/-- The elements of a slice. -/
def elems (H : Heap) (sz : Nat) : D → Option (List D × Nat)
  | .raw (.slice none 0 0) => some ([], 0)
  | .e0 => some ([], 0)
  | .lst xs => if xs.all (fun x => x.length == sz) then some (xs.flatten, xs.length) else none
  | .sl n off len sz' => if sz' = sz then match lk H n with
    | some (.cells cs _ _) => if off + len * sz ≤ cs.length then some ((cs.drop off).take (len * sz), len) else none
    | _ => none
    else none
  | _ => none

mutual
/-- Data as nobody may write it any more: what it leads to is sealed. -/
def view : Nat → D → Heap → Option (D × Heap)
  | 0, _, _ => none
  | k + 1, d, H =>
    match d with
    | .raw (.slice none 0 0) => some (.lst [], H)
    | .e0 => some (.lst [], H)
    | .agg cs => match viewL k cs H with
      | some (l, H) => some (.agg l, H)
      | none => none
    | .tup cs => match viewL k cs H with
      | some (l, H) => some (.tup l, H)
      | none => none
    | .iface t d => match view k d H with
      | some (d, H) => some (.iface t d, H)
      | none => none
    | .sl n off len sz => match lk H n with
      | some (.cells cs e lo) =>
        if off + len * sz ≤ cs.length then
          match viewL k ((cs.drop off).take (len * sz)) (upd H n (.cells cs e (max lo (off + len * sz)))) with
          | some (l, H) => some (.lst (chunks sz len l), H)
          | none => none
        else none
      | _ => none
    | .map n => match lk H n with
      | some (.map es _) =>
        match viewL k (es.map (·.2)) (upd H n (.map es true)) with
        | some (l, H) => some (.imap (es.zipWith (fun e d => (e.1, d)) l), H)
        | none => none
      | _ => none
    | d => some (d, H)
def viewL : Nat → List D → Heap → Option (List D × Heap)
  | _, [], H => some ([], H)
  | 0, _ :: _, _ => none
  | k + 1, d :: ds, H => match view k d H with
    | some (d', H) => match viewL k ds H with
      | some (l, H) => some (d' :: l, H)
      | none => none
    | none => none
end

mutual
def rigid : Nat → D → Bool
  | 0, _ => false
  | k + 1, d => match d with
    | .raw _ => true
    | .e0 => true
    | .tup ds => rigidL k ds
    | .agg ds => rigidL k ds
    | _ => false
def rigidL : Nat → List D → Bool
  | _, [] => true
  | 0, _ :: _ => false
  | k + 1, d :: ds => rigid k d && rigidL k ds
end

/-! ### One operation -/
def new (s : St) (o : Obj) : Nat × St := (s.nx, { s with H := (s.nx, o) :: s.H, nx := s.nx + 1 })

def exec (ρ : Opd → D) (i : I) (s : St) : Option (D × St) :=
  match i with
  | .mv x => some (ρ x, s)
  | .pick c a b => match ρ c with
    | .raw (.bool true) => some (ρ a, s)
    | .raw (.bool false) => some (ρ b, s)
    | _ => none
  | .nilChk x => match ρ x with
    | .ref n o => some (.ref n o, s)
    | .iptr cs => some (.iptr cs, s)
    | .fn (.func f) a b => some (.fn (.func f) a b, s)
    | _ => none
  | .alloc e z => if z.all one then some (.ref s.nx 0, (new s (.cells z e 0)).2) else none
  | .box e x => if (cellsOf (ρ x)).all one then some (.ref s.nx 0, (new s (.cells (cellsOf (ρ x)) e 0)).2) else none
  | .build z ps => match fill 0 z (ps.map fun p => (p.1, p.2.1, ρ p.2.2)) with
    | some cs => if z.all one then some (.agg cs, s) else none
    | none => none
  | .bslice e sz len z ps => match fill 0 (repZ z len) (ps.map fun p => (p.1, p.2.1, ρ p.2.2)) with
    | some cs => if z.all one ∧ z.length = sz ∧ len * sz ≤ 2 ^ 24 then some (.sl s.nx 0 len sz, (new s (.cells cs e 0)).2) else none
    | none => none
  | .load ag sz x => match ρ x with
    | .ref n o => match lk s.H n with
      | some (.cells cs _ _) => (takeN (cs.drop o) ag sz).map fun d => (d, s)
      | _ => none
    | .iptr cs => (takeN cs ag sz).map fun d => (d, s)
    | _ => none
  | .store sz x v => match ρ x with
    | .ref n o => match lk s.H n with
      | some (.cells cs e lo) =>
        if (cellsOf (ρ v)).length = sz ∧ (cellsOf (ρ v)).all one ∧ o + sz ≤ cs.length ∧ lo ≤ o ∧ s.ro ≤ n then
          some (.raw undef, { s with H := upd s.H n (.cells (splice cs o (cellsOf (ρ v))) e lo) })
        else none
      | _ => none
    | _ => none
  | .faddr off x => match ρ x with
    | .ref n o => some (.ref n (o + off), s)
    | .iptr cs => some (.iptr (cs.drop off), s)
    | _ => none
  | .field ag off sz x => match ρ x with
    | .agg cs => (takeN (cs.drop off) ag sz).map fun d => (d, s)
    | _ => none
  | .iaddr sz x i => match ρ i with
    | .raw (.int _ k) => match ρ x with
      | .sl n off len sz' => if sz' = sz ∧ 0 ≤ k ∧ k < len then some (.ref n (off + k.toNat * sz), s) else none
      | .lst xs => if 0 ≤ k ∧ k < xs.length then (if (xs.getD k.toNat []).length = sz then some (.iptr (xs.getD k.toNat []), s) else none) else none
      | _ => none
    | _ => none
  | .iaddrA len sz x i => match ρ i with
    | .raw (.int _ k) => if 0 ≤ k ∧ k < len then match ρ x with
      | .ref n o => some (.ref n (o + k.toNat * sz), s)
      | .iptr cs => some (.iptr (cs.drop (k.toNat * sz)), s)
      | _ => none
      else none
    | _ => none
  | .idxS x i => match ρ x, ρ i with
    | .raw (.string b), .raw (.int _ k) => if 0 ≤ k then (b[k.toNat]?).map fun c => (.raw (.int .u8 c.toNat), s) else none
    | _, _ => none
  | .idxA ag len sz x i => match ρ x, ρ i with
    | .agg cs, .raw (.int _ k) => if 0 ≤ k ∧ k < len then (takeN (cs.drop (k.toNat * sz)) ag sz).map fun d => (d, s) else none
    | _, _ => none
  | .bin op x y => match ρ x, ρ y with
    | .raw a, .raw b => (bin op a b).map fun v => (.raw v, s)
    | _, _ => none
  | .eq neg k x y => (eqD k (ρ x) (ρ y)).map fun b => (.raw (.bool (neg != b)), s)
  | .un op x => match op, ρ x with
    | .not, .raw (.bool b) => some (.raw (.bool (!b)), s)
    | .neg, .raw (.int k n) => some (.raw (.int k (k.wrap (0 - n))), s)
    | _, _ => none
  | .conv k x => match ρ x with
    | .raw (.int _ n) => some (.raw (.int k (k.wrap n)), s)
    | _ => none
  | .convS x => match ρ x with
    | .raw (.string b) => some (.raw (.string b), s)
    | _ => none
  | .slice sz x lo hi mx =>
    let one_ (len : Nat) : Option (Nat × Nat) := match bnd (hi.map ρ) len len with
      | some h => match bnd (lo.map ρ) 0 h with
        | some l => match mx with
          | none => some (l, h)
          | some m => match bnd (some (ρ m)) 0 len with
            | some m => if h ≤ m ∧ hi.isSome then some (l, h) else none
            | none => none
        | none => none
      | none => none
    let cap0 (l : Nat) : Bool := match mx with
      | none => false
      | some m => match asI (ρ m) with
        | some m => m == l
        | none => false
    match ρ x with
    | .sl n off len sz' => if sz' = sz then match one_ len with
      | some (l, h) => if cap0 l then some (.e0, s) else if mx.isSome then none else some (.sl n (off + l * sz) (h - l) sz, s)
      | none => none
      else none
    | .lst xs => if (match xs with | [] => true | x :: _ => x.length == sz) then match one_ xs.length with
      | some (l, h) => if cap0 l then some (.e0, s) else if mx.isSome then none else some (.lst ((xs.drop l).take (h - l)), s)
      | none => none
      else none
    | .raw (.slice none 0 0) => match one_ 0 with
      | some _ => some (.raw (.slice none 0 0), s)
      | none => none
    | .e0 => match one_ 0 with
      | some _ => some (.e0, s)
      | none => none
    | _ => none
  | .sliceS x lo hi => match ρ x with
    | .raw (.string b) => match bnd (hi.map ρ) b.size b.size with
      | some h => match bnd (lo.map ρ) 0 h with
        | some l => some (.raw (.string (b.extract l h)), s)
        | none => none
      | none => none
    | _ => none
  | .len k x => match k, ρ x with
    | 1, .raw (.slice none 0 0) => some (.raw (.int .i64 0), s)
    | 1, .e0 => some (.raw (.int .i64 0), s)
    | 1, .sl _ _ n _ => some (.raw (.int .i64 n), s)
    | 1, .lst xs => some (.raw (.int .i64 xs.length), s)
    | 0, .raw (.string b) => some (.raw (.int .i64 b.size), s)
    | 2, .raw (.map none) => some (.raw (.int .i64 0), s)
    | 2, .map n => match lk s.H n with
      | some (.map es _) => some (.raw (.int .i64 es.length), s)
      | _ => none
    | 2, .imap es => some (.raw (.int .i64 es.length), s)
    | _, _ => none
  | .mk e sz bytes z len cap => match ρ len, ρ cap with
    | .raw (.int .i64 l), .raw (.int .i64 c) =>
      if 0 ≤ l ∧ l ≤ c ∧ c * bytes ≤ 2 ^ 47 ∧ c ≤ 2 ^ 47 ∧ z.all one ∧ z.length = sz ∧ l = c then some (.sl s.nx 0 l.toNat sz, (new s (.cells (repZ z c.toNat) e 0)).2) else none
    | _, _ => none
  | .mkmap => some (.map s.nx, (new s (.map [] false)).2)
  | .lookup kk zero ok x k => match ρ k with
    | .raw kv =>
      match lkE kk kv s.H (ρ x) with
      | some (some (_, d)) => some (if ok then .tup [d, .raw (.bool true)] else d, s)
      | some none => some (if ok then .tup [zero, .raw (.bool false)] else zero, s)
      | none => none
    | _ => none
  | .mupd kk x k v => match ρ x, ρ k with
    | .map n, .raw kv => match lk s.H n with
      | some (.map es false) =>
        if s.ro ≤ n then
          match findE kk kv es 0 with
          | some (some (i, _)) => some (.raw undef, { s with H := upd s.H n (.map (es.set i (kv, ρ v)) false) })
          | some none => some (.raw undef, { s with H := upd s.H n (.map (es ++ [(kv, ρ v)]) false) })
          | none => none
        else none
      | _ => none
    | _, _ => none
  | .mkfn f first cap => some (.fn f (first.map ρ) (cap.map ρ), s)
  | .mkif t x => some (.iface t (ρ x), s)
  | .extract x i => match ρ x with
    | .tup ds => (ds[i]?).map fun d => (d, s)
    | _ => none
  | .append e sz bytes x y => match elems s.H sz (ρ y) with
    | some (ys, k) =>
      if k = 0 then (match ρ x with
        | .raw (.slice none 0 0) => some (ρ x, s)
        | .e0 => some (ρ x, s)
        | .sl n off len sz' => some (ρ x, s)
        | .lst xs => some (ρ x, s)
        | _ => none)
      else match ρ x with
        | .raw (.slice none 0 0) => if k * bytes ≤ 2 ^ 47 ∧ k ≤ 2 ^ 47 ∧ ys.all one then some (.sl s.nx 0 k sz, (new s (.cells ys e 0)).2) else none
        | .e0 => if k * bytes ≤ 2 ^ 47 ∧ k ≤ 2 ^ 47 ∧ ys.all one then some (.sl s.nx 0 k sz, (new s (.cells ys e 0)).2) else none
        | .sl n off len sz' => match lk s.H n with
          | some (.cells cs e' lo) =>
            if sz' = sz ∧ e' = e ∧ off + len * sz = cs.length ∧ lo ≤ off + len * sz ∧ s.ro ≤ n ∧ (len + k) * bytes ≤ 2 ^ 47 ∧ len + k ≤ 2 ^ 47 ∧ ys.all one then
              some (.sl s.nx 0 (len + k) sz, (new { s with H := rm s.H n } (.cells (cs.drop off ++ ys) e (lo - off))).2)
            else none
          | _ => none
        | _ => none
    | none => none
  | .min2 x y => match ρ x, ρ y with
    | .raw (.int k a), .raw (.int k' b) => if k = k' then some (.raw (.int k (if b < a then b else a)), s) else none
    | _, _ => none
  | .max2 x y => match ρ x, ρ y with
    | .raw (.int k a), .raw (.int k' b) => if k = k' then some (.raw (.int k (if a < b then b else a)), s) else none
    | _, _ => none
  | .clear sz z x => match ρ x with
    | .raw (.slice none 0 0) => some (.tup [], s)
    | .e0 => some (.tup [], s)
    | .sl n off len sz' => match lk s.H n with
      | some (.cells cs e lo) => if sz' = sz ∧ z.length = sz ∧ z.all one ∧ off + len * sz ≤ cs.length ∧ lo ≤ off ∧ s.ro ≤ n then
          some (.tup [], { s with H := upd s.H n (.cells (splice cs off (repZ z len)) e lo) })
        else none
      | _ => none
    | _ => none
  | .call .. | .callv .. | .panic .. => none

def resOne (T : List D) (H : Heap) : RV → Option D
  | .tmp t => some (T.getD t default)
  | .cell t ag sz => match T.getD t default with
    | .ref n o => match lk H n with
      | some (.cells cs _ _) => takeN (cs.drop o) ag sz
      | _ => none
    | .iptr cs => takeN cs ag sz
    | _ => none
def resL (T : List D) (H : Heap) : List RV → Option (List D)
  | [] => some []
  | r :: rs => match resOne T H r, resL T H rs with
    | some d, some ds => some (d :: ds)
    | _, _ => none
def resD (T : List D) (H : Heap) (rs : List RV) : Option D := match resL T H rs with
  | some [d] => some d
  | some ds => some (.tup ds)
  | none => none

/-! ### Code -/
abbrev M (α : Type) := St → (α → St → Prop) → Prop

def evO (T : List D) : Opd → D
  | .t i => T.getD i default
  | .c d => d

def opM (cl : FuncId → List D → M Out) (ρ : Opd → D) (i : I) : M Out := fun s Q =>
  match i with
  | .call f xs => cl f (xs.map ρ) s Q
  | .callv x xs => match ρ x with
    | .fn (.func f) first cap => cl f (first ++ xs.map ρ ++ cap) s Q
    | _ => False
  | .panic x => match ρ x with
    | .iface t d => Q (.pan (.iface t d)) s
    | _ => False
  | i => match exec ρ i s with
    | some (d, s') => Q (.ret d) s'
    | none => False

def wants (T : List D) : Option (Nat × Bool) → Bool
  | none => true
  | some (t, b) => match T.getD t default with
    | .raw (.bool c) => c == b
    | _ => false
def setT (T : List D) (dst : Option Nat) (d : D) : List D :=
  match dst with
  | some k => T.set k d
  | none => T

def opsM (cl : FuncId → List D → M Out) : List IOp → List D → M (Ex × List D)
  | [], T => fun s Q => Q (.nrm, T) s
  | o :: rest, T => fun s Q =>
    if wants T o.guard then opM cl (evO T) o.i s fun out s' => match out with
      | .ret d => opsM cl rest (setT T o.dst d) s' Q
      | .pan d => Q (.pan d, []) s'
    else opsM cl rest (setT T o.dst default) s Q

/-! ### Orders that do not matter -/
def opnds : I → List Opd
  | .mv x => [x]
  | .pick c a b => [c, a, b]
  | .nilChk x => [x]
  | .alloc _ _ => []
  | .box _ x => [x]
  | .build _ ps => ps.map (·.2.2)
  | .bslice _ _ _ _ ps => ps.map (·.2.2)
  | .load _ _ x => [x]
  | .store _ x v => [x, v]
  | .faddr _ x => [x]
  | .field _ _ _ x => [x]
  | .iaddr _ x i => [x, i]
  | .iaddrA _ _ x i => [x, i]
  | .idxS x i => [x, i]
  | .idxA _ _ _ x i => [x, i]
  | .bin _ x y => [x, y]
  | .eq _ _ x y => [x, y]
  | .un _ x => [x]
  | .conv _ x => [x]
  | .convS x => [x]
  | .slice _ x lo hi mx => x :: (lo.toList ++ hi.toList ++ mx.toList)
  | .sliceS x lo hi => x :: (lo.toList ++ hi.toList)
  | .len _ x => [x]
  | .mk _ _ _ _ l c => [l, c]
  | .mkmap => []
  | .lookup _ _ _ x k => [x, k]
  | .mupd _ x k v => [x, k, v]
  | .mkfn _ xs ys => xs ++ ys
  | .mkif _ x => [x]
  | .extract x _ => [x]
  | .append _ _ _ x y => [x, y]
  | .min2 x y => [x, y]
  | .max2 x y => [x, y]
  | .clear _ _ x => [x]
  | .call _ xs => xs
  | .callv x xs => x :: xs
  | .panic x => [x]

def isCall : I → Bool
  | .call .. => true
  | .callv .. => true
  | .panic .. => true
  | _ => false

def pureI : I → Bool
  | .mv .. | .pick .. | .nilChk .. | .faddr .. | .field .. | .iaddr .. | .iaddrA .. | .idxS .. | .idxA .. | .bin .. | .eq .. | .un .. | .conv .. | .convS .. | .slice .. | .sliceS .. | .mkfn .. | .mkif .. | .extract .. | .min2 .. | .max2 .. | .build .. => true
  | .len k _ => k != 2
  | _ => false
def readI : I → Bool
  | .load .. | .lookup .. | .len .. => true
  | i => pureI i

/-- The temporaries that an operation looks at. -/
def tmpOf : Opd → List Nat
  | .t i => [i]
  | .c _ => []
def looks (o : IOp) : List Nat := (opnds o.i).flatMap tmpOf ++ (match o.guard with
  | some (t, _) => [t]
  | none => [])
def dstIn (o : IOp) (l : List Nat) : Bool := match o.dst with
  | some d => l.contains d
  | none => false
def apart (x y : IOp) : Bool := !dstIn x (looks y) && !dstIn y (looks x) && !(x.dst.isSome && x.dst == y.dst)

/-- The order of the two doesn't matter. -/
def compat (x y : IOp) : Bool := apart x y && (pureI x.i || (pureI y.i && !isCall x.i) || (readI x.i && readI y.i))

def atO (ops : List IOp) (i : Nat) : IOp := ops.getD i { dst := none, i := .mkmap, guard := none, af := [] }
def ancs : List IOp → List (List Nat) → List (List Nat)
  | [], acc => acc
  | o :: rest, acc => ancs rest (acc ++ [(o.af ++ o.af.flatMap fun k => acc.getD k []).eraseDups])
def nextOp (ops : List IOp) (done : List Nat) : Option Nat :=
  let rdy := (List.range ops.length).filter fun i => !done.contains i && (atO ops i).af.all fun k => done.contains k
  match rdy.find? (fun i => pureI (atO ops i).i) with
  | some i => some i
  | none => match rdy.find? (fun i => readI (atO ops i).i) with
    | some i => some i
    | none => rdy.head?
def topo (ops : List IOp) : Nat → List Nat → List Nat
  | 0, _ => []
  | k + 1, done => match nextOp ops done with
    | some i => i :: topo ops k (i :: done)
    | none => []
def nodupB : List Nat → Bool
  | [] => true
  | i :: rest => !rest.contains i && nodupB rest
def chk (ops : List IOp) (anc : List (List Nat)) : List Nat → List Nat → Bool
  | _, [] => true
  | done, i :: rest => (atO ops i).af.all (fun k => done.contains k) && rest.all (fun j => (anc.getD j []).contains i || compat (atO ops i) (atO ops j)) && chk ops anc (i :: done) rest
def okOrder (ops : List IOp) (anc : List (List Nat)) (c : List Nat) : Bool :=
  c.length == ops.length && (List.range ops.length).all (fun i => c.contains i) && c.all (fun i => Nat.blt i ops.length) && nodupB c && ops.all (fun o => o.af.all fun k => Nat.blt k ops.length) &&
  (List.range ops.length).all (fun i => (anc.getD i []).all fun j => (atO ops i).af.contains j || (atO ops i).af.any fun k => (anc.getD k []).contains j) && chk ops anc [] c
def quietOrder (ops : List IOp) : Option (List IOp) :=
  let anc := ancs ops []
  let c := topo ops ops.length []
  if okOrder ops anc c then some (c.map (atO ops)) else none

end Go.Ai
