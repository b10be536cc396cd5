/-
  A part of an interpreter over abstract data, proved sound once for the model: what it says of the code, the machine does in every order. Conditions: none beyond the statement.
-/
import Derived.Below
import Derived.Calls
import Derived.Orders
import Derived.Laws.CopyRow
import Derived.Laws.Cells
import Derived.Scope
/-! Abstract data, abstract heap, what they say of a world. -/
set_option linter.unusedVariables false
namespace Go.Ai

/-- Abstract data: 'raw': the very value; 'e0': a slice of capacity 0; 'lst', 'iptr', 'imap': memory that nobody writes any more; 'sl', 'ref', 'map': a live object, by its name. -/
inductive D where
  | raw (v : Value)
  | agg (cs : List D)
  | tup (ds : List D)
  | lst (xs : List (List D))
  | sl (n off len sz : Nat)
  | ref (n off : Nat)
  | iptr (cs : List D)
  | map (n : Nat)
  | imap (es : List (Value × D))
  | fn (f : Fn) (first captured : List D)
  | e0
  | iface (t : TypeId) (d : D)

instance : Inhabited D := ⟨.raw undef⟩
abbrev D.none_ : D := .raw undef

/-- A live object: a block of cells (those from 'lo' on may be written; behind them there may be room), a map. -/
inductive Obj where
  | cells (cs : List D) (e : TypeId) (lo : Nat)
  | map (es : List (Value × D)) (sealed_ : Bool)
  /-- A round over a map that nobody writes any more: its entries, those that were met. -/
  | iter (es : List (Value × D)) (seen : List Nat)

abbrev Heap := List (Nat × Obj)
def lk : Heap → Nat → Option Obj
  | [], _ => none
  | (m, o) :: t, n => bif Nat.beq n m then some o else lk t n
def upd : Heap → Nat → Obj → Heap
  | [], _, _ => []
  | (m, o') :: t, n, o => bif Nat.beq n m then (m, o) :: t else (m, o') :: upd t n o
def rm : Heap → Nat → Heap
  | [], _ => []
  | (m, o) :: t, n => bif Nat.beq n m then rm t n else (m, o) :: rm t n

structure St where
  H : Heap
  nx : Nat
  ro : Nat

/-- May cell o of the block be written? -/
def Obj.free : Obj → Nat → Nat → Prop
  | .cells _ _ lo, base, o => base + lo ≤ o
  | .map _ s, _, _ => s = false
  | .iter _ _, _, _ => True

def Xof (H : Heap) (ι : Nat → Option (Nat × Nat)) (b o : Nat) : Prop := ∃ n ob base, lk H n = some ob ∧ ι n = some (b, base) ∧ ob.free base o

inductive V (w : World) (X : Nat → Nat → Prop) (ι : Nat → Option (Nat × Nat)) : D → Value → Prop
  | raw (v : Value) : V w X ι (.raw v) v
  | agg (cs : List D) (vs : Array Value) (hs : vs.size = cs.length) (h : ∀ i, i < cs.length → V w X ι (cs.getD i default) (vs.getD i undef)) : V w X ι (.agg cs) (.agg vs)
  | tup (cs : List D) (vs : Array Value) (hs : vs.size = cs.length) (h : ∀ i, i < cs.length → V w X ι (cs.getD i default) (vs.getD i undef)) : V w X ι (.tup cs) (.tuple vs)
  | lst (xs : List (List D)) (A : Option Addr) (ad : Addr) (n cap sz : Nat) (u : Nat → Nat → Value) (hn : n = xs.length) (hcap : n ≤ cap) (hA : A = some ad ∨ xs = []) (hsp : ad.spot = none)
      (hz : ∀ i, i < xs.length → (xs.getD i []).length = sz)
      (hc : ∀ i j, i < xs.length → j < sz → w.cell? ⟨ad.block, ad.off + i * sz + j, none⟩ = some (u i j))
      (hx : ∀ i j, i < xs.length → j < sz → ¬ X ad.block (ad.off + i * sz + j))
      (h : ∀ i j, i < xs.length → j < sz → V w X ι ((xs.getD i []).getD j default) (u i j)) : V w X ι (.lst xs) (.slice A n cap)
  | e0 (A : Option Addr) : V w X ι .e0 (.slice A 0 0)
  | sl (n b base off len sz cap : Nat) (ad : Addr) (arr : Array Value) (e : TypeId) (fr : Nat × Nat) (hi : ι n = some (b, base)) (hl : len ≤ cap) (hb : w.heap[b]? = some (.cells arr e fr)) (hsz : base + off + cap * sz ≤ arr.size)
      (had : ad = ⟨b, base + off, none⟩ ∨ cap = 0) : V w X ι (.sl n off len sz) (.slice (some ad) len cap)
  | ref (n b base off : Nat) (hi : ι n = some (b, base)) : V w X ι (.ref n off) (.pointer (some ⟨b, base + off, none⟩))
  | iptr (cs : List D) (ad : Addr) (u : Nat → Value) (hsp : ad.spot = none)
      (hc : ∀ j, j < cs.length → w.cell? ⟨ad.block, ad.off + j, none⟩ = some (u j))
      (hx : ∀ j, j < cs.length → ¬ X ad.block (ad.off + j))
      (h : ∀ j, j < cs.length → V w X ι (cs.getD j default) (u j)) : V w X ι (.iptr cs) (.pointer (some ad))
  | map (n b base : Nat) (hi : ι n = some (b, base)) : V w X ι (.map n) (.map (some b))
  | imap (es : List (Value × D)) (b : Nat) (ents : Array MapEntry) (clock : Nat) (hb : w.heap[b]? = some (.map ents clock)) (hx : ¬ X b 0) (hs : ents.size = es.length)
      (hk : ∀ i, i < es.length → (ents.getD i default).key = (es.getD i default).1)
      (h : ∀ i, i < es.length → V w X ι (es.getD i default).2 (ents.getD i default).val) (hborn : clock = es.length ∧ ∀ i, i < es.length → (ents.getD i default).born = i) : V w X ι (.imap es) (.map (some b))
  | fn (f : Fn) (fs cs : List D) (us vs : Array Value) (hu : us.size = fs.length) (hv : vs.size = cs.length)
      (h1 : ∀ i, i < fs.length → V w X ι (fs.getD i default) (us.getD i undef)) (h2 : ∀ i, i < cs.length → V w X ι (cs.getD i default) (vs.getD i undef)) : V w X ι (.fn f fs cs) (.func f us vs)
  | iface (t : TypeId) (d : D) (v : Value) (h : V w X ι d v) : V w X ι (.iface t d) (.iface t v)

/-- What an object says of its block. -/
def ObjOk (w : World) (X : Nat → Nat → Prop) (ι : Nat → Option (Nat × Nat)) (b base : Nat) : Obj → Prop
  | .cells cs e _ => ∃ arr, w.heap[b]? = some (.cells arr e (0, 0)) ∧ base + cs.length ≤ arr.size ∧ ∀ i, i < cs.length → V w X ι (cs.getD i default) (arr.getD (base + i) undef)
  | .map es _ => ∃ ents clock, w.heap[b]? = some (.map ents clock) ∧ ents.size = es.length ∧ (∀ i, i < es.length → (ents.getD i default).key = (es.getD i default).1) ∧
      (∀ i, i < es.length → V w X ι (es.getD i default).2 (ents.getD i default).val) ∧ (clock = es.length ∧ ∀ i, i < es.length → (ents.getD i default).born = i)
  | .iter es seen => ∃ A, w.heap[b]? = some (.mapIter A es.length seen.toArray es.length) ∧ base = 0 ∧ (match A with
    | none => es = []
    | some m => V w X ι (.imap es) (.map (some m)))

/-- The world holds what the abstract heap says. -/
structure R (w : World) (H : Heap) (ι : Nat → Option (Nat × Nat)) : Prop where
  obj : ∀ n o, lk H n = some o → ∃ b base, ι n = some (b, base) ∧ ObjOk w (Xof H ι) ι b base o
  inj : ∀ n m o o' b base base', lk H n = some o → lk H m = some o' → ι n = some (b, base) → ι m = some (b, base') → n = m
  low : ∀ n b base, ι n = some (b, base) → b < w.heap.size

/-- What may have turned: cells that were free, new blocks. -/
structure Chg (X : Nat → Nat → Prop) (w w' : World) : Prop where
  os : w'.os = w.os
  tape : w'.tape = w.tape
  out : w'.output = w.output
  size : w.heap.size ≤ w'.heap.size
  cells : ∀ b arr e fr, w.heap[b]? = some (.cells arr e fr) → ∃ arr' fr', w'.heap[b]? = some (.cells arr' e fr') ∧ arr'.size = arr.size ∧ (∀ o, ¬ X b o → arr'[o]? = arr[o]?) ∧ ((∀ o, ¬ X b o) → fr' = fr)
  other : ∀ b ob, w.heap[b]? = some ob → (∀ arr e fr, ob ≠ .cells arr e fr) → ¬ X b 0 → w'.heap[b]? = some ob

theorem Chg.refl (X : Nat → Nat → Prop) (w : World) : Chg X w w :=
  ⟨rfl, rfl, rfl, Nat.le_refl _, fun b arr e fr h => ⟨arr, fr, h, rfl, fun _ _ => rfl, fun _ => rfl⟩, fun b ob h _ _ => h⟩

theorem Chg.mono {X Y : Nat → Nat → Prop} {w w' : World} (h : Chg X w w') (hxy : ∀ b o, b < w.heap.size → X b o → Y b o) : Chg Y w w' := by
  have lt : ∀ {b : Nat} {ob : Go.Obj}, w.heap[b]? = some ob → b < w.heap.size := fun h => (Array.getElem?_eq_some_iff.1 h).1
  refine ⟨h.os, h.tape, h.out, h.size, fun b arr e fr hb => ?_, fun b ob hb hn hx => h.other b ob hb hn fun hx' => hx (hxy b 0 (lt hb) hx')⟩
  obtain ⟨arr', fr', h1, h2, h3, h4⟩ := h.cells b arr e fr hb
  exact ⟨arr', fr', h1, h2, fun o ho => h3 o fun hx => ho (hxy b o (lt hb) hx), fun hall => h4 fun o hx => hall o (hxy b o (lt hb) hx)⟩

theorem Chg.trans {X : Nat → Nat → Prop} {w w1 w2 : World} (h : Chg X w w1) (k : Chg X w1 w2) : Chg X w w2 := by
  refine ⟨k.os.trans h.os, k.tape.trans h.tape, k.out.trans h.out, Nat.le_trans h.size k.size, fun b arr e fr hb => ?_, fun b ob hb hn hx => ?_⟩
  · obtain ⟨arr1, fr1, h1, h2, h3, h4⟩ := h.cells b arr e fr hb
    obtain ⟨arr2, fr2, k1, k2, k3, k4⟩ := k.cells b arr1 e fr1 h1
    exact ⟨arr2, fr2, k1, k2.trans h2, fun o ho => (k3 o ho).trans (h3 o ho), fun hall => (k4 hall).trans (h4 hall)⟩
  · exact k.other b ob (h.other b ob hb hn hx) hn hx

/-- What is free in new blocks alone doesn't count. -/
theorem Chg.trans' {X Y : Nat → Nat → Prop} {w w1 w2 : World} (h : Chg X w w1) (k : Chg Y w1 w2) (hxy : ∀ b o, b < w.heap.size → Y b o → X b o) : Chg X w w2 := by
  have lt : ∀ {b : Nat} {ob : Go.Obj}, w.heap[b]? = some ob → b < w.heap.size := fun h => (Array.getElem?_eq_some_iff.1 h).1
  refine ⟨k.os.trans h.os, k.tape.trans h.tape, k.out.trans h.out, Nat.le_trans h.size k.size, fun b arr e fr hb => ?_, fun b ob hb hn hx => ?_⟩
  · obtain ⟨arr1, fr1, h1, h2, h3, h4⟩ := h.cells b arr e fr hb
    obtain ⟨arr2, fr2, k1, k2, k3, k4⟩ := k.cells b arr1 e fr1 h1
    exact ⟨arr2, fr2, k1, k2.trans h2, fun o ho => (k3 o fun hy => ho (hxy b o (lt hb) hy)).trans (h3 o ho), fun hall => (k4 fun o hy => hall o (hxy b o (lt hb) hy)).trans (h4 hall)⟩
  · exact k.other b ob (h.other b ob hb hn hx) hn fun hy => hx (hxy b 0 (lt hb) hy)

theorem Chg.cell {X : Nat → Nat → Prop} {w w' : World} (h : Chg X w w') {b o : Nat} {v : Value} (hx : ¬ X b o) (hc : w.cell? ⟨b, o, none⟩ = some v) : w'.cell? ⟨b, o, none⟩ = some v := by
  unfold World.cell? at *
  cases hb : w.heap[b]? with
  | none => simp [hb] at hc
  | some ob =>
    cases ob with
    | cells arr e fr =>
      obtain ⟨arr', fr', h1, _, h3, _⟩ := h.cells b arr e fr hb
      simp only [hb, Option.isSome_none, Bool.false_eq_true, if_false] at hc
      simp only [h1, Option.isSome_none, Bool.false_eq_true, if_false]
      rw [h3 o hx]; exact hc
    | _ => simp [hb] at hc

/-- Data says the same of a later world. -/
theorem V.step {w w' : World} {X X' : Nat → Nat → Prop} {ι ι' : Nat → Option (Nat × Nat)} (hc : Chg X w w') (hx : ∀ b o, b < w.heap.size → X' b o → X b o) (hi : ∀ n b, ι n = some b → ι' n = some b)
    {d : D} {v : Value} (h : V w X ι d v) : V w' X' ι' d v := by
  have cellLt : ∀ {b o : Nat} {v : Value}, w.cell? ⟨b, o, none⟩ = some v → b < w.heap.size := by
    intro b o v h
    unfold World.cell? at h
    cases hb : w.heap[b]? with
    | none => simp [hb] at h
    | some ob => exact (Array.getElem?_eq_some_iff.1 hb).1
  induction h with
  | raw v => exact .raw v
  | agg cs vs hs _ ih => exact .agg cs vs hs ih
  | tup cs vs hs _ ih => exact .tup cs vs hs ih
  | lst xs A ad n cap sz u hn hcap hA hsp hz h1 h2 _ ih =>
    exact .lst xs A ad n cap sz u hn hcap hA hsp hz (fun i j a b => hc.cell (h2 i j a b) (h1 i j a b)) (fun i j a b hx' => h2 i j a b (hx _ _ (cellLt (h1 i j a b)) hx')) ih
  | e0 A => exact .e0 A
  | sl n b base off len sz cap ad arr e fr h1 h2 h3 h4 h5 =>
    obtain ⟨arr', fr', k1, k2, _, _⟩ := hc.cells b arr e fr h3
    exact .sl n b base off len sz cap ad arr' e fr' (hi _ _ h1) h2 k1 (by omega) h5
  | ref n b base off h1 => exact .ref n b base off (hi _ _ h1)
  | iptr cs ad u hsp h1 h2 _ ih =>
    exact .iptr cs ad u hsp (fun j a => hc.cell (h2 j a) (h1 j a)) (fun j a hx' => h2 j a (hx _ _ (cellLt (h1 j a)) hx')) ih
  | map n b base h1 => exact .map n b base (hi _ _ h1)
  | imap es b ents clock h1 h2 hs hk _ hb ih =>
    exact .imap es b ents clock (hc.other b _ h1 (by simp) h2) (fun hx' => h2 (hx _ _ (Array.getElem?_eq_some_iff.1 h1).1 hx')) hs hk ih hb
  | fn f fs cs us vs hu hv _ _ i1 i2 => exact .fn f fs cs us vs hu hv i1 i2
  | iface t d v _ ih => exact .iface t d v ih

end Go.Ai
/-! The code's form over abstract data, and what it does. -/
set_option linter.unusedVariables false
namespace Go.Ai

inductive Opd where
  | t (i : Nat)
  | c (d : D)

/-- What '==' compares. -/
inductive EqK where
  | bool
  | slice
  | func
  | struct (ks : List Nat)

inductive I where
  | mv (x : Opd)
  | pick (c a b : Opd)
  | nilChk (x : Opd)
  | alloc (e : TypeId) (z : List D)
  | box (e : TypeId) (x : Opd)
  | build (z : List D) (ps : List (Nat × Nat × Opd))
  | bslice (e sz len : Nat) (z : List D) (ps : List (Nat × Nat × Opd))
  | load (ag : Bool) (sz : Nat) (x : Opd)
  | store (sz : Nat) (x v : Opd)
  | faddr (off : Nat) (x : Opd)
  | field (ag : Bool) (off sz : Nat) (x : Opd)
  | iaddr (sz : Nat) (x i : Opd)
  | iaddrA (len sz : Nat) (x i : Opd)
  | idxS (x i : Opd)
  | idxA (ag : Bool) (len sz : Nat) (x i : Opd)
  | bin (op : BinOp) (x y : Opd)
  | eq (neg : Bool) (k : EqK) (x y : Opd)
  | un (op : UnOp) (x : Opd)
  | conv (k : IntKind) (x : Opd)
  | convS (x : Opd)
  | slice (sz : Nat) (x : Opd) (lo hi mx : Option Opd)
  | sliceS (x : Opd) (lo hi : Option Opd)
  | len (k : Nat) (x : Opd)
  | mk (e sz bytes : Nat) (z : List D) (len cap : Opd)
  | mkmap
  | lookup (kk : Nat) (zero : D) (ok : Bool) (x k : Opd)
  | mupd (kk : Nat) (x k v : Opd)
  | range (x : Opd)
  | next (x : Opd)
  | entry (x : Opd)
  | mkfn (f : Fn) (first captured : List Opd)
  | mkif (t : TypeId) (x : Opd)
  | extract (x : Opd) (i : Nat)
  | append (e sz bytes : Nat) (x y : Opd)
  | min2 (x y : Opd)
  | max2 (x y : Opd)
  | clear (sz : Nat) (z : List D) (x : Opd)
  | call (f : FuncId) (xs : List Opd)
  | callv (x : Opd) (xs : List Opd)
  | panic (x : Opd)

structure IOp where
  dst : Option Nat
  i : I
  guard : Option (Nat × Bool)
  af : List Nat

inductive IC where
  | skip
  | region (ops : List IOp)
  | draw (ops : List IOp)
  | seq (a b : IC)
  | cond (c : Opd) (a b : IC)
  | block (id : Nat) (b : IC)
  | loop (b : IC)
  | exit (id : Nat)
  | scope (b : IC)
  | ret

/-- A result: a temporary, or what a variable holds at the end. -/
inductive RV where
  | tmp (t : Nat)
  | cell (t : Nat) (ag : Bool) (sz : Nat)

structure IF where
  nt : Nat
  res : List RV
  keep : Bool
  body : IC

inductive Out where
  | ret (d : D)
  | pan (d : D)

inductive Ex where
  | nrm
  | exit (id : Nat)
  | ret
  | pan (d : D)

/-! ### Plain functions on data -/
def cellsOf : D → List D
  | .agg cs => cs
  | d => [d]
def one : D → Bool
  | .raw (.agg _) => false
  | .raw (.tuple _) => false
  | .agg _ => false
  | .tup _ => false
  | _ => true
def splice (cs : List D) (off : Nat) (vs : List D) : List D := cs.take off ++ (vs ++ cs.drop (off + vs.length))
def chunks (sz : Nat) : Nat → List D → List (List D)
  | 0, _ => []
  | n + 1, cs => cs.take sz :: chunks sz n (cs.drop sz)
def fill (sz? : Nat) (cells : List D) : List (Nat × Nat × D) → Option (List D)
  | [] => some cells
  | (off, sz, d) :: rest =>
    let vs := cellsOf d
    if vs.length = sz ∧ off + sz ≤ cells.length ∧ vs.all one then fill sz? (splice cells off vs) rest else none
def repZ (z : List D) : Nat → List D
  | 0 => []
  | n + 1 => z ++ repZ z n
def takeN (cs : List D) (ag : Bool) (sz : Nat) : Option D :=
  let l := cs.take sz
  if l.length = sz then (if ag then some (.agg l) else if sz = 1 then l.head? else none) else none

def bin : BinOp → Value → Value → Option Value
  | op, .int k a, .int k' b =>
    match op with
    | .shl => if b < 0 then none else some (.int k (k.wrap (a * 2 ^ (min b.toNat k.bits))))
    | .shr => if b < 0 then none else some (.int k (a.fdiv (2 ^ (min b.toNat k.bits))))
    | op =>
      if k = k' then
        match op with
        | .add => some (.int k (k.wrap (a + b)))
        | .sub => some (.int k (k.wrap (a - b)))
        | .mul => some (.int k (k.wrap (a * b)))
        | .quo => if b = 0 then none else some (.int k (k.wrap (a.tdiv b)))
        | .rem => if b = 0 then none else some (.int k (a.tmod b))
        | .and => some (.int k (k.wrap (BitVec.ofInt k.bits a &&& BitVec.ofInt k.bits b).toNat))
        | .or => some (.int k (k.wrap (BitVec.ofInt k.bits a ||| BitVec.ofInt k.bits b).toNat))
        | .xor => some (.int k (k.wrap (BitVec.ofInt k.bits a ^^^ BitVec.ofInt k.bits b).toNat))
        | .andNot => some (.int k (k.wrap (BitVec.ofInt k.bits a &&& ~~~ BitVec.ofInt k.bits b).toNat))
        | .eql => some (.bool (a == b))
        | .neq => some (.bool (a != b))
        | .lss => some (.bool (a < b))
        | .leq => some (.bool (a ≤ b))
        | .gtr => some (.bool (a > b))
        | .geq => some (.bool (a ≥ b))
        | _ => none
      else none
  | op, .string x, .string y =>
    match op with
    | .add => if ((x.size + y.size : Nat) : Int) > IntKind.i64.max then none else some (.string (x ++ y))
    | .eql => some (.bool (x.toList == y.toList))
    | .neq => some (.bool !(x.toList == y.toList))
    | .lss => some (.bool (Op.bytesLess x.toList y.toList))
    | .leq => some (.bool (Op.bytesLess x.toList y.toList || x.toList == y.toList))
    | .gtr => some (.bool !(Op.bytesLess x.toList y.toList || x.toList == y.toList))
    | .geq => some (.bool !(Op.bytesLess x.toList y.toList))
    | _ => none
  | _, _, _ => none

/-- '==' of two cells: of ints (0), strings (1), bools (2). -/
def eqCell : Nat → D → D → Option Bool
  | 0, .raw (.int k a), .raw (.int k' b) => if k = k' then some (a == b) else none
  | 1, .raw (.string a), .raw (.string b) => some (a == b)
  | 2, .raw (.bool a), .raw (.bool b) => some (a == b)
  | _, _, _ => none
def eqCells : List Nat → List D → List D → Option Bool
  | [], [], [] => some true
  | k :: ks, x :: xs, y :: ys => match eqCell k x y with
    | some true => eqCells ks xs ys
    | some false => some false
    | none => none
  | _, _, _ => none
def eqD : EqK → D → D → Option Bool
  | .bool, .raw (.bool a), .raw (.bool b) => some (a == b)
  | .struct ks, .agg xs, .agg ys => if xs.length = ks.length ∧ ys.length = ks.length then eqCells ks xs ys else none
  | .slice, .raw (.slice none _ _), .raw (.slice none _ _) => some true
  | .slice, .sl .., .raw (.slice none _ _) => some false
  | .slice, .lst (_ :: _), .raw (.slice none _ _) => some false
  | .func, .raw .nilFunc, .raw .nilFunc => some true
  | .func, .fn .., .raw .nilFunc => some false
  | _, _, _ => none

def keyEq : Nat → Value → Value → Option Bool
  | 0, .int k a, .int k' b => if k = k' then some (a == b) else none
  | 1, .string a, .string b => some (a == b)
  | 2, .bool a, .bool b => some (a == b)
  | _, _, _ => none
def findE (kk : Nat) (k : Value) : List (Value × D) → Nat → Option (Option (Nat × D))
  | [], _ => some none
  | (k', d) :: t, i => match keyEq kk k k' with
    | some true => some (some (i, d))
    | some false => findE kk k t (i + 1)
    | none => none

def lkE (kk : Nat) (kv : Value) (H : Heap) : D → Option (Option (Nat × D))
  | .raw (.map none) => some none
  | .map n => match lk H n with
    | some (.map es _) => findE kk kv es 0
    | _ => none
  | .imap es => findE kk kv es 0
  | _ => none

def asI : D → Option Int
  | .raw (.int _ n) => some n
  | _ => none
/-- A bound of a slice expression. -/
def bnd (x : Option D) (dflt : Nat) (most : Nat) : Option Nat :=
  match x with
  | none => some dflt
  | some (.raw (.int _ n)) => if 0 ≤ n ∧ n ≤ most then some n.toNat else none
  | _ => none

/-- The elements of a slice. -/
def elems (H : Heap) (sz : Nat) : D → Option (List D × Nat)
  | .raw (.slice none 0 0) => some ([], 0)
  | .e0 => some ([], 0)
  | .lst xs => if xs.all (fun x => x.length == sz) then some (xs.flatten, xs.length) else none
  | .sl n off len sz' => if sz' = sz then match lk H n with
    | some (.cells cs _ _) => if off + len * sz ≤ cs.length then some ((cs.drop off).take (len * sz), len) else none
    | _ => none
    else none
  | _ => none

mutual
/-- Data as nobody may write it any more: what it leads to is sealed. -/
def view : Nat → D → Heap → Option (D × Heap)
  | 0, _, _ => none
  | k + 1, d, H =>
    match d with
    | .raw (.slice none 0 0) => some (.lst [], H)
    | .e0 => some (.lst [], H)
    | .agg cs => match viewL k cs H with
      | some (l, H) => some (.agg l, H)
      | none => none
    | .tup cs => match viewL k cs H with
      | some (l, H) => some (.tup l, H)
      | none => none
    | .iface t d => match view k d H with
      | some (d, H) => some (.iface t d, H)
      | none => none
    | .sl n off len sz => match lk H n with
      | some (.cells cs e lo) =>
        if off + len * sz ≤ cs.length then
          match viewL k ((cs.drop off).take (len * sz)) (upd H n (.cells cs e (max lo (off + len * sz)))) with
          | some (l, H) => some (.lst (chunks sz len l), H)
          | none => none
        else none
      | _ => none
    | .map n => match lk H n with
      | some (.map es _) =>
        match viewL k (es.map (·.2)) (upd H n (.map es true)) with
        | some (l, H) => some (.imap (es.zipWith (fun e d => (e.1, d)) l), H)
        | none => none
      | _ => none
    | d => some (d, H)
def viewL : Nat → List D → Heap → Option (List D × Heap)
  | _, [], H => some ([], H)
  | 0, _ :: _, _ => none
  | k + 1, d :: ds, H => match view k d H with
    | some (d', H) => match viewL k ds H with
      | some (l, H) => some (d' :: l, H)
      | none => none
    | none => none
end

mutual
def rigid : Nat → D → Bool
  | 0, _ => false
  | k + 1, d => match d with
    | .raw _ => true
    | .e0 => true
    | .tup ds => rigidL k ds
    | .agg ds => rigidL k ds
    | _ => false
def rigidL : Nat → List D → Bool
  | _, [] => true
  | 0, _ :: _ => false
  | k + 1, d :: ds => rigid k d && rigidL k ds
end

/-! ### One operation -/
def new (s : St) (o : Obj) : Nat × St := (s.nx, { s with H := (s.nx, o) :: s.H, nx := s.nx + 1 })

def exec (ρ : Opd → D) (i : I) (s : St) : Option (D × St) :=
  match i with
  | .mv x => some (ρ x, s)
  | .pick c a b => match ρ c with
    | .raw (.bool true) => some (ρ a, s)
    | .raw (.bool false) => some (ρ b, s)
    | _ => none
  | .nilChk x => match ρ x with
    | .ref n o => some (.ref n o, s)
    | .iptr cs => some (.iptr cs, s)
    | .fn (.func f) a b => some (.fn (.func f) a b, s)
    | _ => none
  | .alloc e z => if z.all one then some (.ref s.nx 0, (new s (.cells z e 0)).2) else none
  | .box e x => if (cellsOf (ρ x)).all one then some (.ref s.nx 0, (new s (.cells (cellsOf (ρ x)) e 0)).2) else none
  | .build z ps => match fill 0 z (ps.map fun p => (p.1, p.2.1, ρ p.2.2)) with
    | some cs => if z.all one then some (.agg cs, s) else none
    | none => none
  | .bslice e sz len z ps => match fill 0 (repZ z len) (ps.map fun p => (p.1, p.2.1, ρ p.2.2)) with
    | some cs => if z.all one ∧ z.length = sz ∧ len * sz ≤ 2 ^ 24 then some (.sl s.nx 0 len sz, (new s (.cells cs e 0)).2) else none
    | none => none
  | .load ag sz x => match ρ x with
    | .ref n o => match lk s.H n with
      | some (.cells cs _ _) => (takeN (cs.drop o) ag sz).map fun d => (d, s)
      | _ => none
    | .iptr cs => (takeN cs ag sz).map fun d => (d, s)
    | _ => none
  | .store sz x v => match ρ x with
    | .ref n o => match lk s.H n with
      | some (.cells cs e lo) =>
        if (cellsOf (ρ v)).length = sz ∧ (cellsOf (ρ v)).all one ∧ o + sz ≤ cs.length ∧ lo ≤ o ∧ s.ro ≤ n then
          some (.raw undef, { s with H := upd s.H n (.cells (splice cs o (cellsOf (ρ v))) e lo) })
        else none
      | _ => none
    | _ => none
  | .faddr off x => match ρ x with
    | .ref n o => some (.ref n (o + off), s)
    | .iptr cs => some (.iptr (cs.drop off), s)
    | _ => none
  | .field ag off sz x => match ρ x with
    | .agg cs => (takeN (cs.drop off) ag sz).map fun d => (d, s)
    | _ => none
  | .iaddr sz x i => match ρ i with
    | .raw (.int _ k) => match ρ x with
      | .sl n off len sz' => if sz' = sz ∧ 0 ≤ k ∧ k < len then some (.ref n (off + k.toNat * sz), s) else none
      | .lst xs => if 0 ≤ k ∧ k < xs.length then (if (xs.getD k.toNat []).length = sz then some (.iptr (xs.getD k.toNat []), s) else none) else none
      | _ => none
    | _ => none
  | .iaddrA len sz x i => match ρ i with
    | .raw (.int _ k) => if 0 ≤ k ∧ k < len then match ρ x with
      | .ref n o => some (.ref n (o + k.toNat * sz), s)
      | .iptr cs => some (.iptr (cs.drop (k.toNat * sz)), s)
      | _ => none
      else none
    | _ => none
  | .idxS x i => match ρ x, ρ i with
    | .raw (.string b), .raw (.int _ k) => if 0 ≤ k then (b[k.toNat]?).map fun c => (.raw (.int .u8 c.toNat), s) else none
    | _, _ => none
  | .idxA ag len sz x i => match ρ x, ρ i with
    | .agg cs, .raw (.int _ k) => if 0 ≤ k ∧ k < len then (takeN (cs.drop (k.toNat * sz)) ag sz).map fun d => (d, s) else none
    | _, _ => none
  | .bin op x y => match ρ x, ρ y with
    | .raw a, .raw b => (bin op a b).map fun v => (.raw v, s)
    | _, _ => none
  | .eq neg k x y => (eqD k (ρ x) (ρ y)).map fun b => (.raw (.bool (neg != b)), s)
  | .un op x => match op, ρ x with
    | .not, .raw (.bool b) => some (.raw (.bool (!b)), s)
    | .neg, .raw (.int k n) => some (.raw (.int k (k.wrap (0 - n))), s)
    | _, _ => none
  | .conv k x => match ρ x with
    | .raw (.int _ n) => some (.raw (.int k (k.wrap n)), s)
    | _ => none
  | .convS x => match ρ x with
    | .raw (.string b) => some (.raw (.string b), s)
    | _ => none
  | .slice sz x lo hi mx =>
    let one_ (len : Nat) : Option (Nat × Nat) := match bnd (hi.map ρ) len len with
      | some h => match bnd (lo.map ρ) 0 h with
        | some l => match mx with
          | none => some (l, h)
          | some m => match bnd (some (ρ m)) 0 len with
            | some m => if h ≤ m ∧ hi.isSome then some (l, h) else none
            | none => none
        | none => none
      | none => none
    let cap0 (l : Nat) : Bool := match mx with
      | none => false
      | some m => match asI (ρ m) with
        | some m => m == l
        | none => false
    match ρ x with
    | .sl n off len sz' => if sz' = sz then match one_ len with
      | some (l, h) => if cap0 l then some (.e0, s) else if mx.isSome then none else some (.sl n (off + l * sz) (h - l) sz, s)
      | none => none
      else none
    | .lst xs => if (match xs with | [] => true | x :: _ => x.length == sz) then match one_ xs.length with
      | some (l, h) => if cap0 l then some (.e0, s) else if mx.isSome then none else some (.lst ((xs.drop l).take (h - l)), s)
      | none => none
      else none
    | .raw (.slice none 0 0) => match one_ 0 with
      | some _ => some (.raw (.slice none 0 0), s)
      | none => none
    | .e0 => match one_ 0 with
      | some _ => some (.e0, s)
      | none => none
    | _ => none
  | .sliceS x lo hi => match ρ x with
    | .raw (.string b) => match bnd (hi.map ρ) b.size b.size with
      | some h => match bnd (lo.map ρ) 0 h with
        | some l => some (.raw (.string (b.extract l h)), s)
        | none => none
      | none => none
    | _ => none
  | .len k x => match k, ρ x with
    | 1, .raw (.slice none 0 0) => some (.raw (.int .i64 0), s)
    | 1, .e0 => some (.raw (.int .i64 0), s)
    | 1, .sl _ _ n _ => some (.raw (.int .i64 n), s)
    | 1, .lst xs => some (.raw (.int .i64 xs.length), s)
    | 0, .raw (.string b) => some (.raw (.int .i64 b.size), s)
    | 2, .raw (.map none) => some (.raw (.int .i64 0), s)
    | 2, .map n => match lk s.H n with
      | some (.map es _) => some (.raw (.int .i64 es.length), s)
      | _ => none
    | 2, .imap es => some (.raw (.int .i64 es.length), s)
    | _, _ => none
  | .mk e sz bytes z len cap => match ρ len, ρ cap with
    | .raw (.int .i64 l), .raw (.int .i64 c) =>
      if 0 ≤ l ∧ l ≤ c ∧ c * bytes ≤ 2 ^ 47 ∧ c ≤ 2 ^ 47 ∧ z.all one ∧ z.length = sz ∧ l = c then some (.sl s.nx 0 l.toNat sz, (new s (.cells (repZ z c.toNat) e 0)).2) else none
    | _, _ => none
  | .mkmap => some (.map s.nx, (new s (.map [] false)).2)
  | .lookup kk zero ok x k => match ρ k with
    | .raw kv =>
      match lkE kk kv s.H (ρ x) with
      | some (some (_, d)) => some (if ok then .tup [d, .raw (.bool true)] else d, s)
      | some none => some (if ok then .tup [zero, .raw (.bool false)] else zero, s)
      | none => none
    | _ => none
  | .mupd kk x k v => match ρ x, ρ k with
    | .map n, .raw kv => match lk s.H n with
      | some (.map es false) =>
        if s.ro ≤ n then
          match findE kk kv es 0 with
          | some (some (i, _)) => some (.raw undef, { s with H := upd s.H n (.map (es.set i (kv, ρ v)) false) })
          | some none => some (.raw undef, { s with H := upd s.H n (.map (es ++ [(kv, ρ v)]) false) })
          | none => none
        else none
      | _ => none
    | _, _ => none
  | .range x => match ρ x with
    | .raw (.map none) => some (.ref s.nx 0, (new s (.iter [] [])).2)
    | .imap es => some (.ref s.nx 0, (new s (.iter es [])).2)
    | _ => none
  | .entry x => match ρ x with
    | .ref n 0 => match lk s.H n with
      | some (.iter es seen) => match seen.getLast? with
        | some i => match es[i]? with
          | some (k, d) => some (.tup [.raw k, d], s)
          | none => none
        | none => none
      | _ => none
    | _ => none
  | .mkfn f first cap => some (.fn f (first.map ρ) (cap.map ρ), s)
  | .mkif t x => some (.iface t (ρ x), s)
  | .extract x i => match ρ x with
    | .tup ds => (ds[i]?).map fun d => (d, s)
    | _ => none
  | .append e sz bytes x y => match elems s.H sz (ρ y) with
    | some (ys, k) =>
      if k = 0 then (match ρ x with
        | .raw (.slice none 0 0) => some (ρ x, s)
        | .e0 => some (ρ x, s)
        | .sl n off len sz' => some (ρ x, s)
        | .lst xs => some (ρ x, s)
        | _ => none)
      else match ρ x with
        | .raw (.slice none 0 0) => if k * bytes ≤ 2 ^ 47 ∧ k ≤ 2 ^ 47 ∧ ys.all one then some (.sl s.nx 0 k sz, (new s (.cells ys e 0)).2) else none
        | .e0 => if k * bytes ≤ 2 ^ 47 ∧ k ≤ 2 ^ 47 ∧ ys.all one then some (.sl s.nx 0 k sz, (new s (.cells ys e 0)).2) else none
        | .sl n off len sz' => match lk s.H n with
          | some (.cells cs e' lo) =>
            if sz' = sz ∧ e' = e ∧ off + len * sz = cs.length ∧ lo ≤ off + len * sz ∧ s.ro ≤ n ∧ (len + k) * bytes ≤ 2 ^ 47 ∧ len + k ≤ 2 ^ 47 ∧ ys.all one then
              some (.sl s.nx 0 (len + k) sz, (new { s with H := rm s.H n } (.cells (cs.drop off ++ ys) e (lo - off))).2)
            else none
          | _ => none
        | _ => none
    | none => none
  | .min2 x y => match ρ x, ρ y with
    | .raw (.int k a), .raw (.int k' b) => if k = k' then some (.raw (.int k (if b < a then b else a)), s) else none
    | _, _ => none
  | .max2 x y => match ρ x, ρ y with
    | .raw (.int k a), .raw (.int k' b) => if k = k' then some (.raw (.int k (if a < b then b else a)), s) else none
    | _, _ => none
  | .clear sz z x => match ρ x with
    | .raw (.slice none 0 0) => some (.tup [], s)
    | .e0 => some (.tup [], s)
    | .sl n off len sz' => match lk s.H n with
      | some (.cells cs e lo) => if sz' = sz ∧ z.length = sz ∧ z.all one ∧ off + len * sz ≤ cs.length ∧ lo ≤ off ∧ s.ro ≤ n then
          some (.tup [], { s with H := upd s.H n (.cells (splice cs off (repZ z len)) e lo) })
        else none
      | _ => none
    | _ => none
  | .call .. | .callv .. | .panic .. | .next .. => none

def resOne (T : List D) (H : Heap) : RV → Option D
  | .tmp t => some (T.getD t default)
  | .cell t ag sz => match T.getD t default with
    | .ref n o => match lk H n with
      | some (.cells cs _ _) => takeN (cs.drop o) ag sz
      | _ => none
    | .iptr cs => takeN cs ag sz
    | _ => none
def resL (T : List D) (H : Heap) : List RV → Option (List D)
  | [] => some []
  | r :: rs => match resOne T H r, resL T H rs with
    | some d, some ds => some (d :: ds)
    | _, _ => none
def resD (T : List D) (H : Heap) (rs : List RV) : Option D := match resL T H rs with
  | some [d] => some d
  | some ds => some (.tup ds)
  | none => none

/-! ### Code -/
abbrev M (α : Type) := St → (α → St → Prop) → Prop

def evO (T : List D) : Opd → D
  | .t i => T.getD i default
  | .c d => d

def opM (cl : FuncId → List D → M Out) (ρ : Opd → D) (i : I) : M Out := fun s Q =>
  match i with
  | .call f xs => cl f (xs.map ρ) s Q
  | .callv x xs => match ρ x with
    | .fn (.func f) first cap => cl f (first ++ xs.map ρ ++ cap) s Q
    | _ => False
  | .panic x => match ρ x with
    | .iface t d => Q (.pan (.iface t d)) s
    | _ => False
  | .next x => match ρ x with
    | .ref n 0 => match lk s.H n with
      | some (.iter es seen) => s.ro ≤ n ∧ ((∀ i, i < es.length → i ∈ seen) → Q (.ret (.tup [.raw (.bool false)])) s) ∧
          ∀ i, i < es.length → i ∉ seen → Q (.ret (.tup [.raw (.bool true), .raw (es.getD i default).1, (es.getD i default).2])) { s with H := upd s.H n (.iter es (seen ++ [i])) }
      | _ => False
    | _ => False
  | i => match exec ρ i s with
    | some (d, s') => Q (.ret d) s'
    | none => False

def wants (T : List D) : Option (Nat × Bool) → Bool
  | none => true
  | some (t, b) => match T.getD t default with
    | .raw (.bool c) => c == b
    | _ => false
def setT (T : List D) (dst : Option Nat) (d : D) : List D :=
  match dst with
  | some k => T.set k d
  | none => T

def opsM (cl : FuncId → List D → M Out) : List IOp → List D → M (Ex × List D)
  | [], T => fun s Q => Q (.nrm, T) s
  | o :: rest, T => fun s Q =>
    if wants T o.guard then opM cl (evO T) o.i s fun out s' => match out with
      | .ret d => opsM cl rest (setT T o.dst d) s' Q
      | .pan d => Q (.pan d, []) s'
    else opsM cl rest (setT T o.dst default) s Q

/-! ### Orders that do not matter -/
def opnds : I → List Opd
  | .mv x => [x]
  | .pick c a b => [c, a, b]
  | .nilChk x => [x]
  | .alloc _ _ => []
  | .box _ x => [x]
  | .build _ ps => ps.map (·.2.2)
  | .bslice _ _ _ _ ps => ps.map (·.2.2)
  | .load _ _ x => [x]
  | .store _ x v => [x, v]
  | .faddr _ x => [x]
  | .field _ _ _ x => [x]
  | .iaddr _ x i => [x, i]
  | .iaddrA _ _ x i => [x, i]
  | .idxS x i => [x, i]
  | .idxA _ _ _ x i => [x, i]
  | .bin _ x y => [x, y]
  | .eq _ _ x y => [x, y]
  | .un _ x => [x]
  | .conv _ x => [x]
  | .convS x => [x]
  | .slice _ x lo hi mx => x :: (lo.toList ++ hi.toList ++ mx.toList)
  | .sliceS x lo hi => x :: (lo.toList ++ hi.toList)
  | .len _ x => [x]
  | .mk _ _ _ _ l c => [l, c]
  | .mkmap => []
  | .lookup _ _ _ x k => [x, k]
  | .mupd _ x k v => [x, k, v]
  | .range x => [x]
  | .next x => [x]
  | .entry x => [x]
  | .mkfn _ xs ys => xs ++ ys
  | .mkif _ x => [x]
  | .extract x _ => [x]
  | .append _ _ _ x y => [x, y]
  | .min2 x y => [x, y]
  | .max2 x y => [x, y]
  | .clear _ _ x => [x]
  | .call _ xs => xs
  | .callv x xs => x :: xs
  | .panic x => [x]

def isCall : I → Bool
  | .call .. => true
  | .callv .. => true
  | .panic .. => true
  | .next .. => true
  | _ => false

def pureI : I → Bool
  | .mv .. | .pick .. | .nilChk .. | .faddr .. | .field .. | .iaddr .. | .iaddrA .. | .idxS .. | .idxA .. | .bin .. | .eq .. | .un .. | .conv .. | .convS .. | .slice .. | .sliceS .. | .mkfn .. | .mkif .. | .extract .. | .min2 .. | .max2 .. | .build .. => true
  | .len k _ => k != 2
  | _ => false
def readI : I → Bool
  | .load .. | .lookup .. | .len .. | .entry .. => true
  | i => pureI i

/-- The temporaries that an operation looks at. -/
def tmpOf : Opd → List Nat
  | .t i => [i]
  | .c _ => []
def looks (o : IOp) : List Nat := (opnds o.i).flatMap tmpOf ++ (match o.guard with
  | some (t, _) => [t]
  | none => [])
def dstIn (o : IOp) (l : List Nat) : Bool := match o.dst with
  | some d => l.contains d
  | none => false
def apart (x y : IOp) : Bool := !dstIn x (looks y) && !dstIn y (looks x) && !(x.dst.isSome && x.dst == y.dst)

/-- The order of the two doesn't matter. -/
def compat (x y : IOp) : Bool := apart x y && (pureI x.i || (pureI y.i && !isCall x.i) || (readI x.i && readI y.i))

def atO (ops : List IOp) (i : Nat) : IOp := ops.getD i { dst := none, i := .mkmap, guard := none, af := [] }
def ancs : List IOp → List (List Nat) → List (List Nat)
  | [], acc => acc
  | o :: rest, acc => ancs rest (acc ++ [(o.af ++ o.af.flatMap fun k => acc.getD k []).eraseDups])
def nextOp (ops : List IOp) (done : List Nat) : Option Nat :=
  let rdy := (List.range ops.length).filter fun i => !done.contains i && (atO ops i).af.all fun k => done.contains k
  match rdy.find? (fun i => pureI (atO ops i).i) with
  | some i => some i
  | none => match rdy.find? (fun i => readI (atO ops i).i) with
    | some i => some i
    | none => rdy.head?
def topo (ops : List IOp) : Nat → List Nat → List Nat
  | 0, _ => []
  | k + 1, done => match nextOp ops done with
    | some i => i :: topo ops k (i :: done)
    | none => []
def nodupB : List Nat → Bool
  | [] => true
  | i :: rest => !rest.contains i && nodupB rest
def chk (ops : List IOp) (anc : List (List Nat)) : List Nat → List Nat → Bool
  | _, [] => true
  | done, i :: rest => (atO ops i).af.all (fun k => done.contains k) && rest.all (fun j => (anc.getD j []).contains i || compat (atO ops i) (atO ops j)) && chk ops anc (i :: done) rest
def okOrder (ops : List IOp) (anc : List (List Nat)) (c : List Nat) : Bool :=
  c.length == ops.length && (List.range ops.length).all (fun i => c.contains i) && c.all (fun i => Nat.blt i ops.length) && nodupB c && ops.all (fun o => o.af.all fun k => Nat.blt k ops.length) &&
  (List.range ops.length).all (fun i => (anc.getD i []).all fun j => (atO ops i).af.contains j || (atO ops i).af.any fun k => (anc.getD k []).contains j) && chk ops anc [] c
def quietOrder (ops : List IOp) : Option (List IOp) :=
  let anc := ancs ops []
  let c := topo ops ops.length []
  if okOrder ops anc c then some (c.map (atO ops)) else none

end Go.Ai
/-! From the model's operations to this form. -/
set_option linter.unusedVariables false
namespace Go.Ai

/-- A constant, cell by cell. -/
def ofV : Value → D
  | .agg vs => .agg (vs.toList.map .raw)
  | .func f fs cs => .fn f (fs.toList.map .raw) (cs.toList.map .raw)
  | v => .raw v
def flatV : Value → Bool
  | .agg vs => vs.all fun v => match v with
    | .agg _ | .tuple _ | .func .. | .iface .. => false
    | _ => true
  | .func _ fs cs => fs.isEmpty && cs.isEmpty
  | .iface .. => false
  | .tuple vs => vs.isEmpty
  | _ => true

def opd : Operand → Option Opd
  | .tmp t => some (.t t)
  | .const v => if flatV v then some (.c (ofV v)) else none
  | .global g => some (.c (.raw (.pointer (some ⟨g, 0, none⟩))))
  | .func f => some (.c (.fn (.func f) [] []))

def opds : List Operand → Option (List Opd)
  | [] => some []
  | x :: xs => match opd x, opds xs with
    | some y, some ys => some (y :: ys)
    | _, _ => none

def isAggT (P : Program) (t : TypeId) : Option Bool :=
  match P.underlying t with
  | some (.struct _) => some true
  | some (.array _ _) => some true
  | some _ => some false
  | none => none
def szT (P : Program) (t : TypeId) : Option Nat := (P.info? t).map (·.size)
def bytesT (P : Program) (t : TypeId) : Option Nat := (P.info? t).map (·.bytes)
def zeroT (P : Program) (t : TypeId) : Option Value := (P.info? t).bind (·.zero)
def zeroCells (P : Program) (t : TypeId) : Option (List D) := match zeroT P t with
  | some v => if flatV v then some (cellsOf (ofV v)) else none
  | none => none
def zeroD (P : Program) (t : TypeId) : Option D := match zeroT P t with
  | some v => if flatV v then some (ofV v) else none
  | none => none

def parts (place : Nat → Option (Nat × Nat)) : List (Nat × Operand) → Option (List (Nat × Nat × Opd))
  | [] => some []
  | (i, x) :: rest => match place i, opd x, parts place rest with
    | some (off, sz), some y, some ys => some ((off, sz, y) :: ys)
    | _, _, _ => none

def optOpd : Option Operand → Option (Option Opd)
  | none => some none
  | some x => (opd x).map some

/-- Kinds of types whose values '==' compares as this form does. -/
def kindT (P : Program) (t : TypeId) : Option Nat := match P.underlying t with
  | some (.int _) => some 0
  | some .string => some 1
  | some .bool => some 2
  | _ => none
def kindsT (P : Program) : List Field → Nat → Option (List Nat)
  | [], _ => some []
  | f :: fs, i => match kindT P f.type, kindsT P fs (i + 1) with
    | some k, some ks => if f.offset == i && f.name != "_" && szT P f.type == some 1 then some (k :: ks) else none
    | _, _ => none
def eqK (P : Program) (t : TypeId) : Option EqK := match P.underlying t with
  | some .bool => some .bool
  | some (.slice _) => some .slice
  | some (.func ..) => some .func
  | some (.struct fs) => if !(P.stoodInHeld t) && !(P.eqGuardType P.depth t) then (kindsT P fs.toList 0).map .struct else none
  | _ => none

def compCall (P : Program) (f : Operand) (args : List Operand) : Option I :=
  match f with
  | .func k => match P.funcs[k]? with
    | some fn => if fn.body.isSome && fn.name != "runtime.NumGoroutine" then (opds args).map (.call k) else none
    | none => none
  | .tmp t => (opds args).map (.callv (.t t))
  | _ => none

def compBuiltin (P : Program) (b : Builtin) (ats : List TypeId) (args : List Operand) : Option I :=
  match b, ats, args with
  | .len, [t], [x] => match P.underlying t, opd x with
    | some .string, some x => some (.len 0 x)
    | some (.slice _), some x => some (.len 1 x)
    | some (.map ..), some x => some (.len 2 x)
    | _, _ => none
  | .append, [t, t'], [x, y] => match P.underlying t with
    | some (.slice e) => match szT P e, bytesT P e, zeroCells P e, opd x, opd y with
      | some sz, some b, some z, some x, some y => if t == t' && 0 < sz && 0 < b && z.length == sz then some (.append e sz b x y) else none
      | _, _, _, _, _ => none
    | _ => none
  | .clear, [t], [x] => match P.underlying t with
    | some (.slice e) => match szT P e, zeroCells P e, opd x with
      | some sz, some z, some x => if z.length == sz then some (.clear sz z x) else none
      | _, _, _ => none
    | _ => none
  | .min, [t, t'], [x, y] => match opd x, opd y with
    | some x, some y => some (.min2 x y)
    | _, _ => none
  | .max, [t, t'], [x, y] => match opd x, opd y with
    | some x, some y => some (.max2 x y)
    | _, _ => none
  | _, _, _ => none

def comp (P : Program) (o : Oper) : Option I :=
  match o.op with
  | .move x => (opd x).map .mv
  | .assign x => (opd x).map .mv
  | .pick c a b => match opd c, opd a, opd b with
    | some c, some a, some b => some (.pick c a b)
    | _, _, _ => none
  | .nilCheck x => (opd x).map .nilChk
  | .alloc e => match zeroCells P e, szT P e with
    | some z, some sz => if z.length == sz then some (.alloc e z) else none
    | _, _ => none
  | .box e x => match opd x with
    | some x => some (.box e x)
    | _ => none
  | .build t ps => match zeroCells P t, P.underlying t with
    | some z, some (.struct fs) => match parts (fun i => (fs[i]?).bind fun f => (szT P f.type).map fun n => (f.offset, n)) ps.toList with
      | some ps => if fs.toList.all (fun f => (szT P f.type).isSome) then some (.build z ps) else none
      | none => none
    | some z, some (.array _ e) => match szT P e with
      | some sz => match parts (fun i => some (i * sz, sz)) ps.toList with
        | some ps => some (.build z ps)
        | none => none
      | none => none
    | _, _ => none
  | .buildSlice t len ps => match P.underlying t with
    | some (.slice e) => match zeroCells P e, szT P e with
      | some z, some sz => match parts (fun i => some (i * sz, sz)) ps.toList with
        | some ps => if z.length == sz && 0 < sz then some (.bslice e sz len z ps) else none
        | none => none
      | _, _ => none
    | _ => none
  | .load t a => match isAggT P t, szT P t, opd a with
    | some ag, some sz, some a => if ag || sz == 1 then some (.load ag sz a) else none
    | _, _, _ => none
  | .store t a x => match szT P t, opd a, opd x with
    | some sz, some a, some x => some (.store sz a x)
    | _, _, _ => none
  | .fieldAddr t x f => match P.underlying t, opd x with
    | some (.struct fs), some x => match fs[f]? with
      | some fd => match szT P fd.type with
        | some n => if n == 0 then none else some (.faddr fd.offset x)
        | none => none
      | none => none
    | _, _ => none
  | .field t x f => match P.underlying t, opd x with
    | some (.struct fs), some x => match fs[f]? with
      | some fd => match isAggT P fd.type, szT P fd.type with
        | some ag, some n => if ag || n == 1 then some (.field ag fd.offset n x) else none
        | _, _ => none
      | none => none
    | _, _ => none
  | .indexAddr t x i => match P.underlying t, opd x, opd i with
    | some (.slice e), some x, some i => (szT P e).map fun sz => .iaddr sz x i
    | some (.array n e), some x, some i => (szT P e).map fun sz => .iaddrA n sz x i
    | _, _, _ => none
  | .index t x i => match P.underlying t, opd x, opd i with
    | some .string, some x, some i => some (.idxS x i)
    | some (.array n e), some x, some i => match isAggT P e, szT P e with
      | some ag, some sz => if ag || sz == 1 then some (.idxA ag n sz x i) else none
      | _, _ => none
    | _, _, _ => none
  | .binOp op t x y _ => match opd x, opd y with
    | some x, some y =>
      match P.underlying t with
      | some (.int _) => some (.bin op x y)
      | some .string => some (.bin op x y)
      | _ => match eqK P t, op with
        | some k, .eql => some (.eq false k x y)
        | some k, .neq => some (.eq true k x y)
        | _, _ => none
    | _, _ => none
  | .unOp op _ x => match op with
    | .not => (opd x).map (.un .not)
    | .neg => (opd x).map (.un .neg)
    | _ => none
  | .convert s d x => match P.underlying s, P.underlying d with
    | some (.int _), some (.int k) => (opd x).map (.conv k)
    | some .string, some .string => (opd x).map .convS
    | _, _ => none
  | .slice t x lo hi mx => match P.underlying t, opd x, optOpd lo, optOpd hi, optOpd mx with
    | some (.slice e), some x, some lo, some hi, some mx => (szT P e).map fun sz => .slice sz x lo hi mx
    | some .string, some x, some lo, some hi, some none => some (.sliceS x lo hi)
    | _, _, _, _, _ => none
  | .makeSlice t l c => match P.underlying t with
    | some (.slice e) => match zeroCells P e, szT P e, bytesT P e, opd l, opd c with
      | some z, some sz, some b, some l, some c => if z.length == sz && 0 < sz then some (.mk e sz b z l c) else none
      | _, _, _, _, _ => none
    | _ => none
  | .makeMap t none => some .mkmap
  | .lookup t x k ok => match P.underlying t with
    | some (.map kt et) => match kindT P kt, zeroD P et, opd x, opd k with
      | some kk, some z, some x, some k => some (.lookup kk z ok x k)
      | _, _, _, _ => none
    | _ => none
  | .mapUpdate t m k v => match P.underlying t with
    | some (.map kt et) => match kindT P kt, opd m, opd k, opd v with
      | some kk, some m, some k, some v => some (.mupd kk m k v)
      | _, _, _, _ => none
    | _ => none
  | .insert t m k v => match P.underlying t with
    | some (.map kt et) => match kindT P kt, opd m, opd k, opd v with
      | some kk, some m, some k, some v => some (.mupd kk m k v)
      | _, _, _, _ => none
    | _ => none
  | .range t x => match P.underlying t with
    | some (.map _ _) => (opd x).map .range
    | _ => none
  | .next x false => (opd x).map .next
  | .entry x => (opd x).map .entry
  | .makeFunc f first cap => match f with
    | .func k => match opds first.toList, opds cap.toList with
      | some a, some b => some (.mkfn (.func k) a b)
      | _, _ => none
    | _ => none
  | .makeInterface t x => match P.underlying t with
    | some (.interface _) => none
    | some _ => (opd x).map (.mkif t)
    | none => none
  | .extract x i => (opd x).map fun x => .extract x i
  | .call c => match c.callee with
    | .value f => compCall P f c.args.toList
    | .builtin b => compBuiltin P b c.argTypes.toList c.args.toList
    | .invoke .. => none
  | .panic x => (opd x).map .panic
  | _ => none

/-! ### Regions: 'af': after which operations of its region an operation comes -/
def compOp (P : Program) (ops : Array Oper) (o : Oper) : Option IOp :=
  match comp P o with
  | some i =>
    match o.guard with
    | none => some { dst := o.dst, i, guard := none, af := (o.after.toList.filter (Region.binds .any)).map (·.on) }
    | some (k, b) => match (ops[k]?).bind (·.dst) with
      | some t => some { dst := o.dst, i, guard := some (t, b), af := (o.after.toList.filter (Region.binds .any)).map (·.on) }
      | none => none
  | none => none
def compOpL (P : Program) (ops : Array Oper) : List Oper → Option (List IOp)
  | [] => some []
  | o :: rest => match compOp P ops o, compOpL P ops rest with
    | some i, some l => some (i :: l)
    | _, _ => none
def compOps (P : Program) (ops : Array Oper) : Option (List IOp) := compOpL P ops ops.toList
def compC (P : Program) : Code → Option IC
  | .skip => some .skip
  | .region _ ops draw => (compOps P ops).map fun l => if draw then (match quietOrder l with
      | some l' => .region l'
      | none => .draw l) else .region l
  | .seq a b => match compC P a, compC P b with
    | some a, some b => some (.seq a b)
    | _, _ => none
  | .cond c a b => match opd c, compC P a, compC P b with
    | some c, some a, some b => some (.cond c a b)
    | _, _, _ => none
  | .block id b => (compC P b).map (.block id)
  | .loop b => (compC P b).map .loop
  | .scope b => (compC P b).map .scope
  | .exit id => some (.exit id)
  | .ret => some .ret
  | _ => none
def compRes (P : Program) : List ResultVar → Option (List RV)
  | [] => some []
  | .tmp t :: rs => (compRes P rs).map (.tmp t :: ·)
  | .cell a t :: rs => match isAggT P t, szT P t, compRes P rs with
    | some ag, some sz, some l => if ag || sz == 1 then some (.cell a ag sz :: l) else none
    | _, _, _ => none
def compF (P : Program) (keep : Bool) (fn : Func) : Option IF :=
  match fn.body with
  | some c => match compC P c, compRes P fn.results.toList with
    | some b, some res => if fn.name == "runtime.NumGoroutine" then none else some { nt := fn.ntmps, res, keep, body := b }
    | _, _ => none
  | none => none
end Go.Ai
/-! What an operation does to the world, said of the abstract heap. -/
set_option linter.unusedVariables false
set_option linter.unusedSimpArgs false
namespace Go.Ai

theorem lk_cons (m n : Nat) (o : Obj) (t : Heap) : lk ((m, o) :: t) n = if n = m then some o else lk t n := by
  simp only [lk]
  by_cases h : n = m
  · subst h; simp [Nat.beq_refl]
  · have : Nat.beq n m = false := by
      cases hb : Nat.beq n m with
      | false => rfl
      | true => exact absurd (Nat.eq_of_beq_eq_true hb) h
    simp [this, h]
theorem lk_upd (H : Heap) (n m : Nat) (o : Obj) : lk (upd H n o) m = if m = n then (lk H n).map (fun _ => o) else lk H m := by
  induction H with
  | nil => simp [upd, lk]
  | cons p t ih =>
    obtain ⟨k, ob⟩ := p
    by_cases h : n = k
    · subst h
      simp only [upd, Nat.beq_refl, cond_true, lk_cons]
      by_cases hm : m = n <;> simp [hm]
    · have hb : Nat.beq n k = false := by
        cases hb : Nat.beq n k with
        | false => rfl
        | true => exact absurd (Nat.eq_of_beq_eq_true hb) h
      simp only [upd, hb, cond_false, lk_cons, ih]
      by_cases hm : m = n
      · subst hm; simp [h]
      · simp [hm]
theorem lk_rm (H : Heap) (n m : Nat) : lk (rm H n) m = if m = n then none else lk H m := by
  induction H with
  | nil => simp [rm, lk]
  | cons p t ih =>
    obtain ⟨k, ob⟩ := p
    by_cases h : n = k
    · subst h
      simp only [rm, Nat.beq_refl, cond_true, ih, lk_cons]
      by_cases hm : m = n <;> simp [hm]
    · have hb : Nat.beq n k = false := by
        cases hb : Nat.beq n k with
        | false => rfl
        | true => exact absurd (Nat.eq_of_beq_eq_true hb) h
      simp only [rm, hb, cond_false, lk_cons, ih]
      by_cases hm : m = n
      · subst hm; simp [h]
      · by_cases hk : m = k <;> simp [hm, hk]
        intro hh; exact absurd hh.symm h

abbrev Imap := Nat → Option (Nat × Nat)

/-- The same but for what is sealed. -/
def Obj.like : Obj → Obj → Prop
  | .cells cs e _, .cells cs' e' _ => cs = cs' ∧ e = e'
  | .map es _, .map es' _ => es = es'
  | .iter es s, .iter es' s' => es = es' ∧ s = s'
  | _, _ => False
theorem Obj.like_refl (o : Obj) : o.like o := by cases o <;> simp [Obj.like]
theorem Obj.like_trans {a b c : Obj} (h : a.like b) (k : b.like c) : a.like c := by
  cases a <;> cases b <;> cases c <;> simp_all [Obj.like]

structure Good (w w' : World) (s s' : St) (ι ι' : Imap) : Prop where
  r : R w' s'.H ι'
  chg : Chg (Xof s.H ι) w w'
  ext : ∀ n b, ι n = some b → ι' n = some b
  dom : ∀ n b, ι' n = some b → ι n = some b ∨ (s.nx ≤ n ∧ n < s'.nx)
  x : ∀ b o, b < w.heap.size → Xof s'.H ι' b o → Xof s.H ι b o
  nx : s.nx ≤ s'.nx
  ro : s'.ro = s.ro
  old : ∀ n o, n < s.ro → lk s.H n = some o → (∃ o', lk s'.H n = some o' ∧ o.like o') ∧ ∀ b base, ι n = some (b, base) → w'.heap[b]? = w.heap[b]?

theorem Good.refl {w : World} {s : St} {ι : Imap} (h : R w s.H ι) : Good w w s s ι ι :=
  ⟨h, Chg.refl _ _, fun _ _ h => h, fun _ _ h => .inl h, fun _ _ _ h => h, Nat.le_refl _, rfl, fun n o _ h => ⟨⟨o, h, Obj.like_refl o⟩, fun _ _ _ => rfl⟩⟩

theorem Good.trans {w w1 w2 : World} {s s1 s2 : St} {ι ι1 ι2 : Imap} (h : Good w w1 s s1 ι ι1) (k : Good w1 w2 s1 s2 ι1 ι2) : Good w w2 s s2 ι ι2 :=
  ⟨k.r, h.chg.trans' k.chg h.x, fun n b hn => k.ext n b (h.ext n b hn), fun n b hn => by
      have h1 := h.nx
      have h2 := k.nx
      rcases k.dom n b hn with h3 | h3
      · rcases h.dom n b h3 with h4 | h4
        · exact .inl h4
        · exact .inr (by omega)
      · exact .inr (by omega),
    fun b o hb hx => h.x b o hb (k.x b o (Nat.lt_of_lt_of_le hb h.chg.size) hx), Nat.le_trans h.nx k.nx, k.ro.trans h.ro,
    fun n o hn ho => by
      obtain ⟨⟨o1, h1, l1⟩, s1⟩ := h.old n o hn ho
      obtain ⟨⟨o2, h2, l2⟩, s2⟩ := k.old n o1 (by rw [h.ro]; exact hn) h1
      exact ⟨⟨o2, h2, Obj.like_trans l1 l2⟩, fun b base hb => (s2 b base (h.ext _ _ hb)).trans (s1 b base hb)⟩⟩

theorem Good.val {w w' : World} {s s' : St} {ι ι' : Imap} (h : Good w w' s s' ι ι') {d : D} {v : Value} (hv : V w (Xof s.H ι) ι d v) : V w' (Xof s'.H ι') ι' d v :=
  hv.step h.chg h.x h.ext

/-- The temporaries. -/
structure TV (w : World) (X : Nat → Nat → Prop) (ι : Imap) (T : List D) (a : Array Value) : Prop where
  size : a.size = T.length
  v : ∀ i, i < T.length → V w X ι (T.getD i default) (a.getD i undef)
theorem Good.tv {w w' : World} {s s' : St} {ι ι' : Imap} (h : Good w w' s s' ι ι') {T : List D} {a : Array Value} (ht : TV w (Xof s.H ι) ι T a) : TV w' (Xof s'.H ι') ι' T a :=
  ⟨ht.size, fun i hi => h.val (ht.v i hi)⟩

theorem V_ofV {w : World} {X : Nat → Nat → Prop} {ι : Imap} {v : Value} (h : flatV v = true) : V w X ι (ofV v) v := by
  cases v with
  | agg vs =>
    refine .agg _ _ (by simp) fun i hi => ?_
    simp only [List.length_map, Array.length_toList] at hi
    have : (List.map D.raw vs.toList).getD i default = .raw (vs.getD i undef) := by
      simp [List.getD_eq_getElem?_getD, hi, Array.getD]
    rw [this]; exact .raw _
  | func f fs cs =>
    simp only [flatV, Bool.and_eq_true, Array.isEmpty_iff_size_eq_zero] at h
    obtain ⟨h1, h2⟩ := h
    have e1 : fs = #[] := by simpa using h1
    have e2 : cs = #[] := by simpa using h2
    subst e1; subst e2
    exact .fn f [] [] #[] #[] rfl rfl (fun i hi => absurd hi (Nat.not_lt_zero _)) (fun i hi => absurd hi (Nat.not_lt_zero _))
  | _ => exact .raw _

theorem V_opd {w : World} {X : Nat → Nat → Prop} {ι : Imap} {T : List D} {a : Act} (ht : TV w X ι T a.tmps) {x : Operand} {y : Opd} (h : opd x = some y) : V w X ι (evO T y) (a.eval x) := by
  cases x with
  | tmp t =>
    simp only [opd, Option.some.injEq] at h
    subst h
    simp only [evO, Act.eval]
    rcases Nat.lt_or_ge t T.length with hl | hl
    · exact ht.v t hl
    · have e1 : T.getD t default = default := by simp [List.getD_eq_getElem?_getD, List.getElem?_eq_none hl]
      have hl2 : ¬ t < a.tmps.size := by have := ht.size; exact fun hh => by rw [this] at hh; exact absurd hh (Nat.not_lt.2 hl)
      have e2 : a.tmps.getD t undef = undef := by simp [Array.getD, hl2]
      rw [e1, e2]; exact .raw _
  | const v =>
    simp only [opd] at h
    split at h
    · rename_i hf
      simp only [Option.some.injEq] at h
      subst h
      exact V_ofV hf
    · cases h
  | global g =>
    simp only [opd, Option.some.injEq] at h
    subst h
    exact .raw _
  | func f =>
    simp only [opd, Option.some.injEq] at h
    subst h
    exact .fn _ [] [] #[] #[] rfl rfl (fun i hi => absurd hi (Nat.not_lt_zero _)) (fun i hi => absurd hi (Nat.not_lt_zero _))

/-! ### The single cell -/
theorem one_cell {w : World} {X : Nat → Nat → Prop} {ι : Imap} {d : D} {v : Value} (h : V w X ι d v) (h1 : one d = true) : v.oneCell' = true := by
  cases h with
  | raw v => cases v <;> simp_all [one, Value.oneCell']
  | agg => simp [one] at h1
  | tup => simp [one] at h1
  | _ => rfl
theorem cells_V {w : World} {X : Nat → Nat → Prop} {ι : Imap} {d : D} {v : Value} (h : V w X ι d v) (h1 : (cellsOf d).all one = true) :
    v.cells.size = (cellsOf d).length ∧ ∀ i, i < (cellsOf d).length → V w X ι ((cellsOf d).getD i default) (v.cells.getD i undef) := by
  have key : ∀ (d : D) (v : Value), cellsOf d = [d] → V w X ι d v → one d = true → v.cells.size = (cellsOf d).length ∧ ∀ i, i < (cellsOf d).length → V w X ι ((cellsOf d).getD i default) (v.cells.getD i undef) := by
    intro d v hd hv h1
    have hc : v.cells = #[v] := by
      have := one_cell hv h1
      cases v <;> simp_all [Value.cells, Value.oneCell']
    rw [hd, hc]
    refine ⟨rfl, fun i hi => ?_⟩
    have : i = 0 := by simpa using hi
    subst this
    exact hv
  cases h with
  | agg cs vs hs h => exact ⟨by simpa [Value.cells, cellsOf] using hs, by simpa [Value.cells, cellsOf] using h⟩
  | raw v => exact key _ _ rfl (.raw v) (by simpa [cellsOf] using h1)
  | tup cs vs hs h => exact key _ _ rfl (.tup cs vs hs h) (by simpa [cellsOf] using h1)
  | e0 A => exact key _ _ rfl (.e0 A) rfl
  | lst xs A ad n cap sz u a1 a2 a3 a4 a5 a6 a7 a8 => exact key _ _ rfl (.lst xs A ad n cap sz u a1 a2 a3 a4 a5 a6 a7 a8) rfl
  | sl n b base off len sz cap ad arr e fr a1 a2 a3 a4 a5 => exact key _ _ rfl (.sl n b base off len sz cap ad arr e fr a1 a2 a3 a4 a5) rfl
  | ref n b base off a1 => exact key _ _ rfl (.ref n b base off a1) rfl
  | iptr cs ad u a1 a2 a3 a4 => exact key _ _ rfl (.iptr cs ad u a1 a2 a3 a4) rfl
  | map n b base a1 => exact key _ _ rfl (.map n b base a1) rfl
  | imap es b ents clock a1 a2 a3 a4 a5 a6 => exact key _ _ rfl (.imap es b ents clock a1 a2 a3 a4 a5 a6) rfl
  | fn f fs cs us vs a1 a2 a3 a4 => exact key _ _ rfl (.fn f fs cs us vs a1 a2 a3 a4) rfl
  | iface t d v a1 => exact key _ _ rfl (.iface t d v a1) rfl

/-! ### A new block -/
theorem chg_alloc (X : Nat → Nat → Prop) (w : World) (ob : Go.Obj) : Chg X w (w.alloc ob) := by
  have get : ∀ (b : Nat) (x : Go.Obj), w.heap[b]? = some x → (w.alloc ob).heap[b]? = some x := by
    intro b x h
    have hlt := (Array.getElem?_eq_some_iff.1 h).1
    simp only [World.alloc, Array.getElem?_push]
    rw [if_neg (by omega)]; exact h
  exact ⟨rfl, rfl, rfl, by simp, fun b arr e fr h => ⟨arr, fr, get _ _ h, rfl, fun _ _ => rfl, fun _ => rfl⟩, fun b x h _ _ => get _ _ h⟩

theorem ObjOk.step {w w' : World} {X X' : Nat → Nat → Prop} {ι ι' : Imap} {b base : Nat} {o : Obj} (h : ObjOk w X ι b base o) (hb : w'.heap[b]? = w.heap[b]?)
    (hv : ∀ d v, V w X ι d v → V w' X' ι' d v) : ObjOk w' X' ι' b base o := by
  cases o with
  | cells cs e lo =>
    obtain ⟨arr, h1, h2, h3⟩ := h
    exact ⟨arr, hb.trans h1, h2, fun i hi => hv _ _ (h3 i hi)⟩
  | map es sl =>
    obtain ⟨ents, clock, h1, h2, h3, h4⟩ := h
    exact ⟨ents, clock, hb.trans h1, h2, h3, fun i hi => hv _ _ (h4.1 i hi), h4.2⟩
  | iter es seen =>
    obtain ⟨A, h1, h2, h3⟩ := h
    refine ⟨A, hb.trans h1, h2, ?_⟩
    cases A with
    | none => exact h3
    | some m => exact hv _ _ h3

def ext (ι : Imap) (n b base : Nat) : Imap := fun m => if m = n then some (b, base) else ι m

/-- A new object in a new block. -/
theorem good_new {w : World} {s : St} {ι : Imap} (hR : R w s.H ι) (hd : ι s.nx = none) (ob : Go.Obj) (o : Obj)
    (ho : ∀ (X' : Nat → Nat → Prop) (ι' : Imap), (∀ d v, V w (Xof s.H ι) ι d v → V (w.alloc ob) X' ι' d v) → ObjOk (w.alloc ob) X' ι' w.heap.size 0 o) :
    Good w (w.alloc ob) s (new s o).2 ι (ext ι s.nx w.heap.size 0) := by
  have hfresh : ι s.nx = none := hd
  have hext : ∀ n b, ι n = some b → ext ι s.nx w.heap.size 0 n = some b := by
    intro n b h
    have : n ≠ s.nx := fun e => by rw [e, hfresh] at h; cases h
    simp [ext, this, h]
  have hx : ∀ b o', b < w.heap.size → Xof (new s o).2.H (ext ι s.nx w.heap.size 0) b o' → Xof s.H ι b o' := by
    rintro b o' hb ⟨n, ob', base, h1, h2, h3⟩
    simp only [new, lk_cons] at h1
    by_cases hn : n = s.nx
    · subst hn
      simp only [ext, if_true, Option.some.injEq, Prod.mk.injEq] at h2
      omega
    · rw [if_neg hn] at h1
      simp only [ext, if_neg hn] at h2
      exact ⟨n, ob', base, h1, h2, h3⟩
  have hV : ∀ d v, V w (Xof s.H ι) ι d v → V (w.alloc ob) (Xof (new s o).2.H (ext ι s.nx w.heap.size 0)) (ext ι s.nx w.heap.size 0) d v :=
    fun d v h => h.step (chg_alloc _ _ _) hx hext
  refine ⟨⟨?_, ?_, ?_⟩, chg_alloc _ _ _, hext, ?_, hx, Nat.le_succ _, rfl, ?_⟩
  · intro n o' h
    simp only [new, lk_cons] at h
    by_cases hn : n = s.nx
    · subst hn
      simp only [if_true, Option.some.injEq] at h
      subst h
      exact ⟨w.heap.size, 0, by simp [ext], ho _ _ hV⟩
    · rw [if_neg hn] at h
      obtain ⟨b, base, h1, h2⟩ := hR.obj n o' h
      refine ⟨b, base, hext _ _ h1, h2.step ?_ hV⟩
      have hlt := hR.low _ _ _ h1
      simp only [World.alloc, Array.getElem?_push]
      rw [if_neg (by omega)]
  · intro n m o1 o2 b base base' h1 h2 h3 h4
    simp only [new, lk_cons] at h1 h2
    by_cases hn : n = s.nx <;> by_cases hm : m = s.nx
    · rw [hn, hm]
    · simp only [ext, if_pos hn, Option.some.injEq, Prod.mk.injEq] at h3
      simp only [ext, if_neg hm] at h4
      have := hR.low _ _ _ h4
      omega
    · simp only [ext, if_pos hm, Option.some.injEq, Prod.mk.injEq] at h4
      simp only [ext, if_neg hn] at h3
      have := hR.low _ _ _ h3
      omega
    · rw [if_neg hn] at h1
      rw [if_neg hm] at h2
      simp only [ext, if_neg hn] at h3
      simp only [ext, if_neg hm] at h4
      exact hR.inj _ _ _ _ _ _ _ h1 h2 h3 h4
  · intro n b base h
    simp only [ext] at h
    split at h
    · simp only [Option.some.injEq, Prod.mk.injEq] at h
      simp [← h.1]
    · have := hR.low _ _ _ h
      simp; omega
  · intro n b h
    simp only [ext] at h
    simp only [new]
    split at h
    · rename_i e; exact .inr (by omega)
    · exact .inl h
  · intro n o' hn h
    simp only [new, lk_cons]
    by_cases e : n = s.nx
    · subst e
      obtain ⟨b, base, h1, _⟩ := hR.obj _ _ h
      rw [hfresh] at h1; cases h1
    · refine ⟨⟨o', by rw [if_neg e]; exact h, Obj.like_refl _⟩, fun b base hb => ?_⟩
      have hlt := hR.low _ _ _ hb
      simp only [World.alloc, Array.getElem?_push]
      rw [if_neg (by omega)]

/-- A new block of cells. -/
theorem good_new_cells {w : World} {s : St} {ι : Imap} (hR : R w s.H ι) (hd : ι s.nx = none) (arr : Array Value) (e : TypeId) (cs : List D) (lo : Nat)
    (hl : cs.length ≤ arr.size) (hv : ∀ i, i < cs.length → V w (Xof s.H ι) ι (cs.getD i default) (arr.getD i undef)) :
    Good w (w.alloc (.cells arr e)) s (new s (.cells cs e lo)).2 ι (ext ι s.nx w.heap.size 0) :=
  good_new hR hd _ _ fun X' ι' hV => ⟨arr, by simp only [World.alloc, Array.getElem?_push_size], by omega, fun i hi => by rw [Nat.zero_add]; exact hV _ _ (hv i hi)⟩
end Go.Ai
