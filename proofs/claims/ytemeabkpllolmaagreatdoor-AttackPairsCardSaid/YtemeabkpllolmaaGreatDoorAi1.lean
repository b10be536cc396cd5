/-
  A part of an interpreter over abstract data, proved sound once for the model: what it says of the code, the machine does in every order. Conditions: none beyond the statement.
-/
import Derived.Below
import Derived.Calls
import Derived.Orders
/-! Abstract data, abstract heap, what they say of a world. -/
set_option linter.unusedVariables false
namespace Go.Ai

/-- Abstract data: 'raw': the very value; 'e0': a slice of capacity 0; 'lst', 'iptr', 'imap': memory that nobody writes any more; 'sl', 'ref', 'map': a live object, by its name. -/
inductive D where
  | raw (v : Value)
  | agg (cs : List D)
  | tup (ds : List D)
  | lst (xs : List (List D))
  | sl (n off len sz : Nat)
  | ref (n off : Nat)
  | iptr (cs : List D)
  | map (n : Nat)
  | imap (es : List (Value × D))
  | fn (f : Fn) (first captured : List D)
  | e0
  | iface (t : TypeId) (d : D)

instance : Inhabited D := ⟨.raw undef⟩
abbrev D.none_ : D := .raw undef

/-- A live object: a block of cells (those from 'lo' on may be written; behind them there may be room), a map. -/
inductive Obj where
  | cells (cs : List D) (e : TypeId) (lo : Nat)
  | map (es : List (Value × D)) (sealed_ : Bool)

abbrev Heap := List (Nat × Obj)
def lk : Heap → Nat → Option Obj
  | [], _ => none
  | (m, o) :: t, n => bif Nat.beq n m then some o else lk t n
def upd : Heap → Nat → Obj → Heap
  | [], _, _ => []
  | (m, o') :: t, n, o => bif Nat.beq n m then (m, o) :: t else (m, o') :: upd t n o
def rm : Heap → Nat → Heap
  | [], _ => []
  | (m, o) :: t, n => bif Nat.beq n m then rm t n else (m, o) :: rm t n

structure St where
  H : Heap
  nx : Nat
  ro : Nat

/-- May cell o of the block be written? -/
def Obj.free : Obj → Nat → Nat → Prop
  | .cells _ _ lo, base, o => base + lo ≤ o
  | .map _ s, _, _ => s = false

def Xof (H : Heap) (ι : Nat → Option (Nat × Nat)) (b o : Nat) : Prop := ∃ n ob base, lk H n = some ob ∧ ι n = some (b, base) ∧ ob.free base o

inductive V (w : World) (X : Nat → Nat → Prop) (ι : Nat → Option (Nat × Nat)) : D → Value → Prop
  | raw (v : Value) : V w X ι (.raw v) v
  | agg (cs : List D) (vs : Array Value) (hs : vs.size = cs.length) (h : ∀ i, i < cs.length → V w X ι (cs.getD i default) (vs.getD i undef)) : V w X ι (.agg cs) (.agg vs)
  | tup (cs : List D) (vs : Array Value) (hs : vs.size = cs.length) (h : ∀ i, i < cs.length → V w X ι (cs.getD i default) (vs.getD i undef)) : V w X ι (.tup cs) (.tuple vs)
  | lst (xs : List (List D)) (A : Option Addr) (ad : Addr) (n cap sz : Nat) (u : Nat → Nat → Value) (hn : n = xs.length) (hcap : n ≤ cap) (hA : A = some ad ∨ xs = []) (hsp : ad.spot = none)
      (hz : ∀ i, i < xs.length → (xs.getD i []).length = sz)
      (hc : ∀ i j, i < xs.length → j < sz → w.cell? ⟨ad.block, ad.off + i * sz + j, none⟩ = some (u i j))
      (hx : ∀ i j, i < xs.length → j < sz → ¬ X ad.block (ad.off + i * sz + j))
      (h : ∀ i j, i < xs.length → j < sz → V w X ι ((xs.getD i []).getD j default) (u i j)) : V w X ι (.lst xs) (.slice A n cap)
  | e0 (A : Option Addr) : V w X ι .e0 (.slice A 0 0)
  | sl (n b base off len sz cap : Nat) (ad : Addr) (arr : Array Value) (e : TypeId) (fr : Nat × Nat) (hi : ι n = some (b, base)) (hl : len ≤ cap) (hb : w.heap[b]? = some (.cells arr e fr)) (hsz : base + off + cap * sz ≤ arr.size)
      (had : ad = ⟨b, base + off, none⟩ ∨ cap = 0) : V w X ι (.sl n off len sz) (.slice (some ad) len cap)
  | ref (n b base off : Nat) (hi : ι n = some (b, base)) : V w X ι (.ref n off) (.pointer (some ⟨b, base + off, none⟩))
  | iptr (cs : List D) (ad : Addr) (u : Nat → Value) (hsp : ad.spot = none)
      (hc : ∀ j, j < cs.length → w.cell? ⟨ad.block, ad.off + j, none⟩ = some (u j))
      (hx : ∀ j, j < cs.length → ¬ X ad.block (ad.off + j))
      (h : ∀ j, j < cs.length → V w X ι (cs.getD j default) (u j)) : V w X ι (.iptr cs) (.pointer (some ad))
  | map (n b base : Nat) (hi : ι n = some (b, base)) : V w X ι (.map n) (.map (some b))
  | imap (es : List (Value × D)) (b : Nat) (ents : Array MapEntry) (clock : Nat) (hb : w.heap[b]? = some (.map ents clock)) (hx : ¬ X b 0) (hs : ents.size = es.length)
      (hk : ∀ i, i < es.length → (ents.getD i default).key = (es.getD i default).1)
      (h : ∀ i, i < es.length → V w X ι (es.getD i default).2 (ents.getD i default).val) : V w X ι (.imap es) (.map (some b))
  | fn (f : Fn) (fs cs : List D) (us vs : Array Value) (hu : us.size = fs.length) (hv : vs.size = cs.length)
      (h1 : ∀ i, i < fs.length → V w X ι (fs.getD i default) (us.getD i undef)) (h2 : ∀ i, i < cs.length → V w X ι (cs.getD i default) (vs.getD i undef)) : V w X ι (.fn f fs cs) (.func f us vs)
  | iface (t : TypeId) (d : D) (v : Value) (h : V w X ι d v) : V w X ι (.iface t d) (.iface t v)

/-- What an object says of its block. -/
def ObjOk (w : World) (X : Nat → Nat → Prop) (ι : Nat → Option (Nat × Nat)) (b base : Nat) : Obj → Prop
  | .cells cs e _ => ∃ arr, w.heap[b]? = some (.cells arr e (0, 0)) ∧ base + cs.length ≤ arr.size ∧ ∀ i, i < cs.length → V w X ι (cs.getD i default) (arr.getD (base + i) undef)
  | .map es _ => ∃ ents clock, w.heap[b]? = some (.map ents clock) ∧ ents.size = es.length ∧ (∀ i, i < es.length → (ents.getD i default).key = (es.getD i default).1) ∧
      (∀ i, i < es.length → V w X ι (es.getD i default).2 (ents.getD i default).val)

/-- The world holds what the abstract heap says. -/
structure R (w : World) (H : Heap) (ι : Nat → Option (Nat × Nat)) : Prop where
  obj : ∀ n o, lk H n = some o → ∃ b base, ι n = some (b, base) ∧ ObjOk w (Xof H ι) ι b base o
  inj : ∀ n m o o' b base base', lk H n = some o → lk H m = some o' → ι n = some (b, base) → ι m = some (b, base') → n = m
  low : ∀ n b base, ι n = some (b, base) → b < w.heap.size

/-- What may have turned: cells that were free, new blocks. -/
structure Chg (X : Nat → Nat → Prop) (w w' : World) : Prop where
  os : w'.os = w.os
  tape : w'.tape = w.tape
  out : w'.output = w.output
  size : w.heap.size ≤ w'.heap.size
  cells : ∀ b arr e fr, w.heap[b]? = some (.cells arr e fr) → ∃ arr' fr', w'.heap[b]? = some (.cells arr' e fr') ∧ arr'.size = arr.size ∧ (∀ o, ¬ X b o → arr'[o]? = arr[o]?) ∧ ((∀ o, ¬ X b o) → fr' = fr)
  other : ∀ b ob, w.heap[b]? = some ob → (∀ arr e fr, ob ≠ .cells arr e fr) → ¬ X b 0 → w'.heap[b]? = some ob

theorem Chg.refl (X : Nat → Nat → Prop) (w : World) : Chg X w w :=
  ⟨rfl, rfl, rfl, Nat.le_refl _, fun b arr e fr h => ⟨arr, fr, h, rfl, fun _ _ => rfl, fun _ => rfl⟩, fun b ob h _ _ => h⟩

theorem Chg.mono {X Y : Nat → Nat → Prop} {w w' : World} (h : Chg X w w') (hxy : ∀ b o, b < w.heap.size → X b o → Y b o) : Chg Y w w' := by
  have lt : ∀ {b : Nat} {ob : Go.Obj}, w.heap[b]? = some ob → b < w.heap.size := fun h => (Array.getElem?_eq_some_iff.1 h).1
  refine ⟨h.os, h.tape, h.out, h.size, fun b arr e fr hb => ?_, fun b ob hb hn hx => h.other b ob hb hn fun hx' => hx (hxy b 0 (lt hb) hx')⟩
  obtain ⟨arr', fr', h1, h2, h3, h4⟩ := h.cells b arr e fr hb
  exact ⟨arr', fr', h1, h2, fun o ho => h3 o fun hx => ho (hxy b o (lt hb) hx), fun hall => h4 fun o hx => hall o (hxy b o (lt hb) hx)⟩

theorem Chg.trans {X : Nat → Nat → Prop} {w w1 w2 : World} (h : Chg X w w1) (k : Chg X w1 w2) : Chg X w w2 := by
  refine ⟨k.os.trans h.os, k.tape.trans h.tape, k.out.trans h.out, Nat.le_trans h.size k.size, fun b arr e fr hb => ?_, fun b ob hb hn hx => ?_⟩
  · obtain ⟨arr1, fr1, h1, h2, h3, h4⟩ := h.cells b arr e fr hb
    obtain ⟨arr2, fr2, k1, k2, k3, k4⟩ := k.cells b arr1 e fr1 h1
    exact ⟨arr2, fr2, k1, k2.trans h2, fun o ho => (k3 o ho).trans (h3 o ho), fun hall => (k4 hall).trans (h4 hall)⟩
  · exact k.other b ob (h.other b ob hb hn hx) hn hx

/-- What is free in new blocks alone doesn't count. -/
theorem Chg.trans' {X Y : Nat → Nat → Prop} {w w1 w2 : World} (h : Chg X w w1) (k : Chg Y w1 w2) (hxy : ∀ b o, b < w.heap.size → Y b o → X b o) : Chg X w w2 := by
  have lt : ∀ {b : Nat} {ob : Go.Obj}, w.heap[b]? = some ob → b < w.heap.size := fun h => (Array.getElem?_eq_some_iff.1 h).1
  refine ⟨k.os.trans h.os, k.tape.trans h.tape, k.out.trans h.out, Nat.le_trans h.size k.size, fun b arr e fr hb => ?_, fun b ob hb hn hx => ?_⟩
  · obtain ⟨arr1, fr1, h1, h2, h3, h4⟩ := h.cells b arr e fr hb
    obtain ⟨arr2, fr2, k1, k2, k3, k4⟩ := k.cells b arr1 e fr1 h1
    exact ⟨arr2, fr2, k1, k2.trans h2, fun o ho => (k3 o fun hy => ho (hxy b o (lt hb) hy)).trans (h3 o ho), fun hall => (k4 fun o hy => hall o (hxy b o (lt hb) hy)).trans (h4 hall)⟩
  · exact k.other b ob (h.other b ob hb hn hx) hn fun hy => hx (hxy b 0 (lt hb) hy)

theorem Chg.cell {X : Nat → Nat → Prop} {w w' : World} (h : Chg X w w') {b o : Nat} {v : Value} (hx : ¬ X b o) (hc : w.cell? ⟨b, o, none⟩ = some v) : w'.cell? ⟨b, o, none⟩ = some v := by
  unfold World.cell? at *
  cases hb : w.heap[b]? with
  | none => simp [hb] at hc
  | some ob =>
    cases ob with
    | cells arr e fr =>
      obtain ⟨arr', fr', h1, _, h3, _⟩ := h.cells b arr e fr hb
      simp only [hb, Option.isSome_none, Bool.false_eq_true, if_false] at hc
      simp only [h1, Option.isSome_none, Bool.false_eq_true, if_false]
      rw [h3 o hx]; exact hc
    | _ => simp [hb] at hc

/-- Data says the same of a later world. -/
theorem V.step {w w' : World} {X X' : Nat → Nat → Prop} {ι ι' : Nat → Option (Nat × Nat)} (hc : Chg X w w') (hx : ∀ b o, b < w.heap.size → X' b o → X b o) (hi : ∀ n b, ι n = some b → ι' n = some b)
    {d : D} {v : Value} (h : V w X ι d v) : V w' X' ι' d v := by
  have cellLt : ∀ {b o : Nat} {v : Value}, w.cell? ⟨b, o, none⟩ = some v → b < w.heap.size := by
    intro b o v h
    unfold World.cell? at h
    cases hb : w.heap[b]? with
    | none => simp [hb] at h
    | some ob => exact (Array.getElem?_eq_some_iff.1 hb).1
  induction h with
  | raw v => exact .raw v
  | agg cs vs hs _ ih => exact .agg cs vs hs ih
  | tup cs vs hs _ ih => exact .tup cs vs hs ih
  | lst xs A ad n cap sz u hn hcap hA hsp hz h1 h2 _ ih =>
    exact .lst xs A ad n cap sz u hn hcap hA hsp hz (fun i j a b => hc.cell (h2 i j a b) (h1 i j a b)) (fun i j a b hx' => h2 i j a b (hx _ _ (cellLt (h1 i j a b)) hx')) ih
  | e0 A => exact .e0 A
  | sl n b base off len sz cap ad arr e fr h1 h2 h3 h4 h5 =>
    obtain ⟨arr', fr', k1, k2, _, _⟩ := hc.cells b arr e fr h3
    exact .sl n b base off len sz cap ad arr' e fr' (hi _ _ h1) h2 k1 (by omega) h5
  | ref n b base off h1 => exact .ref n b base off (hi _ _ h1)
  | iptr cs ad u hsp h1 h2 _ ih =>
    exact .iptr cs ad u hsp (fun j a => hc.cell (h2 j a) (h1 j a)) (fun j a hx' => h2 j a (hx _ _ (cellLt (h1 j a)) hx')) ih
  | map n b base h1 => exact .map n b base (hi _ _ h1)
  | imap es b ents clock h1 h2 hs hk _ ih =>
    exact .imap es b ents clock (hc.other b _ h1 (by simp) h2) (fun hx' => h2 (hx _ _ (Array.getElem?_eq_some_iff.1 h1).1 hx')) hs hk ih
  | fn f fs cs us vs hu hv _ _ i1 i2 => exact .fn f fs cs us vs hu hv i1 i2
  | iface t d v _ ih => exact .iface t d v ih

end Go.Ai
