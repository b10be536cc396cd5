/-
  A part of an interpreter over abstract data, proved sound once for the model: what it says of the code, the machine does in every order. Conditions: none beyond the statement.
-/
import Derived.Test.YtemeabkpllolmaaGreatDoorAi3
import Derived.Laws.CopyRow
import Derived.Laws.Cells
import Derived.Scope
/-! What an operation does to the world, said of the abstract heap. -/
set_option linter.unusedVariables false
set_option linter.unusedSimpArgs false
namespace Go.Ai

theorem lk_cons (m n : Nat) (o : Obj) (t : Heap) : lk ((m, o) :: t) n = if n = m then some o else lk t n := by
  simp only [lk]
  by_cases h : n = m
  · subst h; simp [Nat.beq_refl]
  · have : Nat.beq n m = false := by
      cases hb : Nat.beq n m with
      | false => rfl
      | true => exact absurd (Nat.eq_of_beq_eq_true hb) h
    simp [this, h]
theorem lk_upd (H : Heap) (n m : Nat) (o : Obj) : lk (upd H n o) m = if m = n then (lk H n).map (fun _ => o) else lk H m := by
  induction H with
  | nil => simp [upd, lk]
  | cons p t ih =>
    obtain ⟨k, ob⟩ := p
    by_cases h : n = k
    · subst h
      simp only [upd, Nat.beq_refl, cond_true, lk_cons]
      by_cases hm : m = n <;> simp [hm]
    · have hb : Nat.beq n k = false := by
        cases hb : Nat.beq n k with
        | false => rfl
        | true => exact absurd (Nat.eq_of_beq_eq_true hb) h
      simp only [upd, hb, cond_false, lk_cons, ih]
      by_cases hm : m = n
      · subst hm; simp [h]
      · simp [hm]
theorem lk_rm (H : Heap) (n m : Nat) : lk (rm H n) m = if m = n then none else lk H m := by
  induction H with
  | nil => simp [rm, lk]
  | cons p t ih =>
    obtain ⟨k, ob⟩ := p
    by_cases h : n = k
    · subst h
      simp only [rm, Nat.beq_refl, cond_true, ih, lk_cons]
      by_cases hm : m = n <;> simp [hm]
    · have hb : Nat.beq n k = false := by
        cases hb : Nat.beq n k with
        | false => rfl
        | true => exact absurd (Nat.eq_of_beq_eq_true hb) h
      simp only [rm, hb, cond_false, lk_cons, ih]
      by_cases hm : m = n
      · subst hm; simp [h]
      · by_cases hk : m = k <;> simp [hm, hk]
        intro hh; exact absurd hh.symm h

abbrev Imap := Nat → Option (Nat × Nat)

/-- The same but for what is sealed. -/
def Obj.like : Obj → Obj → Prop
  | .cells cs e _, .cells cs' e' _ => cs = cs' ∧ e = e'
  | .map es _, .map es' _ => es = es'
  | _, _ => False
theorem Obj.like_refl (o : Obj) : o.like o := by cases o <;> simp [Obj.like]
theorem Obj.like_trans {a b c : Obj} (h : a.like b) (k : b.like c) : a.like c := by
  cases a <;> cases b <;> cases c <;> simp_all [Obj.like]

structure Good (w w' : World) (s s' : St) (ι ι' : Imap) : Prop where
  r : R w' s'.H ι'
  chg : Chg (Xof s.H ι) w w'
  ext : ∀ n b, ι n = some b → ι' n = some b
  dom : ∀ n b, ι' n = some b → ι n = some b ∨ (s.nx ≤ n ∧ n < s'.nx)
  x : ∀ b o, b < w.heap.size → Xof s'.H ι' b o → Xof s.H ι b o
  nx : s.nx ≤ s'.nx
  ro : s'.ro = s.ro
  old : ∀ n o, n < s.ro → lk s.H n = some o → (∃ o', lk s'.H n = some o' ∧ o.like o') ∧ ∀ b base, ι n = some (b, base) → w'.heap[b]? = w.heap[b]?

theorem Good.refl {w : World} {s : St} {ι : Imap} (h : R w s.H ι) : Good w w s s ι ι :=
  ⟨h, Chg.refl _ _, fun _ _ h => h, fun _ _ h => .inl h, fun _ _ _ h => h, Nat.le_refl _, rfl, fun n o _ h => ⟨⟨o, h, Obj.like_refl o⟩, fun _ _ _ => rfl⟩⟩

theorem Good.trans {w w1 w2 : World} {s s1 s2 : St} {ι ι1 ι2 : Imap} (h : Good w w1 s s1 ι ι1) (k : Good w1 w2 s1 s2 ι1 ι2) : Good w w2 s s2 ι ι2 :=
  ⟨k.r, h.chg.trans' k.chg h.x, fun n b hn => k.ext n b (h.ext n b hn), fun n b hn => by
      have h1 := h.nx
      have h2 := k.nx
      rcases k.dom n b hn with h3 | h3
      · rcases h.dom n b h3 with h4 | h4
        · exact .inl h4
        · exact .inr (by omega)
      · exact .inr (by omega),
    fun b o hb hx => h.x b o hb (k.x b o (Nat.lt_of_lt_of_le hb h.chg.size) hx), Nat.le_trans h.nx k.nx, k.ro.trans h.ro,
    fun n o hn ho => by
      obtain ⟨⟨o1, h1, l1⟩, s1⟩ := h.old n o hn ho
      obtain ⟨⟨o2, h2, l2⟩, s2⟩ := k.old n o1 (by rw [h.ro]; exact hn) h1
      exact ⟨⟨o2, h2, Obj.like_trans l1 l2⟩, fun b base hb => (s2 b base (h.ext _ _ hb)).trans (s1 b base hb)⟩⟩

theorem Good.val {w w' : World} {s s' : St} {ι ι' : Imap} (h : Good w w' s s' ι ι') {d : D} {v : Value} (hv : V w (Xof s.H ι) ι d v) : V w' (Xof s'.H ι') ι' d v :=
  hv.step h.chg h.x h.ext

/-- The temporaries. -/
structure TV (w : World) (X : Nat → Nat → Prop) (ι : Imap) (T : List D) (a : Array Value) : Prop where
  size : a.size = T.length
  v : ∀ i, i < T.length → V w X ι (T.getD i default) (a.getD i undef)
theorem Good.tv {w w' : World} {s s' : St} {ι ι' : Imap} (h : Good w w' s s' ι ι') {T : List D} {a : Array Value} (ht : TV w (Xof s.H ι) ι T a) : TV w' (Xof s'.H ι') ι' T a :=
  ⟨ht.size, fun i hi => h.val (ht.v i hi)⟩

theorem V_ofV {w : World} {X : Nat → Nat → Prop} {ι : Imap} {v : Value} (h : flatV v = true) : V w X ι (ofV v) v := by
  cases v with
  | agg vs =>
    refine .agg _ _ (by simp) fun i hi => ?_
    simp only [List.length_map, Array.length_toList] at hi
    have : (List.map D.raw vs.toList).getD i default = .raw (vs.getD i undef) := by
      simp [List.getD_eq_getElem?_getD, hi, Array.getD]
    rw [this]; exact .raw _
  | func f fs cs =>
    simp only [flatV, Bool.and_eq_true, Array.isEmpty_iff_size_eq_zero] at h
    obtain ⟨h1, h2⟩ := h
    have e1 : fs = #[] := by simpa using h1
    have e2 : cs = #[] := by simpa using h2
    subst e1; subst e2
    exact .fn f [] [] #[] #[] rfl rfl (fun i hi => absurd hi (Nat.not_lt_zero _)) (fun i hi => absurd hi (Nat.not_lt_zero _))
  | _ => exact .raw _

theorem V_opd {w : World} {X : Nat → Nat → Prop} {ι : Imap} {T : List D} {a : Act} (ht : TV w X ι T a.tmps) {x : Operand} {y : Opd} (h : opd x = some y) : V w X ι (evO T y) (a.eval x) := by
  cases x with
  | tmp t =>
    simp only [opd, Option.some.injEq] at h
    subst h
    simp only [evO, Act.eval]
    rcases Nat.lt_or_ge t T.length with hl | hl
    · exact ht.v t hl
    · have e1 : T.getD t default = default := by simp [List.getD_eq_getElem?_getD, List.getElem?_eq_none hl]
      have hl2 : ¬ t < a.tmps.size := by have := ht.size; exact fun hh => by rw [this] at hh; exact absurd hh (Nat.not_lt.2 hl)
      have e2 : a.tmps.getD t undef = undef := by simp [Array.getD, hl2]
      rw [e1, e2]; exact .raw _
  | const v =>
    simp only [opd] at h
    split at h
    · rename_i hf
      simp only [Option.some.injEq] at h
      subst h
      exact V_ofV hf
    · cases h
  | global g =>
    simp only [opd, Option.some.injEq] at h
    subst h
    exact .raw _
  | func f =>
    simp only [opd, Option.some.injEq] at h
    subst h
    exact .fn _ [] [] #[] #[] rfl rfl (fun i hi => absurd hi (Nat.not_lt_zero _)) (fun i hi => absurd hi (Nat.not_lt_zero _))

/-! ### The single cell -/
theorem one_cell {w : World} {X : Nat → Nat → Prop} {ι : Imap} {d : D} {v : Value} (h : V w X ι d v) (h1 : one d = true) : v.oneCell' = true := by
  cases h with
  | raw v => cases v <;> simp_all [one, Value.oneCell']
  | agg => simp [one] at h1
  | tup => simp [one] at h1
  | _ => rfl
theorem cells_V {w : World} {X : Nat → Nat → Prop} {ι : Imap} {d : D} {v : Value} (h : V w X ι d v) (h1 : (cellsOf d).all one = true) :
    v.cells.size = (cellsOf d).length ∧ ∀ i, i < (cellsOf d).length → V w X ι ((cellsOf d).getD i default) (v.cells.getD i undef) := by
  have key : ∀ (d : D) (v : Value), cellsOf d = [d] → V w X ι d v → one d = true → v.cells.size = (cellsOf d).length ∧ ∀ i, i < (cellsOf d).length → V w X ι ((cellsOf d).getD i default) (v.cells.getD i undef) := by
    intro d v hd hv h1
    have hc : v.cells = #[v] := by
      have := one_cell hv h1
      cases v <;> simp_all [Value.cells, Value.oneCell']
    rw [hd, hc]
    refine ⟨rfl, fun i hi => ?_⟩
    have : i = 0 := by simpa using hi
    subst this
    exact hv
  cases h with
  | agg cs vs hs h => exact ⟨by simpa [Value.cells, cellsOf] using hs, by simpa [Value.cells, cellsOf] using h⟩
  | raw v => exact key _ _ rfl (.raw v) (by simpa [cellsOf] using h1)
  | tup cs vs hs h => exact key _ _ rfl (.tup cs vs hs h) (by simpa [cellsOf] using h1)
  | e0 A => exact key _ _ rfl (.e0 A) rfl
  | lst xs A ad n cap sz u a1 a2 a3 a4 a5 a6 a7 a8 => exact key _ _ rfl (.lst xs A ad n cap sz u a1 a2 a3 a4 a5 a6 a7 a8) rfl
  | sl n b base off len sz cap ad arr e fr a1 a2 a3 a4 a5 => exact key _ _ rfl (.sl n b base off len sz cap ad arr e fr a1 a2 a3 a4 a5) rfl
  | ref n b base off a1 => exact key _ _ rfl (.ref n b base off a1) rfl
  | iptr cs ad u a1 a2 a3 a4 => exact key _ _ rfl (.iptr cs ad u a1 a2 a3 a4) rfl
  | map n b base a1 => exact key _ _ rfl (.map n b base a1) rfl
  | imap es b ents clock a1 a2 a3 a4 a5 => exact key _ _ rfl (.imap es b ents clock a1 a2 a3 a4 a5) rfl
  | fn f fs cs us vs a1 a2 a3 a4 => exact key _ _ rfl (.fn f fs cs us vs a1 a2 a3 a4) rfl
  | iface t d v a1 => exact key _ _ rfl (.iface t d v a1) rfl

/-! ### A new block -/
theorem chg_alloc (X : Nat → Nat → Prop) (w : World) (ob : Go.Obj) : Chg X w (w.alloc ob) := by
  have get : ∀ (b : Nat) (x : Go.Obj), w.heap[b]? = some x → (w.alloc ob).heap[b]? = some x := by
    intro b x h
    have hlt := (Array.getElem?_eq_some_iff.1 h).1
    simp only [World.alloc, Array.getElem?_push]
    rw [if_neg (by omega)]; exact h
  exact ⟨rfl, rfl, rfl, by simp, fun b arr e fr h => ⟨arr, fr, get _ _ h, rfl, fun _ _ => rfl, fun _ => rfl⟩, fun b x h _ _ => get _ _ h⟩

theorem ObjOk.step {w w' : World} {X X' : Nat → Nat → Prop} {ι ι' : Imap} {b base : Nat} {o : Obj} (h : ObjOk w X ι b base o) (hb : w'.heap[b]? = w.heap[b]?)
    (hv : ∀ d v, V w X ι d v → V w' X' ι' d v) : ObjOk w' X' ι' b base o := by
  cases o with
  | cells cs e lo =>
    obtain ⟨arr, h1, h2, h3⟩ := h
    exact ⟨arr, hb.trans h1, h2, fun i hi => hv _ _ (h3 i hi)⟩
  | map es sl =>
    obtain ⟨ents, clock, h1, h2, h3, h4⟩ := h
    exact ⟨ents, clock, hb.trans h1, h2, h3, fun i hi => hv _ _ (h4 i hi)⟩

def ext (ι : Imap) (n b base : Nat) : Imap := fun m => if m = n then some (b, base) else ι m

/-- A new object in a new block. -/
theorem good_new {w : World} {s : St} {ι : Imap} (hR : R w s.H ι) (hd : ι s.nx = none) (ob : Go.Obj) (o : Obj)
    (ho : ∀ (X' : Nat → Nat → Prop) (ι' : Imap), (∀ d v, V w (Xof s.H ι) ι d v → V (w.alloc ob) X' ι' d v) → ObjOk (w.alloc ob) X' ι' w.heap.size 0 o) :
    Good w (w.alloc ob) s (new s o).2 ι (ext ι s.nx w.heap.size 0) := by
  have hfresh : ι s.nx = none := hd
  have hext : ∀ n b, ι n = some b → ext ι s.nx w.heap.size 0 n = some b := by
    intro n b h
    have : n ≠ s.nx := fun e => by rw [e, hfresh] at h; cases h
    simp [ext, this, h]
  have hx : ∀ b o', b < w.heap.size → Xof (new s o).2.H (ext ι s.nx w.heap.size 0) b o' → Xof s.H ι b o' := by
    rintro b o' hb ⟨n, ob', base, h1, h2, h3⟩
    simp only [new, lk_cons] at h1
    by_cases hn : n = s.nx
    · subst hn
      simp only [ext, if_true, Option.some.injEq, Prod.mk.injEq] at h2
      omega
    · rw [if_neg hn] at h1
      simp only [ext, if_neg hn] at h2
      exact ⟨n, ob', base, h1, h2, h3⟩
  have hV : ∀ d v, V w (Xof s.H ι) ι d v → V (w.alloc ob) (Xof (new s o).2.H (ext ι s.nx w.heap.size 0)) (ext ι s.nx w.heap.size 0) d v :=
    fun d v h => h.step (chg_alloc _ _ _) hx hext
  refine ⟨⟨?_, ?_, ?_⟩, chg_alloc _ _ _, hext, ?_, hx, Nat.le_succ _, rfl, ?_⟩
  · intro n o' h
    simp only [new, lk_cons] at h
    by_cases hn : n = s.nx
    · subst hn
      simp only [if_true, Option.some.injEq] at h
      subst h
      exact ⟨w.heap.size, 0, by simp [ext], ho _ _ hV⟩
    · rw [if_neg hn] at h
      obtain ⟨b, base, h1, h2⟩ := hR.obj n o' h
      refine ⟨b, base, hext _ _ h1, h2.step ?_ hV⟩
      have hlt := hR.low _ _ _ h1
      simp only [World.alloc, Array.getElem?_push]
      rw [if_neg (by omega)]
  · intro n m o1 o2 b base base' h1 h2 h3 h4
    simp only [new, lk_cons] at h1 h2
    by_cases hn : n = s.nx <;> by_cases hm : m = s.nx
    · rw [hn, hm]
    · simp only [ext, if_pos hn, Option.some.injEq, Prod.mk.injEq] at h3
      simp only [ext, if_neg hm] at h4
      have := hR.low _ _ _ h4
      omega
    · simp only [ext, if_pos hm, Option.some.injEq, Prod.mk.injEq] at h4
      simp only [ext, if_neg hn] at h3
      have := hR.low _ _ _ h3
      omega
    · rw [if_neg hn] at h1
      rw [if_neg hm] at h2
      simp only [ext, if_neg hn] at h3
      simp only [ext, if_neg hm] at h4
      exact hR.inj _ _ _ _ _ _ _ h1 h2 h3 h4
  · intro n b base h
    simp only [ext] at h
    split at h
    · simp only [Option.some.injEq, Prod.mk.injEq] at h
      simp [← h.1]
    · have := hR.low _ _ _ h
      simp; omega
  · intro n b h
    simp only [ext] at h
    simp only [new]
    split at h
    · rename_i e; exact .inr (by omega)
    · exact .inl h
  · intro n o' hn h
    simp only [new, lk_cons]
    by_cases e : n = s.nx
    · subst e
      obtain ⟨b, base, h1, _⟩ := hR.obj _ _ h
      rw [hfresh] at h1; cases h1
    · refine ⟨⟨o', by rw [if_neg e]; exact h, Obj.like_refl _⟩, fun b base hb => ?_⟩
      have hlt := hR.low _ _ _ hb
      simp only [World.alloc, Array.getElem?_push]
      rw [if_neg (by omega)]

/-- A new block of cells. -/
theorem good_new_cells {w : World} {s : St} {ι : Imap} (hR : R w s.H ι) (hd : ι s.nx = none) (arr : Array Value) (e : TypeId) (cs : List D) (lo : Nat)
    (hl : cs.length ≤ arr.size) (hv : ∀ i, i < cs.length → V w (Xof s.H ι) ι (cs.getD i default) (arr.getD i undef)) :
    Good w (w.alloc (.cells arr e)) s (new s (.cells cs e lo)).2 ι (ext ι s.nx w.heap.size 0) :=
  good_new hR hd _ _ fun X' ι' hV => ⟨arr, by simp only [World.alloc, Array.getElem?_push_size], by omega, fun i hi => by rw [Nat.zero_add]; exact hV _ _ (hv i hi)⟩
end Go.Ai
