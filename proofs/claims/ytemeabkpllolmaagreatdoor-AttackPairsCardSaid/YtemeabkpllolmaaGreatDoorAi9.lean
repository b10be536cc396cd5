/-
  A part of an interpreter over abstract data, proved sound once for the model: what it says of the code, the machine does in every order. Conditions: none beyond the statement.
-/
import Derived.Test.YtemeabkpllolmaaGreatDoorAi8
/-! Operations that make memory and write it. -/
set_option linter.unusedVariables false
set_option linter.unusedSimpArgs false
namespace Go.Ai
section
variable {P : Program} {w : World} {s : St} {ι : Imap} {T : List D} {a : Act} {o : Oper} {d : D} {s' : St}

/-- One object's block is written. -/
theorem good_upd (hR : R w s.H ι) (hd : ι s.nx = none) {n b base : Nat} {ob ob' : Obj} (hl : lk s.H n = some ob) (hi : ι n = some (b, base)) (hro : s.ro ≤ n) (w' : World)
    (h1 : w'.os = w.os) (h2 : w'.tape = w.tape) (h3 : w'.output = w.output) (h4 : w'.heap.size = w.heap.size) (hoth : ∀ k, k ≠ b → w'.heap[k]? = w.heap[k]?)
    (hcell : ∀ arr e fr, w.heap[b]? = some (.cells arr e fr) → ∃ arr', w'.heap[b]? = some (.cells arr' e fr) ∧ arr'.size = arr.size ∧ ∀ o, ¬ ob.free base o → arr'[o]? = arr[o]?)
    (hmap : ∀ x, w.heap[b]? = some x → (∀ arr e fr, x ≠ .cells arr e fr) → ob.free base 0)
    (hfree : ∀ o, ob'.free base o → ob.free base o)
    (hok : (∀ d v, V w (Xof s.H ι) ι d v → V w' (Xof (upd s.H n ob') ι) ι d v) → ObjOk w' (Xof (upd s.H n ob') ι) ι b base ob') :
    Good w w' s { s with H := upd s.H n ob' } ι ι := by
  have hX : ∀ b' o', Xof (upd s.H n ob') ι b' o' → Xof s.H ι b' o' := by
    rintro b' o' ⟨m, x, base', g1, g2, g3⟩
    rw [lk_upd] at g1
    by_cases hm : m = n
    · subst hm
      rw [if_pos rfl, hl] at g1
      simp only [Option.map_some, Option.some.injEq] at g1
      subst g1
      rw [hi] at g2
      simp only [Option.some.injEq, Prod.mk.injEq] at g2
      obtain ⟨rfl, rfl⟩ := g2
      exact ⟨m, ob, base, hl, hi, hfree _ g3⟩
    · rw [if_neg hm] at g1
      exact ⟨m, x, base', g1, g2, g3⟩
  have hchg : Chg (Xof s.H ι) w w' := by
    refine ⟨h1, h2, h3, by omega, fun b' arr e fr hb => ?_, fun b' x hb hn hx => ?_⟩
    · by_cases hbb : b' = b
      · subst hbb
        obtain ⟨arr', g1, g2, g3⟩ := hcell arr e fr hb
        exact ⟨arr', fr, g1, g2, fun o ho => g3 o fun hf => ho ⟨n, ob, base, hl, hi, hf⟩, fun _ => rfl⟩
      · exact ⟨arr, fr, by rw [hoth _ hbb]; exact hb, rfl, fun _ _ => rfl, fun _ => rfl⟩
    · by_cases hbb : b' = b
      · subst hbb
        exact absurd ⟨n, ob, base, hl, hi, hmap x hb hn⟩ hx
      · rw [hoth _ hbb]; exact hb
  have hV : ∀ d v, V w (Xof s.H ι) ι d v → V w' (Xof (upd s.H n ob') ι) ι d v := fun d v h => h.step hchg (fun b o _ h => hX b o h) (fun _ _ h => h)
  refine ⟨⟨?_, ?_, ?_⟩, hchg, fun _ _ h => h, fun _ _ h => .inl h, fun b o _ h => hX b o h, Nat.le_refl _, rfl, ?_⟩
  · intro m x hm
    rw [lk_upd] at hm
    by_cases hmn : m = n
    · subst hmn
      rw [if_pos rfl, hl] at hm
      simp only [Option.map_some, Option.some.injEq] at hm
      subst hm
      exact ⟨b, base, hi, hok hV⟩
    · rw [if_neg hmn] at hm
      obtain ⟨b', base', g1, g2⟩ := hR.obj m x hm
      refine ⟨b', base', g1, g2.step (hoth _ fun e => ?_) hV⟩
      subst e
      exact hmn (hR.inj _ _ _ _ _ _ _ hm hl g1 hi)
  · intro m k x y b' c1 c2 g1 g2 g3 g4
    have key : ∀ j z, lk (upd s.H n ob') j = some z → ∃ z', lk s.H j = some z' := by
      intro j z hj
      rw [lk_upd] at hj
      by_cases hjn : j = n
      · subst hjn; exact ⟨ob, hl⟩
      · rw [if_neg hjn] at hj; exact ⟨z, hj⟩
    obtain ⟨x', g1'⟩ := key _ _ g1
    obtain ⟨y', g2'⟩ := key _ _ g2
    exact hR.inj _ _ _ _ _ _ _ g1' g2' g3 g4
  · intro m b' base' hm
    rw [h4]
    exact hR.low _ _ _ hm
  · intro m x hm hlm
    have hmn : m ≠ n := by omega
    refine ⟨⟨x, by simp only [lk_upd, if_neg hmn]; exact hlm, Obj.like_refl _⟩, fun b' base' hb => hoth _ fun e => ?_⟩
    subst e
    exact hmn (hR.inj _ _ _ _ _ _ _ hlm hl hb hi)

/-- An object is forgotten. -/
theorem good_rm (hR : R w s.H ι) (hd : ι s.nx = none) {n : Nat} (hro : s.ro ≤ n) : Good w w s { s with H := rm s.H n } ι ι := by
  have hsub : ∀ m x, lk (rm s.H n) m = some x → lk s.H m = some x := by
    intro m x h
    rw [lk_rm] at h
    by_cases hm : m = n
    · rw [if_pos hm] at h; cases h
    · rwa [if_neg hm] at h
  have hX : ∀ b' o', Xof (rm s.H n) ι b' o' → Xof s.H ι b' o' := by
    rintro b' o' ⟨m, x, base', g1, g2, g3⟩
    exact ⟨m, x, base', hsub _ _ g1, g2, g3⟩
  have hV : ∀ d v, V w (Xof s.H ι) ι d v → V w (Xof (rm s.H n) ι) ι d v := fun d v h => h.step (Chg.refl _ _) (fun b o _ h => hX b o h) (fun _ _ h => h)
  refine ⟨⟨?_, ?_, hR.low⟩, Chg.refl _ _, fun _ _ h => h, fun _ _ h => .inl h, fun b o _ h => hX b o h, Nat.le_refl _, rfl, ?_⟩
  · intro m x hm
    obtain ⟨b, base, g1, g2⟩ := hR.obj m x (hsub _ _ hm)
    exact ⟨b, base, g1, g2.step rfl hV⟩
  · intro m k x y b' c1 c2 g1 g2 g3 g4
    exact hR.inj _ _ _ _ _ _ _ (hsub _ _ g1) (hsub _ _ g2) g3 g4
  · intro m x hm hlm
    have hmn : m ≠ n := by omega
    exact ⟨⟨x, by simp only [lk_rm, if_neg hmn]; exact hlm, Obj.like_refl _⟩, fun _ _ _ => rfl⟩

/-- An object under a new name, its beginning cut off. -/
theorem good_ren (hR : R w s.H ι) (hd : ι s.nx = none) {n b base off lo : Nat} {cs : List D} {e : TypeId} (hl : lk s.H n = some (.cells cs e lo)) (hi : ι n = some (b, base)) (hro : s.ro ≤ n) (hoff : off ≤ cs.length) :
    Good w w s (new { s with H := rm s.H n } (.cells (cs.drop off) e (lo - off))).2 ι (ext ι s.nx b (base + off)) := by
  have hfresh : ι s.nx = none := hd
  have hext : ∀ m c, ι m = some c → ext ι s.nx b (base + off) m = some c := by
    intro m c h
    have : m ≠ s.nx := fun e => by rw [e, hfresh] at h; cases h
    simp [ext, this, h]
  have hsub : ∀ m x, m ≠ s.nx → lk (new { s with H := rm s.H n } (.cells (cs.drop off) e (lo - off))).2.H m = some x → m ≠ n ∧ lk s.H m = some x := by
    intro m x hm h
    simp only [new, lk_cons, if_neg hm, lk_rm] at h
    by_cases hmn : m = n
    · rw [if_pos hmn] at h; cases h
    · rw [if_neg hmn] at h; exact ⟨hmn, h⟩
  have hX : ∀ b' o', Xof (new { s with H := rm s.H n } (.cells (cs.drop off) e (lo - off))).2.H (ext ι s.nx b (base + off)) b' o' → Xof s.H ι b' o' := by
    rintro b' o' ⟨m, x, base', g1, g2, g3⟩
    by_cases hm : m = s.nx
    · subst hm
      simp only [new, lk_cons, if_true, Option.some.injEq] at g1
      subst g1
      simp only [ext, if_true, Option.some.injEq, Prod.mk.injEq] at g2
      obtain ⟨rfl, rfl⟩ := g2
      refine ⟨n, _, base, hl, hi, ?_⟩
      simp only [Obj.free] at g3 ⊢
      omega
    · obtain ⟨_, g1'⟩ := hsub _ _ hm g1
      simp only [ext, if_neg hm] at g2
      exact ⟨m, x, base', g1', g2, g3⟩
  have hV : ∀ d v, V w (Xof s.H ι) ι d v → V w (Xof (new { s with H := rm s.H n } (.cells (cs.drop off) e (lo - off))).2.H (ext ι s.nx b (base + off))) (ext ι s.nx b (base + off)) d v :=
    fun d v h => h.step (Chg.refl _ _) (fun b o _ h => hX b o h) hext
  refine ⟨⟨?_, ?_, ?_⟩, Chg.refl _ _, hext, ?_, fun b o _ h => hX b o h, Nat.le_succ _, rfl, ?_⟩
  · intro m x hm
    by_cases hmn : m = s.nx
    · subst hmn
      simp only [new, lk_cons, if_true, Option.some.injEq] at hm
      subst hm
      obtain ⟨b', base', g1, arr, g2, g3, g4⟩ := hR.obj _ _ hl
      rw [hi] at g1
      simp only [Option.some.injEq, Prod.mk.injEq] at g1
      obtain ⟨rfl, rfl⟩ := g1
      refine ⟨b, base + off, by simp [ext], arr, g2, by rw [List.length_drop]; omega, fun i hi' => ?_⟩
      rw [List.length_drop] at hi'
      have := hV _ _ (g4 (off + i) (by omega))
      have e1 : (cs.drop off).getD i default = cs.getD (off + i) default := by simp [List.getD_eq_getElem?_getD]
      rw [e1, Nat.add_assoc]
      exact this
    · obtain ⟨_, hm'⟩ := hsub _ _ hmn hm
      obtain ⟨b', base', g1, g2⟩ := hR.obj m x hm'
      exact ⟨b', base', hext _ _ g1, g2.step rfl hV⟩
  · intro m k x y b' c1 c2 g1 g2 g3 g4
    by_cases hm : m = s.nx <;> by_cases hk : k = s.nx
    · rw [hm, hk]
    · obtain ⟨hkn, g2'⟩ := hsub _ _ hk g2
      simp only [ext, if_pos hm, Option.some.injEq, Prod.mk.injEq] at g3
      simp only [ext, if_neg hk] at g4
      rw [← g3.1] at g4
      exact absurd (hR.inj _ _ _ _ _ _ _ g2' hl g4 hi) hkn
    · obtain ⟨hmn, g1'⟩ := hsub _ _ hm g1
      simp only [ext, if_pos hk, Option.some.injEq, Prod.mk.injEq] at g4
      simp only [ext, if_neg hm] at g3
      rw [← g4.1] at g3
      exact absurd (hR.inj _ _ _ _ _ _ _ g1' hl g3 hi) hmn
    · obtain ⟨_, g1'⟩ := hsub _ _ hm g1
      obtain ⟨_, g2'⟩ := hsub _ _ hk g2
      simp only [ext, if_neg hm] at g3
      simp only [ext, if_neg hk] at g4
      exact hR.inj _ _ _ _ _ _ _ g1' g2' g3 g4
  · intro m b' base' hm
    simp only [ext] at hm
    split at hm
    · simp only [Option.some.injEq, Prod.mk.injEq] at hm
      rw [← hm.1]
      exact hR.low _ _ _ hi
    · exact hR.low _ _ _ hm
  · intro m c hm
    simp only [ext] at hm
    simp only [new]
    split at hm
    · rename_i e'; exact .inr (by omega)
    · exact .inl hm
  · intro m x hm hlm
    have hmn : m ≠ n := by omega
    have hmx : m ≠ s.nx := by
      intro e'
      subst e'
      obtain ⟨b', base', g1, _⟩ := hR.obj _ _ hlm
      rw [hfresh] at g1; cases g1
    exact ⟨⟨x, by simp only [new, lk_cons, if_neg hmx, lk_rm, if_neg hmn]; exact hlm, Obj.like_refl _⟩, fun _ _ _ => rfl⟩

theorem V_new {w' : World} {X : Nat → Nat → Prop} (ι : Imap) (n b base : Nat) : V w' X (ext ι n b base) (.ref n 0) (.pointer (some ⟨b, base, none⟩)) := by
  have := V.ref (w := w') (X := X) (ι := ext ι n b base) n b base 0 (by simp [ext])
  simpa using this

/-! ### alloc, box -/
theorem cells_of_zero {t : TypeId} {z : List D} (h : zeroCells P t = some z) {X : Nat → Nat → Prop} (h1 : z.all one = true) :
    ∃ v, (zeroValue t).run P w = .ok v w ∧ v.cells.size = z.length ∧ ∀ i, i < z.length → V w X ι (z.getD i default) (v.cells.getD i undef) := by
  unfold zeroCells at h
  split at h
  case h_2 => cases h
  rename_i v hv
  split at h
  case isFalse => cases h
  rename_i hf
  simp only [Option.some.injEq] at h
  subst h
  obtain ⟨g1, g2⟩ := cells_V (w := w) (X := X) (ι := ι) (V_ofV hf) h1
  exact ⟨v, run_zeroT hv, g1, g2⟩

theorem did_alloc (hT : TV w (Xof s.H ι) ι T a.tmps) (hR : R w s.H ι) (hd : ι s.nx = none) {e : TypeId} {z : List D} (ho : o.op = .alloc e) (hz : zeroCells P e = some z)
    (he : exec (evO T) (.alloc e z) s = some (d, s')) : Did P w s ι a o d s' := by
  simp only [exec] at he
  split at he
  case isFalse => cases he
  rename_i h1
  simp only [Option.some.injEq, Prod.mk.injEq] at he
  obtain ⟨rfl, rfl⟩ := he
  obtain ⟨v, g1, g2, g3⟩ := cells_of_zero (w := w) (ι := ι) (X := Xof s.H ι) hz h1
  refine ⟨.pointer (some ⟨w.heap.size, 0, none⟩), w.alloc (.cells v.cells e), _, .inl ?_, good_new_cells hR hd v.cells e z 0 (by omega) g3, V_new _ _ _ _⟩
  simp [execOp, ho, Instr.alloc, g1, newVar, newRow]

theorem did_box (hT : TV w (Xof s.H ι) ι T a.tmps) (hR : R w s.H ι) (hd : ι s.nx = none) {e : TypeId} {x : Operand} {x' : Opd} (ho : o.op = .box e x) (hx : opd x = some x')
    (he : exec (evO T) (.box e x') s = some (d, s')) : Did P w s ι a o d s' := by
  have vx := V_opd hT hx
  simp only [exec] at he
  split at he
  case isFalse => cases he
  rename_i h1
  simp only [Option.some.injEq, Prod.mk.injEq] at he
  obtain ⟨rfl, rfl⟩ := he
  obtain ⟨g2, g3⟩ := cells_V vx h1
  refine ⟨.pointer (some ⟨w.heap.size, 0, none⟩), w.alloc (.cells (a.eval x).cells e), _, .inl ?_, good_new_cells hR hd _ e _ 0 (by omega) g3, V_new _ _ _ _⟩
  simp [execOp, ho, Instr.box, newVar, newRow]

theorem did_mkmap (hT : TV w (Xof s.H ι) ι T a.tmps) (hR : R w s.H ι) (hd : ι s.nx = none) {t : TypeId} (ho : o.op = .makeMap t none)
    (he : exec (evO T) .mkmap s = some (d, s')) : Did P w s ι a o d s' := by
  simp only [exec, Option.some.injEq, Prod.mk.injEq] at he
  obtain ⟨rfl, rfl⟩ := he
  refine ⟨.map (some w.heap.size), w.alloc (.map #[] 0), _, .inl ?_, good_new hR hd (.map #[] 0) (.map [] false) (fun X' ι' hV => ⟨#[], 0, by simp only [World.alloc, Array.getElem?_push_size], rfl, fun i hi => absurd hi (Nat.not_lt_zero _), fun i hi => absurd hi (Nat.not_lt_zero _)⟩), ?_⟩
  · simp [execOp, ho, Instr.makeMap]
  · exact .map _ _ 0 (by simp [ext])

/-! ### store -/
theorem getD_splice (cs vs : List D) (off i : Nat) (h : off + vs.length ≤ cs.length) : (splice cs off vs).getD i default = if off ≤ i ∧ i < off + vs.length then vs.getD (i - off) default else cs.getD i default := by
  simp only [splice, List.getD_eq_getElem?_getD, List.getElem?_append, List.length_take, List.getElem?_take, List.getElem?_drop]
  have : min off cs.length = off := by omega
  rw [this]
  by_cases h1 : i < off
  · have h2 : ¬ (off ≤ i ∧ i < off + vs.length) := by omega
    simp [h1, h2]
  · by_cases h3 : i < off + vs.length
    · have h2 : off ≤ i ∧ i < off + vs.length := by omega
      have h4 : i - off < vs.length := by omega
      simp [h1, h2, h4]
    · have h2 : ¬ (off ≤ i ∧ i < off + vs.length) := by omega
      have h4 : ¬ i - off < vs.length := by omega
      simp [h1, h2, h4]
      congr 2
      omega
theorem length_splice (cs vs : List D) (off : Nat) (h : off + vs.length ≤ cs.length) : (splice cs off vs).length = cs.length := by
  simp only [splice, List.length_append, List.length_take, List.length_drop]
  omega

/-- The row behind a store. -/
theorem row_getElem (cur : Array Value) (vs : List Value) (k i : Nat) (h : k + vs.length ≤ cur.size) :
    (cur.toList.take k ++ vs ++ cur.toList.drop (k + vs.length)).toArray[i]? = if k ≤ i ∧ i < k + vs.length then vs[i - k]? else cur[i]? := by
  simp only [List.getElem?_toArray, List.append_assoc, List.getElem?_append, List.length_take, Array.length_toList, List.getElem?_take, List.getElem?_drop, Array.getElem?_toList]
  have : min k cur.size = k := by omega
  rw [this]
  by_cases h1 : i < k
  · have h2 : ¬ (k ≤ i ∧ i < k + vs.length) := by omega
    simp [h1, h2]
  · by_cases h3 : i < k + vs.length
    · have h2 : k ≤ i ∧ i < k + vs.length := by omega
      have h4 : i - k < vs.length := by omega
      simp [h1, h2, h4]
    · have h2 : ¬ (k ≤ i ∧ i < k + vs.length) := by omega
      have h4 : ¬ i - k < vs.length := by omega
      simp [h1, h2, h4]
      congr 1
      omega

/-- Cells of an object are overwritten. -/
theorem good_cells (hR : R w s.H ι) (hd : ι s.nx = none) {n b base off lo : Nat} {cs : List D} {e : TypeId} {arr : Array Value} (hl : lk s.H n = some (.cells cs e lo)) (hi : ι n = some (b, base)) (hro : s.ro ≤ n)
    (hb : w.heap[b]? = some (.cells arr e (0, 0))) (hsz : base + cs.length ≤ arr.size) (hv : ∀ i, i < cs.length → V w (Xof s.H ι) ι (cs.getD i default) (arr.getD (base + i) undef))
    {ds : List D} {vs : List Value} (hlen : vs.length = ds.length) (hvs : ∀ i, i < ds.length → V w (Xof s.H ι) ι (ds.getD i default) (vs.getD i undef)) (hfit : base + off + ds.length ≤ arr.size) (hlo : lo ≤ off)
    (cs' : List D) (hcs' : base + cs'.length ≤ arr.size) (hget : ∀ i, i < cs'.length → cs'.getD i default = if off ≤ i ∧ i < off + ds.length then ds.getD (i - off) default else cs.getD i default) (hlen' : ∀ i, i < cs'.length → i < cs.length ∨ (off ≤ i ∧ i < off + ds.length)) :
    Good w (w.setRow b (arr.toList.take (base + off) ++ vs ++ arr.toList.drop (base + off + vs.length)).toArray) s { s with H := upd s.H n (.cells cs' e lo) } ι ι := by
  have hsize : (arr.toList.take (base + off) ++ vs ++ arr.toList.drop (base + off + vs.length)).toArray.size = arr.size := by
    simp only [List.size_toArray, List.length_append, List.length_take, List.length_drop, Array.length_toList]
    omega
  have hrow := fun i => row_getElem arr vs (base + off) i (by omega)
  refine good_upd hR hd hl hi hro _ rfl rfl rfl (by simp [World.setRow]) (fun k hk => setRow_other w b k _ hk) ?_ (fun x hx hn => absurd hb (by rw [hx]; exact fun h => hn _ _ _ (Option.some.inj h))) (fun o h => h) ?_
  · intro arr' e' fr hb'
    rw [hb] at hb'
    simp only [Option.some.injEq, Obj.cells.injEq, Go.Obj.cells.injEq] at hb'
    obtain ⟨rfl, rfl, rfl⟩ := hb'
    refine ⟨_, setRow_heap w b arr _ e (0, 0) hb, hsize, fun o hf => ?_⟩
    simp only [Obj.free] at hf
    rw [hrow, if_neg (by omega)]
  · intro hV
    refine ⟨_, setRow_heap w b arr _ e (0, 0) hb, by rw [hsize]; exact hcs', fun i hi' => ?_⟩
    have e1 : (arr.toList.take (base + off) ++ vs ++ arr.toList.drop (base + off + vs.length)).toArray.getD (base + i) undef = if off ≤ i ∧ i < off + ds.length then vs.getD (i - off) undef else arr.getD (base + i) undef := by
      rw [Array.getD_eq_getD_getElem?, hrow]
      by_cases hc : off ≤ i ∧ i < off + ds.length
      · have hc2 : base + off ≤ base + i ∧ base + i < base + off + vs.length := by omega
        rw [if_pos hc, if_pos hc2, List.getD_eq_getElem?_getD]
        congr 2
        omega
      · have hc2 : ¬ (base + off ≤ base + i ∧ base + i < base + off + vs.length) := by omega
        rw [if_neg hc, if_neg hc2, Array.getD_eq_getD_getElem?]
    rw [e1, hget i hi']
    by_cases hc : off ≤ i ∧ i < off + ds.length
    · rw [if_pos hc, if_pos hc]
      exact hV _ _ (hvs _ (by omega))
    · rw [if_neg hc, if_neg hc]
      rcases hlen' i hi' with h | h
      · exact hV _ _ (hv i h)
      · exact absurd h hc

theorem one_cells {X : Nat → Nat → Prop} {ds : List D} {vs : List Value} (hlen : vs.length = ds.length) (hvs : ∀ i, i < ds.length → V w X ι (ds.getD i default) (vs.getD i undef)) (h1 : ds.all one = true) : ∀ v ∈ vs, v.oneCell' = true := by
  intro v hv
  obtain ⟨i, hi, rfl⟩ := List.getElem_of_mem hv
  have hi' : i < ds.length := by omega
  have := hvs i hi'
  have h2 : one (ds.getD i default) = true := by
    have := List.all_eq_true.1 h1 ds[i] (List.getElem_mem hi')
    simpa [List.getD_eq_getElem?_getD, hi'] using this
  have := one_cell this h2
  simpa [List.getD_eq_getElem?_getD, hi] using this

theorem did_store (hT : TV w (Xof s.H ι) ι T a.tmps) (hR : R w s.H ι) (hd : ι s.nx = none) {t : TypeId} {x y : Operand} {x' y' : Opd} {sz : Nat} (ho : o.op = .store t x y) (hx : opd x = some x') (hy : opd y = some y') (hs : szT P t = some sz)
    (he : exec (evO T) (.store sz x' y') s = some (d, s')) : Did P w s ι a o d s' := by
  have vx := V_opd hT hx
  have vy := V_opd hT hy
  simp only [exec] at he
  split at he
  case h_2 => cases he
  rename_i n k hq
  rw [hq] at vx
  split at he
  case h_2 => cases he
  rename_i cs e lo hl
  split at he
  case isFalse => cases he
  rename_i hc
  obtain ⟨c1, c2, c3, c4, c5⟩ := hc
  simp only [Option.some.injEq, Prod.mk.injEq] at he
  obtain ⟨rfl, rfl⟩ := he
  generalize hv : a.eval x = v at vx
  cases vx with
  | ref n b base k hi =>
    obtain ⟨b', base', g1, arr, g2, g3, g4⟩ := hR.obj _ _ hl
    rw [hi] at g1
    simp only [Option.some.injEq, Prod.mk.injEq] at g1
    obtain ⟨rfl, rfl⟩ := g1
    obtain ⟨v1, v2⟩ := cells_V vy c2
    have v2' : ∀ i, i < (cellsOf (evO T y')).length → V w (Xof s.H ι) ι ((cellsOf (evO T y')).getD i default) ((a.eval y).cells.toList.getD i undef) := by
      intro i hi'
      have := v2 i hi'
      simpa [List.getD_eq_getElem?_getD, Array.getD_eq_getD_getElem?] using this
    have hone := one_cells (by simpa using v1) v2' c2
    have hst := run_storeCells_at P b (base + k) e (a.eval y).cells.toList 0 arr w g2 (by simp only [Nat.add_zero, Array.length_toList]; omega) hone
    refine ⟨undef, _, ι, .inr ⟨?_, rfl⟩, good_cells hR hd hl hi c5 g2 g3 g4 (vs := (a.eval y).cells.toList) (by simpa using v1) v2' (by omega) c4 (splice cs k (cellsOf (evO T y'))) (by rw [length_splice _ _ _ (by omega)]; exact g3) (fun i hi' => getD_splice _ _ _ _ (by omega)) (fun i hi' => .inl (by rwa [length_splice _ _ _ (by omega)] at hi')), .raw _⟩
    simp only [execOp, ho, Sem.run_bind, Instr.storeAt, hv, Instr.sureAddr, Sem.run_pure, Result.andThen_ok, storeVar, run_szT hs, Sem.run_ite]
    rw [if_neg (by simp only [ne_eq, Decidable.not_not]; omega)]
    simp only [Nat.add_zero] at hst
    rw [hst]
    rfl
end
end Go.Ai
