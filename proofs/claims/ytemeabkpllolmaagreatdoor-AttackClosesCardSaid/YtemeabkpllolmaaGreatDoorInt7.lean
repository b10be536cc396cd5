/-
  A part of an interpreter over abstract data, proved sound once for the model: what it says of the code, the machine does in every order. Conditions: none beyond the statement.
-/
import Derived.Test.YtemeabkpllolmaaGreatDoorInt5
import Derived.Test.YtemeabkpllolmaaGreatDoorInt6
import Derived.Scope
/-! Drawn regions. -/
set_option linter.unusedVariables false
set_option linter.unusedSimpArgs false
namespace Go.Ai
section
variable {P : Program} {ops : Array Oper} {ios : List IOp}

/-- The region's operations and their compiled forms. -/
structure Match (P : Program) (ops : Array Oper) (ios : List IOp) : Prop where
  len : ios.length = ops.size
  get : ∀ (j : Nat) (o : Oper), ops[j]? = some o → ∃ io, ios[j]? = some io ∧ compOp P ops o = some io

theorem match_of {P : Program} {ops : Array Oper} {ios : List IOp} (h : compOps P ops = some ios) : Match P ops ios := by
  obtain ⟨h1, h2⟩ := compOpL_ok _ _ h
  exact ⟨by simpa using h1, fun j o hj => h2 j o (by simpa using hj)⟩

theorem ready_eq (hm : Match P ops ios) (l : List Bool) : Region.ready .any ops l.toArray = readyD ios l := by
  unfold Region.ready readyD
  rw [hm.len]
  refine List.filter_congr fun i hi => ?_
  rw [List.mem_range] at hi
  have e0 : ∀ (k : Nat) (d : Bool), l.toArray.getD k d = l.getD k d := by
    intro k d
    simp [Array.getD_eq_getD_getElem?, List.getD_eq_getElem?_getD]
  obtain ⟨io, h1, h2⟩ := hm.get i ops[i] (by simp [hi])
  obtain ⟨-, -, h3⟩ := compOp_ok h2
  have e1 : ops[i]? = some ops[i] := by simp [hi]
  rw [e1, h1, e0]
  simp only [Option.map_some, Option.getD_some]
  congr 1
  rw [h3, List.all_map, List.all_filter, ← Array.all_toList]
  simp only [Function.comp_def, e0]

/-- Inside a region: from its begin to now. -/
structure DI (ops : Array Oper) (w0 : World) (s0 : St) (ι0 : Imap) (l : List Bool) (w : World) (s : St) (ι : Imap) : Prop where
  good : Good w0 w s0 s ι0 ι
  dom : Dom ι s.nx
  room : s0.nx + ops.size ≤ s.nx
  free : ∀ j, l.getD j true = false → ι (s0.nx + j) = none

theorem getD_set_self (l : List Bool) (i j : Nat) (h : (l.set i true).getD j true = false) : l.getD j true = false ∧ j ≠ i := by
  by_cases hij : j = i
  · subst hij
    rcases Nat.lt_or_ge j l.length with hl | hl
    · simp [List.getD_eq_getElem?_getD, hl] at h
    · simp [List.getD_eq_getElem?_getD, List.getElem?_eq_none, hl] at h
  · refine ⟨?_, hij⟩
    simpa [List.getD_eq_getElem?_getD, List.getElem?_set, Ne.symm hij] using h

theorem DI.call {w0 w w' : World} {s0 s s' : St} {ι0 ι ι' : Imap} {l : List Bool} (h : DI ops w0 s0 ι0 l w s ι) (hg : Good w w' s s' ι ι') (i : Nat) (hl : l.length = ops.size) : DI ops w0 s0 ι0 (l.set i true) w' s' ι' := by
  have hr := h.room
  refine ⟨h.good.trans hg, hg.domN h.dom, Nat.le_trans hr hg.nx, fun j hj => ?_⟩
  obtain ⟨h1, h2⟩ := getD_set_self _ _ _ hj
  have hjl : j < ops.size := by
    rcases Nat.lt_or_ge j l.length with h3 | h3
    · omega
    · simp [List.getD_eq_getElem?_getD, List.getElem?_eq_none, h3] at h1
  cases e : ι' (s0.nx + j) with
  | none => rfl
  | some b =>
    rcases hg.dom _ _ e with g | g
    · rw [h.free j h1] at g; cases g
    · omega

theorem DI.skip {w0 w : World} {s0 s : St} {ι0 ι : Imap} {l : List Bool} (h : DI ops w0 s0 ι0 l w s ι) (i : Nat) : DI ops w0 s0 ι0 (l.set i true) w s ι :=
  ⟨h.good, h.dom, h.room, fun j hj => h.free j (getD_set_self _ _ _ hj).1⟩

theorem DI.exec {w0 w w' : World} {s0 s s' : St} {ι0 ι ι' : Imap} {l : List Bool} (h : DI ops w0 s0 ι0 l w s ι) {i : Nat} (hi : i < ops.size) (hg : Good w w' { s with nx := s0.nx + i } s' ι ι') (hnx : s'.nx ≤ s0.nx + i + 1) :
    DI ops w0 s0 ι0 (l.set i true) w' { s' with H := norm s'.H, nx := s.nx } ι' := by
  have hr := h.room
  have hgd := h.good
  have e1 : Xof (norm s'.H) ι' = Xof s'.H ι' := Xof_congr (lk_norm _) _
  refine ⟨⟨R_congr (lk_norm _) hg.r, hgd.chg.trans' hg.chg hgd.x, fun n b hn => hg.ext n b (hgd.ext n b hn), fun n b hn => ?_, fun b o hb hx => ?_, Nat.le_trans (Nat.le_add_right _ _) hr, hg.ro.trans hgd.ro, fun n o hn ho => ?_⟩, fun n b hn => ?_, hr, fun j hj => ?_⟩
  · rcases hg.dom n b hn with h1 | h1
    · rcases hgd.dom n b h1 with h2 | h2
      · exact .inl h2
      · exact .inr h2
    · dsimp only at h1
      exact .inr ⟨by omega, by dsimp only; omega⟩
  · rw [e1] at hx
    exact hgd.x b o hb (hg.x b o (Nat.lt_of_lt_of_le hb hgd.chg.size) hx)
  · obtain ⟨⟨o1, h1, l1⟩, s1⟩ := hgd.old n o hn ho
    obtain ⟨⟨o2, h2, l2⟩, s2⟩ := hg.old n o1 (by dsimp only; rw [hgd.ro]; exact hn) h1
    exact ⟨⟨o2, by dsimp only; rw [lk_norm]; exact h2, Obj.like_trans l1 l2⟩, fun b base hb => (s2 b base (hgd.ext _ _ hb)).trans (s1 b base hb)⟩
  · rcases hg.dom n b hn with h1 | h1
    · exact h.dom n b h1
    · dsimp only at h1 ⊢
      omega
  · obtain ⟨h1, h2⟩ := getD_set_self _ _ _ hj
    cases e : ι' (s0.nx + j) with
    | none => rfl
    | some b =>
      rcases hg.dom _ _ e with g | g
      · rw [h.free j h1] at g; cases g
      · dsimp only at g
        omega

theorem draw_sim (hm : Match P ops ios) {Q : Ex × List D → St → Prop} {w0 : World} {s0 : St} {ι0 : Imap} : ∀ (fuel : Nat) (l : List Bool) (T : List D) (a : Act) (w : World) (s : St) (ι : Imap), l.length = ops.size →
    DI ops w0 s0 ι0 l w s ι → TV w (Xof s.H ι) ι T a.tmps → a.defers = [] → drawM (simC P) s0.nx ios fuel l T s Q → wpAny P .any ops (PostC Q w0 s0 ι0) fuel l.toArray a w
  | 0, l, T, a, w, s, ι, hl, hdi, hT, hdf, h => ⟨by rw [ready_eq hm]; exact h.1, hdf, .nrm, T, s, ι, h.2, hdi.good, hdi.dom, hT, trivial⟩
  | fuel + 1, l, T, a, w, s, ι, hl, hdi, hT, hdf, h => by
    refine ⟨fun hr => ⟨hdf, .nrm, T, s, ι, h.1 (by rw [← ready_eq hm]; exact hr), hdi.good, hdi.dom, hT, trivial⟩, fun i hi => ?_⟩
    rw [ready_eq hm] at hi
    have h2 := h.2 i hi
    have hlt : i < ops.size := by
      have := List.mem_filter.1 hi
      have h3 := List.mem_range.1 this.1
      rw [hm.len] at h3
      exact h3
    have hun : l.getD i true = false := by
      have := (List.mem_filter.1 hi).2
      simp only [Bool.and_eq_true, Bool.not_eq_true'] at this
      exact this.1
    have eo : ops[i]? = some ops[i] := by simp [hlt]
    obtain ⟨io, h3, h4⟩ := hm.get i _ eo
    obtain ⟨c1, c2, c3⟩ := compOp_ok h4
    rw [h3] at h2
    dsimp only at h2
    have hset : l.toArray.setIfInBounds i true = (l.set i true).toArray := by simp
    have ih := fun (T : List D) (a : Act) (w : World) (s : St) (ι : Imap) => draw_sim hm (Q := Q) (w0 := w0) (s0 := s0) (ι0 := ι0) fuel (l.set i true) T a w s ι (by rw [List.length_set]; exact hl)
    unfold wpOp
    rw [eo]
    dsimp only
    rw [wants_ok hT h4, hset]
    unfold stepD at h2
    split
    · rename_i hw
      rw [if_pos hw] at h2
      refine .inl ?_
      unfold opD at h2
      split at h2
      · refine op_sim hT hdi.good.r hdi.dom ?_ c2 h2
        refine ⟨fun d v w' s' ι' hq hg hv => ?_, fun d v w' s' ι' hq hg hv => ?_⟩
        · exact ih _ _ _ s' ι' (hdi.call hg i hl) (by rw [c1]; exact (hg.tv hT).put hv _) (by rw [put_defers]; exact hdf) hq
        · exact ⟨hdf, .pan d, [], s', ι', hq, hdi.good.trans hg, hg.domN hdi.dom, trivial, v, rfl, hv⟩
      · split at h2
        case h_2 => exact h2.elim
        rename_i d s' he
        obtain ⟨v, w', ι', hr, hg, hv⟩ := exec_ok (s := { s with nx := s0.nx + i }) hT hdi.good.r (hdi.free i hun) c2 he
        have hnx := exec_nx he
        have hdi' := hdi.exec hlt hg hnx
        have key : wpAny P .any ops (PostC Q w0 s0 ι0) fuel (l.set i true).toArray (a.put ops[i].dst v) w' := by
          refine ih _ _ _ _ ι' hdi' ?_ (by rw [put_defers]; exact hdf) h2
          dsimp only
          rw [Xof_congr (lk_norm _), c1]
          exact (hg.tv hT).put hv _
        unfold Oper.wp
        rcases hr with hr | ⟨hr, rfl⟩
        · rw [hr]; exact key
        · rw [hr]; exact key
    · rename_i hw
      rw [if_neg hw] at h2
      exact ih _ _ _ s ι (hdi.skip i) (by rw [c1]; exact hT.put (.raw _) _) (by rw [put_defers]; exact hdf) h2

/-- The whole region. -/
theorem region_draw_sim (hfo : P.follows .mixedOrders = true) (hm : Match P ops ios) {Q : Ex × List D → St → Prop} {w : World} {s : St} {ι : Imap} {T : List D} {a : Act} {id : Nat} (hs : Sim w s ι T a)
    (h : drawM (simC P) s.nx ios ios.length (List.replicate ios.length false) T { s with nx := s.nx + ios.length } Q) : (Code.region id ops true).wp P (PostC Q w s ι) a w := by
  refine wp_region_any hfo ?_
  rw [hm.len] at h
  have e : (Array.replicate ops.size false) = (List.replicate ops.size false).toArray := by simp
  rw [e]
  have hc : ∀ X, Chg X w { w with drawn := w.drawn + 1 } := fun X => ⟨rfl, rfl, rfl, Nat.le_refl _, fun b arr e fr h => ⟨arr, fr, h, rfl, fun _ _ => rfl, fun _ => rfl⟩, fun b ob h _ _ => h⟩
  have hV : ∀ d v, V w (Xof s.H ι) ι d v → V { w with drawn := w.drawn + 1 } (Xof s.H ι) ι d v := fun d v h => h.step (hc _) (fun _ _ _ h => h) (fun _ _ h => h)
  refine draw_sim hm ops.size _ T a _ { s with nx := s.nx + ops.size } ι (by simp) ⟨⟨?_, hc _, fun _ _ h => h, fun _ _ h => .inl h, fun _ _ _ h => h, Nat.le_add_right _ _, rfl, fun n o _ h => ⟨⟨o, h, Obj.like_refl o⟩, fun _ _ _ => rfl⟩⟩, ?_, Nat.le_refl _, ?_⟩ ⟨hs.tv.size, fun i hi => hV _ _ (hs.tv.v i hi)⟩ hs.df h
  · exact ⟨fun n o h => by
      obtain ⟨b, base, h1, h2⟩ := hs.r.obj n o h
      exact ⟨b, base, h1, h2.step rfl hV⟩, hs.r.inj, hs.r.low⟩
  · intro m b hm
    have := hs.dom m b hm
    dsimp only
    omega
  · intro j hj
    cases e : ι (s.nx + j) with
    | none => rfl
    | some b => have := hs.dom _ _ e; omega

theorem drawQ_sim (hm : Match P ops ios) {Q : Ex × List D → St → Prop} {w0 : World} {s0 : St} {ι0 : Imap} : ∀ (fuel : Nat) (l : List Bool) (T : List D) (a : Act) (w : World) (s : St) (ι : Imap), l.length = ops.size →
    Good w0 w s0 s ι0 ι → Sim w s ι T a → drawQ (simC P) ios fuel l T s Q → wpAny P .any ops (PostC Q w0 s0 ι0) fuel l.toArray a w
  | 0, l, T, a, w, s, ι, hl, hg, hs, h => ⟨by rw [ready_eq hm]; exact h.1, hs.df, .nrm, T, s, ι, h.2, hg, hs.dom, hs.tv, trivial⟩
  | fuel + 1, l, T, a, w, s, ι, hl, hg0, hs, h => by
    refine ⟨fun hr => ⟨hs.df, .nrm, T, s, ι, h.1 (by rw [← ready_eq hm]; exact hr), hg0, hs.dom, hs.tv, trivial⟩, fun i hi => ?_⟩
    rw [ready_eq hm] at hi
    have h2 := h.2 i hi
    have hlt : i < ops.size := by
      have := (mem_readyD.1 hi).1
      rwa [hm.len] at this
    have eo : ops[i]? = some ops[i] := by simp [hlt]
    obtain ⟨io, h3, h4⟩ := hm.get i _ eo
    obtain ⟨c1, c2, c3⟩ := compOp_ok h4
    have eat : atO ios i = io := by simp [atO, List.getD_eq_getElem?_getD, h3]
    rw [eat] at h2
    have hset : l.toArray.setIfInBounds i true = (l.set i true).toArray := by simp
    have ih := fun (T : List D) (a : Act) (w : World) (s : St) (ι : Imap) => drawQ_sim hm (Q := Q) (w0 := w0) (s0 := s0) (ι0 := ι0) fuel (l.set i true) T a w s ι (by rw [List.length_set]; exact hl)
    unfold wpOp
    rw [eo]
    dsimp only
    rw [wants_ok hs.tv h4, hset]
    unfold stepO at h2
    split
    · rename_i hw
      rw [if_pos hw] at h2
      refine .inl (op_sim hs.tv hs.r hs.dom ?_ c2 h2)
      refine ⟨fun d v w' s' ι' hq hg hv => ?_, fun d v w' s' ι' hq hg hv => ?_⟩
      · exact ih _ _ _ s' ι' (hg0.trans hg) ⟨by rw [c1]; exact (hg.tv hs.tv).put hv _, hg.r, hg.domN hs.dom, by rw [put_defers]; exact hs.df⟩ hq
      · exact ⟨hs.df, .pan d, [], s', ι', hq, hg0.trans hg, hg.domN hs.dom, trivial, v, rfl, hv⟩
    · rename_i hw
      rw [if_neg hw] at h2
      exact ih _ _ _ s ι hg0 ⟨by rw [c1]; exact hs.tv.put (.raw _) _, hs.r, hs.dom, by rw [put_defers]; exact hs.df⟩ h2

theorem region_quiet_sim (hfo : P.follows .mixedOrders = true) (hm : Match P ops ios) {l : List IOp} (hq : quietOrder ios = some l) {Q : Ex × List D → St → Prop} {w : World} {s : St} {ι : Imap} {T : List D} {a : Act} {id : Nat} (hs : Sim w s ι T a)
    (h : opsM (simC P) l T s Q) : (Code.region id ops true).wp P (PostC Q w s ι) a w := by
  refine wp_region_any hfo ?_
  have h' := quiet_draw (simC_mono P) hq h
  rw [hm.len] at h'
  have e : (Array.replicate ops.size false) = (List.replicate ops.size false).toArray := by simp
  rw [e]
  have hc : ∀ X, Chg X w { w with drawn := w.drawn + 1 } := fun X => ⟨rfl, rfl, rfl, Nat.le_refl _, fun b arr e fr h => ⟨arr, fr, h, rfl, fun _ _ => rfl, fun _ => rfl⟩, fun b ob h _ _ => h⟩
  have hV : ∀ d v, V w (Xof s.H ι) ι d v → V { w with drawn := w.drawn + 1 } (Xof s.H ι) ι d v := fun d v h => h.step (hc _) (fun _ _ _ h => h) (fun _ _ h => h)
  have hr' : R { w with drawn := w.drawn + 1 } s.H ι := ⟨fun n o h => by
      obtain ⟨b, base, h1, h2⟩ := hs.r.obj n o h
      exact ⟨b, base, h1, h2.step rfl hV⟩, hs.r.inj, hs.r.low⟩
  exact drawQ_sim hm ops.size _ T a _ s ι (by simp) ⟨hr', hc _, fun _ _ h => h, fun _ _ h => .inl h, fun _ _ _ h => h, Nat.le_refl _, rfl, fun n o _ h => ⟨⟨o, h, Obj.like_refl o⟩, fun _ _ _ => rfl⟩⟩ ⟨⟨hs.tv.size, fun i hi => hV _ _ (hs.tv.v i hi)⟩, hr', hs.dom, hs.df⟩ h'
end
end Go.Ai
/-! Whole code. -/
set_option linter.unusedVariables false
set_option linter.unusedSimpArgs false
namespace Go.Ai
section
variable {P : Program}

theorem PostC.mk {Q Q' : Ex × List D → St → Prop} {w w' : World} {s s' : St} {ι ι' : Imap} {x : Ex} {e : Exit} {T' : List D} {a' : Act} (hdf : a'.defers = []) (hq : Q (x, T') s') (hg : Good w w' s s' ι ι') (hd : Dom ι' s'.nx)
    (ht : TVx w' (Xof s'.H ι') ι' x T' a'.tmps) (hx : ExR w' (Xof s'.H ι') ι' x e) : PostC Q w s ι e a' w' :=
  ⟨hdf, x, T', s', ι', hq, hg, hd, ht, hx⟩

theorem opd_bool {w : World} {X : Nat → Nat → Prop} {ι : Imap} {T : List D} {a : Act} (ht : TV w X ι T a.tmps) {x : Operand} {y : Opd} (h : opd x = some y) {b : Bool} (he : evO T y = .raw (.bool b)) : a.eval x = .bool b := by
  have := V_opd ht h
  rw [he] at this
  generalize a.eval x = v at this
  cases this
  rfl

theorem code_sim (hfo : P.follows .mixedOrders = true) : ∀ (c : Code) (ic : IC), compC P c = some ic → ∀ (Q : Ex × List D → St → Prop) (T : List D) (a : Act) (w : World) (s : St) (ι : Imap), Sim w s ι T a →
    codeM (simC P) ic T s Q → c.wp P (PostC Q w s ι) a w := by
  intro c
  induction c with
  | skip =>
    intro ic hc Q T a w s ι hs h
    simp only [compC, Option.some.injEq] at hc
    subst hc
    exact wp_skip (PostC.mk (Q' := Q) hs.df h (Good.refl hs.r) hs.dom hs.tv trivial)
  | region id ops draw =>
    intro ic hc Q T a w s ι hs h
    simp only [compC, Option.map_eq_some_iff] at hc
    obtain ⟨ios, h1, rfl⟩ := hc
    have hm := match_of h1
    cases draw with
    | true =>
      cases hq : quietOrder ios with
      | none =>
        simp only [hq, if_true] at h
        exact region_draw_sim hfo hm hs h
      | some l =>
        simp only [hq, if_true] at h
        exact region_quiet_sim hfo hm hq hs h
    | false =>
      refine wp_region (ops_sim _ ios (by rw [List.length_range]; exact hm.len) (fun j hj => ?_) w s ι T a hs h)
      rw [List.length_range] at hj
      obtain ⟨io, g1, g2⟩ := hm.get j ops[j] (by simp [hj])
      exact ⟨j, ops[j], io, by simp [hj], by simp [hj], g1, g2⟩
  | seq x y ihx ihy =>
    intro ic hc Q T a w s ι hs h
    simp only [compC] at hc
    split at hc
    case h_2 => cases hc
    rename_i ix iy hx hy
    simp only [Option.some.injEq] at hc
    subst hc
    refine wp_seq (wp_mono (ihx ix hx _ T a w s ι hs h) ?_)
    rintro e a' w' ⟨hdf, x, T', s', ι', hq, hg, hd, ht, hxe⟩
    cases x <;> cases e <;> first | exact hxe.elim | skip
    · exact wp_mono (ihy iy hy Q T' a' w' s' ι' ⟨ht, hg.r, hd, hdf⟩ hq) fun e a w => PostC.trans hg
    · exact PostC.mk (Q' := Q) hdf hq hg hd ht hxe
    · exact PostC.mk (Q' := Q) hdf hq hg hd ht hxe
    · exact PostC.mk (Q' := Q) hdf hq hg hd ht hxe
  | cond o x y ihx ihy =>
    intro ic hc Q T a w s ι hs h
    simp only [compC] at hc
    split at hc
    case h_2 => cases hc
    rename_i oc ix iy ho hx hy
    simp only [Option.some.injEq] at hc
    subst hc
    simp only [codeM] at h
    split at h
    · rename_i he
      exact wp_cond_true (opd_bool hs.tv ho he) (ihx ix hx Q T a w s ι hs h)
    · rename_i he
      exact wp_cond_false (opd_bool hs.tv ho he) (ihy iy hy Q T a w s ι hs h)
    · exact h.elim
  | block id x ih =>
    intro ic hc Q T a w s ι hs h
    simp only [compC, Option.map_eq_some_iff] at hc
    obtain ⟨ix, hx, rfl⟩ := hc
    refine wp_block (wp_mono (ih ix hx _ T a w s ι hs h) ?_)
    rintro e a' w' ⟨hdf, x, T', s', ι', hq, hg, hd, ht, hxe⟩
    cases x <;> cases e <;> first | exact hxe.elim | skip
    · exact PostC.mk (Q' := Q) hdf hq hg hd ht hxe
    · rename_i i j
      have hij : i = j := hxe
      subst hij
      dsimp only at hq
      simp only [Exit.inBlock]
      by_cases hi : i = id
      · rw [if_pos hi] at hq ⊢
        exact PostC.mk (Q' := Q) hdf hq hg hd ht trivial
      · rw [if_neg hi] at hq ⊢
        exact PostC.mk (Q' := Q) hdf hq hg hd ht hxe
    · exact PostC.mk (Q' := Q) hdf hq hg hd ht hxe
    · exact PostC.mk (Q' := Q) hdf hq hg hd ht hxe
  | loop x ih =>
    intro ic hc Q T a w s ι hs h
    simp only [compC, Option.map_eq_some_iff] at hc
    obtain ⟨ix, hx, rfl⟩ := hc
    have key := h (fun T s => ∀ (w : World) (ι : Imap) (a : Act), Sim w s ι T a → ∀ (b : Frame) (k : List Item) (cs : List Frame), ∃ e a' w', PostC Q w s ι e a' w' ∧ Arrives P (lone (b.at a (.code x :: .inLoop x :: k)) cs w) b k cs e a' w') ?_
    · intro b k cs
      obtain ⟨e, a', w', hq, harr⟩ := key w ι a hs b k cs
      exact ⟨e, a', w', hq, .of_steps (.one step_loop) harr⟩
    · intro T s hb w ι a hs b k cs
      obtain ⟨e, a1, w1, hq1, harr⟩ := ih ix hx _ T a w s ι hs hb b (.inLoop x :: k) cs
      obtain ⟨hdf, xx, T', s', ι', hq, hg, hd, ht, hxe⟩ := hq1
      cases xx <;> cases e <;> first | exact hxe.elim | skip
      · obtain ⟨e2, a2, w2, hq2, harr2⟩ := hq w1 ι' a1 ⟨ht, hg.r, hd, hdf⟩ b k cs
        exact ⟨e2, a2, w2, PostC.trans hg hq2, .of_steps (Steps.trans harr (.one step_inLoop)) harr2⟩
      · exact ⟨_, a1, w1, PostC.mk (Q' := Q) hdf hq hg hd ht hxe, .pass (x := .inLoop x) rfl (fun _ _ => .inl (by simp)) harr⟩
      · exact ⟨_, a1, w1, PostC.mk (Q' := Q) hdf hq hg hd ht hxe, .pass (x := .inLoop x) rfl (fun _ _ => .inl (by simp)) harr⟩
      · exact ⟨_, a1, w1, PostC.mk (Q' := Q) hdf hq hg hd ht hxe, .pass (x := .inLoop x) rfl (fun _ _ => .inl (by simp)) harr⟩
  | scope x ih =>
    intro ic hc Q T a w s ι hs h
    simp only [compC, Option.map_eq_some_iff] at hc
    obtain ⟨ix, hx, rfl⟩ := hc
    refine wp_scope_straight (wp_mono (ih ix hx Q T a w s ι hs h) ?_)
    rintro e a' w' ⟨hdf, x, T', s', ι', hq, hg, hd, ht, hxe⟩
    cases x <;> cases e <;> first | exact hxe.elim | exact PostC.mk (Q' := Q) hdf hq hg hd ht hxe
  | exit id =>
    intro ic hc Q T a w s ι hs h
    simp only [compC, Option.some.injEq] at hc
    subst hc
    exact wp_exit (PostC.mk (Q' := Q) hs.df h (Good.refl hs.r) hs.dom hs.tv rfl)
  | ret =>
    intro ic hc Q T a w s ι hs h
    simp only [compC, Option.some.injEq] at hc
    subst hc
    exact wp_ret (PostC.mk (Q' := Q) hs.df h (Good.refl hs.r) hs.dom hs.tv trivial)
  | _ =>
    intro ic hc
    simp [compC] at hc
end
end Go.Ai
/-! Data that is sealed. -/
set_option linter.unusedVariables false
set_option linter.unusedSimpArgs false
namespace Go.Ai

structure Sealed (H H' : Heap) : Prop where
  fwd : ∀ n o, lk H n = some o → ∃ o', lk H' n = some o' ∧ o.like o'
  back : ∀ n o', lk H' n = some o' → ∃ o, lk H n = some o ∧ o.like o' ∧ ∀ base p, o'.free base p → o.free base p
theorem Sealed.refl (H : Heap) : Sealed H H := ⟨fun n o h => ⟨o, h, Obj.like_refl o⟩, fun n o h => ⟨o, h, Obj.like_refl o, fun _ _ h => h⟩⟩
theorem Sealed.trans {H H1 H2 : Heap} (h : Sealed H H1) (k : Sealed H1 H2) : Sealed H H2 := by
  refine ⟨fun n o hn => ?_, fun n o hn => ?_⟩
  · obtain ⟨o1, h1, l1⟩ := h.fwd n o hn
    obtain ⟨o2, h2, l2⟩ := k.fwd n o1 h1
    exact ⟨o2, h2, Obj.like_trans l1 l2⟩
  · obtain ⟨o1, h1, l1, f1⟩ := k.back n o hn
    obtain ⟨o2, h2, l2, f2⟩ := h.back n o1 h1
    exact ⟨o2, h2, Obj.like_trans l2 l1, fun base p hp => f2 _ _ (f1 _ _ hp)⟩
theorem Sealed.x {H H' : Heap} (h : Sealed H H') {ι : Imap} {b o : Nat} (hx : Xof H' ι b o) : Xof H ι b o := by
  obtain ⟨n, ob, base, h1, h2, h3⟩ := hx
  obtain ⟨ob', g1, _, g2⟩ := h.back n ob h1
  exact ⟨n, ob', base, g1, h2, g2 _ _ h3⟩
theorem Sealed.v {w : World} {H H' : Heap} (h : Sealed H H') {ι : Imap} {d : D} {v : Value} (hv : V w (Xof H ι) ι d v) : V w (Xof H' ι) ι d v :=
  hv.step (Chg.refl _ _) (fun _ _ _ hx => h.x hx) (fun _ _ h => h)
theorem ObjOk.like {w : World} {X : Nat → Nat → Prop} {ι : Imap} {b base : Nat} {o o' : Obj} (hl : o.like o') (h : ObjOk w X ι b base o) : ObjOk w X ι b base o' := by
  cases o <;> cases o' <;> simp only [Obj.like] at hl
  · obtain ⟨rfl, rfl⟩ := hl; exact h
  · subst hl; exact h
  · obtain ⟨rfl, rfl⟩ := hl; exact h
theorem Sealed.r {w : World} {H H' : Heap} (h : Sealed H H') {ι : Imap} (hR : R w H ι) : R w H' ι := by
  refine ⟨fun n o' hn => ?_, fun n m o o' b base base' h1 h2 h3 h4 => ?_, hR.low⟩
  · obtain ⟨o, h1, h2, _⟩ := h.back n o' hn
    obtain ⟨b, base, h3, h4⟩ := hR.obj n o h1
    exact ⟨b, base, h3, (h4.step rfl fun d v hv => h.v hv).like h2⟩
  · obtain ⟨o1, g1, _⟩ := h.back _ _ h1
    obtain ⟨o2, g2, _⟩ := h.back _ _ h2
    exact hR.inj _ _ _ _ _ _ _ g1 g2 h3 h4

theorem sealed_upd {H : Heap} {n : Nat} {o o' : Obj} (hl : lk H n = some o) (hk : o.like o') (hf : ∀ base p, o'.free base p → o.free base p) : Sealed H (upd H n o') := by
  refine ⟨fun m x hm => ?_, fun m x hm => ?_⟩
  · rw [lk_upd]
    by_cases h : m = n
    · subst h
      rw [hl] at hm
      simp only [Option.some.injEq] at hm
      subst hm
      exact ⟨o', by simp [hl], hk⟩
    · exact ⟨x, by rw [if_neg h]; exact hm, Obj.like_refl x⟩
  · rw [lk_upd] at hm
    by_cases h : m = n
    · subst h
      simp only [if_true, hl, Option.map_some, Option.some.injEq] at hm
      subst hm
      exact ⟨o, hl, hk, hf⟩
    · rw [if_neg h] at hm
      exact ⟨x, hm, Obj.like_refl x, fun _ _ h => h⟩

theorem chunks_len (sz : Nat) : ∀ (n : Nat) (l : List D), (chunks sz n l).length = n
  | 0, l => rfl
  | n + 1, l => by simp [chunks, chunks_len sz n]
theorem chunks_get (sz : Nat) : ∀ (n : Nat) (l : List D) (i : Nat), i < n → (chunks sz n l).getD i [] = (l.drop (i * sz)).take sz
  | n + 1, l, 0, _ => by simp [chunks]
  | n + 1, l, i + 1, h => by
    have := chunks_get sz n (l.drop sz) i (by omega)
    simp only [chunks, List.getD_cons_succ, this, List.drop_drop]
    congr 2
    rw [Nat.add_mul, Nat.one_mul, Nat.add_comm]

theorem not_free {w : World} {H : Heap} {ι : Imap} (hR : R w H ι) {n b base : Nat} {o : Obj} (hl : lk H n = some o) (hi : ι n = some (b, base)) {p : Nat} (hf : ¬ o.free base p) : ¬ Xof H ι b p := by
  rintro ⟨m, o', base', h1, h2, h3⟩
  have := hR.inj _ _ _ _ _ _ _ h1 hl h2 hi
  subst this
  rw [hl] at h1
  rw [hi] at h2
  simp only [Option.some.injEq, Prod.mk.injEq] at h1 h2
  obtain ⟨-, rfl⟩ := h2
  subst h1
  exact hf h3

def ViewOk (w : World) (ι : Imap) (k : Nat) : Prop :=
  (∀ d H d' H' v, view k d H = some (d', H') → R w H ι → V w (Xof H ι) ι d v → Sealed H H' ∧ V w (Xof H' ι) ι d' v) ∧
  (∀ ds H ds' H' (vs : Nat → Value), viewL k ds H = some (ds', H') → R w H ι → (∀ i, i < ds.length → V w (Xof H ι) ι (ds.getD i default) (vs i)) →
    Sealed H H' ∧ ds'.length = ds.length ∧ ∀ i, i < ds.length → V w (Xof H' ι) ι (ds'.getD i default) (vs i))

theorem view_sl {w : World} {ι : Imap} {H H2 : Heap} {n off len sz lo : Nat} {cs l : List D} {e : TypeId} {v : Value} (hR : R w H ι) (hv : V w (Xof H ι) ι (.sl n off len sz) v) (hl : lk H n = some (.cells cs e lo)) (hfit : off + len * sz ≤ cs.length)
    (ih : ∀ vs : Nat → Value, (∀ i, i < ((cs.drop off).take (len * sz)).length → V w (Xof (upd H n (.cells cs e (max lo (off + len * sz)))) ι) ι (((cs.drop off).take (len * sz)).getD i default) (vs i)) →
      Sealed (upd H n (.cells cs e (max lo (off + len * sz)))) H2 ∧ l.length = ((cs.drop off).take (len * sz)).length ∧ ∀ i, i < ((cs.drop off).take (len * sz)).length → V w (Xof H2 ι) ι (l.getD i default) (vs i)) :
    Sealed H H2 ∧ V w (Xof H2 ι) ι (.lst (chunks sz len l)) v := by
  have hs1 : Sealed H (upd H n (.cells cs e (max lo (off + len * sz)))) := sealed_upd hl (by simp [Obj.like]) (fun base p h => by simp only [Obj.free] at *; omega)
  have hlk1 : lk (upd H n (.cells cs e (max lo (off + len * sz)))) n = some (.cells cs e (max lo (off + len * sz))) := by simp [lk_upd, hl]
  have hR1 := hs1.r hR
  have hlen : ((cs.drop off).take (len * sz)).length = len * sz := by
    rw [List.length_take, List.length_drop]; omega
  have hget : ∀ i, i < len * sz → ((cs.drop off).take (len * sz)).getD i default = cs.getD (off + i) default := by
    intro i hi
    simp [List.getD_eq_getElem?_getD, List.getElem?_take, hi]
  cases hv with
  | sl _ b base _ _ _ cap ad arr e' fr hi hlc hb hsz had =>
    obtain ⟨b', base', g1, arr', g2, g3, g4⟩ := hR.obj n _ hl
    rw [hi] at g1
    simp only [Option.some.injEq, Prod.mk.injEq] at g1
    obtain ⟨rfl, rfl⟩ := g1
    obtain ⟨s2, i1, i2⟩ := ih (fun i => arr'.getD (base + off + i) undef) (fun i hi' => by
      rw [hlen] at hi'
      rw [hget i hi', Nat.add_assoc]
      exact hs1.v (g4 (off + i) (by omega)))
    rw [hlen] at i1 i2
    have hR2 := s2.r hR1
    refine ⟨hs1.trans s2, ?_⟩
    rcases had with had | had
    · subst had
      have hij : ∀ i j, i < len → j < sz → i * sz + j < len * sz := by
        intro i j hi hj
        have : (i + 1) * sz ≤ len * sz := Nat.mul_le_mul_right _ hi
        rw [Nat.add_mul, Nat.one_mul] at this
        omega
      have hch : ∀ i j, i < len → j < sz → ((chunks sz len l).getD i []).getD j default = l.getD (i * sz + j) default := by
        intro i j hi hj
        rw [chunks_get _ _ _ _ hi]
        simp [List.getD_eq_getElem?_getD, List.getElem?_take, hj]
      refine .lst _ _ ⟨b, base + off, none⟩ len cap sz (fun i j => arr'.getD (base + off + (i * sz + j)) undef) (chunks_len _ _ _).symm hlc (.inl rfl) rfl ?_ ?_ ?_ ?_
      · intro i hi'
        rw [chunks_len] at hi'
        rw [chunks_get _ _ _ _ hi', List.length_take, List.length_drop, i1]
        have : (i + 1) * sz ≤ len * sz := Nat.mul_le_mul_right _ hi'
        rw [Nat.add_mul, Nat.one_mul] at this
        omega
      · intro i j hi' hj
        rw [chunks_len] at hi'
        have := hij i j hi' hj
        have hlt : base + off + (i * sz + j) < arr'.size := by omega
        simp only [World.cell?, g2, Nat.add_assoc]
        rw [Nat.add_assoc] at hlt
        simp [Array.getD_eq_getD_getElem?, hlt]
      · intro i j hi' hj
        rw [chunks_len] at hi'
        have := hij i j hi' hj
        obtain ⟨o', k1, k2⟩ := s2.fwd n _ hlk1
        refine not_free hR2 k1 hi fun hf => ?_
        obtain ⟨o1, k3, _, k4⟩ := s2.back n _ k1
        rw [hlk1] at k3
        simp only [Option.some.injEq] at k3
        subst k3
        have := k4 _ _ hf
        simp only [Obj.free] at this
        omega
      · intro i j hi' hj
        rw [chunks_len] at hi'
        rw [hch i j hi' hj]
        exact i2 _ (hij i j hi' hj)
    · subst had
      have h0 : len = 0 := by omega
      subst h0
      exact .lst [] (some ad) ⟨b, 0, none⟩ 0 0 0 (fun _ _ => undef) rfl (Nat.le_refl _) (.inr rfl) rfl (fun i hi => absurd hi (Nat.not_lt_zero _)) (fun i j hi => absurd hi (Nat.not_lt_zero _)) (fun i j hi => absurd hi (Nat.not_lt_zero _)) (fun i j hi => absurd hi (Nat.not_lt_zero _))

theorem view_map {w : World} {ι : Imap} {H H2 : Heap} {n : Nat} {es : List (Value × D)} {sd : Bool} {l : List D} {v : Value} (hR : R w H ι) (hv : V w (Xof H ι) ι (.map n) v) (hl : lk H n = some (.map es sd))
    (ih : ∀ vs : Nat → Value, (∀ i, i < (es.map (·.2)).length → V w (Xof (upd H n (.map es true)) ι) ι ((es.map (·.2)).getD i default) (vs i)) →
      Sealed (upd H n (.map es true)) H2 ∧ l.length = (es.map (·.2)).length ∧ ∀ i, i < (es.map (·.2)).length → V w (Xof H2 ι) ι (l.getD i default) (vs i)) :
    Sealed H H2 ∧ V w (Xof H2 ι) ι (.imap (es.zipWith (fun e d => (e.1, d)) l)) v := by
  have hs1 : Sealed H (upd H n (.map es true)) := sealed_upd hl (by simp [Obj.like]) (fun base p h => by simp [Obj.free] at h)
  have hlk1 : lk (upd H n (.map es true)) n = some (.map es true) := by simp [lk_upd, hl]
  have hR1 := hs1.r hR
  cases hv with
  | map _ b base hi =>
    obtain ⟨b', base', g1, ents, clock, g2, g3, g4, g5, g6, g7⟩ := hR.obj n _ hl
    rw [hi] at g1
    simp only [Option.some.injEq, Prod.mk.injEq] at g1
    obtain ⟨rfl, rfl⟩ := g1
    obtain ⟨s2, i1, i2⟩ := ih (fun i => (ents.getD i default).val) (fun i hi' => by
      rw [List.length_map] at hi'
      have e1 : (es.map (·.2)).getD i default = (es.getD i default).2 := by simp [List.getD_eq_getElem?_getD, hi']
      rw [e1]
      exact hs1.v (g5 i hi'))
    rw [List.length_map] at i1 i2
    have hR2 := s2.r hR1
    have hzl : (es.zipWith (fun e d => (e.1, d)) l).length = es.length := by rw [List.length_zipWith, i1]; omega
    have hz : ∀ i, i < es.length → (es.zipWith (fun e d => (e.1, d)) l).getD i default = ((es.getD i default).1, l.getD i default) := by
      intro i hi'
      have : i < l.length := by omega
      simp [List.getD_eq_getElem?_getD, List.getElem?_zipWith, hi', this]
    refine ⟨hs1.trans s2, .imap _ b ents clock g2 ?_ (by rw [hzl]; exact g3) ?_ ?_ ⟨by rw [hzl]; exact g6, fun i hi' => g7 i (by rw [hzl] at hi'; exact hi')⟩⟩
    · obtain ⟨o', k1, k2⟩ := s2.fwd n _ hlk1
      intro hx
      have hx' : ¬ Xof H2 ι b 0 := by
        rintro ⟨m, o3, base3, h1, h2, h3⟩
        have := hR2.inj _ _ _ _ _ _ _ h1 k1 h2 hi
        subst this
        obtain ⟨o1, k3, _, k4⟩ := s2.back _ _ h1
        rw [hlk1] at k3
        simp only [Option.some.injEq] at k3
        subst k3
        have := k4 _ _ h3
        simp [Obj.free] at this
      exact hx' hx
    · intro i hi'
      rw [hzl] at hi'
      rw [hz i hi']
      exact g4 i hi'
    · intro i hi'
      rw [hzl] at hi'
      rw [hz i hi']
      exact i2 i hi'

theorem view_ok (w : World) (ι : Imap) : ∀ k, ViewOk w ι k := by
  intro k
  induction k with
  | zero =>
    refine ⟨fun d H d' H' v h => by simp [view] at h, fun ds H ds' H' vs h hR hv => ?_⟩
    cases ds with
    | nil =>
      simp only [viewL, Option.some.injEq, Prod.mk.injEq] at h
      obtain ⟨rfl, rfl⟩ := h
      exact ⟨Sealed.refl _, rfl, fun i hi => absurd hi (Nat.not_lt_zero _)⟩
    | cons d ds => simp [viewL] at h
  | succ k ih =>
    obtain ⟨ih1, ih2⟩ := ih
    have nilLst : ∀ (H : Heap) (A : Option Addr), V w (Xof H ι) ι (.lst []) (.slice A 0 0) := fun H A =>
      .lst [] A ⟨0, 0, none⟩ 0 0 0 (fun _ _ => undef) rfl (Nat.le_refl _) (.inr rfl) rfl (fun i hi => absurd hi (Nat.not_lt_zero _)) (fun i j hi => absurd hi (Nat.not_lt_zero _)) (fun i j hi => absurd hi (Nat.not_lt_zero _)) (fun i j hi => absurd hi (Nat.not_lt_zero _))
    refine ⟨fun d H d' H' v h hR hv => ?_, fun ds H ds' H' vs h hR hv => ?_⟩
    · unfold view at h
      split at h
      · simp only [Option.some.injEq, Prod.mk.injEq] at h
        obtain ⟨rfl, rfl⟩ := h
        cases hv
        exact ⟨Sealed.refl _, nilLst _ _⟩
      · simp only [Option.some.injEq, Prod.mk.injEq] at h
        obtain ⟨rfl, rfl⟩ := h
        cases hv
        exact ⟨Sealed.refl _, nilLst _ _⟩
      · split at h
        case h_2 => cases h
        rename_i cs l H2 hl
        simp only [Option.some.injEq, Prod.mk.injEq] at h
        obtain ⟨rfl, rfl⟩ := h
        cases hv with
        | agg _ vs hs hv =>
          obtain ⟨g1, g2, g3⟩ := ih2 _ _ _ _ (fun i => vs.getD i undef) hl hR hv
          exact ⟨g1, .agg _ _ (hs.trans g2.symm) (by rw [g2]; exact g3)⟩
      · split at h
        case h_2 => cases h
        rename_i cs l H2 hl
        simp only [Option.some.injEq, Prod.mk.injEq] at h
        obtain ⟨rfl, rfl⟩ := h
        cases hv with
        | tup _ vs hs hv =>
          obtain ⟨g1, g2, g3⟩ := ih2 _ _ _ _ (fun i => vs.getD i undef) hl hR hv
          exact ⟨g1, .tup _ _ (hs.trans g2.symm) (by rw [g2]; exact g3)⟩
      · split at h
        case h_2 => cases h
        rename_i t d l H2 hl
        simp only [Option.some.injEq, Prod.mk.injEq] at h
        obtain ⟨rfl, rfl⟩ := h
        cases hv with
        | iface _ _ v hv =>
          obtain ⟨g1, g2⟩ := ih1 _ _ _ _ _ hl hR hv
          exact ⟨g1, .iface _ _ _ g2⟩
      · split at h
        case h_2 => cases h
        rename_i n off len sz _ cs e lo hlk
        split at h
        case isFalse => cases h
        rename_i hfit
        split at h
        case h_2 => cases h
        rename_i l H2 hl
        simp only [Option.some.injEq, Prod.mk.injEq] at h
        obtain ⟨rfl, rfl⟩ := h
        have hs1 : Sealed H (upd H n (.cells cs e (max lo (off + len * sz)))) := sealed_upd hlk (by simp [Obj.like]) (fun base p h => by simp only [Obj.free] at *; omega)
        exact view_sl hR hv hlk hfit fun vs hvs => ih2 _ _ _ _ vs hl (hs1.r hR) hvs
      · split at h
        case h_2 => cases h
        rename_i n _ es sd hlk
        split at h
        case h_2 => cases h
        rename_i l H2 hl
        simp only [Option.some.injEq, Prod.mk.injEq] at h
        obtain ⟨rfl, rfl⟩ := h
        have hs1 : Sealed H (upd H n (.map es true)) := sealed_upd hlk (by simp [Obj.like]) (fun base p h => by simp [Obj.free] at h)
        exact view_map hR hv hlk fun vs hvs => ih2 _ _ _ _ vs hl (hs1.r hR) hvs
      · simp only [Option.some.injEq, Prod.mk.injEq] at h
        obtain ⟨rfl, rfl⟩ := h
        exact ⟨Sealed.refl _, hv⟩
    · cases ds with
      | nil =>
        simp only [viewL, Option.some.injEq, Prod.mk.injEq] at h
        obtain ⟨rfl, rfl⟩ := h
        exact ⟨Sealed.refl _, rfl, fun i hi => absurd hi (Nat.not_lt_zero _)⟩
      | cons d ds =>
        unfold viewL at h
        split at h
        case h_2 => cases h
        rename_i d1 H1 hd
        split at h
        case h_2 => cases h
        rename_i l H2 hl
        simp only [Option.some.injEq, Prod.mk.injEq] at h
        obtain ⟨rfl, rfl⟩ := h
        obtain ⟨s1, v1⟩ := ih1 _ _ _ _ (vs 0) hd hR (hv 0 (Nat.succ_pos _))
        obtain ⟨s2, l2, v2⟩ := ih2 _ _ _ _ (fun i => vs (i + 1)) hl (s1.r hR) (fun i hi => by
          have := hv (i + 1) (by simpa using hi)
          exact s1.v (by simpa [List.getD_eq_getElem?_getD] using this))
        refine ⟨s1.trans s2, by simp [l2], fun i hi => ?_⟩
        cases i with
        | zero => exact s2.v (by simpa [List.getD_eq_getElem?_getD] using v1)
        | succ i =>
          have := v2 i (by simpa using hi)
          simpa [List.getD_eq_getElem?_getD] using this
end Go.Ai
/-! Functions: what the least meaning of calls says is what the machine does. -/
set_option linter.unusedVariables false
set_option linter.unusedSimpArgs false
namespace Go.Ai
section
variable {P : Program}

def resF (tmps : Array Value) : ResultVar → Sem Value
  | .tmp t => pure (tmps.getD t undef)
  | .cell a t => do loadVar t (← asAddr (tmps.getD a undef))

theorem res_one {w : World} {s : St} {ι : Imap} {T : List D} {tmps : Array Value} (hT : TV w (Xof s.H ι) ι T tmps) (hR : R w s.H ι) {r : ResultVar} {rs : List ResultVar} {rv : RV} {rvs : List RV} (hc : compRes P (r :: rs) = some (rv :: rvs)) {d : D} (h : resOne T s.H rv = some d) :
    compRes P rs = some rvs ∧ ∃ v, (resF tmps r).run P w = .ok v w ∧ V w (Xof s.H ι) ι d v := by
  have look : ∀ t, V w (Xof s.H ι) ι (T.getD t default) (tmps.getD t undef) := by
    intro t
    have hs := hT.size
    rcases Nat.lt_or_ge t T.length with hl | hl
    · exact hT.v t hl
    · have e1 : T.getD t default = default := by simp [List.getD_eq_getElem?_getD, List.getElem?_eq_none hl]
      have e2 : tmps.getD t undef = undef := by
        rw [Array.getD_eq_getD_getElem?, Array.getElem?_eq_none (by rw [hs]; exact hl)]
        rfl
      rw [e1, e2]; exact .raw _
  cases r with
  | tmp t =>
    simp only [compRes, Option.map_eq_some_iff] at hc
    obtain ⟨l, h1, h2⟩ := hc
    simp only [List.cons.injEq] at h2
    obtain ⟨rfl, rfl⟩ := h2
    simp only [resOne, Option.some.injEq] at h
    subst h
    exact ⟨h1, _, rfl, look t⟩
  | cell t ty =>
    simp only [compRes] at hc
    split at hc
    case h_2 => cases hc
    rename_i ag sz l ha hs hl
    split at hc
    case isFalse => cases hc
    simp only [Option.some.injEq, List.cons.injEq] at hc
    obtain ⟨rfl, rfl⟩ := hc
    refine ⟨hl, ?_⟩
    have vx := look t
    simp only [resOne] at h
    split at h
    · rename_i n k he
      rw [he] at vx
      split at h
      · rename_i cs e lo hlk
        generalize hq : tmps.getD t undef = q at vx
        cases vx with
        | ref _ b base _ hi =>
          obtain ⟨arr, h1, h2, h3⟩ := reads_obj hR hi hlk
          obtain ⟨v, hr, hv⟩ := run_loadVar_reads (P := P) (h3.drop k) ha hs h
          exact ⟨v, by simp [resF, hq, asAddr, hr], hv⟩
      · cases h
    · rename_i cs he
      rw [he] at vx
      obtain ⟨ad, u, e1, e2, e3, _⟩ := reads_iptr vx
      obtain ⟨v, hr, hv⟩ := run_loadVar_reads (P := P) e3 ha hs h
      rw [← addr_eta e2] at hr
      exact ⟨v, by simp [resF, e1, asAddr, hr], hv⟩
    · cases h

theorem res_list {w : World} {s : St} {ι : Imap} {T : List D} {tmps : Array Value} (hT : TV w (Xof s.H ι) ι T tmps) (hR : R w s.H ι) : ∀ (rs : List ResultVar) (rvs : List RV) (ds : List D), compRes P rs = some rvs → resL T s.H rvs = some ds →
    ∃ vs : List Value, (rs.mapM (resF tmps)).run P w = .ok vs w ∧ vs.length = ds.length ∧ ∀ i, i < ds.length → V w (Xof s.H ι) ι (ds.getD i default) (vs.getD i undef)
  | [], rvs, ds, hc, h => by
    simp only [compRes, Option.some.injEq] at hc
    subst hc
    simp only [resL, Option.some.injEq] at h
    subst h
    exact ⟨[], rfl, rfl, fun i hi => absurd hi (Nat.not_lt_zero _)⟩
  | r :: rs, rvs, ds, hc, h => by
    cases rvs with
    | nil =>
      cases r <;> simp only [compRes] at hc
      · simp at hc
      · split at hc
        · split at hc <;> simp at hc
        · cases hc
    | cons rv rvs =>
      simp only [resL] at h
      split at h
      case h_2 => cases h
      rename_i d ds' h1 h2
      simp only [Option.some.injEq] at h
      subst h
      obtain ⟨hc', v, hr, hv⟩ := res_one hT hR hc h1
      obtain ⟨vs, g1, g2, g3⟩ := res_list hT hR rs rvs ds' hc' h2
      refine ⟨v :: vs, by simp [List.mapM_cons, hr, g1], by simp [g2], fun i hi => ?_⟩
      cases i with
      | zero => simpa [List.getD_eq_getElem?_getD] using hv
      | succ i =>
        have := g3 i (by simpa using hi)
        simpa [List.getD_eq_getElem?_getD] using this

theorem res_ok {w : World} {s : St} {ι : Imap} {T : List D} {tmps : Array Value} (hT : TV w (Xof s.H ι) ι T tmps) (hR : R w s.H ι) {fn : Func} {rvs : List RV} (hc : compRes P fn.results.toList = some rvs) {d : D} (h : resD T s.H rvs = some d) :
    ∃ v, (results fn tmps).run P w = .ok v w ∧ V w (Xof s.H ι) ι d v := by
  unfold resD at h
  have hrun : ∀ vs : List Value, (fn.results.toList.mapM (resF tmps)).run P w = .ok vs w → (results fn tmps).run P w = .ok (if h : vs.toArray.size = 1 then vs.toArray[0] else .tuple vs.toArray) w := by
    intro vs hv
    have e : results fn tmps = (do let vs ← fn.results.mapM (resF tmps); pure (if h : vs.size = 1 then vs[0] else .tuple vs)) := by
      unfold results
      congr 1
    rw [e, Array.mapM_eq_mapM_toList]
    simp [hv]
  split at h
  · rename_i d' hl
    simp only [Option.some.injEq] at h
    subst h
    obtain ⟨vs, g1, g2, g3⟩ := res_list hT hR _ _ _ hc hl
    have := hrun vs g1
    match vs, g2 with
    | [v], _ =>
      refine ⟨v, by simpa using this, ?_⟩
      simpa [List.getD_eq_getElem?_getD] using g3 0 (by simp)
  · rename_i ds hne hl
    simp only [Option.some.injEq] at h
    subst h
    obtain ⟨vs, g1, g2, g3⟩ := res_list hT hR _ _ _ hc hl
    have h1 : vs.toArray.size ≠ 1 := by
      intro h1
      simp only [List.size_toArray] at h1
      rw [g2] at h1
      match ds, h1 with
      | [d], _ => exact hne d rfl
    have := hrun vs g1
    rw [dif_neg h1] at this
    exact ⟨_, this, .tup _ _ (by simpa using g2) (fun i hi => by simpa [Array.getD_eq_getD_getElem?, List.getD_eq_getElem?_getD] using g3 i hi)⟩
  · cases h

mutual
theorem rigid_V {w w' : World} {X X' : Nat → Nat → Prop} {ι ι' : Imap} : ∀ (k : Nat) (d : D) (v : Value), rigid k d = true → V w X ι d v → V w' X' ι' d v
  | 0, d, v, h, hv => by simp [rigid] at h
  | k + 1, d, v, h, hv => by
    cases hv with
    | raw v => exact .raw v
    | e0 A => exact .e0 A
    | tup ds vs hs hv =>
      simp only [rigid] at h
      exact .tup _ _ hs (rigidL_V k ds (fun i => vs.getD i undef) h hv)
    | agg ds vs hs hv =>
      simp only [rigid] at h
      exact .agg _ _ hs (rigidL_V k ds (fun i => vs.getD i undef) h hv)
    | _ => simp [rigid] at h
theorem rigidL_V {w w' : World} {X X' : Nat → Nat → Prop} {ι ι' : Imap} : ∀ (k : Nat) (ds : List D) (vs : Nat → Value), rigidL k ds = true → (∀ i, i < ds.length → V w X ι (ds.getD i default) (vs i)) → ∀ i, i < ds.length → V w' X' ι' (ds.getD i default) (vs i)
  | _, [], vs, h, hv => fun i hi => absurd hi (Nat.not_lt_zero _)
  | 0, _ :: _, vs, h, hv => by simp [rigidL] at h
  | k + 1, d :: ds, vs, h, hv => by
    simp only [rigidL, Bool.and_eq_true] at h
    intro i hi
    cases i with
    | zero =>
      have := rigid_V (w' := w') (X' := X') (ι' := ι') k d (vs 0) h.1 (by simpa [List.getD_eq_getElem?_getD] using hv 0 (Nat.succ_pos _))
      simpa [List.getD_eq_getElem?_getD] using this
    | succ i =>
      have := rigidL_V (w' := w') (X' := X') (ι' := ι') k ds (fun i => vs (i + 1)) h.2 (fun j hj => by
        have := hv (j + 1) (by simpa using hj)
        simpa [List.getD_eq_getElem?_getD] using this) i (by simpa using hi)
      simpa [List.getD_eq_getElem?_getD] using this
end

theorem lk_cut (k : Nat) (H : Heap) (n : Nat) : lk (cut k H) n = if n < k then lk H n else none := by
  induction H with
  | nil => simp [cut, lk]
  | cons p t ih =>
    obtain ⟨m, o⟩ := p
    unfold cut at ih ⊢
    rw [List.filter_cons]
    cases hb : Nat.blt m k with
    | true =>
      have hlt : m < k := by simpa using hb
      simp only [if_true, lk_cons, ih]
      by_cases h : n = m
      · subst h; simp [hlt]
      · simp [h]
    | false =>
      have hge : ¬ m < k := fun h => by rw [show Nat.blt m k = true by simpa using h] at hb; cases hb
      simp only [Bool.false_eq_true, if_false, lk_cons, ih]
      by_cases h : n = m
      · subst h; simp [hge]
      · simp [h]

/-- The end of a call that saw the caller's objects only to read: they are as they were. -/
theorem good_back {w w' : World} {s s' : St} {ι ι' : Imap} {H1 : Heap} (hR : R w s.H ι) (hd : Dom ι s.nx) (hs1 : Sealed s.H H1) (hg : Good w w' { H := H1, nx := s.nx, ro := s.nx } s' ι ι') :
    Good w w' s { H := s.H, nx := s'.nx, ro := s.ro } ι ι' := by
  have same : ∀ n o b base, lk s.H n = some o → ι n = some (b, base) → w'.heap[b]? = w.heap[b]? := by
    intro n o b base hn hb
    obtain ⟨o1, h1, _⟩ := hs1.fwd n o hn
    exact (hg.old n o1 (hd _ _ hb) h1).2 b base hb
  have hi : ∀ n o b base, lk s.H n = some o → ι' n = some (b, base) → ι n = some (b, base) := by
    intro n o b base hn hb
    obtain ⟨b1, base1, h1, _⟩ := hR.obj n o hn
    have := hg.ext _ _ h1
    rw [hb] at this
    rw [h1, this]
  have hX : ∀ b o, Xof s.H ι' b o → Xof s.H ι b o := by
    rintro b o ⟨n, ob, base, h1, h2, h3⟩
    exact ⟨n, ob, base, h1, hi _ _ _ _ h1 h2, h3⟩
  have hchg : Chg (Xof s.H ι) w w' := hg.chg.mono fun b o _ h => hs1.x h
  refine ⟨⟨fun n o hn => ?_, fun n m o o' b base base' h1 h2 h3 h4 => ?_, hg.r.low⟩, hchg, hg.ext, hg.dom, fun b o _ h => hX b o h, hg.nx, rfl, fun n o hn ho => ⟨⟨o, ho, Obj.like_refl o⟩, fun b base hb => same n o b base ho hb⟩⟩
  · obtain ⟨b, base, h1, h2⟩ := hR.obj n o hn
    exact ⟨b, base, hg.ext _ _ h1, h2.step (same n o b base hn h1) fun d v hv => hv.step hchg (fun b o _ h => hX b o h) hg.ext⟩
  · exact hR.inj n m o o' b base base' h1 h2 (hi _ _ _ _ h1 h3) (hi _ _ _ _ h2 h4)

theorem good_cut {w w' : World} {s s' : St} {ι ι' : Imap} {H1 H2 : Heap} (hR : R w s.H ι) (hd : Dom ι s.nx) (hs1 : Sealed s.H H1) (hg : Good w w' { H := H1, nx := s.nx, ro := s.nx } s' ι ι') (hs2 : Sealed s'.H H2) :
    Good w w' s { H := cut s.nx H2, nx := s'.nx, ro := s.ro } ι ι' ∧ ∀ d v, V w' (Xof H2 ι') ι' d v → V w' (Xof (cut s.nx H2) ι') ι' d v := by
  have hR2 := hs2.r hg.r
  have hsub : ∀ n o, lk (cut s.nx H2) n = some o → lk H2 n = some o := by
    intro n o h
    rw [lk_cut] at h
    split at h
    · exact h
    · cases h
  have hX : ∀ b o, Xof (cut s.nx H2) ι' b o → Xof H2 ι' b o := by
    rintro b o ⟨n, ob, base, h1, h2, h3⟩
    exact ⟨n, ob, base, hsub _ _ h1, h2, h3⟩
  have hV : ∀ d v, V w' (Xof H2 ι') ι' d v → V w' (Xof (cut s.nx H2) ι') ι' d v := fun d v h => h.step (Chg.refl _ _) (fun b o _ h => hX b o h) (fun _ _ h => h)
  refine ⟨⟨⟨fun n o hn => ?_, fun n m o o' b base base' h1 h2 h3 h4 => hR2.inj n m o o' b base base' (hsub _ _ h1) (hsub _ _ h2) h3 h4, hR2.low⟩, hg.chg.mono fun b o _ h => hs1.x h, hg.ext, hg.dom, fun b o hb hx => ?_, hg.nx, rfl, fun n o hn ho => ?_⟩, hV⟩
  · obtain ⟨b, base, h1, h2⟩ := hR2.obj n o (hsub _ _ hn)
    exact ⟨b, base, h1, h2.step rfl hV⟩
  · exact hs1.x (hg.x b o hb (hs2.x (hX b o hx)))
  · obtain ⟨b, base, h1, _⟩ := hR.obj n o ho
    have hlt := hd _ _ h1
    obtain ⟨o1, g1, l1⟩ := hs1.fwd n o ho
    obtain ⟨⟨o2, g2, l2⟩, g3⟩ := hg.old n o1 hlt g1
    obtain ⟨o3, g4, l3⟩ := hs2.fwd n o2 g2
    exact ⟨⟨o3, by rw [lk_cut, if_pos hlt]; exact g4, Obj.like_trans l1 (Obj.like_trans l2 l3)⟩, g3⟩

theorem pad_TV {w : World} {X : Nat → Nat → Prop} {ι : Imap} {args : List D} {vs : Array Value} (h : TV w X ι args vs) (nt : Nat) : TV w X ι (pad nt args) (vs ++ Array.replicate (nt - vs.size) undef) := by
  unfold pad
  rw [h.size]
  refine TV.append h ⟨by simp, fun i hi => ?_⟩
  rw [List.length_replicate] at hi
  have e1 : (List.replicate (nt - args.length) (default : D)).getD i default = default := by simp [List.getD_eq_getElem?_getD, hi]
  have e2 : (Array.replicate (nt - args.length) undef).getD i undef = undef := by simp [Array.getD_eq_getD_getElem?, hi]
  rw [e1, e2]
  exact .raw _

theorem body_sim (hfo : P.follows .mixedOrders = true) {f : FuncId} {fn : Func} {keep : Bool} {ifn : IF} (hf : P.funcs[f]? = some fn) (hc : compF P keep fn = some ifn) {args : List D} {s : St} {Q : Out → St → Prop}
    (h : bodyM (simC P) ifn args s Q) : simC P f args s Q := by
  unfold compF at hc
  split at hc
  case h_2 => cases hc
  rename_i c hb
  split at hc
  case h_2 => cases hc
  rename_i ic rvs hic hrv
  split at hc
  case isTrue => cases hc
  rename_i hname
  simp only [Option.some.injEq] at hc
  subst hc
  refine ⟨⟨fn, c, hf, hb, by simpa using hname⟩, fun w ι vs hv hR hd => calls_of_wp hf hb ?_⟩
  unfold bodyM at h
  dsimp only at h
  split at h
  · -- keep
    refine wp_mono (code_sim hfo c ic hic _ _ _ w s ι ⟨pad_TV hv _, hR, hd, rfl⟩ h) ?_
    rintro e a' w' ⟨hdf, x, T', s', ι', hq, hg, hd', ht, hxe⟩
    have ends : ∀ (ht : TV w' (Xof s'.H ι') ι' T' a'.tmps) (hq : match resD T' s'.H rvs with | some d => Q (.ret d) s' | none => False), a'.defers = [] ∧ ∃ v, (results fn a'.tmps).run P w' = .ok v w' ∧ ∃ s'' ι'', Good w w' s s'' ι ι'' ∧ ∃ d, Q (.ret d) s'' ∧ V w' (Xof s''.H ι'') ι'' d v := by
      intro ht hq
      cases hr : resD T' s'.H rvs with
      | none => rw [hr] at hq; exact hq.elim
      | some d =>
        rw [hr] at hq
        obtain ⟨v, h1, h2⟩ := res_ok ht hg.r hrv hr
        exact ⟨hdf, v, h1, s', ι', hg, d, hq, h2⟩
    cases x <;> cases e <;> first | exact hxe.elim | skip
    · exact ends ht hq
    · exact hq.elim
    · exact ends ht hq
    · obtain ⟨v, rfl, hvv⟩ := hxe
      exact ⟨hdf, s', ι', hg, _, v, rfl, hq, hvv⟩
  · -- sealed
    split at h
    · exact h.elim
    rename_i args' H1 hvw
    obtain ⟨hs1, hlen, hvs⟩ := (view_ok w ι fuelV).2 _ _ _ _ (fun i => vs.getD i undef) hvw hR hv.v
    have hT1 : TV w (Xof H1 ι) ι args' vs := ⟨by rw [hlen]; exact hv.size, fun i hi => hvs i (by rw [← hlen]; exact hi)⟩
    refine wp_mono (code_sim hfo c ic hic _ _ _ w { H := H1, nx := s.nx, ro := s.nx } ι ⟨pad_TV hT1 _, hs1.r hR, hd, rfl⟩ h) ?_
    rintro e a' w' ⟨hdf, x, T', s', ι', hq, hg, hd', ht, hxe⟩
    have ends : ∀ (ht : TV w' (Xof s'.H ι') ι' T' a'.tmps) (hq : match resD T' s'.H rvs with
        | some d => if rigid fuelV d then Q (.ret d) { H := s.H, nx := s'.nx, ro := s.ro } else match view fuelV d s'.H with
          | some (d, H2) => Q (.ret d) { H := cut s.nx H2, nx := s'.nx, ro := s.ro }
          | none => False
        | none => False), a'.defers = [] ∧ ∃ v, (results fn a'.tmps).run P w' = .ok v w' ∧ ∃ s'' ι'', Good w w' s s'' ι ι'' ∧ ∃ d, Q (.ret d) s'' ∧ V w' (Xof s''.H ι'') ι'' d v := by
      intro ht hq
      cases hr : resD T' s'.H rvs with
      | none => rw [hr] at hq; exact hq.elim
      | some d =>
        rw [hr] at hq
        dsimp only at hq
        obtain ⟨v, h1, h2⟩ := res_ok ht hg.r hrv hr
        split at hq
        · rename_i hri
          exact ⟨hdf, v, h1, _, ι', good_back hR hd hs1 hg, d, hq, rigid_V _ _ _ hri h2⟩
        · cases hvw2 : view fuelV d s'.H with
          | none => rw [hvw2] at hq; exact hq.elim
          | some p =>
            obtain ⟨d2, H2⟩ := p
            rw [hvw2] at hq
            obtain ⟨hs2, hv2⟩ := (view_ok w' ι' fuelV).1 _ _ _ _ _ hvw2 hg.r h2
            obtain ⟨g1, g2⟩ := good_cut hR hd hs1 hg hs2
            exact ⟨hdf, v, h1, _, ι', g1, d2, hq, g2 _ _ hv2⟩
    cases x <;> cases e <;> first | exact hxe.elim | skip
    · exact ends ht hq
    · exact hq.elim
    · exact ends ht hq
    · obtain ⟨v, rfl, hvv⟩ := hxe
      dsimp only at hq
      rename_i d
      cases hvw2 : view fuelV d s'.H with
      | none => rw [hvw2] at hq; exact hq.elim
      | some p =>
        obtain ⟨d2, H2⟩ := p
        rw [hvw2] at hq
        obtain ⟨hs2, hv2⟩ := (view_ok w' ι' fuelV).1 _ _ _ _ _ hvw2 hg.r hvv
        obtain ⟨g1, g2⟩ := good_cut hR hd hs1 hg hs2
        exact ⟨hdf, _, ι', g1, d2, v, rfl, hq, g2 _ _ hv2⟩

/-- What the least meaning says, the machine does. -/
theorem callL_sim (hfo : P.follows .mixedOrders = true) {ir : FuncId → Option IF} (hir : ∀ f ifn, ir f = some ifn → ∃ fn keep, P.funcs[f]? = some fn ∧ compF P keep fn = some ifn) : LeCl (callL ir) (simC P) :=
  callL_le (simC_mono P) fun f ifn args s Q hf h => by
    obtain ⟨fn, keep, h1, h2⟩ := hir f ifn hf
    exact body_sim hfo h1 h2 h
end
end Go.Ai
