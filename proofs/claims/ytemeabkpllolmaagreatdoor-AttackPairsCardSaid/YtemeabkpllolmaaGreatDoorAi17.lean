/-
  A part of an interpreter over abstract data, proved sound once for the model: what it says of the code, the machine does in every order. Conditions: none beyond the statement.
-/
import Derived.Test.YtemeabkpllolmaaGreatDoorAi16
import Derived.Test.YtemeabkpllolmaaGreatDoorAi22
/-! Drawn regions. -/
set_option linter.unusedVariables false
set_option linter.unusedSimpArgs false
namespace Go.Ai
section
variable {P : Program} {ops : Array Oper} {ios : List IOp}

/-- The region's operations and their compiled forms. -/
structure Match (P : Program) (ops : Array Oper) (ios : List IOp) : Prop where
  len : ios.length = ops.size
  get : ∀ (j : Nat) (o : Oper), ops[j]? = some o → ∃ io, ios[j]? = some io ∧ compOp P ops o = some io

theorem match_of {P : Program} {ops : Array Oper} {ios : List IOp} (h : compOps P ops = some ios) : Match P ops ios := by
  obtain ⟨h1, h2⟩ := compOpL_ok _ _ h
  exact ⟨by simpa using h1, fun j o hj => h2 j o (by simpa using hj)⟩

theorem ready_eq (hm : Match P ops ios) (l : List Bool) : Region.ready .any ops l.toArray = readyD ios l := by
  unfold Region.ready readyD
  rw [hm.len]
  refine List.filter_congr fun i hi => ?_
  rw [List.mem_range] at hi
  have e0 : ∀ (k : Nat) (d : Bool), l.toArray.getD k d = l.getD k d := by
    intro k d
    simp [Array.getD_eq_getD_getElem?, List.getD_eq_getElem?_getD]
  obtain ⟨io, h1, h2⟩ := hm.get i ops[i] (by simp [hi])
  obtain ⟨-, -, h3⟩ := compOp_ok h2
  have e1 : ops[i]? = some ops[i] := by simp [hi]
  rw [e1, h1, e0]
  simp only [Option.map_some, Option.getD_some]
  congr 1
  rw [h3, List.all_map, List.all_filter, ← Array.all_toList]
  simp only [Function.comp_def, e0]

/-- Inside a region: from its begin to now. -/
structure DI (ops : Array Oper) (w0 : World) (s0 : St) (ι0 : Imap) (l : List Bool) (w : World) (s : St) (ι : Imap) : Prop where
  good : Good w0 w s0 s ι0 ι
  dom : Dom ι s.nx
  room : s0.nx + ops.size ≤ s.nx
  free : ∀ j, l.getD j true = false → ι (s0.nx + j) = none

theorem getD_set_self (l : List Bool) (i j : Nat) (h : (l.set i true).getD j true = false) : l.getD j true = false ∧ j ≠ i := by
  by_cases hij : j = i
  · subst hij
    rcases Nat.lt_or_ge j l.length with hl | hl
    · simp [List.getD_eq_getElem?_getD, hl] at h
    · simp [List.getD_eq_getElem?_getD, List.getElem?_eq_none, hl] at h
  · refine ⟨?_, hij⟩
    simpa [List.getD_eq_getElem?_getD, List.getElem?_set, Ne.symm hij] using h

theorem DI.call {w0 w w' : World} {s0 s s' : St} {ι0 ι ι' : Imap} {l : List Bool} (h : DI ops w0 s0 ι0 l w s ι) (hg : Good w w' s s' ι ι') (i : Nat) (hl : l.length = ops.size) : DI ops w0 s0 ι0 (l.set i true) w' s' ι' := by
  have hr := h.room
  refine ⟨h.good.trans hg, hg.domN h.dom, Nat.le_trans hr hg.nx, fun j hj => ?_⟩
  obtain ⟨h1, h2⟩ := getD_set_self _ _ _ hj
  have hjl : j < ops.size := by
    rcases Nat.lt_or_ge j l.length with h3 | h3
    · omega
    · simp [List.getD_eq_getElem?_getD, List.getElem?_eq_none, h3] at h1
  cases e : ι' (s0.nx + j) with
  | none => rfl
  | some b =>
    rcases hg.dom _ _ e with g | g
    · rw [h.free j h1] at g; cases g
    · omega

theorem DI.skip {w0 w : World} {s0 s : St} {ι0 ι : Imap} {l : List Bool} (h : DI ops w0 s0 ι0 l w s ι) (i : Nat) : DI ops w0 s0 ι0 (l.set i true) w s ι :=
  ⟨h.good, h.dom, h.room, fun j hj => h.free j (getD_set_self _ _ _ hj).1⟩

theorem DI.exec {w0 w w' : World} {s0 s s' : St} {ι0 ι ι' : Imap} {l : List Bool} (h : DI ops w0 s0 ι0 l w s ι) {i : Nat} (hi : i < ops.size) (hg : Good w w' { s with nx := s0.nx + i } s' ι ι') (hnx : s'.nx ≤ s0.nx + i + 1) :
    DI ops w0 s0 ι0 (l.set i true) w' { s' with H := norm s'.H, nx := s.nx } ι' := by
  have hr := h.room
  have hgd := h.good
  have e1 : Xof (norm s'.H) ι' = Xof s'.H ι' := Xof_congr (lk_norm _) _
  refine ⟨⟨R_congr (lk_norm _) hg.r, hgd.chg.trans' hg.chg hgd.x, fun n b hn => hg.ext n b (hgd.ext n b hn), fun n b hn => ?_, fun b o hb hx => ?_, Nat.le_trans (Nat.le_add_right _ _) hr, hg.ro.trans hgd.ro, fun n o hn ho => ?_⟩, fun n b hn => ?_, hr, fun j hj => ?_⟩
  · rcases hg.dom n b hn with h1 | h1
    · rcases hgd.dom n b h1 with h2 | h2
      · exact .inl h2
      · exact .inr h2
    · dsimp only at h1
      exact .inr ⟨by omega, by dsimp only; omega⟩
  · rw [e1] at hx
    exact hgd.x b o hb (hg.x b o (Nat.lt_of_lt_of_le hb hgd.chg.size) hx)
  · obtain ⟨⟨o1, h1, l1⟩, s1⟩ := hgd.old n o hn ho
    obtain ⟨⟨o2, h2, l2⟩, s2⟩ := hg.old n o1 (by dsimp only; rw [hgd.ro]; exact hn) h1
    exact ⟨⟨o2, by dsimp only; rw [lk_norm]; exact h2, Obj.like_trans l1 l2⟩, fun b base hb => (s2 b base (hgd.ext _ _ hb)).trans (s1 b base hb)⟩
  · rcases hg.dom n b hn with h1 | h1
    · exact h.dom n b h1
    · dsimp only at h1 ⊢
      omega
  · obtain ⟨h1, h2⟩ := getD_set_self _ _ _ hj
    cases e : ι' (s0.nx + j) with
    | none => rfl
    | some b =>
      rcases hg.dom _ _ e with g | g
      · rw [h.free j h1] at g; cases g
      · dsimp only at g
        omega

theorem draw_sim (hm : Match P ops ios) {Q : Ex × List D → St → Prop} {w0 : World} {s0 : St} {ι0 : Imap} : ∀ (fuel : Nat) (l : List Bool) (T : List D) (a : Act) (w : World) (s : St) (ι : Imap), l.length = ops.size →
    DI ops w0 s0 ι0 l w s ι → TV w (Xof s.H ι) ι T a.tmps → a.defers = [] → drawM (simC P) s0.nx ios fuel l T s Q → wpAny P .any ops (PostC Q w0 s0 ι0) fuel l.toArray a w
  | 0, l, T, a, w, s, ι, hl, hdi, hT, hdf, h => ⟨by rw [ready_eq hm]; exact h.1, hdf, .nrm, T, s, ι, h.2, hdi.good, hdi.dom, hT, trivial⟩
  | fuel + 1, l, T, a, w, s, ι, hl, hdi, hT, hdf, h => by
    refine ⟨fun hr => ⟨hdf, .nrm, T, s, ι, h.1 (by rw [← ready_eq hm]; exact hr), hdi.good, hdi.dom, hT, trivial⟩, fun i hi => ?_⟩
    rw [ready_eq hm] at hi
    have h2 := h.2 i hi
    have hlt : i < ops.size := by
      have := List.mem_filter.1 hi
      have h3 := List.mem_range.1 this.1
      rw [hm.len] at h3
      exact h3
    have hun : l.getD i true = false := by
      have := (List.mem_filter.1 hi).2
      simp only [Bool.and_eq_true, Bool.not_eq_true'] at this
      exact this.1
    have eo : ops[i]? = some ops[i] := by simp [hlt]
    obtain ⟨io, h3, h4⟩ := hm.get i _ eo
    obtain ⟨c1, c2, c3⟩ := compOp_ok h4
    rw [h3] at h2
    dsimp only at h2
    have hset : l.toArray.setIfInBounds i true = (l.set i true).toArray := by simp
    have ih := fun (T : List D) (a : Act) (w : World) (s : St) (ι : Imap) => draw_sim hm (Q := Q) (w0 := w0) (s0 := s0) (ι0 := ι0) fuel (l.set i true) T a w s ι (by rw [List.length_set]; exact hl)
    unfold wpOp
    rw [eo]
    dsimp only
    rw [wants_ok hT h4, hset]
    unfold stepD at h2
    split
    · rename_i hw
      rw [if_pos hw] at h2
      refine .inl ?_
      unfold opD at h2
      split at h2
      · refine op_sim hT hdi.good.r hdi.dom ?_ c2 h2
        refine ⟨fun d v w' s' ι' hq hg hv => ?_, fun d v w' s' ι' hq hg hv => ?_⟩
        · exact ih _ _ _ s' ι' (hdi.call hg i hl) (by rw [c1]; exact (hg.tv hT).put hv _) (by rw [put_defers]; exact hdf) hq
        · exact ⟨hdf, .pan d, [], s', ι', hq, hdi.good.trans hg, hg.domN hdi.dom, trivial, v, rfl, hv⟩
      · split at h2
        case h_2 => exact h2.elim
        rename_i d s' he
        obtain ⟨v, w', ι', hr, hg, hv⟩ := exec_ok (s := { s with nx := s0.nx + i }) hT hdi.good.r (hdi.free i hun) c2 he
        have hnx := exec_nx he
        have hdi' := hdi.exec hlt hg hnx
        have key : wpAny P .any ops (PostC Q w0 s0 ι0) fuel (l.set i true).toArray (a.put ops[i].dst v) w' := by
          refine ih _ _ _ _ ι' hdi' ?_ (by rw [put_defers]; exact hdf) h2
          dsimp only
          rw [Xof_congr (lk_norm _), c1]
          exact (hg.tv hT).put hv _
        unfold Oper.wp
        rcases hr with hr | ⟨hr, rfl⟩
        · rw [hr]; exact key
        · rw [hr]; exact key
    · rename_i hw
      rw [if_neg hw] at h2
      exact ih _ _ _ s ι (hdi.skip i) (by rw [c1]; exact hT.put (.raw _) _) (by rw [put_defers]; exact hdf) h2

/-- The whole region. -/
theorem region_draw_sim (hfo : P.follows .mixedOrders = true) (hm : Match P ops ios) {Q : Ex × List D → St → Prop} {w : World} {s : St} {ι : Imap} {T : List D} {a : Act} {id : Nat} (hs : Sim w s ι T a)
    (h : drawM (simC P) s.nx ios ios.length (List.replicate ios.length false) T { s with nx := s.nx + ios.length } Q) : (Code.region id ops true).wp P (PostC Q w s ι) a w := by
  refine wp_region_any hfo ?_
  rw [hm.len] at h
  have e : (Array.replicate ops.size false) = (List.replicate ops.size false).toArray := by simp
  rw [e]
  have hc : ∀ X, Chg X w { w with drawn := w.drawn + 1 } := fun X => ⟨rfl, rfl, rfl, Nat.le_refl _, fun b arr e fr h => ⟨arr, fr, h, rfl, fun _ _ => rfl, fun _ => rfl⟩, fun b ob h _ _ => h⟩
  have hV : ∀ d v, V w (Xof s.H ι) ι d v → V { w with drawn := w.drawn + 1 } (Xof s.H ι) ι d v := fun d v h => h.step (hc _) (fun _ _ _ h => h) (fun _ _ h => h)
  refine draw_sim hm ops.size _ T a _ { s with nx := s.nx + ops.size } ι (by simp) ⟨⟨?_, hc _, fun _ _ h => h, fun _ _ h => .inl h, fun _ _ _ h => h, Nat.le_add_right _ _, rfl, fun n o _ h => ⟨⟨o, h, Obj.like_refl o⟩, fun _ _ _ => rfl⟩⟩, ?_, Nat.le_refl _, ?_⟩ ⟨hs.tv.size, fun i hi => hV _ _ (hs.tv.v i hi)⟩ hs.df h
  · exact ⟨fun n o h => by
      obtain ⟨b, base, h1, h2⟩ := hs.r.obj n o h
      exact ⟨b, base, h1, h2.step rfl hV⟩, hs.r.inj, hs.r.low⟩
  · intro m b hm
    have := hs.dom m b hm
    dsimp only
    omega
  · intro j hj
    cases e : ι (s.nx + j) with
    | none => rfl
    | some b => have := hs.dom _ _ e; omega

theorem drawQ_sim (hm : Match P ops ios) {Q : Ex × List D → St → Prop} {w0 : World} {s0 : St} {ι0 : Imap} : ∀ (fuel : Nat) (l : List Bool) (T : List D) (a : Act) (w : World) (s : St) (ι : Imap), l.length = ops.size →
    Good w0 w s0 s ι0 ι → Sim w s ι T a → drawQ (simC P) ios fuel l T s Q → wpAny P .any ops (PostC Q w0 s0 ι0) fuel l.toArray a w
  | 0, l, T, a, w, s, ι, hl, hg, hs, h => ⟨by rw [ready_eq hm]; exact h.1, hs.df, .nrm, T, s, ι, h.2, hg, hs.dom, hs.tv, trivial⟩
  | fuel + 1, l, T, a, w, s, ι, hl, hg0, hs, h => by
    refine ⟨fun hr => ⟨hs.df, .nrm, T, s, ι, h.1 (by rw [← ready_eq hm]; exact hr), hg0, hs.dom, hs.tv, trivial⟩, fun i hi => ?_⟩
    rw [ready_eq hm] at hi
    have h2 := h.2 i hi
    have hlt : i < ops.size := by
      have := (mem_readyD.1 hi).1
      rwa [hm.len] at this
    have eo : ops[i]? = some ops[i] := by simp [hlt]
    obtain ⟨io, h3, h4⟩ := hm.get i _ eo
    obtain ⟨c1, c2, c3⟩ := compOp_ok h4
    have eat : atO ios i = io := by simp [atO, List.getD_eq_getElem?_getD, h3]
    rw [eat] at h2
    have hset : l.toArray.setIfInBounds i true = (l.set i true).toArray := by simp
    have ih := fun (T : List D) (a : Act) (w : World) (s : St) (ι : Imap) => drawQ_sim hm (Q := Q) (w0 := w0) (s0 := s0) (ι0 := ι0) fuel (l.set i true) T a w s ι (by rw [List.length_set]; exact hl)
    unfold wpOp
    rw [eo]
    dsimp only
    rw [wants_ok hs.tv h4, hset]
    unfold stepO at h2
    split
    · rename_i hw
      rw [if_pos hw] at h2
      refine .inl (op_sim hs.tv hs.r hs.dom ?_ c2 h2)
      refine ⟨fun d v w' s' ι' hq hg hv => ?_, fun d v w' s' ι' hq hg hv => ?_⟩
      · exact ih _ _ _ s' ι' (hg0.trans hg) ⟨by rw [c1]; exact (hg.tv hs.tv).put hv _, hg.r, hg.domN hs.dom, by rw [put_defers]; exact hs.df⟩ hq
      · exact ⟨hs.df, .pan d, [], s', ι', hq, hg0.trans hg, hg.domN hs.dom, trivial, v, rfl, hv⟩
    · rename_i hw
      rw [if_neg hw] at h2
      exact ih _ _ _ s ι hg0 ⟨by rw [c1]; exact hs.tv.put (.raw _) _, hs.r, hs.dom, by rw [put_defers]; exact hs.df⟩ h2

theorem region_quiet_sim (hfo : P.follows .mixedOrders = true) (hm : Match P ops ios) {l : List IOp} (hq : quietOrder ios = some l) {Q : Ex × List D → St → Prop} {w : World} {s : St} {ι : Imap} {T : List D} {a : Act} {id : Nat} (hs : Sim w s ι T a)
    (h : opsM (simC P) l T s Q) : (Code.region id ops true).wp P (PostC Q w s ι) a w := by
  refine wp_region_any hfo ?_
  have h' := quiet_draw (simC_mono P) hq h
  rw [hm.len] at h'
  have e : (Array.replicate ops.size false) = (List.replicate ops.size false).toArray := by simp
  rw [e]
  have hc : ∀ X, Chg X w { w with drawn := w.drawn + 1 } := fun X => ⟨rfl, rfl, rfl, Nat.le_refl _, fun b arr e fr h => ⟨arr, fr, h, rfl, fun _ _ => rfl, fun _ => rfl⟩, fun b ob h _ _ => h⟩
  have hV : ∀ d v, V w (Xof s.H ι) ι d v → V { w with drawn := w.drawn + 1 } (Xof s.H ι) ι d v := fun d v h => h.step (hc _) (fun _ _ _ h => h) (fun _ _ h => h)
  have hr' : R { w with drawn := w.drawn + 1 } s.H ι := ⟨fun n o h => by
      obtain ⟨b, base, h1, h2⟩ := hs.r.obj n o h
      exact ⟨b, base, h1, h2.step rfl hV⟩, hs.r.inj, hs.r.low⟩
  exact drawQ_sim hm ops.size _ T a _ s ι (by simp) ⟨hr', hc _, fun _ _ h => h, fun _ _ h => .inl h, fun _ _ _ h => h, Nat.le_refl _, rfl, fun n o _ h => ⟨⟨o, h, Obj.like_refl o⟩, fun _ _ _ => rfl⟩⟩ ⟨⟨hs.tv.size, fun i hi => hV _ _ (hs.tv.v i hi)⟩, hr', hs.dom, hs.df⟩ h'
end
end Go.Ai
