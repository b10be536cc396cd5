/-
  A part of an interpreter over abstract data, proved sound once for the model: what it says of the code, the machine does in every order. Conditions: none beyond the statement.
-/
import Derived.Test.YtemeabkpllolmaaGreatDoorAi18
/-! Data that is sealed. -/
set_option linter.unusedVariables false
set_option linter.unusedSimpArgs false
namespace Go.Ai

structure Sealed (H H' : Heap) : Prop where
  fwd : ∀ n o, lk H n = some o → ∃ o', lk H' n = some o' ∧ o.like o'
  back : ∀ n o', lk H' n = some o' → ∃ o, lk H n = some o ∧ o.like o' ∧ ∀ base p, o'.free base p → o.free base p
theorem Sealed.refl (H : Heap) : Sealed H H := ⟨fun n o h => ⟨o, h, Obj.like_refl o⟩, fun n o h => ⟨o, h, Obj.like_refl o, fun _ _ h => h⟩⟩
theorem Sealed.trans {H H1 H2 : Heap} (h : Sealed H H1) (k : Sealed H1 H2) : Sealed H H2 := by
  refine ⟨fun n o hn => ?_, fun n o hn => ?_⟩
  · obtain ⟨o1, h1, l1⟩ := h.fwd n o hn
    obtain ⟨o2, h2, l2⟩ := k.fwd n o1 h1
    exact ⟨o2, h2, Obj.like_trans l1 l2⟩
  · obtain ⟨o1, h1, l1, f1⟩ := k.back n o hn
    obtain ⟨o2, h2, l2, f2⟩ := h.back n o1 h1
    exact ⟨o2, h2, Obj.like_trans l2 l1, fun base p hp => f2 _ _ (f1 _ _ hp)⟩
theorem Sealed.x {H H' : Heap} (h : Sealed H H') {ι : Imap} {b o : Nat} (hx : Xof H' ι b o) : Xof H ι b o := by
  obtain ⟨n, ob, base, h1, h2, h3⟩ := hx
  obtain ⟨ob', g1, _, g2⟩ := h.back n ob h1
  exact ⟨n, ob', base, g1, h2, g2 _ _ h3⟩
theorem Sealed.v {w : World} {H H' : Heap} (h : Sealed H H') {ι : Imap} {d : D} {v : Value} (hv : V w (Xof H ι) ι d v) : V w (Xof H' ι) ι d v :=
  hv.step (Chg.refl _ _) (fun _ _ _ hx => h.x hx) (fun _ _ h => h)
theorem ObjOk.like {w : World} {X : Nat → Nat → Prop} {ι : Imap} {b base : Nat} {o o' : Obj} (hl : o.like o') (h : ObjOk w X ι b base o) : ObjOk w X ι b base o' := by
  cases o <;> cases o' <;> simp only [Obj.like] at hl
  · obtain ⟨rfl, rfl⟩ := hl; exact h
  · subst hl; exact h
theorem Sealed.r {w : World} {H H' : Heap} (h : Sealed H H') {ι : Imap} (hR : R w H ι) : R w H' ι := by
  refine ⟨fun n o' hn => ?_, fun n m o o' b base base' h1 h2 h3 h4 => ?_, hR.low⟩
  · obtain ⟨o, h1, h2, _⟩ := h.back n o' hn
    obtain ⟨b, base, h3, h4⟩ := hR.obj n o h1
    exact ⟨b, base, h3, (h4.step rfl fun d v hv => h.v hv).like h2⟩
  · obtain ⟨o1, g1, _⟩ := h.back _ _ h1
    obtain ⟨o2, g2, _⟩ := h.back _ _ h2
    exact hR.inj _ _ _ _ _ _ _ g1 g2 h3 h4

theorem sealed_upd {H : Heap} {n : Nat} {o o' : Obj} (hl : lk H n = some o) (hk : o.like o') (hf : ∀ base p, o'.free base p → o.free base p) : Sealed H (upd H n o') := by
  refine ⟨fun m x hm => ?_, fun m x hm => ?_⟩
  · rw [lk_upd]
    by_cases h : m = n
    · subst h
      rw [hl] at hm
      simp only [Option.some.injEq] at hm
      subst hm
      exact ⟨o', by simp [hl], hk⟩
    · exact ⟨x, by rw [if_neg h]; exact hm, Obj.like_refl x⟩
  · rw [lk_upd] at hm
    by_cases h : m = n
    · subst h
      simp only [if_true, hl, Option.map_some, Option.some.injEq] at hm
      subst hm
      exact ⟨o, hl, hk, hf⟩
    · rw [if_neg h] at hm
      exact ⟨x, hm, Obj.like_refl x, fun _ _ h => h⟩

theorem chunks_len (sz : Nat) : ∀ (n : Nat) (l : List D), (chunks sz n l).length = n
  | 0, l => rfl
  | n + 1, l => by simp [chunks, chunks_len sz n]
theorem chunks_get (sz : Nat) : ∀ (n : Nat) (l : List D) (i : Nat), i < n → (chunks sz n l).getD i [] = (l.drop (i * sz)).take sz
  | n + 1, l, 0, _ => by simp [chunks]
  | n + 1, l, i + 1, h => by
    have := chunks_get sz n (l.drop sz) i (by omega)
    simp only [chunks, List.getD_cons_succ, this, List.drop_drop]
    congr 2
    rw [Nat.add_mul, Nat.one_mul, Nat.add_comm]

theorem not_free {w : World} {H : Heap} {ι : Imap} (hR : R w H ι) {n b base : Nat} {o : Obj} (hl : lk H n = some o) (hi : ι n = some (b, base)) {p : Nat} (hf : ¬ o.free base p) : ¬ Xof H ι b p := by
  rintro ⟨m, o', base', h1, h2, h3⟩
  have := hR.inj _ _ _ _ _ _ _ h1 hl h2 hi
  subst this
  rw [hl] at h1
  rw [hi] at h2
  simp only [Option.some.injEq, Prod.mk.injEq] at h1 h2
  obtain ⟨-, rfl⟩ := h2
  subst h1
  exact hf h3

def ViewOk (w : World) (ι : Imap) (k : Nat) : Prop :=
  (∀ d H d' H' v, view k d H = some (d', H') → R w H ι → V w (Xof H ι) ι d v → Sealed H H' ∧ V w (Xof H' ι) ι d' v) ∧
  (∀ ds H ds' H' (vs : Nat → Value), viewL k ds H = some (ds', H') → R w H ι → (∀ i, i < ds.length → V w (Xof H ι) ι (ds.getD i default) (vs i)) →
    Sealed H H' ∧ ds'.length = ds.length ∧ ∀ i, i < ds.length → V w (Xof H' ι) ι (ds'.getD i default) (vs i))

theorem view_sl {w : World} {ι : Imap} {H H2 : Heap} {n off len sz lo : Nat} {cs l : List D} {e : TypeId} {v : Value} (hR : R w H ι) (hv : V w (Xof H ι) ι (.sl n off len sz) v) (hl : lk H n = some (.cells cs e lo)) (hfit : off + len * sz ≤ cs.length)
    (ih : ∀ vs : Nat → Value, (∀ i, i < ((cs.drop off).take (len * sz)).length → V w (Xof (upd H n (.cells cs e (max lo (off + len * sz)))) ι) ι (((cs.drop off).take (len * sz)).getD i default) (vs i)) →
      Sealed (upd H n (.cells cs e (max lo (off + len * sz)))) H2 ∧ l.length = ((cs.drop off).take (len * sz)).length ∧ ∀ i, i < ((cs.drop off).take (len * sz)).length → V w (Xof H2 ι) ι (l.getD i default) (vs i)) :
    Sealed H H2 ∧ V w (Xof H2 ι) ι (.lst (chunks sz len l)) v := by
  have hs1 : Sealed H (upd H n (.cells cs e (max lo (off + len * sz)))) := sealed_upd hl (by simp [Obj.like]) (fun base p h => by simp only [Obj.free] at *; omega)
  have hlk1 : lk (upd H n (.cells cs e (max lo (off + len * sz)))) n = some (.cells cs e (max lo (off + len * sz))) := by simp [lk_upd, hl]
  have hR1 := hs1.r hR
  have hlen : ((cs.drop off).take (len * sz)).length = len * sz := by
    rw [List.length_take, List.length_drop]; omega
  have hget : ∀ i, i < len * sz → ((cs.drop off).take (len * sz)).getD i default = cs.getD (off + i) default := by
    intro i hi
    simp [List.getD_eq_getElem?_getD, List.getElem?_take, hi]
  cases hv with
  | sl _ b base _ _ _ cap ad arr e' fr hi hlc hb hsz had =>
    obtain ⟨b', base', g1, arr', g2, g3, g4⟩ := hR.obj n _ hl
    rw [hi] at g1
    simp only [Option.some.injEq, Prod.mk.injEq] at g1
    obtain ⟨rfl, rfl⟩ := g1
    obtain ⟨s2, i1, i2⟩ := ih (fun i => arr'.getD (base + off + i) undef) (fun i hi' => by
      rw [hlen] at hi'
      rw [hget i hi', Nat.add_assoc]
      exact hs1.v (g4 (off + i) (by omega)))
    rw [hlen] at i1 i2
    have hR2 := s2.r hR1
    refine ⟨hs1.trans s2, ?_⟩
    rcases had with had | had
    · subst had
      have hij : ∀ i j, i < len → j < sz → i * sz + j < len * sz := by
        intro i j hi hj
        have : (i + 1) * sz ≤ len * sz := Nat.mul_le_mul_right _ hi
        rw [Nat.add_mul, Nat.one_mul] at this
        omega
      have hch : ∀ i j, i < len → j < sz → ((chunks sz len l).getD i []).getD j default = l.getD (i * sz + j) default := by
        intro i j hi hj
        rw [chunks_get _ _ _ _ hi]
        simp [List.getD_eq_getElem?_getD, List.getElem?_take, hj]
      refine .lst _ _ ⟨b, base + off, none⟩ len cap sz (fun i j => arr'.getD (base + off + (i * sz + j)) undef) (chunks_len _ _ _).symm hlc (.inl rfl) rfl ?_ ?_ ?_ ?_
      · intro i hi'
        rw [chunks_len] at hi'
        rw [chunks_get _ _ _ _ hi', List.length_take, List.length_drop, i1]
        have : (i + 1) * sz ≤ len * sz := Nat.mul_le_mul_right _ hi'
        rw [Nat.add_mul, Nat.one_mul] at this
        omega
      · intro i j hi' hj
        rw [chunks_len] at hi'
        have := hij i j hi' hj
        have hlt : base + off + (i * sz + j) < arr'.size := by omega
        simp only [World.cell?, g2, Nat.add_assoc]
        rw [Nat.add_assoc] at hlt
        simp [Array.getD_eq_getD_getElem?, hlt]
      · intro i j hi' hj
        rw [chunks_len] at hi'
        have := hij i j hi' hj
        obtain ⟨o', k1, k2⟩ := s2.fwd n _ hlk1
        refine not_free hR2 k1 hi fun hf => ?_
        obtain ⟨o1, k3, _, k4⟩ := s2.back n _ k1
        rw [hlk1] at k3
        simp only [Option.some.injEq] at k3
        subst k3
        have := k4 _ _ hf
        simp only [Obj.free] at this
        omega
      · intro i j hi' hj
        rw [chunks_len] at hi'
        rw [hch i j hi' hj]
        exact i2 _ (hij i j hi' hj)
    · subst had
      have h0 : len = 0 := by omega
      subst h0
      exact .lst [] (some ad) ⟨b, 0, none⟩ 0 0 0 (fun _ _ => undef) rfl (Nat.le_refl _) (.inr rfl) rfl (fun i hi => absurd hi (Nat.not_lt_zero _)) (fun i j hi => absurd hi (Nat.not_lt_zero _)) (fun i j hi => absurd hi (Nat.not_lt_zero _)) (fun i j hi => absurd hi (Nat.not_lt_zero _))

theorem view_map {w : World} {ι : Imap} {H H2 : Heap} {n : Nat} {es : List (Value × D)} {sd : Bool} {l : List D} {v : Value} (hR : R w H ι) (hv : V w (Xof H ι) ι (.map n) v) (hl : lk H n = some (.map es sd))
    (ih : ∀ vs : Nat → Value, (∀ i, i < (es.map (·.2)).length → V w (Xof (upd H n (.map es true)) ι) ι ((es.map (·.2)).getD i default) (vs i)) →
      Sealed (upd H n (.map es true)) H2 ∧ l.length = (es.map (·.2)).length ∧ ∀ i, i < (es.map (·.2)).length → V w (Xof H2 ι) ι (l.getD i default) (vs i)) :
    Sealed H H2 ∧ V w (Xof H2 ι) ι (.imap (es.zipWith (fun e d => (e.1, d)) l)) v := by
  have hs1 : Sealed H (upd H n (.map es true)) := sealed_upd hl (by simp [Obj.like]) (fun base p h => by simp [Obj.free] at h)
  have hlk1 : lk (upd H n (.map es true)) n = some (.map es true) := by simp [lk_upd, hl]
  have hR1 := hs1.r hR
  cases hv with
  | map _ b base hi =>
    obtain ⟨b', base', g1, ents, clock, g2, g3, g4, g5⟩ := hR.obj n _ hl
    rw [hi] at g1
    simp only [Option.some.injEq, Prod.mk.injEq] at g1
    obtain ⟨rfl, rfl⟩ := g1
    obtain ⟨s2, i1, i2⟩ := ih (fun i => (ents.getD i default).val) (fun i hi' => by
      rw [List.length_map] at hi'
      have e1 : (es.map (·.2)).getD i default = (es.getD i default).2 := by simp [List.getD_eq_getElem?_getD, hi']
      rw [e1]
      exact hs1.v (g5 i hi'))
    rw [List.length_map] at i1 i2
    have hR2 := s2.r hR1
    have hzl : (es.zipWith (fun e d => (e.1, d)) l).length = es.length := by rw [List.length_zipWith, i1]; omega
    have hz : ∀ i, i < es.length → (es.zipWith (fun e d => (e.1, d)) l).getD i default = ((es.getD i default).1, l.getD i default) := by
      intro i hi'
      have : i < l.length := by omega
      simp [List.getD_eq_getElem?_getD, List.getElem?_zipWith, hi', this]
    refine ⟨hs1.trans s2, .imap _ b ents clock g2 ?_ (by rw [hzl]; exact g3) ?_ ?_⟩
    · obtain ⟨o', k1, k2⟩ := s2.fwd n _ hlk1
      intro hx
      have hx' : ¬ Xof H2 ι b 0 := by
        rintro ⟨m, o3, base3, h1, h2, h3⟩
        have := hR2.inj _ _ _ _ _ _ _ h1 k1 h2 hi
        subst this
        obtain ⟨o1, k3, _, k4⟩ := s2.back _ _ h1
        rw [hlk1] at k3
        simp only [Option.some.injEq] at k3
        subst k3
        have := k4 _ _ h3
        simp [Obj.free] at this
      exact hx' hx
    · intro i hi'
      rw [hzl] at hi'
      rw [hz i hi']
      exact g4 i hi'
    · intro i hi'
      rw [hzl] at hi'
      rw [hz i hi']
      exact i2 i hi'

theorem view_ok (w : World) (ι : Imap) : ∀ k, ViewOk w ι k := by
  intro k
  induction k with
  | zero =>
    refine ⟨fun d H d' H' v h => by simp [view] at h, fun ds H ds' H' vs h hR hv => ?_⟩
    cases ds with
    | nil =>
      simp only [viewL, Option.some.injEq, Prod.mk.injEq] at h
      obtain ⟨rfl, rfl⟩ := h
      exact ⟨Sealed.refl _, rfl, fun i hi => absurd hi (Nat.not_lt_zero _)⟩
    | cons d ds => simp [viewL] at h
  | succ k ih =>
    obtain ⟨ih1, ih2⟩ := ih
    have nilLst : ∀ (H : Heap) (A : Option Addr), V w (Xof H ι) ι (.lst []) (.slice A 0 0) := fun H A =>
      .lst [] A ⟨0, 0, none⟩ 0 0 0 (fun _ _ => undef) rfl (Nat.le_refl _) (.inr rfl) rfl (fun i hi => absurd hi (Nat.not_lt_zero _)) (fun i j hi => absurd hi (Nat.not_lt_zero _)) (fun i j hi => absurd hi (Nat.not_lt_zero _)) (fun i j hi => absurd hi (Nat.not_lt_zero _))
    refine ⟨fun d H d' H' v h hR hv => ?_, fun ds H ds' H' vs h hR hv => ?_⟩
    · unfold view at h
      split at h
      · simp only [Option.some.injEq, Prod.mk.injEq] at h
        obtain ⟨rfl, rfl⟩ := h
        cases hv
        exact ⟨Sealed.refl _, nilLst _ _⟩
      · simp only [Option.some.injEq, Prod.mk.injEq] at h
        obtain ⟨rfl, rfl⟩ := h
        cases hv
        exact ⟨Sealed.refl _, nilLst _ _⟩
      · split at h
        case h_2 => cases h
        rename_i cs l H2 hl
        simp only [Option.some.injEq, Prod.mk.injEq] at h
        obtain ⟨rfl, rfl⟩ := h
        cases hv with
        | agg _ vs hs hv =>
          obtain ⟨g1, g2, g3⟩ := ih2 _ _ _ _ (fun i => vs.getD i undef) hl hR hv
          exact ⟨g1, .agg _ _ (hs.trans g2.symm) (by rw [g2]; exact g3)⟩
      · split at h
        case h_2 => cases h
        rename_i cs l H2 hl
        simp only [Option.some.injEq, Prod.mk.injEq] at h
        obtain ⟨rfl, rfl⟩ := h
        cases hv with
        | tup _ vs hs hv =>
          obtain ⟨g1, g2, g3⟩ := ih2 _ _ _ _ (fun i => vs.getD i undef) hl hR hv
          exact ⟨g1, .tup _ _ (hs.trans g2.symm) (by rw [g2]; exact g3)⟩
      · split at h
        case h_2 => cases h
        rename_i t d l H2 hl
        simp only [Option.some.injEq, Prod.mk.injEq] at h
        obtain ⟨rfl, rfl⟩ := h
        cases hv with
        | iface _ _ v hv =>
          obtain ⟨g1, g2⟩ := ih1 _ _ _ _ _ hl hR hv
          exact ⟨g1, .iface _ _ _ g2⟩
      · split at h
        case h_2 => cases h
        rename_i n off len sz _ cs e lo hlk
        split at h
        case isFalse => cases h
        rename_i hfit
        split at h
        case h_2 => cases h
        rename_i l H2 hl
        simp only [Option.some.injEq, Prod.mk.injEq] at h
        obtain ⟨rfl, rfl⟩ := h
        have hs1 : Sealed H (upd H n (.cells cs e (max lo (off + len * sz)))) := sealed_upd hlk (by simp [Obj.like]) (fun base p h => by simp only [Obj.free] at *; omega)
        exact view_sl hR hv hlk hfit fun vs hvs => ih2 _ _ _ _ vs hl (hs1.r hR) hvs
      · split at h
        case h_2 => cases h
        rename_i n _ es sd hlk
        split at h
        case h_2 => cases h
        rename_i l H2 hl
        simp only [Option.some.injEq, Prod.mk.injEq] at h
        obtain ⟨rfl, rfl⟩ := h
        have hs1 : Sealed H (upd H n (.map es true)) := sealed_upd hlk (by simp [Obj.like]) (fun base p h => by simp [Obj.free] at h)
        exact view_map hR hv hlk fun vs hvs => ih2 _ _ _ _ vs hl (hs1.r hR) hvs
      · simp only [Option.some.injEq, Prod.mk.injEq] at h
        obtain ⟨rfl, rfl⟩ := h
        exact ⟨Sealed.refl _, hv⟩
    · cases ds with
      | nil =>
        simp only [viewL, Option.some.injEq, Prod.mk.injEq] at h
        obtain ⟨rfl, rfl⟩ := h
        exact ⟨Sealed.refl _, rfl, fun i hi => absurd hi (Nat.not_lt_zero _)⟩
      | cons d ds =>
        unfold viewL at h
        split at h
        case h_2 => cases h
        rename_i d1 H1 hd
        split at h
        case h_2 => cases h
        rename_i l H2 hl
        simp only [Option.some.injEq, Prod.mk.injEq] at h
        obtain ⟨rfl, rfl⟩ := h
        obtain ⟨s1, v1⟩ := ih1 _ _ _ _ (vs 0) hd hR (hv 0 (Nat.succ_pos _))
        obtain ⟨s2, l2, v2⟩ := ih2 _ _ _ _ (fun i => vs (i + 1)) hl (s1.r hR) (fun i hi => by
          have := hv (i + 1) (by simpa using hi)
          exact s1.v (by simpa [List.getD_eq_getElem?_getD] using this))
        refine ⟨s1.trans s2, by simp [l2], fun i hi => ?_⟩
        cases i with
        | zero => exact s2.v (by simpa [List.getD_eq_getElem?_getD] using v1)
        | succ i =>
          have := v2 i (by simpa using hi)
          simpa [List.getD_eq_getElem?_getD] using this
end Go.Ai
