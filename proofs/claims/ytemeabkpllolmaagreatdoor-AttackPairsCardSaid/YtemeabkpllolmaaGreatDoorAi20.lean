/-
  A part of an interpreter over abstract data, proved sound once for the model: what it says of the code, the machine does in every order. Conditions: none beyond the statement.
-/
import Derived.Test.YtemeabkpllolmaaGreatDoorAi19
/-! Functions: what the least meaning of calls says is what the machine does. -/
set_option linter.unusedVariables false
set_option linter.unusedSimpArgs false
namespace Go.Ai
section
variable {P : Program}

def resF (tmps : Array Value) : ResultVar → Sem Value
  | .tmp t => pure (tmps.getD t undef)
  | .cell a t => do loadVar t (← asAddr (tmps.getD a undef))

theorem res_one {w : World} {s : St} {ι : Imap} {T : List D} {tmps : Array Value} (hT : TV w (Xof s.H ι) ι T tmps) (hR : R w s.H ι) {r : ResultVar} {rs : List ResultVar} {rv : RV} {rvs : List RV} (hc : compRes P (r :: rs) = some (rv :: rvs)) {d : D} (h : resOne T s.H rv = some d) :
    compRes P rs = some rvs ∧ ∃ v, (resF tmps r).run P w = .ok v w ∧ V w (Xof s.H ι) ι d v := by
  have look : ∀ t, V w (Xof s.H ι) ι (T.getD t default) (tmps.getD t undef) := by
    intro t
    have hs := hT.size
    rcases Nat.lt_or_ge t T.length with hl | hl
    · exact hT.v t hl
    · have e1 : T.getD t default = default := by simp [List.getD_eq_getElem?_getD, List.getElem?_eq_none hl]
      have e2 : tmps.getD t undef = undef := by
        rw [Array.getD_eq_getD_getElem?, Array.getElem?_eq_none (by rw [hs]; exact hl)]
        rfl
      rw [e1, e2]; exact .raw _
  cases r with
  | tmp t =>
    simp only [compRes, Option.map_eq_some_iff] at hc
    obtain ⟨l, h1, h2⟩ := hc
    simp only [List.cons.injEq] at h2
    obtain ⟨rfl, rfl⟩ := h2
    simp only [resOne, Option.some.injEq] at h
    subst h
    exact ⟨h1, _, rfl, look t⟩
  | cell t ty =>
    simp only [compRes] at hc
    split at hc
    case h_2 => cases hc
    rename_i ag sz l ha hs hl
    split at hc
    case isFalse => cases hc
    simp only [Option.some.injEq, List.cons.injEq] at hc
    obtain ⟨rfl, rfl⟩ := hc
    refine ⟨hl, ?_⟩
    have vx := look t
    simp only [resOne] at h
    split at h
    · rename_i n k he
      rw [he] at vx
      split at h
      · rename_i cs e lo hlk
        generalize hq : tmps.getD t undef = q at vx
        cases vx with
        | ref _ b base _ hi =>
          obtain ⟨arr, h1, h2, h3⟩ := reads_obj hR hi hlk
          obtain ⟨v, hr, hv⟩ := run_loadVar_reads (P := P) (h3.drop k) ha hs h
          exact ⟨v, by simp [resF, hq, asAddr, hr], hv⟩
      · cases h
    · rename_i cs he
      rw [he] at vx
      obtain ⟨ad, u, e1, e2, e3, _⟩ := reads_iptr vx
      obtain ⟨v, hr, hv⟩ := run_loadVar_reads (P := P) e3 ha hs h
      rw [← addr_eta e2] at hr
      exact ⟨v, by simp [resF, e1, asAddr, hr], hv⟩
    · cases h

theorem res_list {w : World} {s : St} {ι : Imap} {T : List D} {tmps : Array Value} (hT : TV w (Xof s.H ι) ι T tmps) (hR : R w s.H ι) : ∀ (rs : List ResultVar) (rvs : List RV) (ds : List D), compRes P rs = some rvs → resL T s.H rvs = some ds →
    ∃ vs : List Value, (rs.mapM (resF tmps)).run P w = .ok vs w ∧ vs.length = ds.length ∧ ∀ i, i < ds.length → V w (Xof s.H ι) ι (ds.getD i default) (vs.getD i undef)
  | [], rvs, ds, hc, h => by
    simp only [compRes, Option.some.injEq] at hc
    subst hc
    simp only [resL, Option.some.injEq] at h
    subst h
    exact ⟨[], rfl, rfl, fun i hi => absurd hi (Nat.not_lt_zero _)⟩
  | r :: rs, rvs, ds, hc, h => by
    cases rvs with
    | nil =>
      cases r <;> simp only [compRes] at hc
      · simp at hc
      · split at hc
        · split at hc <;> simp at hc
        · cases hc
    | cons rv rvs =>
      simp only [resL] at h
      split at h
      case h_2 => cases h
      rename_i d ds' h1 h2
      simp only [Option.some.injEq] at h
      subst h
      obtain ⟨hc', v, hr, hv⟩ := res_one hT hR hc h1
      obtain ⟨vs, g1, g2, g3⟩ := res_list hT hR rs rvs ds' hc' h2
      refine ⟨v :: vs, by simp [List.mapM_cons, hr, g1], by simp [g2], fun i hi => ?_⟩
      cases i with
      | zero => simpa [List.getD_eq_getElem?_getD] using hv
      | succ i =>
        have := g3 i (by simpa using hi)
        simpa [List.getD_eq_getElem?_getD] using this

theorem res_ok {w : World} {s : St} {ι : Imap} {T : List D} {tmps : Array Value} (hT : TV w (Xof s.H ι) ι T tmps) (hR : R w s.H ι) {fn : Func} {rvs : List RV} (hc : compRes P fn.results.toList = some rvs) {d : D} (h : resD T s.H rvs = some d) :
    ∃ v, (results fn tmps).run P w = .ok v w ∧ V w (Xof s.H ι) ι d v := by
  unfold resD at h
  have hrun : ∀ vs : List Value, (fn.results.toList.mapM (resF tmps)).run P w = .ok vs w → (results fn tmps).run P w = .ok (if h : vs.toArray.size = 1 then vs.toArray[0] else .tuple vs.toArray) w := by
    intro vs hv
    have e : results fn tmps = (do let vs ← fn.results.mapM (resF tmps); pure (if h : vs.size = 1 then vs[0] else .tuple vs)) := by
      unfold results
      congr 1
    rw [e, Array.mapM_eq_mapM_toList]
    simp [hv]
  split at h
  · rename_i d' hl
    simp only [Option.some.injEq] at h
    subst h
    obtain ⟨vs, g1, g2, g3⟩ := res_list hT hR _ _ _ hc hl
    have := hrun vs g1
    match vs, g2 with
    | [v], _ =>
      refine ⟨v, by simpa using this, ?_⟩
      simpa [List.getD_eq_getElem?_getD] using g3 0 (by simp)
  · rename_i ds hne hl
    simp only [Option.some.injEq] at h
    subst h
    obtain ⟨vs, g1, g2, g3⟩ := res_list hT hR _ _ _ hc hl
    have h1 : vs.toArray.size ≠ 1 := by
      intro h1
      simp only [List.size_toArray] at h1
      rw [g2] at h1
      match ds, h1 with
      | [d], _ => exact hne d rfl
    have := hrun vs g1
    rw [dif_neg h1] at this
    exact ⟨_, this, .tup _ _ (by simpa using g2) (fun i hi => by simpa [Array.getD_eq_getD_getElem?, List.getD_eq_getElem?_getD] using g3 i hi)⟩
  · cases h

mutual
theorem rigid_V {w w' : World} {X X' : Nat → Nat → Prop} {ι ι' : Imap} : ∀ (k : Nat) (d : D) (v : Value), rigid k d = true → V w X ι d v → V w' X' ι' d v
  | 0, d, v, h, hv => by simp [rigid] at h
  | k + 1, d, v, h, hv => by
    cases hv with
    | raw v => exact .raw v
    | e0 A => exact .e0 A
    | tup ds vs hs hv =>
      simp only [rigid] at h
      exact .tup _ _ hs (rigidL_V k ds (fun i => vs.getD i undef) h hv)
    | agg ds vs hs hv =>
      simp only [rigid] at h
      exact .agg _ _ hs (rigidL_V k ds (fun i => vs.getD i undef) h hv)
    | _ => simp [rigid] at h
theorem rigidL_V {w w' : World} {X X' : Nat → Nat → Prop} {ι ι' : Imap} : ∀ (k : Nat) (ds : List D) (vs : Nat → Value), rigidL k ds = true → (∀ i, i < ds.length → V w X ι (ds.getD i default) (vs i)) → ∀ i, i < ds.length → V w' X' ι' (ds.getD i default) (vs i)
  | _, [], vs, h, hv => fun i hi => absurd hi (Nat.not_lt_zero _)
  | 0, _ :: _, vs, h, hv => by simp [rigidL] at h
  | k + 1, d :: ds, vs, h, hv => by
    simp only [rigidL, Bool.and_eq_true] at h
    intro i hi
    cases i with
    | zero =>
      have := rigid_V (w' := w') (X' := X') (ι' := ι') k d (vs 0) h.1 (by simpa [List.getD_eq_getElem?_getD] using hv 0 (Nat.succ_pos _))
      simpa [List.getD_eq_getElem?_getD] using this
    | succ i =>
      have := rigidL_V (w' := w') (X' := X') (ι' := ι') k ds (fun i => vs (i + 1)) h.2 (fun j hj => by
        have := hv (j + 1) (by simpa using hj)
        simpa [List.getD_eq_getElem?_getD] using this) i (by simpa using hi)
      simpa [List.getD_eq_getElem?_getD] using this
end

theorem lk_cut (k : Nat) (H : Heap) (n : Nat) : lk (cut k H) n = if n < k then lk H n else none := by
  induction H with
  | nil => simp [cut, lk]
  | cons p t ih =>
    obtain ⟨m, o⟩ := p
    unfold cut at ih ⊢
    rw [List.filter_cons]
    cases hb : Nat.blt m k with
    | true =>
      have hlt : m < k := by simpa using hb
      simp only [if_true, lk_cons, ih]
      by_cases h : n = m
      · subst h; simp [hlt]
      · simp [h]
    | false =>
      have hge : ¬ m < k := fun h => by rw [show Nat.blt m k = true by simpa using h] at hb; cases hb
      simp only [Bool.false_eq_true, if_false, lk_cons, ih]
      by_cases h : n = m
      · subst h; simp [hge]
      · simp [h]

/-- The end of a call that saw the caller's objects only to read: they are as they were. -/
theorem good_back {w w' : World} {s s' : St} {ι ι' : Imap} {H1 : Heap} (hR : R w s.H ι) (hd : Dom ι s.nx) (hs1 : Sealed s.H H1) (hg : Good w w' { H := H1, nx := s.nx, ro := s.nx } s' ι ι') :
    Good w w' s { H := s.H, nx := s'.nx, ro := s.ro } ι ι' := by
  have same : ∀ n o b base, lk s.H n = some o → ι n = some (b, base) → w'.heap[b]? = w.heap[b]? := by
    intro n o b base hn hb
    obtain ⟨o1, h1, _⟩ := hs1.fwd n o hn
    exact (hg.old n o1 (hd _ _ hb) h1).2 b base hb
  have hi : ∀ n o b base, lk s.H n = some o → ι' n = some (b, base) → ι n = some (b, base) := by
    intro n o b base hn hb
    obtain ⟨b1, base1, h1, _⟩ := hR.obj n o hn
    have := hg.ext _ _ h1
    rw [hb] at this
    rw [h1, this]
  have hX : ∀ b o, Xof s.H ι' b o → Xof s.H ι b o := by
    rintro b o ⟨n, ob, base, h1, h2, h3⟩
    exact ⟨n, ob, base, h1, hi _ _ _ _ h1 h2, h3⟩
  have hchg : Chg (Xof s.H ι) w w' := hg.chg.mono fun b o _ h => hs1.x h
  refine ⟨⟨fun n o hn => ?_, fun n m o o' b base base' h1 h2 h3 h4 => ?_, hg.r.low⟩, hchg, hg.ext, hg.dom, fun b o _ h => hX b o h, hg.nx, rfl, fun n o hn ho => ⟨⟨o, ho, Obj.like_refl o⟩, fun b base hb => same n o b base ho hb⟩⟩
  · obtain ⟨b, base, h1, h2⟩ := hR.obj n o hn
    exact ⟨b, base, hg.ext _ _ h1, h2.step (same n o b base hn h1) fun d v hv => hv.step hchg (fun b o _ h => hX b o h) hg.ext⟩
  · exact hR.inj n m o o' b base base' h1 h2 (hi _ _ _ _ h1 h3) (hi _ _ _ _ h2 h4)

theorem good_cut {w w' : World} {s s' : St} {ι ι' : Imap} {H1 H2 : Heap} (hR : R w s.H ι) (hd : Dom ι s.nx) (hs1 : Sealed s.H H1) (hg : Good w w' { H := H1, nx := s.nx, ro := s.nx } s' ι ι') (hs2 : Sealed s'.H H2) :
    Good w w' s { H := cut s.nx H2, nx := s'.nx, ro := s.ro } ι ι' ∧ ∀ d v, V w' (Xof H2 ι') ι' d v → V w' (Xof (cut s.nx H2) ι') ι' d v := by
  have hR2 := hs2.r hg.r
  have hsub : ∀ n o, lk (cut s.nx H2) n = some o → lk H2 n = some o := by
    intro n o h
    rw [lk_cut] at h
    split at h
    · exact h
    · cases h
  have hX : ∀ b o, Xof (cut s.nx H2) ι' b o → Xof H2 ι' b o := by
    rintro b o ⟨n, ob, base, h1, h2, h3⟩
    exact ⟨n, ob, base, hsub _ _ h1, h2, h3⟩
  have hV : ∀ d v, V w' (Xof H2 ι') ι' d v → V w' (Xof (cut s.nx H2) ι') ι' d v := fun d v h => h.step (Chg.refl _ _) (fun b o _ h => hX b o h) (fun _ _ h => h)
  refine ⟨⟨⟨fun n o hn => ?_, fun n m o o' b base base' h1 h2 h3 h4 => hR2.inj n m o o' b base base' (hsub _ _ h1) (hsub _ _ h2) h3 h4, hR2.low⟩, hg.chg.mono fun b o _ h => hs1.x h, hg.ext, hg.dom, fun b o hb hx => ?_, hg.nx, rfl, fun n o hn ho => ?_⟩, hV⟩
  · obtain ⟨b, base, h1, h2⟩ := hR2.obj n o (hsub _ _ hn)
    exact ⟨b, base, h1, h2.step rfl hV⟩
  · exact hs1.x (hg.x b o hb (hs2.x (hX b o hx)))
  · obtain ⟨b, base, h1, _⟩ := hR.obj n o ho
    have hlt := hd _ _ h1
    obtain ⟨o1, g1, l1⟩ := hs1.fwd n o ho
    obtain ⟨⟨o2, g2, l2⟩, g3⟩ := hg.old n o1 hlt g1
    obtain ⟨o3, g4, l3⟩ := hs2.fwd n o2 g2
    exact ⟨⟨o3, by rw [lk_cut, if_pos hlt]; exact g4, Obj.like_trans l1 (Obj.like_trans l2 l3)⟩, g3⟩

theorem pad_TV {w : World} {X : Nat → Nat → Prop} {ι : Imap} {args : List D} {vs : Array Value} (h : TV w X ι args vs) (nt : Nat) : TV w X ι (pad nt args) (vs ++ Array.replicate (nt - vs.size) undef) := by
  unfold pad
  rw [h.size]
  refine TV.append h ⟨by simp, fun i hi => ?_⟩
  rw [List.length_replicate] at hi
  have e1 : (List.replicate (nt - args.length) (default : D)).getD i default = default := by simp [List.getD_eq_getElem?_getD, hi]
  have e2 : (Array.replicate (nt - args.length) undef).getD i undef = undef := by simp [Array.getD_eq_getD_getElem?, hi]
  rw [e1, e2]
  exact .raw _

theorem body_sim (hfo : P.follows .mixedOrders = true) {f : FuncId} {fn : Func} {keep : Bool} {ifn : IF} (hf : P.funcs[f]? = some fn) (hc : compF P keep fn = some ifn) {args : List D} {s : St} {Q : Out → St → Prop}
    (h : bodyM (simC P) ifn args s Q) : simC P f args s Q := by
  unfold compF at hc
  split at hc
  case h_2 => cases hc
  rename_i c hb
  split at hc
  case h_2 => cases hc
  rename_i ic rvs hic hrv
  split at hc
  case isTrue => cases hc
  rename_i hname
  simp only [Option.some.injEq] at hc
  subst hc
  refine ⟨⟨fn, c, hf, hb, by simpa using hname⟩, fun w ι vs hv hR hd => calls_of_wp hf hb ?_⟩
  unfold bodyM at h
  dsimp only at h
  split at h
  · -- keep
    refine wp_mono (code_sim hfo c ic hic _ _ _ w s ι ⟨pad_TV hv _, hR, hd, rfl⟩ h) ?_
    rintro e a' w' ⟨hdf, x, T', s', ι', hq, hg, hd', ht, hxe⟩
    have ends : ∀ (ht : TV w' (Xof s'.H ι') ι' T' a'.tmps) (hq : match resD T' s'.H rvs with | some d => Q (.ret d) s' | none => False), a'.defers = [] ∧ ∃ v, (results fn a'.tmps).run P w' = .ok v w' ∧ ∃ s'' ι'', Good w w' s s'' ι ι'' ∧ ∃ d, Q (.ret d) s'' ∧ V w' (Xof s''.H ι'') ι'' d v := by
      intro ht hq
      cases hr : resD T' s'.H rvs with
      | none => rw [hr] at hq; exact hq.elim
      | some d =>
        rw [hr] at hq
        obtain ⟨v, h1, h2⟩ := res_ok ht hg.r hrv hr
        exact ⟨hdf, v, h1, s', ι', hg, d, hq, h2⟩
    cases x <;> cases e <;> first | exact hxe.elim | skip
    · exact ends ht hq
    · exact hq.elim
    · exact ends ht hq
    · obtain ⟨v, rfl, hvv⟩ := hxe
      exact ⟨hdf, s', ι', hg, _, v, rfl, hq, hvv⟩
  · -- sealed
    split at h
    · exact h.elim
    rename_i args' H1 hvw
    obtain ⟨hs1, hlen, hvs⟩ := (view_ok w ι fuelV).2 _ _ _ _ (fun i => vs.getD i undef) hvw hR hv.v
    have hT1 : TV w (Xof H1 ι) ι args' vs := ⟨by rw [hlen]; exact hv.size, fun i hi => hvs i (by rw [← hlen]; exact hi)⟩
    refine wp_mono (code_sim hfo c ic hic _ _ _ w { H := H1, nx := s.nx, ro := s.nx } ι ⟨pad_TV hT1 _, hs1.r hR, hd, rfl⟩ h) ?_
    rintro e a' w' ⟨hdf, x, T', s', ι', hq, hg, hd', ht, hxe⟩
    have ends : ∀ (ht : TV w' (Xof s'.H ι') ι' T' a'.tmps) (hq : match resD T' s'.H rvs with
        | some d => if rigid fuelV d then Q (.ret d) { H := s.H, nx := s'.nx, ro := s.ro } else match view fuelV d s'.H with
          | some (d, H2) => Q (.ret d) { H := cut s.nx H2, nx := s'.nx, ro := s.ro }
          | none => False
        | none => False), a'.defers = [] ∧ ∃ v, (results fn a'.tmps).run P w' = .ok v w' ∧ ∃ s'' ι'', Good w w' s s'' ι ι'' ∧ ∃ d, Q (.ret d) s'' ∧ V w' (Xof s''.H ι'') ι'' d v := by
      intro ht hq
      cases hr : resD T' s'.H rvs with
      | none => rw [hr] at hq; exact hq.elim
      | some d =>
        rw [hr] at hq
        dsimp only at hq
        obtain ⟨v, h1, h2⟩ := res_ok ht hg.r hrv hr
        split at hq
        · rename_i hri
          exact ⟨hdf, v, h1, _, ι', good_back hR hd hs1 hg, d, hq, rigid_V _ _ _ hri h2⟩
        · cases hvw2 : view fuelV d s'.H with
          | none => rw [hvw2] at hq; exact hq.elim
          | some p =>
            obtain ⟨d2, H2⟩ := p
            rw [hvw2] at hq
            obtain ⟨hs2, hv2⟩ := (view_ok w' ι' fuelV).1 _ _ _ _ _ hvw2 hg.r h2
            obtain ⟨g1, g2⟩ := good_cut hR hd hs1 hg hs2
            exact ⟨hdf, v, h1, _, ι', g1, d2, hq, g2 _ _ hv2⟩
    cases x <;> cases e <;> first | exact hxe.elim | skip
    · exact ends ht hq
    · exact hq.elim
    · exact ends ht hq
    · obtain ⟨v, rfl, hvv⟩ := hxe
      dsimp only at hq
      rename_i d
      cases hvw2 : view fuelV d s'.H with
      | none => rw [hvw2] at hq; exact hq.elim
      | some p =>
        obtain ⟨d2, H2⟩ := p
        rw [hvw2] at hq
        obtain ⟨hs2, hv2⟩ := (view_ok w' ι' fuelV).1 _ _ _ _ _ hvw2 hg.r hvv
        obtain ⟨g1, g2⟩ := good_cut hR hd hs1 hg hs2
        exact ⟨hdf, _, ι', g1, d2, v, rfl, hq, g2 _ _ hv2⟩

/-- What the least meaning says, the machine does. -/
theorem callL_sim (hfo : P.follows .mixedOrders = true) {ir : FuncId → Option IF} (hir : ∀ f ifn, ir f = some ifn → ∃ fn keep, P.funcs[f]? = some fn ∧ compF P keep fn = some ifn) : LeCl (callL ir) (simC P) :=
  callL_le (simC_mono P) fun f ifn args s Q hf h => by
    obtain ⟨fn, keep, h1, h2⟩ := hir f ifn hf
    exact body_sim hfo h1 h2 h
end
end Go.Ai
