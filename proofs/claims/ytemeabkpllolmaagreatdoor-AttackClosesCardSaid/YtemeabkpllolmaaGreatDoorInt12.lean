/-
  A part of an interpreter over abstract data, proved sound once for the model: what it says of the code, the machine does in every order. Conditions: none beyond the statement.
-/
import Derived.Test.YtemeabkpllolmaaGreatDoorInt7
import Derived.Test.YtemeabkpllolmaaGreatDoorInt11
/-! A call without arguments, and a law's body, at the machine. -/
set_option linter.unusedVariables false
set_option linter.unusedSimpArgs false
namespace Go.Ai

theorem body_seal {cl : Cl} (hm : MonoQ cl) {fn : IF} {args args' : List D} {s : St} {H1 : Heap} {d : D} (hk : fn.keep = false) (hl : Nat.ble args'.length fn.nt = true) (ho : okC fn.nt fn.body = true)
    (hv : viewL fuelV args s.H = some (args', H1)) (hr : rigid fuelV d = true)
    (h : CodeR cl fn.nt fn.body (envOf args') { H := H1, nx := s.nx, ro := s.nx } (EndQ fun r s' => (r.1 = .nrm ∨ r.1 = .ret) ∧ resEnv r.2 s'.H fn.res = some d ∧ s.nx ≤ s'.nx)) : bodyM cl fn args s fun o s' => o = .ret d ∧ Same s s' := by
  unfold bodyM
  rw [if_neg (by simp [hk]), hv]
  dsimp only
  have hp := pad_len (Nat.le_of_ble_eq_true hl)
  have h1 := h.h
  rw [← envOf_pad fn.nt args'] at h1
  have h2 := codeF_ok hm fn.body (pad fn.nt args') { H := H1, nx := s.nx, ro := s.nx } _ (by rw [hp]; exact ho) (by rw [hp]; exact h1)
  refine codeM_mono (fun _ _ _ _ h => h) hm _ _ _ _ _ (fun r s' hr' => ?_) h2
  obtain ⟨e, T⟩ := r
  obtain ⟨g1, g2, g3⟩ := hr'.1.h
  dsimp only at g1 g2 ⊢
  rw [resEnv_of] at g2
  rcases g1 with rfl | rfl
  · dsimp only
    rw [g2]
    dsimp only
    rw [if_pos hr]
    exact ⟨rfl, _, rfl, g3⟩
  · dsimp only
    rw [g2]
    dsimp only
    rw [if_pos hr]
    exact ⟨rfl, _, rfl, g3⟩

section
variable {P : Program}
theorem heap_same {w w' : World} (hc : Chg (fun _ _ => False) w w') {b : Nat} {ob : Go.Obj} (hb : w.heap[b]? = some ob) : w'.heap[b]? = some ob := by
  by_cases hcell : ∃ arr e fr, ob = .cells arr e fr
  · obtain ⟨arr, e, fr, rfl⟩ := hcell
    obtain ⟨arr', fr', h1, h2, h3, h4⟩ := hc.cells b arr e fr hb
    have ha : arr' = arr := by
      apply Array.ext_getElem?
      intro o
      exact h3 o (fun h => h)
    rw [h1, ha, h4 (fun o h => h)]
  · exact hc.other b ob hb (fun arr e fr h => hcell ⟨arr, e, fr, h⟩) (fun h => h)
theorem empty_x (ι : Imap) : ∀ b o, ¬ Xof [] ι b o := by
  rintro b o ⟨n, ob, base, h, -⟩
  cases h
theorem R_empty (w : World) : R w [] (fun _ => none) :=
  ⟨fun n o h => (by cases h), fun n m o o' b base base' h => (by cases h), fun n b base h => (by cases h)⟩
theorem chg_empty {w w' : World} {ι : Imap} (h : Chg (Xof [] ι) w w') : Chg (fun _ _ => False) w w' := h.mono fun b o _ hx => empty_x ι b o hx

/-- What a call without arguments does from nothing, it does from everywhere. -/
theorem sim_closed {f : FuncId} {d : D} (hr : ∀ (w w' : World) (X X' : Nat → Nat → Prop) (ι ι' : Imap) v, V w X ι d v → V w' X' ι' d v) {Q0 : Out → St → Prop} (hQ : ∀ o s, Q0 o s → o = .ret d) (h : simC P f [] ⟨[], 0, 0⟩ Q0) (s : St) : simC P f [] s fun o s' => o = .ret d ∧ Same s s' := by
  refine ⟨h.1, fun w ι vs hv hR hd => ?_⟩
  have hv0 : TV w (Xof [] (fun _ => none)) (fun _ => none) [] vs := ⟨hv.size, fun i hi => absurd hi (Nat.not_lt_zero _)⟩
  refine (h.2 w (fun _ => none) vs hv0 (R_empty w) (fun m b hb => by cases hb)).mono fun e w' => ?_
  rintro ⟨s0, ι0, hg, he⟩
  have hc := chg_empty hg.chg
  have hchg : Chg (Xof s.H ι) w w' := hc.mono fun _ _ _ hx => hx.elim
  have hsame : ∀ b, b < w.heap.size → w'.heap[b]? = w.heap[b]? := by
    intro b hb
    have : w.heap[b]? = some w.heap[b] := by simp [hb]
    rw [heap_same hc this, this]
  have hgood : Good w w' s s ι ι := by
    refine ⟨⟨fun n o hn => ?_, hR.inj, fun n b base hb => Nat.lt_of_lt_of_le (hR.low n b base hb) hc.size⟩, hchg, fun _ _ h => h, fun _ _ h => Or.inl h, fun _ _ _ h => h, Nat.le_refl _, rfl, fun n o hn ho => ⟨⟨o, ho, Obj.like_refl o⟩, fun b base hb => hsame b (hR.low n b base hb)⟩⟩
    obtain ⟨b, base, h1, h2⟩ := hR.obj n o hn
    exact ⟨b, base, h1, h2.step (hsame b (hR.low n b base h1)) fun d v hv => hv.step hchg (fun _ _ _ h => h) (fun _ _ h => h)⟩
  refine ⟨s, ι, hgood, ?_⟩
  cases e with
  | returned v =>
    obtain ⟨d', h1, h2⟩ := he
    have := hQ _ _ h1
    cases this
    exact ⟨d, ⟨rfl, s.nx, rfl, Nat.le_refl _⟩, hr _ _ _ _ _ _ _ h2⟩
  | panicked ch =>
    obtain ⟨d', v, h0, h1, h2⟩ := he
    have := hQ _ _ h1
    cases this
  | outgrown => exact he
end
end Go.Ai
/-! A call whose arguments are still live: as with the sealed ones. -/
set_option linter.unusedVariables false
set_option linter.unusedSimpArgs false
namespace Go.Ai

/-- The least meaning is a meaning. -/
theorem callL_inv {ir : FuncId → Option IF} {f : FuncId} {args : List D} {s : St} {Q : Out → St → Prop} (h : callL ir f args s Q) : ∃ fn, ir f = some fn ∧ bodyM (callL ir) fn args s Q := by
  refine h (fun f args s Q => ∃ fn, ir f = some fn ∧ bodyM (callL ir) fn args s Q) ?_ ?_
  · rintro f args s Q Q' hq ⟨fn, h1, h2⟩
    exact ⟨fn, h1, bodyM_mono (fun _ _ _ _ h => h) (callL_mono ir) hq h2⟩
  · intro f fn args s Q hf hb
    refine ⟨fn, hf, bodyM_mono (fun f args s Q hw => ?_) (callL_mono ir) (fun _ _ h => h) hb⟩
    obtain ⟨fn', h1, h2⟩ := hw
    exact callL_unfold h1 h2

theorem call_view {ir : FuncId → Option IF} {f : FuncId} {fn : IF} {args args' : List D} {s : St} {H1 : Heap} {Q : Out → St → Prop} (hf : ir f = some fn) (hk : fn.keep = false) (hv : viewL fuelV args s.H = some (args', H1)) (hv2 : viewL fuelV args' H1 = some (args', H1))
    (h : callL ir f args' { H := H1, nx := s.nx, ro := s.ro } Q) : callL ir f args s fun o s' => ∃ s1, Q o s1 ∧ s'.nx = s1.nx ∧ s'.ro = s1.ro ∧ (s'.H = s1.H ∨ (s1.H = H1 ∧ s'.H = s.H)) := by
  obtain ⟨fn', h1, h2⟩ := callL_inv h
  rw [hf] at h1
  cases h1
  refine callL_unfold hf ?_
  unfold bodyM at h2 ⊢
  have hk' : ¬ (fn.keep = true) := by simp [hk]
  rw [if_neg hk'] at h2 ⊢
  rw [hv2] at h2
  rw [hv]
  dsimp only at h2 ⊢
  refine codeM_mono (fun _ _ _ _ h => h) (callL_mono ir) _ _ _ _ _ (fun r s' hr => ?_) h2
  obtain ⟨e, T⟩ := r
  have fin : ∀ o : Option D, (match o with
      | some d => if rigid fuelV d then Q (.ret d) { H := H1, nx := s'.nx, ro := s.ro } else match view fuelV d s'.H with
        | some (d, H2) => Q (.ret d) { H := cut s.nx H2, nx := s'.nx, ro := s.ro }
        | none => False
      | none => False) → (match o with
      | some d => if rigid fuelV d then (∃ s1, Q (.ret d) s1 ∧ s'.nx = s1.nx ∧ s.ro = s1.ro ∧ (s.H = s1.H ∨ (s1.H = H1 ∧ s.H = s.H))) else match view fuelV d s'.H with
        | some (d, H2) => ∃ s1, Q (.ret d) s1 ∧ s'.nx = s1.nx ∧ s.ro = s1.ro ∧ (cut s.nx H2 = s1.H ∨ (s1.H = H1 ∧ cut s.nx H2 = s.H))
        | none => False
      | none => False) := by
    intro o ho
    cases o with
    | none => exact ho
    | some d =>
      dsimp only at ho ⊢
      split
      · rename_i hr
        rw [if_pos hr] at ho
        exact ⟨_, ho, rfl, rfl, Or.inr ⟨rfl, rfl⟩⟩
      · rename_i hr
        rw [if_neg hr] at ho
        split
        · rename_i d' H2 hv3
          rw [hv3] at ho
          exact ⟨_, ho, rfl, rfl, Or.inl rfl⟩
        · rename_i hv3
          rw [hv3] at ho
          exact ho
  cases e with
  | pan d =>
    dsimp only at hr ⊢
    split
    · rename_i d' H2 hv3
      rw [hv3] at hr
      exact ⟨_, hr, rfl, rfl, Or.inl rfl⟩
    · rename_i hv3
      rw [hv3] at hr
      exact hr
  | exit i => exact hr
  | nrm => exact fin _ hr
  | ret => exact fin _ hr

/-- The same but for what may be written. -/
def Lw (H H' : Heap) : Prop := ∀ b, lk H' b = lk H b ∨ ∃ cs e lo lo', lk H b = some (.cells cs e lo) ∧ lk H' b = some (.cells cs e lo')
theorem Lw.refl (H : Heap) : Lw H H := fun b => Or.inl rfl
theorem Lw.trans {H1 H2 H3 : Heap} (h : Lw H1 H2) (k : Lw H2 H3) : Lw H1 H3 := by
  intro b
  rcases h b with h | ⟨cs, e, lo, lo', h1, h2⟩
  · rcases k b with k | ⟨cs, e, lo, lo', k1, k2⟩
    · exact Or.inl (k.trans h)
    · exact Or.inr ⟨cs, e, lo, lo', by rw [← h]; exact k1, k2⟩
  · rcases k b with k | ⟨cs', e', l, l', k1, k2⟩
    · exact Or.inr ⟨cs, e, lo, lo', h1, by rw [k]; exact h2⟩
    · rw [h2] at k1
      cases k1
      exact Or.inr ⟨cs, e, lo, l', h1, k2⟩
theorem Lw.get {H H' : Heap} (h : Lw H H') {b : Nat} {cs : List D} {e lo : Nat} (hb : lk H b = some (.cells cs e lo)) : ∃ lo', lk H' b = some (.cells cs e lo') := by
  rcases h b with h | ⟨cs', e', l, l', h1, h2⟩
  · exact ⟨lo, by rw [h]; exact hb⟩
  · rw [hb] at h1
    cases h1
    exact ⟨l', h2⟩
theorem lw_upd {H : Heap} {b : Nat} {cs : List D} {e lo lo' : Nat} (hb : lk H b = some (.cells cs e lo)) : Lw H (upd H b (.cells cs e lo')) := by
  intro n
  by_cases hn : n = b
  · subst hn
    exact Or.inr ⟨cs, e, lo, lo', hb, by rw [lk_upd, if_pos rfl, hb]; rfl⟩
  · exact Or.inl (by rw [lk_upd, if_neg hn])
end Go.Ai
