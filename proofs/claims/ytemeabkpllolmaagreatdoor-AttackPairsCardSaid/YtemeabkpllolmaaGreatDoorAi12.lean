/-
  A part of an interpreter over abstract data, proved sound once for the model: what it says of the code, the machine does in every order. Conditions: none beyond the statement.
-/
import Derived.Test.YtemeabkpllolmaaGreatDoorAi11
/-! append. -/
set_option linter.unusedVariables false
set_option linter.unusedSimpArgs false
namespace Go.Ai

theorem flatten_length {α : Type} (xs : List (List α)) (sz : Nat) (h : ∀ i, i < xs.length → (xs.getD i []).length = sz) : xs.flatten.length = xs.length * sz := by
  induction xs with
  | nil => simp
  | cons x xs ih =>
    have h0 := h 0 (by simp)
    simp only [List.getD_cons_zero] at h0
    have := ih fun i hi => by have := h (i + 1) (by simpa using hi); simpa [List.getD_eq_getElem?_getD] using this
    simp [this, h0, Nat.add_mul]
    omega
theorem flatten_getD {α : Type} (d : α) (xs : List (List α)) (sz : Nat) (h : ∀ i, i < xs.length → (xs.getD i []).length = sz) (m : Nat) (hm : m < xs.length * sz) : xs.flatten.getD m d = (xs.getD (m / sz) []).getD (m % sz) d := by
  induction xs generalizing m with
  | nil => simp at hm
  | cons x xs ih =>
    have h0 := h 0 (by simp)
    simp only [List.getD_cons_zero] at h0
    have hs : 0 < sz := by
      rcases Nat.eq_zero_or_pos sz with h | h
      · subst h; simp at hm
      · exact h
    simp only [List.flatten_cons, List.getD_eq_getElem?_getD, List.getElem?_append]
    by_cases hq : m < x.length
    · have h1 : m / sz = 0 := Nat.div_eq_of_lt (by omega)
      have h2 : m % sz = m := Nat.mod_eq_of_lt (by omega)
      simp [hq, h1, h2]
    · have hge : sz ≤ m := by omega
      have hm' : m - sz < xs.length * sz := by simp only [List.length_cons, Nat.add_mul, Nat.one_mul] at hm; omega
      have := ih (fun i hi => by have := h (i + 1) (by simpa using hi); simpa [List.getD_eq_getElem?_getD] using this) (m - sz) hm'
      have e1 : m / sz = (m - sz) / sz + 1 := by
        have : m = (m - sz) + sz := by omega
        conv => lhs; rw [this]
        exact Nat.add_div_right _ hs
      have e2 : m % sz = (m - sz) % sz := Nat.mod_eq_sub_mod hge
      rw [if_neg hq, e1, e2, h0]
      simpa [List.getD_eq_getElem?_getD] using this

section
variable {P : Program} {w : World} {s : St} {ι : Imap} {T : List D} {a : Act} {o : Oper} {d : D} {s' : St}

/-- What is appended lies in memory. -/
theorem elems_ok (hR : R w s.H ι) {y : D} {v : Value} (hv : V w (Xof s.H ι) ι y v) {sz k : Nat} {ys : List D} (he : elems s.H sz y = some (ys, k)) :
    ys.length = k * sz ∧ ∃ A c, v = .slice A k c ∧ (0 < k → ∃ (ad : Addr) (us : List Value), A = some ad ∧ us.length = ys.length ∧ (∀ j u, us[j]? = some u → w.cell? (ad.add j) = some u) ∧ ∀ i, i < ys.length → V w (Xof s.H ι) ι (ys.getD i default) (us.getD i undef)) := by
  unfold elems at he
  split at he
  · simp only [Option.some.injEq, Prod.mk.injEq] at he
    obtain ⟨rfl, rfl⟩ := he
    exact ⟨by simp, none, 0, V_raw hv, fun h => absurd h (Nat.lt_irrefl _)⟩
  · simp only [Option.some.injEq, Prod.mk.injEq] at he
    obtain ⟨rfl, rfl⟩ := he
    cases hv with
    | e0 A => exact ⟨by simp, A, 0, rfl, fun h => absurd h (Nat.lt_irrefl _)⟩
  · rename_i xs
    split at he
    case isFalse => cases he
    rename_i hall
    simp only [Option.some.injEq, Prod.mk.injEq] at he
    obtain ⟨rfl, rfl⟩ := he
    have hz : ∀ i, i < xs.length → (xs.getD i []).length = sz := by
      intro i hi
      have := List.all_eq_true.1 hall xs[i] (List.getElem_mem hi)
      simpa [List.getD_eq_getElem?_getD, hi] using this
    have hlen := flatten_length xs sz hz
    cases hv with
    | lst xs A ad n cap sz' u hn hcap hA hsp hz' hc hx' hvv =>
      subst hn
      refine ⟨hlen, A, cap, rfl, fun hk => ?_⟩
      rcases hA with rfl | hA
      case inr => subst hA; simp at hk
      have hss : sz' = sz := by rw [← hz 0 hk, hz' 0 hk]
      subst hss
      refine ⟨ad, (List.range (xs.length * sz')).map (fun m => u (m / sz') (m % sz')), rfl, by simp [hlen], ?_, ?_⟩
      · intro j v hj
        have hlt : j < xs.length * sz' := by
          rcases Nat.lt_or_ge j (xs.length * sz') with h | h
          · exact h
          · simp [List.getElem?_eq_none, h] at hj
        have hsz : 0 < sz' := by
          rcases Nat.eq_zero_or_pos sz' with h | h
          · subst h; simp at hlt
          · exact h
        simp [hlt] at hj
        subst hj
        have := hc (j / sz') (j % sz') ((Nat.div_lt_iff_lt_mul hsz).2 hlt) (Nat.mod_lt _ hsz)
        rw [add_sp hsp]
        have e : ad.off + j / sz' * sz' + j % sz' = ad.off + j := by
          have := Nat.div_add_mod j sz'
          rw [Nat.mul_comm] at this
          omega
        rwa [e] at this
      · intro i hi
        rw [hlen] at hi
        have hsz : 0 < sz' := by
          rcases Nat.eq_zero_or_pos sz' with h | h
          · subst h; simp at hi
          · exact h
        rw [flatten_getD default xs sz' hz i hi]
        have := hvv (i / sz') (i % sz') ((Nat.div_lt_iff_lt_mul hsz).2 hi) (Nat.mod_lt _ hsz)
        have e : ((List.range (xs.length * sz')).map (fun m => u (m / sz') (m % sz'))).getD i undef = u (i / sz') (i % sz') := by simp [List.getD_eq_getElem?_getD, hi]
        rwa [e]
  · rename_i n off len sz'
    split at he
    case isFalse => cases he
    rename_i hs
    subst hs
    split at he
    case h_2 => cases he
    rename_i cs e lo hl
    split at he
    case isFalse => cases he
    rename_i hle
    simp only [Option.some.injEq, Prod.mk.injEq] at he
    obtain ⟨rfl, rfl⟩ := he
    have hlen : ((cs.drop off).take (len * sz')).length = len * sz' := by rw [List.length_take, List.length_drop]; omega
    cases hv with
    | sl n b base off len sz' cap ad arr ee fr k1 k2 k3 k4 k5 =>
      obtain ⟨arr', g1, g2, g3⟩ := reads_obj hR k1 hl
      rw [k3] at g1
      simp only [Option.some.injEq, Go.Obj.cells.injEq] at g1
      obtain ⟨rfl, rfl, rfl⟩ := g1
      refine ⟨hlen, some ad, cap, rfl, fun hk => ?_⟩
      rcases k5 with rfl | k5
      case inr => omega
      refine ⟨_, (List.range (len * sz')).map (fun j => arr.getD (base + (off + j)) undef), rfl, by simp [hlen], ?_, ?_⟩
      · intro j v hj
        have hlt : j < len * sz' := by
          rcases Nat.lt_or_ge j (len * sz') with h | h
          · exact h
          · simp [List.getElem?_eq_none, h] at hj
        simp [hlt] at hj
        subst hj
        have := g3.c (off + j) (by omega)
        rw [add_at, Nat.add_assoc]
        rw [this]
        simp [Array.getD_eq_getD_getElem?]
      · intro i hi
        rw [hlen] at hi
        have := g3.v (off + i) (by omega)
        have e1 : ((cs.drop off).take (len * sz')).getD i default = cs.getD (off + i) default := by simp [List.getD_eq_getElem?_getD, List.getElem?_take, hi]
        have e2 : ((List.range (len * sz')).map (fun j => arr.getD (base + (off + j)) undef)).getD i undef = arr.getD (base + (off + i)) undef := by simp [List.getD_eq_getElem?_getD, hi]
        rw [e1, e2]
        exact this
  · cases he

theorem info_of {e : TypeId} {sz bytes : Nat} {z : List D} (hs : szT P e = some sz) (hb : bytesT P e = some bytes) (hz : zeroCells P e = some z) : ∃ i zv, P.info? e = some i ∧ i.size = sz ∧ i.bytes = bytes ∧ i.zero = some zv ∧ (zeroValue e).run P w = .ok zv w := by
  unfold szT at hs
  unfold bytesT at hb
  cases hi : P.info? e with
  | none => simp [hi] at hs
  | some i =>
    simp only [hi, Option.map_some, Option.some.injEq] at hs hb
    unfold zeroCells zeroT at hz
    simp only [hi, Option.bind_some] at hz
    cases hzz : i.zero with
    | none => simp [hzz] at hz
    | some zv => exact ⟨i, zv, rfl, hs, hb, hzz, by simp [zeroValue, typeInfo, hi, hzz]⟩

/-- Nothing is appended. -/
theorem run_append_none (w : World) {t ty e : TypeId} {i : TypeInfo} (ht : P.underlying t = some (.slice e)) (hi : P.info? e = some i) (A B : Option Addr) (n c c' : Nat) (hn : n ≤ c) :
    (Builtin.append_ #[t, t] ty #[.slice A n c, .slice B 0 c']).run P w = .ok (.slice A n c) w := by
  have hf : (Builtin.firstCells i.size 0 (.slice B 0 c')).run P w = .ok #[] w := by
    cases B <;> simp [Builtin.firstCells, loadCells, loadCellsFrom]
  cases A <;> simp [Builtin.append_, run_under ht, sizeOf, typeInfo, hi, Builtin.lenOf, hn, hf, storeCells]

/-- Within the capacity. -/
theorem run_append_in (w : World) {t ty e : TypeId} {i : TypeInfo} (ht : P.underlying t = some (.slice e)) (hi : P.info? e = some i) (b off n c : Nat) (arr : Array Value) (et : TypeId) (hb : w.heap[b]? = some (.cells arr et (0, 0)))
    (ad : Addr) (k c' : Nat) (us : List Value) (hl : us.length = k * i.size) (hus : ∀ j u, us[j]? = some u → w.cell? (ad.add j) = some u) (h1 : ∀ u ∈ us, u.oneCell' = true) (hroom : n + k ≤ c) (hfit : off + n * i.size + us.length ≤ arr.size) :
    (Builtin.append_ #[t, t] ty #[.slice (some ⟨b, off, none⟩) n c, .slice (some ad) k c']).run P w =
      .ok (.slice (some ⟨b, off, none⟩) (n + k) c) (w.setRow b (arr.toList.take (off + n * i.size) ++ us ++ arr.toList.drop (off + n * i.size + us.length)).toArray) := by
  have hf := run_firstCells_some (P := P) w i.size k ad k c' us hl hus
  have hst := run_storeCells_at P b (off + n * i.size) et us 0 arr w hb (by omega) h1
  simp only [Nat.add_zero] at hst
  simp [Builtin.append_, run_under ht, sizeOf, typeInfo, hi, Builtin.lenOf, hroom, hf, add_at, hst]

theorem did_append (hT : TV w (Xof s.H ι) ι T a.tmps) (hR : R w s.H ι) (hd : ι s.nx = none) {t e : TypeId} {sz bytes : Nat} {z : List D} {x y : Operand} {x' y' : Opd} {c : Call} (ho : o.op = .call c) (hc : c.callee = .builtin .append) (hat : c.argTypes = #[t, t]) (hargs : c.args = #[x, y])
    (hx : opd x = some x') (hy : opd y = some y') (hu : P.underlying t = some (.slice e)) (hs : szT P e = some sz) (hb : bytesT P e = some bytes) (hz : zeroCells P e = some z) (hzl : z.length = sz) (hsz : 0 < sz)
    (he : exec (evO T) (.append e sz bytes x' y') s = some (d, s')) : Did P w s ι a o d s' := by
  have vx := V_opd hT hx
  have vy := V_opd hT hy
  obtain ⟨i, zv, hi, hi1, hi2, hi3, hi4⟩ := info_of (w := w) hs hb hz
  have run1 : ∀ u v r w', a.eval x = u → a.eval y = v → (Builtin.append_ #[t, t] o.type #[u, v]).run P w = .ok r w' → (execOp a.eval o).run P w = .ok (.value r) w' := by
    intro u v r w' hu hv hr
    simp [execOp, ho, resolve, hc, hargs, hat, hu, hv, invoke, builtin, hr]
  have hzone : ∀ v ∈ ([] : List Value), v.oneCell' = true := fun v h => by cases h
  simp only [exec] at he
  split at he
  case h_2 => cases he
  rename_i ys k hel
  obtain ⟨hyl, A, cy, hyv, hyk⟩ := elems_ok hR vy hel
  have hdrew : ∀ X, Chg X w w.drew := fun X => ⟨rfl, rfl, rfl, Nat.le_refl _, fun b arr e fr h => ⟨arr, fr, h, rfl, fun _ _ => rfl, fun _ => rfl⟩, fun b ob h _ _ => h⟩
  -- a new block holds what is there and what comes
  have fresh : ∀ (w1 : World) (hdr : w1 = w.drew) (cs : List D) (us : List Value) (junk : Array Value), us.length = cs.length → (∀ j, j < cs.length → V w (Xof s.H ι) ι (cs.getD j default) (us.getD j undef)) →
      Good w (w.drew.alloc (.cells (us.toArray ++ junk) e)) s (new s (.cells cs e 0)).2 ι (ext ι s.nx w.heap.size 0) := by
    intro w1 hdr cs us junk hl hv
    have hR' : R w.drew s.H ι := ⟨fun n o h => by
      obtain ⟨b, base, h1, h2⟩ := hR.obj n o h
      exact ⟨b, base, h1, h2.step rfl fun d v h => h.step (hdrew _) (fun _ _ _ h => h) (fun _ _ h => h)⟩, hR.inj, hR.low⟩
    have g := good_new_cells (w := w.drew) hR' hd (us.toArray ++ junk) e cs 0 (by simp [hl]) (fun j hj => by
      have h1 := (hv j hj).step (hdrew _) (fun _ _ _ h => h) (fun _ _ h => h)
      have e1 : (us.toArray ++ junk).getD j undef = us.getD j undef := by
        have hj' : j < us.length := by omega
        simp [Array.getD_eq_getD_getElem?, Array.getElem?_append, hj', List.getD_eq_getElem?_getD]
      rwa [e1])
    have g0 : Good w w.drew s s ι ι := ⟨hR', hdrew _, fun _ _ h => h, fun _ _ h => .inl h, fun _ _ _ h => h, Nat.le_refl _, rfl, fun n o _ h => ⟨⟨o, h, Obj.like_refl o⟩, fun _ _ _ => rfl⟩⟩
    exact g0.trans g
  have vsl : ∀ (cs : List D) (us : List Value) (junk : Array Value) (n cap : Nat) (ι' : Imap) (X : Nat → Nat → Prop), ι' s.nx = some (w.heap.size, 0) → n ≤ cap → (us.toArray ++ junk).size = cap * sz →
      V (w.drew.alloc (.cells (us.toArray ++ junk) e)) X ι' (.sl s.nx 0 n sz) (.slice (some ⟨w.heap.size, 0, none⟩) n cap) := by
    intro cs us junk n cap ι' X h1 h2 h3
    refine .sl s.nx w.heap.size 0 0 n sz cap ⟨w.heap.size, 0, none⟩ (us.toArray ++ junk) e (0, 0) h1 h2 ?_ (by omega) (.inl (by simp))
    have : (w.drew.alloc (.cells (us.toArray ++ junk) e)).heap = w.heap.push (.cells (us.toArray ++ junk) e) := rfl
    rw [this, Array.getElem?_push_size]
  have zsize : zv.cells.size = sz := by
    unfold zeroCells zeroT at hz
    simp only [hi, Option.bind_some, hi3] at hz
    split at hz
    case isFalse => cases hz
    rename_i hf
    simp only [Option.some.injEq] at hz
    have := congrArg List.length hz
    rw [hzl] at this
    rw [← this]
    cases zv with
    | agg vs => simp [Value.cells, ofV, cellsOf]
    | func f fs cs => simp [Value.cells, ofV, cellsOf]
    | _ => rfl
  have junk_size : ∀ m, (Builtin.zeroCells zv.cells m).size = m * sz := by intro m; simp [Builtin.zeroCells, zsize]
  split at he
  · -- nothing comes
    rename_i hk0
    subst hk0
    have fin : ∀ (B : Option Addr) (n c' : Nat), a.eval x = .slice B n c' → n ≤ c' → V w (Xof s.H ι) ι (evO T x') (.slice B n c') → d = evO T x' → s' = s → Did P w s ι a o d s' := by
      intro B n c' hq hle hvv h1 h2
      subst h1; subst h2
      exact Did.still hR hd (run1 _ _ _ _ hq hyv (run_append_none w hu hi B A n c' cy hle)) hvv
    split at he
    · rename_i hq
      rw [hq] at vx
      simp only [Option.some.injEq, Prod.mk.injEq] at he
      have qx := V_raw vx
      exact fin none 0 0 qx (Nat.le_refl _) (by rw [hq]; exact .raw _) he.1.symm he.2.symm
    · rename_i hq
      rw [hq] at vx
      simp only [Option.some.injEq, Prod.mk.injEq] at he
      generalize hv : a.eval x = v at vx
      have vx' := vx
      cases vx with
      | e0 B => exact fin B 0 0 hv (Nat.le_refl _) (by rw [hq]; exact vx') he.1.symm he.2.symm
    · rename_i n off len sz' hq
      rw [hq] at vx
      simp only [Option.some.injEq, Prod.mk.injEq] at he
      generalize hv : a.eval x = v at vx
      have vx' := vx
      cases vx with
      | sl n b base off len sz' cap ad arr ee fr k1 k2 k3 k4 k5 => exact fin _ _ _ hv k2 (by rw [hq]; exact vx') he.1.symm he.2.symm
    · rename_i xs hq
      rw [hq] at vx
      simp only [Option.some.injEq, Prod.mk.injEq] at he
      generalize hv : a.eval x = v at vx
      have vx' := vx
      cases vx with
      | lst xs B ad n cap sz' u hn hcap hA hsp hz' hc hx' hvv => exact fin _ _ _ hv hcap (by rw [hq]; exact vx') he.1.symm he.2.symm
    · cases he
  · rename_i hk0
    have hkp : 0 < k := by omega
    obtain ⟨ad, us, rfl, hul, hus, huv⟩ := hyk hkp
    have hus_len : us.length = k * i.size := by rw [hul, hyl, hi1]
    split at he
    · -- onto nil
      rename_i hq
      rw [hq] at vx
      have qx := V_raw vx
      split at he
      case isFalse => cases he
      rename_i hc'
      obtain ⟨c1, c2, c3⟩ := hc'
      simp only [Option.some.injEq, Prod.mk.injEq] at he
      obtain ⟨rfl, rfl⟩ := he
      have hr := run_append_nil (P := P) w t o.type e i zv hu hi hi3 ad k cy us hus_len hus hkp (by omega) (by rw [hi2]; omega)
      refine ⟨_, _, _, .inl (run1 _ _ _ _ qx hyv hr), fresh _ rfl ys us _ hul huv, ?_⟩
      refine vsl ys us _ k _ _ _ (by simp [ext]) (grownCap_ge w k 0 e) ?_
      have := grownCap_ge w k 0 e
      simp only [Array.size_append, List.size_toArray, hul, hyl, junk_size, ← Nat.add_mul]
      congr 1
      omega
    · rename_i hq
      rw [hq] at vx
      split at he
      case isFalse => cases he
      rename_i hc'
      obtain ⟨c1, c2, c3⟩ := hc'
      simp only [Option.some.injEq, Prod.mk.injEq] at he
      obtain ⟨rfl, rfl⟩ := he
      generalize hv : a.eval x = v at vx
      cases vx with
      | e0 B =>
        have := grownCap_ge w k 0 e
        have hsize : (us.toArray ++ Builtin.zeroCells zv.cells (grownCap w k 0 e - k)).size = grownCap w k 0 e * sz := by
          simp only [Array.size_append, List.size_toArray, hul, hyl, junk_size, ← Nat.add_mul]
          congr 1
          omega
        cases B with
        | none =>
          have hr := run_append_nil (P := P) w t o.type e i zv hu hi hi3 ad k cy us hus_len hus hkp (by omega) (by rw [hi2]; omega)
          exact ⟨_, _, _, .inl (run1 _ _ _ _ hv hyv hr), fresh _ rfl ys us _ hul huv, vsl ys us _ k _ _ _ (by simp [ext]) this hsize⟩
        | some bd =>
          have hr := run_append_grow (P := P) w t o.type e i zv hu hi hi3 bd 0 0 [] (by simp) (fun j v h => by simp at h) ad k cy us hus_len hus (by omega) (by omega) (growslice_fits (by omega) (by rw [hi2, Nat.zero_add]; omega))
          simp only [Nat.zero_add] at hr
          have e1 : (([] : List Value).toArray ++ us.toArray ++ Builtin.zeroCells zv.cells (grownCap w k 0 e - k)) = us.toArray ++ Builtin.zeroCells zv.cells (grownCap w k 0 e - k) := by simp
          rw [e1] at hr
          exact ⟨_, _, _, .inl (run1 _ _ _ _ hv hyv hr), fresh _ rfl ys us _ hul huv, vsl ys us _ k _ _ _ (by simp [ext]) this hsize⟩
    · -- onto a live row
      rename_i n off len sz' hq
      rw [hq] at vx
      split at he
      case h_2 => cases he
      rename_i cs e' lo hl
      split at he
      case isFalse => cases he
      rename_i hc'
      obtain ⟨rfl, hee, c1, c2, c3, c4, c5, c6⟩ := hc'
      have hee2 := hee.symm
      subst hee2
      simp only [Option.some.injEq, Prod.mk.injEq] at he
      obtain ⟨rfl, rfl⟩ := he
      generalize hv : a.eval x = v at vx
      cases vx with
      | sl n b base off len sz' cap ad' arr ee fr k1 k2 k3 k4 k5 =>
        obtain ⟨b', base', g1, arr', g2, g3, g4⟩ := hR.obj _ _ hl
        rw [k1] at g1
        simp only [Option.some.injEq, Prod.mk.injEq] at g1
        obtain ⟨rfl, rfl⟩ := g1
        rw [k3] at g2
        simp only [Option.some.injEq, Go.Obj.cells.injEq] at g2
        obtain ⟨rfl, he2, rfl⟩ := g2
        have he3 := he2.symm
        subst he3
        have hone := one_cells hul huv c6
        by_cases hroom : len + k ≤ cap
        · -- in place
          rcases k5 with rfl | k5
          case inr => omega
          have hfit : base + off + len * sz' + ys.length ≤ arr.size := by
            rw [hyl]
            have : len * sz' + k * sz' ≤ cap * sz' := by rw [← Nat.add_mul]; exact Nat.mul_le_mul_right _ hroom
            omega
          have hr := run_append_in (P := P) w (ty := o.type) hu hi b (base + off) len cap arr e k3 ad k cy us hus_len hus hone hroom (by rw [hi1, hul]; exact hfit)
          rw [hi1] at hr
          have hcl : (cs ++ ys).length = cs.length + ys.length := List.length_append
          have g := good_cells (w := w) hR hd hl k1 c3 k3 g3 g4 hul huv (off := off + len * sz') (by omega) c2 (cs ++ ys) (by omega)
            (fun j hj => by
              simp only [List.getD_eq_getElem?_getD, List.getElem?_append]
              by_cases hjl : j < cs.length
              · have : ¬ (off + len * sz' ≤ j ∧ j < off + len * sz' + ys.length) := by omega
                rw [if_pos hjl, if_neg this]
              · have : off + len * sz' ≤ j ∧ j < off + len * sz' + ys.length := by omega
                rw [if_neg hjl, if_pos this, c1])
            (fun j hj => by
              by_cases hjl : j < cs.length
              · exact .inl hjl
              · exact .inr (by omega))
          rw [← Nat.add_assoc] at g
          have g2 := good_ren g.r (s := { s with H := upd s.H n (.cells (cs ++ ys) e lo) }) hd (n := n) (off := off) (cs := cs ++ ys) (e := e) (lo := lo) (by simp [lk_upd, hl]) k1 c3 (by omega)
          have hdr : (cs ++ ys).drop off = cs.drop off ++ ys := List.drop_append_of_le_length (by omega)
          have hfin : (new { ({ s with H := upd s.H n (.cells (cs ++ ys) e lo) } : St) with H := rm (upd s.H n (.cells (cs ++ ys) e lo)) n } (.cells ((cs ++ ys).drop off) e (lo - off))).2 = (new { s with H := rm s.H n } (.cells (cs.drop off ++ ys) e (lo - off))).2 := by
            have hrm : ∀ (H : Heap), rm (upd H n (.cells (cs ++ ys) e lo)) n = rm H n := by
              intro H
              induction H with
              | nil => rfl
              | cons p t ih =>
                obtain ⟨m, x⟩ := p
                simp only [upd]
                cases hb : Nat.beq n m with
                | true => simp [rm, hb]
                | false => simp [rm, hb, ih]
            simp only [new, hrm, hdr]
          rw [hfin] at g2
          refine ⟨_, _, _, .inl (run1 _ _ _ _ hv hyv hr), g.trans g2, ?_⟩
          have hsz2 : (arr.toList.take (base + off + len * sz') ++ us ++ arr.toList.drop (base + off + len * sz' + us.length)).toArray.size = arr.size := by
            simp only [List.size_toArray, List.length_append, List.length_take, List.length_drop, Array.length_toList]
            omega
          exact .sl s.nx b (base + off) 0 (len + k) sz' cap _ _ e (0, 0) (by simp [ext]) hroom (setRow_heap w b arr _ e (0, 0) k3) (by rw [hsz2]; omega) (.inl (by simp))
        · -- a new row
          have holds : ∃ olds : List Value, olds.length = len * i.size ∧ (∀ j v, olds[j]? = some v → w.cell? (ad'.add j) = some v) ∧ (∀ j, j < len * sz' → V w (Xof s.H ι) ι ((cs.drop off).getD j default) (olds.getD j undef)) := by
            rcases Nat.eq_zero_or_pos len with h0 | h0
            · subst h0
              exact ⟨[], by simp, fun j v h => by simp at h, fun j hj => by omega⟩
            · rcases k5 with rfl | k5
              case inr => omega
              refine ⟨(List.range (len * sz')).map (fun j => arr.getD (base + (off + j)) undef), by simp [hi1], ?_, ?_⟩
              · intro j v hj
                have hlt : j < len * sz' := by
                  rcases Nat.lt_or_ge j (len * sz') with h | h
                  · exact h
                  · simp [List.getElem?_eq_none, h] at hj
                simp [hlt] at hj
                subst hj
                rw [add_at]
                have hlt2 : base + off + j < arr.size := by omega
                simp [World.cell?, k3, hlt2, Nat.add_assoc] 
                rw [← Nat.add_assoc]
                simp [hlt2]
              · intro j hj
                have := g4 (off + j) (by omega)
                have e1 : (cs.drop off).getD j default = cs.getD (off + j) default := by simp [List.getD_eq_getElem?_getD]
                have e2 : ((List.range (len * sz')).map (fun j => arr.getD (base + (off + j)) undef)).getD j undef = arr.getD (base + (off + j)) undef := by simp [List.getD_eq_getElem?_getD, hj]
                rw [e1, e2]
                exact this
          obtain ⟨olds, o1, o2, o3⟩ := holds
          have hr := run_append_grow (P := P) w t o.type e i zv hu hi hi3 ad' len cap olds o1 o2 ad k cy us hus_len hus (by omega) (by omega) (growslice_fits (by omega) (by rw [hi2]; exact c4))
          have hol : olds.length = (cs.drop off).length := by rw [o1, List.length_drop, hi1]; omega
          have g0 := good_rm hR hd c3
          -- the new block over the heap without the old name
          have hR0 := g0.r
          have hlen2 : (olds ++ us).length = (cs.drop off ++ ys).length := by simp [hol, hul]
          have hvv : ∀ j, j < (cs.drop off ++ ys).length → V w (Xof s.H ι) ι ((cs.drop off ++ ys).getD j default) ((olds ++ us).getD j undef) := by
            intro j hj
            simp only [List.getD_eq_getElem?_getD, List.getElem?_append]
            by_cases hjl : j < (cs.drop off).length
            · rw [if_pos hjl, if_pos (by omega)]
              have := o3 j (by rw [List.length_drop] at hjl; omega)
              simpa [List.getD_eq_getElem?_getD] using this
            · rw [if_neg hjl, if_neg (by omega)]
              rw [List.length_append] at hj
              have := huv (j - (cs.drop off).length) (by omega)
              rw [hol]
              simpa [List.getD_eq_getElem?_getD] using this
          have hgc := grownCap_ge w (len + k) cap e
          have earr : olds.toArray ++ us.toArray ++ Builtin.zeroCells zv.cells (grownCap w (len + k) cap e - (len + k)) = (olds ++ us).toArray ++ Builtin.zeroCells zv.cells (grownCap w (len + k) cap e - (len + k)) := by simp
          rw [earr] at hr
          have hR' : R w.drew (rm s.H n) ι := ⟨fun m o h => by
            obtain ⟨b, base, h1, h2⟩ := hR0.obj m o h
            exact ⟨b, base, h1, h2.step rfl fun d v h => h.step (hdrew _) (fun _ _ _ h => h) (fun _ _ h => h)⟩, hR0.inj, hR0.low⟩
          have g1 := good_new_cells (w := w.drew) (s := { s with H := rm s.H n }) hR' hd ((olds ++ us).toArray ++ Builtin.zeroCells zv.cells (grownCap w (len + k) cap e - (len + k))) e (cs.drop off ++ ys) (lo - off) (by simp [← hlen2]) (fun j hj => by
            have h1 := (g0.val (hvv j hj)).step (hdrew _) (fun _ _ _ h => h) (fun _ _ h => h)
            have e1 : ((olds ++ us).toArray ++ Builtin.zeroCells zv.cells (grownCap w (len + k) cap e - (len + k))).getD j undef = (olds ++ us).getD j undef := by
              have hj' : j < (olds ++ us).length := by omega
              simp only [Array.getD_eq_getD_getElem?, Array.getElem?_append, List.size_toArray, hj', if_true, List.getElem?_toArray, List.getD_eq_getElem?_getD]
            rwa [e1])
          have gd : Good w w.drew { s with H := rm s.H n } { s with H := rm s.H n } ι ι := ⟨hR', hdrew _, fun _ _ h => h, fun _ _ h => .inl h, fun _ _ _ h => h, Nat.le_refl _, rfl, fun n o _ h => ⟨⟨o, h, Obj.like_refl o⟩, fun _ _ _ => rfl⟩⟩
          refine ⟨_, _, _, .inl (run1 _ _ _ _ hv hyv hr), g0.trans (gd.trans g1), ?_⟩
          refine vsl (cs.drop off ++ ys) (olds ++ us) _ (len + k) _ _ _ (by simp [ext]) hgc ?_
          have hl2 : (olds ++ us).length = (len + k) * sz' := by rw [List.length_append, o1, hul, hyl, hi1, Nat.add_mul]
          simp only [Array.size_append, List.size_toArray, hl2, junk_size, ← Nat.add_mul]
          congr 1
          omega
    · cases he
end
end Go.Ai
