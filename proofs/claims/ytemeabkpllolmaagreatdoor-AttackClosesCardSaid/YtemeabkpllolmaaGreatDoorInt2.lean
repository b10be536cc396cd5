/-
  A part of an interpreter over abstract data, proved sound once for the model: what it says of the code, the machine does in every order. Conditions: none beyond the statement.
-/
import Derived.Test.YtemeabkpllolmaaGreatDoorInt1
import Derived.Laws.StructEq
import Derived.Laws.Entries
/-! One operation after another: what the abstract one yields, the model's yields. -/
set_option linter.unusedVariables false
set_option linter.unusedSimpArgs false
namespace Go.Ai

def RunsTo (r : Result Next) (v : Value) (w' : World) : Prop := r = .ok (.value v) w' ∨ (r = .ok .skip w' ∧ v = undef)

/-- What is to be shown of an operation. -/
def Did (P : Program) (w : World) (s : St) (ι : Imap) (a : Act) (o : Oper) (d : D) (s' : St) : Prop :=
  ∃ v w' ι', RunsTo ((execOp a.eval o).run P w) v w' ∧ Good w w' s s' ι ι' ∧ V w' (Xof s'.H ι') ι' d v

section
variable {P : Program} {w : World} {s : St} {ι : Imap} {T : List D} {a : Act} {o : Oper} {d : D} {s' : St}

theorem Did.still (hR : R w s.H ι) (hd : ι s.nx = none) {v : Value} (hr : (execOp a.eval o).run P w = .ok (.value v) w) (hv : V w (Xof s.H ι) ι d v) : Did P w s ι a o d s :=
  ⟨v, w, ι, .inl hr, Good.refl hR, hv⟩

theorem run_under {t : TypeId} {u : TypeDesc} (h : P.underlying t = some u) : (underlying t).run P w = .ok u w := by
  simp [underlying, h]
theorem run_szT {t : TypeId} {n : Nat} (h : szT P t = some n) : (sizeOf t).run P w = .ok n w := by
  unfold szT at h
  cases hi : P.info? t with
  | none => simp [hi] at h
  | some i => simp [hi] at h; simp [sizeOf, typeInfo, hi, h]
theorem run_isAggT {t : TypeId} {b : Bool} (h : isAggT P t = some b) : (isAgg t).run P w = .ok b w := by
  unfold isAggT at h
  cases hu : P.underlying t with
  | none => simp [hu] at h
  | some u =>
    rw [hu] at h
    cases u <;> simp_all [isAgg, run_under hu]
theorem run_zeroT {t : TypeId} {z : Value} (h : zeroT P t = some z) : (zeroValue t).run P w = .ok z w := by
  unfold zeroT at h
  cases hi : P.info? t with
  | none => simp [hi] at h
  | some i => simp [hi] at h; simp [zeroValue, typeInfo, hi, h]

theorem add_at (b o j : Nat) : (⟨b, o, none⟩ : Addr).add j = ⟨b, o + j, none⟩ := by unfold Addr.add; split <;> simp_all
theorem add_sp {ad : Addr} (h : ad.spot = none) (j : Nat) : ad.add j = ⟨ad.block, ad.off + j, none⟩ := by
  obtain ⟨b, o, sp⟩ := ad
  simp only at h
  subst h
  exact add_at b o j

/-- Cells that are read. -/
structure Reads (w : World) (X : Nat → Nat → Prop) (ι : Imap) (b o : Nat) (cs : List D) (u : Nat → Value) : Prop where
  c : ∀ j, j < cs.length → w.cell? ⟨b, o + j, none⟩ = some (u j)
  v : ∀ j, j < cs.length → V w X ι (cs.getD j default) (u j)

theorem Reads.drop {X : Nat → Nat → Prop} {b o : Nat} {cs : List D} {u : Nat → Value} (h : Reads w X ι b o cs u) (k : Nat) : Reads w X ι b (o + k) (cs.drop k) (fun j => u (k + j)) := by
  refine ⟨fun j hj => ?_, fun j hj => ?_⟩
  · rw [List.length_drop] at hj
    have := h.c (k + j) (by omega)
    rwa [show o + k + j = o + (k + j) by omega]
  · rw [List.length_drop] at hj
    have := h.v (k + j) (by omega)
    simpa [List.getD_eq_getElem?_getD] using this

theorem run_loadVar_reads {X : Nat → Nat → Prop} {b o sz : Nat} {ag : Bool} {t : TypeId} {cs : List D} {u : Nat → Value} (h : Reads w X ι b o cs u) (ha : isAggT P t = some ag) (hs : szT P t = some sz) (ht : takeN cs ag sz = some d) :
    ∃ v, (loadVar t ⟨b, o, none⟩).run P w = .ok v w ∧ V w X ι d v := by
  unfold takeN at ht
  simp only at ht
  split at ht
  case isFalse => cases ht
  rename_i hl
  rw [List.length_take] at hl
  have hle : sz ≤ cs.length := by omega
  cases ag with
  | true =>
    simp only [if_true, Option.some.injEq] at ht
    subst ht
    have hrun := run_loadCells (P := P) w ⟨b, o, none⟩ sz u (fun j hj => by rw [add_at]; exact h.c j (by omega))
    refine ⟨.agg ((List.range sz).map u).toArray, by simp [loadVar, run_isAggT ha, run_szT hs, hrun], .agg _ _ (by simp; omega) fun i hi => ?_⟩
    rw [List.length_take] at hi
    have := h.v i (by omega)
    have e1 : (cs.take sz).getD i default = cs.getD i default := by simp [List.getD_eq_getElem?_getD, List.getElem?_take, show i < sz by omega]
    have e2 : ((List.range sz).map u).toArray.getD i undef = u i := by simp [Array.getD, show i < sz by omega]
    rw [e1, e2]
    exact this
  | false =>
    simp only [Bool.false_eq_true, if_false] at ht
    split at ht
    case isFalse => cases ht
    rename_i h1
    subst h1
    cases cs with
    | nil => simp at hle
    | cons c cs =>
      simp only [List.take_succ_cons, List.take_zero, List.head?_cons, Option.some.injEq] at ht
      subst ht
      have := h.c 0 (by simp)
      refine ⟨u 0, ?_, h.v 0 (by simp)⟩
      simp only [Nat.add_zero] at this
      simp [loadVar, run_isAggT ha, this]

/-- What an object's cells say. -/
theorem reads_obj (hR : R w s.H ι) {n b base : Nat} (hi : ι n = some (b, base)) {cs : List D} {e : TypeId} {lo : Nat} (h : lk s.H n = some (.cells cs e lo)) :
    ∃ arr, w.heap[b]? = some (.cells arr e (0, 0)) ∧ base + cs.length ≤ arr.size ∧ Reads w (Xof s.H ι) ι b base cs (fun j => arr.getD (base + j) undef) := by
  obtain ⟨b', base', h1, arr, h2, h3, h4⟩ := hR.obj _ _ h
  rw [hi] at h1
  simp only [Option.some.injEq, Prod.mk.injEq] at h1
  obtain ⟨rfl, rfl⟩ := h1
  refine ⟨arr, h2, h3, fun j hj => ?_, h4⟩
  simp [World.cell?, h2, Array.getD, show base + j < arr.size by omega]

theorem reads_iptr {X : Nat → Nat → Prop} {cs : List D} {v : Value} (h : V w X ι (.iptr cs) v) : ∃ ad u, v = .pointer (some ad) ∧ ad.spot = none ∧ Reads w X ι ad.block ad.off cs u ∧ ∀ j, j < cs.length → ¬ X ad.block (ad.off + j) := by
  cases h with
  | iptr cs ad u h1 h2 h3 h4 => exact ⟨ad, u, rfl, h1, ⟨h2, h4⟩, h3⟩

theorem addr_eta {ad : Addr} (h : ad.spot = none) : ad = ⟨ad.block, ad.off, none⟩ := by
  obtain ⟨b, o, sp⟩ := ad
  simp only at h
  rw [h]

/-! ### The operations that leave the world alone -/
theorem did_mv (hT : TV w (Xof s.H ι) ι T a.tmps) (hR : R w s.H ι) (hd : ι s.nx = none) {x : Operand} {y : Opd} (ho : o.op = .move x ∨ o.op = .assign x) (hx : opd x = some y)
    (he : exec (evO T) (.mv y) s = some (d, s')) : Did P w s ι a o d s' := by
  simp only [exec, Option.some.injEq, Prod.mk.injEq] at he
  obtain ⟨rfl, rfl⟩ := he
  refine Did.still hR hd (v := a.eval x) ?_ (V_opd hT hx)
  rcases ho with ho | ho <;> simp [execOp, ho]

theorem did_pick (hT : TV w (Xof s.H ι) ι T a.tmps) (hR : R w s.H ι) (hd : ι s.nx = none) {c x y : Operand} {c' x' y' : Opd} (ho : o.op = .pick c x y) (hc : opd c = some c') (hx : opd x = some x') (hy : opd y = some y')
    (he : exec (evO T) (.pick c' x' y') s = some (d, s')) : Did P w s ι a o d s' := by
  have vc := V_opd hT hc
  have vx := V_opd hT hx
  have vy := V_opd hT hy
  simp only [exec] at he
  split at he
  · rename_i h
    simp only [Option.some.injEq, Prod.mk.injEq] at he
    obtain ⟨rfl, rfl⟩ := he
    rw [h] at vc
    generalize hq : a.eval c = q at vc
    cases vc
    exact Did.still hR hd (v := a.eval x) (by simp [execOp, ho, hq, asBool]) vx
  · rename_i h
    simp only [Option.some.injEq, Prod.mk.injEq] at he
    obtain ⟨rfl, rfl⟩ := he
    rw [h] at vc
    generalize hq : a.eval c = q at vc
    cases vc
    exact Did.still hR hd (v := a.eval y) (by simp [execOp, ho, hq, asBool]) vy
  · cases he

theorem did_nilChk (hT : TV w (Xof s.H ι) ι T a.tmps) (hR : R w s.H ι) (hd : ι s.nx = none) {x : Operand} {x' : Opd} (ho : o.op = .nilCheck x) (hx : opd x = some x')
    (he : exec (evO T) (.nilChk x') s = some (d, s')) : Did P w s ι a o d s' := by
  have vx := V_opd hT hx
  simp only [exec] at he
  split at he
  · rename_i n k h
    simp only [Option.some.injEq, Prod.mk.injEq] at he
    obtain ⟨rfl, rfl⟩ := he
    rw [h] at vx
    generalize hq : a.eval x = q at vx
    have vx' := vx
    cases vx
    exact Did.still hR hd (by simp only [execOp, ho, hq]; rfl) vx'
  · rename_i cs h
    simp only [Option.some.injEq, Prod.mk.injEq] at he
    obtain ⟨rfl, rfl⟩ := he
    rw [h] at vx
    generalize hq : a.eval x = q at vx
    have vx' := vx
    cases vx
    exact Did.still hR hd (by simp only [execOp, ho, hq]; rfl) vx'
  · rename_i f x1 x2 h
    simp only [Option.some.injEq, Prod.mk.injEq] at he
    obtain ⟨rfl, rfl⟩ := he
    rw [h] at vx
    generalize hq : a.eval x = q at vx
    have vx' := vx
    cases vx
    exact Did.still hR hd (by simp only [execOp, ho, hq]; rfl) vx'
  · cases he

theorem did_load (hT : TV w (Xof s.H ι) ι T a.tmps) (hR : R w s.H ι) (hd : ι s.nx = none) {x : Operand} {x' : Opd} {t : TypeId} {ag : Bool} {sz : Nat} (ho : o.op = .load t x) (hx : opd x = some x')
    (ha : isAggT P t = some ag) (hs : szT P t = some sz) (he : exec (evO T) (.load ag sz x') s = some (d, s')) : Did P w s ι a o d s' := by
  have vx := V_opd hT hx
  simp only [exec] at he
  split at he
  · rename_i n k h
    rw [h] at vx
    split at he
    · rename_i cs e lo hl
      simp only [Option.map_eq_some_iff, Prod.mk.injEq] at he
      obtain ⟨d', ht, rfl, rfl⟩ := he
      generalize hq : a.eval x = q at vx
      cases vx with
      | ref n b base k hi =>
        obtain ⟨arr, h1, h2, h3⟩ := reads_obj hR hi hl
        obtain ⟨v, hr, hv⟩ := run_loadVar_reads (h3.drop k) ha hs ht
        exact Did.still hR hd (v := v) (by simp [execOp, ho, hq, Instr.loadAt, Instr.sureAddr, hr]) hv
    · cases he
  · rename_i cs h
    rw [h] at vx
    simp only [Option.map_eq_some_iff, Prod.mk.injEq] at he
    obtain ⟨d', ht, rfl, rfl⟩ := he
    obtain ⟨ad, u, e1, e2, e3, _⟩ := reads_iptr vx
    obtain ⟨v, hr, hv⟩ := run_loadVar_reads e3 ha hs ht
    rw [← addr_eta e2] at hr
    exact Did.still hR hd (v := v) (by simp [execOp, ho, e1, Instr.loadAt, Instr.sureAddr, hr]) hv
  · cases he

theorem did_faddr (hT : TV w (Xof s.H ι) ι T a.tmps) (hR : R w s.H ι) (hd : ι s.nx = none) {x : Operand} {x' : Opd} {t : TypeId} {f k : Nat} {fs : Array Field} {fd : Field} (ho : o.op = .fieldAddr t x f) (hx : opd x = some x')
    (hu : P.underlying t = some (.struct fs)) (hf : fs[f]? = some fd) (hs : szT P fd.type = some k) (hk : k ≠ 0) (he : exec (evO T) (.faddr fd.offset x') s = some (d, s')) : Did P w s ι a o d s' := by
  have vx := V_opd hT hx
  have hfp : ∀ ad : Addr, (fieldPlace ad fd).run P w = .ok (ad.add fd.offset) w := by
    intro ad
    simp [fieldPlace, run_szT hs, hk]
  simp only [exec] at he
  split at he
  · rename_i n j h
    rw [h] at vx
    simp only [Option.some.injEq, Prod.mk.injEq] at he
    obtain ⟨rfl, rfl⟩ := he
    generalize hq : a.eval x = q at vx
    cases vx with
    | ref n b base j hi =>
      refine Did.still hR hd (v := .pointer (some ⟨b, base + (j + fd.offset), none⟩)) ?_ (.ref n b base _ hi)
      simp [execOp, ho, hq, Instr.fieldAt, Instr.sureAddr, run_under hu, hf, hfp, add_at, Nat.add_assoc]
  · rename_i cs h
    rw [h] at vx
    simp only [Option.some.injEq, Prod.mk.injEq] at he
    obtain ⟨rfl, rfl⟩ := he
    obtain ⟨ad, u, e1, e2, e3, e4⟩ := reads_iptr vx
    refine Did.still hR hd (v := .pointer (some ⟨ad.block, ad.off + fd.offset, none⟩)) ?_ (.iptr _ _ (fun j => u (fd.offset + j)) rfl (e3.drop fd.offset).c (fun j hj => ?_) (e3.drop fd.offset).v)
    · simp [execOp, ho, e1, Instr.fieldAt, Instr.sureAddr, run_under hu, hf, hfp, add_sp e2]
    · rw [List.length_drop] at hj
      have := e4 (fd.offset + j) (by omega)
      simp only
      rwa [Nat.add_assoc]
  · cases he

theorem part_ok {X : Nat → Nat → Prop} {cs : List D} {vs : Array Value} (h : V w X ι (.agg cs) (.agg vs)) {t : TypeId} {ag : Bool} {sz off : Nat} (ha : isAggT P t = some ag) (hs : szT P t = some sz) (ht : takeN (cs.drop off) ag sz = some d) :
    ∃ v, (part t vs off).run P w = .ok v w ∧ V w X ι d v := by
  cases h with
  | agg cs vs hsz hv =>
    unfold takeN at ht
    simp only at ht
    split at ht
    case isFalse => cases ht
    rename_i hl
    rw [List.length_take, List.length_drop] at hl
    cases ag with
    | true =>
      simp only [if_true, Option.some.injEq] at ht
      subst ht
      refine ⟨.agg (vs.extract off (off + sz)), by simp [part, run_isAggT ha, run_szT hs], .agg _ _ (by simp; omega) fun i hi => ?_⟩
      rw [List.length_take, List.length_drop] at hi
      have := hv (off + i) (by omega)
      have e1 : ((cs.drop off).take sz).getD i default = cs.getD (off + i) default := by
        simp [List.getD_eq_getElem?_getD, List.getElem?_take, show i < sz by omega]
      have e2 : (vs.extract off (off + sz)).getD i undef = vs.getD (off + i) undef := by
        have hb : off + i < vs.size := by omega
        simp [Array.getD, hb, show i < min (off + sz) vs.size - off by omega]
      rw [e1, e2]
      exact this
    | false =>
      simp only [Bool.false_eq_true, if_false] at ht
      split at ht
      case isFalse => cases ht
      rename_i h1
      subst h1
      have hlt : off < cs.length := by omega
      have hlt' : off < vs.size := by omega
      have := hv off hlt
      refine ⟨vs.getD off undef, by simp [part, run_isAggT ha, hlt', Array.getD], ?_⟩
      have e : (List.take 1 (cs.drop off)).head? = some (cs.getD off default) := by
        rw [List.drop_eq_getElem_cons hlt, List.take_succ_cons, List.head?_cons]
        simp [List.getD_eq_getElem?_getD, hlt]
      rw [e] at ht
      simp only [Option.some.injEq] at ht
      rw [← ht]
      exact this

theorem did_field (hT : TV w (Xof s.H ι) ι T a.tmps) (hR : R w s.H ι) (hd : ι s.nx = none) {x : Operand} {x' : Opd} {t : TypeId} {f sz : Nat} {ag : Bool} {fs : Array Field} {fd : Field} (ho : o.op = .field t x f) (hx : opd x = some x')
    (hu : P.underlying t = some (.struct fs)) (hf : fs[f]? = some fd) (ha : isAggT P fd.type = some ag) (hs : szT P fd.type = some sz) (he : exec (evO T) (.field ag fd.offset sz x') s = some (d, s')) : Did P w s ι a o d s' := by
  have vx := V_opd hT hx
  simp only [exec] at he
  split at he
  · rename_i cs h
    rw [h] at vx
    simp only [Option.map_eq_some_iff, Prod.mk.injEq] at he
    obtain ⟨d', ht, rfl, rfl⟩ := he
    generalize hq : a.eval x = q at vx
    have vx' := vx
    cases vx with
    | agg cs vs h1 h2 =>
      obtain ⟨v, hr, hv⟩ := part_ok vx' ha hs ht
      exact Did.still hR hd (v := v) (by simp [execOp, ho, hq, Instr.field, run_under hu, hf, asAgg, hr]) hv
  · cases he

theorem V_int {X : Nat → Nat → Prop} {k : IntKind} {n : Int} {v : Value} (h : V w X ι (.raw (.int k n)) v) : v = .int k n := by cases h; rfl
theorem V_raw {X : Nat → Nat → Prop} {u v : Value} (h : V w X ι (.raw u) v) : v = u := by cases h; rfl

theorem did_iaddr (hT : TV w (Xof s.H ι) ι T a.tmps) (hR : R w s.H ι) (hd : ι s.nx = none) {x i : Operand} {x' i' : Opd} {t e : TypeId} {sz : Nat} (ho : o.op = .indexAddr t x i) (hx : opd x = some x') (hi : opd i = some i')
    (hu : P.underlying t = some (.slice e)) (hs : szT P e = some sz) (he : exec (evO T) (.iaddr sz x' i') s = some (d, s')) : Did P w s ι a o d s' := by
  have vx := V_opd hT hx
  have vi := V_opd hT hi
  simp only [exec] at he
  split at he
  case h_2 => cases he
  rename_i kk k hk
  rw [hk] at vi
  have qi := V_raw vi
  split at he
  · rename_i n off len sz' h
    rw [h] at vx
    split at he
    case isFalse => cases he
    rename_i hc
    obtain ⟨rfl, h0, h1⟩ := hc
    simp only [Option.some.injEq, Prod.mk.injEq] at he
    obtain ⟨rfl, rfl⟩ := he
    generalize hq : a.eval x = q at vx
    cases vx with
    | sl n b base off len sz' cap ad arr ee fr h2 h3 h4 h5 h6 =>
      rcases h6 with rfl | h6
      case inr => omega
      refine Did.still hR hd (v := .pointer (some ⟨b, base + (off + k.toNat * sz'), none⟩)) ?_ (.ref n b base _ h2)
      simp [execOp, ho, hq, qi, Instr.indexAt, asIntOf, run_under hu, h0, h1, run_szT hs, add_at, Nat.add_assoc]
  · rename_i xs h
    rw [h] at vx
    split at he
    case isFalse => cases he
    rename_i hc
    obtain ⟨h0, h1⟩ := hc
    split at he
    case isFalse => cases he
    rename_i hz
    simp only [Option.some.injEq, Prod.mk.injEq] at he
    obtain ⟨rfl, rfl⟩ := he
    generalize hq : a.eval x = q at vx
    cases vx with
    | lst xs A ad n cap sz' u hn hcap hA hsp hz' hc hx' hv =>
      have hlt : k.toNat < xs.length := by omega
      have hsz : sz = sz' := by rw [← hz, hz' _ hlt]
      subst hsz
      rcases hA with rfl | hA
      case inr => subst hA; simp at hlt
      refine Did.still hR hd (v := .pointer (some ⟨ad.block, ad.off + k.toNat * sz, none⟩)) ?_ (.iptr _ _ (fun j => u k.toNat j) rfl ?_ ?_ ?_)
      · subst hn
        simp [execOp, ho, hq, qi, Instr.indexAt, asIntOf, run_under hu, h0, h1, run_szT hs, add_sp hsp]
      · intro j hj
        rw [hz' _ hlt] at hj
        exact hc _ _ hlt hj
      · intro j hj
        rw [hz' _ hlt] at hj
        exact hx' _ _ hlt hj
      · intro j hj
        rw [hz' _ hlt] at hj
        exact hv _ _ hlt hj
  · cases he

theorem did_iaddrA (hT : TV w (Xof s.H ι) ι T a.tmps) (hR : R w s.H ι) (hd : ι s.nx = none) {x i : Operand} {x' i' : Opd} {t e : TypeId} {sz n : Nat} (ho : o.op = .indexAddr t x i) (hx : opd x = some x') (hi : opd i = some i')
    (hu : P.underlying t = some (.array n e)) (hs : szT P e = some sz) (he : exec (evO T) (.iaddrA n sz x' i') s = some (d, s')) : Did P w s ι a o d s' := by
  have vx := V_opd hT hx
  have vi := V_opd hT hi
  simp only [exec] at he
  split at he
  case h_2 => cases he
  rename_i kk k hk
  rw [hk] at vi
  have qi := V_raw vi
  split at he
  case isFalse => cases he
  rename_i hc
  obtain ⟨h0, h1⟩ := hc
  split at he
  · rename_i m j h
    rw [h] at vx
    simp only [Option.some.injEq, Prod.mk.injEq] at he
    obtain ⟨rfl, rfl⟩ := he
    generalize hq : a.eval x = q at vx
    cases vx with
    | ref m b base j hi =>
      refine Did.still hR hd (v := .pointer (some ⟨b, base + (j + k.toNat * sz), none⟩)) ?_ (.ref m b base _ hi)
      simp [execOp, ho, hq, qi, Instr.indexAt, asIntOf, Instr.sureAddr, run_under hu, h0, h1, run_szT hs, add_at, Nat.add_assoc]
  · rename_i cs h
    rw [h] at vx
    simp only [Option.some.injEq, Prod.mk.injEq] at he
    obtain ⟨rfl, rfl⟩ := he
    obtain ⟨ad, u, e1, e2, e3, e4⟩ := reads_iptr vx
    refine Did.still hR hd (v := .pointer (some ⟨ad.block, ad.off + k.toNat * sz, none⟩)) ?_ (.iptr _ _ (fun j => u (k.toNat * sz + j)) rfl (e3.drop _).c (fun j hj => ?_) (e3.drop _).v)
    · simp [execOp, ho, e1, qi, Instr.indexAt, asIntOf, Instr.sureAddr, run_under hu, h0, h1, run_szT hs, add_sp e2]
    · rw [List.length_drop] at hj
      have := e4 (k.toNat * sz + j) (by omega)
      simp only
      rwa [Nat.add_assoc]
  · cases he

theorem did_idxS (hT : TV w (Xof s.H ι) ι T a.tmps) (hR : R w s.H ι) (hd : ι s.nx = none) {x i : Operand} {x' i' : Opd} {t : TypeId} (ho : o.op = .index t x i) (hx : opd x = some x') (hi : opd i = some i')
    (hu : P.underlying t = some .string) (he : exec (evO T) (.idxS x' i') s = some (d, s')) : Did P w s ι a o d s' := by
  have vx := V_opd hT hx
  have vi := V_opd hT hi
  simp only [exec] at he
  split at he
  case h_2 => cases he
  rename_i b kk k hb hk
  rw [hb] at vx
  rw [hk] at vi
  have qx := V_raw vx
  have qi := V_raw vi
  split at he
  case isFalse => cases he
  rename_i h0
  simp only [Option.map_eq_some_iff, Prod.mk.injEq] at he
  obtain ⟨c, hc, rfl, rfl⟩ := he
  refine Did.still hR hd (v := .int .u8 c.toNat) ?_ (.raw _)
  simp [execOp, ho, qx, qi, Instr.index, asIntOf, run_under hu, h0, hc]

theorem did_idxA (hT : TV w (Xof s.H ι) ι T a.tmps) (hR : R w s.H ι) (hd : ι s.nx = none) {x i : Operand} {x' i' : Opd} {t e : TypeId} {n sz : Nat} {ag : Bool} (ho : o.op = .index t x i) (hx : opd x = some x') (hi : opd i = some i')
    (hu : P.underlying t = some (.array n e)) (ha : isAggT P e = some ag) (hs : szT P e = some sz) (he : exec (evO T) (.idxA ag n sz x' i') s = some (d, s')) : Did P w s ι a o d s' := by
  have vx := V_opd hT hx
  have vi := V_opd hT hi
  simp only [exec] at he
  split at he
  case h_2 => cases he
  rename_i cs kk k hb hk
  rw [hb] at vx
  rw [hk] at vi
  have qi := V_raw vi
  split at he
  case isFalse => cases he
  rename_i hc
  obtain ⟨h0, h1⟩ := hc
  simp only [Option.map_eq_some_iff, Prod.mk.injEq] at he
  obtain ⟨d', ht, rfl, rfl⟩ := he
  generalize hq : a.eval x = q at vx
  have vx' := vx
  cases vx with
  | agg cs vs g1 g2 =>
    obtain ⟨v, hr, hv⟩ := part_ok vx' ha hs ht
    exact Did.still hR hd (v := v) (by simp [execOp, ho, hq, qi, Instr.index, asIntOf, run_under hu, h0, h1, run_szT hs, hr]) hv

theorem did_un (hT : TV w (Xof s.H ι) ι T a.tmps) (hR : R w s.H ι) (hd : ι s.nx = none) {x : Operand} {x' : Opd} {t : TypeId} {op : UnOp} (ho : o.op = .unOp op t x) (hx : opd x = some x')
    (he : exec (evO T) (.un op x') s = some (d, s')) : Did P w s ι a o d s' := by
  have vx := V_opd hT hx
  simp only [exec] at he
  split at he
  · rename_i b h
    rw [h] at vx
    have qx := V_raw vx
    simp only [Option.some.injEq, Prod.mk.injEq] at he
    obtain ⟨rfl, rfl⟩ := he
    exact Did.still hR hd (v := .bool (!b)) (by simp [execOp, ho, qx, Op.unary]) (.raw _)
  · rename_i k n h
    rw [h] at vx
    have qx := V_raw vx
    simp only [Option.some.injEq, Prod.mk.injEq] at he
    obtain ⟨rfl, rfl⟩ := he
    exact Did.still hR hd (v := .int k (k.wrap (0 - n))) (by simp [execOp, ho, qx, Op.unary, Op.intArith]) (.raw _)
  · cases he

theorem did_conv (hT : TV w (Xof s.H ι) ι T a.tmps) (hR : R w s.H ι) (hd : ι s.nx = none) {x : Operand} {x' : Opd} {t u : TypeId} {k k' : IntKind} (ho : o.op = .convert t u x) (hx : opd x = some x')
    (ht : P.underlying t = some (.int k')) (hu : P.underlying u = some (.int k)) (he : exec (evO T) (.conv k x') s = some (d, s')) : Did P w s ι a o d s' := by
  have vx := V_opd hT hx
  simp only [exec] at he
  split at he
  · rename_i kk n h
    rw [h] at vx
    have qx := V_raw vx
    simp only [Option.some.injEq, Prod.mk.injEq] at he
    obtain ⟨rfl, rfl⟩ := he
    exact Did.still hR hd (v := .int k (k.wrap n)) (by simp [execOp, ho, qx, convert, run_under ht, run_under hu, Conv.intToInt]) (.raw _)
  · cases he

theorem did_convS (hT : TV w (Xof s.H ι) ι T a.tmps) (hR : R w s.H ι) (hd : ι s.nx = none) {x : Operand} {x' : Opd} {t u : TypeId} (ho : o.op = .convert t u x) (hx : opd x = some x')
    (ht : P.underlying t = some .string) (hu : P.underlying u = some .string) (he : exec (evO T) (.convS x') s = some (d, s')) : Did P w s ι a o d s' := by
  have vx := V_opd hT hx
  simp only [exec] at he
  split at he
  · rename_i b h
    rw [h] at vx
    have qx := V_raw vx
    simp only [Option.some.injEq, Prod.mk.injEq] at he
    obtain ⟨rfl, rfl⟩ := he
    exact Did.still hR hd (v := .string b) (by simp [execOp, ho, qx, convert, run_under ht, run_under hu]) (.raw _)
  · cases he

theorem did_extract (hT : TV w (Xof s.H ι) ι T a.tmps) (hR : R w s.H ι) (hd : ι s.nx = none) {x : Operand} {x' : Opd} {i : Nat} (ho : o.op = .extract x i) (hx : opd x = some x')
    (he : exec (evO T) (.extract x' i) s = some (d, s')) : Did P w s ι a o d s' := by
  have vx := V_opd hT hx
  simp only [exec] at he
  split at he
  · rename_i ds h
    rw [h] at vx
    simp only [Option.map_eq_some_iff, Prod.mk.injEq] at he
    obtain ⟨d', ht, rfl, rfl⟩ := he
    generalize hq : a.eval x = q at vx
    cases vx with
    | tup ds vs h1 h2 =>
      have hlt : i < ds.length := by
        rcases Nat.lt_or_ge i ds.length with h | h
        · exact h
        · rw [List.getElem?_eq_none h] at ht; cases ht
      have hlt' : i < vs.size := by omega
      have := h2 i hlt
      refine Did.still hR hd (v := vs.getD i undef) (by simp [execOp, ho, hq, Instr.extract, hlt', Array.getD]) ?_
      have e : ds.getD i default = d' := by simp [List.getD_eq_getElem?_getD, ht]
      rw [e] at this
      exact this
  · cases he

theorem opds_ok : ∀ {xs : List Operand} {ys : List Opd}, opds xs = some ys → TV w (Xof s.H ι) ι T a.tmps →
    (xs.map a.eval).length = (ys.map (evO T)).length ∧ ∀ i, i < (ys.map (evO T)).length → V w (Xof s.H ι) ι ((ys.map (evO T)).getD i default) ((xs.map a.eval).toArray.getD i undef)
  | [], ys, h, hT => by
    simp only [opds, Option.some.injEq] at h
    subst h
    exact ⟨rfl, fun i hi => absurd hi (Nat.not_lt_zero _)⟩
  | x :: xs, ys, h, hT => by
    simp only [opds] at h
    split at h
    case h_2 => cases h
    rename_i y ys' hy hys
    simp only [Option.some.injEq] at h
    subst h
    obtain ⟨h1, h2⟩ := opds_ok hys hT
    refine ⟨by simpa using h1, fun i hi => ?_⟩
    cases i with
    | zero => simpa [Array.getD] using V_opd hT hy
    | succ i =>
      have := h2 i (by simpa using hi)
      simpa [Array.getD, List.getD_eq_getElem?_getD] using this

theorem did_mkfn (hT : TV w (Xof s.H ι) ι T a.tmps) (hR : R w s.H ι) (hd : ι s.nx = none) {f : Fn} {xs ys : Array Operand} {xs' ys' : List Opd} (ho : o.op = .makeFunc f xs ys) (hx : opds xs.toList = some xs') (hy : opds ys.toList = some ys')
    (he : exec (evO T) (.mkfn f xs' ys') s = some (d, s')) : Did P w s ι a o d s' := by
  simp only [exec, Option.some.injEq, Prod.mk.injEq] at he
  obtain ⟨rfl, rfl⟩ := he
  obtain ⟨h1, h2⟩ := opds_ok hx hT
  obtain ⟨h3, h4⟩ := opds_ok hy hT
  refine Did.still hR hd (v := .func f (xs.map a.eval) (ys.map a.eval)) (by simp [execOp, ho, Instr.makeFunc]) (.fn _ _ _ _ _ ?_ ?_ ?_ ?_)
  · simpa using h1
  · simpa using h3
  · intro i hi
    have := h2 i hi
    have e : (xs.toList.map a.eval).toArray = xs.map a.eval := Array.ext' (by rw [Array.toList_map])
    rwa [e] at this
  · intro i hi
    have := h4 i hi
    have e : (ys.toList.map a.eval).toArray = ys.map a.eval := Array.ext' (by rw [Array.toList_map])
    rwa [e] at this

theorem did_mkif (hT : TV w (Xof s.H ι) ι T a.tmps) (hR : R w s.H ι) (hd : ι s.nx = none) {x : Operand} {x' : Opd} {t : TypeId} {u : TypeDesc} (ho : o.op = .makeInterface t x) (hx : opd x = some x')
    (hu : P.underlying t = some u) (hn : ∀ ms, u ≠ .interface ms) (he : exec (evO T) (.mkif t x') s = some (d, s')) : Did P w s ι a o d s' := by
  have vx := V_opd hT hx
  simp only [exec, Option.some.injEq, Prod.mk.injEq] at he
  obtain ⟨rfl, rfl⟩ := he
  refine Did.still hR hd (v := .iface t (a.eval x)) ?_ (.iface _ _ _ vx)
  cases u <;> simp_all [execOp, Instr.makeInterface, run_under hu]
end
end Go.Ai
/-! Comparisons, cuts, lengths, look-ups. -/
set_option linter.unusedVariables false
set_option linter.unusedSimpArgs false
namespace Go.Ai
section
variable {P : Program} {w : World} {s : St} {ι : Imap} {T : List D} {a : Act} {o : Oper} {d : D} {s' : St}

theorem run_bin {op : BinOp} {u v r : Value} (h : bin op u v = some r) (t : TypeId) (x y : Operand) (w : World) : (do eqGuard op t x y u v; binOp op t u v : Sem Value).run P w = .ok r w := by
  unfold bin at h
  split at h
  · rename_i k a k' b
    have hg : (eqGuard op t x y (.int k a) (.int k' b)).run P w = .ok () w := by cases op <;> simp [eqGuard]
    cases op <;> simp only at h
    case shl =>
      split at h
      · cases h
      · rename_i hb
        simp only [Option.some.injEq] at h; subst h
        simp [hg, binOp, Op.shift, hb]
    case shr =>
      split at h
      · cases h
      · rename_i hb
        simp only [Option.some.injEq] at h; subst h
        simp [hg, binOp, Op.shift, hb]
    case quo | rem =>
      split at h
      · rename_i hk
        subst hk
        split at h
        · cases h
        · rename_i hb
          simp only [Option.some.injEq] at h; subst h
          simp [hg, binOp, Op.intDiv, hb]
      · cases h
    all_goals
      split at h
      case isFalse => cases h
      rename_i hk
      subst hk
      simp only [Option.some.injEq] at h
      subst h
      simp [hg, binOp, Op.intArith, Op.intBits, Op.intCmp]
  · rename_i x' y'
    have hg : (eqGuard op t x y (.string x') (.string y')).run P w = .ok () w := by cases op <;> simp [eqGuard]
    cases op <;> simp only at h
    case add =>
      split at h
      · cases h
      · rename_i hb
        simp only [Option.some.injEq] at h; subst h
        simp only [Sem.run_bind, hg, Result.andThen_ok, binOp, Op.stringOp, if_neg hb, Sem.run_pure]
    all_goals first
      | (cases h; done)
      | (simp only [Option.some.injEq] at h; subst h; simp [hg, binOp, Op.stringOp])
  · cases h

theorem did_bin (hT : TV w (Xof s.H ι) ι T a.tmps) (hR : R w s.H ι) (hd : ι s.nx = none) {x y : Operand} {x' y' : Opd} {op : BinOp} {t u : TypeId} (ho : o.op = .binOp op t x y u) (hx : opd x = some x') (hy : opd y = some y')
    (he : exec (evO T) (.bin op x' y') s = some (d, s')) : Did P w s ι a o d s' := by
  have vx := V_opd hT hx
  have vy := V_opd hT hy
  simp only [exec] at he
  split at he
  case h_2 => cases he
  rename_i u1 u2 h1 h2
  rw [h1] at vx
  rw [h2] at vy
  have qx := V_raw vx
  have qy := V_raw vy
  simp only [Option.map_eq_some_iff, Prod.mk.injEq] at he
  obtain ⟨v, hv, rfl, rfl⟩ := he
  refine Did.still hR hd (v := v) ?_ (.raw _)
  have := run_bin (P := P) hv t x y w
  simp only [Sem.run_bind] at this
  simp only [execOp, ho, qx, qy, Sem.run_bind, Sem.run_pure, this]
  generalize (eqGuard op t x y u1 u2).run P w = r at this ⊢
  cases r with
  | ok x w1 =>
    simp only [Result.andThen_ok] at this
    simp only [Result.andThen_ok, this]
  | halt x w1 => cases this

theorem run_kind {k : Nat} {x y : D} {u v : Value} {X : Nat → Nat → Prop} {b : Bool} {t : TypeId} (hk : kindT P t = some k) (vx : V w X ι x u) (vy : V w X ι y v) (h : eqCell k x y = some b) (n : Nat) :
    (Op.equalIn (n + 1) t u v).run P w = .ok b w := by
  unfold eqCell at h
  unfold kindT at hk
  split at hk
  · rename_i kk hu
    simp only [Option.some.injEq] at hk
    subst hk
    split at h
    case h_1 =>
      rw [V_raw vx, V_raw vy]
      split at h
      case isFalse => cases h
      rename_i hk
      subst hk
      simp only [Option.some.injEq] at h
      subst h
      exact run_equalIn_int w _ _ _ kk _ _ hu
    all_goals first
      | (cases h; done)
      | (rename_i h0; cases h0; done)
      | contradiction
  · rename_i hu
    simp only [Option.some.injEq] at hk
    subst hk
    split at h
    case h_2 =>
      rw [V_raw vx, V_raw vy]
      simp only [Option.some.injEq] at h
      subst h
      rw [run_equalIn_string w _ _ _ _ hu, beq_toListBytes]
    all_goals first
      | (cases h; done)
      | contradiction
  · rename_i hu
    simp only [Option.some.injEq] at hk
    subst hk
    split at h
    case h_3 =>
      rw [V_raw vx, V_raw vy]
      simp only [Option.some.injEq] at h
      subst h
      exact run_equalIn_bool' w _ _ _ _ hu
    all_goals first
      | (cases h; done)
      | contradiction
  · cases hk

theorem kind_agg {t : TypeId} {k : Nat} (h : kindT P t = some k) : isAggT P t = some false := by
  unfold kindT at h
  unfold isAggT
  split at h <;> simp_all

theorem eqCells_run {us vs : Array Value} {X : Nat → Nat → Prop} :
    ∀ (fs : List Field) (ks : List Nat) (xs ys : List D) (i : Nat), kindsT P fs i = some ks →
      (∀ j, j < xs.length → V w X ι (xs.getD j default) (us.getD (i + j) undef)) → (∀ j, j < ys.length → V w X ι (ys.getD j default) (vs.getD (i + j) undef)) →
      us.size = i + xs.length → vs.size = i + ys.length → ∀ b, eqCells ks xs ys = some b → (Op.eqFields 9999 us vs fs).run P w = .ok b w := by
  intro fs
  induction fs with
  | nil =>
    intro ks xs ys i hk hu hv h1 h2 b hb
    simp only [kindsT, Option.some.injEq] at hk
    subst hk
    cases xs <;> cases ys <;> simp [eqCells] at hb
    subst hb
    rfl
  | cons f fs ih =>
    intro ks xs ys i hk hu hv h1 h2 b hb
    simp only [kindsT] at hk
    split at hk
    case h_2 => cases hk
    rename_i k ks' hk1 hk2
    split at hk
    case isFalse => cases hk
    rename_i hc
    simp only [Option.some.injEq] at hk
    subst hk
    simp only [Bool.and_eq_true, beq_iff_eq, bne_iff_ne] at hc
    obtain ⟨⟨hoff, hn⟩, hz⟩ := hc
    cases xs with
    | nil => simp [eqCells] at hb
    | cons x xs =>
      cases ys with
      | nil => simp [eqCells] at hb
      | cons y ys =>
        have vx := hu 0 (by simp)
        have vy := hv 0 (by simp)
        simp only [List.getD_cons_zero, Nat.add_zero] at vx vy
        simp only [List.length_cons] at h1 h2
        have hp : ∀ (zs : Array Value), i < zs.size → (part f.type zs f.offset).run P w = .ok (zs.getD i undef) w := by
          intro zs hz
          simp [part, run_isAggT (kind_agg hk1), hoff, hz, Array.getD]
        have p1 := hp us (by omega)
        have p2 := hp vs (by omega)
        have key : ∀ c, eqCell k x y = some c → (Op.equalIn 9999 f.type (us.getD i undef) (vs.getD i undef)).run P w = .ok c w :=
          fun c hc => run_kind hk1 vx vy hc 9998
        simp only [eqCells] at hb
        simp only [Op.eqFields, ne_eq, hn, not_false_eq_true, if_true, Sem.run_bind, p1, p2, Result.andThen_ok]
        split at hb
        · rename_i hc
          rw [key _ hc]
          simp only [Result.andThen_ok, Bool.not_true, Bool.false_eq_true, if_false]
          refine ih ks' xs ys (i + 1) hk2 (fun j hj => ?_) (fun j hj => ?_) (by omega) (by omega) b hb
          · have := hu (j + 1) (by simpa using hj)
            rw [List.getD_cons_succ] at this
            rwa [show i + 1 + j = i + (j + 1) by omega]
          · have := hv (j + 1) (by simpa using hj)
            rw [List.getD_cons_succ] at this
            rwa [show i + 1 + j = i + (j + 1) by omega]
        · rename_i hc
          simp only [Option.some.injEq] at hb
          subst hb
          rw [key _ hc]
          simp
        · cases hb

theorem eqIn_slice (n : Nat) {t e : TypeId} (h : P.underlying t = some (.slice e)) (A : Option Addr) (l c l' c' : Nat) : (Op.equalIn (n + 1) t (.slice A l c) (.slice none l' c')).run P w = .ok A.isNone w := by
  cases A <;> simp [Op.equalIn, run_under h]
theorem eqIn_nilf (n : Nat) {t : TypeId} {p r : Array TypeId} {v : Bool} (h : P.underlying t = some (.func p r v)) : (Op.equalIn (n + 1) t .nilFunc .nilFunc).run P w = .ok true w := by
  simp [Op.equalIn, run_under h]
theorem eqIn_fn (n : Nat) {t : TypeId} {p r : Array TypeId} {v : Bool} (h : P.underlying t = some (.func p r v)) (f : Fn) (us vs : Array Value) : (Op.equalIn (n + 1) t (.func f us vs) .nilFunc).run P w = .ok false w := by
  simp [Op.equalIn, run_under h]
theorem bin_slice (t : TypeId) (A B : Option Addr) (l c l' c' : Nat) {b : Bool} (h : (Op.equalIn 10000 t (.slice A l c) (.slice B l' c')).run P w = .ok b w) :
    (binOp .eql t (.slice A l c) (.slice B l' c')).run P w = .ok (.bool b) w ∧ (binOp .neq t (.slice A l c) (.slice B l' c')).run P w = .ok (.bool (!b)) w := by
  constructor <;> (simp only [binOp]; simp [Op.equal, Op.maxDepth, h])
theorem bin_bool (t : TypeId) (x y : Bool) {b : Bool} (h : (Op.equalIn 10000 t (.bool x) (.bool y)).run P w = .ok b w) :
    (binOp .eql t (.bool x) (.bool y)).run P w = .ok (.bool b) w ∧ (binOp .neq t (.bool x) (.bool y)).run P w = .ok (.bool (!b)) w := by
  constructor <;> (simp only [binOp]; simp [Op.equal, Op.maxDepth, h])
theorem bin_nilf (t : TypeId) {b : Bool} (h : (Op.equalIn 10000 t .nilFunc .nilFunc).run P w = .ok b w) :
    (binOp .eql t .nilFunc .nilFunc).run P w = .ok (.bool b) w ∧ (binOp .neq t .nilFunc .nilFunc).run P w = .ok (.bool (!b)) w := by
  constructor <;> (simp only [binOp]; simp [Op.equal, Op.maxDepth, h])
theorem bin_fn (t : TypeId) (f : Fn) (us vs : Array Value) {b : Bool} (h : (Op.equalIn 10000 t (.func f us vs) .nilFunc).run P w = .ok b w) :
    (binOp .eql t (.func f us vs) .nilFunc).run P w = .ok (.bool b) w ∧ (binOp .neq t (.func f us vs) .nilFunc).run P w = .ok (.bool (!b)) w := by
  constructor <;> (simp only [binOp]; simp [Op.equal, Op.maxDepth, h])

theorem run_eqD {X : Nat → Nat → Prop} {k : EqK} {t : TypeId} {x y : D} {u v : Value} {b : Bool} (hk : eqK P t = some k) (vx : V w X ι x u) (vy : V w X ι y v) (h : eqD k x y = some b) (xo yo : Operand) :
    (eqGuard .eql t xo yo u v).run P w = .ok () w ∧ (eqGuard .neq t xo yo u v).run P w = .ok () w ∧ (binOp .eql t u v).run P w = .ok (.bool b) w ∧ (binOp .neq t u v).run P w = .ok (.bool (!b)) w := by
  unfold eqK at hk
  split at hk
  · rename_i hu
    simp only [Option.some.injEq] at hk
    subst hk
    unfold eqD at h
    split at h <;> first | contradiction | (cases h; done) | skip
    rw [V_raw vx, V_raw vy]
    simp only [Option.some.injEq] at h
    subst h
    exact ⟨rfl, rfl, bin_bool t _ _ (run_equalIn_bool' w 9999 t _ _ hu)⟩
  · rename_i e hu
    simp only [Option.some.injEq] at hk
    subst hk
    unfold eqD at h
    split at h <;> first | contradiction | (cases h; done) | skip
    · rw [V_raw vx, V_raw vy]
      simp only [Option.some.injEq] at h
      subst h
      exact ⟨rfl, rfl, bin_slice t _ _ _ _ _ _ (eqIn_slice 9999 hu none _ _ _ _)⟩
    · rw [V_raw vy]
      cases vx
      simp only [Option.some.injEq] at h
      subst h
      exact ⟨rfl, rfl, bin_slice t _ _ _ _ _ _ (eqIn_slice 9999 hu (some _) _ _ _ _)⟩
    · rw [V_raw vy]
      simp only [Option.some.injEq] at h
      subst h
      cases vx with
      | lst xs A ad n cap sz u hn hcap hA hsp hz' hc hx' hv =>
        rcases hA with rfl | hA
        case inr => cases hA
        exact ⟨rfl, rfl, bin_slice t _ _ _ _ _ _ (eqIn_slice 9999 hu (some _) _ _ _ _)⟩
  · rename_i hu
    simp only [Option.some.injEq] at hk
    subst hk
    unfold eqD at h
    split at h <;> first | contradiction | (cases h; done) | skip
    · rw [V_raw vx, V_raw vy]
      simp only [Option.some.injEq] at h
      subst h
      exact ⟨rfl, rfl, bin_nilf t (eqIn_nilf 9999 hu)⟩
    · rw [V_raw vy]
      cases vx
      simp only [Option.some.injEq] at h
      subst h
      exact ⟨rfl, rfl, bin_fn t _ _ _ (eqIn_fn 9999 hu _ _ _)⟩
  · rename_i fs hu
    split at hk
    case isFalse => cases hk
    rename_i hc
    simp only [Bool.and_eq_true, Bool.not_eq_true'] at hc
    simp only [Option.map_eq_some_iff] at hk
    obtain ⟨ks, hks, rfl⟩ := hk
    unfold eqD at h
    split at h <;> first | contradiction | (cases h; done) | skip
    rename_i ks' xs ys he1
    cases he1
    split at h
    case isFalse => cases h
    rename_i hl
    cases vx with
    | agg xs us a1 a2 =>
      cases vy with
      | agg ys vs b1 b2 =>
        have hf : P.fieldsOf t = fs := by simp [Program.fieldsOf, hu]
        have hr : (Op.equalIn 10000 t (.agg us) (.agg vs)).run P w = .ok b w := by
          rw [run_equalIn_agg w 9999 t us vs (by rw [hf]; exact hu) hc.1, hf]
          exact eqCells_run fs.toList ks xs ys 0 hks (fun j hj => by rw [Nat.zero_add]; exact a2 j hj) (fun j hj => by rw [Nat.zero_add]; exact b2 j hj) (by omega) (by omega) b h
        refine ⟨run_eqGuard_agg w _ _ _ _ _ _ hc.2, run_eqGuard_agg w _ _ _ _ _ _ hc.2, ?_, ?_⟩
        · rw [run_eql_struct, hr]; rfl
        · rw [run_neq_struct, hr]; rfl
  · cases hk

theorem did_eq (hT : TV w (Xof s.H ι) ι T a.tmps) (hR : R w s.H ι) (hd : ι s.nx = none) {x y : Operand} {x' y' : Opd} {op : BinOp} {t u : TypeId} {neg : Bool} {k : EqK} (ho : o.op = .binOp op t x y u) (hx : opd x = some x') (hy : opd y = some y')
    (hk : eqK P t = some k) (hop : op = if neg then .neq else .eql) (he : exec (evO T) (.eq neg k x' y') s = some (d, s')) : Did P w s ι a o d s' := by
  have vx := V_opd hT hx
  have vy := V_opd hT hy
  simp only [exec, Option.map_eq_some_iff, Prod.mk.injEq] at he
  obtain ⟨b, hb, rfl, rfl⟩ := he
  obtain ⟨g1, g2, g3, g4⟩ := run_eqD hk vx vy hb x y
  refine Did.still hR hd (v := .bool (neg != b)) ?_ (.raw _)
  cases neg with
  | true => subst hop; simp [execOp, ho, g2, g4]
  | false => subst hop; simp [execOp, ho, g1, g3]
end
end Go.Ai
