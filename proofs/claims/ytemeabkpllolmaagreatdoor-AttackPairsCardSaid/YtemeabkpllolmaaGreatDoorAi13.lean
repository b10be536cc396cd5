/-
  A part of an interpreter over abstract data, proved sound once for the model: what it says of the code, the machine does in every order. Conditions: none beyond the statement.
-/
import Derived.Test.YtemeabkpllolmaaGreatDoorAi12
/-! Every operation that is no call. -/
set_option linter.unusedVariables false
set_option linter.unusedSimpArgs false
namespace Go.Ai
section
variable {P : Program} {w : World} {s : St} {ι : Imap} {T : List D} {a : Act} {o : Oper} {d : D} {s' : St}

theorem opds_one {xs : Array Operand} {t : Operand} (h : xs.toList = [t]) : xs = #[t] := Array.ext' (by simpa using h)
theorem arr_list {α : Type} {xs : Array α} {l : List α} (h : xs.toList = l) : xs = l.toArray := Array.ext' (by simpa using h)

theorem builtin_ok (hT : TV w (Xof s.H ι) ι T a.tmps) (hR : R w s.H ι) (hd : ι s.nx = none) {c : Call} {b : Builtin} {i : I} (ho : o.op = .call c) (hc : c.callee = .builtin b)
    (hi : compBuiltin P b c.argTypes.toList c.args.toList = some i) (he : exec (evO T) i s = some (d, s')) : Did P w s ι a o d s' := by
  generalize hat : c.argTypes.toList = ats at hi
  generalize hargs : c.args.toList = args at hi
  have hat' := arr_list hat
  have hargs' := arr_list hargs
  unfold compBuiltin at hi
  split at hi
  · -- len
    rename_i t x
    split at hi
    · rename_i x' hu hx
      simp only [Option.some.injEq] at hi
      subst hi
      exact did_len hT hR hd ho hc hat' hargs' hx (.inl ⟨hu, rfl⟩) he
    · rename_i e x' hu hx
      simp only [Option.some.injEq] at hi
      subst hi
      exact did_len hT hR hd ho hc hat' hargs' hx (.inr (.inl ⟨_, hu, rfl⟩)) he
    · rename_i k e x' hu hx
      simp only [Option.some.injEq] at hi
      subst hi
      exact did_len hT hR hd ho hc hat' hargs' hx (.inr (.inr ⟨_, _, hu, rfl⟩)) he
    · cases hi
  · -- append
    rename_i t t' x y
    split at hi
    case h_2 => cases hi
    rename_i e hu
    split at hi
    case h_2 => cases hi
    rename_i sz bb z x' y' hs hb hz hx hy
    split at hi
    case isFalse => cases hi
    rename_i hcond
    simp only [Bool.and_eq_true, beq_iff_eq, decide_eq_true_eq] at hcond
    obtain ⟨⟨⟨rfl, h1⟩, h2⟩, h3⟩ := hcond
    simp only [Option.some.injEq] at hi
    subst hi
    exact did_append hT hR hd ho hc hat' hargs' hx hy hu hs hb hz h3 h1 he
  · -- clear
    rename_i t x
    split at hi
    case h_2 => cases hi
    rename_i e hu
    split at hi
    case h_2 => cases hi
    rename_i sz z x' hs hz hx
    split at hi
    case isFalse => cases hi
    rename_i hcond
    simp only [Option.some.injEq] at hi
    subst hi
    exact did_clear hT hR hd ho hc hat' hargs' hx hu hs hz (by simpa using hcond) he
  · -- min
    rename_i t t' x y
    split at hi
    case h_2 => cases hi
    rename_i x' y' hx hy
    simp only [Option.some.injEq] at hi
    subst hi
    exact did_min2 hT hR hd ho hc hargs' hx hy he
  · -- max
    rename_i t t' x y
    split at hi
    case h_2 => cases hi
    rename_i x' y' hx hy
    simp only [Option.some.injEq] at hi
    subst hi
    exact did_max2 hT hR hd ho hc hargs' hx hy he
  · cases hi

theorem exec_ok (hT : TV w (Xof s.H ι) ι T a.tmps) (hR : R w s.H ι) (hd : ι s.nx = none) {i : I} (hi : comp P o = some i) (he : exec (evO T) i s = some (d, s')) : Did P w s ι a o d s' := by
  unfold comp at hi
  split at hi
  · -- move
    rename_i x ho
    simp only [Option.map_eq_some_iff] at hi
    obtain ⟨x', hx, rfl⟩ := hi
    exact did_mv hT hR hd (.inl ho) hx he
  · rename_i x ho
    simp only [Option.map_eq_some_iff] at hi
    obtain ⟨x', hx, rfl⟩ := hi
    exact did_mv hT hR hd (.inr ho) hx he
  · -- pick
    rename_i c x y ho
    split at hi
    case h_2 => cases hi
    rename_i c' x' y' h1 h2 h3
    simp only [Option.some.injEq] at hi
    subst hi
    exact did_pick hT hR hd ho h1 h2 h3 he
  · -- nilCheck
    rename_i x ho
    simp only [Option.map_eq_some_iff] at hi
    obtain ⟨x', hx, rfl⟩ := hi
    exact did_nilChk hT hR hd ho hx he
  · -- alloc
    rename_i e ho
    split at hi
    case h_2 => cases hi
    rename_i z sz hz hs
    split at hi
    case isFalse => cases hi
    simp only [Option.some.injEq] at hi
    subst hi
    exact did_alloc hT hR hd ho hz he
  · -- box
    rename_i e x ho
    split at hi
    case h_2 => cases hi
    rename_i x' hx
    simp only [Option.some.injEq] at hi
    subst hi
    exact did_box hT hR hd ho hx he
  · -- build
    rename_i t ps ho
    split at hi
    · rename_i z fs hz hu
      split at hi
      case h_2 => cases hi
      rename_i ps' hps
      split at hi
      case isFalse => cases hi
      rename_i hall
      simp only [Option.some.injEq] at hi
      subst hi
      exact did_build_struct hT hR hd ho hz hu hps hall he
    · rename_i z n e hz hu
      split at hi
      case h_2 => cases hi
      rename_i sz hs
      split at hi
      case h_2 => cases hi
      rename_i ps' hps
      simp only [Option.some.injEq] at hi
      subst hi
      exact did_build_array hT hR hd ho hz hu hs hps he
    · cases hi
  · -- buildSlice
    rename_i t n ps ho
    split at hi
    case h_2 => cases hi
    rename_i e hu
    split at hi
    case h_2 => cases hi
    rename_i z sz hz hs
    split at hi
    case h_2 => cases hi
    rename_i ps' hps
    split at hi
    case isFalse => cases hi
    rename_i hcond
    simp only [Bool.and_eq_true, beq_iff_eq, decide_eq_true_eq] at hcond
    simp only [Option.some.injEq] at hi
    subst hi
    exact did_bslice hT hR hd ho hz hu hs hps hcond.1 hcond.2 he
  · -- load
    rename_i t x ho
    split at hi
    case h_2 => cases hi
    rename_i ag sz x' ha hs hx
    split at hi
    case isFalse => cases hi
    simp only [Option.some.injEq] at hi
    subst hi
    exact did_load hT hR hd ho hx ha hs he
  · -- store
    rename_i t x y ho
    split at hi
    case h_2 => cases hi
    rename_i sz x' y' hs hx hy
    simp only [Option.some.injEq] at hi
    subst hi
    exact did_store hT hR hd ho hx hy hs he
  · -- fieldAddr
    rename_i t x f ho
    split at hi
    case h_2 => cases hi
    rename_i fs x' hu hx
    split at hi
    case h_2 => cases hi
    rename_i fd hf
    split at hi
    case h_2 => cases hi
    rename_i n hs
    split at hi
    case isTrue => cases hi
    rename_i hn
    simp only [Option.some.injEq] at hi
    subst hi
    exact did_faddr hT hR hd ho hx hu hf hs (by simpa using hn) he
  · -- field
    rename_i t x f ho
    split at hi
    case h_2 => cases hi
    rename_i fs x' hu hx
    split at hi
    case h_2 => cases hi
    rename_i fd hf
    split at hi
    case h_2 => cases hi
    rename_i ag n ha hs
    split at hi
    case isFalse => cases hi
    simp only [Option.some.injEq] at hi
    subst hi
    exact did_field hT hR hd ho hx hu hf ha hs he
  · -- indexAddr
    rename_i t x y ho
    split at hi
    · rename_i e x' y' hu hx hy
      simp only [Option.map_eq_some_iff] at hi
      obtain ⟨sz, hs, rfl⟩ := hi
      exact did_iaddr hT hR hd ho hx hy hu hs he
    · rename_i n e x' y' hu hx hy
      simp only [Option.map_eq_some_iff] at hi
      obtain ⟨sz, hs, rfl⟩ := hi
      exact did_iaddrA hT hR hd ho hx hy hu hs he
    · cases hi
  · -- index
    rename_i t x y ho
    split at hi
    · rename_i x' y' hu hx hy
      simp only [Option.some.injEq] at hi
      subst hi
      exact did_idxS hT hR hd ho hx hy hu he
    · rename_i n e x' y' hu hx hy
      split at hi
      case h_2 => cases hi
      rename_i ag sz ha hs
      split at hi
      case isFalse => cases hi
      simp only [Option.some.injEq] at hi
      subst hi
      exact did_idxA hT hR hd ho hx hy hu ha hs he
    · cases hi
  · -- binOp
    rename_i op t x y u ho
    split at hi
    case h_2 => cases hi
    rename_i x' y' hx hy
    split at hi
    · simp only [Option.some.injEq] at hi
      subst hi
      exact did_bin hT hR hd ho hx hy he
    · simp only [Option.some.injEq] at hi
      subst hi
      exact did_bin hT hR hd ho hx hy he
    · split at hi
      · rename_i k hk
        simp only [Option.some.injEq] at hi
        subst hi
        exact did_eq hT hR hd ho hx hy hk rfl he
      · rename_i k hk
        simp only [Option.some.injEq] at hi
        subst hi
        exact did_eq hT hR hd ho hx hy hk rfl he
      · cases hi
  · -- unOp
    rename_i op t x ho
    split at hi
    · simp only [Option.map_eq_some_iff] at hi
      obtain ⟨x', hx, rfl⟩ := hi
      exact did_un hT hR hd ho hx he
    · simp only [Option.map_eq_some_iff] at hi
      obtain ⟨x', hx, rfl⟩ := hi
      exact did_un hT hR hd ho hx he
    · cases hi
  · -- convert
    rename_i t u x ho
    split at hi
    · rename_i k k' ht hu
      simp only [Option.map_eq_some_iff] at hi
      obtain ⟨x', hx, rfl⟩ := hi
      exact did_conv hT hR hd ho hx ht hu he
    · rename_i ht hu
      simp only [Option.map_eq_some_iff] at hi
      obtain ⟨x', hx, rfl⟩ := hi
      exact did_convS hT hR hd ho hx ht hu he
    · cases hi
  · -- slice
    rename_i t x lo hi' mx ho
    split at hi
    · rename_i e x' lo' hi'' mx' hu hx h1 h2 h3
      simp only [Option.map_eq_some_iff] at hi
      obtain ⟨sz, hs, rfl⟩ := hi
      exact did_slice hT hR hd ho hx h1 h2 h3 hu hs he
    · rename_i x' lo' hi'' hu hx h1 h2 h3
      simp only [Option.some.injEq] at hi
      subst hi
      have hm : mx = none := by
        cases mx with
        | none => rfl
        | some m =>
          simp only [optOpd, Option.map_eq_some_iff] at h3
          obtain ⟨_, _, h⟩ := h3
          cases h
      subst hm
      exact did_sliceS hT hR hd ho hx h1 h2 hu he
    · cases hi
  · -- makeSlice
    rename_i t l c ho
    split at hi
    case h_2 => cases hi
    rename_i e hu
    split at hi
    case h_2 => cases hi
    rename_i z sz b l' c' hz hs hb hl hc
    split at hi
    case isFalse => cases hi
    rename_i hcond
    simp only [Bool.and_eq_true, beq_iff_eq, decide_eq_true_eq] at hcond
    simp only [Option.some.injEq] at hi
    subst hi
    exact did_mk hT hR hd ho hz hu hs hb hl hc hcond.1 hcond.2 he
  · -- makeMap
    rename_i t ho
    simp only [Option.some.injEq] at hi
    subst hi
    exact did_mkmap hT hR hd ho he
  · -- lookup
    rename_i t x k ok ho
    split at hi
    case h_2 => cases hi
    rename_i kt et hu
    split at hi
    case h_2 => cases hi
    rename_i kk z x' k' hk hz hx hk'
    simp only [Option.some.injEq] at hi
    subst hi
    exact did_lookup hT hR hd ho hx hk' hu hk hz he
  · -- mapUpdate
    rename_i t m k v ho
    split at hi
    case h_2 => cases hi
    rename_i kt et hu
    split at hi
    case h_2 => cases hi
    rename_i kk x' k' v' hk hx hk' hv
    simp only [Option.some.injEq] at hi
    subst hi
    exact did_mupd hT hR hd (.inl ho) hx hk' hv hu hk he
  · -- insert
    rename_i t m k v ho
    split at hi
    case h_2 => cases hi
    rename_i kt et hu
    split at hi
    case h_2 => cases hi
    rename_i kk x' k' v' hk hx hk' hv
    simp only [Option.some.injEq] at hi
    subst hi
    exact did_mupd hT hR hd (.inr ho) hx hk' hv hu hk he
  · -- makeFunc
    rename_i f xs ys ho
    split at hi
    case h_2 => cases hi
    rename_i k
    split at hi
    case h_2 => cases hi
    rename_i xs' ys' h1 h2
    simp only [Option.some.injEq] at hi
    subst hi
    exact did_mkfn hT hR hd ho h1 h2 he
  · -- makeInterface
    rename_i t x ho
    split at hi
    · cases hi
    · rename_i u hn hu
      simp only [Option.map_eq_some_iff] at hi
      obtain ⟨x', hx, rfl⟩ := hi
      exact did_mkif hT hR hd ho hx hu (fun ms e => hn ms e) he
    · cases hi
  · -- extract
    rename_i x k ho
    simp only [Option.map_eq_some_iff] at hi
    obtain ⟨x', hx, rfl⟩ := hi
    exact did_extract hT hR hd ho hx he
  · -- call
    rename_i c ho
    split at hi
    · rename_i f hf
      unfold compCall at hi
      split at hi
      · split at hi
        · split at hi
          · simp only [Option.map_eq_some_iff] at hi
            obtain ⟨x', hx, rfl⟩ := hi
            simp [exec] at he
          · cases hi
        · cases hi
      · simp only [Option.map_eq_some_iff] at hi
        obtain ⟨x', hx, rfl⟩ := hi
        simp [exec] at he
      · cases hi
    · rename_i b hb
      exact builtin_ok hT hR hd ho hb hi he
    · cases hi
  · -- panic
    simp only [Option.map_eq_some_iff] at hi
    obtain ⟨x', hx, rfl⟩ := hi
    simp [exec] at he
  · cases hi
end
end Go.Ai
