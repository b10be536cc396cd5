/-
  A part of an interpreter over abstract data, proved sound once for the model: what it says of the code, the machine does in every order. Conditions: none beyond the statement.
-/
import Derived.Test.YtemeabkpllolmaaGreatDoorAi2
/-! From the model's operations to this form. -/
set_option linter.unusedVariables false
namespace Go.Ai

/-- A constant, cell by cell. -/
def ofV : Value → D
  | .agg vs => .agg (vs.toList.map .raw)
  | .func f fs cs => .fn f (fs.toList.map .raw) (cs.toList.map .raw)
  | v => .raw v
def flatV : Value → Bool
  | .agg vs => vs.all fun v => match v with
    | .agg _ | .tuple _ | .func .. | .iface .. => false
    | _ => true
  | .func _ fs cs => fs.isEmpty && cs.isEmpty
  | .iface .. => false
  | .tuple vs => vs.isEmpty
  | _ => true

def opd : Operand → Option Opd
  | .tmp t => some (.t t)
  | .const v => if flatV v then some (.c (ofV v)) else none
  | .global g => some (.c (.raw (.pointer (some ⟨g, 0, none⟩))))
  | .func f => some (.c (.fn (.func f) [] []))

def opds : List Operand → Option (List Opd)
  | [] => some []
  | x :: xs => match opd x, opds xs with
    | some y, some ys => some (y :: ys)
    | _, _ => none

def isAggT (P : Program) (t : TypeId) : Option Bool :=
  match P.underlying t with
  | some (.struct _) => some true
  | some (.array _ _) => some true
  | some _ => some false
  | none => none
def szT (P : Program) (t : TypeId) : Option Nat := (P.info? t).map (·.size)
def bytesT (P : Program) (t : TypeId) : Option Nat := (P.info? t).map (·.bytes)
def zeroT (P : Program) (t : TypeId) : Option Value := (P.info? t).bind (·.zero)
def zeroCells (P : Program) (t : TypeId) : Option (List D) := match zeroT P t with
  | some v => if flatV v then some (cellsOf (ofV v)) else none
  | none => none
def zeroD (P : Program) (t : TypeId) : Option D := match zeroT P t with
  | some v => if flatV v then some (ofV v) else none
  | none => none

def parts (place : Nat → Option (Nat × Nat)) : List (Nat × Operand) → Option (List (Nat × Nat × Opd))
  | [] => some []
  | (i, x) :: rest => match place i, opd x, parts place rest with
    | some (off, sz), some y, some ys => some ((off, sz, y) :: ys)
    | _, _, _ => none

def optOpd : Option Operand → Option (Option Opd)
  | none => some none
  | some x => (opd x).map some

/-- Kinds of types whose values '==' compares as this form does. -/
def kindT (P : Program) (t : TypeId) : Option Nat := match P.underlying t with
  | some (.int _) => some 0
  | some .string => some 1
  | some .bool => some 2
  | _ => none
def kindsT (P : Program) : List Field → Nat → Option (List Nat)
  | [], _ => some []
  | f :: fs, i => match kindT P f.type, kindsT P fs (i + 1) with
    | some k, some ks => if f.offset == i && f.name != "_" && szT P f.type == some 1 then some (k :: ks) else none
    | _, _ => none
def eqK (P : Program) (t : TypeId) : Option EqK := match P.underlying t with
  | some .bool => some .bool
  | some (.slice _) => some .slice
  | some (.func ..) => some .func
  | some (.struct fs) => if !(P.stoodInHeld t) && !(P.eqGuardType P.depth t) then (kindsT P fs.toList 0).map .struct else none
  | _ => none

def compCall (P : Program) (f : Operand) (args : List Operand) : Option I :=
  match f with
  | .func k => match P.funcs[k]? with
    | some fn => if fn.body.isSome && fn.name != "runtime.NumGoroutine" then (opds args).map (.call k) else none
    | none => none
  | .tmp t => (opds args).map (.callv (.t t))
  | _ => none

def compBuiltin (P : Program) (b : Builtin) (ats : List TypeId) (args : List Operand) : Option I :=
  match b, ats, args with
  | .len, [t], [x] => match P.underlying t, opd x with
    | some .string, some x => some (.len 0 x)
    | some (.slice _), some x => some (.len 1 x)
    | some (.map ..), some x => some (.len 2 x)
    | _, _ => none
  | .append, [t, t'], [x, y] => match P.underlying t with
    | some (.slice e) => match szT P e, bytesT P e, zeroCells P e, opd x, opd y with
      | some sz, some b, some z, some x, some y => if t == t' && 0 < sz && 0 < b && z.length == sz then some (.append e sz b x y) else none
      | _, _, _, _, _ => none
    | _ => none
  | .clear, [t], [x] => match P.underlying t with
    | some (.slice e) => match szT P e, zeroCells P e, opd x with
      | some sz, some z, some x => if z.length == sz then some (.clear sz z x) else none
      | _, _, _ => none
    | _ => none
  | .min, [t, t'], [x, y] => match opd x, opd y with
    | some x, some y => some (.min2 x y)
    | _, _ => none
  | .max, [t, t'], [x, y] => match opd x, opd y with
    | some x, some y => some (.max2 x y)
    | _, _ => none
  | _, _, _ => none

def comp (P : Program) (o : Oper) : Option I :=
  match o.op with
  | .move x => (opd x).map .mv
  | .assign x => (opd x).map .mv
  | .pick c a b => match opd c, opd a, opd b with
    | some c, some a, some b => some (.pick c a b)
    | _, _, _ => none
  | .nilCheck x => (opd x).map .nilChk
  | .alloc e => match zeroCells P e, szT P e with
    | some z, some sz => if z.length == sz then some (.alloc e z) else none
    | _, _ => none
  | .box e x => match opd x with
    | some x => some (.box e x)
    | _ => none
  | .build t ps => match zeroCells P t, P.underlying t with
    | some z, some (.struct fs) => match parts (fun i => (fs[i]?).bind fun f => (szT P f.type).map fun n => (f.offset, n)) ps.toList with
      | some ps => if fs.toList.all (fun f => (szT P f.type).isSome) then some (.build z ps) else none
      | none => none
    | some z, some (.array _ e) => match szT P e with
      | some sz => match parts (fun i => some (i * sz, sz)) ps.toList with
        | some ps => some (.build z ps)
        | none => none
      | none => none
    | _, _ => none
  | .buildSlice t len ps => match P.underlying t with
    | some (.slice e) => match zeroCells P e, szT P e with
      | some z, some sz => match parts (fun i => some (i * sz, sz)) ps.toList with
        | some ps => if z.length == sz && 0 < sz then some (.bslice e sz len z ps) else none
        | none => none
      | _, _ => none
    | _ => none
  | .load t a => match isAggT P t, szT P t, opd a with
    | some ag, some sz, some a => if ag || sz == 1 then some (.load ag sz a) else none
    | _, _, _ => none
  | .store t a x => match szT P t, opd a, opd x with
    | some sz, some a, some x => some (.store sz a x)
    | _, _, _ => none
  | .fieldAddr t x f => match P.underlying t, opd x with
    | some (.struct fs), some x => match fs[f]? with
      | some fd => match szT P fd.type with
        | some n => if n == 0 then none else some (.faddr fd.offset x)
        | none => none
      | none => none
    | _, _ => none
  | .field t x f => match P.underlying t, opd x with
    | some (.struct fs), some x => match fs[f]? with
      | some fd => match isAggT P fd.type, szT P fd.type with
        | some ag, some n => if ag || n == 1 then some (.field ag fd.offset n x) else none
        | _, _ => none
      | none => none
    | _, _ => none
  | .indexAddr t x i => match P.underlying t, opd x, opd i with
    | some (.slice e), some x, some i => (szT P e).map fun sz => .iaddr sz x i
    | some (.array n e), some x, some i => (szT P e).map fun sz => .iaddrA n sz x i
    | _, _, _ => none
  | .index t x i => match P.underlying t, opd x, opd i with
    | some .string, some x, some i => some (.idxS x i)
    | some (.array n e), some x, some i => match isAggT P e, szT P e with
      | some ag, some sz => if ag || sz == 1 then some (.idxA ag n sz x i) else none
      | _, _ => none
    | _, _, _ => none
  | .binOp op t x y _ => match opd x, opd y with
    | some x, some y =>
      match P.underlying t with
      | some (.int _) => some (.bin op x y)
      | some .string => some (.bin op x y)
      | _ => match eqK P t, op with
        | some k, .eql => some (.eq false k x y)
        | some k, .neq => some (.eq true k x y)
        | _, _ => none
    | _, _ => none
  | .unOp op _ x => match op with
    | .not => (opd x).map (.un .not)
    | .neg => (opd x).map (.un .neg)
    | _ => none
  | .convert s d x => match P.underlying s, P.underlying d with
    | some (.int _), some (.int k) => (opd x).map (.conv k)
    | some .string, some .string => (opd x).map .convS
    | _, _ => none
  | .slice t x lo hi mx => match P.underlying t, opd x, optOpd lo, optOpd hi, optOpd mx with
    | some (.slice e), some x, some lo, some hi, some mx => (szT P e).map fun sz => .slice sz x lo hi mx
    | some .string, some x, some lo, some hi, some none => some (.sliceS x lo hi)
    | _, _, _, _, _ => none
  | .makeSlice t l c => match P.underlying t with
    | some (.slice e) => match zeroCells P e, szT P e, bytesT P e, opd l, opd c with
      | some z, some sz, some b, some l, some c => if z.length == sz && 0 < sz then some (.mk e sz b z l c) else none
      | _, _, _, _, _ => none
    | _ => none
  | .makeMap t none => some .mkmap
  | .lookup t x k ok => match P.underlying t with
    | some (.map kt et) => match kindT P kt, zeroD P et, opd x, opd k with
      | some kk, some z, some x, some k => some (.lookup kk z ok x k)
      | _, _, _, _ => none
    | _ => none
  | .mapUpdate t m k v => match P.underlying t with
    | some (.map kt et) => match kindT P kt, opd m, opd k, opd v with
      | some kk, some m, some k, some v => some (.mupd kk m k v)
      | _, _, _, _ => none
    | _ => none
  | .insert t m k v => match P.underlying t with
    | some (.map kt et) => match kindT P kt, opd m, opd k, opd v with
      | some kk, some m, some k, some v => some (.mupd kk m k v)
      | _, _, _, _ => none
    | _ => none
  | .makeFunc f first cap => match f with
    | .func k => match opds first.toList, opds cap.toList with
      | some a, some b => some (.mkfn (.func k) a b)
      | _, _ => none
    | _ => none
  | .makeInterface t x => match P.underlying t with
    | some (.interface _) => none
    | some _ => (opd x).map (.mkif t)
    | none => none
  | .extract x i => (opd x).map fun x => .extract x i
  | .call c => match c.callee with
    | .value f => compCall P f c.args.toList
    | .builtin b => compBuiltin P b c.argTypes.toList c.args.toList
    | .invoke .. => none
  | .panic x => (opd x).map .panic
  | _ => none

/-! ### Regions: 'af': after which operations of its region an operation comes -/
def compOp (P : Program) (ops : Array Oper) (o : Oper) : Option IOp :=
  match comp P o with
  | some i =>
    match o.guard with
    | none => some { dst := o.dst, i, guard := none, af := (o.after.toList.filter (Region.binds .any)).map (·.on) }
    | some (k, b) => match (ops[k]?).bind (·.dst) with
      | some t => some { dst := o.dst, i, guard := some (t, b), af := (o.after.toList.filter (Region.binds .any)).map (·.on) }
      | none => none
  | none => none
def compOpL (P : Program) (ops : Array Oper) : List Oper → Option (List IOp)
  | [] => some []
  | o :: rest => match compOp P ops o, compOpL P ops rest with
    | some i, some l => some (i :: l)
    | _, _ => none
def compOps (P : Program) (ops : Array Oper) : Option (List IOp) := compOpL P ops ops.toList
def compC (P : Program) : Code → Option IC
  | .skip => some .skip
  | .region _ ops draw => (compOps P ops).map fun l => if draw then (match quietOrder l with
      | some l' => .region l'
      | none => .draw l) else .region l
  | .seq a b => match compC P a, compC P b with
    | some a, some b => some (.seq a b)
    | _, _ => none
  | .cond c a b => match opd c, compC P a, compC P b with
    | some c, some a, some b => some (.cond c a b)
    | _, _, _ => none
  | .block id b => (compC P b).map (.block id)
  | .loop b => (compC P b).map .loop
  | .scope b => (compC P b).map .scope
  | .exit id => some (.exit id)
  | .ret => some .ret
  | _ => none
def compRes (P : Program) : List ResultVar → Option (List RV)
  | [] => some []
  | .tmp t :: rs => (compRes P rs).map (.tmp t :: ·)
  | .cell a t :: rs => match isAggT P t, szT P t, compRes P rs with
    | some ag, some sz, some l => if ag || sz == 1 then some (.cell a ag sz :: l) else none
    | _, _, _ => none
def compF (P : Program) (keep : Bool) (fn : Func) : Option IF :=
  match fn.body with
  | some c => match compC P c, compRes P fn.results.toList with
    | some b, some res => if fn.name == "runtime.NumGoroutine" then none else some { nt := fn.ntmps, res, keep, body := b }
    | _, _ => none
  | none => none
end Go.Ai
