import Derived.Test.YtpnkldjbiinnpaaAmD
import Derived.Scope
import Derived.Deep.Quiet
/- From the model's code to the plain machine's. -/
namespace Go.Proofs.Ytpnkldjbiinnpaa.AM
open Go Go.RowKit
set_option linter.unusedVariables false
set_option linter.unusedSimpArgs false
def cst : Value → AV
  | .agg cs => .agg (cs.toList.map .sc)
  | v => .sc v
structure Env0 where
  gl : Nat → Option (List Value)
  nt : Nat
  accs : List (Nat × Option Nat)
def compO (E : Env0) : Operand → Option Opd
  | .tmp t => some (.tmp t)
  | .const v => some (.cst (cst v))
  | .func f => some (.cst (.func (.func f) [] []))
  | .global g => (E.gl g).map fun l => .cst (.ref (l.map .sc))
def compL (E : Env0) : List Operand → Option (List Opd)
  | [] => some []
  | x :: r => (compO E x).bind fun x => (compL E r).map (x :: ·)
def compM (E : Env0) : Option Operand → Option (Option Opd)
  | none => some none
  | some x => (compO E x).map some
def kOf (P : Program) (t : TypeId) : Option (Option Nat) :=
  (P.underlying t).bind fun u => (P.info? t).bind fun i => match u with
    | .struct _ | .array _ _ => if i.size = 0 then none else some (some i.size)
    | _ => if i.size = 1 then some none else none
def zeroOf (P : Program) (t : TypeId) : Option Value := (P.info? t).bind (·.zero)
def compParts (E : Env0) (place : Nat → Option (Nat × Nat)) : List (Nat × Operand) → Option (List (Nat × Nat × Opd))
  | [] => some []
  | (i, x) :: r => (place i).bind fun (o, n) => (compO E x).bind fun x => (compParts E place r).map ((o, n, x) :: ·)
def compEls (E : Env0) : List (Nat × Operand) → Option (List (Nat × Opd))
  | [] => some []
  | (i, x) :: r => (compO E x).bind fun x => (compEls E r).map ((i, x) :: ·)
def nilK : TypeDesc → Option NK
  | .pointer _ => some .ptr
  | .slice _ => some .slice
  | .map _ _ => some .map
  | .func _ _ _ => some .func
  | _ => none
def isNilC : NK → Operand → Bool
  | .ptr, .const (.pointer none) => true
  | .map, .const (.map none) => true
  | .func, .const .nilFunc => true
  | .slice, .const (.slice none 0 0) => true
  | _, _ => false
def plainU : TypeDesc → Bool
  | .int _ | .string => true
  | _ => false
def compEq (P : Program) (E : Env0) (neg : Bool) (t : TypeId) (x y : Operand) : Option AOp :=
  (P.underlying t).bind fun u => match u with
    | .bool => (compO E x).bind fun x => (compO E y).map fun y => .eqBool neg x y
    | .array n e => (P.underlying e).bind fun ue => (P.info? e).bind fun i => match ue with
      | .int _ => if i.size = 1 ∧ P.eqGuardType P.depth t = false then (compO E x).bind fun x => (compO E y).map fun y => .eqArr neg n x y else none
      | _ => none
    | u => (nilK u).bind fun k => if isNilC k y then (compO E x).map (.eqNil neg k) else if isNilC k x then (compO E y).map (.eqNil neg k) else none
def compB (P : Program) (E : Env0) (b : Builtin) (ts : Array TypeId) (args : List Operand) : Option AOp :=
  match b, args with
  | .len, [x] => (ts[0]?).bind fun t => (P.underlying t).bind fun u => match u with
    | .string => (compO E x).map .lenT
    | .slice _ => (compO E x).map .len
    | .array n _ => some (.move (.cst (.int .i64 n)))
    | .pointer a => (P.underlying a).bind fun u => match u with | .array n _ => some (.move (.cst (.int .i64 n))) | _ => none
    | _ => none
  | .append, [s, x] => (ts[0]?).bind fun t => (ts[1]?).bind fun tx => (P.underlying t).bind fun u => (P.underlying tx).bind fun ux => match u, ux with
    | _, .int _ => none
    | .slice e, _ => (kOf P e).bind fun k => (P.info? e).bind fun i => match i.zero with
      | some z => if i.size = kz k ∧ z.cells.size = kz k ∧ z.cells.toList.all (·.oneCell') = true ∧ 0 < i.bytes then (compO E s).bind fun s => (compO E x).map fun x => .append k i.bytes s x else none
      | none => none
    | _, _ => none
  | .copy, [d, s] => (ts[0]?).bind fun t => (P.underlying t).bind fun u => match u with
    | .slice e => (kOf P e).bind fun k => (P.info? e).bind fun i => if i.size = kz k then (compO E d).bind fun d => (compO E s).map fun s => .copy k d s else none
    | _ => none
  | .min, [x, y] => (compO E x).bind fun x => (compO E y).map fun y => .minmax false x y
  | .max, [x, y] => (compO E x).bind fun x => (compO E y).map fun y => .minmax true x y
  | _, _ => none
def compOp (P : Program) (E : Env0) (o : Oper) : Option AOp :=
  match o.op with
  | .move x | .assign x => match x, o.dst.bind fun d => E.accs.lookup d with
    | .const (.slice none 0 0), some k => some (.acc k (.cst .nil))
    | x, _ => (compO E x).map .move
  | .pick c a b => (compO E c).bind fun c => (compO E a).bind fun a => (compO E b).map fun b => .pick c a b
  | .alloc t => (zeroOf P t).bind fun z => if z.cells.toList.all (·.oneCell') then some (.alloc (z.cells.toList.map .sc)) else none
  | .box _ x => (compO E x).map .box
  | .build t parts => (zeroOf P t).bind fun z => (P.underlying t).bind fun u => match u with
    | .struct fs => if fs.toList.all (fun f => (P.info? f.type).isSome) then (compParts E (fun i => (fs[i]?).bind fun f => (P.info? f.type).map fun i => (f.offset, i.size)) parts.toList).map (.build (z.cells.toList.map .sc)) else none
    | .array _ e => (P.info? e).bind fun i => (compParts E (fun j => some (j * i.size, i.size)) parts.toList).map (.build (z.cells.toList.map .sc))
    | _ => none
  | .buildSlice t len parts => (P.underlying t).bind fun u => match u with
    | .slice e => (kOf P e).bind fun k => (zeroOf P e).bind fun z => (P.info? e).bind fun i => if len * i.size ≤ 16777216 ∧ i.size = kz k ∧ elFits k (cst z) = true then (compEls E parts.toList).map (.buildSlice k (cst z) len) else none
    | _ => none
  | .load t a => (kOf P t).bind fun k => (compO E a).map (.load k)
  | .store t a x => (P.info? t).bind fun i => (compO E a).bind fun a => (compO E x).map fun x => .store i.size a x
  | .nilCheck x => (compO E x).map .nilCheck
  | .binOp op t x y _ => (P.underlying t).bind fun u => if plainU u then (compO E x).bind fun x => (compO E y).map fun y => .bin op x y else match op with
    | .eql => compEq P E false t x y
    | .neq => compEq P E true t x y
    | _ => none
  | .unOp op _ x => (compO E x).map (.un op)
  | .convert s d x => (P.underlying s).bind fun us => (P.underlying d).bind fun ud => match us, ud with
    | .int _, .int k => (compO E x).map (.convInt k)
    | .string, .string => (compO E x).map .convSS
    | .string, .slice e => (P.underlying e).bind fun ue => match ue with | .int .u8 => (compO E x).map .convBytes | _ => none
    | .slice e, .string => (P.underlying e).bind fun ue => match ue with | .int .u8 => (compO E x).map .convStr | _ => none
    | _, _ => none
  | .sliceToArrayPointer t x => (P.underlying t).bind fun u => match u with
    | .array n e => (kOf P e).bind fun k => if k = none then (compO E x).map (.toArr n) else none
    | _ => none
  | .makeFunc fn first caps => (compL E first.toList).bind fun a => (compL E caps.toList).map fun b => .makeFunc fn a b
  | .makeSlice t l c => (P.underlying t).bind fun u => match u with
    | .slice e => (kOf P e).bind fun k => (zeroOf P e).bind fun z => (P.info? e).bind fun i => if z.cells.size = kz k ∧ i.size = kz k ∧ z.cells.toList.all (·.oneCell') = true then (compO E l).bind fun l => (compO E c).map fun c => .makeSlice k (z.cells.toList.map .sc) i.bytes l c else none
    | _ => none
  | .slice t x lo hi mx => (P.underlying t).bind fun u => (compO E x).bind fun x => (compM E lo).bind fun lo => (compM E hi).bind fun hi => (compM E mx).bind fun mx => match u with
    | .string => some (.slice .str none x lo hi mx)
    | .slice e => (kOf P e).bind fun k => (P.info? e).bind fun i => if i.size = kz k then some (.slice .slice k x lo hi mx) else none
    | .array n e => (kOf P e).bind fun k => (P.info? e).bind fun i => if i.size = kz k then some (.slice (.arr n) k x lo hi mx) else none
    | _ => none
  | .fieldAddr t x f => (P.underlying t).bind fun u => match u with
    | .struct fs => (fs[f]?).bind fun f => (P.info? f.type).bind fun i => if i.size = 0 then none else (compO E x).map (.fieldAddr f.offset i.size)
    | _ => none
  | .field t x f => (P.underlying t).bind fun u => match u with
    | .struct fs => (fs[f]?).bind fun f => (kOf P f.type).bind fun k => (compO E x).map (.field k f.offset)
    | _ => none
  | .indexAddr t x ix => (P.underlying t).bind fun u => (compO E x).bind fun x => (compO E ix).bind fun ix => match u with
    | .slice e => (kOf P e).bind fun k => (P.info? e).bind fun i => if i.size = kz k then some (.indexAddr .slice k x ix) else none
    | .array n e => (kOf P e).bind fun k => (P.info? e).bind fun i => if i.size = kz k then some (.indexAddr (.arr n) k x ix) else none
    | _ => none
  | .index t x ix => (P.underlying t).bind fun u => (compO E x).bind fun x => (compO E ix).bind fun ix => match u with
    | .string => some (.indexStr x ix)
    | .array n e => (kOf P e).bind fun k => (P.info? e).bind fun i => if i.size = kz k then some (.index k n x ix) else none
    | _ => none
  | .extract t i => (compO E t).map (.extract · i)
  | .call c => match c.callee with
    | .value f => (compO E f).bind fun f => (compL E c.args.toList).map (.call f)
    | .builtin b => compB P E b c.argTypes c.args.toList
    | .invoke _ _ => none
  | _ => none
def compG (ops : Array Oper) : Option (Nat × Bool) → Option (Option (Nat × Bool))
  | none => some none
  | some (j, w) => ((ops[j]?).bind (·.dst)).map fun t => some (t, w)
def dstOK (nt : Nat) : Option Nat → Bool
  | some d => decide (d < nt)
  | none => true
def compOper (P : Program) (E : Env0) (ops : Array Oper) (o : Oper) : Option AOper :=
  (compG ops o.guard).bind fun g => if dstOK E.nt o.dst then some ⟨o.dst, (compOp P E o).getD .stuck, g⟩ else none
def compOps (P : Program) (E : Env0) (ops : Array Oper) : List Oper → Option (List AOper)
  | [] => some []
  | o :: r => (compOper P E ops o).bind fun o => (compOps P E ops r).map (o :: ·)
/-- does the last one only read? -/
def endsQ (os : List AOper) : Bool := match os.getLast? with
  | some o => o.op.still || (match o.op with | .load .. | .convStr .. | .call .. => true | _ => false)
  | none => true
def quiT (P : Program) (t : TypeId) : Bool := match P.underlying t with | some (.int _) | some .bool | some .string => true | _ => false
/-- may it stand in a row that only reads? (a call: one that hands back plain values) -/
def quiL (P : Program) (o : Op) : Bool := match o with
  | .load t _ => quiT P t || (match P.cellTypes P.depth t with | some ts => ts.all (quiT P) | none => false)
  | _ => true
def quiB (P : Program) (p : Oper × AOper) : Bool := p.2.op.still || (match p.2.op with
  | .load .. => quiL P p.1.op
  | .convStr _ => true
  | .call (.cst (.func (.func f) _ _)) _ => match P.funcs[f]? with | some fn => fn.resultTypes.toList.all (quiT P) | none => false
  | _ => false)
def upsOf (ops : Array Oper) : List (List Nat) := (List.range ops.size).map (upB ops)
def stsOf (ops : Array Oper) (os : List AOper) (ups : List (List Nat)) : List (Nat × Nat) := (List.range ops.size).map (stOf ups os ops.size)
def compC (P : Program) (E : Env0) : Code → List (List Nat × Bool) → Option (AC × List (List Nat × Bool))
  | .skip, l => some (.skip, l)
  | .label _, l => some (.skip, l)
  | .region _ ops draw, l => (compOps P E ops ops.toList).bind fun os => if draw then
      (if endsQ os = true ∧ Region.lexB .any ops = true ∧ (((ops.toList.zip os).all fun o => quiB P o)) = true then some (.regQ os, l)
      else if lastB ops = true ∧ (((ops.toList.zip os).take (ops.size - 1)).all fun o => quiB P o) = true then some (.seq (.regQ (os.take (ops.size - 1))) (.reg (os.drop (ops.size - 1))), l)
      else if okU ops os (upsOf ops) (stsOf ops os (upsOf ops)) = true then some (.regD os (stsOf ops os (upsOf ops)), l)
      else some (.reg [⟨none, .stuck, none⟩], l)) else some (.reg os, l)
  | .seq a b, l => (compC P E a l).bind fun (a, l) => (compC P E b l).map fun (b, l) => (.seq a b, l)
  | .cond c a b, l => (compO E c).bind fun c => (compC P E a l).bind fun (a, l) => (compC P E b l).map fun (b, l) => (.cond c a b, l)
  | .block id b, l => (compC P E b l).map fun (b, l) => (.block id b, l)
  | .loop b, l => match l with | [] => none | (keep, gc) :: l => (compC P E b l).map fun (b, l) => (.loop keep gc b, l)
  | .exit id, l => some (.exit id, l)
  | .scope b, l => (compC P E b l).map fun (b, l) => (.scope b, l)
  | .ret, l => some (.ret, l)
  | _, _ => none
def compR (P : Program) : List ResultVar → Option (List ARes)
  | [] => some []
  | .tmp t :: r => (compR P r).map (.tmp t :: ·)
  | .cell t ty :: r => (kOf P ty).bind fun k => (compR P r).map (.cell t k :: ·)
/-- the plain machine's text of a function; its loops' live slots, the slots that gather and what is pure are said from outside -/
def compF (P : Program) (gl : Nat → Option (List Value)) (pure : Bool) (accs : List (Nat × Option Nat)) (keeps : List (List Nat × Bool)) (fn : Func) : Option AFn :=
  fn.body.bind fun c => (compC P ⟨gl, fn.ntmps, accs⟩ c keeps).bind fun (b, l) => (compR P fn.results.toList).bind fun rs =>
    if fn.name = "runtime.NumGoroutine" then none else if fn.params.size + fn.nfree ≤ fn.ntmps then some ⟨fn.ntmps, pure, fn.params.size + fn.nfree, rs, b⟩ else none
end Go.Proofs.Ytpnkldjbiinnpaa.AM
