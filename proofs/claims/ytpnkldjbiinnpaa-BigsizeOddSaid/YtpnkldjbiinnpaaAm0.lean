import Derived.Test.YtpnkldjbiinnpaaProg
import Derived.WalkKit
import Derived.Laws.BytesArg
/- A plain machine over plain data: the values, the operations, the code, and its runs. -/
namespace Go.Proofs.Ytpnkldjbiinnpaa.AM
open Go
set_option linter.unusedVariables false
/-- who may append to a slice in place -/
inductive AOwn where
  | none | full | tok (i : Nat) | fresh
  deriving DecidableEq, Inhabited
/-- plain values: a slice holds its elements, a reference its cells; a pointer names a box -/
inductive AV where
  | sc (v : Value)
  | unk
  | ptr (id off : Nat)
  | ref (cells : List AV)
  | slice (own : AOwn) (k : Option Nat) (els : List AV)
  | ms (id off : Nat) (k : Option Nat) (len : Nat)
  | func (fn : Fn) (first caps : List AV)
  | agg (cells : List AV)
  | tup (vs : List AV)
  | map (id : Nat)
  deriving Inhabited
abbrev AV.int (k : IntKind) (n : Int) : AV := .sc (.int k n)
abbrev AV.bool (b : Bool) : AV := .sc (.bool b)
abbrev AV.str (s : ByteArray) : AV := .sc (.string s)
abbrev AV.nil : AV := .sc (.slice Option.none 0 0)
abbrev AV.undef : AV := .sc Go.undef
inductive AObj where
  | cells (cs : List AV)
  | row (k : Option Nat) (n : Nat)
  | map (es : List (AV × AV))
  deriving Inhabited
abbrev Heap := List AObj
abbrev Env := List (Nat × AV)
def getE : Env → Nat → AV
  | [], _ => .unk
  | (u, v) :: r, t => if u = t then v else getE r t
def setE (e : Env) (d : Option Nat) (v : AV) : Env := match d with | some d => (d, v) :: e | none => e
inductive Opd where
  | tmp (t : Nat)
  | cst (v : AV)
  deriving Inhabited
def evO (e : Env) : Opd → AV
  | .tmp t => getE e t
  | .cst v => v
/-- one cell's value -/
def oneCell : Value → Bool
  | .agg _ | .tuple _ => false
  | _ => true
def cellsOf : AV → Option (List AV)
  | .agg cs => some cs
  | .sc v => if oneCell v then some [.sc v] else none
  | .tup _ | .unk => none
  | x => some [x]
/-- values of one cell -/
def one : AV → Bool
  | .agg _ | .tup _ | .unk => false
  | .sc v => oneCell v
  | _ => true
def oneL : List AV → Bool
  | [] => true
  | x :: xs => one x && oneL xs
def elCells : AV → List AV
  | .agg cs => cs
  | x => [x]
def kz (k : Option Nat) : Nat := k.getD 1
def setAt : List AV → Nat → List AV → List AV
  | cs, _, [] => cs
  | cs, o, x :: xs => setAt (cs.set o x) (o + 1) xs
def ldCells (k : Option Nat) (cs : List AV) : Option AV :=
  match k with
  | none => cs[0]?
  | some n => if n ≤ cs.length then some (.agg (cs.take n)) else none
/-- elements out of cells -/
def aggs (s : Nat) : Nat → List AV → List AV
  | 0, _ => []
  | n + 1, cs => .agg (cs.take s) :: aggs s n (cs.drop s)
def chunks (k : Option Nat) (n : Nat) (cs : List AV) : List AV := match k with
  | none => cs.take n
  | some s => aggs s n cs
def boxAt (h : Heap) (id : Nat) : Option (List AV) := match h[id]? with | some (.cells cs) => some cs | _ => none
def deref (h : Heap) : AV → Option (List AV)
  | .ptr id off => (boxAt h id).map (·.drop off)
  | .ref cs => some cs
  | _ => none
def asI : AV → Option Int | .sc (.int _ n) => some n | _ => none
def stripO : AOwn → AOwn | .full => .full | _ => .none
def strip : AV → AV
  | .slice o k els => .slice (stripO o) k els
  | x => x
mutual
/-- the names of the heap in it are of this kind -/
def nam (p : Nat → Bool) : AV → Bool
  | .sc _ | .unk => true
  | .ptr id _ => p id
  | .ms id _ _ _ => p id
  | .map id => p id
  | .ref cs => namL p cs
  | .slice o _ els => (match o with | .tok i => p i | _ => true) && namL p els
  | .func _ a b => namL p a && namL p b
  | .agg cs => namL p cs
  | .tup vs => namL p vs
def namL (p : Nat → Bool) : List AV → Bool
  | [] => true
  | x :: xs => nam p x && namL p xs
end
abbrev closed (x : AV) : Bool := nam (fun _ => false) x
abbrev closedL (x : List AV) : Bool := namL (fun _ => false) x
abbrev below (m : Nat) (x : AV) : Bool := nam (fun i => decide (i < m)) x
abbrev belowL (m : Nat) (x : List AV) : Bool := namL (fun i => decide (i < m)) x
mutual
def rigid : AV → Bool
  | .sc _ => true
  | .agg cs => rigidL cs
  | .tup vs => rigidL vs
  | _ => false
def rigidL : List AV → Bool
  | [] => true
  | x :: xs => rigid x && rigidL xs
end
/-- the elements of a slice over a box -/
def msEls (h : Heap) (id off : Nat) (k : Option Nat) (len : Nat) : Option (List AV) :=
  (boxAt h id).bind fun cs => if off + len * kz k ≤ cs.length then some (chunks k len (cs.drop off)) else none
def msOwn (h : Heap) (id off : Nat) (k : Option Nat) (len : Nat) : AOwn :=
  match boxAt h id with | some cs => if 0 < kz k ∧ off + len * kz k = cs.length then .full else .none | none => .none
mutual
/-- what a callee that only reads is handed: all by value -/
def fz (h : Heap) : AV → Option AV
  | .sc v => some (.sc v)
  | .unk => some .unk
  | .ptr id off => (boxAt h id).bind fun cs => if closedL cs then some (.ref (cs.drop off)) else none
  | .ms id off k len => (msEls h id off k len).bind fun els => if closedL els then some (.slice (msOwn h id off k len) k els) else none
  | .map _ => none
  | .ref cs => (fzL h cs).map .ref
  | .slice o k els => (fzL h els).map (.slice (stripO o) k)
  | .func fn a b => (fzL h a).bind fun a => (fzL h b).map (.func fn a)
  | .agg cs => (fzL h cs).map .agg
  | .tup vs => (fzL h vs).map .tup
def fzL (h : Heap) : List AV → Option (List AV)
  | [] => some []
  | x :: xs => (fz h x).bind fun x => (fzL h xs).map (x :: ·)
end
def prep (h : Heap) (args : List AV) : Option (List AV × Bool) :=
  if closedL (args.map strip) then some (args.map strip, false) else (fzL h args).map fun a => (a, true)
/-- what a callee that made all for itself hands back -/
def freeze1 (first : Bool) (h : Heap) : AV → Option AV
  | .slice (.tok i) k els =>
    if closedL els then (if first then (match h[i]? with
      | some (.row k' n) => if k' = k then (if n = els.length then some (.slice .fresh k els) else some (.slice .none k els)) else some (.slice .none k els)
      | _ => some (.slice .none k els)) else some (.slice .none k els)) else none
  | .slice .fresh k els => if closedL els then some (.slice .none k els) else none
  | .ms id off k len => (msEls h id off k len).bind fun els => if closedL els then some (.slice (msOwn h id off k len) k els) else none
  | .agg cs => if closedL (cs.map strip) then some (.agg (cs.map strip)) else none
  | x => if closed x then some x else none
def freezeL (h : Heap) : List AV → Option (List AV)
  | [] => some []
  | x :: xs => (freeze1 false h x).bind fun x => (freezeL h xs).map (x :: ·)
def freeze (h : Heap) : AV → Option AV
  | .tup [] => some (.tup [])
  | .tup (x :: xs) => (freeze1 true h x).bind fun x => (freezeL h xs).map fun xs => .tup (x :: xs)
  | x => freeze1 true h x
/-- the caller takes over what is new -/
def adopt (v : AV) (h : Heap) : AV × Heap :=
  match v with
  | .slice .fresh k els => (.slice (.tok h.length) k els, h ++ [.row k els.length])
  | .tup (.slice .fresh k els :: r) => (.tup (.slice (.tok h.length) k els :: r), h ++ [.row k els.length])
  | v => (v, h)
/-! ### arithmetic -/
def ashift (op : BinOp) (k : IntKind) (x y : Int) : Option Value :=
  if y < 0 then none else match op with
    | .shl => some (.int k (k.wrap (x * 2 ^ min y.toNat k.bits)))
    | .shr => some (.int k (x.fdiv (2 ^ min y.toNat k.bits)))
    | _ => none
def abit (op : BinOp) (k : IntKind) (x y : Int) : Option Int :=
  match op with
  | .and => some (k.wrap (BitVec.ofInt k.bits x &&& BitVec.ofInt k.bits y).toNat)
  | .or => some (k.wrap (BitVec.ofInt k.bits x ||| BitVec.ofInt k.bits y).toNat)
  | .xor => some (k.wrap (BitVec.ofInt k.bits x ^^^ BitVec.ofInt k.bits y).toNat)
  | .andNot => some (k.wrap (BitVec.ofInt k.bits x &&& ~~~BitVec.ofInt k.bits y).toNat)
  | _ => none
def aint (op : BinOp) (k : IntKind) (x y : Int) : Option Value :=
  match op with
  | .add => some (.int k (k.wrap (x + y)))
  | .sub => some (.int k (k.wrap (x - y)))
  | .mul => some (.int k (k.wrap (x * y)))
  | .quo => if y = 0 then none else some (.int k (k.wrap (x.tdiv y)))
  | .rem => if y = 0 then none else some (.int k (x.tmod y))
  | .eql => some (.bool (x == y))
  | .neq => some (.bool (x != y))
  | .lss => some (.bool (x < y))
  | .leq => some (.bool (x ≤ y))
  | .gtr => some (.bool (x > y))
  | .geq => some (.bool (x ≥ y))
  | op => (abit op k x y).map (.int k)
def astr (op : BinOp) (x y : ByteArray) : Option Value :=
  match op with
  | .add => if x.size + y.size ≤ 9223372036854775807 then some (.string (x ++ y)) else none
  | .eql => some (.bool (x.toList == y.toList))
  | .neq => some (.bool !(x.toList == y.toList))
  | .lss => some (.bool (Op.bytesLess x.toList y.toList))
  | .leq => some (.bool (Op.bytesLess x.toList y.toList || x.toList == y.toList))
  | .gtr => some (.bool !(Op.bytesLess x.toList y.toList || x.toList == y.toList))
  | .geq => some (.bool !(Op.bytesLess x.toList y.toList))
  | _ => none
def abin (op : BinOp) : Value → Value → Option Value
  | .int k a, .int k' b =>
    match op with
    | .shl => ashift .shl k a b
    | .shr => ashift .shr k a b
    | op => if k = k' then aint op k a b else none
  | .string a, .string b => astr op a b
  | _, _ => none
def aun (op : UnOp) : Value → Option Value
  | .int k n => match op with
    | .neg => some (.int k (k.wrap (0 - n)))
    | .xor => (abit .xor k (if k.signed then -1 else k.max) n).map (.int k)
    | _ => none
  | .bool b => match op with | .not => some (.bool !b) | _ => none
  | _ => none
/-- are cells of whole numbers the same -/
def eqCells : List AV → List AV → Option Bool
  | [], [] => some true
  | .sc (.int k a) :: x, .sc (.int k' b) :: y => if k = k' then (eqCells x y).map fun r => a == b && r else none
  | _, _ => none
inductive NK where
  | ptr | slice | map | func
  deriving DecidableEq, Inhabited
def isNil : NK → AV → Option Bool
  | .ptr, .sc (.pointer none) => some true
  | .ptr, .ptr .. => some false
  | .ptr, .ref _ => some false
  | .slice, .sc (.slice none _ _) => some true
  | .slice, .sc (.slice (some _) _ _) => some false
  | .slice, .slice _ _ (_ :: _) => some false
  | .slice, .ms .. => some false
  | .map, .sc (.map none) => some true
  | .map, .map _ => some false
  | .func, .sc .nilFunc => some true
  | .func, .func .. => some false
  | _, _ => none
/-- the bytes of a string's text out of elements -/
def byteEls : List AV → Option (List Int)
  | [] => some []
  | .sc (.int .u8 n) :: r => (byteEls r).map (n :: ·)
  | _ => none
def strEls (s : ByteArray) : List AV := s.data.toList.map fun b => .int .u8 b.toNat
/-- elements, whatever kind of slice -/
def elemsOf (h : Heap) (k : Option Nat) : AV → Option (List AV)
  | .slice _ k' els => if k' = k then some els else none
  | .ms id off k' len => if k' = k then msEls h id off k len else none
  | .sc (.slice _ 0 _) => some []
  | .sc (.string s) => if k = none then some (strEls s) else none
  | _ => none
def lenOf : AV → Option Nat
  | .slice _ _ els => some els.length
  | .ms _ _ _ len => some len
  | .sc (.slice _ 0 _) => some 0
  | _ => none
inductive IK where
  | arr (n : Nat)
  | slice
  deriving Inhabited
inductive SK where
  | str
  | slice
  | arr (n : Nat)
  deriving Inhabited
inductive AOp where
  | move (x : Opd)
  | acc (k : Option Nat) (x : Opd)
  | pick (c a b : Opd)
  | alloc (zero : List AV)
  | box (x : Opd)
  | build (zero : List AV) (parts : List (Nat × Nat × Opd))
  | buildSlice (k : Option Nat) (zero : AV) (len : Nat) (parts : List (Nat × Opd))
  | load (k : Option Nat) (a : Opd)
  | store (n : Nat) (a x : Opd)
  | nilCheck (x : Opd)
  | bin (op : BinOp) (x y : Opd)
  | eqBool (neg : Bool) (x y : Opd)
  | eqArr (neg : Bool) (n : Nat) (x y : Opd)
  | eqNil (neg : Bool) (k : NK) (x : Opd)
  | un (op : UnOp) (x : Opd)
  | convInt (k : IntKind) (x : Opd)
  | convBytes (x : Opd)
  | convStr (x : Opd)
  | convSS (x : Opd)
  | makeFunc (fn : Fn) (first caps : List Opd)
  | makeSlice (k : Option Nat) (zero : List AV) (bytes : Nat) (len cap : Opd)
  | slice (s : SK) (k : Option Nat) (x : Opd) (lo hi mx : Option Opd)
  | toArr (n : Nat) (x : Opd)
  | fieldAddr (off n : Nat) (x : Opd)
  | field (k : Option Nat) (off : Nat) (x : Opd)
  | indexAddr (s : IK) (k : Option Nat) (x i : Opd)
  | index (k : Option Nat) (n : Nat) (x i : Opd)
  | indexStr (x i : Opd)
  | extract (x : Opd) (i : Nat)
  | call (f : Opd) (args : List Opd)
  | len (x : Opd)
  | lenT (x : Opd)
  | append (k : Option Nat) (bytes : Nat) (s x : Opd)
  | copy (k : Option Nat) (d s : Opd)
  | minmax (max : Bool) (x y : Opd)
  | stuck
  deriving Inhabited
structure AOper where
  dst : Option Nat
  op : AOp
  guard : Option (Nat × Bool)
  deriving Inhabited
structure Cl where
  call : Nat → List AV → Heap → Option (AV × Heap)
  pure : Nat → Bool
def optI (e : Env) : Option Opd → Option (Option Int)
  | none => some none
  | some o => (asI (evO e o)).map some
def cutOwn (o : AOwn) (lo : Option Int) : AOwn := match o, lo with | .full, _ => .full | o, none => o | _, _ => .none
def cutSl (o : AOwn) (k : Option Nat) (els : List AV) (lo hi mx : Option Int) : Option AV :=
  match mx, hi with
  | some m, some h => if 0 ≤ lo.getD 0 ∧ lo.getD 0 ≤ h ∧ h ≤ m ∧ m ≤ els.length then some (.slice (if m = h then .full else .none) k ((els.take h.toNat).drop (lo.getD 0).toNat)) else none
  | some _, none => none
  | none, some h => if 0 ≤ lo.getD 0 ∧ lo.getD 0 ≤ h ∧ h ≤ els.length then some (.slice .none k ((els.take h.toNat).drop (lo.getD 0).toNat)) else none
  | none, none => match lo with
    | none => some (.slice o k els)
    | some l => if 0 ≤ l ∧ l ≤ els.length then some (.slice (cutOwn o lo) k (els.drop l.toNat)) else none
def cutMs (id off : Nat) (k : Option Nat) (len : Nat) (lo hi mx : Option Int) : Option AV :=
  let h := hi.getD len
  let l := lo.getD 0
  if mx = none ∧ 0 ≤ l ∧ l ≤ h ∧ h ≤ len then (if l = h then some (.slice .none k []) else some (.ms id (off + l.toNat * kz k) k (h - l).toNat)) else none
def cutStr (s : ByteArray) (lo hi : Option Int) : Option AV :=
  let h := hi.getD s.size
  let l := lo.getD 0
  if 0 ≤ l ∧ l ≤ h ∧ h ≤ s.size then some (.str (s.extract l.toNat h.toNat)) else none
def aslice (hp : Heap) (s : SK) (k : Option Nat) (x : AV) (lo hi mx : Option Int) : Option AV :=
  match s, x with
  | .str, .sc (.string s) => if mx = none then cutStr s lo hi else none
  | .slice, .slice o k' els => if k' = k then cutSl o k els lo hi mx else none
  | .slice, .sc (.slice none 0 0) => if lo.getD 0 = 0 ∧ hi.getD 0 = 0 ∧ mx.getD 0 = 0 ∧ (mx = none ∨ hi ≠ none) then some .nil else none
  | .slice, .ms id off k' len => if k' = k then cutMs id off k len lo hi mx else none
  | .arr n, .ptr id off => (boxAt hp id).bind fun cs => if off + n * kz k ≤ cs.length then cutMs id off k n lo hi mx else none
  | .arr n, .ref cs => if lo = none ∧ hi = none ∧ mx = none ∧ n * kz k ≤ cs.length then some (.slice .full k (chunks k n cs)) else none
  | _, _ => none
def fitsB (n bytes : Nat) : Bool := decide (n * bytes ≤ 140737488355328 ∨ (n + n / 4 + 192) * bytes ≤ 281474976710656)
def aappend (k : Option Nat) (bytes : Nat) (h : Heap) (s : AV) (new : List AV) : Option (AV × Heap) :=
  match s with
  | .slice (.tok i) k' els => if k' = k then (match h[i]? with
      | some (.row k'' n) => if k'' = k ∧ n = els.length ∧ fitsB (els.length + new.length) bytes = true then some (.slice (.tok i) k (els ++ new), h.set i (.row k (els.length + new.length))) else none
      | _ => none) else none
  | .slice .full k' els => if k' = k ∧ fitsB (els.length + new.length) bytes = true then some (.slice (.tok h.length) k (els ++ new), h ++ [.row k (els.length + new.length)]) else none
  | .sc (.slice none 0 0) => if fitsB new.length bytes = true then some (.slice (.tok h.length) k new, h ++ [.row k new.length]) else none
  | .ms id off k' len => if k' = k ∧ msOwn h id off k len = .full ∧ 0 < new.length ∧ fitsB (len + new.length) bytes = true then (msEls h id off k len).map fun els => (.slice (.tok h.length) k (els ++ new), h ++ [.row k (len + new.length)]) else none
  | _ => none
def evL (e : Env) (l : List Opd) : List AV := l.map (evO e)
def setParts (e : Env) : List AV → List (Nat × Nat × Opd) → Option (List AV)
  | cs, [] => some cs
  | cs, (o, n, x) :: r => (cellsOf (evO e x)).bind fun xs => if xs.length = n ∧ o + n ≤ cs.length then setParts e (setAt cs o (xs.map strip)) r else none
def elFits (k : Option Nat) : AV → Bool
  | .agg cs => k == some cs.length && oneL cs
  | x => one x && k == none
def stripEl : AV → AV
  | .agg cs => .agg (cs.map strip)
  | x => strip x
def setEls (e : Env) (k : Option Nat) : List AV → List (Nat × Opd) → Option (List AV)
  | els, [] => some els
  | els, (i, x) :: r => if elFits k (evO e x) = true ∧ i < els.length then setEls e k (els.set i (stripEl (evO e x))) r else none
def storeB (h : Heap) (id off : Nat) (xs : List AV) : Option Heap :=
  (boxAt h id).bind fun cs => if off + xs.length ≤ cs.length then some (h.set id (.cells (setAt cs off xs))) else none
def aop (C : Cl) (o : AOp) (e : Env) (h : Heap) : Option (AV × Heap) :=
  match o with
  | .move x => some (evO e x, h)
  | .acc k x => match evO e x with | .sc (.slice none 0 0) => some (.slice (.tok h.length) k [], h ++ [.row k 0]) | _ => none
  | .pick c a b => match evO e c with | .sc (.bool t) => some (if t then evO e a else evO e b, h) | _ => none
  | .alloc zero => some (.ptr h.length 0, h ++ [.cells zero])
  | .box x => (cellsOf (evO e x)).bind fun cs => if oneL cs then some (.ptr h.length 0, h ++ [.cells cs]) else none
  | .build zero parts => (setParts e zero parts).map fun cs => (.agg cs, h)
  | .buildSlice k zero len parts => (setEls e k (List.replicate len zero) parts).map fun els => (.slice .full k els, h)
  | .load k a => (deref h (evO e a)).bind fun cs => (ldCells k cs).map fun v => (v, h)
  | .store n a x => match evO e a with
    | .ptr id off => (cellsOf (evO e x)).bind fun xs => if xs.length = n ∧ oneL xs = true then (storeB h id off xs).map fun h => (.undef, h) else none
    | _ => none
  | .nilCheck x => match evO e x with
    | .ptr id off => some (.ptr id off, h)
    | .ref cs => some (.ref cs, h)
    | .func (.func f) a b => some (.func (.func f) a b, h)
    | _ => none
  | .bin op x y => match evO e x, evO e y with
    | .sc a, .sc b => (abin op a b).map fun v => (.sc v, h)
    | _, _ => none
  | .eqBool neg x y => match evO e x, evO e y with
    | .sc (.bool a), .sc (.bool b) => some (.bool ((a == b) != neg), h)
    | _, _ => none
  | .eqArr neg n x y => match evO e x, evO e y with
    | .agg a, .agg b => if a.length = n then (eqCells a b).map fun r => (.bool (r != neg), h) else none
    | _, _ => none
  | .eqNil neg k x => (isNil k (evO e x)).map fun r => (.bool (r != neg), h)
  | .un op x => match evO e x with | .sc a => (aun op a).map fun v => (.sc v, h) | _ => none
  | .convInt k x => match evO e x with | .sc (.int _ n) => some (.int k (k.wrap n), h) | _ => none
  | .convBytes x => match evO e x with
    | .sc (.string s) => if s.size ≤ 140737488355328 then some (.slice (.tok h.length) none (strEls s), h ++ [.row none s.size]) else none
    | _ => none
  | .convStr x => match evO e x with
    | .sc (.string _) => none
    | v => (elemsOf h none v).bind fun els => (byteEls els).map fun l => (.str (strOfNums l), h)
  | .convSS x => match evO e x with
    | .sc (.string s) => some (.str s, h)
    | _ => none
  | .makeFunc fn first caps => some (.func fn (evL e first) (evL e caps), h)
  | .makeSlice k zero bytes l c => match evO e l, evO e c with
    | .sc (.int .i64 l), .sc (.int .i64 c) =>
      if 0 ≤ l ∧ l ≤ c ∧ c * bytes ≤ 281474976710656 ∧ c ≤ 9223372036854775807 then
        (if l = 0 then some (.slice (.tok h.length) k [], h ++ [.row k 0])
        else if l = c then some (.ms h.length 0 k l.toNat, h ++ [.cells (List.replicate l.toNat zero).flatten]) else none)
      else none
    | _, _ => none
  | .slice s k x lo hi mx => (optI e lo).bind fun lo => (optI e hi).bind fun hi => (optI e mx).bind fun mx => (aslice h s k (evO e x) lo hi mx).map fun v => (v, h)
  | .toArr n x => match evO e x with
    | .ms id off none len => if n ≤ len ∧ 0 < n then some (.ptr id off, h) else none
    | .slice _ none els => if n ≤ els.length ∧ 0 < n then some (.ref els, h) else none
    | _ => none
  | .fieldAddr off n x => match evO e x with
    | .ptr id o => some (.ptr id (o + off), h)
    | .ref cs => some (.ref (cs.drop off), h)
    | _ => none
  | .field k off x => match evO e x with
    | .agg cs => (ldCells k (cs.drop off)).map fun v => (v, h)
    | _ => none
  | .indexAddr s k x i => (asI (evO e i)).bind fun i => match s, evO e x with
    | .arr n, .ptr id off => if 0 ≤ i ∧ i < n then some (.ptr id (off + i.toNat * kz k), h) else none
    | .arr n, .ref cs => if 0 ≤ i ∧ i < n then some (.ref (cs.drop (i.toNat * kz k)), h) else none
    | .slice, .slice _ k' els => if k' = k ∧ 0 ≤ i then (els[i.toNat]?).map fun x => (.ref (elCells x), h) else none
    | .slice, .ms id off k' len => if k' = k ∧ 0 ≤ i ∧ i < len then some (.ptr id (off + i.toNat * kz k), h) else none
    | _, _ => none
  | .index k n x i => (asI (evO e i)).bind fun i => match evO e x with
    | .agg cs => if 0 ≤ i ∧ i < n then (ldCells k (cs.drop (i.toNat * kz k))).map fun v => (v, h) else none
    | _ => none
  | .indexStr x i => (asI (evO e i)).bind fun i => match evO e x with
    | .sc (.string s) => if 0 ≤ i then (s.data.toList[i.toNat]?).map fun b => (.int .u8 b.toNat, h) else none
    | _ => none
  | .extract x i => match evO e x with | .tup vs => (vs[i]?).map fun v => (v, h) | _ => none
  | .call f args => match evO e f with
    | .func (.func f) first caps => C.call f (first ++ evL e args ++ caps) h
    | _ => none
  | .len x => (lenOf (evO e x)).map fun (n : Nat) => (.int .i64 (n : Int), h)
  | .lenT x => match evO e x with
    | .sc (.string s) => some (.int .i64 s.size, h)
    | _ => none
  | .append k bytes s x => (elemsOf h k (evO e x)).bind fun new => aappend k bytes h (evO e s) new
  | .copy k d s => (elemsOf h k (evO e s)).bind fun new => match evO e d with
    | .ms id off k' len => if k' = k then (storeB h id off ((new.take len).flatMap elCells)).map fun h => (.int .i64 (min new.length len : Nat), h) else none
    | _ => none
  | .minmax mx x y => match evO e x, evO e y with
    | .sc (.int k a), .sc (.int k' b) => if k = k' then some (.int k (if mx then (if b > a then b else a) else (if b < a then b else a)), h) else none
    | _, _ => none
  | .stuck => none
def wantE (g : Option (Nat × Bool)) (e : Env) : Option Bool :=
  match g with
  | none => some true
  | some (t, w) => match getE e t with
    | .sc (.bool b) => some (b == w)
    | .sc _ => some false
    | _ => none
def aops (C : Cl) : List AOper → Env → Heap → Option (Env × Heap)
  | [], e, h => some (e, h)
  | o :: r, e, h => (wantE o.guard e).bind fun w =>
    if w then (aop C o.op e h).bind fun (v, h) => aops C r (setE e o.dst v) h else aops C r (setE e o.dst .undef) h
/-- operations that touch no memory, whatever their order -/
def AOp.still : AOp → Bool
  | .move _ | .pick .. | .build .. | .nilCheck _ | .bin .. | .eqBool .. | .eqArr .. | .eqNil .. | .un .. | .convInt .. | .makeFunc .. | .slice .. | .toArr .. | .fieldAddr .. | .field .. | .indexAddr .. | .index .. | .indexStr .. | .extract .. | .len _ | .lenT _ | .convSS _ | .minmax .. => true
  | _ => false
/-- one that reads alone -/
def quietV (C : Cl) (o : AOp) (e : Env) (h : Heap) : Option AV :=
  if o.still then (aop C o e h).map (·.1) else
  match o with
  | .load .. | .convStr .. => (aop C o e h).bind fun (v, _) => if rigid v then some v else none
  | .call f _ => match evO e f with
    | .func (.func g) _ _ => if C.pure g then (aop C o e h).bind fun (v, _) => if rigid v then some v else none else none
    | _ => none
  | _ => none
def aopsQ (C : Cl) : List AOper → Env → Heap → Option Env
  | [], e, _ => some e
  | o :: r, e, h => (wantE o.guard e).bind fun w =>
    if w then (quietV C o.op e h).bind fun v => aopsQ C r (setE e o.dst v) h else aopsQ C r (setE e o.dst .undef) h
/-! ### rows whose order is drawn -/
/-- does it change what is held? -/
def effB : AOp → Bool
  | .acc .. | .alloc _ | .box _ | .store .. | .convBytes _ | .makeSlice .. | .call .. | .append .. | .copy .. => true
  | _ => false
/-- may its value be another one where something else is held? -/
def reB : AOp → Bool
  | .load .. | .convStr _ | .slice .. => true
  | _ => false
def vEq : Value → Value → Bool
  | .int k a, .int k' b => k == k' && a == b
  | .bool a, .bool b => a == b
  | .string a, .string b => a.data.toList == b.data.toList
  | .pointer none, .pointer none => true
  | .slice none a b, .slice none c d => a == c && b == d
  | .map none, .map none => true
  | .nilFunc, .nilFunc => true
  | _, _ => false
mutual
def beqV : AV → AV → Bool
  | .sc a, .sc b => vEq a b
  | .ptr i o, .ptr j p => i == j && o == p
  | .ref a, .ref b => beqVL a b
  | .slice o k a, .slice p l b => o == p && k == l && beqVL a b
  | .ms i o k n, .ms j p l m => i == j && o == p && k == l && n == m
  | .func (.func f) a b, .func (.func g) c d => f == g && beqVL a c && beqVL b d
  | .agg a, .agg b => beqVL a b
  | .tup a, .tup b => beqVL a b
  | .map i, .map j => i == j
  | _, _ => false
def beqVL : List AV → List AV → Bool
  | [], [] => true
  | x :: xs, y :: ys => beqV x y && beqVL xs ys
  | _, _ => false
end
def grow (o : AOp) (h : Heap) (hs : List Heap) : List Heap := if effB o then hs ++ [h] else hs
/-- in the order of the text; all that was held on the way is gathered -/
def runD (C : Cl) : List AOper → Env → Heap → List Heap → Option (Env × Heap × List Heap)
  | [], e, h, hs => some (e, h, hs ++ [h])
  | o :: r, e, h, hs => (wantE o.guard e).bind fun w =>
    if w then (aop C o.op e h).bind fun (v, h') => runD C r (setE e o.dst v) h' (grow o.op h hs) else runD C r (setE e o.dst .undef) h (grow o.op h hs)
def chkV : Option (AV × Heap) → Option Nat → Env → Bool
  | some (v, _), some d, e => beqV v (getE e d)
  | some _, none, _ => true
  | none, _, _ => false
/-- its value is the same in all that may be held when its turn comes -/
def chkO (C : Cl) (e e' : Env) (o : AOper) : List Heap → Bool
  | [] => true
  | h :: hs => chkV (aop C o.op e h) o.dst e' && chkO C e e' o hs
def nxE (e e' : Env) : Option Nat → Env
  | some d => (d, getE e' d) :: e
  | none => e
def chkW (b : Bool) : Option Bool → Bool
  | some true => b
  | _ => true
def chkD (C : Cl) (e' : Env) (hs : List Heap) : Env → List AOper → List (Nat × Nat) → Bool
  | e, o :: r, (lo, hi) :: s => (if reB o.op = true ∧ lo < hi then chkW (chkO C e e' o ((hs.drop lo).take (hi + 1 - lo))) (wantE o.guard e) else true) && chkD C e' hs (nxE e e' o.dst) r s
  | _, _, _ => true
inductive AC where
  | skip
  | reg (ops : List AOper)
  | regQ (ops : List AOper)
  | regD (ops : List AOper) (st : List (Nat × Nat))
  | seq (a b : AC)
  | cond (c : Opd) (a b : AC)
  | block (id : Nat) (b : AC)
  | loop (keep : List Nat) (gc : Bool) (b : AC)
  | exit (id : Nat)
  | scope (b : AC)
  | ret
  deriving Inhabited
inductive AX where
  | normal | exit (id : Nat) | ret
  deriving DecidableEq, Inhabited
abbrev Res := AX × Env × Heap
def belowO (m : Nat) : AObj → Bool
  | .cells cs => belowL m cs
  | .row .. => true
  | .map es => es.all fun p => below m p.1 && below m p.2
def trim (keep : List Nat) (gc : Bool) (m : Nat) (e : Env) (h : Heap) : Option (Env × Heap) :=
  if gc = true ∧ m < h.length then
    (if (keep.all fun t => below m (getE e t)) && (h.take m).all (belowO m) then some (keep.map fun t => (t, getE e t), h.take m) else none)
  else some (keep.map fun t => (t, getE e t), h)
def aloop (body : Env → Heap → Option Res) (keep : List Nat) (gc : Bool) (m : Nat) : Nat → Env → Heap → Option Res
  | 0, _, _ => none
  | n + 1, e, h => (trim keep gc m e h).bind fun (e, h) => (body e h).bind fun (x, e, h) => match x with
    | .normal => aloop body keep gc m n e h
    | x => some (x, e, h)
def outOf (id : Nat) : AX → AX | .exit i => if i = id then .normal else .exit i | x => x
def aexec (C : Cl) (n : Nat) : AC → Env → Heap → Option Res
  | .skip, e, h => some (.normal, e, h)
  | .reg ops, e, h => (aops C ops e h).map fun (e, h) => (.normal, e, h)
  | .regQ ops, e, h => (aopsQ C ops e h).map fun e => (.normal, e, h)
  | .regD ops st, e, h => (runD C ops e h []).bind fun (e', h, hs) => if chkD C e' hs e ops st then some (.normal, e', h) else none
  | .seq a b, e, h => (aexec C n a e h).bind fun (x, e, h) => match x with
    | .normal => aexec C n b e h
    | x => some (x, e, h)
  | .cond c a b, e, h => match evO e c with
    | .sc (.bool true) => aexec C n a e h
    | .sc (.bool false) => aexec C n b e h
    | _ => none
  | .block id b, e, h => (aexec C n b e h).map fun (x, e, h) => (outOf id x, e, h)
  | .loop keep gc b, e, h => aloop (aexec C n b) keep gc h.length n e h
  | .exit id, e, h => some (.exit id, e, h)
  | .scope b, e, h => aexec C n b e h
  | .ret, e, h => some (.ret, e, h)
inductive ARes where
  | tmp (t : Nat)
  | cell (t : Nat) (k : Option Nat)
  deriving Inhabited
structure AFn where
  nt : Nat
  pure : Bool
  np : Nat
  res : List ARes
  body : AC
  deriving Inhabited
structure Tab where
  ext : Nat → Option (List AV → Option AV)
  fn : Nat → Option AFn
  nat : Nat → Option (List AV → Heap → Option (AV × Heap)) := fun _ => none
def resOf (e : Env) (h : Heap) : List ARes → Option (List AV)
  | [] => some []
  | .tmp t :: r => (resOf e h r).map (getE e t :: ·)
  | .cell t k :: r => ((deref h (getE e t)).bind (ldCells k)).bind fun v => (resOf e h r).map (v :: ·)
def tupOf : List AV → AV | [x] => x | l => .tup l
def initE : Nat → List AV → Env
  | _, [] => []
  | i, x :: xs => (i, x) :: initE (i + 1) xs
def finish (F : AFn) (r : Res) : Option (AV × Heap) :=
  match r.1 with
  | .exit _ => none
  | _ => (resOf r.2.1 r.2.2 F.res).map fun l => (tupOf l, r.2.2)
def Tab.pure (T : Tab) (f : Nat) : Bool := (T.ext f).isSome || (match T.fn f with | some F => F.pure | none => false)
/-- a callee that makes all for itself -/
def pcall (g : List AV → Option AV) (args : List AV) (h : Heap) : Option (AV × Heap) :=
  (prep h args).bind fun (args, bor) => (g args).bind fun v => if bor then (if rigid v then some (v, h) else none) else some (adopt v h)
def gcall (T : Tab) : Nat → Nat → List AV → Heap → Option (AV × Heap)
  | 0, _, _, _ => none
  | n + 1, f, args, h => match T.ext f with
    | some g => pcall g args h
    | none => match T.fn f with
      | none => (T.nat f).bind fun g => g args h
      | some F => if args.length = F.np then
          (if F.pure then pcall (fun a => ((aexec ⟨gcall T n, T.pure⟩ n F.body (initE 0 a) []).bind (finish F)).bind fun (v, h) => freeze h v) args h
          else (aexec ⟨gcall T n, T.pure⟩ n F.body (initE 0 args) h).bind (finish F))
        else none
end Go.Proofs.Ytpnkldjbiinnpaa.AM
