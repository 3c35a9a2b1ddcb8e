import Derived.Test.YtipbmacpenmgoaaProg
import Derived.WalkKit
import Derived.Laws.BytesArg
import Derived.ArgAppend
import Derived.Deep.Quiet
import Derived.DeepKeys
import Derived.Laws.StructEq
import Derived.Scope
import Derived.ChangeKeysEq
import Derived.Laws.MakeOwn
import Derived.Laws.CopyRow
/- A plain machine over plain data: the values, the operations, the code, and its runs. -/
namespace Go.Proofs.Ytipbmacpenmgoaa.AM
open Go
set_option linter.unusedVariables false
/-- who may append to a slice in place -/
inductive AOwn where
  | none | full | tok (i : Nat) | fresh
  deriving DecidableEq, Inhabited
/-- plain values: a slice holds its elements, a reference its cells; a pointer names a box -/
inductive AV where
  | sc (v : Value)
  | unk
  | ptr (id off : Nat)
  | ref (cells : List AV)
  | slice (own : AOwn) (k : Option Nat) (els : List AV)
  | ms (id off : Nat) (k : Option Nat) (len : Nat)
  | func (fn : Fn) (first caps : List AV)
  | agg (cells : List AV)
  | tup (vs : List AV)
  | map (id : Nat)
  deriving Inhabited
abbrev AV.int (k : IntKind) (n : Int) : AV := .sc (.int k n)
abbrev AV.bool (b : Bool) : AV := .sc (.bool b)
abbrev AV.str (s : ByteArray) : AV := .sc (.string s)
abbrev AV.nil : AV := .sc (.slice Option.none 0 0)
abbrev AV.undef : AV := .sc Go.undef
inductive AObj where
  | box (ex : Bool) (cs : List AV)
  | row (k : Option Nat) (n : Nat)
  | map (it : Option AV) (c : Nat) (bs : List Nat) (es : List (AV × AV))
  deriving Inhabited
/-- a block that is known whole -/
@[match_pattern, reducible] def AObj.cells (cs : List AV) : AObj := .box true cs
/-- a block whose first cells are known: it may have room behind them -/
@[match_pattern, reducible] def AObj.vec (cs : List AV) : AObj := .box false cs
abbrev Heap := List AObj
abbrev Env := List (Nat × AV)
def getE : Env → Nat → AV
  | [], _ => .unk
  | (u, v) :: r, t => if u = t then v else getE r t
def setE (e : Env) (d : Option Nat) (v : AV) : Env := match d with | some d => (d, v) :: e | none => e
inductive Opd where
  | tmp (t : Nat)
  | cst (v : AV)
  deriving Inhabited
def evO (e : Env) : Opd → AV
  | .tmp t => getE e t
  | .cst v => v
/-- one cell's value -/
def oneCell : Value → Bool
  | .agg _ | .tuple _ => false
  | _ => true
def cellsOf : AV → Option (List AV)
  | .agg cs => some cs
  | .sc v => if oneCell v then some [.sc v] else none
  | .tup _ | .unk => none
  | x => some [x]
/-- values of one cell -/
def one : AV → Bool
  | .agg _ | .tup _ | .unk => false
  | .sc v => oneCell v
  | _ => true
def oneL : List AV → Bool
  | [] => true
  | x :: xs => one x && oneL xs
def elCells : AV → List AV
  | .agg cs => cs
  | x => [x]
def kz (k : Option Nat) : Nat := k.getD 1
def setAt : List AV → Nat → List AV → List AV
  | cs, _, [] => cs
  | cs, o, x :: xs => setAt (cs.set o x) (o + 1) xs
def ldCells (k : Option Nat) (cs : List AV) : Option AV :=
  match k with
  | none => cs[0]?
  | some n => if n ≤ cs.length then some (.agg (cs.take n)) else none
/-- elements out of cells -/
def aggs (s : Nat) : Nat → List AV → List AV
  | 0, _ => []
  | n + 1, cs => .agg (cs.take s) :: aggs s n (cs.drop s)
def chunks (k : Option Nat) (n : Nat) (cs : List AV) : List AV := match k with
  | none => cs.take n
  | some s => aggs s n cs
def boxAt (h : Heap) (id : Nat) : Option (List AV) := match h[id]? with | some (.box _ cs) => some cs | _ => none
def exAt (h : Heap) (id : Nat) : Bool := match h[id]? with | some (.box ex _) => ex | _ => true
def deref (h : Heap) : AV → Option (List AV)
  | .ptr id off => (boxAt h id).map (·.drop off)
  | .ref cs => some cs
  | _ => none
def asI : AV → Option Int | .sc (.int _ n) => some n | _ => none
def stripO : AOwn → AOwn | .full => .full | _ => .none
def strip : AV → AV
  | .slice o k els => .slice (stripO o) k els
  | x => x
mutual
/-- the names of the heap in it are of this kind -/
def nam (p : Nat → Bool) : AV → Bool
  | .sc _ | .unk => true
  | .ptr id _ => p id
  | .ms id _ _ _ => p id
  | .map id => p id
  | .ref cs => namL p cs
  | .slice o _ els => (match o with | .tok i => p i | _ => true) && namL p els
  | .func _ a b => namL p a && namL p b
  | .agg cs => namL p cs
  | .tup vs => namL p vs
def namL (p : Nat → Bool) : List AV → Bool
  | [] => true
  | x :: xs => nam p x && namL p xs
end
abbrev closed (x : AV) : Bool := nam (fun _ => false) x
abbrev closedL (x : List AV) : Bool := namL (fun _ => false) x
abbrev below (m : Nat) (x : AV) : Bool := nam (fun i => decide (i < m)) x
abbrev belowL (m : Nat) (x : List AV) : Bool := namL (fun i => decide (i < m)) x
mutual
def rigid : AV → Bool
  | .sc _ => true
  | .agg cs => rigidL cs
  | .tup vs => rigidL vs
  | _ => false
def rigidL : List AV → Bool
  | [] => true
  | x :: xs => rigid x && rigidL xs
end
/-- the elements of a slice over a box -/
def msEls (h : Heap) (id off : Nat) (k : Option Nat) (len : Nat) : Option (List AV) :=
  (boxAt h id).bind fun cs => if off + len * kz k ≤ cs.length then some (chunks k len (cs.drop off)) else none
def msOwn (h : Heap) (id off : Nat) (k : Option Nat) (len : Nat) : AOwn :=
  match boxAt h id with | some cs => if 0 < kz k ∧ off + len * kz k = cs.length ∧ exAt h id = true then .full else .none | none => .none
mutual
/-- what a callee that only reads is handed: all by value -/
def fz (h : Heap) : AV → Option AV
  | .sc v => some (.sc v)
  | .unk => some .unk
  | .ptr id off => (boxAt h id).bind fun cs => if closedL cs then some (.ref (cs.drop off)) else none
  | .ms id off k len => (msEls h id off k len).bind fun els => if closedL els then some (.slice (msOwn h id off k len) k els) else none
  | .map _ => none
  | .ref cs => (fzL h cs).map .ref
  | .slice o k els => (fzL h els).map (.slice (stripO o) k)
  | .func fn a b => (fzL h a).bind fun a => (fzL h b).map (.func fn a)
  | .agg cs => (fzL h cs).map .agg
  | .tup vs => (fzL h vs).map .tup
def fzL (h : Heap) : List AV → Option (List AV)
  | [] => some []
  | x :: xs => (fz h x).bind fun x => (fzL h xs).map (x :: ·)
end
def stripEl : AV → AV
  | .agg cs => .agg (cs.map strip)
  | x => strip x
/-- the same for slices of slices -/
def deepEl : AV → AV
  | .slice o k els => .slice (stripO o) k (els.map stripEl)
  | x => stripEl x
def prep (h : Heap) (args : List AV) : Option (List AV × Bool) :=
  if closedL (args.map strip) then some (args.map strip, false) else if closedL (args.map stripEl) then some (args.map stripEl, false) else if closedL (args.map deepEl) then some (args.map deepEl, false) else (fzL h args).map fun a => (a, true)
/-- what a callee that made all for itself hands back -/
def freeze1 (first : Bool) (h : Heap) : AV → Option AV
  | .slice (.tok i) k els =>
    if closedL els then (if first then (match h[i]? with
      | some (.row k' n) => if k' = k then (if n = els.length then some (.slice .fresh k els) else some (.slice .none k els)) else some (.slice .none k els)
      | _ => some (.slice .none k els)) else some (.slice .none k els)) else none
  | .slice .fresh k els => if closedL els then some (.slice .none k els) else none
  | .ms id off k len => (msEls h id off k len).bind fun els => if closedL els then some (.slice (msOwn h id off k len) k els) else none
  | .agg cs => if closedL (cs.map strip) then some (.agg (cs.map strip)) else none
  | x => if closed x then some x else none
def freezeL (h : Heap) : List AV → Option (List AV)
  | [] => some []
  | x :: xs => (freeze1 false h x).bind fun x => (freezeL h xs).map (x :: ·)
def freeze (h : Heap) : AV → Option AV
  | .tup [] => some (.tup [])
  | .tup (x :: xs) => (freeze1 true h x).bind fun x => (freezeL h xs).map fun xs => .tup (x :: xs)
  | x => freeze1 true h x
/-- the caller takes over what is new -/
def adopt (v : AV) (h : Heap) : AV × Heap :=
  match v with
  | .slice .fresh k els => (.slice (.tok h.length) k els, h ++ [.row k els.length])
  | .tup (.slice .fresh k els :: r) => (.tup (.slice (.tok h.length) k els :: r), h ++ [.row k els.length])
  | v => (v, h)
/-! ### arithmetic -/
def ashift (op : BinOp) (k : IntKind) (x y : Int) : Option Value :=
  if y < 0 then none else match op with
    | .shl => some (.int k (k.wrap (x * 2 ^ min y.toNat k.bits)))
    | .shr => some (.int k (x.fdiv (2 ^ min y.toNat k.bits)))
    | _ => none
def abit (op : BinOp) (k : IntKind) (x y : Int) : Option Int :=
  match op with
  | .and => some (k.wrap (BitVec.ofInt k.bits x &&& BitVec.ofInt k.bits y).toNat)
  | .or => some (k.wrap (BitVec.ofInt k.bits x ||| BitVec.ofInt k.bits y).toNat)
  | .xor => some (k.wrap (BitVec.ofInt k.bits x ^^^ BitVec.ofInt k.bits y).toNat)
  | .andNot => some (k.wrap (BitVec.ofInt k.bits x &&& ~~~BitVec.ofInt k.bits y).toNat)
  | _ => none
def aint (op : BinOp) (k : IntKind) (x y : Int) : Option Value :=
  match op with
  | .add => some (.int k (k.wrap (x + y)))
  | .sub => some (.int k (k.wrap (x - y)))
  | .mul => some (.int k (k.wrap (x * y)))
  | .quo => if y = 0 then none else some (.int k (k.wrap (x.tdiv y)))
  | .rem => if y = 0 then none else some (.int k (x.tmod y))
  | .eql => some (.bool (x == y))
  | .neq => some (.bool (x != y))
  | .lss => some (.bool (x < y))
  | .leq => some (.bool (x ≤ y))
  | .gtr => some (.bool (x > y))
  | .geq => some (.bool (x ≥ y))
  | op => (abit op k x y).map (.int k)
def astr (op : BinOp) (x y : ByteArray) : Option Value :=
  match op with
  | .add => if x.size + y.size ≤ 9223372036854775807 then some (.string (x ++ y)) else none
  | .eql => some (.bool (x.toList == y.toList))
  | .neq => some (.bool !(x.toList == y.toList))
  | .lss => some (.bool (Op.bytesLess x.toList y.toList))
  | .leq => some (.bool (Op.bytesLess x.toList y.toList || x.toList == y.toList))
  | .gtr => some (.bool !(Op.bytesLess x.toList y.toList || x.toList == y.toList))
  | .geq => some (.bool !(Op.bytesLess x.toList y.toList))
  | _ => none
def abin (op : BinOp) : Value → Value → Option Value
  | .int k a, .int k' b =>
    match op with
    | .shl => ashift .shl k a b
    | .shr => ashift .shr k a b
    | op => if k = k' then aint op k a b else none
  | .string a, .string b => astr op a b
  | _, _ => none
def aun (op : UnOp) : Value → Option Value
  | .int k n => match op with
    | .neg => some (.int k (k.wrap (0 - n)))
    | .xor => (abit .xor k (if k.signed then -1 else k.max) n).map (.int k)
    | _ => none
  | .bool b => match op with | .not => some (.bool !b) | _ => none
  | _ => none
/-- are cells of whole numbers the same -/
def eqCells : List AV → List AV → Option Bool
  | [], [] => some true
  | .sc (.int k a) :: x, .sc (.int k' b) :: y => if k = k' then (eqCells x y).map fun r => a == b && r else none
  | _, _ => none
/-- what a cell of a struct that is compared is -/
inductive LK where
  | int | str | bool
  deriving DecidableEq, Inhabited
/-- are the cells of structs the same -/
def eqAV : List LK → List AV → List AV → Option Bool
  | [], [], [] => some true
  | .int :: ks, .sc (.int k a) :: x, .sc (.int k' b) :: y => if k = k' then (eqAV ks x y).map fun r => a == b && r else none
  | .str :: ks, .sc (.string a) :: x, .sc (.string b) :: y => (eqAV ks x y).map fun r => a.toList == b.toList && r
  | .bool :: ks, .sc (.bool a) :: x, .sc (.bool b) :: y => (eqAV ks x y).map fun r => a == b && r
  | _, _, _ => none
/-- are two keys the same -/
def keyEq (ks : List LK) : AV → AV → Option Bool
  | .sc a, .sc b => eqAV ks [.sc a] [.sc b]
  | .agg a, .agg b => eqAV ks a b
  | _, _ => none
/-- the entry of a key: its place and its value -/
def findM (ks : List LK) (key : AV) : List (AV × AV) → Nat → Option (Option (Nat × AV))
  | [], _ => some none
  | p :: es, i => match keyEq ks key p.1 with
    | some true => some (some (i, p.2))
    | some false => findM ks key es (i + 1)
    | none => none
def putM (es : List (AV × AV)) (k v : AV) : Option (Nat × AV) → List (AV × AV)
  | some (i, _) => es.set i (k, v)
  | none => es ++ [(k, v)]
/-- a new entry's birth -/
def putB (c : Nat) (bs : List Nat) : Option (Nat × AV) → Nat × List Nat
  | some _ => (c, bs)
  | none => (c + 1, bs ++ [c])
/-- a key of a map's kind of keys (st: structs) -/
def keyB (st : Bool) (ks : List LK) : AV → Bool
  | .agg a => st && a.length == ks.length
  | .sc _ => !st
  | _ => false
/-- a map's entries, and who is it -/
def mapAt (h : Heap) (id : Nat) : Option (Nat × List Nat × List (AV × AV)) := match h[id]? with | some (.map none c bs es) => some (c, bs, es) | _ => none
def mapEs (h : Heap) : AV → Option (List (AV × AV))
  | .map id => (mapAt h id).map (·.2.2)
  | .sc (.map none) => some []
  | _ => none
def valM (z : AV) : Option (Nat × AV) → AV
  | some (_, v) => v
  | none => z
/-- one step over a text or a map that has but one entry at most -/
def nextM (h : Heap) (str : Bool) (id : Nat) : Option (AV × Heap) :=
  match h[id]? with
  | some (.map (some (.sc (.string s))) c _ _) =>
    if str = false then none else if c < s.size then some (.tup [.bool true, .int .i64 c, .int .i32 (Utf8.decode s c).1], h.set id (.map (some (.str s)) (c + (Utf8.decode s c).2) [] [])) else some (.tup [.bool false], h)
  | some (.map (some (.sc (.map none))) _ _ _) => if str then none else some (.tup [.bool false], h)
  | some (.map (some (.map m)) c (l :: seen) _) => if str then none else (mapAt h m).bind fun (c', bs, es) => match es, bs with
    | [], _ => some (.tup [.bool false], h)
    | [(k, v)], [n] =>
      if seen = [] then (if n < c then some (.tup [.bool true, k, v], h.set id (.map (some (.map m)) c [c', n] [])) else none)
      else if seen = [n] ∧ n < l then some (.tup [.bool false], h) else none
    | _, _ => none
  | _ => none
inductive NK where
  | ptr | slice | map | func
  deriving DecidableEq, Inhabited
def isNil : NK → AV → Option Bool
  | .ptr, .sc (.pointer none) => some true
  | .ptr, .ptr .. => some false
  | .ptr, .ref _ => some false
  | .slice, .sc (.slice none _ _) => some true
  | .slice, .sc (.slice (some _) _ _) => some false
  | .slice, .slice _ _ (_ :: _) => some false
  | .slice, .ms .. => some false
  | .map, .sc (.map none) => some true
  | .map, .map _ => some false
  | .func, .sc .nilFunc => some true
  | .func, .func .. => some false
  | _, _ => none
/-- the bytes of a string's text out of elements -/
def byteEls : List AV → Option (List Int)
  | [] => some []
  | .sc (.int .u8 n) :: r => (byteEls r).map (n :: ·)
  | _ => none
def strEls (s : ByteArray) : List AV := s.data.toList.map fun b => .int .u8 b.toNat
/-- elements, whatever kind of slice -/
def elemsOf (h : Heap) (k : Option Nat) : AV → Option (List AV)
  | .slice _ k' els => if k' = k then some els else none
  | .ms id off k' len => if k' = k then msEls h id off k len else none
  | .sc (.slice _ 0 _) => some []
  | .sc (.string s) => if k = none then some (strEls s) else none
  | _ => none
def lenOf : AV → Option Nat
  | .slice _ _ els => some els.length
  | .ms _ _ _ len => some len
  | .sc (.slice _ 0 _) => some 0
  | _ => none
inductive IK where
  | arr (n : Nat)
  | slice
  deriving Inhabited
inductive SK where
  | str
  | slice
  | arr (n : Nat)
  deriving Inhabited
inductive AOp where
  | move (x : Opd)
  | acc (k : Option Nat) (x : Opd)
  | pick (c a b : Opd)
  | alloc (zero : List AV)
  | box (x : Opd)
  | boxI (x : Opd)
  | build (zero : List AV) (parts : List (Nat × Nat × Opd))
  | buildSlice (k : Option Nat) (zero : AV) (len : Nat) (parts : List (Nat × Opd))
  | load (k : Option Nat) (a : Opd)
  | store (n : Nat) (a x : Opd)
  | nilCheck (x : Opd)
  | bin (op : BinOp) (x y : Opd)
  | eqBool (neg : Bool) (x y : Opd)
  | eqArr (neg : Bool) (n : Nat) (x y : Opd)
  | eqAgg (neg : Bool) (ks : List LK) (x y : Opd)
  | eqNil (neg : Bool) (k : NK) (x : Opd)
  | un (op : UnOp) (x : Opd)
  | convInt (k : IntKind) (x : Opd)
  | convBytes (x : Opd)
  | convBytesI (x : Opd)
  | convBytesV (x : Opd)
  | buildSliceV (k : Option Nat) (zero : AV) (len : Nat) (parts : List (Nat × Opd))
  | letgo (x : Opd)
  | convStr (x : Opd)
  | convSS (x : Opd)
  | makeFunc (fn : Fn) (first caps : List Opd)
  | makeSlice (k : Option Nat) (zero : List AV) (bytes : Nat) (len cap : Opd)
  | slice (s : SK) (k : Option Nat) (x : Opd) (lo hi mx : Option Opd)
  | toArr (n : Nat) (x : Opd)
  | fieldAddr (off n : Nat) (x : Opd)
  | field (k : Option Nat) (off : Nat) (x : Opd)
  | indexAddr (s : IK) (k : Option Nat) (x i : Opd)
  | index (k : Option Nat) (n : Nat) (x i : Opd)
  | indexStr (x i : Opd)
  | extract (x : Opd) (i : Nat)
  | call (f : Opd) (args : List Opd)
  | callQ (f : Nat) (args : List Opd)
  | len (x : Opd)
  | lenT (x : Opd)
  | append (k : Option Nat) (bytes : Nat) (s x : Opd)
  | appendV (k : Option Nat) (bytes : Nat) (s x : Opd)
  | copy (k : Option Nat) (d s : Opd)
  | minmax (max : Bool) (x y : Opd)
  | mkMap
  | lookup (st : Bool) (ks : List LK) (z : AV) (ok : Bool) (m k : Opd)
  | mapSet (st : Bool) (ks : List LK) (m k x : Opd)
  | mapDel (st : Bool) (ks : List LK) (m k : Opd)
  | lenM (x : Opd)
  | range (str : Bool) (x : Opd)
  | next (str : Bool) (x : Opd)
  | stuck
  deriving Inhabited
structure AOper where
  dst : Option Nat
  op : AOp
  guard : Option (Nat × Bool)
  deriving Inhabited
structure Cl where
  call : Nat → List AV → Heap → Option (AV × Heap)
  pure : Nat → Bool
def optI (e : Env) : Option Opd → Option (Option Int)
  | none => some none
  | some o => (asI (evO e o)).map some
def cutOwn (o : AOwn) (lo : Option Int) : AOwn := match o, lo with | .full, _ => .full | o, none => o | _, _ => .none
def cutSl (o : AOwn) (k : Option Nat) (els : List AV) (lo hi mx : Option Int) : Option AV :=
  match mx, hi with
  | some m, some h => if 0 ≤ lo.getD 0 ∧ lo.getD 0 ≤ h ∧ h ≤ m ∧ m ≤ els.length then some (.slice (if m = h then .full else .none) k ((els.take h.toNat).drop (lo.getD 0).toNat)) else none
  | some _, none => none
  | none, some h => if 0 ≤ lo.getD 0 ∧ lo.getD 0 ≤ h ∧ h ≤ els.length then some (.slice .none k ((els.take h.toNat).drop (lo.getD 0).toNat)) else none
  | none, none => match lo with
    | none => some (.slice o k els)
    | some l => if 0 ≤ l ∧ l ≤ els.length then some (.slice (cutOwn o lo) k (els.drop l.toNat)) else none
def cutMs (id off : Nat) (k : Option Nat) (len : Nat) (lo hi mx : Option Int) : Option AV :=
  let h := hi.getD len
  let l := lo.getD 0
  if mx = none ∧ 0 ≤ l ∧ l ≤ h ∧ h ≤ len then (if l = h then some (.slice .none k []) else some (.ms id (off + l.toNat * kz k) k (h - l).toNat)) else none
def cutStr (s : ByteArray) (lo hi : Option Int) : Option AV :=
  let h := hi.getD s.size
  let l := lo.getD 0
  if 0 ≤ l ∧ l ≤ h ∧ h ≤ s.size then some (.str (s.extract l.toNat h.toNat)) else none
def aslice (hp : Heap) (s : SK) (k : Option Nat) (x : AV) (lo hi mx : Option Int) : Option AV :=
  match s, x with
  | .str, .sc (.string s) => if mx = none then cutStr s lo hi else none
  | .slice, .slice o k' els => if k' = k then cutSl o k els lo hi mx else none
  | .slice, .sc (.slice none 0 0) => if lo.getD 0 = 0 ∧ hi.getD 0 = 0 ∧ mx.getD 0 = 0 ∧ (mx = none ∨ hi ≠ none) then some .nil else none
  | .slice, .ms id off k' len => if k' = k then cutMs id off k len lo hi mx else none
  | .arr n, .ptr id off => (boxAt hp id).bind fun cs => if off + n * kz k ≤ cs.length then cutMs id off k n lo hi mx else none
  | .arr n, .ref cs => if lo = none ∧ hi = none ∧ mx = none ∧ n * kz k ≤ cs.length then some (.slice .full k (chunks k n cs)) else none
  | _, _ => none
def fitsB (n bytes : Nat) : Bool := decide (n * bytes ≤ 140737488355328 ∨ (n + n / 4 + 192) * bytes ≤ 281474976710656)
def aappend (k : Option Nat) (bytes : Nat) (h : Heap) (s : AV) (new : List AV) : Option (AV × Heap) :=
  match s with
  | .slice (.tok i) k' els => if k' = k then (match h[i]? with
      | some (.row k'' n) => if k'' = k ∧ n = els.length ∧ fitsB (els.length + new.length) bytes = true then some (.slice (.tok i) k (els ++ new), h.set i (.row k (els.length + new.length))) else none
      | _ => none) else none
  | .slice .full k' els => if k' = k ∧ fitsB (els.length + new.length) bytes = true then some (.slice (.tok h.length) k (els ++ new), h ++ [.row k (els.length + new.length)]) else none
  | .sc (.slice none 0 0) => if fitsB new.length bytes = true then some (.slice (.tok h.length) k new, h ++ [.row k new.length]) else none
  | .ms id off k' len => if k' = k ∧ msOwn h id off k len = .full ∧ 0 < new.length ∧ fitsB (len + new.length) bytes = true then (msEls h id off k len).map fun els => (.slice (.tok h.length) k (els ++ new), h ++ [.row k (len + new.length)]) else none
  | _ => none
/-- bytes as a text -/
def convS (h : Heap) : AV → Option AV
  | .sc (.string _) => none
  | v => ((elemsOf h none v).bind byteEls).map fun l => .str (strOfNums l)
/-- an append to a row that is written too: it has a name of its own behind each -/
def appV (k : Option Nat) (bytes : Nat) (h : Heap) (s : AV) (new : List AV) : Option (AV × Heap) :=
  match s with
  | .sc (.slice none 0 0) => if 0 < new.length ∧ fitsB new.length bytes = true then some (.ms h.length 0 k new.length, h ++ [.vec (new.map elCells).flatten]) else none
  | .slice .full k' els => if k' = k ∧ fitsB (els.length + new.length) bytes = true then (if new.length = 0 then some (.slice .full k els, h) else some (.ms h.length 0 k (els.length + new.length), h ++ [.vec ((els ++ new).map elCells).flatten])) else none
  | .ms id 0 k' len => if k' = k ∧ 0 < new.length ∧ fitsB (len + new.length) bytes = true then (match h[id]? with
      | some (.box ex cs) => if len * kz k ≤ cs.length then some (.ms h.length 0 k (len + new.length), h.set id (.row none 1) ++ [.vec ((if cs.length = len * kz k then cs else cs.take (len * kz k)) ++ (new.map elCells).flatten)]) else none
      | _ => none) else none
  | _ => none
def evL (e : Env) (l : List Opd) : List AV := l.map (evO e)
def setParts (e : Env) : List AV → List (Nat × Nat × Opd) → Option (List AV)
  | cs, [] => some cs
  | cs, (o, n, x) :: r => (cellsOf (evO e x)).bind fun xs => if xs.length = n ∧ o + n ≤ cs.length then setParts e (setAt cs o (xs.map strip)) r else none
def elFits (k : Option Nat) : AV → Bool
  | .agg cs => k == some cs.length && oneL cs
  | x => one x && k == none
def setEls (e : Env) (k : Option Nat) : List AV → List (Nat × Opd) → Option (List AV)
  | els, [] => some els
  | els, (i, x) :: r => if elFits k (evO e x) = true ∧ i < els.length then setEls e k (els.set i (stripEl (evO e x))) r else none
def storeB (h : Heap) (id off : Nat) (xs : List AV) : Option Heap :=
  (boxAt h id).bind fun cs => if off + xs.length ≤ cs.length then some (h.set id (.box (exAt h id) (setAt cs off xs))) else none
def aop (C : Cl) (o : AOp) (e : Env) (h : Heap) : Option (AV × Heap) :=
  match o with
  | .move x => some (evO e x, h)
  | .acc k x => match evO e x with | .sc (.slice none 0 0) => some (.slice (.tok h.length) k [], h ++ [.row k 0]) | _ => none
  | .pick c a b => match evO e c with | .sc (.bool t) => some (if t then evO e a else evO e b, h) | _ => none
  | .alloc zero => some (.ptr h.length 0, h ++ [.cells zero])
  | .box x => (cellsOf (evO e x)).bind fun cs => if oneL cs then some (.ptr h.length 0, h ++ [.cells cs]) else none
  | .boxI x => (cellsOf (evO e x)).bind fun cs => if oneL (cs.map strip) then some (.ref (cs.map strip), h) else none
  | .build zero parts => (setParts e zero parts).map fun cs => (.agg cs, h)
  | .buildSlice k zero len parts => (setEls e k (List.replicate len zero) parts).map fun els => (.slice .full k els, h)
  | .load k a => (deref h (evO e a)).bind fun cs => (ldCells k cs).map fun v => (v, h)
  | .store n a x => match evO e a with
    | .ptr id off => (cellsOf (evO e x)).bind fun xs => if xs.length = n ∧ oneL xs = true then (storeB h id off xs).map fun h => (.undef, h) else none
    | _ => none
  | .nilCheck x => match evO e x with
    | .ptr id off => some (.ptr id off, h)
    | .ref cs => some (.ref cs, h)
    | .func (.func f) a b => some (.func (.func f) a b, h)
    | _ => none
  | .bin op x y => match evO e x, evO e y with
    | .sc a, .sc b => (abin op a b).map fun v => (.sc v, h)
    | _, _ => none
  | .eqBool neg x y => match evO e x, evO e y with
    | .sc (.bool a), .sc (.bool b) => some (.bool ((a == b) != neg), h)
    | _, _ => none
  | .eqArr neg n x y => match evO e x, evO e y with
    | .agg a, .agg b => if a.length = n then (eqCells a b).map fun r => (.bool (r != neg), h) else none
    | _, _ => none
  | .eqAgg neg ks x y => match evO e x, evO e y with
    | .agg a, .agg b => (eqAV ks a b).map fun r => (.bool (r != neg), h)
    | _, _ => none
  | .eqNil neg k x => (isNil k (evO e x)).map fun r => (.bool (r != neg), h)
  | .un op x => match evO e x with | .sc a => (aun op a).map fun v => (.sc v, h) | _ => none
  | .convInt k x => match evO e x with | .sc (.int _ n) => some (.int k (k.wrap n), h) | _ => none
  | .convBytes x => match evO e x with
    | .sc (.string s) => if s.size ≤ 140737488355328 then some (.slice (.tok h.length) none (strEls s), h ++ [.row none s.size]) else none
    | _ => none
  | .convBytesI x => match evO e x with
    | .sc (.string s) => if s.size ≤ 140737488355328 then some (.slice .none none (strEls s), h) else none
    | _ => none
  | .convBytesV x => match evO e x with
    | .sc (.string s) => if 0 < s.size ∧ s.size ≤ 140737488355328 then some (.ms h.length 0 none s.size, h ++ [.vec (strEls s)]) else none
    | _ => none
  | .buildSliceV k zero len parts => (setEls e k (List.replicate len zero) parts).bind fun els => if 0 < len then some (.ms h.length 0 k len, h ++ [.cells (els.map elCells).flatten]) else none
  | .letgo x => match evO e x with
    | .ms id off k len => (msEls h id off k len).map fun els => (.slice .none k els, h.set id (.row none 1))
    | .slice o k els => some (.slice o k els, h)
    | _ => none
  | .convStr x => (convS h (evO e x)).map fun v => (v, h)
  | .convSS x => match evO e x with
    | .sc (.string s) => some (.str s, h)
    | _ => none
  | .makeFunc fn first caps => some (.func fn (evL e first) (evL e caps), h)
  | .makeSlice k zero bytes l c => match evO e l, evO e c with
    | .sc (.int .i64 l), .sc (.int .i64 c) =>
      if 0 ≤ l ∧ l ≤ c ∧ c * bytes ≤ 281474976710656 ∧ c ≤ 9223372036854775807 then
        (if l = 0 then some (.slice (.tok h.length) k [], h ++ [.row k 0])
        else if l = c then some (.ms h.length 0 k l.toNat, h ++ [.cells (List.replicate l.toNat zero).flatten]) else none)
      else none
    | _, _ => none
  | .slice s k x lo hi mx => (optI e lo).bind fun lo => (optI e hi).bind fun hi => (optI e mx).bind fun mx => (aslice h s k (evO e x) lo hi mx).map fun v => (v, h)
  | .toArr n x => match evO e x with
    | .ms id off none len => if n ≤ len ∧ 0 < n then some (.ptr id off, h) else none
    | .slice _ none els => if n ≤ els.length ∧ 0 < n then some (.ref els, h) else none
    | _ => none
  | .fieldAddr off n x => match evO e x with
    | .ptr id o => some (.ptr id (o + off), h)
    | .ref cs => some (.ref (cs.drop off), h)
    | _ => none
  | .field k off x => match evO e x with
    | .agg cs => (ldCells k (cs.drop off)).map fun v => (v, h)
    | _ => none
  | .indexAddr s k x i => (asI (evO e i)).bind fun i => match s, evO e x with
    | .arr n, .ptr id off => if 0 ≤ i ∧ i < n then some (.ptr id (off + i.toNat * kz k), h) else none
    | .arr n, .ref cs => if 0 ≤ i ∧ i < n then some (.ref (cs.drop (i.toNat * kz k)), h) else none
    | .slice, .slice _ k' els => if k' = k ∧ 0 ≤ i then (els[i.toNat]?).map fun x => (.ref (elCells x), h) else none
    | .slice, .ms id off k' len => if k' = k ∧ 0 ≤ i ∧ i < len then some (.ptr id (off + i.toNat * kz k), h) else none
    | _, _ => none
  | .index k n x i => (asI (evO e i)).bind fun i => match evO e x with
    | .agg cs => if 0 ≤ i ∧ i < n then (ldCells k (cs.drop (i.toNat * kz k))).map fun v => (v, h) else none
    | _ => none
  | .indexStr x i => (asI (evO e i)).bind fun i => match evO e x with
    | .sc (.string s) => if 0 ≤ i then (s.data.toList[i.toNat]?).map fun b => (.int .u8 b.toNat, h) else none
    | _ => none
  | .extract x i => match evO e x with | .tup vs => (vs[i]?).map fun v => (v, h) | _ => none
  | .call f args => match evO e f with
    | .func (.func f) first caps => C.call f (first ++ evL e args ++ caps) h
    | _ => none
  | .callQ f args => if C.pure f then (C.call f ([] ++ evL e args ++ []) h).bind fun (v, _) => if rigid v then some (v, h) else none else none
  | .len x => (lenOf (evO e x)).map fun (n : Nat) => (.int .i64 (n : Int), h)
  | .lenT x => match evO e x with
    | .sc (.string s) => some (.int .i64 s.size, h)
    | _ => none
  | .append k bytes s x => (elemsOf h k (evO e x)).bind fun new => aappend k bytes h (evO e s) new
  | .appendV k bytes s x => (elemsOf h k (evO e x)).bind fun new => appV k bytes h (evO e s) new
  | .copy k d s => (elemsOf h k (evO e s)).bind fun new => match evO e d with
    | .ms id off k' len => if k' = k then (storeB h id off ((new.take len).flatMap elCells)).map fun h => (.int .i64 (min new.length len : Nat), h) else none
    | _ => none
  | .minmax mx x y => match evO e x, evO e y with
    | .sc (.int k a), .sc (.int k' b) => if k = k' then some (.int k (if mx then (if b > a then b else a) else (if b < a then b else a)), h) else none
    | _, _ => none
  | .mkMap => some (.map h.length, h ++ [.map none 0 [] []])
  | .lookup st ks z ok m k => (mapEs h (evO e m)).bind fun es => if keyB st ks (evO e k) then (findM ks (evO e k) es 0).map fun r => (if ok then .tup [valM z r, .bool r.isSome] else valM z r, h) else none
  | .mapSet st ks m k x => match evO e m with
    | .map id => (mapAt h id).bind fun (c, bs, es) => if keyB st ks (evO e k) then (findM ks (evO e k) es 0).map fun r => (.undef, h.set id (.map none (putB c bs r).1 (putB c bs r).2 (putM es (evO e k) (evO e x) r))) else none
    | _ => none
  | .mapDel st ks m k => if keyB st ks (evO e k) then (match evO e m with
    | .map id => (mapAt h id).bind fun (c, bs, es) => (findM ks (evO e k) es 0).map fun r => match r with
      | some (i, _) => (.tup [], h.set id (.map none c (bs.eraseIdx i) (es.eraseIdx i)))
      | none => (.tup [], h)
    | .sc (.map none) => some (.tup [], h)
    | _ => none) else none
  | .lenM x => (mapEs h (evO e x)).map fun es => (.int .i64 (es.length : Int), h)
  | .range str x => match evO e x with
    | .sc (.string s) => if str then some (.ptr h.length 0, h ++ [.map (some (.str s)) 0 [] []]) else none
    | .sc (.map none) => if str then none else some (.ptr h.length 0, h ++ [.map (some (.sc (.map none))) 0 [] []])
    | .map id => if str then none else (mapAt h id).map fun p => (.ptr h.length 0, h ++ [.map (some (.map id)) p.1 [p.1] []])
    | _ => none
  | .next str x => match evO e x with
    | .ptr id 0 => nextM h str id
    | _ => none
  | .stuck => none
def wantE (g : Option (Nat × Bool)) (e : Env) : Option Bool :=
  match g with
  | none => some true
  | some (t, w) => match getE e t with
    | .sc (.bool b) => some (b == w)
    | .sc _ => some false
    | _ => none
def aops (C : Cl) : List AOper → Env → Heap → Option (Env × Heap)
  | [], e, h => some (e, h)
  | o :: r, e, h => (wantE o.guard e).bind fun w =>
    if w then (aop C o.op e h).bind fun (v, h) => aops C r (setE e o.dst v) h else aops C r (setE e o.dst .undef) h
/-- operations that touch no memory, whatever their order -/
def AOp.still : AOp → Bool
  | .move _ | .pick .. | .build .. | .nilCheck _ | .bin .. | .eqBool .. | .eqArr .. | .eqAgg .. | .eqNil .. | .un .. | .convInt .. | .makeFunc .. | .slice .. | .toArr .. | .fieldAddr .. | .field .. | .indexAddr .. | .index .. | .indexStr .. | .extract .. | .len _ | .lenT _ | .convSS _ | .minmax .. => true
  | _ => false
/-- one that reads alone -/
def quietV (C : Cl) (o : AOp) (e : Env) (h : Heap) : Option AV :=
  if o.still then (aop C o e h).map (·.1) else
  match o with
  | .load .. | .convStr .. => (aop C o e h).bind fun (v, _) => if rigid v then some v else none
  | .call f _ => match evO e f with
    | .func (.func g) _ _ => if C.pure g then (aop C o e h).bind fun (v, _) => if rigid v then some v else none else none
    | _ => none
  | _ => none
def aopsQ (C : Cl) : List AOper → Env → Heap → Option Env
  | [], e, _ => some e
  | o :: r, e, h => (wantE o.guard e).bind fun w =>
    if w then (quietV C o.op e h).bind fun v => aopsQ C r (setE e o.dst v) h else aopsQ C r (setE e o.dst .undef) h
/-! ### rows whose order is drawn -/
/-- does it change what is held? -/
def effB : AOp → Bool
  | .acc .. | .alloc _ | .box _ | .boxI _ | .appendV .. | .store .. | .convBytes _ | .convBytesV _ | .buildSliceV .. | .letgo _ | .makeSlice .. | .call .. | .append .. | .copy .. | .mkMap | .mapSet .. | .mapDel .. | .range .. | .next .. => true
  | _ => false
/-- may its value be another one where something else is held? -/
def reB : AOp → Bool
  | .load .. | .convStr _ | .slice .. | .callQ .. | .lookup .. | .lenM _ => true
  | _ => false
def vEq : Value → Value → Bool
  | .int k a, .int k' b => k == k' && a == b
  | .bool a, .bool b => a == b
  | .string a, .string b => a.data.toList == b.data.toList
  | .pointer none, .pointer none => true
  | .slice none a b, .slice none c d => a == c && b == d
  | .map none, .map none => true
  | .nilFunc, .nilFunc => true
  | _, _ => false
mutual
def beqV : AV → AV → Bool
  | .sc a, .sc b => vEq a b
  | .ptr i o, .ptr j p => i == j && o == p
  | .ref a, .ref b => beqVL a b
  | .slice o k a, .slice p l b => o == p && k == l && beqVL a b
  | .ms i o k n, .ms j p l m => i == j && o == p && k == l && n == m
  | .func (.func f) a b, .func (.func g) c d => f == g && beqVL a c && beqVL b d
  | .agg a, .agg b => beqVL a b
  | .tup a, .tup b => beqVL a b
  | .map i, .map j => i == j
  | _, _ => false
def beqVL : List AV → List AV → Bool
  | [], [] => true
  | x :: xs, y :: ys => beqV x y && beqVL xs ys
  | _, _ => false
end
def grow (o : AOp) (h : Heap) (hs : List Heap) : List Heap := if effB o then hs ++ [h] else hs
/-- in the order of the text; all that was held on the way is gathered -/
def runD (C : Cl) : List AOper → Env → Heap → List Heap → Option (Env × Heap × List Heap)
  | [], e, h, hs => some (e, h, hs ++ [h])
  | o :: r, e, h, hs => (wantE o.guard e).bind fun w =>
    if w then (aop C o.op e h).bind fun (v, h') => runD C r (setE e o.dst v) h' (grow o.op h hs) else runD C r (setE e o.dst .undef) h (grow o.op h hs)
def chkV : Option (AV × Heap) → Option Nat → Env → Bool
  | some (v, _), some d, e => beqV v (getE e d)
  | some _, none, _ => true
  | none, _, _ => false
/-- its value is the same in all that may be held when its turn comes -/
def chkO (C : Cl) (e e' : Env) (o : AOper) : List Heap → Bool
  | [] => true
  | h :: hs => chkV (aop C o.op e h) o.dst e' && chkO C e e' o hs
def nxE (e e' : Env) : Option Nat → Env
  | some d => (d, getE e' d) :: e
  | none => e
def chkW (b : Bool) : Option Bool → Bool
  | some true => b
  | _ => true
def chkD (C : Cl) (e' : Env) (hs : List Heap) : Env → List AOper → List (Nat × Nat) → Bool
  | e, o :: r, (lo, hi) :: s => (if reB o.op = true ∧ lo < hi then chkW (chkO C e e' o ((hs.drop lo).take (hi + 1 - lo))) (wantE o.guard e) else true) && chkD C e' hs (nxE e e' o.dst) r s
  | _, _, _ => true
inductive AC where
  | skip
  | reg (ops : List AOper)
  | regQ (ops : List AOper)
  | regD (ops : List AOper) (st : List (Nat × Nat))
  | seq (a b : AC)
  | cond (c : Opd) (a b : AC)
  | block (id : Nat) (b : AC)
  | loop (keep : List Nat) (gc : Bool) (b : AC)
  | exit (id : Nat)
  | scope (b : AC)
  | ret
  deriving Inhabited
inductive AX where
  | normal | exit (id : Nat) | ret
  deriving DecidableEq, Inhabited
abbrev Res := AX × Env × Heap
def belowO (m : Nat) : AObj → Bool
  | .box _ cs => belowL m cs
  | .row .. => true
  | .map it _ _ es => (it.all fun x => below m x) && es.all fun p => below m p.1 && below m p.2
def trim (keep : List Nat) (gc : Bool) (m : Nat) (e : Env) (h : Heap) : Option (Env × Heap) :=
  if gc = true ∧ m < h.length then
    (if (keep.all fun t => below m (getE e t)) && (h.take m).all (belowO m) then some (keep.map fun t => (t, getE e t), h.take m) else none)
  else some (keep.map fun t => (t, getE e t), h)
def aloop (body : Env → Heap → Option Res) (keep : List Nat) (gc : Bool) (m : Nat) : Nat → Env → Heap → Option Res
  | 0, _, _ => none
  | n + 1, e, h => (trim keep gc m e h).bind fun (e, h) => (body e h).bind fun (x, e, h) => match x with
    | .normal => aloop body keep gc m n e h
    | x => some (x, e, h)
def outOf (id : Nat) : AX → AX | .exit i => if i = id then .normal else .exit i | x => x
def aexec (C : Cl) (n : Nat) : AC → Env → Heap → Option Res
  | .skip, e, h => some (.normal, e, h)
  | .reg ops, e, h => (aops C ops e h).map fun (e, h) => (.normal, e, h)
  | .regQ ops, e, h => (aopsQ C ops e h).map fun e => (.normal, e, h)
  | .regD ops st, e, h => (runD C ops e h []).bind fun (e', h, hs) => if chkD C e' hs e ops st then some (.normal, e', h) else none
  | .seq a b, e, h => (aexec C n a e h).bind fun (x, e, h) => match x with
    | .normal => aexec C n b e h
    | x => some (x, e, h)
  | .cond c a b, e, h => match evO e c with
    | .sc (.bool true) => aexec C n a e h
    | .sc (.bool false) => aexec C n b e h
    | _ => none
  | .block id b, e, h => (aexec C n b e h).map fun (x, e, h) => (outOf id x, e, h)
  | .loop keep gc b, e, h => aloop (aexec C n b) keep gc h.length n e h
  | .exit id, e, h => some (.exit id, e, h)
  | .scope b, e, h => aexec C n b e h
  | .ret, e, h => some (.ret, e, h)
inductive ARes where
  | tmp (t : Nat)
  | cell (t : Nat) (k : Option Nat)
  deriving Inhabited
structure AFn where
  nt : Nat
  pure : Bool
  np : Nat
  res : List ARes
  body : AC
  deriving Inhabited
structure Tab where
  ext : Nat → Option (List AV → Option AV)
  fn : Nat → Option AFn
  nat : Nat → Option (List AV → Heap → Option (AV × Heap)) := fun _ => none
def resOf (e : Env) (h : Heap) : List ARes → Option (List AV)
  | [] => some []
  | .tmp t :: r => (resOf e h r).map (getE e t :: ·)
  | .cell t k :: r => ((deref h (getE e t)).bind (ldCells k)).bind fun v => (resOf e h r).map (v :: ·)
def tupOf : List AV → AV | [x] => x | l => .tup l
def initE : Nat → List AV → Env
  | _, [] => []
  | i, x :: xs => (i, x) :: initE (i + 1) xs
def finish (F : AFn) (r : Res) : Option (AV × Heap) :=
  match r.1 with
  | .exit _ => none
  | _ => (resOf r.2.1 r.2.2 F.res).map fun l => (tupOf l, r.2.2)
def Tab.pure (T : Tab) (f : Nat) : Bool := (T.ext f).isSome || (match T.fn f with | some F => F.pure | none => false)
/-- a callee that makes all for itself -/
def pcall (g : List AV → Option AV) (args : List AV) (h : Heap) : Option (AV × Heap) :=
  (prep h args).bind fun (args, bor) => (g args).bind fun v => if bor then (if rigid v then some (v, h) else none) else some (adopt v h)
def gcall (T : Tab) : Nat → Nat → List AV → Heap → Option (AV × Heap)
  | 0, _, _, _ => none
  | n + 1, f, args, h => match T.ext f with
    | some g => pcall g args h
    | none => match T.fn f with
      | none => (T.nat f).bind fun g => g args h
      | some F => if args.length = F.np then
          (if F.pure then pcall (fun a => ((aexec ⟨gcall T n, T.pure⟩ n F.body (initE 0 a) []).bind (finish F)).bind fun (v, h) => freeze h v) args h
          else (aexec ⟨gcall T n, T.pure⟩ n F.body (initE 0 args) h).bind (finish F))
        else none
end Go.Proofs.Ytipbmacpenmgoaa.AM

/- How the plain machine's values and heaps lie in the model's memory. -/
namespace Go.Proofs.Ytipbmacpenmgoaa.AM
open Go Go.RowKit
set_option linter.unusedVariables false
set_option linter.unusedSimpArgs false
abbrev Imm := Nat → Nat → Option Value
/-- where things lie: a box's or row's blocks, blocks' sizes, cells that stay as they are -/
structure St where
  blk : Nat → Nat → Option Nat
  sz : Nat → Option Nat
  imm : Imm
  base : Nat := 0
def OwnV (S : St) (own : AOwn) (k : Option Nat) (len : Nat) (ao : Option Addr) (cap : Nat) : Prop :=
  match own with
  | .full => cap = len
  | .tok i => cap ≤ maxLen ∧ (cap = len ∨ ∃ b n, S.blk i len = some b ∧ S.sz b = some n ∧ ao = some ⟨b, 0, none⟩ ∧ cap * kz k ≤ n)
  | _ => True
mutual
def V (S : St) : AV → Value → Prop
  | .sc v, u => u = v
  | .unk, _ => True
  | .ptr id off, u => ∃ b, S.blk id 0 = some b ∧ u = .pointer (some ⟨b, off, none⟩)
  | .ref cs, u => ∃ b o, u = .pointer (some ⟨b, o, none⟩) ∧ VM S cs b o
  | .slice own k els, u => ∃ ao cap, u = .slice ao els.length cap ∧ els.length ≤ cap ∧ OwnV S own k els.length ao cap ∧ (els = [] ∨ ∃ b o, ao = some ⟨b, o, none⟩ ∧ VE S k els b o)
  | .ms id off k len, u => ∃ b n cap, S.blk id 0 = some b ∧ S.sz b = some n ∧ len ≤ cap ∧ off + cap * kz k ≤ n ∧ u = .slice (some ⟨b, off, none⟩) len cap
  | .func fn x y, u => ∃ x' y', u = .func fn x' y' ∧ VL S x x'.toList ∧ VL S y y'.toList
  | .agg cs, u => ∃ a, u = .agg a ∧ VL S cs a.toList
  | .tup vs, u => ∃ a, u = .tuple a ∧ VL S vs a.toList
  | .map id, u => ∃ b, S.blk id 0 = some b ∧ u = .map (some b)
def VL (S : St) : List AV → List Value → Prop
  | [], l => l = []
  | x :: xs, l => ∃ u us, l = u :: us ∧ V S x u ∧ VL S xs us
def VM (S : St) : List AV → Nat → Nat → Prop
  | [], _, _ => True
  | x :: xs, b, o => (∃ u, S.imm b o = some u ∧ V S x u) ∧ VM S xs b (o + 1)
def VE (S : St) (k : Option Nat) : List AV → Nat → Nat → Prop
  | [], _, _ => True
  | .agg cs :: r, b, o => k = some cs.length ∧ VM S cs b o ∧ VE S k r b (o + cs.length)
  | x :: r, b, o => k = none ∧ (∃ u, S.imm b o = some u ∧ V S x u) ∧ VE S k r b (o + 1)
end
/-- what is known stays known -/
structure Ext (S S' : St) : Prop where
  blk : ∀ i v b, S.blk i v = some b → S'.blk i v = some b
  sz : ∀ b n, S.sz b = some n → S'.sz b = some n
  imm : ∀ b o u, S.imm b o = some u → S'.imm b o = some u
  base : S'.base = S.base
  low : ∀ b o u, S'.imm b o = some u → S.imm b o = some u ∨ S.base ≤ b
theorem Ext.refl (S : St) : Ext S S := ⟨fun _ _ _ h => h, fun _ _ h => h, fun _ _ _ h => h, rfl, fun _ _ _ h => .inl h⟩
theorem Ext.trans {a b c : St} (h : Ext a b) (k : Ext b c) : Ext a c := ⟨fun _ _ _ x => k.blk _ _ _ (h.blk _ _ _ x), fun _ _ x => k.sz _ _ (h.sz _ _ x), fun _ _ _ x => k.imm _ _ _ (h.imm _ _ _ x), k.base.trans h.base, fun b o u x => by
  rcases k.low b o u x with x | x
  · exact h.low b o u x
  · rw [h.base] at x; exact .inr x⟩
theorem OwnV.mono {S S' : St} (e : Ext S S') {own k len ao cap} (h : OwnV S own k len ao cap) : OwnV S' own k len ao cap := by
  cases own <;> simp only [OwnV] at *
  · exact h
  · obtain ⟨hm, h⟩ := h
    refine ⟨hm, ?_⟩
    rcases h with h | ⟨b, n, h1, h2, h3, h4⟩
    · exact .inl h
    · exact .inr ⟨b, n, e.blk _ _ _ h1, e.sz _ _ h2, h3, h4⟩
mutual
theorem V.mono {S S' : St} (e : Ext S S') : ∀ (x : AV) {u : Value}, V S x u → V S' x u
  | .sc v, u, h => by simpa only [V] using h
  | .unk, u, h => by simp only [V]
  | .ptr id off, u, h => by
    simp only [V] at *
    obtain ⟨b, h1, h2⟩ := h
    exact ⟨b, e.blk _ _ _ h1, h2⟩
  | .ref cs, u, h => by
    simp only [V] at *
    obtain ⟨b, o, h1, h2⟩ := h
    exact ⟨b, o, h1, VM.mono e cs h2⟩
  | .slice own k els, u, h => by
    simp only [V] at *
    obtain ⟨ao, cap, h1, h2, h3, h4⟩ := h
    refine ⟨ao, cap, h1, h2, h3.mono e, ?_⟩
    rcases h4 with h4 | ⟨b, o, h4, h5⟩
    · exact .inl h4
    · exact .inr ⟨b, o, h4, VE.mono e els h5⟩
  | .ms id off k len, u, h => by
    simp only [V] at *
    obtain ⟨b, n, cap, h1, h2, h3, h4, h5⟩ := h
    exact ⟨b, n, cap, e.blk _ _ _ h1, e.sz _ _ h2, h3, h4, h5⟩
  | .func fn x y, u, h => by
    simp only [V] at *
    obtain ⟨x', y', h1, h2, h3⟩ := h
    exact ⟨x', y', h1, VL.mono e x h2, VL.mono e y h3⟩
  | .agg cs, u, h => by
    simp only [V] at *
    obtain ⟨a, h1, h2⟩ := h
    exact ⟨a, h1, VL.mono e cs h2⟩
  | .tup vs, u, h => by
    simp only [V] at *
    obtain ⟨a, h1, h2⟩ := h
    exact ⟨a, h1, VL.mono e vs h2⟩
  | .map id, u, h => by
    simp only [V] at *
    obtain ⟨b, h1, h2⟩ := h
    exact ⟨b, e.blk _ _ _ h1, h2⟩
theorem VL.mono {S S' : St} (e : Ext S S') : ∀ (x : List AV) {u : List Value}, VL S x u → VL S' x u
  | [], u, h => by simpa only [VL] using h
  | x :: xs, u, h => by
    simp only [VL] at *
    obtain ⟨a, l, h1, h2, h3⟩ := h
    exact ⟨a, l, h1, V.mono e x h2, VL.mono e xs h3⟩
theorem VM.mono {S S' : St} (e : Ext S S') : ∀ (x : List AV) {b o : Nat}, VM S x b o → VM S' x b o
  | [], _, _, h => by simp only [VM]
  | x :: xs, b, o, h => by
    simp only [VM] at *
    obtain ⟨⟨u, h1, h2⟩, h3⟩ := h
    exact ⟨⟨u, e.imm _ _ _ h1, V.mono e x h2⟩, VM.mono e xs h3⟩
theorem VE.mono {S S' : St} (e : Ext S S') {k : Option Nat} : ∀ (x : List AV) {b o : Nat}, VE S k x b o → VE S' k x b o
  | [], _, _, h => by simp only [VE]
  | .agg cs :: r, b, o, h => by
    simp only [VE] at *
    exact ⟨h.1, VM.mono e cs h.2.1, VE.mono e r h.2.2⟩
  | .sc v :: r, b, o, h => by
    simp only [VE] at *
    obtain ⟨h0, ⟨u, h1, h2⟩, h3⟩ := h
    exact ⟨h0, ⟨u, e.imm _ _ _ h1, V.mono e (.sc v) h2⟩, VE.mono e r h3⟩
  | .unk :: r, b, o, h => by
    simp only [VE] at *
    obtain ⟨h0, ⟨u, h1, h2⟩, h3⟩ := h
    exact ⟨h0, ⟨u, e.imm _ _ _ h1, V.mono e .unk h2⟩, VE.mono e r h3⟩
  | .ptr i f :: r, b, o, h => by
    simp only [VE] at *
    obtain ⟨h0, ⟨u, h1, h2⟩, h3⟩ := h
    exact ⟨h0, ⟨u, e.imm _ _ _ h1, V.mono e (.ptr i f) h2⟩, VE.mono e r h3⟩
  | .ref c :: r, b, o, h => by
    simp only [VE] at *
    obtain ⟨h0, ⟨u, h1, h2⟩, h3⟩ := h
    exact ⟨h0, ⟨u, e.imm _ _ _ h1, V.mono e (.ref c) h2⟩, VE.mono e r h3⟩
  | .slice w q l :: r, b, o, h => by
    simp only [VE] at *
    obtain ⟨h0, ⟨u, h1, h2⟩, h3⟩ := h
    exact ⟨h0, ⟨u, e.imm _ _ _ h1, V.mono e (.slice w q l) h2⟩, VE.mono e r h3⟩
  | .ms i f q l :: r, b, o, h => by
    simp only [VE] at *
    obtain ⟨h0, ⟨u, h1, h2⟩, h3⟩ := h
    exact ⟨h0, ⟨u, e.imm _ _ _ h1, V.mono e (.ms i f q l) h2⟩, VE.mono e r h3⟩
  | .func f x y :: r, b, o, h => by
    simp only [VE] at *
    obtain ⟨h0, ⟨u, h1, h2⟩, h3⟩ := h
    exact ⟨h0, ⟨u, e.imm _ _ _ h1, V.mono e (.func f x y) h2⟩, VE.mono e r h3⟩
  | .tup vs :: r, b, o, h => by
    simp only [VE] at *
    obtain ⟨h0, ⟨u, h1, h2⟩, h3⟩ := h
    exact ⟨h0, ⟨u, e.imm _ _ _ h1, V.mono e (.tup vs) h2⟩, VE.mono e r h3⟩
  | .map i :: r, b, o, h => by
    simp only [VE] at *
    obtain ⟨h0, ⟨u, h1, h2⟩, h3⟩ := h
    exact ⟨h0, ⟨u, e.imm _ _ _ h1, V.mono e (.map i) h2⟩, VE.mono e r h3⟩
end
/-- the same for what bears names of one kind alone -/
structure ExtP (p : Nat → Bool) (S S' : St) : Prop where
  blk : ∀ i v b, p i = true → S.blk i v = some b → S'.blk i v = some b
  sz : ∀ i v b n, p i = true → S.blk i v = some b → S.sz b = some n → S'.sz b = some n
  imm : ∀ b o u, S.imm b o = some u → S'.imm b o = some u
mutual
theorem V.nam {S S' : St} {p : Nat → Bool} (e : ExtP p S S') : ∀ (x : AV) {u : Value}, nam p x = true → V S x u → V S' x u
  | .sc v, u, _, h => by simpa only [V] using h
  | .unk, u, _, h => by simp only [V]
  | .ptr id off, u, g, h => by
    simp only [V, AM.nam] at *
    obtain ⟨b, h1, h2⟩ := h
    exact ⟨b, e.blk _ _ _ g h1, h2⟩
  | .ref cs, u, g, h => by
    simp only [V, AM.nam] at *
    obtain ⟨b, o, h1, h2⟩ := h
    exact ⟨b, o, h1, VM.nam e cs g h2⟩
  | .slice own k els, u, g, h => by
    simp only [V, AM.nam, Bool.and_eq_true] at *
    obtain ⟨ao, cap, h1, h2, h3, h4⟩ := h
    refine ⟨ao, cap, h1, h2, ?_, ?_⟩
    · cases own <;> simp only [OwnV] at *
      · exact h3
      · obtain ⟨hm, h3⟩ := h3
        refine ⟨hm, ?_⟩
        rcases h3 with h3 | ⟨b, n, e1, e2, e3, e4⟩
        · exact .inl h3
        · exact .inr ⟨b, n, e.blk _ _ _ g.1 e1, e.sz _ _ _ _ g.1 e1 e2, e3, e4⟩
    rcases h4 with h4 | ⟨b, o, h4, h5⟩
    · exact .inl h4
    · exact .inr ⟨b, o, h4, VE.nam e els g.2 h5⟩
  | .ms id off k len, u, g, h => by
    simp only [V, AM.nam] at *
    obtain ⟨b, n, cap, h1, h2, h3, h4, h5⟩ := h
    exact ⟨b, n, cap, e.blk _ _ _ g h1, e.sz _ _ _ _ g h1 h2, h3, h4, h5⟩
  | .func fn x y, u, g, h => by
    simp only [V, AM.nam, Bool.and_eq_true] at *
    obtain ⟨x', y', h1, h2, h3⟩ := h
    exact ⟨x', y', h1, VL.nam e x g.1 h2, VL.nam e y g.2 h3⟩
  | .agg cs, u, g, h => by
    simp only [V, AM.nam] at *
    obtain ⟨a, h1, h2⟩ := h
    exact ⟨a, h1, VL.nam e cs g h2⟩
  | .tup vs, u, g, h => by
    simp only [V, AM.nam] at *
    obtain ⟨a, h1, h2⟩ := h
    exact ⟨a, h1, VL.nam e vs g h2⟩
  | .map id, u, g, h => by
    simp only [V, AM.nam] at *
    obtain ⟨b, h1, h2⟩ := h
    exact ⟨b, e.blk _ _ _ g h1, h2⟩
theorem VL.nam {S S' : St} {p : Nat → Bool} (e : ExtP p S S') : ∀ (x : List AV) {u : List Value}, namL p x = true → VL S x u → VL S' x u
  | [], u, _, h => by simpa only [VL] using h
  | x :: xs, u, g, h => by
    simp only [VL, AM.namL, Bool.and_eq_true] at *
    obtain ⟨a, l, h1, h2, h3⟩ := h
    exact ⟨a, l, h1, V.nam e x g.1 h2, VL.nam e xs g.2 h3⟩
theorem VM.nam {S S' : St} {p : Nat → Bool} (e : ExtP p S S') : ∀ (x : List AV) {b o : Nat}, namL p x = true → VM S x b o → VM S' x b o
  | [], _, _, _, h => by simp only [VM]
  | x :: xs, b, o, g, h => by
    simp only [VM, AM.namL, Bool.and_eq_true] at *
    obtain ⟨⟨u, h1, h2⟩, h3⟩ := h
    exact ⟨⟨u, e.imm _ _ _ h1, V.nam e x g.1 h2⟩, VM.nam e xs g.2 h3⟩
theorem VE.nam {S S' : St} {p : Nat → Bool} (e : ExtP p S S') {k : Option Nat} : ∀ (x : List AV) {b o : Nat}, namL p x = true → VE S k x b o → VE S' k x b o
  | [], _, _, _, h => by simp only [VE]
  | .agg cs :: r, b, o, g, h => by
    simp only [VE, AM.namL, AM.nam, Bool.and_eq_true] at *
    exact ⟨h.1, VM.nam e cs g.1 h.2.1, VE.nam e r g.2 h.2.2⟩
  | .sc v :: r, b, o, g, h => by
    simp only [VE] at h ⊢
    rw [AM.namL, Bool.and_eq_true] at g
    obtain ⟨h0, ⟨u, h1, h2⟩, h3⟩ := h
    exact ⟨h0, ⟨u, e.imm _ _ _ h1, V.nam e (.sc v) g.1 h2⟩, VE.nam e r g.2 h3⟩
  | .unk :: r, b, o, g, h => by
    simp only [VE] at h ⊢
    rw [AM.namL, Bool.and_eq_true] at g
    obtain ⟨h0, ⟨u, h1, h2⟩, h3⟩ := h
    exact ⟨h0, ⟨u, e.imm _ _ _ h1, V.nam e (.unk) g.1 h2⟩, VE.nam e r g.2 h3⟩
  | .ptr i f :: r, b, o, g, h => by
    simp only [VE] at h ⊢
    rw [AM.namL, Bool.and_eq_true] at g
    obtain ⟨h0, ⟨u, h1, h2⟩, h3⟩ := h
    exact ⟨h0, ⟨u, e.imm _ _ _ h1, V.nam e (.ptr i f) g.1 h2⟩, VE.nam e r g.2 h3⟩
  | .ref c :: r, b, o, g, h => by
    simp only [VE] at h ⊢
    rw [AM.namL, Bool.and_eq_true] at g
    obtain ⟨h0, ⟨u, h1, h2⟩, h3⟩ := h
    exact ⟨h0, ⟨u, e.imm _ _ _ h1, V.nam e (.ref c) g.1 h2⟩, VE.nam e r g.2 h3⟩
  | .slice w q l :: r, b, o, g, h => by
    simp only [VE] at h ⊢
    rw [AM.namL, Bool.and_eq_true] at g
    obtain ⟨h0, ⟨u, h1, h2⟩, h3⟩ := h
    exact ⟨h0, ⟨u, e.imm _ _ _ h1, V.nam e (.slice w q l) g.1 h2⟩, VE.nam e r g.2 h3⟩
  | .ms i f q l :: r, b, o, g, h => by
    simp only [VE] at h ⊢
    rw [AM.namL, Bool.and_eq_true] at g
    obtain ⟨h0, ⟨u, h1, h2⟩, h3⟩ := h
    exact ⟨h0, ⟨u, e.imm _ _ _ h1, V.nam e (.ms i f q l) g.1 h2⟩, VE.nam e r g.2 h3⟩
  | .func f x y :: r, b, o, g, h => by
    simp only [VE] at h ⊢
    rw [AM.namL, Bool.and_eq_true] at g
    obtain ⟨h0, ⟨u, h1, h2⟩, h3⟩ := h
    exact ⟨h0, ⟨u, e.imm _ _ _ h1, V.nam e (.func f x y) g.1 h2⟩, VE.nam e r g.2 h3⟩
  | .tup vs :: r, b, o, g, h => by
    simp only [VE] at h ⊢
    rw [AM.namL, Bool.and_eq_true] at g
    obtain ⟨h0, ⟨u, h1, h2⟩, h3⟩ := h
    exact ⟨h0, ⟨u, e.imm _ _ _ h1, V.nam e (.tup vs) g.1 h2⟩, VE.nam e r g.2 h3⟩
  | .map i :: r, b, o, g, h => by
    simp only [VE] at h ⊢
    rw [AM.namL, Bool.and_eq_true] at g
    obtain ⟨h0, ⟨u, h1, h2⟩, h3⟩ := h
    exact ⟨h0, ⟨u, e.imm _ _ _ h1, V.nam e (.map i) g.1 h2⟩, VE.nam e r g.2 h3⟩
end
/-! ### lists -/
theorem VL.length {S : St} : ∀ {x : List AV} {u : List Value}, VL S x u → u.length = x.length
  | [], u, h => by simp only [VL] at h; rw [h]; rfl
  | x :: xs, u, h => by
    simp only [VL] at h
    obtain ⟨a, l, rfl, _, h3⟩ := h
    simp [VL.length h3]
theorem VL.get {S : St} : ∀ {x : List AV} {u : List Value}, VL S x u → ∀ {i : Nat} {y : AV}, x[i]? = some y → ∃ v, u[i]? = some v ∧ V S y v
  | [], u, h, i, y, hy => by simp at hy
  | x :: xs, u, h, i, y, hy => by
    simp only [VL] at h
    obtain ⟨a, l, rfl, h2, h3⟩ := h
    cases i with
    | zero => simp at hy; subst hy; exact ⟨a, by simp, h2⟩
    | succ i => simpa using VL.get h3 (by simpa using hy)
theorem VL.mk {S : St} : ∀ {x : List AV} {u : List Value}, u.length = x.length → (∀ (i : Nat) (y : AV) (v : Value), x[i]? = some y → u[i]? = some v → V S y v) → VL S x u
  | [], u, hl, h => by simp only [VL]; exact List.eq_nil_of_length_eq_zero (by simpa using hl)
  | x :: xs, [], hl, h => by simp at hl
  | x :: xs, a :: l, hl, h => by
    simp only [VL]
    exact ⟨a, l, rfl, h 0 x a (by simp) (by simp), VL.mk (by simpa using hl) fun i y v hy hv => h (i + 1) y v (by simpa using hy) (by simpa using hv)⟩
theorem VL.append {S : St} {x y : List AV} {u v : List Value} (h : VL S x u) (k : VL S y v) : VL S (x ++ y) (u ++ v) := by
  induction x generalizing u with
  | nil => simp only [VL] at h; subst h; simpa using k
  | cons a r ih =>
    simp only [VL, List.cons_append] at h ⊢
    obtain ⟨b, l, rfl, h2, h3⟩ := h
    exact ⟨b, l ++ v, rfl, h2, ih h3⟩
theorem VL.take {S : St} {x : List AV} {u : List Value} (h : VL S x u) (n : Nat) : VL S (x.take n) (u.take n) := by
  induction x generalizing u n with
  | nil => simp only [VL] at h; subst h; simp [VL]
  | cons a r ih =>
    simp only [VL] at h
    obtain ⟨b, l, rfl, h2, h3⟩ := h
    cases n with
    | zero => simp [VL]
    | succ n => simp only [List.take_succ_cons, VL]; exact ⟨b, _, rfl, h2, ih h3 n⟩
theorem VL.drop {S : St} {x : List AV} {u : List Value} (h : VL S x u) (n : Nat) : VL S (x.drop n) (u.drop n) := by
  induction x generalizing u n with
  | nil => simp only [VL] at h; subst h; simp [VL]
  | cons a r ih =>
    cases n with
    | zero => simpa using h
    | succ n =>
      simp only [VL] at h
      obtain ⟨b, l, rfl, h2, h3⟩ := h
      simpa using ih h3 n
theorem VL.set {S : St} {x : List AV} {u : List Value} (h : VL S x u) (n : Nat) {y : AV} {v : Value} (hv : V S y v) : VL S (x.set n y) (u.set n v) := by
  induction x generalizing u n with
  | nil => simp only [VL] at h; subst h; simp [VL]
  | cons a r ih =>
    simp only [VL] at h
    obtain ⟨b, l, rfl, h2, h3⟩ := h
    cases n with
    | zero => simp only [List.set_cons_zero, VL]; exact ⟨v, l, rfl, hv, h3⟩
    | succ n => simp only [List.set_cons_succ, VL]; exact ⟨b, _, rfl, h2, ih h3 n⟩
theorem VL.map {S : St} {α : Type} (l : List α) (f : α → AV) (g : α → Value) (h : ∀ a, a ∈ l → V S (f a) (g a)) : VL S (l.map f) (l.map g) := by
  induction l with
  | nil => simp [VL]
  | cons a r ih => simp only [List.map_cons, VL]; exact ⟨_, _, rfl, h a (by simp), ih fun b hb => h b (by simp [hb])⟩
theorem VL.replicate {S : St} {x : AV} {u : Value} (n : Nat) (h : V S x u) : VL S (List.replicate n x) (List.replicate n u) := by
  induction n with
  | zero => simp [VL]
  | succ n ih => simp only [List.replicate_succ, VL]; exact ⟨_, _, rfl, h, ih⟩
theorem VL.flatten {S : St} : ∀ {x : List (List AV)} {u : List (List Value)}, x.length = u.length → (∀ (i : Nat) (y : List AV) (v : List Value), x[i]? = some y → u[i]? = some v → VL S y v) → VL S x.flatten u.flatten
  | [], [], _, _ => by simp [VL]
  | [], _ :: _, h, _ => by simp at h
  | _ :: _, [], h, _ => by simp at h
  | y :: ys, v :: vs, hl, h => by
    simp only [List.flatten_cons]
    exact VL.append (h 0 y v (by simp) (by simp)) (VL.flatten (by simpa using hl) fun i a b ha hb => h (i + 1) a b (by simpa using ha) (by simpa using hb))
/-- cells in memory that stays -/
theorem VM.get {S : St} : ∀ {x : List AV} {b o : Nat}, VM S x b o → ∀ {i : Nat} {y : AV}, x[i]? = some y → ∃ v, S.imm b (o + i) = some v ∧ V S y v
  | [], b, o, h, i, y, hy => by simp at hy
  | x :: xs, b, o, h, i, y, hy => by
    simp only [VM] at h
    obtain ⟨⟨u, h1, h2⟩, h3⟩ := h
    cases i with
    | zero => simp at hy; subst hy; exact ⟨u, by simpa using h1, h2⟩
    | succ i =>
      obtain ⟨v, e1, e2⟩ := VM.get h3 (i := i) (by simpa using hy)
      exact ⟨v, by rw [← e1]; congr 1; omega, e2⟩
theorem VM.mk {S : St} : ∀ {x : List AV} {b o : Nat}, (∀ (i : Nat) (y : AV), x[i]? = some y → ∃ v, S.imm b (o + i) = some v ∧ V S y v) → VM S x b o
  | [], b, o, h => by simp only [VM]
  | x :: xs, b, o, h => by
    simp only [VM]
    refine ⟨by simpa using h 0 x (by simp), VM.mk fun i y hy => ?_⟩
    obtain ⟨v, h1, h2⟩ := h (i + 1) y (by simpa using hy)
    exact ⟨v, by rw [← h1]; congr 1; omega, h2⟩
theorem VM.drop {S : St} {x : List AV} {b o : Nat} (h : VM S x b o) (n : Nat) : VM S (x.drop n) b (o + n) :=
  VM.mk fun i y hy => by
    obtain ⟨v, h1, h2⟩ := h.get (i := n + i) (by rw [List.getElem?_drop] at hy; exact hy)
    exact ⟨v, by rw [← h1]; congr 1; omega, h2⟩
theorem VM.take {S : St} {x : List AV} {b o : Nat} (h : VM S x b o) (n : Nat) : VM S (x.take n) b o :=
  VM.mk fun i y hy => by
    rw [List.getElem?_take] at hy
    split at hy
    · exact h.get hy
    · simp at hy
/-- one element in memory that stays -/
def V1 (S : St) (k : Option Nat) (x : AV) (b o : Nat) : Prop := match x with
  | .agg cs => k = some cs.length ∧ VM S cs b o
  | x => k = none ∧ ∃ u, S.imm b o = some u ∧ V S x u
theorem VE.cons {S : St} {k : Option Nat} {x : AV} {r : List AV} {b o : Nat} : VE S k (x :: r) b o ↔ V1 S k x b o ∧ VE S k r b (o + kz k) := by
  cases x <;> simp only [VE, V1]
  case agg cs =>
    constructor
    · rintro ⟨rfl, h2, h3⟩; exact ⟨⟨rfl, h2⟩, h3⟩
    · rintro ⟨⟨rfl, h2⟩, h3⟩; exact ⟨rfl, h2, h3⟩
  all_goals
    constructor
    · rintro ⟨rfl, h2, h3⟩; exact ⟨⟨rfl, h2⟩, h3⟩
    · rintro ⟨⟨rfl, h2⟩, h3⟩; exact ⟨rfl, h2, h3⟩
theorem VE.get {S : St} {k : Option Nat} : ∀ {x : List AV} {b o : Nat}, VE S k x b o → ∀ {i : Nat} {y : AV}, x[i]? = some y → V1 S k y b (o + i * kz k)
  | [], b, o, h, i, y, hy => by simp at hy
  | x :: xs, b, o, h, i, y, hy => by
    rw [VE.cons] at h
    cases i with
    | zero => simp at hy; subst hy; simpa using h.1
    | succ i =>
      have := VE.get h.2 (i := i) (by simpa using hy)
      rw [show o + (i + 1) * kz k = o + kz k + i * kz k by rw [Nat.succ_mul]; omega]
      exact this
theorem VE.mk {S : St} {k : Option Nat} : ∀ {x : List AV} {b o : Nat}, (∀ (i : Nat) (y : AV), x[i]? = some y → V1 S k y b (o + i * kz k)) → VE S k x b o
  | [], b, o, h => by simp only [VE]
  | x :: xs, b, o, h => by
    rw [VE.cons]
    refine ⟨by simpa using h 0 x (by simp), VE.mk fun i y hy => ?_⟩
    have := h (i + 1) y (by simpa using hy)
    rw [show o + kz k + i * kz k = o + (i + 1) * kz k by rw [Nat.succ_mul]; omega]
    exact this
theorem VE.drop {S : St} {k : Option Nat} {x : List AV} {b o : Nat} (h : VE S k x b o) (n : Nat) : VE S k (x.drop n) b (o + n * kz k) :=
  VE.mk fun i y hy => by
    have := h.get (i := n + i) (by rw [List.getElem?_drop] at hy; exact hy)
    rw [show o + n * kz k + i * kz k = o + (n + i) * kz k by rw [Nat.add_mul]; omega]
    exact this
theorem VE.take {S : St} {k : Option Nat} {x : List AV} {b o : Nat} (h : VE S k x b o) (n : Nat) : VE S k (x.take n) b o :=
  VE.mk fun i y hy => by
    rw [List.getElem?_take] at hy
    split at hy
    · exact h.get hy
    · simp at hy
theorem V1.mono {S S' : St} (e : Ext S S') {k : Option Nat} {x : AV} {b o : Nat} (h : V1 S k x b o) : V1 S' k x b o := by
  cases x <;> simp only [V1] at *
  case agg cs => exact ⟨h.1, VM.mono e cs h.2⟩
  all_goals
    obtain ⟨h0, u, h1, h2⟩ := h
    exact ⟨h0, u, e.imm _ _ _ h1, V.mono e _ h2⟩
theorem V1.cells {S : St} {k : Option Nat} {x : AV} {b o : Nat} (h : V1 S k x b o) : VM S (elCells x) b o ∧ (elCells x).length = kz k := by
  cases x <;> simp only [V1, elCells] at *
  case agg cs => obtain ⟨rfl, h⟩ := h; exact ⟨h, rfl⟩
  all_goals
    obtain ⟨rfl, u, h1, h2⟩ := h
    refine ⟨?_, rfl⟩
    simp only [VM, and_true]
    exact ⟨u, h1, h2⟩
/-! rigid values are what they are -/
mutual
theorem rigid_imp {S S' : St} : ∀ (x : AV) {u : Value}, rigid x = true → V S x u → V S' x u
  | .sc v, u, hr, h => by simpa only [V] using h
  | .agg cs, u, hr, h => by
    simp only [V, rigid] at *
    obtain ⟨a, h1, h2⟩ := h
    exact ⟨a, h1, rigid_impL cs hr h2⟩
  | .tup cs, u, hr, h => by
    simp only [V, rigid] at *
    obtain ⟨a, h1, h2⟩ := h
    exact ⟨a, h1, rigid_impL cs hr h2⟩
  | .unk, u, hr, h => by simp [rigid] at hr
  | .ptr i f, u, hr, h => by simp [rigid] at hr
  | .ref c, u, hr, h => by simp [rigid] at hr
  | .slice w q l, u, hr, h => by simp [rigid] at hr
  | .ms i f q l, u, hr, h => by simp [rigid] at hr
  | .func f x y, u, hr, h => by simp [rigid] at hr
  | .map i, u, hr, h => by simp [rigid] at hr
theorem rigid_impL {S S' : St} : ∀ (x : List AV) {u : List Value}, rigidL x = true → VL S x u → VL S' x u
  | [], u, hr, h => by simpa only [VL] using h
  | a :: r, u, hr, h => by
    simp only [VL, rigidL, Bool.and_eq_true] at *
    obtain ⟨b, l, h1, h2, h3⟩ := h
    exact ⟨b, l, h1, rigid_imp a hr.1 h2, rigid_impL r hr.2 h3⟩
end
mutual
theorem rigid_one {S S' : St} : ∀ (x : AV) {u u' : Value}, rigid x = true → V S x u → V S' x u' → u = u'
  | .sc v, u, u', hr, h, h' => by simp only [V] at h h'; rw [h, h']
  | .agg cs, u, u', hr, h, h' => by
    simp only [V, rigid] at *
    obtain ⟨a, rfl, h2⟩ := h
    obtain ⟨a', rfl, h2'⟩ := h'
    rw [Array.toList_inj.1 (rigid_oneL cs hr h2 h2')]
  | .tup cs, u, u', hr, h, h' => by
    simp only [V, rigid] at *
    obtain ⟨a, rfl, h2⟩ := h
    obtain ⟨a', rfl, h2'⟩ := h'
    rw [Array.toList_inj.1 (rigid_oneL cs hr h2 h2')]
  | .unk, u, u', hr, h, h' => by simp [rigid] at hr
  | .ptr i f, u, u', hr, h, h' => by simp [rigid] at hr
  | .ref c, u, u', hr, h, h' => by simp [rigid] at hr
  | .slice w q l, u, u', hr, h, h' => by simp [rigid] at hr
  | .ms i f q l, u, u', hr, h, h' => by simp [rigid] at hr
  | .func f x y, u, u', hr, h, h' => by simp [rigid] at hr
  | .map i, u, u', hr, h, h' => by simp [rigid] at hr
theorem rigid_oneL {S S' : St} : ∀ (x : List AV) {u u' : List Value}, rigidL x = true → VL S x u → VL S' x u' → u = u'
  | [], u, u', hr, h, h' => by simp only [VL] at h h'; rw [h, h']
  | a :: r, u, u', hr, h, h' => by
    simp only [VL, rigidL, Bool.and_eq_true] at hr h h'
    obtain ⟨b, l, rfl, h2, h3⟩ := h
    obtain ⟨b', l', rfl, h2', h3'⟩ := h'
    rw [rigid_one a hr.1 h2 h2', rigid_oneL r hr.2 h3 h3']
end
end Go.Proofs.Ytipbmacpenmgoaa.AM

/- The plain machine's heap in the model's world: the relation, and how it goes on. -/
namespace Go.Proofs.Ytipbmacpenmgoaa.AM
open Go Go.RowKit
set_option linter.unusedVariables false
set_option linter.unusedSimpArgs false
def curB (S : St) (i : Nat) : AObj → Option Nat
  | .box _ _ => S.blk i 0
  | .row _ n => S.blk i n
  | .map _ _ _ _ => S.blk i 0
/-- a block of cells none of which is frozen -/
def HC (W : World) (b : Nat) (c : Array Value) (e : TypeId × Nat × Nat) : Prop := W.heap[b]? = some (.cells c e.1 e.2) ∧ ∀ o, o < c.size → W.frozen? ⟨b, o, none⟩ = false
theorem HC.of {W W' : World} {b : Nat} {c : Array Value} {e : TypeId × Nat × Nat} (h : HC W b c e) (hb : W'.heap[b]? = W.heap[b]?) : HC W' b c e := ⟨hb.trans h.1, fun o ho => by rw [World.frozen?_of_block (w := W) (a := ⟨b, o, none⟩) hb]; exact h.2 o ho⟩
theorem HC.upd {W W' : World} {b : Nat} {c c' : Array Value} {e : TypeId × Nat × Nat} (h : HC W b c e) (hb : W'.heap[b]? = some (.cells c' e.1 e.2)) (hs : c'.size = c.size) : HC W' b c' e := by
  refine ⟨hb, fun o ho => ?_⟩
  have h2 := h.2 o (by omega)
  have h1 := h.1
  obtain ⟨t, lo, hi⟩ := e
  unfold World.frozen? at h2 ⊢
  simp only at h1 hb
  rw [show W.heap[(⟨b, o, none⟩ : Addr).block]? = _ from h1] at h2
  rw [show W'.heap[(⟨b, o, none⟩ : Addr).block]? = _ from hb]
  exact h2
/-- a map's entries -/
def EntR (S : St) : List (AV × AV) → List MapEntry → Prop
  | [], [] => True
  | p :: es, m :: ms => V S p.1 m.key ∧ V S p.2 m.val ∧ EntR S es ms
  | _, _ => False
theorem EntR.mono {S S' : St} (e : Ext S S') : ∀ {es : List (AV × AV)} {ms : List MapEntry}, EntR S es ms → EntR S' es ms
  | [], [], _ => trivial
  | p :: es, m :: ms, h => ⟨V.mono e _ h.1, V.mono e _ h.2.1, EntR.mono e h.2.2⟩
  | [], _ :: _, h => h
  | _ :: _, [], h => h
/-- who goes over a text or a map -/
def IterR (S : St) (it : AV) (c : Nat) (bs : List Nat) (o : Obj) : Prop := match it, bs with
  | .sc (.string s), _ => o = .stringIter s c
  | .sc (.map none), _ => o = .mapIter none 0 #[] 0
  | .map id, l :: seen => ∃ b, S.blk id 0 = some b ∧ o = .mapIter (some b) c seen.toArray l
  | _, _ => False
def MapR (S : St) (it : Option AV) (c : Nat) (bs : List Nat) (es : List (AV × AV)) (o : Obj) : Prop := match it with
  | none => ∃ ents, o = .map ents c ∧ EntR S es ents.toList ∧ ents.toList.map (·.born) = bs
  | some it => IterR S it c bs o
theorem MapR.mono {S S' : St} (e : Ext S S') {it : Option AV} {c : Nat} {bs : List Nat} {es : List (AV × AV)} {o : Obj} (h : MapR S it c bs es o) : MapR S' it c bs es o := by
  unfold MapR at *
  split at h
  · obtain ⟨ents, h1, h2, h3⟩ := h
    exact ⟨ents, h1, h2.mono e, h3⟩
  · unfold IterR at *
    split at h
    · exact h
    · exact h
    · obtain ⟨b, h1, h2⟩ := h
      exact ⟨b, e.blk _ _ _ h1, h2⟩
    · exact h.elim
def ObjR (S : St) (B : Nat) (W : World) (i : Nat) : AObj → Prop
  | .box ex cs => ∃ b c e, S.blk i 0 = some b ∧ B ≤ b ∧ HC W b c e ∧ VL S cs (c.toList.take cs.length) ∧ (∀ u ∈ c.toList, u.oneCell' = true) ∧ S.sz b = some c.size ∧ (∀ o, S.imm b o = none) ∧ (ex = true → c.size = cs.length) ∧ ∀ v, 0 < v → S.blk i v = none
  | .row k n => (∀ v, n < v → S.blk i v = none) ∧ ∀ b, S.blk i n = some b → B ≤ b ∧ ∃ c e fr, W.heap[b]? = some (.cells c e fr) ∧ S.sz b = some c.size ∧ n * kz k ≤ c.size ∧ ∀ o, n * kz k ≤ o → o < c.size → S.imm b o = none ∧ W.frozen? ⟨b, o, none⟩ = false
  | .map it c bs es => ∃ b o, S.blk i 0 = some b ∧ B ≤ b ∧ W.heap[b]? = some o ∧ MapR S it c bs es o ∧ S.sz b = some 0 ∧ (∀ o, S.imm b o = none) ∧ ∀ v, 0 < v → S.blk i v = none
structure Rel (S : St) (h : Heap) (B : Nat) (W : World) : Prop where
  imm : ∀ b o u, S.imm b o = some u → W.cell? ⟨b, o, none⟩ = some u ∧ u.oneCell' = true
  obj : ∀ (i : Nat) (x : AObj), h[i]? = some x → ObjR S B W i x
  inj : ∀ (i j : Nat) (x y : AObj) (b : Nat), h[i]? = some x → h[j]? = some y → curB S i x = some b → curB S j y = some b → i = j
  new : ∀ i v, h.length ≤ i → S.blk i v = none
  lt : ∀ b n, S.sz b = some n → b < W.heap.size
  base : B ≤ W.heap.size
  sb : S.base = B
theorem immLt {S h B W} (r : Rel S h B W) {b o u} (hi : S.imm b o = some u) : b < W.heap.size := World.block_lt_of_cell? _ _ (r.imm _ _ _ hi).1
theorem ObjR.mono {S S' : St} {B : Nat} {W W' : World} {i : Nat} {x : AObj} (e : Ext S S') (h : ObjR S B W i x)
    (hb : ∀ b, curB S i x = some b → W'.heap[b]? = W.heap[b]? ∧ ∀ o, S.imm b o = none → S'.imm b o = none)
    (hn : ∀ v, S.blk i v = none → S'.blk i v = none) : ObjR S' B W' i x := by
  cases x with
  | box ex cs =>
    obtain ⟨b, c, el, h1, h2, h3, h4, h5, h6, h7, h8, h9⟩ := h
    obtain ⟨q1, q2⟩ := hb b h1
    exact ⟨b, c, el, e.blk _ _ _ h1, h2, h3.of q1, VL.mono e _ h4, h5, e.sz _ _ h6, fun o => q2 o (h7 o), h8, fun v hv => hn v (h9 v hv)⟩
  | row k n =>
    obtain ⟨h1, h2⟩ := h
    refine ⟨fun v hv => hn v (h1 v hv), fun b hb' => ?_⟩
    have hb0 : S.blk i n = some b := by
      cases h0 : S.blk i n with
      | none => rw [hn n h0] at hb'; cases hb'
      | some b0 => have := e.blk _ _ _ h0; rw [hb'] at this; exact this.symm
    obtain ⟨q0, c, el, fr, h3, h4, h5, h6⟩ := h2 b hb0
    obtain ⟨q1, q2⟩ := hb b hb0
    refine ⟨q0, c, el, fr, by rw [q1]; exact h3, e.sz _ _ h4, h5, fun o ho hc => ⟨q2 o (h6 o ho hc).1, ?_⟩⟩
    rw [World.frozen?_of_block (w := W) (a := ⟨b, o, none⟩) q1]
    exact (h6 o ho hc).2
  | map it c bs es =>
    obtain ⟨b, ob, h1, h2, h3, h4, h5, h6, h7⟩ := h
    obtain ⟨q1, q2⟩ := hb b h1
    exact ⟨b, ob, e.blk _ _ _ h1, h2, q1.trans h3, h4.mono e, e.sz _ _ h5, fun o => q2 o (h6 o), fun v hv => hn v (h7 v hv)⟩
/-- The world goes on, nothing that is known turns. -/
theorem Rel.world {S : St} {h : Heap} {B : Nat} {W W' : World} (r : Rel S h B W) (hb : Below W.heap.size W W') : Rel S h B W' where
  imm := fun b o u hi => by
    have := r.imm b o u hi
    rw [hb.cell (p := ⟨b, o, none⟩) (immLt r hi)]
    exact this
  obj := fun i x hx => (r.obj i x hx).mono (Ext.refl S) (fun b hc => ⟨hb.block b (by
    cases x with
    | box ex cs => obtain ⟨b', c, el, h1, h2, h3, _⟩ := r.obj i _ hx; simp only [curB] at hc; rw [h1] at hc; cases hc; exact (Array.getElem?_eq_some_iff.1 h3.1).1
    | row k n => obtain ⟨_, h2⟩ := r.obj i _ hx; obtain ⟨_, c, el, fr, h3, _⟩ := h2 b hc; exact (Array.getElem?_eq_some_iff.1 h3).1
    | map it c bs es => obtain ⟨b', ob, h1, h2, h3, _⟩ := r.obj i _ hx; simp only [curB] at hc; rw [h1] at hc; cases hc; exact (Array.getElem?_eq_some_iff.1 h3).1), fun o ho => ho⟩) (fun v hv => hv)
  inj := r.inj
  new := r.new
  lt := fun b n hs => Nat.lt_of_lt_of_le (r.lt b n hs) hb.size
  base := Nat.le_trans r.base hb.size
  sb := r.sb
theorem curLt {S h B W} (r : Rel S h B W) {i : Nat} {x : AObj} (hx : h[i]? = some x) {b : Nat} (hc : curB S i x = some b) : b < W.heap.size ∧ B ≤ b ∧ ∃ n, S.sz b = some n := by
  cases x with
  | box ex cs => obtain ⟨b', c, el, h1, h2, h3, _, _, h6, _⟩ := r.obj i _ hx; simp only [curB] at hc; rw [h1] at hc; cases hc; exact ⟨(Array.getElem?_eq_some_iff.1 h3.1).1, h2, _, h6⟩
  | row k n => obtain ⟨_, h2⟩ := r.obj i _ hx; obtain ⟨q, c, el, fr, h3, h4, _⟩ := h2 b hc; exact ⟨(Array.getElem?_eq_some_iff.1 h3).1, q, _, h4⟩
  | map it c bs es => obtain ⟨b', ob, h1, h2, h3, _, h5, _⟩ := r.obj i _ hx; simp only [curB] at hc; rw [h1] at hc; cases hc; exact ⟨(Array.getElem?_eq_some_iff.1 h3).1, h2, _, h5⟩
/-! ### a new box -/
def addBlk (S : St) (i v b n : Nat) : St := { S with blk := fun j w => if j = i ∧ w = v then some b else S.blk j w, sz := fun c => if c = b then some n else S.sz c }
theorem heap_alloc_new' (W : World) (o : Obj) : (W.alloc o).heap[W.heap.size]? = some o := by show (W.heap.push o)[W.heap.size]? = _; simp
theorem heap_alloc_old (W : World) (o : Obj) {b : Nat} (h : b < W.heap.size) : (W.alloc o).heap[b]? = W.heap[b]? := Below.heap_alloc W o b h
theorem addBlk_ext {S h B W} (r : Rel S h B W) (i v n : Nat) (hf : S.blk i v = none) (hs : S.sz W.heap.size = none) : Ext S (addBlk S i v W.heap.size n) where
  blk := fun j w b hb => by
    simp only [addBlk]
    split
    · rename_i hh; obtain ⟨rfl, rfl⟩ := hh; rw [hf] at hb; cases hb
    · exact hb
  sz := fun b m hb => by
    simp only [addBlk]
    split
    · rename_i hh; subst hh; rw [hs] at hb; cases hb
    · exact hb
  imm := fun _ _ _ h => h
  base := rfl
  low := fun _ _ _ h => .inl h
theorem szNew {S h B W} (r : Rel S h B W) {b : Nat} (hb : W.heap.size ≤ b) : S.sz b = none := by
  cases hs : S.sz b with
  | none => rfl
  | some n => exact absurd (r.lt _ _ hs) (by omega)
theorem immNew {S h B W} (r : Rel S h B W) {b o : Nat} (hb : W.heap.size ≤ b) : S.imm b o = none := by
  cases hs : S.imm b o with
  | none => rfl
  | some n => exact absurd (immLt r hs) (by omega)
theorem frz_new {W : World} {c : Array Value} {e : TypeId} {fr : Nat × Nat} (hfr : ∀ o, o < c.size → ¬ (fr.1 ≤ o ∧ o < fr.2)) {o : Nat} (ho : o < c.size) : (W.alloc (.cells c e fr)).frozen? ⟨W.heap.size, o, none⟩ = false := by
  have h := hfr o ho
  obtain ⟨lo, hi⟩ := fr
  unfold World.frozen?
  have hq : (W.alloc (.cells c e (lo, hi))).heap[(⟨W.heap.size, o, none⟩ : Addr).block]? = some (.cells c e (lo, hi)) := heap_alloc_new' _ _
  rw [hq]
  simp only [Bool.and_eq_false_iff, decide_eq_false_iff_not]
  simp only at h
  by_cases h1 : lo ≤ o
  · exact .inr fun h2 => h ⟨h1, h2⟩
  · exact .inl h1
theorem Rel.newVecF {S : St} {h : Heap} {B : Nat} {W : World} (r : Rel S h B W) (ex : Bool) (cs : List AV) (c : Array Value) (e : TypeId) (hv : VL S cs (c.toList.take cs.length)) (h1 : ∀ u ∈ c.toList, u.oneCell' = true) (hex : ex = true → c.size = cs.length) (fr : Nat × Nat) (hfr : ∀ o, o < c.size → ¬ (fr.1 ≤ o ∧ o < fr.2)) :
    Rel (addBlk S h.length 0 W.heap.size c.size) (h ++ [.box ex cs]) B (W.alloc (.cells c e fr)) ∧ Ext S (addBlk S h.length 0 W.heap.size c.size) := by
  have hf : ∀ v, S.blk h.length v = none := fun v => r.new _ _ (Nat.le_refl _)
  have hsz := szNew r (Nat.le_refl W.heap.size)
  have ex := addBlk_ext r h.length 0 c.size (hf 0) hsz
  have hcur : ∀ (i : Nat) (x : AObj) (b : Nat), h[i]? = some x → curB (addBlk S h.length 0 W.heap.size c.size) i x = some b → curB S i x = some b := by
    intro i x b hx hc
    have hi : i ≠ h.length := by have := (List.getElem?_eq_some_iff.1 hx).1; omega
    cases x <;> simp only [curB, addBlk] at * <;> rwa [if_neg (fun hh => hi hh.1)] at hc
  refine ⟨⟨?_, ?_, ?_, ?_, ?_, ?_, r.sb⟩, ex⟩
  · intro b o u hi
    have := r.imm b o u hi
    rw [World.cell?_alloc_lt _ _ _ (by exact immLt r hi)]
    exact this
  · intro i x hx
    rw [List.getElem?_append] at hx
    split at hx
    · refine (r.obj i x hx).mono ex (fun b hc => ⟨heap_alloc_old _ _ (curLt r hx hc).1, fun o ho => ho⟩) (fun v hv => ?_)
      simp only [addBlk]
      rw [if_neg (by intro hh; omega)]
      exact hv
    · rename_i hlt
      have hi : i = h.length := by have := (List.getElem?_eq_some_iff.1 hx).1; simp at this; omega
      subst hi
      simp at hx
      subst hx
      exact ⟨W.heap.size, c, (e, fr), by simp [addBlk], r.base, ⟨heap_alloc_new' _ _, fun o ho => frz_new hfr ho⟩, VL.mono ex _ hv, h1, by simp [addBlk], fun o => immNew r (Nat.le_refl _), hex, fun v hv => by simp only [addBlk]; rw [if_neg (by omega)]; exact hf v⟩
  · intro i j x y b hx hy hcx hcy
    rw [List.getElem?_append] at hx hy
    by_cases hi : i < h.length <;> by_cases hj : j < h.length <;> simp only [hi, hj, if_true, if_false] at hx hy
    · exact r.inj i j x y b hx hy (hcur _ _ _ hx hcx) (hcur _ _ _ hy hcy)
    · have := (curLt r hx (hcur _ _ _ hx hcx)).1
      have hj' : j = h.length := by have := (List.getElem?_eq_some_iff.1 hy).1; simp at this; omega
      subst hj'
      simp at hy
      subst hy
      simp [curB, addBlk] at hcy
      omega
    · have := (curLt r hy (hcur _ _ _ hy hcy)).1
      have hj' : i = h.length := by have := (List.getElem?_eq_some_iff.1 hx).1; simp at this; omega
      subst hj'
      simp at hx
      subst hx
      simp [curB, addBlk] at hcx
      omega
    · have := (List.getElem?_eq_some_iff.1 hx).1
      have := (List.getElem?_eq_some_iff.1 hy).1
      simp at *
      omega
  · intro i v hi
    simp only [addBlk, List.length_append, List.length_cons, List.length_nil] at *
    rw [if_neg (by omega)]
    exact r.new i v (by omega)
  · intro b n hs
    simp only [addBlk] at hs
    split at hs
    · rename_i hb; subst hb; simp
    · have := r.lt b n hs; simp; omega
  · have := r.base; simp; omega
theorem Rel.newVec {S : St} {h : Heap} {B : Nat} {W : World} (r : Rel S h B W) (ex : Bool) (cs : List AV) (c : Array Value) (e : TypeId) (hv : VL S cs (c.toList.take cs.length)) (h1 : ∀ u ∈ c.toList, u.oneCell' = true) (hex : ex = true → c.size = cs.length) :
    Rel (addBlk S h.length 0 W.heap.size c.size) (h ++ [.box ex cs]) B (W.alloc (.cells c e)) ∧ Ext S (addBlk S h.length 0 W.heap.size c.size) := r.newVecF ex cs c e hv h1 hex (0, 0) (fun o ho => by simp)
theorem Rel.newBox {S : St} {h : Heap} {B : Nat} {W : World} (r : Rel S h B W) (cs : List AV) (c : Array Value) (e : TypeId) (hv : VL S cs c.toList) (h1 : ∀ u ∈ c.toList, u.oneCell' = true) :
    Rel (addBlk S h.length 0 W.heap.size c.size) (h ++ [.cells cs]) B (W.alloc (.cells c e)) ∧ Ext S (addBlk S h.length 0 W.heap.size c.size) := by
  have hl := hv.length
  refine r.newVec true cs c e ?_ h1 fun _ => by simpa using hl
  rw [List.take_of_length_le (by omega)]
  exact hv
/-! ### a row that has no block yet -/
theorem Rel.newRow {S : St} {h : Heap} {B : Nat} {W : World} (r : Rel S h B W) (k : Option Nat) (n : Nat) : Rel S (h ++ [.row k n]) B W := by
  refine ⟨r.imm, ?_, ?_, ?_, r.lt, r.base, r.sb⟩
  · intro i x hx
    rw [List.getElem?_append] at hx
    split at hx
    · exact r.obj i x hx
    · have hi : i = h.length := by have := (List.getElem?_eq_some_iff.1 hx).1; simp at this; omega
      subst hi
      simp at hx
      subst hx
      exact ⟨fun v _ => r.new _ _ (Nat.le_refl _), fun b hb => by rw [r.new _ _ (Nat.le_refl _)] at hb; cases hb⟩
  · intro i j x y b hx hy hcx hcy
    rw [List.getElem?_append] at hx hy
    by_cases hi : i < h.length <;> by_cases hj : j < h.length <;> simp only [hi, hj, if_true, if_false] at hx hy
    · exact r.inj i j x y b hx hy hcx hcy
    · have hj' : j = h.length := by have := (List.getElem?_eq_some_iff.1 hy).1; simp at this; omega
      subst hj'
      simp at hy
      subst hy
      simp [curB, r.new _ _ (Nat.le_refl _)] at hcy
    · have hj' : i = h.length := by have := (List.getElem?_eq_some_iff.1 hx).1; simp at this; omega
      subst hj'
      simp at hx
      subst hx
      simp [curB, r.new _ _ (Nat.le_refl _)] at hcx
    · have := (List.getElem?_eq_some_iff.1 hx).1
      have := (List.getElem?_eq_some_iff.1 hy).1
      simp at *
      omega
  · intro i v hi
    simp at hi
    exact r.new i v (by omega)
end Go.Proofs.Ytipbmacpenmgoaa.AM

/- The plain machine's heap in the model's world: stores, new cells, rows that grow, boxes let go. -/
namespace Go.Proofs.Ytipbmacpenmgoaa.AM
open Go Go.RowKit
set_option linter.unusedVariables false
set_option linter.unusedSimpArgs false
theorem heap_setCell_at {W : World} {b : Nat} {c : Array Value} {e : TypeId} {fr : Nat × Nat} (h : W.heap[b]? = some (.cells c e fr)) (o : Nat) (u : Value) :
    (W.setCell ⟨b, o, none⟩ u).heap[b]? = some (.cells (c.setIfInBounds o u) e fr) := by
  simp [World.setCell, Array.getElem?_modify, h]
theorem cell_of {W : World} {b : Nat} {c : Array Value} {e : TypeId} {fr : Nat × Nat} (h : W.heap[b]? = some (.cells c e fr)) (o : Nat) : W.cell? ⟨b, o, none⟩ = c[o]? := by
  simp [World.cell?, h]
theorem frozen_of {W : World} {b : Nat} {c : Array Value} {e : TypeId × Nat × Nat} (h : HC W b c e) {o : Nat} (ho : o < c.size) : W.frozen? ⟨b, o, none⟩ = false := h.2 o ho
theorem getElem?_set_ne' {α : Type} {l : List α} {i j : Nat} {x : α} (h : i ≠ j) : (l.set i x)[j]? = l[j]? := by
  rw [List.getElem?_set]; simp [h]
theorem getElem?_set_eq' {α : Type} {l : List α} {i : Nat} {x : α} (h : i < l.length) : (l.set i x)[i]? = some x := by
  rw [List.getElem?_set]; simp [h]
/-- one cell of a box -/
theorem Rel.setCell {S : St} {h : Heap} {B : Nat} {W : World} (r : Rel S h B W) {id b off : Nat} {ex : Bool} {cs : List AV} (hx : h[id]? = some (.box ex cs)) (hb : S.blk id 0 = some b) (x : AV) (u : Value) (hv : V S x u) (h1 : u.oneCell' = true) :
    Rel S (h.set id (.box ex (cs.set off x))) B (W.setCell ⟨b, off, none⟩ u) := by
  obtain ⟨b', c, e, q1, q2, q3, q4, q5, q6, q7, q8, q9⟩ := r.obj id _ hx
  rw [hb] at q1
  cases q1
  have hlt := (List.getElem?_eq_some_iff.1 hx).1
  have hoth : ∀ k, k ≠ b → (W.setCell ⟨b, off, none⟩ u).heap[k]? = W.heap[k]? := fun k hk => Below.heap_setCell W _ _ k hk
  refine ⟨?_, ?_, ?_, ?_, ?_, ?_, r.sb⟩
  · intro b' o' u' hi
    have hne : b' ≠ b := by rintro rfl; rw [q7] at hi; cases hi
    have := r.imm b' o' u' hi
    rw [World.cell?_of_block (w := W) (a := ⟨b', o', none⟩) (hoth b' hne)]
    exact this
  · intro i y hy
    by_cases hi : i = id
    · subst hi
      rw [getElem?_set_eq' hlt] at hy
      cases hy
      refine ⟨b, _, e, hb, q2, q3.upd (heap_setCell_at q3.1 off u) (by rw [Array.size_setIfInBounds]), ?_, ?_, ?_, q7, ?_, q9⟩
      · rw [Array.toList_setIfInBounds, List.length_set, List.take_set]; exact q4.set off hv
      · intro z hz
        rw [Array.toList_setIfInBounds] at hz
        rcases List.mem_or_eq_of_mem_set hz with hz | rfl
        · exact q5 z hz
        · exact h1
      · rw [Array.size_setIfInBounds]; exact q6
      · intro he; rw [Array.size_setIfInBounds, List.length_set]; exact q8 he
    · rw [getElem?_set_ne' (fun hh => hi hh.symm)] at hy
      refine (r.obj i y hy).mono (Ext.refl S) (fun b' hc => ⟨hoth b' ?_, fun o ho => ho⟩) (fun v hv => hv)
      rintro rfl
      exact hi (r.inj i id y _ b' hy hx hc hb)
  · have hset : ∀ (i : Nat) (y : AObj), (h.set id (.box ex (cs.set off x)))[i]? = some y → ∃ y', h[i]? = some y' ∧ curB S i y' = curB S i y := by
      intro i y hy
      by_cases hi : i = id
      · subst hi
        rw [getElem?_set_eq' hlt] at hy
        cases hy
        exact ⟨_, hx, rfl⟩
      · rw [getElem?_set_ne' (fun hh => hi hh.symm)] at hy
        exact ⟨y, hy, rfl⟩
    intro i j y z b' hy hz hcy hcz
    obtain ⟨y', hy', e1⟩ := hset i y hy
    obtain ⟨z', hz', e2⟩ := hset j z hz
    exact r.inj i j y' z' b' hy' hz' (e1 ▸ hcy) (e2 ▸ hcz)
  · intro i v hi
    rw [List.length_set] at hi
    exact r.new i v hi
  · intro b' n hs
    rw [World.size_setCell]
    exact r.lt b' n hs
  · rw [World.size_setCell]; exact r.base
theorem setAt_length : ∀ (xs cs : List AV) (o : Nat), (setAt cs o xs).length = cs.length
  | [], cs, o => rfl
  | x :: xs, cs, o => by rw [setAt, setAt_length xs]; simp
theorem Rel.setCells {B : Nat} {S : St} {id b : Nat} {ex : Bool} (hb : S.blk id 0 = some b) : ∀ (xs : List AV) (us : List Value) (off : Nat) (cs : List AV) (h : Heap) (W : World), Rel S h B W → h[id]? = some (.box ex cs) → VL S xs us → (∀ u ∈ us, u.oneCell' = true) →
    Rel S (h.set id (.box ex (setAt cs off xs))) B (W.setCells b off us)
  | [], us, off, cs, h, W, r, hx, hv, h1 => by
    simp only [VL] at hv
    subst hv
    have : h.set id (.box ex (setAt cs off [])) = h := by
      rw [setAt]
      apply List.ext_getElem?
      intro i
      by_cases hi : i = id
      · subst hi; rw [getElem?_set_eq' (List.getElem?_eq_some_iff.1 hx).1, hx]
      · rw [getElem?_set_ne' (fun hh => hi hh.symm)]
    rw [this]
    exact r
  | x :: xs, us, off, cs, h, W, r, hx, hv, h1 => by
    simp only [VL] at hv
    obtain ⟨u, vs, rfl, hv1, hv2⟩ := hv
    have r1 := r.setCell hx hb (off := off) x u hv1 (h1 u (by simp))
    have hx1 : (h.set id (.box ex (cs.set off x)))[id]? = some (.box ex (cs.set off x)) := getElem?_set_eq' (List.getElem?_eq_some_iff.1 hx).1
    have r2 := Rel.setCells hb xs vs (off + 1) _ _ _ r1 hx1 hv2 (fun u hu => h1 u (by simp [hu]))
    rw [List.set_set] at r2
    exact r2
theorem below_setCells {B : Nat} {b : Nat} (hB : B ≤ b) : ∀ (us : List Value) (off : Nat) (W0 W : World), Below B W0 W → Below B W0 (W.setCells b off us)
  | [], off, W0, W, h => h
  | u :: us, off, W0, W, h => below_setCells hB us (off + 1) W0 _ (h.setCell (by exact hB) u)
/-! ### new cells that stay -/
def addImm (S : St) (b : Nat) (c : Array Value) : St := { S with imm := fun b' o => if b' = b then c[o]? else S.imm b' o }
theorem Rel.newImm {S : St} {h : Heap} {B : Nat} {W : World} (r : Rel S h B W) (c : Array Value) (e : TypeId) (fr : Nat × Nat) (h1 : ∀ u ∈ c.toList, u.oneCell' = true) :
    Rel (addImm S W.heap.size c) h B (W.alloc (.cells c e fr)) ∧ Ext S (addImm S W.heap.size c) := by
  have ex : Ext S (addImm S W.heap.size c) := ⟨fun _ _ _ h => h, fun _ _ h => h, fun b o u hi => by
    simp only [addImm]
    rw [if_neg (by have := immLt r hi; omega)]
    exact hi, rfl, fun b o u hi => by
    simp only [addImm] at hi
    split at hi
    · rename_i hb; subst hb; right; rw [r.sb]; exact r.base
    · exact .inl hi⟩
  refine ⟨⟨?_, ?_, ?_, r.new, ?_, ?_, r.sb⟩, ex⟩
  · intro b o u hi
    simp only [addImm] at hi
    split at hi
    · rename_i hb
      subst hb
      rw [cell_of (heap_alloc_new' W _)]
      exact ⟨hi, h1 u (by rw [Array.mem_toList_iff]; exact Array.mem_of_getElem? hi)⟩
    · have := r.imm b o u hi
      rw [World.cell?_alloc_lt _ _ _ (by exact immLt r hi)]
      exact this
  · intro i x hx
    refine (r.obj i x hx).mono ex (fun b hc => ?_) (fun v hv => hv)
    have hl := (curLt r hx (by cases x <;> exact hc)).1
    refine ⟨heap_alloc_old _ _ hl, fun o ho => ?_⟩
    simp only [addImm]
    rw [if_neg (by omega)]
    exact ho
  · intro i j x y b hx hy hcx hcy
    exact r.inj i j x y b hx hy (by cases x <;> exact hcx) (by cases y <;> exact hcy)
  · intro b n hs
    have := r.lt b n hs
    simp; omega
  · have := r.base; simp; omega
/-! ### rows -/
def addRow (S : St) (i v b n : Nat) (c : Array Value) (hi : Nat) : St :=
  { blk := fun j w => if j = i ∧ w = v then some b else S.blk j w, sz := fun c => if c = b then some n else S.sz c, imm := fun b' o => if b' = b ∧ o < hi then c[o]? else S.imm b' o, base := S.base }
/-- a row grows in number before its block is known -/
theorem Rel.rowUp {S : St} {h : Heap} {B : Nat} {W : World} (r : Rel S h B W) {i n : Nat} {k : Option Nat} (hx : h[i]? = some (.row k n)) (k' : Option Nat) (m : Nat) (hm : n < m) : Rel S (h.set i (.row k' m)) B W ∧ S.blk i m = none := by
  obtain ⟨q1, q2⟩ := r.obj i _ hx
  have hn := q1 m hm
  have hlt := (List.getElem?_eq_some_iff.1 hx).1
  refine ⟨⟨r.imm, ?_, ?_, ?_, r.lt, r.base, r.sb⟩, hn⟩
  · intro j y hy
    by_cases hj : j = i
    · subst hj
      rw [getElem?_set_eq' hlt] at hy
      cases hy
      exact ⟨fun v hv => q1 v (by omega), fun b hb => by rw [hn] at hb; cases hb⟩
    · rw [getElem?_set_ne' (fun hh => hj hh.symm)] at hy
      exact r.obj j y hy
  · intro a j y z b hy hz hcy hcz
    by_cases ha : a = i <;> by_cases hj : j = i
    · omega
    · subst ha
      rw [getElem?_set_eq' hlt] at hy
      cases hy
      simp only [curB] at hcy
      rw [hn] at hcy
      cases hcy
    · subst hj
      rw [getElem?_set_eq' hlt] at hz
      cases hz
      simp only [curB] at hcz
      rw [hn] at hcz
      cases hcz
    · rw [getElem?_set_ne' (fun hh => ha hh.symm)] at hy
      rw [getElem?_set_ne' (fun hh => hj hh.symm)] at hz
      exact r.inj a j y z b hy hz hcy hcz
  · intro j v hj
    rw [List.length_set] at hj
    exact r.new j v hj
/-- a row without a block gets a new one -/
theorem Rel.rowNew {S : St} {h : Heap} {B : Nat} {W : World} (r : Rel S h B W) {i n : Nat} {k : Option Nat} (hx : h[i]? = some (.row k n)) (hn : S.blk i n = none) (c : Array Value) (e : TypeId) (fr : Nat × Nat) (h1 : ∀ o u, o < n * kz k → c[o]? = some u → u.oneCell' = true) (hs : n * kz k ≤ c.size) (hfr : ∀ o, o < c.size → ¬ (fr.1 ≤ o ∧ o < fr.2)) :
    Rel (addRow S i n W.heap.size c.size c (n * kz k)) h B (W.alloc (.cells c e fr)) ∧ Ext S (addRow S i n W.heap.size c.size c (n * kz k)) := by
  have ex : Ext S (addRow S i n W.heap.size c.size c (n * kz k)) := ⟨fun j v b hb => by
      simp only [addRow]
      rw [if_neg (by rintro ⟨rfl, rfl⟩; rw [hn] at hb; cases hb)]
      exact hb, fun b m hb => by
      simp only [addRow]
      rw [if_neg (by have := r.lt _ _ hb; omega)]
      exact hb, fun b o u hi => by
      simp only [addRow]
      rw [if_neg (by have := immLt r hi; omega)]
      exact hi, rfl, fun b o u hi => by
      simp only [addRow] at hi
      split at hi
      · rename_i hb; obtain ⟨rfl, _⟩ := hb; right; rw [r.sb]; exact r.base
      · exact .inl hi⟩
  obtain ⟨q1, q2⟩ := r.obj i _ hx
  have hcur : ∀ (j : Nat) (y : AObj) (b : Nat), h[j]? = some y → curB (addRow S i n W.heap.size c.size c (n * kz k)) j y = some b → (j = i ∧ b = W.heap.size) ∨ curB S j y = some b := by
    intro j y b hy hc
    by_cases hj : j = i
    · subst hj
      rw [hx] at hy
      cases hy
      simp [curB, addRow] at hc
      exact .inl ⟨rfl, hc.symm⟩
    · right
      cases y <;> simp only [curB, addRow] at * <;> rwa [if_neg (fun hh => hj hh.1)] at hc
  refine ⟨⟨?_, ?_, ?_, ?_, ?_, ?_, r.sb⟩, ex⟩
  · intro b o u hi
    simp only [addRow] at hi
    split at hi
    · rename_i hb
      obtain ⟨rfl, hb⟩ := hb
      rw [cell_of (heap_alloc_new' W _)]
      exact ⟨hi, h1 o u hb hi⟩
    · have := r.imm b o u hi
      rw [World.cell?_alloc_lt _ _ _ (by exact immLt r hi)]
      exact this
  · intro j y hy
    by_cases hj : j = i
    · subst hj
      rw [hx] at hy
      cases hy
      refine ⟨fun v hv => ?_, fun b hb => ?_⟩
      · simp only [addRow]
        rw [if_neg (by omega)]
        exact q1 v hv
      · simp only [addRow, true_and, if_true] at hb
        cases hb
        refine ⟨r.base, c, e, fr, heap_alloc_new' _ _, by simp [addRow], hs, fun o ho hc => ⟨?_, ?_⟩⟩
        · simp only [addRow]
          rw [if_neg (by omega)]
          exact immNew r (Nat.le_refl _)
        · have := hfr o hc
          simp only [World.frozen?, heap_alloc_new' W _]
          simpa using this
    · refine (r.obj j y hy).mono ex (fun b hc => ?_) (fun v hv => ?_)
      · have hl := (curLt r hy hc).1
        refine ⟨heap_alloc_old _ _ hl, fun o ho => ?_⟩
        simp only [addRow]
        rw [if_neg (by omega)]
        exact ho
      · simp only [addRow]
        rw [if_neg (by omega)]
        exact hv
  · intro a j y z b hy hz hcy hcz
    rcases hcur a y b hy hcy with ⟨rfl, rfl⟩ | h1'
    · rcases hcur j z _ hz hcz with ⟨rfl, _⟩ | h2'
      · rfl
      · have := (curLt r hz h2').1; omega
    · rcases hcur j z b hz hcz with ⟨rfl, rfl⟩ | h2'
      · have := (curLt r hy h1').1; omega
      · exact r.inj a j y z b hy hz h1' h2'
  · intro j v hj
    simp only [addRow]
    rw [if_neg (by have := (List.getElem?_eq_some_iff.1 hx).1; omega)]
    exact r.new j v hj
  · intro b m hb
    simp only [addRow] at hb
    split at hb
    · rename_i hh; subst hh; simp
    · have := r.lt b m hb; simp; omega
  · have := r.base; simp; omega
/-- a row's block takes more where it lies -/
theorem heap_setCells_at {b : Nat} {e : TypeId} {fr : Nat × Nat} : ∀ (us : List Value) (off : Nat) (W : World) (c : Array Value), W.heap[b]? = some (.cells c e fr) → off + us.length ≤ c.size →
    ∃ c', (W.setCells b off us).heap[b]? = some (.cells c' e fr) ∧ c'.size = c.size ∧ (∀ o, o < off → c'[o]? = c[o]?) ∧ (∀ o, off + us.length ≤ o → c'[o]? = c[o]?) ∧ ∀ j u, us[j]? = some u → c'[off + j]? = some u
  | [], off, W, c, h, _ => ⟨c, h, rfl, fun _ _ => rfl, fun _ _ => rfl, fun j u hj => by simp at hj⟩
  | u :: us, off, W, c, h, hl => by
    simp only [List.length_cons] at hl
    obtain ⟨c', q1, q2, q3, q4, q5⟩ := heap_setCells_at us (off + 1) (W.setCell ⟨b, off, none⟩ u) _ (heap_setCell_at h off u) (by rw [Array.size_setIfInBounds]; omega)
    refine ⟨c', q1, by rw [q2, Array.size_setIfInBounds], fun o ho => ?_, fun o ho => ?_, fun j v hj => ?_⟩
    · rw [q3 o (by omega), Array.getElem?_setIfInBounds]; simp; omega
    · simp only [List.length_cons] at ho
      rw [q4 o (by omega), Array.getElem?_setIfInBounds]; simp; omega
    · cases j with
      | zero =>
        simp at hj
        subst hj
        rw [Nat.add_zero, q3 off (by omega), Array.getElem?_setIfInBounds]
        simp; omega
      | succ j =>
        rw [show off + (j + 1) = off + 1 + j by omega]
        exact q5 j v (by simpa using hj)
theorem heap_setCells_ne {b k : Nat} (hk : k ≠ b) : ∀ (us : List Value) (off : Nat) (W : World), (W.setCells b off us).heap[k]? = W.heap[k]?
  | [], off, W => rfl
  | u :: us, off, W => (heap_setCells_ne hk us (off + 1) _).trans (Below.heap_setCell W _ _ k hk)
theorem size_setCells {b : Nat} : ∀ (us : List Value) (off : Nat) (W : World), (W.setCells b off us).heap.size = W.heap.size
  | [], off, W => rfl
  | u :: us, off, W => (size_setCells us (off + 1) _).trans (World.size_setCell _ _ _)
theorem Rel.rowIn {S : St} {h : Heap} {B : Nat} {W : World} (r : Rel S h B W) {i n b : Nat} {k : Option Nat} (hx : h[i]? = some (.row k n)) (hb : S.blk i n = some b) {c : Array Value} {e : TypeId} {fr : Nat × Nat} (hh : W.heap[b]? = some (.cells c e fr)) (m : Nat) (hm : 0 < m) (us : List Value) (hl : us.length = m * kz k) (hr : (n + m) * kz k ≤ c.size) (h1 : ∀ u ∈ us, u.oneCell' = true) :
    ∃ S', Rel S' (h.set i (.row k (n + m))) B (W.setCells b (n * kz k) us) ∧ Ext S S' ∧ S'.blk i (n + m) = some b ∧ (∀ j u, us[j]? = some u → S'.imm b (n * kz k + j) = some u) ∧ S'.sz b = some c.size ∧ (∀ b' o, b' ≠ b → S'.imm b' o = S.imm b' o) := by
  obtain ⟨q1, q2⟩ := r.obj i _ hx
  obtain ⟨qB, c0, e0, fr0, hh0, hsz, hsn, hfree⟩ := q2 b hb
  rw [hh] at hh0
  cases hh0
  have hadd : n * kz k + us.length = (n + m) * kz k := by rw [hl, Nat.add_mul]
  obtain ⟨c', p1, p2, p3, p4, p5⟩ := heap_setCells_at us (n * kz k) W c hh (by omega)
  have hlt := (List.getElem?_eq_some_iff.1 hx).1
  have hnone := q1 (n + m) (by omega)
  let S' : St := { blk := fun j w => if j = i ∧ w = n + m then some b else S.blk j w, sz := S.sz, imm := fun b' o => if b' = b ∧ n * kz k ≤ o ∧ o < (n + m) * kz k then c'[o]? else S.imm b' o, base := S.base }
  have himm : ∀ b' o u, S.imm b' o = some u → S'.imm b' o = some u := fun b' o u hi => by
    show (if _ then _ else _) = _
    rw [if_neg ?_]
    · exact hi
    · rintro ⟨rfl, ho, ho2⟩
      rw [(hfree o ho (by omega)).1] at hi
      cases hi
  have ex : Ext S S' := ⟨fun j v b' hb' => by
      show (if _ then _ else _) = _
      rw [if_neg (by rintro ⟨rfl, rfl⟩; rw [hnone] at hb'; cases hb')]
      exact hb', fun _ _ h => h, himm, rfl, fun b' o u hi => by
      by_cases hb' : b' = b ∧ n * kz k ≤ o ∧ o < (n + m) * kz k
      · right; rw [r.sb, hb'.1]; exact qB
      · left; have : S'.imm b' o = S.imm b' o := if_neg hb'; rw [← this]; exact hi⟩
  refine ⟨S', ⟨?_, ?_, ?_, ?_, ?_, ?_, r.sb⟩, ex, ?_, ?_, hsz, ?_⟩
  · intro b' o u hi
    by_cases hb' : b' = b
    · subst hb'
      rw [cell_of p1]
      by_cases ho : n * kz k ≤ o ∧ o < (n + m) * kz k
      · have hi' : c'[o]? = some u := by have : S'.imm b' o = c'[o]? := if_pos ⟨rfl, ho⟩; rw [← this]; exact hi
        refine ⟨hi', ?_⟩
        have hj : us[o - n * kz k]? = some u := by
          have hlt' : o - n * kz k < us.length := by omega
          have := p5 (o - n * kz k) us[o - n * kz k] (by rw [List.getElem?_eq_getElem hlt'])
          rw [show n * kz k + (o - n * kz k) = o by omega] at this
          rw [List.getElem?_eq_getElem hlt', ← this, hi']
        exact h1 u (List.mem_of_getElem? hj)
      · have hi' : S.imm b' o = some u := by have : S'.imm b' o = S.imm b' o := if_neg (fun z => ho z.2); rw [← this]; exact hi
        have := r.imm b' o u hi'
        rw [cell_of hh] at this
        refine ⟨?_, this.2⟩
        by_cases h2 : o < n * kz k
        · rw [p3 o h2]; exact this.1
        · rw [p4 o (by omega)]; exact this.1
    · have hi' : S.imm b' o = some u := by have : S'.imm b' o = S.imm b' o := if_neg (fun z => hb' z.1); rw [← this]; exact hi
      have := r.imm b' o u hi'
      rw [World.cell?_of_block (w := W) (a := ⟨b', o, none⟩) (heap_setCells_ne hb' us _ W)]
      exact this
  · intro j y hy
    by_cases hj : j = i
    · subst hj
      rw [getElem?_set_eq' hlt] at hy
      cases hy
      refine ⟨fun v hv => ?_, fun b' hb' => ?_⟩
      · show (if _ then _ else _) = _
        rw [if_neg (by omega)]
        exact q1 v (by omega)
      · have : b' = b := by have : S'.blk j (n + m) = some b := if_pos ⟨rfl, rfl⟩; rw [this] at hb'; exact (Option.some.inj hb').symm
        subst this
        refine ⟨qB, c', e, fr, p1, by rw [p2]; exact hsz, by rw [p2]; exact hr, fun o ho hc => ⟨?_, ?_⟩⟩
        · show (if _ then _ else _) = _
          rw [if_neg (by omega)]
          exact (hfree o (by rw [Nat.add_mul] at ho; omega) (by omega)).1
        · have := (hfree o (by rw [Nat.add_mul] at ho; omega) (by omega)).2
          rw [World.frozen?_setCells]
          exact this
    · rw [getElem?_set_ne' (fun hh => hj hh.symm)] at hy
      refine (r.obj j y hy).mono ex (fun b' hc => ?_) (fun v hv => ?_)
      · have hne : b' ≠ b := by rintro rfl; exact hj (r.inj j i y _ b' hy hx hc hb)
        refine ⟨heap_setCells_ne hne us _ W, fun o ho => ?_⟩
        show (if _ then _ else _) = _
        rw [if_neg (fun z => hne z.1)]
        exact ho
      · show (if _ then _ else _) = _
        rw [if_neg (fun z => hj z.1)]
        exact hv
  · have hcur : ∀ (j : Nat) (y : AObj) (b' : Nat), (h.set i (.row k (n + m)))[j]? = some y → curB S' j y = some b' → ∃ y', h[j]? = some y' ∧ curB S j y' = some b' := by
      intro j y b' hy hc
      by_cases hj : j = i
      · subst hj
        rw [getElem?_set_eq' hlt] at hy
        cases hy
        have : S'.blk j (n + m) = some b := if_pos ⟨rfl, rfl⟩
        simp only [curB] at hc
        rw [this] at hc
        cases hc
        exact ⟨_, hx, hb⟩
      · rw [getElem?_set_ne' (fun hh => hj hh.symm)] at hy
        refine ⟨y, hy, ?_⟩
        have hq : ∀ v, S'.blk j v = S.blk j v := fun v => if_neg (fun z => hj z.1)
        cases y <;> simp only [curB, hq] at * <;> exact hc
    intro a j y z b' hy hz hcy hcz
    obtain ⟨y', hy', e1⟩ := hcur a y b' hy hcy
    obtain ⟨z', hz', e2⟩ := hcur j z b' hz hcz
    exact r.inj a j y' z' b' hy' hz' e1 e2
  · intro j v hj
    rw [List.length_set] at hj
    show (if _ then _ else _) = _
    rw [if_neg (by omega)]
    exact r.new j v hj
  · intro b' m' hs
    rw [size_setCells]
    exact r.lt b' m' hs
  · rw [size_setCells]; exact r.base
  · exact if_pos ⟨rfl, rfl⟩
  · intro j u hj
    have hjl := (List.getElem?_eq_some_iff.1 hj).1
    show (if _ then _ else _) = _
    rw [if_pos ⟨rfl, by omega, by omega⟩]
    exact p5 j u hj
  · intro b' o hne
    exact if_neg (fun z => hne z.1)
end Go.Proofs.Ytipbmacpenmgoaa.AM

/- Regions that draw their order: which may be taken as all but the last one, then the last one. -/
namespace Go.Proofs.Ytipbmacpenmgoaa.AM
open Go Go.RowKit
/-- who may come up now, the last one apart -/
def rdyB (md : Region.Mode) (ops : Array Oper) (m : Nat) (listed : Array Bool) : List Nat := (Region.ready md ops listed).filter (· != m)
/-- the order of the text, up to the last one -/
def lexM (md : Region.Mode) (ops : Array Oper) (m : Nat) : Nat → Nat → Array Bool → Bool
  | 0, _, listed => (rdyB md ops m listed).isEmpty
  | n + 1, k, listed => ((Region.ready md ops listed).contains k && Region.free md ops listed k && k != m) && lexM md ops m n (k + 1) (listed.setIfInBounds k true)
def afters (md : Region.Mode) (ops : Array Oper) (j : Nat) : List Nat := match ops[j]? with | some o => (o.after.toList.filter (Region.binds md)).map (·.on) | none => []
/-- all that an operation waits for, over others too -/
def reach (md : Region.Mode) (ops : Array Oper) : Nat → List Nat → List Nat
  | 0, l => l
  | n + 1, l => reach md ops n (l ++ l.flatMap (afters md ops)).eraseDups
def depB (md : Region.Mode) (ops : Array Oper) (m : Nat) : Bool :=
  ops.size == m + 1 &&
  ((List.range (m + 1)).all fun j => (afters md ops j).all fun i => decide (i < j)) &&
  ((List.range m).all fun i => (reach md ops m (afters md ops m)).contains i)
/-- may this region be taken as: all but the last one, in the order of the text, then the last one? -/
def lastB (ops : Array Oper) : Bool := Region.noSelect ops && (depB .any ops (ops.size - 1) && lexM .any ops (ops.size - 1) (ops.size - 1) 0 (Array.replicate ops.size false))
def oT : Opd → List Nat
  | .tmp t => [t]
  | .cst _ => []
def oTL : List Opd → List Nat
  | [] => []
  | x :: r => oT x ++ oTL r
def oTM : Option Opd → List Nat
  | none => []
  | some x => oT x
def oTP : List (Nat × Nat × Opd) → List Nat
  | [] => []
  | (_, _, x) :: r => oT x ++ oTP r
def oTE : List (Nat × Opd) → List Nat
  | [] => []
  | (_, x) :: r => oT x ++ oTE r
/-- the slots that an operation looks at -/
def opT : AOp → List Nat
  | .move x | .acc _ x | .box x | .boxI x | .load _ x | .nilCheck x | .un _ x | .convInt _ x | .convBytes x | .convBytesI x | .convBytesV x | .letgo x | .convStr x | .convSS x | .toArr _ x | .fieldAddr _ _ x | .field _ _ x | .extract x _ | .len x | .lenT x | .eqNil _ _ x | .lenM x | .range _ x | .next _ x => oT x
  | .pick c a b => oT c ++ (oT a ++ oT b)
  | .alloc _ | .stuck | .mkMap => []
  | .lookup _ _ _ _ x y | .mapDel _ _ x y => oT x ++ oT y
  | .mapSet _ _ x y z => oT x ++ (oT y ++ oT z)
  | .build _ p => oTP p
  | .buildSlice _ _ _ p | .buildSliceV _ _ _ p => oTE p
  | .store _ x y | .bin _ x y | .eqBool _ x y | .eqArr _ _ x y | .eqAgg _ _ x y | .minmax _ x y | .index _ _ x y | .indexAddr _ _ x y | .indexStr x y | .append _ _ x y | .appendV _ _ x y | .copy _ x y | .makeSlice _ _ _ x y => oT x ++ oT y
  | .makeFunc _ a b => oTL a ++ oTL b
  | .slice _ _ x l h m => oT x ++ (oTM l ++ (oTM h ++ oTM m))
  | .call f l => oT f ++ oTL l
  | .callQ _ l => oTL l
def erT (o : AOper) : List Nat := (match o.guard with | some (t, _) => [t] | none => []) ++ opT o.op
def effAt (os : List AOper) (j : Nat) : Bool := match os[j]? with | some o => effB o.op | none => false
def dstAt (os : List AOper) (j : Nat) : Option Nat := (os[j]?).bind (·.dst)
def erTAt (os : List AOper) (j : Nat) : List Nat := match os[j]? with | some o => erT o | none => []
def upB (ops : Array Oper) (j : Nat) : List Nat := reach .any ops ops.size (afters .any ops j)
/-- between which numbers of changes its turn may come -/
def stOf (ups : List (List Nat)) (os : List AOper) (n : Nat) (j : Nat) : Nat × Nat :=
  ((List.range n).countP (fun i => effAt os i && (ups.getD j []).contains i), (List.range n).countP (fun i => effAt os i && !((ups.getD i []).contains j) && i != j))
/-- may this region be taken in the order of the text, if what is read is the same on all ways? -/
def okU (ops : Array Oper) (os : List AOper) (ups : List (List Nat)) (st : List (Nat × Nat)) : Bool :=
  ups == (List.range ops.size).map (upB ops) && st == (List.range ops.size).map (stOf ups os ops.size) && os.length == ops.size &&
  ((List.range ops.size).all fun j => (afters .any ops j).all fun i => decide (i < j)) &&
  ((List.range ops.size).all fun j => (ups.getD j []).all fun i => decide (i < j)) &&
  ((List.range ops.size).all fun j => (erTAt os j).all fun t => (List.range ops.size).all fun i => dstAt os i != some t || (ups.getD j []).contains i || (ups.getD i []).contains j || i == j) &&
  ((List.range ops.size).all fun j => !effAt os j || (List.range j).all fun i => !effAt os i || (ups.getD j []).contains i) &&
  ((List.range ops.size).all fun j => (List.range j).all fun i => dstAt os j == none || dstAt os i != dstAt os j)
/-- a call that is marked: it hands back plain values and changes nothing that is held -/
def toQ (m : Nat → Bool) (o : AOper) : AOper := match o.op, o.dst with
  | .call (.cst (.func (.func f) [] [])) l, some d => if m d then { o with op := .callQ f l } else o
  | .convBytes z, some d => if m d then { o with op := .convBytesI z } else o
  | .buildSlice k z n ps, some d => if m d then { o with op := .buildSliceV k z n ps } else o
  | _, _ => o
/-- bytes that are written, too -/
def toV (m : Nat → Bool) (o : AOper) : AOper := match o.op, o.dst with
  | .convBytes z, some d => if m d then { o with op := .convBytesV z } else o
  | .move z, some d => if m d then { o with op := .letgo z } else o
  | _, _ => o
theorem toV_or (m : Nat → Bool) (o : AOper) : toV m o = o ∨ ∃ z, (o.op = .convBytes z ∧ toV m o = { o with op := .convBytesV z }) ∨ (o.op = .move z ∧ toV m o = { o with op := .letgo z }) := by
  unfold toV
  split
  · rename_i z d hop hd
    split
    · exact .inr ⟨z, .inl ⟨hop, rfl⟩⟩
    · exact .inl rfl
  · rename_i z d hop hd
    split
    · exact .inr ⟨z, .inr ⟨hop, rfl⟩⟩
    · exact .inl rfl
  · exact .inl rfl
theorem toV_dst (m : Nat → Bool) (o : AOper) : (toV m o).dst = o.dst ∧ (toV m o).guard = o.guard := by
  rcases toV_or m o with h | ⟨z, ⟨_, h⟩ | ⟨_, h⟩⟩ <;> rw [h] <;> exact ⟨rfl, rfl⟩
structure QOf (y x : AOper) : Prop where
  dst : x.dst = y.dst
  guard : x.guard = y.guard
  op : x.op = y.op ∨ (∃ f l, y.op = .call (.cst (.func (.func f) [] [])) l ∧ x.op = .callQ f l) ∨ (∃ z, y.op = .convBytes z ∧ x.op = .convBytesI z) ∨ ∃ k z n ps, y.op = .buildSlice k z n ps ∧ x.op = .buildSliceV k z n ps
theorem QOf.refl (x : AOper) : QOf x x := ⟨rfl, rfl, .inl rfl⟩
theorem toQ_of (m : Nat → Bool) (o : AOper) : QOf o (toQ m o) := by
  unfold toQ
  split
  · rename_i f l d hop hd
    split
    · exact ⟨rfl, rfl, .inr (.inl ⟨f, l, hop, rfl⟩)⟩
    · exact QOf.refl o
  · rename_i z d hop hd
    split
    · exact ⟨rfl, rfl, .inr (.inr (.inl ⟨z, hop, rfl⟩))⟩
    · exact QOf.refl o
  · rename_i k z n ps d hop hd
    split
    · exact ⟨rfl, rfl, .inr (.inr (.inr ⟨k, z, n, ps, hop, rfl⟩))⟩
    · exact QOf.refl o
  · exact QOf.refl o
end Go.Proofs.Ytipbmacpenmgoaa.AM

/- Values that compare cell by cell: structs and arrays of whole numbers, texts and truth values. -/
namespace Go.Proofs.Ytipbmacpenmgoaa.AM
open Go
set_option linter.unusedVariables false
set_option linter.unusedSimpArgs false
/-- the leaves of a struct's fields, which stand side by side -/
def leavesF (P : Program) (g : TypeId → Option (List LK)) : Nat → List Field → Option (List LK)
  | _, [] => some []
  | off, f :: fs => if f.name ≠ "_" ∧ f.offset = off then (g f.type).bind fun l => if P.cellsOf f.type = l.length then (leavesF P g (off + l.length) fs).map (l ++ ·) else none else none
/-- the leaves of a type -/
def leaves (P : Program) : Nat → TypeId → Option (List LK)
  | 0, _ => none
  | d + 1, t => match P.underlying t with
    | some .bool => some [.bool]
    | some (.int _) => some [.int]
    | some .string => some [.str]
    | some (.array n e) => (leaves P d e).bind fun l => if P.cellsOf e = l.length ∧ (P.info? e).isSome = true then some (List.replicate n l).flatten else none
    | some (.struct fs) => if P.stoodInHeld t = false then leavesF P (leaves P d) 0 fs.toList else none
    | _ => none
def eqV : List LK → List Value → List Value → Option Bool
  | [], [], [] => some true
  | .int :: ks, .int k a :: x, .int k' b :: y => if k = k' then (eqV ks x y).map fun r => a == b && r else none
  | .str :: ks, .string a :: x, .string b :: y => (eqV ks x y).map fun r => a == b && r
  | .bool :: ks, .bool a :: x, .bool b :: y => (eqV ks x y).map fun r => a == b && r
  | _, _, _ => none
theorem eqV_len : ∀ {ks : List LK} {x y : List Value} {r : Bool}, eqV ks x y = some r → x.length = ks.length ∧ y.length = ks.length
  | [], [], [], _, _ => ⟨rfl, rfl⟩
  | .int :: ks, .int k a :: x, .int k' b :: y, r, h => by
    simp only [eqV] at h
    split at h
    · obtain ⟨r', h', _⟩ := Option.map_eq_some_iff.1 h
      have := eqV_len h'
      simp [this.1, this.2]
    · cases h
  | .str :: ks, .string a :: x, .string b :: y, r, h => by
    simp only [eqV] at h
    obtain ⟨r', h', _⟩ := Option.map_eq_some_iff.1 h
    have := eqV_len h'
    simp [this.1, this.2]
  | .bool :: ks, .bool a :: x, .bool b :: y, r, h => by
    simp only [eqV] at h
    obtain ⟨r', h', _⟩ := Option.map_eq_some_iff.1 h
    have := eqV_len h'
    simp [this.1, this.2]
theorem eqV_append : ∀ {k1 k2 : List LK} {x y : List Value} {r : Bool}, eqV (k1 ++ k2) x y = some r → ∃ r1 r2, eqV k1 (x.take k1.length) (y.take k1.length) = some r1 ∧ eqV k2 (x.drop k1.length) (y.drop k1.length) = some r2 ∧ r = (r1 && r2)
  | [], k2, x, y, r, h => ⟨true, r, by simp [eqV], by simpa using h, by simp⟩
  | .int :: ks, k2, .int k a :: x, .int k' b :: y, r, h => by
    simp only [List.cons_append, eqV] at h
    split at h
    · rename_i hk
      obtain ⟨r', h', rfl⟩ := Option.map_eq_some_iff.1 h
      obtain ⟨r1, r2, g1, g2, rfl⟩ := eqV_append h'
      exact ⟨a == b && r1, r2, by simp [eqV, hk, g1], by simpa using g2, by simp [Bool.and_assoc]⟩
    · cases h
  | .str :: ks, k2, .string a :: x, .string b :: y, r, h => by
    simp only [List.cons_append, eqV] at h
    obtain ⟨r', h', rfl⟩ := Option.map_eq_some_iff.1 h
    obtain ⟨r1, r2, g1, g2, rfl⟩ := eqV_append h'
    exact ⟨a == b && r1, r2, by simp [eqV, g1], by simpa using g2, by simp [Bool.and_assoc]⟩
  | .bool :: ks, k2, .bool a :: x, .bool b :: y, r, h => by
    simp only [List.cons_append, eqV] at h
    obtain ⟨r', h', rfl⟩ := Option.map_eq_some_iff.1 h
    obtain ⟨r1, r2, g1, g2, rfl⟩ := eqV_append h'
    exact ⟨a == b && r1, r2, by simp [eqV, g1], by simpa using g2, by simp [Bool.and_assoc]⟩
/-- the value of a type that these cells are -/
def mkV (P : Program) (t : TypeId) (cs : List Value) : Value := match P.underlying t with
  | some (.array _ _) | some (.struct _) => .agg cs.toArray
  | _ => cs.headD (.bool false)
/-- compared as the model compares -/
def EqT (P : Program) (D : Nat) (t : TypeId) (l : List LK) : Prop := ∀ (w : World) (x y : List Value) (r : Bool), eqV l x y = some r → (Op.equalIn D t (mkV P t x) (mkV P t y)).run P w = .ok r w
theorem run_part_mk {P : Program} {d : Nat} {t : TypeId} {l : List LK} (hl : leaves P d t = some l) (hc : P.cellsOf t = l.length) (w : World) (xs : Array Value) (off : Nat) (h : ((xs.toList.drop off).take l.length).length = l.length) :
    (part t xs off).run P w = .ok (mkV P t ((xs.toList.drop off).take l.length)) w := by
  have agg : ∀ {k : TypeDesc}, P.underlying t = some k → ((∃ n e, k = .array n e) ∨ ∃ fs, k = .struct fs) → (part t xs off).run P w = .ok (mkV P t ((xs.toList.drop off).take l.length)) w := by
    intro k hu hk
    obtain ⟨i, hi⟩ := info_of_underlying hu
    have e : (.agg (xs.extract off (off + P.cellsOf t)) : Value) = .agg ((xs.toList.drop off).take l.length).toArray := by
      congr 1
      apply Array.toList_inj.1
      rw [Array.toList_extract, hc]
      simp [List.extract]
    rcases hk with ⟨n, e', rfl⟩ | ⟨fs, rfl⟩ <;> simp [part, isAgg, run_underlying hu, run_sizeOf w hi, mkV, hu, e]
  have plain : l.length = 1 → P.plainKey t = true → (part t xs off).run P w = .ok (((xs.toList.drop off).take l.length).headD (.bool false)) w := by
    intro h1 hp
    rw [h1] at h ⊢
    have hlt : off < xs.size := by
      rw [List.length_take, List.length_drop, Array.length_toList] at h
      omega
    have hx : xs[off]? = some xs[off] := Array.getElem?_eq_getElem hlt
    rw [run_part_plain w hp hx]
    have : xs.toList.drop off = xs[off] :: xs.toList.drop (off + 1) := by
      rw [List.drop_eq_getElem_cons (by simpa using hlt)]
      simp
    rw [this]
    rfl
  cases d with
  | zero => simp [leaves] at hl
  | succ d =>
    unfold leaves at hl
    cases hu : P.underlying t with
    | none => simp [hu] at hl
    | some k =>
      cases k <;> simp only [hu] at hl
      case bool => cases hl; rw [plain rfl (by simp [Program.plainKey, hu])]; simp [mkV, hu]
      case int q => cases hl; rw [plain rfl (by simp [Program.plainKey, hu])]; simp [mkV, hu]
      case string => cases hl; rw [plain rfl (by simp [Program.plainKey, hu])]; simp [mkV, hu]
      case array n e => exact agg hu (.inl ⟨n, e, rfl⟩)
      case struct fs => exact agg hu (.inr ⟨fs, rfl⟩)
      all_goals cases hl
theorem take_len {α : Type} {xs : List α} {off n m : Nat} (h : ((xs.drop off).take (n + m)).length = n + m) : ((xs.drop off).take n).length = n ∧ ((xs.drop (off + n)).take m).length = m := by
  simp only [List.length_take, List.length_drop] at *
  omega
theorem run_eqItems_mk {P : Program} {d D : Nat} {e : TypeId} {l : List LK} (hl : leaves P d e = some l) (hc : P.cellsOf e = l.length) (IH : EqT P D e l) (xs ys : Array Value) : ∀ (n j : Nat) (w : World) (r : Bool),
    eqV (List.replicate n l).flatten ((xs.toList.drop (j * l.length)).take (n * l.length)) ((ys.toList.drop (j * l.length)).take (n * l.length)) = some r →
    (Op.eqItems D e (P.cellsOf e) xs ys (List.range' j n)).run P w = .ok r w
  | 0, j, w, r, h => by simp [eqV] at h; simp [Op.eqItems, h]
  | n + 1, j, w, r, h => by
    rw [List.replicate_succ, List.flatten_cons] at h
    have hlen := eqV_len h
    have hfl : (List.replicate n l).flatten.length = n * l.length := by simp
    have e1 : (n + 1) * l.length = l.length + n * l.length := by rw [Nat.add_mul]; omega
    rw [List.length_append, hfl, e1] at hlen
    obtain ⟨hx1, hx2⟩ := take_len hlen.1
    obtain ⟨hy1, hy2⟩ := take_len hlen.2
    obtain ⟨r1, r2, g1, g2, rfl⟩ := eqV_append h
    rw [e1] at g1 g2
    have tk : ∀ zs : List Value, (zs.take (l.length + n * l.length)).take l.length = zs.take l.length := fun zs => by rw [List.take_take, Nat.min_eq_left (by omega)]
    have dr : ∀ zs : List Value, (zs.take (l.length + n * l.length)).drop l.length = (zs.drop l.length).take (n * l.length) := fun zs => by rw [List.drop_take]; congr 1; omega
    rw [tk, tk] at g1
    rw [dr, dr, List.drop_drop, List.drop_drop] at g2
    have e2 : j * l.length + l.length = (j + 1) * l.length := by rw [Nat.add_mul]; omega
    rw [e2] at g2
    have p1 := run_part_mk hl hc w xs (j * l.length) hx1
    have p2 := run_part_mk hl hc w ys (j * l.length) hy1
    have p3 := IH w _ _ _ g1
    have p4 := run_eqItems_mk hl hc IH xs ys n (j + 1) w r2 g2
    rw [List.range'_succ]
    simp only [Op.eqItems, Sem.run_bind, hc, p1, p2, p3, Result.andThen_ok]
    rw [hc] at p4
    cases r1
    · simp
    · simpa using p4
theorem run_eqFields_mk {P : Program} {d D : Nat} (IH : ∀ t l, leaves P d t = some l → EqT P D t l) (xs ys : Array Value) : ∀ (fs : List Field) (off : Nat) (ks : List LK) (w : World) (r : Bool), leavesF P (leaves P d) off fs = some ks →
    eqV ks ((xs.toList.drop off).take ks.length) ((ys.toList.drop off).take ks.length) = some r → (Op.eqFields D xs ys fs).run P w = .ok r w
  | [], off, ks, w, r, hk, h => by
    simp only [leavesF, Option.some.injEq] at hk
    subst hk
    simp [eqV] at h
    simp [Op.eqFields, h]
  | f :: fs, off, ks, w, r, hk, h => by
    simp only [leavesF] at hk
    split at hk
    · rename_i hf
      obtain ⟨l, hl, hk⟩ := Option.bind_eq_some_iff.1 hk
      split at hk
      · rename_i hc
        obtain ⟨k2, hk2, rfl⟩ := Option.map_eq_some_iff.1 hk
        have hlen := eqV_len h
        rw [List.length_append] at hlen
        obtain ⟨hx1, hx2⟩ := take_len hlen.1
        obtain ⟨hy1, hy2⟩ := take_len hlen.2
        obtain ⟨r1, r2, g1, g2, rfl⟩ := eqV_append h
        rw [List.length_append] at g1 g2
        have tk : ∀ zs : List Value, (zs.take (l.length + k2.length)).take l.length = zs.take l.length := fun zs => by rw [List.take_take, Nat.min_eq_left (by omega)]
        have dr : ∀ zs : List Value, (zs.take (l.length + k2.length)).drop l.length = (zs.drop l.length).take k2.length := fun zs => by rw [List.drop_take]; congr 1; omega
        rw [tk, tk] at g1
        rw [dr, dr, List.drop_drop, List.drop_drop] at g2
        have p1 := run_part_mk hl hc w xs off hx1
        have p2 := run_part_mk hl hc w ys off hy1
        have p3 := IH _ _ hl w _ _ _ g1
        have p4 := run_eqFields_mk IH xs ys fs (off + l.length) k2 w r2 hk2 g2
        simp only [Op.eqFields, hf.1, hf.2, ne_eq, not_false_eq_true, if_true, Sem.run_bind, p1, p2, p3, Result.andThen_ok]
        cases r1
        · simp
        · simpa using p4
      · cases hk
    · cases hk
theorem eqT_of {P : Program} (D : Nat) : ∀ (d : Nat) (t : TypeId) (l : List LK), leaves P d t = some l → EqT P (D + d) t l
  | 0, t, l, h => by simp [leaves] at h
  | d + 1, t, l, h => by
    intro w x y r hr
    unfold leaves at h
    cases hu : P.underlying t with
    | none => simp [hu] at h
    | some k =>
      cases k <;> simp only [hu] at h
      case bool =>
        cases h
        have hlen := eqV_len hr
        match x, y, hlen with
        | [a], [b], _ =>
          cases a <;> cases b <;> simp [eqV] at hr
          subst hr
          simp [mkV, hu, show D + (d + 1) = (D + d) + 1 from rfl, Op.equalIn, run_underlying hu]
      case int q =>
        cases h
        have hlen := eqV_len hr
        match x, y, hlen with
        | [a], [b], _ =>
          cases a <;> cases b <;> simp [eqV] at hr
          obtain ⟨rfl, hr⟩ := hr
          subst hr
          simp [mkV, hu, show D + (d + 1) = (D + d) + 1 from rfl, Op.equalIn, run_underlying hu]
      case string =>
        cases h
        have hlen := eqV_len hr
        match x, y, hlen with
        | [a], [b], _ =>
          cases a <;> cases b <;> simp [eqV] at hr
          subst hr
          simp [mkV, hu, show D + (d + 1) = (D + d) + 1 from rfl, Op.equalIn, run_underlying hu]
      case array n e =>
        obtain ⟨l', hl', h⟩ := Option.bind_eq_some_iff.1 h
        split at h
        · rename_i hc
          cases h
          obtain ⟨i, hi⟩ := Option.isSome_iff_exists.1 hc.2
          have hlen := eqV_len hr
          have hfl : (List.replicate n l').flatten.length = n * l'.length := by simp
          rw [hfl] at hlen
          have := run_eqItems_mk hl' hc.1 (eqT_of D d e l' hl') x.toArray y.toArray n 0 w r (by
            rw [Nat.zero_mul, List.drop_zero, List.drop_zero, show x.toArray.toList = x by simp, show y.toArray.toList = y by simp, List.take_of_length_le (Nat.le_of_eq hlen.1), List.take_of_length_le (Nat.le_of_eq hlen.2)]
            exact hr)
          simp only [mkV, hu]
          rw [show D + (d + 1) = (D + d) + 1 from rfl, run_equalIn_array w (D + d) _ _ hu hi, List.range_eq_range']
          exact this
        · cases h
      case struct fs =>
        split at h
        · rename_i hs
          have hlen := eqV_len hr
          have := run_eqFields_mk (eqT_of D d) x.toArray y.toArray fs.toList 0 l w r h (by
            rw [List.drop_zero, List.drop_zero, show x.toArray.toList = x by simp, show y.toArray.toList = y by simp, List.take_of_length_le (Nat.le_of_eq hlen.1), List.take_of_length_le (Nat.le_of_eq hlen.2)]
            exact hr)
          have hfo : P.fieldsOf t = fs := by simp [Program.fieldsOf, hu]
          simp only [mkV, hu]
          rw [show D + (d + 1) = (D + d) + 1 from rfl, run_equalIn_struct w (D + d) t _ _ (by rw [hfo]; exact hu) hs, hfo]
          exact this
        · cases h
      all_goals cases h
theorem eqAV_V {S : St} : ∀ {ks : List LK} {a b : List AV} {r : Bool} {x y : List Value}, eqAV ks a b = some r → VL S a x → VL S b y → eqV ks x y = some r
  | [], [], [], r, x, y, h, hx, hy => by
    simp only [VL] at hx hy
    subst hx; subst hy
    simpa [eqAV, eqV] using h
  | .int :: ks, .sc (.int k p) :: a, .sc (.int k' q) :: b, r, x, y, h, hx, hy => by
    simp only [eqAV] at h
    split at h
    · rename_i hk
      obtain ⟨r', h', rfl⟩ := Option.map_eq_some_iff.1 h
      simp only [VL, V] at hx hy
      obtain ⟨u, us, rfl, rfl, gx⟩ := hx
      obtain ⟨w, ws, rfl, rfl, gy⟩ := hy
      simp only [eqV, hk, if_true, eqAV_V h' gx gy, Option.map_some]
    · cases h
  | .str :: ks, .sc (.string p) :: a, .sc (.string q) :: b, r, x, y, h, hx, hy => by
    simp only [eqAV] at h
    obtain ⟨r', h', rfl⟩ := Option.map_eq_some_iff.1 h
    simp only [VL, V] at hx hy
    obtain ⟨u, us, rfl, rfl, gx⟩ := hx
    obtain ⟨w, ws, rfl, rfl, gy⟩ := hy
    simp only [eqV, eqAV_V h' gx gy, Option.map_some, beq_toListBytes]
  | .bool :: ks, .sc (.bool p) :: a, .sc (.bool q) :: b, r, x, y, h, hx, hy => by
    simp only [eqAV] at h
    obtain ⟨r', h', rfl⟩ := Option.map_eq_some_iff.1 h
    simp only [VL, V] at hx hy
    obtain ⟨u, us, rfl, rfl, gx⟩ := hx
    obtain ⟨w, ws, rfl, rfl, gy⟩ := hy
    simp only [eqV, eqAV_V h' gx gy, Option.map_some]
end Go.Proofs.Ytipbmacpenmgoaa.AM

/- From the model's code to the plain machine's. -/
namespace Go.Proofs.Ytipbmacpenmgoaa.AM
open Go Go.RowKit
set_option linter.unusedVariables false
set_option linter.unusedSimpArgs false
def cst : Value → AV
  | .agg cs => .agg (cs.toList.map .sc)
  | v => .sc v
structure Env0 where
  gl : Nat → Option (List Value)
  nt : Nat
  accs : List (Nat × Option Nat)
def compO (E : Env0) : Operand → Option Opd
  | .tmp t => some (.tmp t)
  | .const v => some (.cst (cst v))
  | .func f => some (.cst (.func (.func f) [] []))
  | .global g => (E.gl g).map fun l => .cst (.ref (l.map .sc))
def compL (E : Env0) : List Operand → Option (List Opd)
  | [] => some []
  | x :: r => (compO E x).bind fun x => (compL E r).map (x :: ·)
def compM (E : Env0) : Option Operand → Option (Option Opd)
  | none => some none
  | some x => (compO E x).map some
def kOf (P : Program) (t : TypeId) : Option (Option Nat) :=
  (P.underlying t).bind fun u => (P.info? t).bind fun i => match u with
    | .struct _ | .array _ _ => if i.size = 0 then none else some (some i.size)
    | _ => if i.size = 1 then some none else none
def zeroOf (P : Program) (t : TypeId) : Option Value := (P.info? t).bind (·.zero)
def compParts (E : Env0) (place : Nat → Option (Nat × Nat)) : List (Nat × Operand) → Option (List (Nat × Nat × Opd))
  | [] => some []
  | (i, x) :: r => (place i).bind fun (o, n) => (compO E x).bind fun x => (compParts E place r).map ((o, n, x) :: ·)
def compEls (E : Env0) : List (Nat × Operand) → Option (List (Nat × Opd))
  | [] => some []
  | (i, x) :: r => (compO E x).bind fun x => (compEls E r).map ((i, x) :: ·)
def nilK : TypeDesc → Option NK
  | .pointer _ => some .ptr
  | .slice _ => some .slice
  | .map _ _ => some .map
  | .func _ _ _ => some .func
  | _ => none
def isNilC : NK → Operand → Bool
  | .ptr, .const (.pointer none) => true
  | .map, .const (.map none) => true
  | .func, .const .nilFunc => true
  | .slice, .const (.slice none 0 0) => true
  | _, _ => false
def plainU : TypeDesc → Bool
  | .int _ | .string => true
  | _ => false
def isSt : TypeDesc → Bool
  | .struct _ => true
  | _ => false
theorem isSt_st {u : TypeDesc} (h : isSt u = true) : ∃ fs, u = .struct fs := by
  cases u <;> first | exact ⟨_, rfl⟩ | cases h
def compEq (P : Program) (E : Env0) (neg : Bool) (t : TypeId) (x y : Operand) : Option AOp :=
  (P.underlying t).bind fun u => match u with
    | .bool => (compO E x).bind fun x => (compO E y).map fun y => .eqBool neg x y
    | .array n e => (P.underlying e).bind fun ue => (P.info? e).bind fun i => match ue with
      | .int _ => if i.size = 1 ∧ P.eqGuardType P.depth t = false then (compO E x).bind fun x => (compO E y).map fun y => .eqArr neg n x y else none
      | _ => none
    | u => if isSt u = true ∧ P.eqGuardType P.depth t = false then (leaves P 12 t).bind fun ks => (compO E x).bind fun x => (compO E y).map fun y => .eqAgg neg ks x y else
      (nilK u).bind fun k => if isNilC k y then (compO E x).map (.eqNil neg k) else if isNilC k x then (compO E y).map (.eqNil neg k) else none
/-- a map's kind of keys: structs?, and their leaves -/
def keyK (P : Program) (t : TypeId) : Option (Bool × List LK × TypeId) :=
  (P.underlying t).bind fun u => match u with
    | .map kt et => (P.underlying kt).bind fun d => (leaves P 12 kt).bind fun ks => match d with
      | .struct _ => some (true, ks, et)
      | .int _ | .string | .bool => some (false, ks, et)
      | _ => none
    | _ => none
def compB (P : Program) (E : Env0) (b : Builtin) (ts : Array TypeId) (args : List Operand) : Option AOp :=
  match b, args with
  | .len, [x] => (ts[0]?).bind fun t => (P.underlying t).bind fun u => match u with
    | .string => (compO E x).map .lenT
    | .slice _ => (compO E x).map .len
    | .map _ _ => (compO E x).map .lenM
    | .array n _ => some (.move (.cst (.int .i64 n)))
    | .pointer a => (P.underlying a).bind fun u => match u with | .array n _ => some (.move (.cst (.int .i64 n))) | _ => none
    | _ => none
  | .append, [s, x] => (ts[0]?).bind fun t => (ts[1]?).bind fun tx => (P.underlying t).bind fun u => (P.underlying tx).bind fun ux => match u, ux with
    | _, .int _ => none
    | .slice e, _ => (kOf P e).bind fun k => (P.info? e).bind fun i => match i.zero with
      | some z => if i.size = kz k ∧ z.cells.size = kz k ∧ z.cells.toList.all (·.oneCell') = true ∧ 0 < i.bytes then (compO E s).bind fun s => (compO E x).map fun x => .append k i.bytes s x else none
      | none => none
    | _, _ => none
  | .copy, [d, s] => (ts[0]?).bind fun t => (P.underlying t).bind fun u => match u with
    | .slice e => (kOf P e).bind fun k => (P.info? e).bind fun i => if i.size = kz k then (compO E d).bind fun d => (compO E s).map fun s => .copy k d s else none
    | _ => none
  | .delete, [m, k] => (ts[0]?).bind fun t => (keyK P t).bind fun (st, ks, _) => (compO E m).bind fun m => (compO E k).map fun k => .mapDel st ks m k
  | .min, [x, y] => (compO E x).bind fun x => (compO E y).map fun y => .minmax false x y
  | .max, [x, y] => (compO E x).bind fun x => (compO E y).map fun y => .minmax true x y
  | _, _ => none
/-- a box that is never written: its cells stay -/
def boxO (m : Option (Option Nat)) (x : Opd) : AOp := if m = some (some 0) then .boxI x else .box x
/-- an append whose row is written too -/
def vecO (m : Option (Option Nat)) (op : AOp) : AOp := match op with | .append k b s x => if m = some (some 0) then .appendV k b s x else .append k b s x | op => op
theorem boxO_or (m : Option (Option Nat)) (x : Opd) : boxO m x = .box x ∨ boxO m x = .boxI x := by
  unfold boxO
  split
  · exact .inr rfl
  · exact .inl rfl
theorem vecO_or (m : Option (Option Nat)) (op : AOp) : vecO m op = op ∨ ∃ k b s x, op = .append k b s x ∧ vecO m op = .appendV k b s x := by
  unfold vecO
  split
  · split
    · exact .inr ⟨_, _, _, _, rfl, rfl⟩
    · exact .inl rfl
  · exact .inl rfl
theorem vecO_ne {m : Option (Option Nat)} {op y : AOp} (h : vecO m op = y) (hy : ∀ k b s x, y ≠ .appendV k b s x) : op = y := by
  rcases vecO_or m op with hh | ⟨k, b, s, x, _, hh⟩
  · rw [← h, hh]
  · exact absurd (h.symm.trans hh) (hy k b s x)
theorem compB_append {P : Program} {E : Env0} {b : Builtin} {ts : Array TypeId} {args : List Operand} {k : Option Nat} {B : Nat} {s' x' : Opd} (h : compB P E b ts args = some (.append k B s' x')) :
    b = .append ∧ ∃ s x t tx el ux i z, args = [s, x] ∧ ts[0]? = some t ∧ ts[1]? = some tx ∧ P.underlying t = some (.slice el) ∧ P.underlying tx = some ux ∧ (∀ d, ux ≠ .int d) ∧ kOf P el = some k ∧ P.info? el = some i ∧ i.zero = some z ∧ (i.size = kz k ∧ z.cells.size = kz k ∧ z.cells.toList.all (·.oneCell') = true ∧ 0 < i.bytes) ∧ compO E s = some s' ∧ compO E x = some x' ∧ B = i.bytes := by
  unfold compB at h
  split at h
  · simp only [Option.bind_eq_some_iff] at h
    obtain ⟨t, ht, u, hu, hc⟩ := h
    split at hc <;> (try simp only [Option.map_eq_some_iff, Option.bind_eq_some_iff] at hc)
    · obtain ⟨_, _, hc⟩ := hc; cases hc
    · obtain ⟨_, _, hc⟩ := hc; cases hc
    · obtain ⟨_, _, hc⟩ := hc; cases hc
    · cases hc
    · obtain ⟨u2, _, hc⟩ := hc; split at hc <;> cases hc
    · cases hc
  · rename_i p q
    simp only [Option.bind_eq_some_iff] at h
    obtain ⟨t, ht, tx, htx, u, hu, ux, hux, hc⟩ := h
    split at hc
    · cases hc
    · rename_i el hni
      simp only [Option.bind_eq_some_iff] at hc
      obtain ⟨k, hk, i, hi, hc⟩ := hc
      split at hc
      · rename_i z hz
        split at hc
        · rename_i hcond
          simp only [Option.bind_eq_some_iff, Option.map_eq_some_iff] at hc
          obtain ⟨s', h1, x', h2, hh⟩ := hc
          cases hh
          exact ⟨rfl, _, _, t, tx, el, ux, i, z, rfl, ht, htx, hu, hux, fun d hd => hni d hd, hk, hi, hz, hcond, h1, h2, rfl⟩
        · cases hc
      · cases hc
    · cases hc
  · simp only [Option.bind_eq_some_iff] at h
    obtain ⟨t, ht, u, hu, hc⟩ := h
    split at hc
    · simp only [Option.bind_eq_some_iff] at hc
      obtain ⟨k, hk, i, hi, hc⟩ := hc
      split at hc
      · simp only [Option.bind_eq_some_iff, Option.map_eq_some_iff] at hc
        obtain ⟨_, _, _, _, hc⟩ := hc; cases hc
      · cases hc
    · cases hc
  · simp only [Option.bind_eq_some_iff, Option.map_eq_some_iff] at h
    obtain ⟨_, _, _, _, _, _, _, _, hc⟩ := h; cases hc
  · simp only [Option.bind_eq_some_iff, Option.map_eq_some_iff] at h
    obtain ⟨_, _, _, _, hc⟩ := h; cases hc
  · simp only [Option.bind_eq_some_iff, Option.map_eq_some_iff] at h
    obtain ⟨_, _, _, _, hc⟩ := h; cases hc
  · cases h
def compOp (P : Program) (E : Env0) (o : Oper) : Option AOp :=
  match o.op with
  | .move x | .assign x => match x, o.dst.bind fun d => E.accs.lookup d with
    | .const (.slice none 0 0), some k => some (.acc k (.cst .nil))
    | x, _ => (compO E x).map .move
  | .pick c a b => (compO E c).bind fun c => (compO E a).bind fun a => (compO E b).map fun b => .pick c a b
  | .alloc t => (zeroOf P t).bind fun z => if z.cells.toList.all (·.oneCell') then some (.alloc (z.cells.toList.map .sc)) else none
  | .box _ x => (compO E x).map (boxO (o.dst.bind fun d => E.accs.lookup d))
  | .build t parts => (zeroOf P t).bind fun z => (P.underlying t).bind fun u => match u with
    | .struct fs => if fs.toList.all (fun f => (P.info? f.type).isSome) then (compParts E (fun i => (fs[i]?).bind fun f => (P.info? f.type).map fun i => (f.offset, i.size)) parts.toList).map (.build (z.cells.toList.map .sc)) else none
    | .array _ e => (P.info? e).bind fun i => (compParts E (fun j => some (j * i.size, i.size)) parts.toList).map (.build (z.cells.toList.map .sc))
    | _ => none
  | .buildSlice t len parts => (P.underlying t).bind fun u => match u with
    | .slice e => (kOf P e).bind fun k => (zeroOf P e).bind fun z => (P.info? e).bind fun i => if len * i.size ≤ 16777216 ∧ i.size = kz k ∧ elFits k (cst z) = true then (compEls E parts.toList).map (.buildSlice k (cst z) len) else none
    | _ => none
  | .load t a => (kOf P t).bind fun k => (compO E a).map (.load k)
  | .store t a x => (P.info? t).bind fun i => (compO E a).bind fun a => (compO E x).map fun x => .store i.size a x
  | .nilCheck x => (compO E x).map .nilCheck
  | .binOp op t x y _ => (P.underlying t).bind fun u => if plainU u then (compO E x).bind fun x => (compO E y).map fun y => .bin op x y else match op with
    | .eql => compEq P E false t x y
    | .neq => compEq P E true t x y
    | _ => none
  | .unOp op _ x => (compO E x).map (.un op)
  | .convert s d x => (P.underlying s).bind fun us => (P.underlying d).bind fun ud => match us, ud with
    | .int _, .int k => (compO E x).map (.convInt k)
    | .string, .string => (compO E x).map .convSS
    | .string, .slice e => (P.underlying e).bind fun ue => match ue with | .int .u8 => (compO E x).map .convBytes | _ => none
    | .slice e, .string => (P.underlying e).bind fun ue => match ue with | .int .u8 => (compO E x).map .convStr | _ => none
    | _, _ => none
  | .sliceToArrayPointer t x => (P.underlying t).bind fun u => match u with
    | .array n e => (kOf P e).bind fun k => if k = none then (compO E x).map (.toArr n) else none
    | _ => none
  | .makeFunc fn first caps => (compL E first.toList).bind fun a => (compL E caps.toList).map fun b => .makeFunc fn a b
  | .makeSlice t l c => (P.underlying t).bind fun u => match u with
    | .slice e => (kOf P e).bind fun k => (zeroOf P e).bind fun z => (P.info? e).bind fun i => if z.cells.size = kz k ∧ i.size = kz k ∧ z.cells.toList.all (·.oneCell') = true then (compO E l).bind fun l => (compO E c).map fun c => .makeSlice k (z.cells.toList.map .sc) i.bytes l c else none
    | _ => none
  | .slice t x lo hi mx => (P.underlying t).bind fun u => (compO E x).bind fun x => (compM E lo).bind fun lo => (compM E hi).bind fun hi => (compM E mx).bind fun mx => match u with
    | .string => some (.slice .str none x lo hi mx)
    | .slice e => (kOf P e).bind fun k => (P.info? e).bind fun i => if i.size = kz k then some (.slice .slice k x lo hi mx) else none
    | .array n e => (kOf P e).bind fun k => (P.info? e).bind fun i => if i.size = kz k then some (.slice (.arr n) k x lo hi mx) else none
    | _ => none
  | .fieldAddr t x f => (P.underlying t).bind fun u => match u with
    | .struct fs => (fs[f]?).bind fun f => (P.info? f.type).bind fun i => if i.size = 0 then none else (compO E x).map (.fieldAddr f.offset i.size)
    | _ => none
  | .field t x f => (P.underlying t).bind fun u => match u with
    | .struct fs => (fs[f]?).bind fun f => (kOf P f.type).bind fun k => (compO E x).map (.field k f.offset)
    | _ => none
  | .indexAddr t x ix => (P.underlying t).bind fun u => (compO E x).bind fun x => (compO E ix).bind fun ix => match u with
    | .slice e => (kOf P e).bind fun k => (P.info? e).bind fun i => if i.size = kz k then some (.indexAddr .slice k x ix) else none
    | .array n e => (kOf P e).bind fun k => (P.info? e).bind fun i => if i.size = kz k then some (.indexAddr (.arr n) k x ix) else none
    | _ => none
  | .index t x ix => (P.underlying t).bind fun u => (compO E x).bind fun x => (compO E ix).bind fun ix => match u with
    | .string => some (.indexStr x ix)
    | .array n e => (kOf P e).bind fun k => (P.info? e).bind fun i => if i.size = kz k then some (.index k n x ix) else none
    | _ => none
  | .extract t i => (compO E t).map (.extract · i)
  | .makeMap _ none => some .mkMap
  | .lookup t x k ok => (keyK P t).bind fun (st, ks, et) => (zeroOf P et).bind fun z => (compO E x).bind fun x => (compO E k).map fun k => .lookup st ks (cst z) ok x k
  | .mapUpdate t m k x => (keyK P t).bind fun (st, ks, _) => (compO E m).bind fun m => (compO E k).bind fun k => (compO E x).map fun x => .mapSet st ks m k x
  | .range t x => (P.underlying t).bind fun u => match u with
    | .string => (compO E x).map (.range true)
    | .map _ _ => (compO E x).map (.range false)
    | _ => none
  | .next it str => (compO E it).map (.next str)
  | .call c => match c.callee with
    | .value f => (compO E f).bind fun f => (compL E c.args.toList).map (.call f)
    | .builtin b => (compB P E b c.argTypes c.args.toList).map (vecO (o.dst.bind fun d => E.accs.lookup d))
    | .invoke _ _ => none
  | _ => none
def compG (ops : Array Oper) : Option (Nat × Bool) → Option (Option (Nat × Bool))
  | none => some none
  | some (j, w) => ((ops[j]?).bind (·.dst)).map fun t => some (t, w)
def dstOK (nt : Nat) : Option Nat → Bool
  | some d => decide (d < nt)
  | none => true
def compOper (P : Program) (E : Env0) (ops : Array Oper) (o : Oper) : Option AOper :=
  (compG ops o.guard).bind fun g => if dstOK E.nt o.dst then some ⟨o.dst, (compOp P E o).getD .stuck, g⟩ else none
def compOps (P : Program) (E : Env0) (ops : Array Oper) : List Oper → Option (List AOper)
  | [] => some []
  | o :: r => (compOper P E ops o).bind fun o => (compOps P E ops r).map (o :: ·)
/-- does the last one only read? -/
def endsQ (os : List AOper) : Bool := match os.getLast? with
  | some o => o.op.still || (match o.op with | .load .. | .convStr .. | .call .. => true | _ => false)
  | none => true
def quiT (P : Program) (t : TypeId) : Bool := match P.underlying t with | some (.int _) | some .bool | some .string => true | _ => false
/-- may it stand in a row that only reads? (a call: one that hands back plain values) -/
def quiL (P : Program) (o : Op) : Bool := match o with
  | .load t _ => quiT P t || (match P.cellTypes P.depth t with | some ts => ts.all (quiT P) | none => false)
  | _ => true
def quiB (P : Program) (p : Oper × AOper) : Bool := p.2.op.still || (match p.2.op with
  | .load .. => quiL P p.1.op
  | .convStr _ => true
  | .call (.cst (.func (.func f) _ _)) _ => match P.funcs[f]? with | some fn => !fn.resultTypes.isEmpty && fn.resultTypes.toList.all (quiT P) | none => false
  | _ => false)
def upsOf (ops : Array Oper) : List (List Nat) := (List.range ops.size).map (upB ops)
def stsOf (ops : Array Oper) (os : List AOper) (ups : List (List Nat)) : List (Nat × Nat) := (List.range ops.size).map (stOf ups os ops.size)
/-- the second of the two -/
def bufPair (P : Program) (o1 o2 : Oper) (x1 : AOper) : Option AOper :=
  match o1.op, x1.op, o1.dst, o2.op, o2.dst with
  | .buildSlice t1 _ _, .buildSlice none _ _ _, some d, .convert s t (.tmp d'), some d2 =>
    if d' = d ∧ s = t ∧ t1 = t ∧ o1.guard = none ∧ o2.guard = none then (P.underlying t).bind fun u => match u with
      | .slice e => (P.underlying e).bind fun ue => match ue with
        | .int .u8 => some ⟨some d2, .move (.tmp d), none⟩
        | _ => none
      | _ => none
    else none
  | _, _, _, _, _ => none
def fixB (P : Program) : List Oper → List AOper → List AOper
  | o1 :: o2 :: l, x1 :: x2 :: s => match bufPair P o1 o2 x1 with
    | some m => x1 :: m :: fixB P l s
    | none => x1 :: fixB P (o2 :: l) (x2 :: s)
  | _, s => s
def quiM (E : Env0) (d : Nat) : Bool := E.accs.lookup d == some (some 0)
def quiV (E : Env0) (d : Nat) : Bool := E.accs.lookup d == some (some 1)
def compC (P : Program) (E : Env0) : Code → List (List Nat × Bool) → Option (AC × List (List Nat × Bool))
  | .skip, l => some (.skip, l)
  | .label _, l => some (.skip, l)
  | .region _ ops draw, l => (compOps P E ops ops.toList).bind fun os => if draw then
      (if endsQ os = true ∧ Region.lexB .any ops = true ∧ (((ops.toList.zip os).all fun o => quiB P o)) = true then some (.regQ os, l)
      else if lastB ops = true ∧ (((ops.toList.zip os).take (ops.size - 1)).all fun o => quiB P o) = true then some (.seq (.regQ (os.take (ops.size - 1))) (.reg (os.drop (ops.size - 1))), l)
      else if okU ops os (upsOf ops) (stsOf ops os (upsOf ops)) = true then some (.regD os (stsOf ops os (upsOf ops)), l)
      else if okU ops (os.map (toQ (quiM E))) (upsOf ops) (stsOf ops (os.map (toQ (quiM E))) (upsOf ops)) = true then some (.regD (os.map (toQ (quiM E))) (stsOf ops (os.map (toQ (quiM E))) (upsOf ops)), l)
      else some (.reg [⟨none, .stuck, none⟩], l)) else some (.reg (fixB P ops.toList (os.map (toV (quiV E)))), l)
  | .seq a b, l => (compC P E a l).bind fun (a, l) => (compC P E b l).map fun (b, l) => (.seq a b, l)
  | .cond c a b, l => (compO E c).bind fun c => (compC P E a l).bind fun (a, l) => (compC P E b l).map fun (b, l) => (.cond c a b, l)
  | .block id b, l => (compC P E b l).map fun (b, l) => (.block id b, l)
  | .loop b, l => match l with | [] => none | (keep, gc) :: l => (compC P E b l).map fun (b, l) => (.loop keep gc b, l)
  | .exit id, l => some (.exit id, l)
  | .scope b, l => (compC P E b l).map fun (b, l) => (.scope b, l)
  | .ret, l => some (.ret, l)
  | _, _ => none
def compR (P : Program) : List ResultVar → Option (List ARes)
  | [] => some []
  | .tmp t :: r => (compR P r).map (.tmp t :: ·)
  | .cell t ty :: r => (kOf P ty).bind fun k => (compR P r).map (.cell t k :: ·)
/-- the plain machine's text of a function; its loops' live slots, the slots that gather and what is pure are said from outside -/
def compF (P : Program) (gl : Nat → Option (List Value)) (pure : Bool) (accs : List (Nat × Option Nat)) (keeps : List (List Nat × Bool)) (fn : Func) : Option AFn :=
  fn.body.bind fun c => (compC P ⟨gl, fn.ntmps, accs⟩ c keeps).bind fun (b, l) => (compR P fn.results.toList).bind fun rs =>
    if fn.name = "runtime.NumGoroutine" then none else if fn.params.size + fn.nfree ≤ fn.ntmps then some ⟨fn.ntmps, pure, fn.params.size + fn.nfree, rs, b⟩ else none
end Go.Proofs.Ytipbmacpenmgoaa.AM

/- Each operation of the model does what the plain machine's does: those that touch no memory. -/
namespace Go.Proofs.Ytipbmacpenmgoaa.AM
open Go Go.RowKit
set_option linter.unusedVariables false
set_option linter.unusedSimpArgs false
structure EnvR (S : St) (e : Env) (a : Act) (nt : Nat) : Prop where
  size : a.tmps.size = nt
  get : ∀ t, V S (getE e t) (a.tmps.getD t Go.undef)
theorem EnvR.mono {S S' e a nt} (x : Ext S S') (h : EnvR S e a nt) : EnvR S' e a nt := ⟨h.size, fun t => V.mono x _ (h.get t)⟩
theorem EnvR.put {S e a nt} (h : EnvR S e a nt) {d : Option Nat} (hd : ∀ t, d = some t → t < nt) {v : AV} {u : Value} (hv : V S v u) : EnvR S (setE e d v) (a.put d u) nt := by
  cases d with
  | none => exact h
  | some t =>
    refine ⟨by simp [Act.put, h.size], fun i => ?_⟩
    have ht := hd t rfl
    simp only [setE, getE, Act.put]
    by_cases hi : t = i
    · subst hi
      rw [if_pos rfl]
      rw [show (a.tmps.setIfInBounds t u).getD t Go.undef = u by simp [Array.getD_eq_getD_getElem?, Array.getElem?_setIfInBounds, h.size, ht]]
      exact hv
    · rw [if_neg hi]
      rw [show (a.tmps.setIfInBounds t u).getD i Go.undef = a.tmps.getD i Go.undef by simp [Array.getD_eq_getD_getElem?, Array.getElem?_setIfInBounds, hi]]
      exact h.get i
/-- the laid globals lie where they stay -/
def GlobOK (gl : Nat → Option (List Value)) (imm : Imm) : Prop := ∀ g l, gl g = some l → ∀ (j : Nat) (v : Value), l[j]? = some v → imm g j = some v
theorem GlobOK.mono {gl : Nat → Option (List Value)} {S S' : St} (h : GlobOK gl S.imm) (e : Ext S S') : GlobOK gl S'.imm := fun g l hg j v hv => e.imm _ _ _ (h g l hg j v hv)
theorem V_sc {S : St} (v : Value) : V S (.sc v) v := by simp only [V]
theorem VL_map_sc {S : St} : ∀ (l : List Value), VL S (l.map .sc) l
  | [] => by simp [VL]
  | v :: r => by simp only [List.map_cons, VL]; exact ⟨v, r, rfl, V_sc v, VL_map_sc r⟩
theorem cst_V {S : St} (v : Value) : V S (cst v) v := by
  cases v <;> simp only [cst, V]
  case agg cs => exact ⟨cs, rfl, VL_map_sc _⟩
theorem evO_V {S : St} {e : Env} {a : Act} {E : Env0} (h : EnvR S e a E.nt) (hg : GlobOK E.gl S.imm) {x : Operand} {y : Opd} (hc : compO E x = some y) : V S (evO e y) (a.eval x) := by
  cases x <;> simp only [compO] at hc
  case tmp t => cases hc; exact h.get t
  case const v => cases hc; exact cst_V v
  case func f => cases hc; simp only [evO, V, Act.eval]; exact ⟨#[], #[], rfl, by simp [VL], by simp [VL]⟩
  case global g =>
    cases hgl : E.gl g with
    | none => rw [hgl] at hc; cases hc
    | some l =>
      rw [hgl] at hc
      cases hc
      simp only [evO, V, Act.eval]
      refine ⟨g, 0, rfl, VM.mk fun i y hy => ?_⟩
      rw [List.getElem?_map] at hy
      cases hl : l[i]? with
      | none => rw [hl] at hy; cases hy
      | some v =>
        rw [hl] at hy
        cases hy
        exact ⟨v, by rw [Nat.zero_add]; exact hg g l hgl i v hl, V_sc v⟩
theorem evL_V {S : St} {e : Env} {a : Act} {E : Env0} (h : EnvR S e a E.nt) (hg : GlobOK E.gl S.imm) : ∀ {x : List Operand} {y : List Opd}, compL E x = some y → VL S (evL e y) (x.map a.eval)
  | [], y, hc => by simp only [compL] at hc; cases hc; simp [evL, VL]
  | x :: r, y, hc => by
    simp only [compL, Option.bind_eq_some_iff, Option.map_eq_some_iff] at hc
    obtain ⟨x', h1, r', h2, rfl⟩ := hc
    simp only [evL, List.map_cons, VL]
    exact ⟨_, _, rfl, evO_V h hg h1, evL_V h hg h2⟩
/-- what one operation comes to -/
def ExOK (P : Program) (o : Oper) (a : Act) (S : St) (h' : Heap) (v : AV) (B : Nat) (W : World) : Prop :=
  ∃ n u W' S', (execOp a.eval o).run P W = .ok n W' ∧ (n = .value u ∨ (n = .skip ∧ u = Go.undef)) ∧ Ext S S' ∧ Rel S' h' B W' ∧ V S' v u ∧ Below B W W'
theorem ExOK.same {P : Program} {o : Oper} {a : Act} {S : St} {h : Heap} {v : AV} {B : Nat} {W : World} {u : Value} (r : Rel S h B W) (hr : (execOp a.eval o).run P W = .ok (.value u) W) (hv : V S v u) : ExOK P o a S h v B W :=
  ⟨_, u, W, S, hr, .inl rfl, Ext.refl S, r, hv, Below.refl B W⟩
/-- an operation that touches no memory -/
def ExS (P : Program) (o : Oper) (a : Act) (S : St) (v : AV) : Prop := ∃ u, V S v u ∧ ∀ W, (execOp a.eval o).run P W = .ok (.value u) W
theorem ExS.mk {P : Program} {o : Oper} {a : Act} {S : St} {v : AV} {u : Value} (hr : ∀ W, (execOp a.eval o).run P W = .ok (.value u) W) (hv : V S v u) : ExS P o a S v := ⟨u, hv, hr⟩
theorem ExS.ok {P : Program} {o : Oper} {a : Act} {S : St} {h h' : Heap} {v : AV} {B : Nat} {W : World} (he : h' = h ∧ ExS P o a S v) (r : Rel S h B W) : ExOK P o a S h' v B W := by
  obtain ⟨rfl, u, hv, hr⟩ := he
  exact .same r (hr W) hv
theorem run_typeInfo {P : Program} {t : TypeId} {i : TypeInfo} (h : P.info? t = some i) (W : World) : (typeInfo t).run P W = .ok i W := by simp [typeInfo, h]
theorem run_underlying' {P : Program} {t : TypeId} {d : TypeDesc} (h : P.underlying t = some d) (W : World) : (underlying t).run P W = .ok d W := by simp [underlying, h]
theorem run_sizeOf' {P : Program} {t : TypeId} {i : TypeInfo} (h : P.info? t = some i) (W : World) : (Go.sizeOf t).run P W = .ok i.size W := by simp [Go.sizeOf, run_typeInfo h]
theorem run_zero' {P : Program} {t : TypeId} {z : Value} (h : zeroOf P t = some z) (W : World) : (zeroValue t).run P W = .ok z W := by
  simp only [zeroOf, Option.bind_eq_some_iff] at h
  obtain ⟨i, h1, h2⟩ := h
  simp [zeroValue, run_typeInfo h1, h2]
theorem eval_sc {S : St} {e : Env} {y : Opd} {u v : Value} (h : V S (evO e y) u) (hy : evO e y = .sc v) : u = v := by rw [hy] at h; simpa only [V] using h
section
variable {P : Program} {E : Env0} {o : Oper} {C : Cl} {e : Env} {h h' : Heap} {v : AV} {S : St} {B : Nat} {W : World} {a : Act}
theorem ex_move {x : Operand} (hop : o.op = .move x ∨ o.op = .assign x) {y : Opd} (hc : compO E x = some y) (r : Rel S h B W) (he : EnvR S e a E.nt) (hg : GlobOK E.gl S.imm) : ExS P o a S (evO e y) :=
  .mk (u := a.eval x) (fun W => by rcases hop with hop | hop <;> simp [execOp, hop]) (evO_V he hg hc)
theorem ex_pick {c x y : Operand} (hop : o.op = .pick c x y) {c' x' y' : Opd} (h1 : compO E c = some c') (h2 : compO E x = some x') (h3 : compO E y = some y') (hx : aop C (.pick c' x' y') e h = some (v, h')) (r : Rel S h B W) (he : EnvR S e a E.nt) (hg : GlobOK E.gl S.imm) : h' = h ∧ ExS P o a S v := by
  simp only [aop] at hx
  split at hx
  · rename_i t ht
    cases hx
    have hb := eval_sc (evO_V he hg h1) ht
    refine ⟨rfl, .mk (u := if t then a.eval x else a.eval y) (fun W => ?_) (by cases t <;> simp [evO_V he hg h2, evO_V he hg h3])⟩
    simp [execOp, hop, hb, asBool]
  · cases hx
theorem abin_run {op : BinOp} {p q w : Value} (hb : abin op p q = some w) (t : TypeId) : (binOp op t p q).run P W = .ok w W := by
  unfold abin at hb
  split at hb
  · rename_i k x k' y
    split at hb
    · simp only [ashift] at hb
      split at hb
      · cases hb
      · rename_i hy; cases hb; simp [binOp, Op.shift, hy]
    · simp only [ashift] at hb
      split at hb
      · cases hb
      · rename_i hy; cases hb; simp [binOp, Op.shift, hy]
    · rename_i hn1 hn2
      split at hb
      · rename_i hk
        subst hk
        cases op <;> simp only [aint, abit, Option.map_some] at hb <;> first
          | (cases hb; simp [binOp, Op.intArith, Op.intBits, Op.intCmp]; done)
          | (split at hb <;> first | (cases hb; done) | (rename_i hy; cases hb; simp [binOp, Op.intDiv, hy]; done))
          | (exact absurd rfl hn1)
          | (exact absurd rfl hn2)
      · cases hb
  · rename_i x y
    have hm : IntKind.i64.max = 9223372036854775807 := by decide
    cases op <;> simp only [astr] at hb
    case add =>
      split at hb
      · rename_i hs
        cases hb
        have : ¬ (IntKind.i64.max < ((x.size : Int) + y.size)) := by rw [hm]; omega
        simp [binOp, Op.stringOp, this]
        omega
      · cases hb
    all_goals first
      | (cases hb; simp [binOp, Op.stringOp]; done)
      | (cases hb; done)
  · cases hb
theorem eqGuard_run {op : BinOp} {t : TypeId} {x y : Operand} {p q : Value} (hp : p ≠ .nilIface) (ha : ∀ c, p ≠ .agg c) : (eqGuard op t x y p q).run P W = .ok () W := by
  cases op <;> cases p <;> first | (exact absurd rfl hp) | (exact absurd rfl (ha _)) | rfl
theorem ex_bin {op : BinOp} {t ty : TypeId} {x y : Operand} (hop : o.op = .binOp op t x y ty) {x' y' : Opd} (h1 : compO E x = some x') (h2 : compO E y = some y') (hx : aop C (.bin op x' y') e h = some (v, h')) (r : Rel S h B W) (he : EnvR S e a E.nt) (hg : GlobOK E.gl S.imm) : h' = h ∧ ExS P o a S v := by
  simp only [aop] at hx
  split at hx
  · rename_i p q hp hq
    simp only [Option.map_eq_some_iff, Prod.mk.injEq] at hx
    obtain ⟨w, hb, rfl, rfl⟩ := hx
    have e1 := eval_sc (evO_V he hg h1) hp
    have e2 := eval_sc (evO_V he hg h2) hq
    refine ⟨rfl, .mk (u := w) (fun W => ?_) (V_sc w)⟩
    have hne : p ≠ .nilIface ∧ ∀ c, p ≠ .agg c := by constructor <;> (intros; rintro rfl; simp [abin] at hb)
    simp only [execOp, hop, e1, e2, Sem.run_bind, eqGuard_run hne.1 hne.2, Result.andThen_ok, abin_run hb t, Sem.run_pure]
  · cases hx
theorem ex_eqBool {op : BinOp} {t ty : TypeId} {x y : Operand} (hop : o.op = .binOp op t x y ty) (ht : P.underlying t = some .bool) {neg : Bool} (hneg : (op = .eql ∧ neg = false) ∨ (op = .neq ∧ neg = true)) {x' y' : Opd} (h1 : compO E x = some x') (h2 : compO E y = some y') (hx : aop C (.eqBool neg x' y') e h = some (v, h')) (r : Rel S h B W) (he : EnvR S e a E.nt) (hg : GlobOK E.gl S.imm) : h' = h ∧ ExS P o a S v := by
  simp only [aop] at hx
  split at hx
  · rename_i p q hp hq
    cases hx
    have e1 := eval_sc (evO_V he hg h1) hp
    have e2 := eval_sc (evO_V he hg h2) hq
    refine ⟨rfl, .mk (u := .bool ((p == q) != neg)) (fun W => ?_) (V_sc _)⟩
    rcases hneg with ⟨rfl, rfl⟩ | ⟨rfl, rfl⟩
    · simp [execOp, hop, e1, e2, eqGuard_run, run_eql_bool W t _ _ ht]
    · simp [execOp, hop, e1, e2, eqGuard_run, run_neq_bool W t _ _ ht]
  · cases hx
theorem part_one {e : TypeId} {d : IntKind} (hu : P.underlying e = some (.int d)) {xs : Array Value} {i : Nat} {w : Value} (hx : xs[i]? = some w) : (part e xs i).run P W = .ok w W := by
  unfold part isAgg
  simp [run_underlying' hu, hx]
theorem eqCells_run {e : TypeId} {d : IntKind} (hu : P.underlying e = some (.int d)) {xs ys : Array Value} : ∀ (x y : List AV) (n0 : Nat) {r : Bool}, eqCells x y = some r → VL S x (xs.toList.drop n0) → VL S y (ys.toList.drop n0) → ∀ D, (Op.eqItems (D + 1) e 1 xs ys (List.range' n0 x.length)).run P W = .ok r W
  | [], [], n0, r, hr, hx, hy, D => by simp only [eqCells] at hr; cases hr; simp [Op.eqItems]
  | [], _ :: _, n0, r, hr, hx, hy, D => by simp [eqCells] at hr
  | .sc (.int k p) :: x, y, n0, r, hr, hx, hy, D => by
    cases y with
    | nil => simp [eqCells] at hr
    | cons y0 y =>
      unfold eqCells at hr
      split at hr
      · rename_i heq _; cases heq
      · rename_i k1 p1 x1 k2 q y1 heq1 heq2
        cases heq1
        cases heq2
        split at hr
        · rename_i hk
          subst hk
          simp only [Option.map_eq_some_iff] at hr
          obtain ⟨r', hr', rfl⟩ := hr
          simp only [VL] at hx hy
          obtain ⟨u, us, hx1, hx2, hx3⟩ := hx
          obtain ⟨w, ws, hy1, hy2, hy3⟩ := hy
          simp only [V] at hx2 hy2
          subst hx2
          subst hy2
          have gx : xs[n0]? = some (.int k p) := by have := congrArg (·[0]?) hx1; simpa using this
          have gy : ys[n0]? = some (.int k q) := by have := congrArg (·[0]?) hy1; simpa using this
          have dx : xs.toList.drop (n0 + 1) = us := by have := congrArg (List.drop 1) hx1; simpa [List.drop_drop] using this
          have dy : ys.toList.drop (n0 + 1) = ws := by have := congrArg (List.drop 1) hy1; simpa [List.drop_drop] using this
          have ih := eqCells_run hu x y (n0 + 1) hr' (by rw [dx]; exact hx3) (by rw [dy]; exact hy3) D
          simp only [List.length_cons, List.range'_succ, Op.eqItems, Nat.mul_one, Sem.run_bind, part_one hu gx, part_one hu gy, Result.andThen_ok]
          have he1 : (Op.equalIn (D + 1) e (.int k p) (.int k q)).run P W = .ok (p == q) W := by
            simp [Op.equalIn, run_underlying' hu]
          rw [he1]
          by_cases hpq : p = q
          · subst hpq; simpa using ih
          · have : (p == q) = false := by simpa using hpq
            simp [this]
        · cases hr
      · rename_i hno; cases hr
  | .sc (.bool _) :: x, y, n0, r, hr, hx, hy, D => by simp [eqCells] at hr
  | .sc (.float _ _) :: x, y, n0, r, hr, hx, hy, D => by simp [eqCells] at hr
  | .sc (.complex _ _ _) :: x, y, n0, r, hr, hx, hy, D => by simp [eqCells] at hr
  | .sc (.string _) :: x, y, n0, r, hr, hx, hy, D => by simp [eqCells] at hr
  | .sc (.pointer _) :: x, y, n0, r, hr, hx, hy, D => by simp [eqCells] at hr
  | .sc (.slice _ _ _) :: x, y, n0, r, hr, hx, hy, D => by simp [eqCells] at hr
  | .sc (.map _) :: x, y, n0, r, hr, hx, hy, D => by simp [eqCells] at hr
  | .sc (.chan _) :: x, y, n0, r, hr, hx, hy, D => by simp [eqCells] at hr
  | .sc (.func _ _ _) :: x, y, n0, r, hr, hx, hy, D => by simp [eqCells] at hr
  | .sc .nilFunc :: x, y, n0, r, hr, hx, hy, D => by simp [eqCells] at hr
  | .sc (.iface _ _) :: x, y, n0, r, hr, hx, hy, D => by simp [eqCells] at hr
  | .sc .nilIface :: x, y, n0, r, hr, hx, hy, D => by simp [eqCells] at hr
  | .sc (.agg _) :: x, y, n0, r, hr, hx, hy, D => by simp [eqCells] at hr
  | .sc (.tuple _) :: x, y, n0, r, hr, hx, hy, D => by simp [eqCells] at hr
  | .unk :: x, y, n0, r, hr, hx, hy, D => by simp [eqCells] at hr
  | .ptr .. :: x, y, n0, r, hr, hx, hy, D => by simp [eqCells] at hr
  | .ref _ :: x, y, n0, r, hr, hx, hy, D => by simp [eqCells] at hr
  | .slice .. :: x, y, n0, r, hr, hx, hy, D => by simp [eqCells] at hr
  | .ms .. :: x, y, n0, r, hr, hx, hy, D => by simp [eqCells] at hr
  | .func .. :: x, y, n0, r, hr, hx, hy, D => by simp [eqCells] at hr
  | .agg _ :: x, y, n0, r, hr, hx, hy, D => by simp [eqCells] at hr
  | .tup _ :: x, y, n0, r, hr, hx, hy, D => by simp [eqCells] at hr
  | .map _ :: x, y, n0, r, hr, hx, hy, D => by simp [eqCells] at hr
theorem ex_eqArr {op : BinOp} {t ty el : TypeId} {n : Nat} {d : IntKind} {i : TypeInfo} {x y : Operand} (hop : o.op = .binOp op t x y ty) (ht : P.underlying t = some (.array n el)) (hu : P.underlying el = some (.int d)) (hi : P.info? el = some i) (hs : i.size = 1) (hG : P.eqGuardType P.depth t = false) {neg : Bool} (hneg : (op = .eql ∧ neg = false) ∨ (op = .neq ∧ neg = true)) {x' y' : Opd} (h1 : compO E x = some x') (h2 : compO E y = some y') (hx : aop C (.eqArr neg n x' y') e h = some (v, h')) (r : Rel S h B W) (he : EnvR S e a E.nt) (hg : GlobOK E.gl S.imm) : h' = h ∧ ExS P o a S v := by
  simp only [aop] at hx
  split at hx
  · rename_i p q hp hq
    split at hx
    · rename_i hn
      simp only [Option.map_eq_some_iff, Prod.mk.injEq] at hx
      obtain ⟨w, hb, rfl, rfl⟩ := hx
      have v1 := evO_V he hg h1
      have v2 := evO_V he hg h2
      rw [hp] at v1
      rw [hq] at v2
      simp only [V] at v1 v2
      obtain ⟨xs, e1, g1⟩ := v1
      obtain ⟨ys, e2, g2⟩ := v2
      have key := fun W => eqCells_run (P := P) (W := W) hu p q 0 hb (by simpa using g1) (by simpa using g2) 9998
      rw [hn, ← List.range_eq_range'] at key
      have hc : P.cellsOf el = 1 := by simp [Program.cellsOf, hi, hs]
      have harr := fun W => run_equalIn_array (P := P) (w := W) 9999 xs ys ht hi
      simp only [hc, key] at harr
      refine ⟨rfl, .mk (u := .bool (w != neg)) (fun W => ?_) (V_sc _)⟩
      rcases hneg with ⟨rfl, rfl⟩ | ⟨rfl, rfl⟩
      · simp [execOp, hop, e1, e2, run_eqGuard_agg W _ _ _ _ _ _ hG, run_eql_struct, harr]
      · simp [execOp, hop, e1, e2, run_eqGuard_agg W _ _ _ _ _ _ hG, run_neq_struct, harr]
    · cases hx
  · cases hx
theorem ex_eqAgg {op : BinOp} {t ty : TypeId} {fs : Array Field} {ks : List LK} {x y : Operand} (hop : o.op = .binOp op t x y ty) (ht : P.underlying t = some (.struct fs)) (hl : leaves P 12 t = some ks) (hG : P.eqGuardType P.depth t = false) {neg : Bool} (hneg : (op = .eql ∧ neg = false) ∨ (op = .neq ∧ neg = true)) {x' y' : Opd} (h1 : compO E x = some x') (h2 : compO E y = some y') (hx : aop C (.eqAgg neg ks x' y') e h = some (v, h')) (r : Rel S h B W) (he : EnvR S e a E.nt) (hg : GlobOK E.gl S.imm) : h' = h ∧ ExS P o a S v := by
  simp only [aop] at hx
  split at hx
  · rename_i p q hp hq
    simp only [Option.map_eq_some_iff, Prod.mk.injEq] at hx
    obtain ⟨w, hb, rfl, rfl⟩ := hx
    have v1 := evO_V he hg h1
    have v2 := evO_V he hg h2
    rw [hp] at v1
    rw [hq] at v2
    simp only [V] at v1 v2
    obtain ⟨xs, e1, g1⟩ := v1
    obtain ⟨ys, e2, g2⟩ := v2
    have key := fun W => eqT_of (P := P) 9988 12 t ks hl W xs.toList ys.toList w (eqAV_V hb g1 g2)
    simp only [mkV, ht] at key
    have hmx : xs.toList.toArray = xs := by simp
    have hmy : ys.toList.toArray = ys := by simp
    rw [hmx, hmy] at key
    refine ⟨rfl, .mk (u := .bool (w != neg)) (fun W => ?_) (V_sc _)⟩
    rcases hneg with ⟨rfl, rfl⟩ | ⟨rfl, rfl⟩
    · simp [execOp, hop, e1, e2, run_eqGuard_agg W _ _ _ _ _ _ hG, run_eql_struct, key]
    · simp [execOp, hop, e1, e2, run_eqGuard_agg W _ _ _ _ _ _ hG, run_neq_struct, key]
  · cases hx
end
end Go.Proofs.Ytipbmacpenmgoaa.AM

/- Each operation of the model does what the plain machine's does: addresses, slices, parts. -/
namespace Go.Proofs.Ytipbmacpenmgoaa.AM
open Go Go.RowKit
set_option linter.unusedVariables false
set_option linter.unusedSimpArgs false
theorem add_at (b o n : Nat) : (⟨b, o, none⟩ : Addr).add n = ⟨b, o + n, none⟩ := by unfold Addr.add; split <;> simp_all
def NilShape : NK → Bool → Value → Prop
  | .ptr, true, p => p = .pointer none
  | .ptr, false, p => ∃ a, p = .pointer (some a)
  | .slice, true, p => ∃ l c, p = .slice none l c
  | .slice, false, p => ∃ a l c, p = .slice (some a) l c
  | .map, true, p => p = .map none
  | .map, false, p => ∃ a, p = .map (some a)
  | .func, true, p => p = .nilFunc
  | .func, false, p => ∃ f x y, p = .func f x y
theorem nilShape {S : St} {k : NK} {x : AV} {r : Bool} {p : Value} (hr : isNil k x = some r) (hv : V S x p) : NilShape k r p := by
  unfold isNil at hr
  split at hr <;> cases hr <;> simp only [V] at hv <;> simp only [NilShape]
  · exact hv
  · obtain ⟨b, _, h2⟩ := hv; exact ⟨_, h2⟩
  · obtain ⟨b, o, h2, _⟩ := hv; exact ⟨_, h2⟩
  · exact ⟨_, _, hv⟩
  · exact ⟨_, _, _, hv⟩
  · obtain ⟨ao, cap, h1, _, _, h4⟩ := hv
    rcases h4 with h4 | ⟨b, o, h4, _⟩
    · cases h4
    · subst h4; exact ⟨_, _, _, h1⟩
  · obtain ⟨b, n, cap, _, _, _, _, h5⟩ := hv; exact ⟨_, _, _, h5⟩
  · exact hv
  · obtain ⟨b, _, h2⟩ := hv; exact ⟨_, h2⟩
  · exact hv
  · obtain ⟨x', y', h1, _⟩ := hv; exact ⟨_, _, _, h1⟩
section
variable {P : Program} {E : Env0} {o : Oper} {C : Cl} {e : Env} {h h' : Heap} {v : AV} {S : St} {B : Nat} {W : World} {a : Act}
theorem nil_runD (d : Nat) {k : NK} {u : TypeDesc} {t : TypeId} (ht : P.underlying t = some u) (hk : nilK u = some k) {r : Bool} {p q : Value} (hp : NilShape k r p) (hq : NilShape k true q) :
    (Op.equalIn (d + 1) t p q).run P W = .ok r W ∧ (Op.equalIn (d + 1) t q p).run P W = .ok r W := by
  have hu := fun w => run_underlying' ht w
  cases u <;> simp only [nilK] at hk <;> cases hk <;> cases r <;> simp only [NilShape] at hp hq
  · obtain ⟨b, rfl⟩ := hp; subst hq; constructor <;> simp [Op.equalIn, hu]
  · subst hp; subst hq; constructor <;> simp [Op.equalIn, hu]
  · obtain ⟨b, l, c, rfl⟩ := hp; obtain ⟨l', c', rfl⟩ := hq; constructor <;> simp [Op.equalIn, hu]
  · obtain ⟨l, c, rfl⟩ := hp; obtain ⟨l', c', rfl⟩ := hq; constructor <;> simp [Op.equalIn, hu]
  · obtain ⟨b, rfl⟩ := hp; subst hq; constructor <;> simp [Op.equalIn, hu]
  · subst hp; subst hq; constructor <;> simp [Op.equalIn, hu]
  · obtain ⟨f, x, y, rfl⟩ := hp; subst hq; constructor <;> simp [Op.equalIn, hu]
  · subst hp; subst hq; constructor <;> simp [Op.equalIn, hu]
theorem nil_run {k : NK} {u : TypeDesc} {t : TypeId} (ht : P.underlying t = some u) (hk : nilK u = some k) {r : Bool} {p q : Value} (hp : NilShape k r p) (hq : NilShape k true q) :
    (Op.equal t p q).run P W = .ok r W ∧ (Op.equal t q p).run P W = .ok r W := nil_runD 9999 ht hk hp hq
theorem nil_bin {k : NK} {r : Bool} {p q : Value} (hp : NilShape k r p) (hq : NilShape k true q) (t : TypeId) :
    binOp .eql t p q = (do pure (.bool (← Op.equal t p q))) ∧ binOp .neq t p q = (do pure (.bool (!(← Op.equal t p q)))) ∧ binOp .eql t q p = (do pure (.bool (← Op.equal t q p))) ∧ binOp .neq t q p = (do pure (.bool (!(← Op.equal t q p)))) := by
  cases k <;> cases r <;> simp only [NilShape] at hp hq
  · obtain ⟨b, rfl⟩ := hp; subst hq; exact ⟨rfl, rfl, rfl, rfl⟩
  · subst hp; subst hq; exact ⟨rfl, rfl, rfl, rfl⟩
  · obtain ⟨b, l, c, rfl⟩ := hp; obtain ⟨l', c', rfl⟩ := hq; exact ⟨rfl, rfl, rfl, rfl⟩
  · obtain ⟨l, c, rfl⟩ := hp; obtain ⟨l', c', rfl⟩ := hq; exact ⟨rfl, rfl, rfl, rfl⟩
  · obtain ⟨b, rfl⟩ := hp; subst hq; exact ⟨rfl, rfl, rfl, rfl⟩
  · subst hp; subst hq; exact ⟨rfl, rfl, rfl, rfl⟩
  · obtain ⟨f, x, y, rfl⟩ := hp; subst hq; exact ⟨rfl, rfl, rfl, rfl⟩
  · subst hp; subst hq; exact ⟨rfl, rfl, rfl, rfl⟩
theorem nil_ne {k : NK} {r : Bool} {p : Value} (hp : NilShape k r p) : p ≠ .nilIface ∧ ∀ c, p ≠ .agg c := by
  cases k <;> cases r <;> simp only [NilShape] at hp
  · obtain ⟨b, rfl⟩ := hp; constructor <;> intros <;> intro hh <;> cases hh
  · subst hp; constructor <;> intros <;> intro hh <;> cases hh
  · obtain ⟨b, l, c, rfl⟩ := hp; constructor <;> intros <;> intro hh <;> cases hh
  · obtain ⟨l, c, rfl⟩ := hp; constructor <;> intros <;> intro hh <;> cases hh
  · obtain ⟨b, rfl⟩ := hp; constructor <;> intros <;> intro hh <;> cases hh
  · subst hp; constructor <;> intros <;> intro hh <;> cases hh
  · obtain ⟨f, x, y, rfl⟩ := hp; constructor <;> intros <;> intro hh <;> cases hh
  · subst hp; constructor <;> intros <;> intro hh <;> cases hh
theorem nilC_shape {k : NK} {y : Operand} (hy : isNilC k y = true) : NilShape k true (a.eval y) := by
  unfold isNilC at hy
  split at hy
  · rfl
  · rfl
  · rfl
  · exact ⟨0, 0, rfl⟩
  · cases hy
theorem ex_eqNil {op : BinOp} {t ty : TypeId} {x y : Operand} (hop : o.op = .binOp op t x y ty) {u : TypeDesc} (ht : P.underlying t = some u) {k : NK} (hk : nilK u = some k) {neg : Bool} (hneg : (op = .eql ∧ neg = false) ∨ (op = .neq ∧ neg = true)) {z : Operand} (hz : (isNilC k y = true ∧ z = x) ∨ (isNilC k x = true ∧ z = y)) {z' : Opd} (h1 : compO E z = some z') (hx : aop C (.eqNil neg k z') e h = some (v, h')) (r : Rel S h B W) (he : EnvR S e a E.nt) (hg : GlobOK E.gl S.imm) : h' = h ∧ ExS P o a S v := by
  simp only [aop, Option.map_eq_some_iff, Prod.mk.injEq] at hx
  obtain ⟨w, hb, rfl, rfl⟩ := hx
  have hp := nilShape hb (evO_V he hg h1)
  have hnp := nil_ne hp
  refine ⟨rfl, .mk (u := .bool (w != neg)) (fun W => ?_) (V_sc _)⟩
  rcases hz with ⟨hq, rfl⟩ | ⟨hq, rfl⟩
  · have hq := nilC_shape (a := a) hq
    have hnq := nil_ne hq
    have rr := fun W => nil_run (W := W) ht hk hp hq
    obtain ⟨b1, b2, _, _⟩ := nil_bin hp hq t
    rcases hneg with ⟨rfl, rfl⟩ | ⟨rfl, rfl⟩
    · simp only [execOp, hop, Sem.run_bind, eqGuard_run hnp.1 hnp.2, Result.andThen_ok, b1, (rr W).1, Sem.run_pure]; simp
    · simp only [execOp, hop, Sem.run_bind, eqGuard_run hnp.1 hnp.2, Result.andThen_ok, b2, (rr W).1, Sem.run_pure]; simp
  · have hq := nilC_shape (a := a) hq
    have hnq := nil_ne hq
    have rr := fun W => nil_run (W := W) ht hk hp hq
    obtain ⟨_, _, b1, b2⟩ := nil_bin hp hq t
    rcases hneg with ⟨rfl, rfl⟩ | ⟨rfl, rfl⟩
    · simp only [execOp, hop, Sem.run_bind, eqGuard_run hnq.1 hnq.2, Result.andThen_ok, b1, (rr W).2, Sem.run_pure]; simp
    · simp only [execOp, hop, Sem.run_bind, eqGuard_run hnq.1 hnq.2, Result.andThen_ok, b2, (rr W).2, Sem.run_pure]; simp
theorem ex_un {op : UnOp} {t : TypeId} {x : Operand} (hop : o.op = .unOp op t x) {x' : Opd} (h1 : compO E x = some x') (hx : aop C (.un op x') e h = some (v, h')) (r : Rel S h B W) (he : EnvR S e a E.nt) (hg : GlobOK E.gl S.imm) : h' = h ∧ ExS P o a S v := by
  simp only [aop] at hx
  split at hx
  · rename_i p hp
    simp only [Option.map_eq_some_iff, Prod.mk.injEq] at hx
    obtain ⟨w, hb, rfl, rfl⟩ := hx
    have e1 := eval_sc (evO_V he hg h1) hp
    refine ⟨rfl, .mk (u := w) (fun W => ?_) (V_sc w)⟩
    simp only [execOp, hop, e1]
    unfold aun at hb
    split at hb
    · split at hb
      · cases hb; simp [Op.unary, Op.intArith]
      · simp only [abit, Option.map_some] at hb; cases hb; simp [Op.unary, Op.intBits]
      · cases hb
    · split at hb
      · cases hb; simp [Op.unary]
      · cases hb
    · cases hb
  · cases hx
theorem ex_convInt {s d : TypeId} {x : Operand} (hop : o.op = .convert s d x) {k0 k : IntKind} (hs : P.underlying s = some (.int k0)) (hd : P.underlying d = some (.int k)) {x' : Opd} (h1 : compO E x = some x') (hx : aop C (.convInt k x') e h = some (v, h')) (r : Rel S h B W) (he : EnvR S e a E.nt) (hg : GlobOK E.gl S.imm) : h' = h ∧ ExS P o a S v := by
  simp only [aop] at hx
  split at hx
  · rename_i q n hp
    cases hx
    have e1 := eval_sc (evO_V he hg h1) hp
    refine ⟨rfl, .mk (u := .int k (k.wrap n)) (fun W => ?_) (V_sc _)⟩
    simp [execOp, hop, e1, convert, run_underlying' hs, run_underlying' hd, Conv.intToInt]
  · cases hx
theorem ex_makeFunc {fn : Fn} {first caps : Array Operand} (hop : o.op = .makeFunc fn first caps) {x y : List Opd} (h1 : compL E first.toList = some x) (h2 : compL E caps.toList = some y) (hx : aop C (.makeFunc fn x y) e h = some (v, h')) (r : Rel S h B W) (he : EnvR S e a E.nt) (hg : GlobOK E.gl S.imm) : h' = h ∧ ExS P o a S v := by
  simp only [aop] at hx
  cases hx
  refine ⟨rfl, .mk (u := .func fn (first.map a.eval) (caps.map a.eval)) (fun W => ?_) ?_⟩
  · simp [execOp, hop, Instr.makeFunc]
  · simp only [V]
    exact ⟨_, _, rfl, by rw [Array.toList_map]; exact evL_V he hg h1, by rw [Array.toList_map]; exact evL_V he hg h2⟩
theorem ex_nilCheck {x : Operand} (hop : o.op = .nilCheck x) {x' : Opd} (h1 : compO E x = some x') (hx : aop C (.nilCheck x') e h = some (v, h')) (r : Rel S h B W) (he : EnvR S e a E.nt) (hg : GlobOK E.gl S.imm) : h' = h ∧ ExS P o a S v := by
  have hv := evO_V he hg h1
  simp only [aop] at hx
  split at hx
  · rename_i hp; cases hx; rw [hp] at hv; have hv' := hv; simp only [V] at hv; obtain ⟨b, _, h2⟩ := hv
    exact ⟨rfl, .mk (u := a.eval x) (fun W => by simp [execOp, hop, h2]) hv'⟩
  · rename_i hp; cases hx; rw [hp] at hv; have hv' := hv; simp only [V] at hv; obtain ⟨b, q, h2, _⟩ := hv
    exact ⟨rfl, .mk (u := a.eval x) (fun W => by simp [execOp, hop, h2]) hv'⟩
  · rename_i hp; cases hx; rw [hp] at hv; have hv' := hv; simp only [V] at hv; obtain ⟨x1, y1, h2, _⟩ := hv
    exact ⟨rfl, .mk (u := a.eval x) (fun W => by simp [execOp, hop, h2]) hv'⟩
  · cases hx
theorem ex_extract {x : Operand} {i : Nat} (hop : o.op = .extract x i) {x' : Opd} (h1 : compO E x = some x') (hx : aop C (.extract x' i) e h = some (v, h')) (r : Rel S h B W) (he : EnvR S e a E.nt) (hg : GlobOK E.gl S.imm) : h' = h ∧ ExS P o a S v := by
  have hv := evO_V he hg h1
  simp only [aop] at hx
  split at hx
  · rename_i vs hp
    simp only [Option.map_eq_some_iff, Prod.mk.injEq] at hx
    obtain ⟨w, hb, rfl, rfl⟩ := hx
    rw [hp] at hv
    simp only [V] at hv
    obtain ⟨arr, e1, g1⟩ := hv
    obtain ⟨u, g2, g3⟩ := g1.get hb
    refine ⟨rfl, .mk (u := u) (fun W => ?_) g3⟩
    have g2' : arr[i]? = some u := by simpa using g2
    simp [execOp, hop, e1, Instr.extract, g2']
  · cases hx
theorem ex_minmax {b : Builtin} {mx : Bool} {ts : Array TypeId} {x y : Operand} (hop : o.op = .call { callee := .builtin b, args := #[x, y], argTypes := ts }) (hb : (b = .max ∧ mx = true) ∨ (b = .min ∧ mx = false)) {x' y' : Opd} (h1 : compO E x = some x') (h2 : compO E y = some y') (hx : aop C (.minmax mx x' y') e h = some (v, h')) (r : Rel S h B W) (he : EnvR S e a E.nt) (hg : GlobOK E.gl S.imm) : h' = h ∧ ExS P o a S v := by
  simp only [aop] at hx
  split at hx
  · rename_i k p k' q hp hq
    split at hx
    · rename_i hk
      subst hk
      cases hx
      have e1 := eval_sc (evO_V he hg h1) hp
      have e2 := eval_sc (evO_V he hg h2) hq
      refine ⟨rfl, .mk (u := _) (fun W => ?_) (V_sc _)⟩
      rcases hb with ⟨rfl, rfl⟩ | ⟨rfl, rfl⟩
      · simp [execOp, hop, resolve, invoke, builtin, e1, e2, run_max_int2]
      · simp [execOp, hop, resolve, invoke, builtin, e1, e2, run_min_int2]
    · cases hx
  · cases hx
end
end Go.Proofs.Ytipbmacpenmgoaa.AM

/- Each operation of the model does what the plain machine's does: cuts, addresses, parts. -/
namespace Go.Proofs.Ytipbmacpenmgoaa.AM
open Go Go.RowKit
set_option linter.unusedVariables false
set_option linter.unusedSimpArgs false
theorem aggs_length (s : Nat) : ∀ (n : Nat) (cs : List AV), (aggs s n cs).length = n
  | 0, _ => rfl
  | n + 1, cs => by simp [aggs, aggs_length s n]
theorem chunks_length {k : Option Nat} {n : Nat} {cs : List AV} (h : n * kz k ≤ cs.length) : (chunks k n cs).length = n := by
  cases k with
  | none => simp only [chunks, kz, Option.getD_none, Nat.mul_one] at *; simp; omega
  | some s => exact aggs_length s n cs
theorem not_agg {S : St} {x : AV} {u : Value} (hv : V S x u) (h1 : u.oneCell' = true) : ∀ cs, x ≠ .agg cs := by
  rintro cs rfl
  simp only [V] at hv
  obtain ⟨arr, rfl, _⟩ := hv
  simp [Value.oneCell'] at h1
theorem V1_single {S : St} {x : AV} {u : Value} {b o : Nat} (hi : S.imm b o = some u) (hv : V S x u) (h1 : u.oneCell' = true) : V1 S none x b o := by
  have := not_agg hv h1
  cases x <;> simp only [V1] <;> first | exact ⟨rfl, u, hi, hv⟩ | exact ⟨trivial, u, hi, hv⟩ | exact absurd rfl (this _)
theorem aggs_VE {S : St} {s : Nat} {b : Nat} : ∀ (n : Nat) (cs : List AV) (o : Nat), VM S cs b o → n * s ≤ cs.length → VE S (some s) (aggs s n cs) b o
  | 0, cs, o, h, hl => by simp [aggs, VE]
  | n + 1, cs, o, h, hl => by
    rw [Nat.succ_mul] at hl
    simp only [aggs, VE]
    refine ⟨by rw [List.length_take]; congr 1; omega, h.take s, ?_⟩
    rw [List.length_take, Nat.min_eq_left (by omega)]
    exact aggs_VE n _ _ (h.drop s) (by rw [List.length_drop]; omega)
theorem chunks_VE {S : St} {h B W} (r : Rel S h B W) {k : Option Nat} {n : Nat} {cs : List AV} {b o : Nat} (hm : VM S cs b o) (hl : n * kz k ≤ cs.length) : VE S k (chunks k n cs) b o := by
  cases k with
  | some s => exact aggs_VE n cs o hm (by simpa [kz] using hl)
  | none =>
    simp only [chunks]
    refine VE.mk fun i y hy => ?_
    obtain ⟨u, h1, h2⟩ := (hm.take n).get hy
    simp only [kz, Option.getD_none, Nat.mul_one]
    exact V1_single h1 h2 (r.imm _ _ _ h1).2
section
variable {P : Program} {E : Env0} {o : Oper} {C : Cl} {e : Env} {h h' : Heap} {v : AV} {S : St} {B : Nat} {W : World} {a : Act}
theorem bounds_run {isS : Bool} {len cap : Nat} {lo hi mx : Option Value} {l h m : Nat}
    (hm : (mx = none ∧ m = cap) ∨ (∃ k, mx = some (.int k (m : Int)) ∧ m ≤ cap))
    (hh : (hi = none ∧ mx = none ∧ h = len) ∨ (∃ k, hi = some (.int k (h : Int)) ∧ h ≤ m))
    (hl : (lo = none ∧ l = 0) ∨ (∃ k, lo = some (.int k (l : Int)) ∧ l ≤ h)) :
    (Instr.sliceBounds isS len cap lo hi mx).run P W = .ok (l, h, m) W := by
  have sb : ∀ (k : IntKind) (n y : Nat) (c : BoundsCode), n ≤ y → (Instr.sliceBound (.int k (n : Int)) y c).run P W = .ok n W := by
    intro k n y c hn
    simp only [Instr.sliceBound, asIntOf, Sem.run_bind, Sem.run_pure, Result.andThen_ok]
    rw [if_pos ⟨by omega, by omega⟩]
    simp
  rcases hm with ⟨rfl, rfl⟩ | ⟨km, rfl, hm⟩
  · rcases hh with ⟨rfl, -, rfl⟩ | ⟨kh, rfl, hh⟩
    · rcases hl with ⟨rfl, rfl⟩ | ⟨kl, rfl, hl⟩
      · simp [Instr.sliceBounds]
      · simp [Instr.sliceBounds, sb _ _ _ _ hl]
    · rcases hl with ⟨rfl, rfl⟩ | ⟨kl, rfl, hl⟩
      · simp [Instr.sliceBounds, sb _ _ _ _ hh]
      · simp [Instr.sliceBounds, sb _ _ _ _ hh, sb _ _ _ _ hl]
  · rcases hh with ⟨rfl, hc, rfl⟩ | ⟨kh, rfl, hh⟩
    · cases hc
    · rcases hl with ⟨rfl, rfl⟩ | ⟨kl, rfl, hl⟩
      · simp [Instr.sliceBounds, sb _ _ _ _ hh, sb _ _ _ _ hm]
      · simp [Instr.sliceBounds, sb _ _ _ _ hh, sb _ _ _ _ hl, sb _ _ _ _ hm]
/-- a bound as the machine has it, and as the model has it -/
def BV (q : Option Int) (x : Option Value) : Prop := (q = none ∧ x = none) ∨ ∃ k n, q = some n ∧ x = some (.int k n)
theorem optI_BV (he : EnvR S e a E.nt) (hg : GlobOK E.gl S.imm) {x : Option Operand} {x' : Option Opd} (hc : compM E x = some x') {q : Option Int} (hq : optI e x' = some q) : BV q (x.map a.eval) := by
  cases x with
  | none => simp only [compM] at hc; cases hc; simp only [optI] at hq; cases hq; exact .inl ⟨rfl, rfl⟩
  | some x =>
    simp only [compM, Option.map_eq_some_iff] at hc
    obtain ⟨y, h1, rfl⟩ := hc
    simp only [optI, Option.map_eq_some_iff] at hq
    obtain ⟨n, h2, rfl⟩ := hq
    unfold asI at h2
    split at h2
    · rename_i k m hy; cases h2; exact .inr ⟨k, n, rfl, by rw [Option.map_some, eval_sc (evO_V he hg h1) hy]⟩
    · cases h2
theorem BV.lo {q : Option Int} {x : Option Value} (hb : BV q x) (h0 : 0 ≤ q.getD 0) {h : Nat} (hh : q.getD 0 ≤ h) : (x = none ∧ (q.getD 0).toNat = 0) ∨ (∃ k, x = some (.int k (((q.getD 0).toNat : Nat) : Int)) ∧ (q.getD 0).toNat ≤ h) := by
  rcases hb with ⟨rfl, rfl⟩ | ⟨k, n, rfl, rfl⟩
  · exact .inl ⟨rfl, rfl⟩
  · simp only [Option.getD_some] at *
    exact .inr ⟨k, by rw [Int.toNat_of_nonneg h0], by omega⟩
/-- a cut of a slice of whatever kind -/
theorem run_cut {t el : TypeId} {i : TypeInfo} (ht : P.underlying t = some (.slice el)) (hi : P.info? el = some i) (ao : Option Addr) (len cap : Nat) {lo hi' mx : Option Value} {l h m : Nat}
    (hb : (Instr.sliceBounds true len cap lo hi' mx).run P W = .ok (l, h, m) W) :
    (Instr.sliceAt t (.slice ao len cap) lo hi' mx).run P W = .ok (.slice (if m = l then ao else ao.map (·.add (l * i.size))) (h - l) (m - l)) W := by
  simp [Instr.sliceAt, Instr.slice, run_underlying' ht, run_sizeOf' hi, hb]
theorem VE_cut {k : Option Nat} {els : List AV} {ao : Option Addr} {l h m : Nat} (hv : els = [] ∨ ∃ b o, ao = some ⟨b, o, none⟩ ∧ VE S k els b o) (hlh : l ≤ h) (hhm : h ≤ m) :
    (els.take h).drop l = [] ∨ ∃ b o, (if m = l then ao else ao.map (·.add (l * kz k))) = some ⟨b, o, none⟩ ∧ VE S k ((els.take h).drop l) b o := by
  by_cases hn : (els.take h).drop l = []
  · exact .inl hn
  rcases hv with rfl | ⟨b, o, rfl, hv⟩
  · simp at hn
  · refine .inr ⟨b, o + l * kz k, ?_, (hv.take h).drop l⟩
    have : l < h := by
      have : (els.take h).drop l ≠ [] := hn
      rw [Ne, List.drop_eq_nil_iff, List.length_take] at this
      omega
    rw [if_neg (by omega), Option.map_some, add_at]
theorem cutSl_ok {t el : TypeId} {i : TypeInfo} (ht : P.underlying t = some (.slice el)) (hi : P.info? el = some i) {k : Option Nat} (hs : i.size = kz k) {w : AOwn} {els : List AV} {p : Value} (hp : V S (.slice w k els) p) {lo hi' mx : Option Int} {xlo xhi xmx : Option Value} (b1 : BV lo xlo) (b2 : BV hi' xhi) (b3 : BV mx xmx) (hx : cutSl w k els lo hi' mx = some v) :
    ∃ u, V S v u ∧ ∀ W, (Instr.sliceAt t p xlo xhi xmx).run P W = .ok u W := by
  simp only [V] at hp
  obtain ⟨ao, cap, rfl, hle, hown, hels⟩ := hp
  unfold cutSl at hx
  split at hx
  · rename_i m h
    split at hx
    · rename_i hc
      cases hx
      obtain ⟨c1, c2, c3, c4⟩ := hc
      rcases b3 with ⟨hh, _⟩ | ⟨km, m', hm, rfl⟩
      · cases hh
      cases hm
      rcases b2 with ⟨hh, _⟩ | ⟨kh, h', hm, rfl⟩
      · cases hh
      cases hm
      obtain ⟨h, rfl⟩ := Int.eq_ofNat_of_zero_le (show 0 ≤ h by omega)
      obtain ⟨m, rfl⟩ := Int.eq_ofNat_of_zero_le (show 0 ≤ m by omega)
      have hl := b1.lo c1 c2
      generalize (lo.getD 0).toNat = l at *
      have hb := fun W => bounds_run (P := P) (W := W) (isS := true) (len := els.length) (cap := cap) (m := m) (h := h) (l := l) (.inr ⟨km, rfl, by omega⟩) (.inr ⟨kh, rfl, by omega⟩) hl
      have hlh : l ≤ h := by rcases hl with ⟨_, rfl⟩ | ⟨_, _, hl⟩ <;> omega
      refine ⟨_, ?_, fun W => run_cut ht hi ao _ cap (hb W)⟩
      simp only [V, hs, Int.toNat_natCast]
      refine ⟨_, m - l, by rw [List.length_drop, List.length_take]; congr 1; omega, ?_, ?_, VE_cut (m := m) hels hlh (by omega)⟩
      · rw [List.length_drop, List.length_take]; omega
      · by_cases hmh : (m : Int) = h
        · rw [if_pos hmh]; simp only [OwnV]; rw [List.length_drop, List.length_take]; omega
        · rw [if_neg hmh]; trivial
    · cases hx
  · cases hx
  · rename_i h
    split at hx
    · rename_i hc
      cases hx
      obtain ⟨c1, c2, c3⟩ := hc
      rcases b3 with ⟨_, rfl⟩ | ⟨km, m', hm, _⟩
      rotate_left
      · cases hm
      rcases b2 with ⟨hh, _⟩ | ⟨kh, h', hm, rfl⟩
      · cases hh
      cases hm
      obtain ⟨h, rfl⟩ := Int.eq_ofNat_of_zero_le (show 0 ≤ h by omega)
      have hl := b1.lo c1 c2
      generalize (lo.getD 0).toNat = l at *
      have hb := fun W => bounds_run (P := P) (W := W) (isS := true) (len := els.length) (cap := cap) (m := cap) (h := h) (l := l) (.inl ⟨rfl, rfl⟩) (.inr ⟨kh, rfl, by omega⟩) hl
      have hlh : l ≤ h := by rcases hl with ⟨_, rfl⟩ | ⟨_, _, hl⟩ <;> omega
      refine ⟨_, ?_, fun W => run_cut ht hi ao _ cap (hb W)⟩
      simp only [V, hs, Int.toNat_natCast]
      refine ⟨_, cap - l, by rw [List.length_drop, List.length_take]; congr 1; omega, ?_, trivial, VE_cut (m := cap) hels hlh (by omega)⟩
      rw [List.length_drop, List.length_take]; omega
    · cases hx
  · rcases b3 with ⟨_, rfl⟩ | ⟨km, m', hm, _⟩
    rotate_left
    · cases hm
    rcases b2 with ⟨_, rfl⟩ | ⟨km, m', hm, _⟩
    rotate_left
    · cases hm
    split at hx
    · cases hx
      rcases b1 with ⟨_, rfl⟩ | ⟨km, m', hm, _⟩
      rotate_left
      · cases hm
      have hb := fun W => bounds_run (P := P) (W := W) (isS := true) (len := els.length) (cap := cap) (m := cap) (h := els.length) (l := 0) (lo := none) (.inl ⟨rfl, rfl⟩) (.inl ⟨rfl, rfl, rfl⟩) (.inl ⟨rfl, rfl⟩)
      refine ⟨_, ?_, fun W => run_cut ht hi ao _ cap (hb W)⟩
      have : (if cap = 0 then ao else ao.map (·.add (0 * i.size))) = ao := by
        split
        · rfl
        · cases ao <;> simp [Addr.add]
      rw [this]
      simp only [V]
      exact ⟨ao, cap, rfl, hle, hown, hels⟩
    · rename_i l
      split at hx
      · rename_i hc
        cases hx
        obtain ⟨c1, c2⟩ := hc
        have hl := b1.lo (h := els.length) (by simpa using c1) (by simpa using c2)
        obtain ⟨l, rfl⟩ := Int.eq_ofNat_of_zero_le c1
        simp only [Option.getD_some, Int.toNat_natCast] at hl
        have hlh : l ≤ els.length := by omega
        have hb := fun W => bounds_run (P := P) (W := W) (isS := true) (len := els.length) (cap := cap) (m := cap) (h := els.length) (l := l) (.inl ⟨rfl, rfl⟩) (.inl ⟨rfl, rfl, rfl⟩) hl
        refine ⟨_, ?_, fun W => run_cut ht hi ao _ cap (hb W)⟩
        have hcut := VE_cut (m := cap) hels hlh hle
        rw [List.take_length] at hcut
        simp only [V, hs, Int.toNat_natCast]
        refine ⟨_, cap - l, by rw [List.length_drop], ?_, ?_, hcut⟩
        · rw [List.length_drop]; omega
        · cases w <;> simp only [cutOwn, OwnV] at *
          rw [List.length_drop]; omega
      · cases hx
theorem cutMs_ok {id off b N cap : Nat} {k : Option Nat} {len : Nat} (q1 : S.blk id 0 = some b) (q2 : S.sz b = some N) (q3 : len ≤ cap) (q4 : off + cap * kz k ≤ N) {lo hi' mx : Option Int} {xlo xhi xmx : Option Value} (b1 : BV lo xlo) (b2 : BV hi' xhi) (b3 : BV mx xmx) (hx : cutMs id off k len lo hi' mx = some v) (isS : Bool) :
    ∃ l h, (∀ W, (Instr.sliceBounds isS len cap xlo xhi xmx).run P W = .ok (l, h, cap) W) ∧ l ≤ h ∧ h ≤ cap ∧ V S v (.slice (if cap = l then some ⟨b, off, none⟩ else some ⟨b, off + l * kz k, none⟩) (h - l) (cap - l)) := by
  unfold cutMs at hx
  simp only at hx
  split at hx
  · rename_i hc
    obtain ⟨c0, c1, c2, c3⟩ := hc
    subst c0
    rcases b3 with ⟨_, rfl⟩ | ⟨km, m', hm, _⟩
    rotate_left
    · cases hm
    obtain ⟨h, hh⟩ : ∃ h : Nat, hi'.getD (len : Int) = h := ⟨_, (Int.toNat_of_nonneg (by omega)).symm⟩
    rw [hh] at c2 c3 hx
    have hl := b1.lo c1 c2
    have hle : h ≤ len := by omega
    have hhi : (xhi = none ∧ (none : Option Value) = none ∧ h = len) ∨ (∃ k, xhi = some (.int k (h : Int)) ∧ h ≤ cap) := by
      rcases b2 with ⟨rfl, rfl⟩ | ⟨kh, h', rfl, rfl⟩
      · left; simp at hh; exact ⟨rfl, rfl, by omega⟩
      · right; simp at hh; subst hh; exact ⟨kh, rfl, by omega⟩
    have e1 : (h : Int) - lo.getD 0 = ((h - (lo.getD 0).toNat : Nat) : Int) := by omega
    have e2 : (lo.getD 0 = (h : Int)) ↔ (lo.getD 0).toNat = h := by omega
    have hlh : (lo.getD 0).toNat ≤ h := by omega
    rw [e1, Int.toNat_natCast] at hx
    simp only [e2] at hx
    generalize (lo.getD 0).toNat = l at *
    refine ⟨l, h, fun W => bounds_run (.inl ⟨rfl, rfl⟩) hhi hl, hlh, by omega, ?_⟩
    split at hx
    · rename_i hlh'
      cases hx
      simp only [V]
      subst hlh'
      exact ⟨_, cap - l, by rw [Nat.sub_self]; rfl, Nat.zero_le _, trivial, .inl trivial⟩
    · rename_i hlh'
      cases hx
      simp only [V]
      rw [if_neg (by omega)]
      refine ⟨b, N, cap - l, q1, q2, by omega, ?_, rfl⟩
      rw [Nat.sub_mul]
      have : l * kz k ≤ cap * kz k := Nat.mul_le_mul_right _ (by omega)
      omega
  · cases hx
theorem ex_slice {t : TypeId} {x : Operand} {lo hi mx : Option Operand} (hop : o.op = .slice t x lo hi mx) {u : TypeDesc} (ht : P.underlying t = some u) {sk : SK} {k : Option Nat}
    (hk : (u = .string ∧ sk = .str) ∨ (∃ el i, u = .slice el ∧ sk = .slice ∧ P.info? el = some i ∧ i.size = kz k) ∨ (∃ n el i, u = .array n el ∧ sk = .arr n ∧ P.info? el = some i ∧ i.size = kz k))
    {x' : Opd} {lo' hi' mx' : Option Opd} (h1 : compO E x = some x') (h2 : compM E lo = some lo') (h3 : compM E hi = some hi') (h4 : compM E mx = some mx') (hx : aop C (.slice sk k x' lo' hi' mx') e h = some (v, h')) (r : Rel S h B W) (he : EnvR S e a E.nt) (hg : GlobOK E.gl S.imm) : h' = h ∧ ExS P o a S v := by
  simp only [aop, Option.bind_eq_some_iff, Option.map_eq_some_iff, Prod.mk.injEq] at hx
  obtain ⟨lo1, g1, hi1, g2, mx1, g3, w, hb, rfl, rfl⟩ := hx
  have b1 := optI_BV he hg h2 g1
  have b2 := optI_BV he hg h3 g2
  have b3 := optI_BV he hg h4 g3
  have hv := evO_V he hg h1
  suffices hs : ∃ u, V S w u ∧ ∀ W, (Instr.sliceAt t (a.eval x) (lo.map a.eval) (hi.map a.eval) (mx.map a.eval)).run P W = .ok u W by
    obtain ⟨u, s2, s1⟩ := hs
    exact ⟨rfl, .mk (u := u) (fun W => by simp [execOp, hop, s1]) s2⟩
  unfold aslice at hb
  split at hb
  · rename_i s hs
    rcases hk with ⟨rfl, _⟩ | ⟨el, i, _, hsk, _⟩ | ⟨n, el, i, _, hsk, _⟩
    · rw [hs] at hv
      simp only [V] at hv
      rw [hv]
      split at hb
      · rename_i hmx
        subst hmx
        rcases b3 with ⟨_, hm⟩ | ⟨km, m', hm, _⟩
        rotate_left
        · cases hm
        rw [hm]
        unfold cutStr at hb
        simp only at hb
        split at hb
        · rename_i hc
          cases hb
          obtain ⟨c1, c2, c3⟩ := hc
          obtain ⟨hh, hhe⟩ : ∃ hh : Nat, hi1.getD (s.size : Int) = hh := ⟨_, (Int.toNat_of_nonneg (by omega)).symm⟩
          rw [hhe] at c2 c3
          rw [hhe, Int.toNat_natCast]
          have hl := b1.lo c1 c2
          have hhi : (hi.map a.eval = none ∧ (none : Option Value) = none ∧ hh = s.size) ∨ (∃ k, hi.map a.eval = some (.int k (hh : Int)) ∧ hh ≤ s.size) := by
            rcases b2 with ⟨rfl, hb2⟩ | ⟨kh, h'', rfl, hb2⟩
            · left; simp at hhe; exact ⟨hb2, rfl, by omega⟩
            · right; simp at hhe; subst hhe; exact ⟨kh, hb2, by omega⟩
          have hbr := fun W => bounds_run (P := P) (W := W) (isS := false) (len := s.size) (cap := s.size) (mx := none) (m := s.size) (.inl ⟨rfl, rfl⟩) hhi hl
          refine ⟨_, V_sc _, fun W => ?_⟩
          simp [Instr.sliceAt, Instr.slice, run_underlying' ht, hbr]
        · cases hb
      · cases hb
    · cases hsk
    · cases hsk
  · rename_i w' k' els hs
    rcases hk with ⟨_, hsk⟩ | ⟨el, i, rfl, _, hi', hsz⟩ | ⟨n, el, i, _, hsk, _⟩
    · cases hsk
    · split at hb
      · rename_i hkk
        subst hkk
        rw [hs] at hv
        exact cutSl_ok ht hi' hsz hv b1 b2 b3 hb
      · cases hb
    · cases hsk
  · rename_i hs
    rcases hk with ⟨_, hsk⟩ | ⟨el, i, rfl, _, hi', hsz⟩ | ⟨n, el, i, _, hsk, _⟩
    · cases hsk
    · split at hb
      · rename_i hc
        cases hb
        obtain ⟨c1, c2, c3, c4⟩ := hc
        rw [hs] at hv
        simp only [V] at hv
        rw [hv]
        have hbr : (∀ W, (Instr.sliceBounds true 0 0 (lo.map a.eval) (hi.map a.eval) (mx.map a.eval)).run P W = .ok (0, 0, 0) W) ∨ ((mx.map a.eval).isSome ∧ hi.map a.eval = none) := by
          by_cases hh : (mx.map a.eval).isSome ∧ hi.map a.eval = none
          · exact .inr hh
          left
          intro W
          refine bounds_run ?_ ?_ ?_
          · rcases b3 with ⟨rfl, hb3⟩ | ⟨km, m', rfl, hb3⟩
            · exact .inl ⟨hb3, rfl⟩
            · simp at c3; subst c3; exact .inr ⟨km, hb3, Nat.le_refl _⟩
          · rcases b2 with ⟨rfl, hb3⟩ | ⟨km, m', rfl, hb3⟩
            · refine .inl ⟨hb3, ?_, rfl⟩
              cases hm : mx.map a.eval with
              | none => rfl
              | some z => exact absurd ⟨by simp [hm], hb3⟩ hh
            · simp at c2; subst c2; exact .inr ⟨km, hb3, Nat.le_refl _⟩
          · rcases b1 with ⟨rfl, hb3⟩ | ⟨km, m', rfl, hb3⟩
            · exact .inl ⟨hb3, rfl⟩
            · simp at c1; subst c1; exact .inr ⟨km, hb3, Nat.le_refl _⟩
        rcases hbr with hbr | ⟨hm, hh⟩
        · refine ⟨_, ?_, fun W => run_cut ht hi' none 0 0 (hbr W)⟩
          simp [V]
        · exfalso
          rcases c4 with rfl | c4
          · rcases b3 with ⟨_, hb3⟩ | ⟨km, m', hb3, _⟩
            · rw [hb3] at hm; cases hm
            · cases hb3
          · rcases b2 with ⟨hb3, _⟩ | ⟨km, m', _, hb3⟩
            · exact c4 hb3
            · rw [hh] at hb3; cases hb3
      · cases hb
    · cases hsk
  · rename_i id off k' len hs
    rcases hk with ⟨_, hsk⟩ | ⟨el, i, rfl, _, hi', hsz⟩ | ⟨n, el, i, _, hsk, _⟩
    · cases hsk
    · split at hb
      · rename_i hkk
        subst hkk
        rw [hs] at hv
        simp only [V] at hv
        obtain ⟨b, N, cap, q1, q2, q3, q4, q5⟩ := hv
        rw [q5]
        obtain ⟨l, hh, r1, r2, r3, r4⟩ := cutMs_ok (P := P) q1 q2 q3 q4 b1 b2 b3 hb true
        refine ⟨_, r4, fun W => ?_⟩
        rw [run_cut ht hi' _ _ _ (r1 W)]
        simp only [Option.map_some, add_at, hsz]
      · cases hb
    · cases hsk
  · rename_i n id off hs
    rcases hk with ⟨_, hsk⟩ | ⟨el, i, _, hsk, _⟩ | ⟨n', el, i, rfl, hsk, hi', hsz⟩
    · cases hsk
    · cases hsk
    · cases hsk
      simp only [Option.bind_eq_some_iff] at hb
      obtain ⟨cs, hbx, hb⟩ := hb
      split at hb
      · rename_i hcl
        rw [hs] at hv
        simp only [V] at hv
        obtain ⟨b, q1, q5⟩ := hv
        rw [q5]
        unfold boxAt at hbx
        split at hbx
        · rename_i ex' cs' hcs
          cases hbx
          obtain ⟨b', c, e', p1, p2, p3, p4, p5, p6, p7, p8, p9⟩ := r.obj _ _ hcs
          rw [q1] at p1
          cases p1
          have hcl' : cs.length ≤ c.size := by
            have := p4.length
            simp at this
            omega
          obtain ⟨l, hh, r1, r2, r3, r4⟩ := cutMs_ok (P := P) q1 p6 (Nat.le_refl n) (by omega) b1 b2 b3 hb false
          refine ⟨_, r4, fun W => ?_⟩
          simp [Instr.sliceAt, run_underlying' ht, Instr.sureAddr, r1, run_sizeOf' hi', hsz, add_at]
          split <;> simp_all
        · cases hbx
      · cases hb
  · rename_i n cs hs
    rcases hk with ⟨_, hsk⟩ | ⟨el, i, _, hsk, _⟩ | ⟨n', el, i, rfl, hsk, hi', hsz⟩
    · cases hsk
    · cases hsk
    · cases hsk
      split at hb
      · rename_i hc
        cases hb
        obtain ⟨rfl, rfl, rfl, hcl⟩ := hc
        rw [hs] at hv
        simp only [V] at hv
        obtain ⟨b, q, q5, hm⟩ := hv
        rw [q5]
        rcases b1 with ⟨_, hb1⟩ | ⟨km, m', hm, _⟩
        rotate_left
        · cases hm
        rcases b2 with ⟨_, hb2⟩ | ⟨km, m', hm, _⟩
        rotate_left
        · cases hm
        rcases b3 with ⟨_, hb3⟩ | ⟨km, m', hm, _⟩
        rotate_left
        · cases hm
        rw [hb1, hb2, hb3]
        have hbr := fun W => bounds_run (P := P) (W := W) (isS := false) (len := n) (cap := n) (m := n) (h := n) (l := 0) (lo := none) (hi := none) (mx := none) (.inl ⟨rfl, rfl⟩) (.inl ⟨rfl, rfl, rfl⟩) (.inl ⟨rfl, rfl⟩)
        refine ⟨.slice (some ⟨b, q, none⟩) n n, ?_, fun W => ?_⟩
        rotate_left
        · simp [Instr.sliceAt, run_underlying' ht, Instr.sureAddr, hbr, run_sizeOf' hi', Addr.add]
        · have hl := chunks_length hcl
          simp only [V]
          exact ⟨_, n, by rw [hl], by omega, by simp only [OwnV]; omega, .inr ⟨b, q, rfl, chunks_VE r hm hcl⟩⟩
      · cases hb
  · cases hb
end
end Go.Proofs.Ytipbmacpenmgoaa.AM

/- Each operation of the model does what the plain machine's does: addresses, parts, reads. -/
namespace Go.Proofs.Ytipbmacpenmgoaa.AM
open Go Go.RowKit
set_option linter.unusedVariables false
set_option linter.unusedSimpArgs false
section
variable {P : Program} {E : Env0} {o : Oper} {C : Cl} {e : Env} {h h' : Heap} {v : AV} {S : St} {B : Nat} {W : World} {a : Act}
theorem kOf_some {t : TypeId} {n : Nat} (hk : kOf P t = some (some n)) : ∃ u i, P.underlying t = some u ∧ P.info? t = some i ∧ i.size = n ∧ 0 < n ∧ ((∃ fs, u = .struct fs) ∨ ∃ m e, u = .array m e) := by
  simp only [kOf, Option.bind_eq_some_iff] at hk
  obtain ⟨u, h1, i, h2, h3⟩ := hk
  split at h3
  · split at h3
    · cases h3
    · cases h3; exact ⟨_, i, h1, h2, rfl, by omega, .inl ⟨_, rfl⟩⟩
  · split at h3
    · cases h3
    · cases h3; exact ⟨_, i, h1, h2, rfl, by omega, .inr ⟨_, _, rfl⟩⟩
  · split at h3 <;> cases h3
theorem kOf_none {t : TypeId} (hk : kOf P t = some none) : ∃ u i, P.underlying t = some u ∧ P.info? t = some i ∧ i.size = 1 ∧ (∀ fs, u ≠ .struct fs) ∧ (∀ m e, u ≠ .array m e) := by
  simp only [kOf, Option.bind_eq_some_iff] at hk
  obtain ⟨u, h1, i, h2, h3⟩ := hk
  split at h3
  · split at h3 <;> cases h3
  · split at h3 <;> cases h3
  · rename_i hn1 hn2
    split at h3
    · exact ⟨u, i, h1, h2, by assumption, fun fs hh => hn1 fs hh, fun m e hh => hn2 m e hh⟩
    · cases h3
theorem run_isAgg_none {t : TypeId} (hk : kOf P t = some none) : (isAgg t).run P W = .ok false W := by
  obtain ⟨u, i, h1, h2, h3, h4, h5⟩ := kOf_none hk
  unfold isAgg
  simp only [Sem.run_bind, run_underlying' h1, Result.andThen_ok]
  cases u <;> first | rfl | exact absurd rfl (h4 _) | exact absurd rfl (h5 _ _)
theorem run_isAgg_some {t : TypeId} {n : Nat} (hk : kOf P t = some (some n)) : (isAgg t).run P W = .ok true W := by
  obtain ⟨u, i, h1, h2, h3, _, h4⟩ := kOf_some hk
  unfold isAgg
  simp only [Sem.run_bind, run_underlying' h1, Result.andThen_ok]
  rcases h4 with ⟨fs, rfl⟩ | ⟨m, e, rfl⟩ <;> rfl
theorem kOf_size {t : TypeId} {k : Option Nat} (hk : kOf P t = some k) : ∃ i, P.info? t = some i ∧ i.size = kz k ∧ 0 < i.size := by
  cases k with
  | none => obtain ⟨u, i, h1, h2, h3, _⟩ := kOf_none hk; exact ⟨i, h2, h3, by omega⟩
  | some n => obtain ⟨u, i, h1, h2, h3, h4, _⟩ := kOf_some hk; exact ⟨i, h2, h3, by omega⟩
theorem extract_toList {α : Type} (arr : Array α) (o n : Nat) : (arr.extract o (o + n)).toList = (arr.toList.drop o).take n := by
  rw [Array.toList_extract]; simp [List.extract]
theorem run_part {t : TypeId} {k : Option Nat} (hk : kOf P t = some k) {cs : List AV} {arr : Array Value} (hv : VL S cs arr.toList) {off : Nat} (hl : ldCells k (cs.drop off) = some v) : ∃ u, (∀ W, (part t arr off).run P W = .ok u W) ∧ V S v u := by
  unfold part
  cases k with
  | none =>
    simp only [ldCells, List.getElem?_drop, Nat.add_zero] at hl
    obtain ⟨u, g1, g2⟩ := hv.get hl
    have g1' : arr[off]? = some u := by simpa using g1
    exact ⟨u, fun W => by simp [run_isAgg_none hk, g1'], g2⟩
  | some n =>
    simp only [ldCells] at hl
    split at hl
    · cases hl
      obtain ⟨u, i, h1, h2, h3, _⟩ := kOf_some hk
      refine ⟨.agg (arr.extract off (off + n)), fun W => by simp [run_isAgg_some hk, run_sizeOf' h2, h3], ?_⟩
      simp only [V]
      exact ⟨_, rfl, by rw [extract_toList]; exact (hv.drop off).take n⟩
    · cases hl
/-- cells that can be read -/
def Rd (S : St) (W : World) (cs : List AV) (b o : Nat) : Prop := ∀ (j : Nat) (x : AV), cs[j]? = some x → ∃ u, W.cell? ⟨b, o + j, none⟩ = some u ∧ V S x u
theorem Rd.drop {cs : List AV} {b o : Nat} (hr : Rd S W cs b o) (n : Nat) : Rd S W (cs.drop n) b (o + n) := fun j x hx => by
  rw [List.getElem?_drop] at hx
  obtain ⟨u, h1, h2⟩ := hr _ x hx
  exact ⟨u, by rw [← h1]; congr 2; omega, h2⟩
theorem Rd.of_VM {cs : List AV} {b o : Nat} (r : Rel S h B W) (hm : VM S cs b o) : Rd S W cs b o := fun j x hx => by
  obtain ⟨u, h1, h2⟩ := hm.get hx
  exact ⟨u, (r.imm _ _ _ h1).1, h2⟩
theorem box_rel {id : Nat} {cs : List AV} (r : Rel S h B W) (hb : boxAt h id = some cs) : h[id]? = some (.box (exAt h id) cs) ∧ ∃ b c e, S.blk id 0 = some b ∧ B ≤ b ∧ HC W b c e ∧ VL S cs (c.toList.take cs.length) ∧ (∀ u ∈ c.toList, u.oneCell' = true) ∧ S.sz b = some c.size ∧ (cs.length ≤ c.size ∧ (exAt h id = true → c.size = cs.length)) ∧ ∀ o, S.imm b o = none := by
  unfold boxAt at hb
  split at hb
  · rename_i ex cs' hcs
    cases hb
    obtain ⟨b, c, e', p1, p2, p3, p4, p5, p6, p7, p8, p9⟩ := r.obj _ _ hcs
    have he : exAt h id = ex := by simp only [exAt, hcs]
    refine ⟨by rw [he]; exact hcs, b, c, e', p1, p2, p3, p4, p5, p6, ⟨?_, by rw [he]; exact p8⟩, p7⟩
    have := p4.length
    simp at this
    omega
  · cases hb
theorem Rd.of_box {cs : List AV} {b : Nat} {c : Array Value} {el : TypeId} {fr : Nat × Nat} (hh : W.heap[b]? = some (.cells c el fr)) (hv : VL S cs (c.toList.take cs.length)) : Rd S W cs b 0 := fun j x hx => by
  obtain ⟨u, h1, h2⟩ := hv.get hx
  refine ⟨u, ?_, h2⟩
  rw [List.getElem?_take] at h1
  split at h1
  · rw [Nat.zero_add, cell_of hh]; simpa using h1
  · cases h1
theorem deref_ok {x : AV} {p : Value} {cs : List AV} (r : Rel S h B W) (hv : V S x p) (hd : deref h x = some cs) : ∃ b o, p = .pointer (some ⟨b, o, none⟩) ∧ Rd S W cs b o := by
  unfold deref at hd
  split at hd
  · rename_i id off
    simp only [Option.map_eq_some_iff] at hd
    obtain ⟨cs', hb, rfl⟩ := hd
    obtain ⟨_, b, c, e', p1, p2, p3, p4, p5, p6, p7, _⟩ := box_rel r hb
    simp only [V] at hv
    obtain ⟨b', q1, q2⟩ := hv
    rw [p1] at q1
    cases q1
    exact ⟨b, off, q2, by simpa using (Rd.of_box p3.1 p4).drop off⟩
  · cases hd
    simp only [V] at hv
    obtain ⟨b, o', h1, h2⟩ := hv
    exact ⟨b, o', h1, .of_VM r h2⟩
  · cases hd
theorem run_ld {t : TypeId} {k : Option Nat} (hk : kOf P t = some k) {cs : List AV} {b o' : Nat} (hr : Rd S W cs b o') (hl : ldCells k cs = some v) : ∃ u, (loadVar t ⟨b, o', none⟩).run P W = .ok u W ∧ V S v u := by
  unfold loadVar
  cases k with
  | none =>
    simp only [ldCells] at hl
    obtain ⟨u, g1, g2⟩ := hr 0 _ hl
    rw [Nat.add_zero] at g1
    exact ⟨u, by simp [run_isAgg_none hk, g1], g2⟩
  | some n =>
    simp only [ldCells] at hl
    split at hl
    · rename_i hn
      cases hl
      obtain ⟨u, i, h1, h2, h3, _⟩ := kOf_some hk
      have hex : ∀ m, m ≤ n → ∃ us : List Value, us.length = m ∧ (∀ j u, us[j]? = some u → W.cell? ⟨b, o' + j, none⟩ = some u) ∧ VL S (cs.take m) us := by
        intro m
        induction m with
        | zero => intro _; exact ⟨[], rfl, fun j u hj => by simp at hj, by simp [VL]⟩
        | succ m ih =>
          intro hm
          obtain ⟨us, g1, g2, g3⟩ := ih (by omega)
          have hlt : m < cs.length := by omega
          obtain ⟨u, g4, g5⟩ := hr m cs[m] (List.getElem?_eq_getElem hlt)
          refine ⟨us ++ [u], by simp [g1], fun j w hj => ?_, ?_⟩
          · rw [List.getElem?_append] at hj
            split at hj
            · exact g2 j w hj
            · have : j = m := by have := (List.getElem?_eq_some_iff.1 hj).1; simp at this; omega
              subst this
              simp [g1] at hj
              subst hj
              exact g4
          · rw [List.take_succ_eq_append_getElem hlt]
            exact g3.append (by simp only [VL]; exact ⟨u, [], rfl, g5, rfl⟩)
      obtain ⟨us, g1, g2, g3⟩ := hex n (Nat.le_refl n)
      have hlc := run_loadCells_list (P := P) W ⟨b, o', none⟩ us (fun j w hj => by rw [add_at]; exact g2 j w hj)
      rw [g1] at hlc
      refine ⟨.agg us.toArray, by simp [run_isAgg_some hk, run_sizeOf' h2, h3, hlc], ?_⟩
      simp only [V]
      exact ⟨_, rfl, by simpa using g3⟩
    · cases hl
/-- an operation that reads alone -/
def ExR (P : Program) (o : Oper) (a : Act) (S : St) (v : AV) (W : World) : Prop := ∃ u, (execOp a.eval o).run P W = .ok (.value u) W ∧ V S v u
theorem ExR.ok {h h' : Heap} (hr : h' = h ∧ ExR P o a S v W) (r : Rel S h B W) : ExOK P o a S h' v B W := by
  obtain ⟨rfl, u, h1, h2⟩ := hr
  exact .same r h1 h2
theorem ex_load {t : TypeId} {x : Operand} (hop : o.op = .load t x) {k : Option Nat} (hk : kOf P t = some k) {x' : Opd} (h1 : compO E x = some x') (hx : aop C (.load k x') e h = some (v, h')) (r : Rel S h B W) (he : EnvR S e a E.nt) (hg : GlobOK E.gl S.imm) : h' = h ∧ ExR P o a S v W := by
  simp only [aop, Option.bind_eq_some_iff, Option.map_eq_some_iff, Prod.mk.injEq] at hx
  obtain ⟨cs, hd, w, hb, rfl, rfl⟩ := hx
  obtain ⟨b, o', q1, q2⟩ := deref_ok r (evO_V he hg h1) hd
  obtain ⟨u, g1, g2⟩ := run_ld hk q2 hb
  exact ⟨rfl, u, by simp [execOp, hop, Instr.loadAt, Instr.sureAddr, q1, g1], g2⟩
theorem ex_toArr {t : TypeId} {x : Operand} (hop : o.op = .sliceToArrayPointer t x) {n : Nat} {el : TypeId} (ht : P.underlying t = some (.array n el)) {x' : Opd} (h1 : compO E x = some x') (hx : aop C (.toArr n x') e h = some (v, h')) (r : Rel S h B W) (he : EnvR S e a E.nt) (hg : GlobOK E.gl S.imm) : h' = h ∧ ExS P o a S v := by
  have hv := evO_V he hg h1
  simp only [aop] at hx
  split at hx
  · rename_i id off len hp
    split at hx
    · rename_i hc
      cases hx
      rw [hp] at hv
      simp only [V] at hv
      obtain ⟨b, N, cap, q1, q2, q3, q4, q5⟩ := hv
      refine ⟨rfl, .mk (u := .pointer (some ⟨b, off, none⟩)) (fun W => ?_) (by simp only [V]; exact ⟨b, q1, rfl⟩)⟩
      have : ¬ len < n := by omega
      simp [execOp, hop, Instr.arrayAt, run_underlying' ht, q5, this]
    · cases hx
  · rename_i own els hp
    split at hx
    · rename_i hc
      cases hx
      rw [hp] at hv
      simp only [V] at hv
      obtain ⟨ao, cap, q1, q2, q3, q4⟩ := hv
      rcases q4 with rfl | ⟨b, o', rfl, q4⟩
      · simp at hc; omega
      refine ⟨rfl, .mk (u := .pointer (some ⟨b, o', none⟩)) (fun W => ?_) ?_⟩
      · have : ¬ els.length < n := by omega
        simp [execOp, hop, Instr.arrayAt, run_underlying' ht, q1, this]
      · simp only [V]
        refine ⟨b, o', rfl, VM.mk fun i y hy => ?_⟩
        have := q4.get hy
        simp only [kz, Option.getD_none, Nat.mul_one] at this
        cases y <;> simp only [V1] at this <;> first | (exact this.2) | (cases this.1)
    · cases hx
  · cases hx
theorem ex_fieldAddr {t : TypeId} {x : Operand} {f : Nat} (hop : o.op = .fieldAddr t x f) {fs : Array Field} (ht : P.underlying t = some (.struct fs)) {fd : Field} (hf : fs[f]? = some fd) {i : TypeInfo} (hi : P.info? fd.type = some i) (hs : i.size ≠ 0) {n : Nat} {x' : Opd} (h1 : compO E x = some x') (hx : aop C (.fieldAddr fd.offset n x') e h = some (v, h')) (r : Rel S h B W) (he : EnvR S e a E.nt) (hg : GlobOK E.gl S.imm) : h' = h ∧ ExS P o a S v := by
  have hv := evO_V he hg h1
  simp only [aop] at hx
  split at hx
  · rename_i id off hp
    cases hx
    rw [hp] at hv
    simp only [V] at hv
    obtain ⟨b, q1, q2⟩ := hv
    refine ⟨rfl, .mk (u := .pointer (some ⟨b, off + fd.offset, none⟩)) (fun W => ?_) (by simp only [V]; exact ⟨b, q1, rfl⟩)⟩
    simp [execOp, hop, Instr.fieldAt, run_underlying' ht, hf, q2, Instr.sureAddr, fieldPlace, run_sizeOf' hi, hs, add_at]
  · rename_i cs hp
    cases hx
    rw [hp] at hv
    simp only [V] at hv
    obtain ⟨b, o', q1, q2⟩ := hv
    refine ⟨rfl, .mk (u := .pointer (some ⟨b, o' + fd.offset, none⟩)) (fun W => ?_) (by simp only [V]; exact ⟨b, _, rfl, q2.drop _⟩)⟩
    simp [execOp, hop, Instr.fieldAt, run_underlying' ht, hf, q1, Instr.sureAddr, fieldPlace, run_sizeOf' hi, hs, add_at]
  · cases hx
theorem ex_field {t : TypeId} {x : Operand} {f : Nat} (hop : o.op = .field t x f) {fs : Array Field} (ht : P.underlying t = some (.struct fs)) {fd : Field} (hf : fs[f]? = some fd) {k : Option Nat} (hk : kOf P fd.type = some k) {x' : Opd} (h1 : compO E x = some x') (hx : aop C (.field k fd.offset x') e h = some (v, h')) (r : Rel S h B W) (he : EnvR S e a E.nt) (hg : GlobOK E.gl S.imm) : h' = h ∧ ExS P o a S v := by
  have hv := evO_V he hg h1
  simp only [aop] at hx
  split at hx
  · rename_i cs hp
    simp only [Option.map_eq_some_iff, Prod.mk.injEq] at hx
    obtain ⟨w, hb, rfl, rfl⟩ := hx
    rw [hp] at hv
    simp only [V] at hv
    obtain ⟨arr, q1, q2⟩ := hv
    obtain ⟨u, g1, g2⟩ := run_part hk q2 hb
    exact ⟨rfl, .mk (u := u) (fun W => by simp [execOp, hop, Instr.field, run_underlying' ht, hf, q1, asAgg, g1]) g2⟩
  · cases hx
theorem asI_val {y : AV} {n : Int} {p : Value} (hv : V S y p) (hn : asI y = some n) : ∃ k, p = .int k n := by
  unfold asI at hn
  split at hn
  · cases hn; simp only [V] at hv; exact ⟨_, hv⟩
  · cases hn
theorem ex_index {t : TypeId} {x ix : Operand} (hop : o.op = .index t x ix) {n : Nat} {el : TypeId} (ht : P.underlying t = some (.array n el)) {k : Option Nat} (hk : kOf P el = some k) {x' ix' : Opd} (h1 : compO E x = some x') (h2 : compO E ix = some ix') (hx : aop C (.index k n x' ix') e h = some (v, h')) (r : Rel S h B W) (he : EnvR S e a E.nt) (hg : GlobOK E.gl S.imm) : h' = h ∧ ExS P o a S v := by
  have hv := evO_V he hg h1
  simp only [aop, Option.bind_eq_some_iff] at hx
  obtain ⟨i, hi, hx⟩ := hx
  obtain ⟨ki, hiv⟩ := asI_val (evO_V he hg h2) hi
  split at hx
  · rename_i cs hp
    split at hx
    · rename_i hc
      simp only [Option.map_eq_some_iff, Prod.mk.injEq] at hx
      obtain ⟨w, hb, rfl, rfl⟩ := hx
      rw [hp] at hv
      simp only [V] at hv
      obtain ⟨arr, q1, q2⟩ := hv
      obtain ⟨inf, f1, f2, f3⟩ := kOf_size hk
      obtain ⟨u, g1, g2⟩ := run_part hk q2 hb
      rw [← f2] at g1
      exact ⟨rfl, .mk (u := u) (fun W => by simp [execOp, hop, Instr.index, run_underlying' ht, q1, hiv, asIntOf, hc, run_sizeOf' f1, g1]) g2⟩
    · cases hx
  · cases hx
theorem ex_indexStr {t : TypeId} {x ix : Operand} (hop : o.op = .index t x ix) (ht : P.underlying t = some .string) {x' ix' : Opd} (h1 : compO E x = some x') (h2 : compO E ix = some ix') (hx : aop C (.indexStr x' ix') e h = some (v, h')) (r : Rel S h B W) (he : EnvR S e a E.nt) (hg : GlobOK E.gl S.imm) : h' = h ∧ ExS P o a S v := by
  have hv := evO_V he hg h1
  simp only [aop, Option.bind_eq_some_iff] at hx
  obtain ⟨i, hi, hx⟩ := hx
  obtain ⟨ki, hiv⟩ := asI_val (evO_V he hg h2) hi
  split at hx
  · rename_i s hp
    split at hx
    · rename_i hc
      simp only [Option.map_eq_some_iff, Prod.mk.injEq] at hx
      obtain ⟨w, hb, rfl, rfl⟩ := hx
      have hs := eval_sc (evO_V he hg h1) hp
      refine ⟨rfl, .mk (u := .int .u8 w.toNat) (fun W => ?_) (V_sc _)⟩
      have hb' : s[i.toNat]? = some w := by
        have hlt : i.toNat < s.data.toList.length := (List.getElem?_eq_some_iff.1 hb).1
        have hlt' : i.toNat < s.size := by rw [Array.length_toList] at hlt; exact hlt
        rw [getElem?_pos s i.toNat hlt']
        have := (List.getElem?_eq_some_iff.1 hb).2
        simp at this
        exact congrArg some this
      simp only [execOp, hop, Instr.index, Sem.run_bind, run_underlying' ht, Result.andThen_ok, hs, hiv, asIntOf, Sem.run_pure, if_pos hc, hb']
    · cases hx
  · cases hx
theorem ex_indexAddr {t : TypeId} {x ix : Operand} (hop : o.op = .indexAddr t x ix) {u : TypeDesc} (ht : P.underlying t = some u) {el : TypeId} {s : IK} (hu : (u = .slice el ∧ s = .slice) ∨ ∃ n, u = .array n el ∧ s = .arr n) {k : Option Nat} (hk : kOf P el = some k) {x' ix' : Opd} (h1 : compO E x = some x') (h2 : compO E ix = some ix') (hx : aop C (.indexAddr s k x' ix') e h = some (v, h')) (r : Rel S h B W) (he : EnvR S e a E.nt) (hg : GlobOK E.gl S.imm) : h' = h ∧ ExS P o a S v := by
  have hv := evO_V he hg h1
  obtain ⟨inf, f1, f2, f3⟩ := kOf_size hk
  simp only [aop, Option.bind_eq_some_iff] at hx
  obtain ⟨i, hi, hx⟩ := hx
  obtain ⟨ki, hiv⟩ := asI_val (evO_V he hg h2) hi
  split at hx
  · rename_i n id off hp
    split at hx
    · rename_i hc
      cases hx
      rw [hp] at hv
      simp only [V] at hv
      obtain ⟨b, q1, q2⟩ := hv
      rcases hu with ⟨_, hu⟩ | ⟨n', rfl, hu⟩
      · cases hu
      cases hu
      refine ⟨rfl, .mk (u := .pointer (some ⟨b, off + i.toNat * kz k, none⟩)) (fun W => ?_) (by simp only [V]; exact ⟨b, q1, rfl⟩)⟩
      simp [execOp, hop, Instr.indexAt, run_underlying' ht, hiv, asIntOf, q2, Instr.sureAddr, hc, run_sizeOf' f1, f2, add_at]
    · cases hx
  · rename_i n cs hp
    split at hx
    · rename_i hc
      cases hx
      rw [hp] at hv
      simp only [V] at hv
      obtain ⟨b, o', q1, q2⟩ := hv
      rcases hu with ⟨_, hu⟩ | ⟨n', rfl, hu⟩
      · cases hu
      cases hu
      refine ⟨rfl, .mk (u := .pointer (some ⟨b, o' + i.toNat * kz k, none⟩)) (fun W => ?_) (by simp only [V]; exact ⟨b, _, rfl, q2.drop _⟩)⟩
      simp [execOp, hop, Instr.indexAt, run_underlying' ht, hiv, asIntOf, q1, Instr.sureAddr, hc, run_sizeOf' f1, f2, add_at]
    · cases hx
  · rename_i own k' els hp
    split at hx
    · rename_i hc
      obtain ⟨rfl, hc⟩ := hc
      simp only [Option.map_eq_some_iff, Prod.mk.injEq] at hx
      obtain ⟨w, hb, rfl, rfl⟩ := hx
      rw [hp] at hv
      simp only [V] at hv
      obtain ⟨ao, cap, q1, q2, q3, q4⟩ := hv
      have hlt := (List.getElem?_eq_some_iff.1 hb).1
      rcases q4 with rfl | ⟨b, o', rfl, q4⟩
      · simp at hlt
      rcases hu with ⟨rfl, _⟩ | ⟨n', rfl, hu⟩
      rotate_left
      · cases hu
      refine ⟨rfl, .mk (u := .pointer (some ⟨b, o' + i.toNat * kz k', none⟩)) (fun W => ?_) (by simp only [V]; exact ⟨b, _, rfl, (q4.get hb).cells.1⟩)⟩
      have hlt2 : i < (els.length : Int) := by omega
      simp [execOp, hop, Instr.indexAt, run_underlying' ht, hiv, asIntOf, q1, hc, hlt2, run_sizeOf' f1, f2, add_at]
    · cases hx
  · rename_i id off k' len hp
    split at hx
    · rename_i hc
      obtain ⟨rfl, hc, hc2⟩ := hc
      cases hx
      rw [hp] at hv
      simp only [V] at hv
      obtain ⟨b, N, cap, q1, q2, q3, q4, q5⟩ := hv
      rcases hu with ⟨rfl, _⟩ | ⟨n', rfl, hu⟩
      rotate_left
      · cases hu
      refine ⟨rfl, .mk (u := .pointer (some ⟨b, off + i.toNat * kz k', none⟩)) (fun W => ?_) (by simp only [V]; exact ⟨b, q1, rfl⟩)⟩
      simp [execOp, hop, Instr.indexAt, run_underlying' ht, hiv, asIntOf, q5, hc, hc2, run_sizeOf' f1, f2, add_at]
    · cases hx
  · cases hx
theorem ex_len {ts : Array TypeId} {x : Operand} (hop : o.op = .call { callee := .builtin .len, args := #[x], argTypes := ts }) {t el : TypeId} (h0 : ts[0]? = some t) (ht : P.underlying t = some (.slice el)) {x' : Opd} (h1 : compO E x = some x') (hx : aop C (.len x') e h = some (v, h')) (r : Rel S h B W) (he : EnvR S e a E.nt) (hg : GlobOK E.gl S.imm) : h' = h ∧ ExS P o a S v := by
  have hv := evO_V he hg h1
  simp only [aop, Option.map_eq_some_iff, Prod.mk.injEq] at hx
  obtain ⟨n, hb, rfl, rfl⟩ := hx
  have : ∃ ao cap, a.eval x = .slice ao n cap := by
    unfold lenOf at hb
    split at hb
    · rename_i hp; cases hb; rw [hp] at hv; simp only [V] at hv; obtain ⟨ao, cap, q1, _⟩ := hv; exact ⟨ao, cap, q1⟩
    · rename_i hp; cases hb; rw [hp] at hv; simp only [V] at hv; obtain ⟨b, N, cap, _, _, _, _, q5⟩ := hv; exact ⟨_, cap, q5⟩
    · rename_i hp; cases hb; rw [hp] at hv; simp only [V] at hv; exact ⟨_, _, hv⟩
    · cases hb
  obtain ⟨ao, cap, q⟩ := this
  refine ⟨rfl, .mk (u := .int .i64 n) (fun W => ?_) (V_sc _)⟩
  simp [execOp, hop, resolve, invoke, builtin, Builtin.len_, h0, run_underlying' ht, q, goInt]
theorem ex_lenT {ts : Array TypeId} {x : Operand} (hop : o.op = .call { callee := .builtin .len, args := #[x], argTypes := ts }) {t : TypeId} (h0 : ts[0]? = some t) (ht : P.underlying t = some .string) {x' : Opd} (h1 : compO E x = some x') (hx : aop C (.lenT x') e h = some (v, h')) (r : Rel S h B W) (he : EnvR S e a E.nt) (hg : GlobOK E.gl S.imm) : h' = h ∧ ExS P o a S v := by
  simp only [aop] at hx
  split at hx
  · rename_i s hp
    cases hx
    have q := eval_sc (evO_V he hg h1) hp
    refine ⟨rfl, .mk (u := .int .i64 s.size) (fun W => ?_) (V_sc _)⟩
    simp [execOp, hop, resolve, invoke, builtin, Builtin.len_, h0, run_underlying' ht, q, goInt]
  · cases hx
theorem ex_lenC {ts : Array TypeId} {x : Operand} (hop : o.op = .call { callee := .builtin .len, args := #[x], argTypes := ts }) {t : TypeId} (h0 : ts[0]? = some t) {n : Nat} (ht : (∃ el, P.underlying t = some (.array n el)) ∨ ∃ ar el, P.underlying t = some (.pointer ar) ∧ P.underlying ar = some (.array n el)) (r : Rel S h B W) : ExS P o a S (.int .i64 n) := by
  refine .mk (u := .int .i64 n) (fun W => ?_) (V_sc _)
  rcases ht with ⟨el, ht⟩ | ⟨ar, el, ht, ht2⟩
  · simp [execOp, hop, resolve, invoke, builtin, Builtin.len_, h0, run_underlying' ht, goInt]
  · simp [execOp, hop, resolve, invoke, builtin, Builtin.len_, h0, run_underlying' ht, run_underlying' ht2, goInt]
theorem ex_convSS {s d : TypeId} {x : Operand} (hop : o.op = .convert s d x) (hs : P.underlying s = some .string) (hd : P.underlying d = some .string) {x' : Opd} (h1 : compO E x = some x') (hx : aop C (.convSS x') e h = some (v, h')) (r : Rel S h B W) (he : EnvR S e a E.nt) (hg : GlobOK E.gl S.imm) : h' = h ∧ ExS P o a S v := by
  simp only [aop] at hx
  split at hx
  · rename_i q hp
    cases hx
    have e1 := eval_sc (evO_V he hg h1) hp
    refine ⟨rfl, .mk (u := .string q) (fun W => ?_) (V_sc _)⟩
    simp [execOp, hop, e1, convert, run_underlying' hs, run_underlying' hd]
  · cases hx
end
end Go.Proofs.Ytipbmacpenmgoaa.AM

/- Each operation of the model does what the plain machine's does: those that make or write memory. -/
namespace Go.Proofs.Ytipbmacpenmgoaa.AM
open Go Go.RowKit
set_option linter.unusedVariables false
set_option linter.unusedSimpArgs false
theorem oneCell_eq (v : Value) : oneCell v = v.oneCell' := by cases v <;> rfl
theorem one_V {S : St} {x : AV} {u : Value} (h1 : one x = true) (hv : V S x u) : u.oneCell' = true := by
  cases x <;> simp only [one, Bool.false_eq_true] at h1 <;> simp only [V] at hv
  · rw [hv, ← oneCell_eq]; exact h1
  · obtain ⟨b, _, rfl⟩ := hv; rfl
  · obtain ⟨b, _, rfl, _⟩ := hv; rfl
  · obtain ⟨b, _, rfl, _⟩ := hv; rfl
  · obtain ⟨b, _, _, _, _, _, _, rfl⟩ := hv; rfl
  · obtain ⟨b, _, rfl, _⟩ := hv; rfl
  · obtain ⟨b, _, rfl⟩ := hv; rfl
theorem oneL_V {S : St} : ∀ {x : List AV} {u : List Value}, oneL x = true → VL S x u → ∀ w ∈ u, w.oneCell' = true
  | [], u, _, hv, w, hw => by simp only [VL] at hv; subst hv; cases hw
  | x :: xs, u, h1, hv, w, hw => by
    simp only [VL, oneL, Bool.and_eq_true] at hv h1
    obtain ⟨a, l, rfl, h2, h3⟩ := hv
    rcases List.mem_cons.1 hw with rfl | hw
    · exact one_V h1.1 h2
    · exact oneL_V h1.2 h3 w hw
theorem cellsOf_V {S : St} {x : AV} {u : Value} {cs : List AV} (hv : V S x u) (hc : cellsOf x = some cs) : VL S cs u.cells.toList := by
  unfold cellsOf at hc
  split at hc
  · cases hc; simp only [V] at hv; obtain ⟨a, rfl, h⟩ := hv; exact h
  · split at hc
    · rename_i v h1
      cases hc
      have hu : u = v := by simpa only [V] using hv
      subst hu
      cases u <;> simp [oneCell] at h1 <;> simp [Value.cells, VL, V]
    · cases hc
  · cases hc
  · cases hc
  · rename_i hn1 hn2 hn3 hn4
    cases hc
    have hu : u.cells = #[u] := by
      cases x <;> simp only [V] at hv
      · exact absurd rfl (hn2 _)
      · exact absurd rfl hn4
      · obtain ⟨b, _, rfl⟩ := hv; rfl
      · obtain ⟨b, _, rfl, _⟩ := hv; rfl
      · obtain ⟨b, _, rfl, _⟩ := hv; rfl
      · obtain ⟨b, _, _, _, _, _, _, rfl⟩ := hv; rfl
      · obtain ⟨b, _, rfl, _⟩ := hv; rfl
      · exact absurd rfl (hn1 _)
      · exact absurd rfl (hn3 _)
      · obtain ⟨b, _, rfl⟩ := hv; rfl
    rw [hu]
    simp only [VL]
    exact ⟨u, [], rfl, hv, rfl⟩
section
variable {P : Program} {E : Env0} {o : Oper} {C : Cl} {e : Env} {h h' : Heap} {v : AV} {S : St} {B : Nat} {W : World} {a : Act}
theorem ex_acc {x : Operand} (hop : o.op = .move x ∨ o.op = .assign x) (hxx : x = .const (.slice none 0 0)) {k : Option Nat} (hx : aop C (.acc k (.cst .nil)) e h = some (v, h')) (r : Rel S h B W) : ExOK P o a S h' v B W := by
  simp only [aop, evO] at hx
  cases hx
  refine ⟨_, .slice none 0 0, W, S, by rcases hop with hop | hop <;> simp [execOp, hop, hxx, Act.eval], .inl rfl, Ext.refl S, r.newRow k 0, ?_, Below.refl B W⟩
  simp only [V]
  exact ⟨none, 0, rfl, Nat.le_refl _, ⟨Nat.zero_le _, .inl rfl⟩, .inl trivial⟩
theorem ex_alloc {t : TypeId} (hop : o.op = .alloc t) {z : Value} (hz : zeroOf P t = some z) (h1 : z.cells.toList.all (·.oneCell') = true) (hx : aop C (.alloc (z.cells.toList.map .sc)) e h = some (v, h')) (r : Rel S h B W) : ExOK P o a S h' v B W := by
  simp only [aop] at hx
  cases hx
  obtain ⟨r', ex⟩ := r.newBox (z.cells.toList.map .sc) z.cells t (VL_map_sc _) (fun u hu => List.all_eq_true.1 h1 u hu)
  refine ⟨_, .pointer (some ⟨W.heap.size, 0, none⟩), _, _, ?_, .inl rfl, ex, r', ?_, (Below.refl B W).alloc r.base _⟩
  · simp [execOp, hop, Instr.alloc, run_zero' hz, newVar, newRow]
  · simp [V, addBlk]
theorem ex_box {t : TypeId} {x : Operand} (hop : o.op = .box t x) {x' : Opd} (h1 : compO E x = some x') (hx : aop C (.box x') e h = some (v, h')) (r : Rel S h B W) (he : EnvR S e a E.nt) (hg : GlobOK E.gl S.imm) : ExOK P o a S h' v B W := by
  simp only [aop, Option.bind_eq_some_iff] at hx
  obtain ⟨cs, hc, hx⟩ := hx
  split at hx
  · rename_i h1'
    cases hx
    have hv := cellsOf_V (evO_V he hg h1) hc
    obtain ⟨r', ex⟩ := r.newBox cs (a.eval x).cells t hv (oneL_V h1' hv)
    refine ⟨_, .pointer (some ⟨W.heap.size, 0, none⟩), _, _, ?_, .inl rfl, ex, r', ?_, (Below.refl B W).alloc r.base _⟩
    · simp [execOp, hop, Instr.box, newVar, newRow]
    · simp [V, addBlk]
  · cases hx
/-! ### stores -/
theorem run_store_box {id b off : Nat} {ex : Bool} {cs xs : List AV} {us : List Value} (hx : h[id]? = some (.box ex cs)) (hb : S.blk id 0 = some b) (r : Rel S h B W) (hv : VL S xs us) (h1 : ∀ u ∈ us, u.oneCell' = true) (hl : off + xs.length ≤ cs.length) :
    (storeCells ⟨b, off, none⟩ us).run P W = .ok () (W.setCells b off us) ∧ Rel S (h.set id (.box ex (setAt cs off xs))) B (W.setCells b off us) ∧ Below B W (W.setCells b off us) := by
  obtain ⟨b', c, e', p1, p2, p3, p4, p5, p6, p7, p8, p9⟩ := r.obj _ _ hx
  rw [hb] at p1
  cases p1
  have hcl : cs.length ≤ c.size := by
    have := p4.length
    simp at this
    omega
  have hul := hv.length
  refine ⟨?_, Rel.setCells hb xs us off cs h W r hx hv h1, below_setCells p2 us off W W (Below.refl B W)⟩
  have := run_storeCells_cells (P := P) b off us 0 W (fun j hj => by rw [Nat.add_zero, cell_of p3.1, Option.isSome_iff_exists]; exact ⟨_, Array.getElem?_eq_getElem (by omega)⟩) (fun j hj => by rw [Nat.add_zero]; exact frozen_of p3 (by omega)) h1
  simpa using this
theorem ex_store {t : TypeId} {x y : Operand} (hop : o.op = .store t x y) {i : TypeInfo} (hi : P.info? t = some i) {x' y' : Opd} (h1 : compO E x = some x') (h2 : compO E y = some y') (hx : aop C (.store i.size x' y') e h = some (v, h')) (r : Rel S h B W) (he : EnvR S e a E.nt) (hg : GlobOK E.gl S.imm) : ExOK P o a S h' v B W := by
  have hv := evO_V he hg h1
  simp only [aop] at hx
  split at hx
  · rename_i id off hp
    rw [hp] at hv
    simp only [V] at hv
    obtain ⟨b, q1, q2⟩ := hv
    simp only [Option.bind_eq_some_iff] at hx
    obtain ⟨xs, hc, hx⟩ := hx
    split at hx
    · rename_i hn
      simp only [Option.map_eq_some_iff, Prod.mk.injEq] at hx
      obtain ⟨h2', hst, rfl, rfl⟩ := hx
      simp only [storeB, Option.bind_eq_some_iff] at hst
      obtain ⟨cs, hbx, hst⟩ := hst
      split at hst
      · rename_i hle
        cases hst
        have hvc := cellsOf_V (evO_V he hg h2) hc
        have hb0 := (box_rel r hbx).1
        obtain ⟨s1, s2, s3⟩ := run_store_box (P := P) hb0 q1 r hvc (oneL_V hn.2 hvc) hle
        refine ⟨.skip, Go.undef, _, S, ?_, .inr ⟨rfl, rfl⟩, Ext.refl S, s2, V_sc _, s3⟩
        have hsz : (a.eval y).cells.size = i.size := by have := hvc.length; simp at this; omega
        simp [execOp, hop, Instr.storeAt, Instr.sureAddr, q2, storeVar, run_sizeOf' hi, hsz, s1]
      · cases hst
    · cases hx
  · cases hx
/-! ### elements that can be read -/
def shp (k : Option Nat) : AV → Prop
  | .agg cs => k = some cs.length
  | _ => k = none
theorem shp_len {k : Option Nat} {x : AV} (hs : shp k x) : (elCells x).length = kz k := by
  cases x <;> simp only [shp] at hs <;> subst hs <;> rfl
theorem V1_shp {k : Option Nat} {x : AV} {b o' : Nat} (hv : V1 S k x b o') : shp k x := by
  cases x <;> simp only [V1] at hv <;> exact hv.1
/-- a slice (or a string) of n elements: its cells -/
def Els (P : Program) (W : World) (k : Option Nat) (p : Value) (n : Nat) (us : List Value) : Prop :=
  us.length = n * kz k ∧ ((∃ ao cap, p = .slice ao n cap ∧ (n = 0 ∨ ∃ b o, ao = some ⟨b, o, none⟩ ∧ ∀ j u, us[j]? = some u → W.cell? ⟨b, o + j, none⟩ = some u)) ∨ ∃ s : ByteArray, p = .string s ∧ k = none ∧ n = s.size ∧ us = s.data.toList.map fun b => .int .u8 b.toNat)
theorem VE_cells (r : Rel S h B W) {k : Option Nat} : ∀ {els : List AV} {b o' : Nat}, VE S k els b o' → ∃ us : List Value, us.length = els.length * kz k ∧ VL S (els.map elCells).flatten us ∧ (∀ u ∈ us, u.oneCell' = true) ∧ (∀ j u, us[j]? = some u → S.imm b (o' + j) = some u) ∧ ∀ x ∈ els, shp k x
  | [], b, o', hv => ⟨[], by simp, by simp [VL], by simp, fun j u hj => by simp at hj, by simp⟩
  | x :: xs, b, o', hv => by
    rw [VE.cons] at hv
    obtain ⟨us, g1, g2, g3, g4, g5⟩ := VE_cells r hv.2
    obtain ⟨m1, m2⟩ := hv.1.cells
    have hex : ∀ (cs : List AV) (q : Nat), VM S cs b q → ∃ ws : List Value, ws.length = cs.length ∧ VL S cs ws ∧ (∀ u ∈ ws, u.oneCell' = true) ∧ ∀ j u, ws[j]? = some u → S.imm b (q + j) = some u := by
      intro cs
      induction cs with
      | nil => intro q _; exact ⟨[], rfl, by simp [VL], by simp, fun j u hj => by simp at hj⟩
      | cons c cs ih =>
        intro q hm
        simp only [VM] at hm
        obtain ⟨⟨u, e1, e2⟩, e3⟩ := hm
        obtain ⟨ws, f1, f2, f3, f4⟩ := ih (q + 1) e3
        refine ⟨u :: ws, by simp [f1], by simp only [VL]; exact ⟨u, ws, rfl, e2, f2⟩, fun w hw => ?_, fun j w hj => ?_⟩
        · rcases List.mem_cons.1 hw with rfl | hw
          · exact (r.imm _ _ _ e1).2
          · exact f3 w hw
        · cases j with
          | zero => simp at hj; subst hj; exact e1
          | succ j => rw [show q + (j + 1) = q + 1 + j by omega]; exact f4 j w (by simpa using hj)
    obtain ⟨ws, f1, f2, f3, f4⟩ := hex _ _ m1
    refine ⟨ws ++ us, ?_, ?_, ?_, ?_, ?_⟩
    · rw [List.length_append, f1, m2, g1, List.length_cons, Nat.succ_mul]; omega
    · rw [List.map_cons, List.flatten_cons]; exact f2.append g2
    · intro u hu
      rcases List.mem_append.1 hu with hu | hu
      · exact f3 u hu
      · exact g3 u hu
    · intro j u hj
      rw [List.getElem?_append] at hj
      split at hj
      · exact f4 j u hj
      · rename_i hlt
        have := g4 _ u hj
        rw [← this]
        congr 1
        omega
    · intro y hy
      rcases List.mem_cons.1 hy with rfl | hy
      · exact V1_shp hv.1
      · exact g5 y hy
theorem aggs_flat (s : Nat) : ∀ (n : Nat) (cs : List AV), n * s ≤ cs.length → ((aggs s n cs).map elCells).flatten = cs.take (n * s) ∧ ∀ x ∈ aggs s n cs, shp (some s) x
  | 0, cs, _ => by simp [aggs]
  | n + 1, cs, hl => by
    rw [Nat.succ_mul] at hl ⊢
    obtain ⟨g1, g2⟩ := aggs_flat s n (cs.drop s) (by rw [List.length_drop]; omega)
    refine ⟨?_, ?_⟩
    · simp only [aggs, List.map_cons, List.flatten_cons, elCells, g1]
      rw [Nat.add_comm (n * s) s, List.take_add]
    · intro x hx
      simp only [aggs, List.mem_cons] at hx
      rcases hx with rfl | hx
      · simp only [shp, List.length_take]; congr 1; omega
      · exact g2 x hx
theorem flat_single : ∀ (cs : List AV), (∀ x ∈ cs, ∀ c, x ≠ .agg c) → (cs.map elCells).flatten = cs ∧ ∀ x ∈ cs, shp none x
  | [], _ => by simp
  | x :: cs, hn => by
    obtain ⟨g1, g2⟩ := flat_single cs (fun y hy => hn y (by simp [hy]))
    have hx : elCells x = [x] := by
      cases x <;> first | rfl | exact absurd rfl (hn _ List.mem_cons_self _)
    refine ⟨by simp [hx, g1], fun y hy => ?_⟩
    rcases List.mem_cons.1 hy with rfl | hy
    · cases y <;> first | rfl | exact absurd rfl (hn _ List.mem_cons_self _)
    · exact g2 y hy
theorem VL_noagg {S : St} : ∀ {x : List AV} {u : List Value}, VL S x u → (∀ w ∈ u, w.oneCell' = true) → ∀ y ∈ x, ∀ c, y ≠ .agg c
  | [], u, _, _, y, hy => by cases hy
  | x :: xs, u, hv, h1, y, hy => by
    simp only [VL] at hv
    obtain ⟨a, l, rfl, h2, h3⟩ := hv
    rcases List.mem_cons.1 hy with rfl | hy
    · exact not_agg h2 (h1 a (by simp))
    · exact VL_noagg h3 (fun w hw => h1 w (by simp [hw])) y hy
theorem msEls_cells (r : Rel S h B W) {id off len : Nat} {k : Option Nat} {els : List AV} (hm : msEls h id off k len = some els) {b : Nat} (hb : S.blk id 0 = some b) : els.length = len ∧ ∃ us : List Value, us.length = len * kz k ∧ VL S (els.map elCells).flatten us ∧ (∀ u ∈ us, u.oneCell' = true) ∧ (∀ j u, us[j]? = some u → W.cell? ⟨b, off + j, none⟩ = some u) ∧ ∀ x ∈ els, shp k x := by
  simp only [msEls, Option.bind_eq_some_iff] at hm
  obtain ⟨cs, hbx, hm⟩ := hm
  split at hm
  · rename_i hl
    cases hm
    obtain ⟨_, b', c, e', p1, p2, p3, p4, p5, p6, p7, p8⟩ := box_rel r hbx
    rw [hb] at p1
    cases p1
    have hll : len * kz k ≤ (cs.drop off).length := by rw [List.length_drop]; omega
    have hlc : (c.toList.take cs.length).length = cs.length := by simp; omega
    have hdt : ((c.toList.take cs.length).drop off).take (len * kz k) = (c.toList.drop off).take (len * kz k) := by
      rw [List.drop_take, List.take_take, Nat.min_eq_left (by omega)]
    have hvd := (p4.drop off).take (len * kz k)
    rw [hdt] at hvd
    have h1d : ∀ u ∈ (c.toList.drop off).take (len * kz k), u.oneCell' = true := fun u hu => p5 u (List.mem_of_mem_drop (List.mem_of_mem_take hu))
    have hflat : ((chunks k len (cs.drop off)).map elCells).flatten = (cs.drop off).take (len * kz k) ∧ ∀ x ∈ chunks k len (cs.drop off), shp k x := by
      cases k with
      | some s => exact aggs_flat s len _ hll
      | none =>
        simp only [chunks, kz, Option.getD_none, Nat.mul_one] at *
        exact flat_single _ (VL_noagg hvd h1d)
    refine ⟨chunks_length hll, (c.toList.drop off).take (len * kz k), ?_, ?_, h1d, ?_, hflat.2⟩
    · rw [List.length_take, List.length_drop, Array.length_toList]; omega
    · rw [hflat.1]; exact hvd
    · intro j u hj
      rw [List.getElem?_take] at hj
      split at hj
      · rw [List.getElem?_drop] at hj
        rw [cell_of p3.1]
        simpa using hj
      · cases hj
  · cases hm
theorem els_ok (r : Rel S h B W) {k : Option Nat} {x : AV} {p : Value} {els : List AV} (hv : V S x p) (he : elemsOf h k x = some els) : ∃ us, Els P W k p els.length us ∧ VL S (els.map elCells).flatten us ∧ (∀ u ∈ us, u.oneCell' = true) ∧ ∀ x ∈ els, shp k x := by
  unfold elemsOf at he
  split at he
  · split at he
    · rename_i hk
      subst hk
      cases he
      simp only [V] at hv
      obtain ⟨ao, cap, q1, q2, q3, q4⟩ := hv
      rcases q4 with rfl | ⟨b, o', rfl, q4⟩
      · exact ⟨[], ⟨by simp, .inl ⟨ao, cap, q1, .inl rfl⟩⟩, by simp [VL], by simp, by simp⟩
      · obtain ⟨us, g1, g2, g3, g4, g5⟩ := VE_cells r q4
        exact ⟨us, ⟨g1, .inl ⟨_, cap, q1, .inr ⟨b, o', rfl, fun j u hj => (r.imm _ _ _ (g4 j u hj)).1⟩⟩⟩, g2, g3, g5⟩
    · cases he
  · split at he
    · rename_i hk
      subst hk
      simp only [V] at hv
      obtain ⟨b, N, cap, q1, q2, q3, q4, q5⟩ := hv
      obtain ⟨hlen, us, g1, g2, g3, g4, g5⟩ := msEls_cells r he q1
      exact ⟨us, ⟨by rw [hlen]; exact g1, .inl ⟨_, cap, by rw [hlen]; exact q5, .inr ⟨b, _, rfl, g4⟩⟩⟩, g2, g3, g5⟩
    · cases he
  · cases he
    simp only [V] at hv
    exact ⟨[], ⟨by simp, .inl ⟨_, _, hv, .inl rfl⟩⟩, by simp [VL], by simp, by simp⟩
  · split at he
    · rename_i s hk
      subst hk
      cases he
      simp only [V] at hv
      have hna : ∀ x ∈ strEls s, ∀ c, x ≠ .agg c := by
        intro x hx c
        simp only [strEls, List.mem_map] at hx
        obtain ⟨b, _, rfl⟩ := hx
        exact fun hh => by cases hh
      obtain ⟨f1, f2⟩ := flat_single _ hna
      refine ⟨s.data.toList.map fun b => .int .u8 b.toNat, ⟨by simp [strEls, kz], .inr ⟨s, hv, rfl, by simp [strEls], rfl⟩⟩, ?_, ?_, f2⟩
      · rw [f1]; exact VL.map _ _ _ fun b _ => V_sc _
      · intro u hu
        simp only [List.mem_map] at hu
        obtain ⟨b, _, rfl⟩ := hu
        rfl
    · cases he
  · cases he
theorem run_lenOf {k : Option Nat} {p : Value} {n : Nat} {us : List Value} (hE : Els P W k p n us) (W' : World) : (Builtin.lenOf p).run P W' = .ok n W' := by
  obtain ⟨_, ⟨ao, cap, rfl, _⟩ | ⟨s, rfl, _, rfl, _⟩⟩ := hE <;> rfl
theorem run_firsts {k : Option Nat} {p : Value} {n : Nat} {us : List Value} (hE : Els P W k p n us) (m : Nat) (hm : m ≤ n) {W' : World} (hw : ∀ ad, W'.cell? ad = W.cell? ad) : (Builtin.firstCells (kz k) m p).run P W' = .ok (us.take (m * kz k)).toArray W' := by
  obtain ⟨hl, ⟨ao, cap, rfl, hc⟩ | ⟨s, rfl, rfl, rfl, rfl⟩⟩ := hE
  · rcases hc with rfl | ⟨b, o', rfl, hc⟩
    · have : m = 0 := by omega
      subst this
      cases ao <;> simp [Builtin.firstCells, loadCells, loadCellsFrom]
    · refine run_firstCells_some (P := P) W' (kz k) m ⟨b, o', none⟩ n cap _ ?_ ?_
      · rw [List.length_take, hl, Nat.min_eq_left (Nat.mul_le_mul_right _ hm)]
      · intro j u hj
        rw [add_at, hw]
        rw [List.getElem?_take] at hj
        split at hj
        · exact hc j u hj
        · cases hj
  · simp only [Builtin.firstCells, Sem.run_pure, kz, Option.getD_none, Nat.mul_one]
    congr 1
    apply Array.ext'
    simp only [Array.toList_map, ByteArray.data_extract, Array.toList_extract, List.extract, List.drop_zero, Nat.sub_zero, List.map_take]
end
end Go.Proofs.Ytipbmacpenmgoaa.AM

/- Each operation of the model does what the plain machine's does: structs, slices made, appended to, copied. -/
namespace Go.Proofs.Ytipbmacpenmgoaa.AM
open Go Go.RowKit
set_option linter.unusedVariables false
set_option linter.unusedSimpArgs false
def setV : List Value → Nat → List Value → List Value
  | cs, _, [] => cs
  | cs, o, x :: xs => setV (cs.set o x) (o + 1) xs
theorem VL.setAt {S : St} : ∀ {xs : List AV} {us : List Value} {cs : List AV} {ws : List Value} (o : Nat), VL S cs ws → VL S xs us → VL S (setAt cs o xs) (setV ws o us)
  | [], us, cs, ws, o, h, k => by simp only [VL] at k; subst k; exact h
  | x :: xs, us, cs, ws, o, h, k => by
    simp only [VL] at k
    obtain ⟨u, l, rfl, k1, k2⟩ := k
    exact VL.setAt (o + 1) (h.set o k1) k2
theorem foldl_set (off : Nat) : ∀ (l : List Value) (j : Nat) (cells : Array Value), ((l.zipIdx j).foldl (fun cs (x : Value × Nat) => cs.setIfInBounds (off + x.2) x.1) cells).toList = setV cells.toList (off + j) l
  | [], j, cells => rfl
  | x :: l, j, cells => by
    rw [List.zipIdx_cons, List.foldl_cons, foldl_set off l (j + 1), setV, Array.toList_setIfInBounds]
    rfl
theorem fill_step {place : Nat → Option (Nat × Nat)} {cells : Array Value} {i : Nat} {v : Value} {rest : List (Nat × Value)} {o n : Nat} (hp : place i = some (o, n)) (h1 : v.cells.size = n) (h2 : o + n ≤ cells.size) :
    ∃ cells', Instr.fill place cells ((i, v) :: rest) = Instr.fill place cells' rest ∧ cells'.toList = setV cells.toList o v.cells.toList := by
  refine ⟨_, by simp only [Instr.fill, hp]; rw [if_neg (by simp [h1]; omega)], ?_⟩
  rw [← Array.foldl_toList, Array.toList_zipIdx]
  have := foldl_set o v.cells.toList 0 cells
  rw [Nat.add_zero] at this
  exact this
theorem setV_length : ∀ (xs cs : List Value) (o : Nat), (setV cs o xs).length = cs.length
  | [], cs, o => rfl
  | x :: xs, cs, o => by rw [setV, setV_length xs]; simp
theorem strip_V {S : St} {x : AV} {u : Value} (h : V S x u) : V S (strip x) u := by
  cases x <;> try exact h
  rename_i own k els
  simp only [strip, V] at *
  obtain ⟨ao, cap, h1, h2, h3, h4⟩ := h
  refine ⟨ao, cap, h1, h2, ?_, h4⟩
  cases own <;> simp only [stripO, OwnV] at * 
  exact h3
theorem stripL_V {S : St} : ∀ {x : List AV} {u : List Value}, VL S x u → VL S (x.map strip) u
  | [], u, h => h
  | x :: xs, u, h => by
    simp only [VL, List.map_cons] at *
    obtain ⟨a, l, h1, h2, h3⟩ := h
    exact ⟨a, l, h1, strip_V h2, stripL_V h3⟩
section
variable {P : Program} {E : Env0} {o : Oper} {C : Cl} {e : Env} {h h' : Heap} {v : AV} {S : St} {B : Nat} {W : World} {a : Act}
theorem ex_boxI {t : TypeId} {x : Operand} (hop : o.op = .box t x) {x' : Opd} (h1 : compO E x = some x') (hx : aop C (.boxI x') e h = some (v, h')) (r : Rel S h B W) (he : EnvR S e a E.nt) (hg : GlobOK E.gl S.imm) : ExOK P o a S h' v B W := by
  simp only [aop, Option.bind_eq_some_iff] at hx
  obtain ⟨cs, hc, hx⟩ := hx
  split at hx
  · rename_i h1'
    cases hx
    have hv := stripL_V (cellsOf_V (evO_V he hg h1) hc)
    obtain ⟨r', ex⟩ := r.newImm (a.eval x).cells t (0, 0) (oneL_V h1' hv)
    refine ⟨_, .pointer (some ⟨W.heap.size, 0, none⟩), _, _, ?_, .inl rfl, ex, r', ?_, (Below.refl B W).alloc r.base _⟩
    · simp [execOp, hop, Instr.box, newVar, newRow]
    · simp only [V]
      refine ⟨W.heap.size, 0, rfl, VM.mk fun j y hj => ?_⟩
      obtain ⟨u, g1, g2⟩ := hv.get hj
      refine ⟨u, ?_, V.mono ex y g2⟩
      simp only [addImm, if_true, Nat.zero_add]
      simpa using g1
  · cases hx
theorem fill_parts {place : Nat → Option (Nat × Nat)} (he : EnvR S e a E.nt) (hg : GlobOK E.gl S.imm) : ∀ {parts : List (Nat × Operand)} {parts' : List (Nat × Nat × Opd)} {cs cs' : List AV} {cells : Array Value}, compParts E place parts = some parts' → setParts e cs parts' = some cs' → VL S cs cells.toList →
    ∃ cells', Instr.fill place cells (parts.map fun (i, x) => (i, a.eval x)) = some cells' ∧ VL S cs' cells'.toList
  | [], parts', cs, cs', cells, hc, hs, hv => by
    simp only [compParts] at hc
    cases hc
    simp only [setParts] at hs
    cases hs
    exact ⟨cells, rfl, hv⟩
  | (i, x) :: r, parts', cs, cs', cells, hc, hs, hv => by
    simp only [compParts, Option.bind_eq_some_iff, Option.map_eq_some_iff, Prod.exists] at hc
    obtain ⟨o', n, hp, x', hx, r', hr, rfl⟩ := hc
    simp only [setParts, Option.bind_eq_some_iff] at hs
    obtain ⟨xs, hxs, hs⟩ := hs
    split at hs
    · rename_i hcond
      have hv' := cellsOf_V (evO_V he hg hx) hxs
      have hl := hv.length
      have hl' := hv'.length
      simp only [Array.length_toList] at hl hl'
      obtain ⟨cells1, g1, g2⟩ := fill_step (v := a.eval x) (rest := r.map fun (i, x) => (i, a.eval x)) (cells := cells) hp (by omega) (by omega)
      obtain ⟨cells2, g3, g4⟩ := fill_parts he hg (cells := cells1) hr hs (by rw [g2]; exact hv.setAt o' (stripL_V hv'))
      exact ⟨cells2, by rw [List.map_cons, g1, g3], g4⟩
    · cases hs
theorem run_places {fs : Array Field} (hall : fs.toList.all (fun f => (P.info? f.type).isSome) = true) : ∃ pl : Array (Nat × Nat), (∀ W, (fs.mapM (m := Sem) (fun f => do pure (f.offset, ← Go.sizeOf f.type))).run P W = .ok pl W) ∧ ∀ i : Nat, pl[i]? = (fs[i]?).bind fun f => (P.info? f.type).map fun i => (f.offset, i.size) := by
  have key : ∀ l : List Field, l.all (fun f => (P.info? f.type).isSome) = true → ∃ pl : List (Nat × Nat), (∀ W, (l.mapM (m := Sem) (fun f => do pure (f.offset, ← Go.sizeOf f.type))).run P W = .ok pl W) ∧ ∀ i : Nat, pl[i]? = (l[i]?).bind fun f => (P.info? f.type).map fun i => (f.offset, i.size) := by
    intro l
    induction l with
    | nil => intro _; exact ⟨[], fun W => by simp, by simp⟩
    | cons f l ih =>
      intro hl
      simp only [List.all_cons, Bool.and_eq_true] at hl
      obtain ⟨pl, g1, g2⟩ := ih hl.2
      obtain ⟨inf, hinf⟩ := Option.isSome_iff_exists.1 hl.1
      refine ⟨(f.offset, inf.size) :: pl, fun W => by rw [List.mapM_cons]; simp only [Sem.run_bind, run_sizeOf' hinf, Result.andThen_ok, Sem.run_pure, g1], fun i => ?_⟩
      cases i with
      | zero => simp [hinf]
      | succ i => simpa using g2 i
  obtain ⟨pl, g1, g2⟩ := key fs.toList hall
  refine ⟨pl.toArray, fun W => ?_, fun i => by simpa using g2 i⟩
  rw [Array.mapM_eq_mapM_toList]
  simp only [Sem.run_map, g1, Result.andThen_ok]
theorem ex_build {t : TypeId} {parts : Array (Nat × Operand)} (hop : o.op = .build t parts) {z : Value} (hz : zeroOf P t = some z) {u : TypeDesc} (ht : P.underlying t = some u) {parts' : List (Nat × Nat × Opd)}
    (hu : (∃ fs, u = .struct fs ∧ fs.toList.all (fun f => (P.info? f.type).isSome) = true ∧ compParts E (fun i => (fs[i]?).bind fun f => (P.info? f.type).map fun i => (f.offset, i.size)) parts.toList = some parts') ∨ (∃ n el i, u = .array n el ∧ P.info? el = some i ∧ compParts E (fun j => some (j * i.size, i.size)) parts.toList = some parts'))
    (hx : aop C (.build (z.cells.toList.map .sc) parts') e h = some (v, h')) (r : Rel S h B W) (he : EnvR S e a E.nt) (hg : GlobOK E.gl S.imm) : h' = h ∧ ExS P o a S v := by
  simp only [aop, Option.map_eq_some_iff, Prod.mk.injEq] at hx
  obtain ⟨cs, hs, rfl, rfl⟩ := hx
  have hmap : (parts.map fun (i, x) => (i, a.eval x)).toList = parts.toList.map fun (i, x) => (i, a.eval x) := by simp
  rcases hu with ⟨fs, rfl, hall, hc⟩ | ⟨n, el, i, rfl, hi, hc⟩
  · obtain ⟨pl, p1, p2⟩ := run_places hall
    obtain ⟨cells', g1, g2⟩ := fill_parts he hg (cells := z.cells) hc hs (VL_map_sc _)
    refine ⟨rfl, .mk (u := .agg cells') (fun W => ?_) (by simp only [V]; exact ⟨_, rfl, g2⟩)⟩
    have hpl : (fun (x : Nat) => pl[x]?) = fun i => (fs[i]?).bind fun f => (P.info? f.type).map fun i => (f.offset, i.size) := funext p2
    have hfill : Instr.fill (fun (x : Nat) => pl[x]?) z.cells (parts.map fun (i, x) => (i, a.eval x)).toList = some cells' := by rw [hmap, hpl]; exact g1
    simp only [execOp, hop, Instr.build, Sem.run_bind, run_zero' hz, Result.andThen_ok, run_underlying' ht, p1, hfill, Sem.run_pure]
  · obtain ⟨cells', g1, g2⟩ := fill_parts he hg (cells := z.cells) hc hs (VL_map_sc _)
    refine ⟨rfl, .mk (u := .agg cells') (fun W => ?_) (by simp only [V]; exact ⟨_, rfl, g2⟩)⟩
    have hfill : Instr.fill (fun j => some (j * i.size, i.size)) z.cells (parts.map fun (i, x) => (i, a.eval x)).toList = some cells' := by rw [hmap]; exact g1
    simp only [execOp, hop, Instr.build, Sem.run_bind, run_zero' hz, Result.andThen_ok, run_underlying' ht, run_sizeOf' hi, hfill, Sem.run_pure]
/-! ### slices' elements in a block -/
theorem setAt_eq : ∀ (xs cs : List AV) (o : Nat), o + xs.length ≤ cs.length → setAt cs o xs = cs.take o ++ xs ++ cs.drop (o + xs.length)
  | [], cs, o, _ => by simp [setAt]
  | x :: xs, cs, o, hl => by
    simp only [List.length_cons] at hl
    rw [setAt, setAt_eq xs _ _ (by rw [List.length_set]; omega)]
    have h1 : (cs.set o x).take (o + 1) = cs.take o ++ [x] := by
      rw [List.take_succ_eq_append_getElem (by rw [List.length_set]; omega), List.take_set_of_le (Nat.le_refl _)]
      simp
    have h2 : (cs.set o x).drop (o + 1 + xs.length) = cs.drop (o + (xs.length + 1)) := by
      rw [List.drop_set_of_lt (by omega)]
      congr 1
      omega
    rw [h1, h2]
    simp
def flat (els : List AV) : List AV := (els.map elCells).flatten
theorem flat_length {k : Option Nat} : ∀ {els : List AV}, (∀ x ∈ els, shp k x) → (flat els).length = els.length * kz k
  | [], _ => by simp [flat]
  | x :: els, hs => by
    have := flat_length (els := els) fun y hy => hs y (by simp [hy])
    simp only [flat, List.map_cons, List.flatten_cons, List.length_append, List.length_cons, Nat.succ_mul] at *
    rw [this, shp_len (hs x (by simp))]
    omega
theorem flat_set {k : Option Nat} : ∀ {els : List AV} {i : Nat} {x : AV}, (∀ y ∈ els, shp k y) → shp k x → i < els.length → flat (els.set i x) = setAt (flat els) (i * kz k) (elCells x)
  | [], i, x, _, _, hi => by simp at hi
  | y :: els, 0, x, hs, hx, hi => by
    have h1 := shp_len hx
    have h2 := shp_len (hs y (by simp))
    rw [setAt_eq _ _ _ (by simp only [flat, List.map_cons, List.flatten_cons, List.length_append]; omega)]
    simp only [List.set_cons_zero, flat, List.map_cons, List.flatten_cons, Nat.zero_mul, List.take_zero, List.nil_append, Nat.zero_add]
    rw [h1, ← h2, List.drop_left]
  | y :: els, i + 1, x, hs, hx, hi => by
    have h1 := shp_len hx
    have h2 := shp_len (hs y (by simp))
    have hl := flat_length (els := els) fun z hz => hs z (by simp [hz])
    have hi' : i < els.length := by simpa using hi
    have hmul : (i + 1) * kz k ≤ els.length * kz k := Nat.mul_le_mul_right _ hi'
    rw [Nat.succ_mul] at hmul
    have ih := flat_set (els := els) (i := i) (x := x) (fun z hz => hs z (by simp [hz])) hx hi'
    rw [setAt_eq _ _ _ (by omega)] at ih
    rw [setAt_eq _ _ _ (by simp only [flat, List.map_cons, List.flatten_cons, List.length_append] at *; rw [Nat.succ_mul]; omega)]
    simp only [List.set_cons_succ, flat, List.map_cons, List.flatten_cons] at *
    rw [ih]
    have e1 : (i + 1) * kz k = (elCells y).length + i * kz k := by rw [Nat.succ_mul, h2]; omega
    rw [e1, List.take_length_add_append, List.append_assoc, List.append_assoc, List.append_assoc]
    congr 2
    rw [Nat.add_assoc, List.drop_length_add_append]
theorem elFits_shp {k : Option Nat} {x : AV} (hf : elFits k x = true) : shp k x ∧ oneL (elCells x) = true := by
  cases x <;> simp only [elFits, shp, elCells, oneL, Bool.and_eq_true, beq_iff_eq, Bool.and_true] at * <;> first | exact ⟨hf.1, hf.2⟩ | exact ⟨hf.2, hf.1⟩
theorem stripEl_V {S : St} {x : AV} {u : Value} (h : V S x u) : V S (stripEl x) u := by
  cases x <;> try exact strip_V h
  rename_i cs
  simp only [stripEl, V] at h ⊢
  obtain ⟨a, h1, h2⟩ := h
  exact ⟨a, h1, stripL_V h2⟩
theorem stripElL_V {S : St} : ∀ {x : List AV} {u : List Value}, VL S x u → VL S (x.map stripEl) u
  | [], _, h => h
  | x :: xs, u, h => by
    simp only [List.map_cons, VL] at h ⊢
    obtain ⟨a, l, h1, h2, h3⟩ := h
    exact ⟨a, l, h1, stripEl_V h2, stripElL_V h3⟩
theorem stripM_V {S : St} : ∀ {x : List AV} {b o : Nat}, VM S x b o → VM S (x.map strip) b o
  | [], _, _, h => h
  | x :: xs, b, o, h => by
    simp only [List.map_cons, VM] at h ⊢
    obtain ⟨⟨u, h1, h2⟩, h3⟩ := h
    exact ⟨⟨u, h1, strip_V h2⟩, stripM_V h3⟩
theorem stripE_V {S : St} {k : Option Nat} : ∀ {x : List AV} {b o : Nat}, VE S k x b o → VE S k (x.map stripEl) b o
  | [], _, _, h => h
  | .agg cs :: r, b, o, h => by
    simp only [List.map_cons, stripEl, VE, List.length_map] at h ⊢
    exact ⟨h.1, stripM_V h.2.1, stripE_V h.2.2⟩
  | .sc v :: r, b, o, h => by
    simp only [List.map_cons, stripEl, strip, VE] at h ⊢
    exact ⟨h.1, h.2.1, stripE_V h.2.2⟩
  | .unk :: r, b, o, h => by
    simp only [List.map_cons, stripEl, strip, VE] at h ⊢
    exact ⟨h.1, h.2.1, stripE_V h.2.2⟩
  | .ptr i f :: r, b, o, h => by
    simp only [List.map_cons, stripEl, strip, VE] at h ⊢
    exact ⟨h.1, h.2.1, stripE_V h.2.2⟩
  | .ref c :: r, b, o, h => by
    simp only [List.map_cons, stripEl, strip, VE] at h ⊢
    exact ⟨h.1, h.2.1, stripE_V h.2.2⟩
  | .slice w q l :: r, b, o, h => by
    simp only [List.map_cons, stripEl, strip, VE] at h ⊢
    obtain ⟨h0, ⟨u, h1, h2⟩, h3⟩ := h
    exact ⟨h0, ⟨u, h1, strip_V (x := .slice w q l) h2⟩, stripE_V h3⟩
  | .ms i f q l :: r, b, o, h => by
    simp only [List.map_cons, stripEl, strip, VE] at h ⊢
    exact ⟨h.1, h.2.1, stripE_V h.2.2⟩
  | .func f x y :: r, b, o, h => by
    simp only [List.map_cons, stripEl, strip, VE] at h ⊢
    exact ⟨h.1, h.2.1, stripE_V h.2.2⟩
  | .tup vs :: r, b, o, h => by
    simp only [List.map_cons, stripEl, strip, VE] at h ⊢
    exact ⟨h.1, h.2.1, stripE_V h.2.2⟩
  | .map i :: r, b, o, h => by
    simp only [List.map_cons, stripEl, strip, VE] at h ⊢
    exact ⟨h.1, h.2.1, stripE_V h.2.2⟩
theorem deepEl_V {S : St} {x : AV} {u : Value} (h : V S x u) : V S (deepEl x) u := by
  cases x <;> try exact stripEl_V h
  rename_i o k els
  have h := strip_V h
  simp only [deepEl, strip, V, List.length_map] at h ⊢
  obtain ⟨ao, cap, h1, h2, h3, h4⟩ := h
  refine ⟨ao, cap, h1, h2, h3, ?_⟩
  rcases h4 with rfl | ⟨b, o, h4, h5⟩
  · exact .inl rfl
  · exact .inr ⟨b, o, h4, stripE_V h5⟩
theorem deepElL_V {S : St} : ∀ {x : List AV} {u : List Value}, VL S x u → VL S (x.map deepEl) u
  | [], _, h => h
  | x :: xs, u, h => by
    simp only [List.map_cons, VL] at h ⊢
    obtain ⟨a, l, h1, h2, h3⟩ := h
    exact ⟨a, l, h1, deepEl_V h2, deepElL_V h3⟩
theorem one_strip {x : AV} : one (strip x) = one x := by cases x <;> rfl
theorem oneL_strip : ∀ {x : List AV}, oneL (x.map strip) = oneL x
  | [] => rfl
  | x :: xs => by simp only [List.map_cons, oneL, one_strip, oneL_strip]
theorem stripEl_cells {x : AV} : elCells (stripEl x) = (elCells x).map strip := by
  cases x <;> simp [stripEl, elCells, strip]
theorem stripEl_shp {k : Option Nat} {x : AV} (hs : shp k x) : shp k (stripEl x) := by
  cases x <;> simp only [stripEl, strip, shp] at * <;> simpa using hs
theorem elCells_V {x : AV} {u : Value} (hf : oneL (elCells x) = true) (hv : V S x u) : VL S (elCells x) u.cells.toList := by
  refine cellsOf_V hv ?_
  cases x <;> simp only [elCells, oneL, one, cellsOf, Bool.and_true, Bool.false_eq_true] at * 
  rw [if_pos hf]
theorem VE_of_flat {k : Option Nat} {b : Nat} : ∀ {els : List AV} {us : List Value} {q : Nat}, (∀ x ∈ els, shp k x) → VL S (flat els) us → (∀ j u, us[j]? = some u → S.imm b (q + j) = some u) → VE S k els b q
  | [], us, q, _, _, _ => by simp only [VE]
  | x :: els, us, q, hs, hv, hi => by
    have hl := shp_len (hs x (by simp))
    rw [VE.cons]
    have hfl : flat (x :: els) = elCells x ++ flat els := by simp [flat]
    rw [hfl] at hv
    have hv1 := hv.take (kz k)
    have hv2 := hv.drop (kz k)
    rw [← hl, List.take_left] at hv1
    rw [← hl, List.drop_left] at hv2
    have hm : VM S (elCells x) b q := VM.mk fun i y hy => by
      obtain ⟨u, g1, g2⟩ := hv1.get hy
      rw [List.getElem?_take] at g1
      split at g1
      · exact ⟨u, hi i u g1, g2⟩
      · cases g1
    refine ⟨?_, VE_of_flat (us := us.drop (elCells x).length) (fun y hy => hs y (by simp [hy])) hv2 fun j u hj => ?_⟩
    · have hx := hs x (by simp)
      cases x <;> simp only [shp, V1, elCells, VM, and_true] at * <;> first | exact ⟨hx, hm⟩
    · rw [List.getElem?_drop] at hj
      have := hi _ u hj
      rw [← this]
      congr 1
      omega
theorem set_els (he : EnvR S e a E.nt) (hg : GlobOK E.gl S.imm) {k : Option Nat} : ∀ {parts : List (Nat × Operand)} {parts' : List (Nat × Opd)} {els els' : List AV} {cells : Array Value}, compEls E parts = some parts' → setEls e k els parts' = some els' → (∀ x ∈ els, shp k x) → VL S (flat els) cells.toList → (∀ u ∈ cells.toList, u.oneCell' = true) →
    ∃ cells', Instr.fill (fun j => some (j * kz k, kz k)) cells (parts.map fun (i, x) => (i, a.eval x)) = some cells' ∧ VL S (flat els') cells'.toList ∧ (∀ x ∈ els', shp k x) ∧ (∀ u ∈ cells'.toList, u.oneCell' = true) ∧ els'.length = els.length
  | [], parts', els, els', cells, hc, hs, hsh, hv, h1 => by
    simp only [compEls] at hc
    cases hc
    simp only [setEls] at hs
    cases hs
    exact ⟨cells, rfl, hv, hsh, h1, rfl⟩
  | (i, x) :: r, parts', els, els', cells, hc, hs, hsh, hv, h1 => by
    simp only [compEls, Option.bind_eq_some_iff, Option.map_eq_some_iff] at hc
    obtain ⟨x', hx, r', hr, rfl⟩ := hc
    simp only [setEls] at hs
    split at hs
    · rename_i hcond
      obtain ⟨hf, hi⟩ := hcond
      obtain ⟨f1, f2⟩ := elFits_shp hf
      have hvx := elCells_V f2 (evO_V he hg hx)
      have hvx' : VL S (elCells (stripEl (evO e x'))) (a.eval x).cells.toList := by rw [stripEl_cells]; exact stripL_V hvx
      have hfl := flat_length hsh
      have hl := hv.length
      have hl' := hvx.length
      rw [shp_len f1] at hl'
      simp only [Array.length_toList] at hl hl'
      have hmul : (i + 1) * kz k ≤ els.length * kz k := Nat.mul_le_mul_right _ hi
      rw [Nat.succ_mul] at hmul
      obtain ⟨cells1, g1, g2⟩ := fill_step (v := a.eval x) (rest := r.map fun (i, x) => (i, a.eval x)) (cells := cells) (place := fun j => some (j * kz k, kz k)) (i := i) rfl (by omega) (by omega)
      have hsh' : ∀ y ∈ els.set i (stripEl (evO e x')), shp k y := fun y hy => by
        rcases List.mem_or_eq_of_mem_set hy with hy | rfl
        · exact hsh y hy
        · exact stripEl_shp f1
      have h1' : ∀ u ∈ cells1.toList, u.oneCell' = true := by
        have hone : ∀ (xs cs : List Value) (q : Nat), (∀ u ∈ cs, u.oneCell' = true) → (∀ u ∈ xs, u.oneCell' = true) → ∀ u ∈ setV cs q xs, u.oneCell' = true := by
          intro xs
          induction xs with
          | nil => intro cs q hc _ u hu; exact hc u hu
          | cons y ys ih =>
            intro cs q hc hy u hu
            refine ih _ _ (fun w hw => ?_) (fun w hw => hy w (by simp [hw])) u hu
            rcases List.mem_or_eq_of_mem_set hw with hw | rfl
            · exact hc w hw
            · exact hy _ (by simp)
        rw [g2]
        exact hone _ _ _ h1 (oneL_V f2 hvx)
      obtain ⟨cells2, g3, g4, g5, g6, g7⟩ := set_els he hg (cells := cells1) hr hs hsh' (by rw [flat_set hsh (stripEl_shp f1) hi, g2]; exact hv.setAt _ hvx') h1'
      exact ⟨cells2, by rw [List.map_cons, g1, g3], g4, g5, g6, by rw [g7, List.length_set]⟩
    · cases hs
theorem range_cells (z : Array Value) (hz : 0 < z.size) : ∀ n, ((Array.range (n * z.size)).map (fun j => z[j % z.size]!)).toList = (List.replicate n z.toList).flatten
  | 0 => by simp
  | n + 1 => by
    have ih := range_cells z hz n
    simp only [Array.toList_map, Array.toList_range] at *
    rw [Nat.succ_mul, List.range_add, List.map_append, ih, List.replicate_succ', List.flatten_append]
    congr 1
    simp only [List.map_map, List.flatten_cons, List.flatten_nil, List.append_nil]
    apply List.ext_getElem?
    intro j
    by_cases hj : j < z.size
    · simp [hj, Nat.mod_eq_of_lt hj]
    · simp [hj, Nat.not_lt.1 hj]
theorem cst_cells {z : Value} {k : Option Nat} (hf : elFits k (cst z) = true) : elCells (cst z) = z.cells.toList.map .sc ∧ z.cells.size = kz k := by
  have hs := (elFits_shp hf).1
  have hl := shp_len hs
  cases z <;> simp only [cst, elCells, Value.cells] at * <;> first | (simp at hl ⊢; exact hl) 
theorem ex_buildSlice {t el : TypeId} {len : Nat} {parts : Array (Nat × Operand)} (hop : o.op = .buildSlice t len parts) (ht : P.underlying t = some (.slice el)) {k : Option Nat} (hkz : 0 < kz k) {z : Value} (hz : zeroOf P el = some z) {i : TypeInfo} (hi : P.info? el = some i) (hl : len * i.size ≤ 16777216) (hs : i.size = kz k) (hf : elFits k (cst z) = true) {parts' : List (Nat × Opd)} (hc : compEls E parts.toList = some parts')
    (hx : aop C (.buildSlice k (cst z) len parts') e h = some (v, h')) (r : Rel S h B W) (he : EnvR S e a E.nt) (hg : GlobOK E.gl S.imm) : ExOK P o a S h' v B W := by
  simp only [aop, Option.map_eq_some_iff, Prod.mk.injEq] at hx
  obtain ⟨els, hse, rfl, rfl⟩ := hx
  obtain ⟨hcz, hzs⟩ := cst_cells hf
  obtain ⟨f1, f2⟩ := elFits_shp hf
  have hcells : ((Array.range (len * kz k)).map (fun j => z.cells[j % z.cells.size]!)).toList = (List.replicate len z.cells.toList).flatten := by
    rw [← hzs]; exact range_cells _ (by omega) len
  have hone : ∀ u ∈ z.cells.toList, u.oneCell' = true := by
    rw [hcz] at f2
    exact oneL_V (S := S) f2 (VL_map_sc _)
  have hv0 : VL S (flat (List.replicate len (cst z))) ((Array.range (len * kz k)).map (fun j => z.cells[j % z.cells.size]!)).toList := by
    rw [hcells, flat, List.map_replicate, hcz]
    refine VL.flatten (by simp) fun j y w hy hw => ?_
    rw [List.getElem?_replicate] at hy hw
    split at hy
    · cases hy; rename_i hj; rw [if_pos hj] at hw; cases hw; exact VL_map_sc _
    · cases hy
  obtain ⟨cells', g1, g2, g3, g4, g5⟩ := set_els he hg (cells := (Array.range (len * kz k)).map (fun j => z.cells[j % z.cells.size]!)) hc hse (fun x hx => by rw [List.eq_of_mem_replicate hx]; exact f1) hv0 (by
    rw [hcells]
    intro u hu
    rw [List.mem_flatten] at hu
    obtain ⟨l, hl1, hl2⟩ := hu
    rw [List.eq_of_mem_replicate hl1] at hl2
    exact hone u hl2)
  rw [List.length_replicate] at g5
  obtain ⟨r', ex⟩ := r.newImm cells' el (0, 0) g4
  refine ⟨_, .slice (some ⟨W.heap.size, 0, none⟩) len len, _, _, ?_, .inl rfl, ex, r', ?_, (Below.refl B W).alloc r.base _⟩
  · have hmap : (parts.map fun (i, x) => (i, a.eval x)).toList = parts.toList.map fun (i, x) => (i, a.eval x) := by simp
    have hfill : ∀ cs : Array Value, cs.toList = ((Array.range (len * kz k)).map (fun j => z.cells[j % z.cells.size]!)).toList → Instr.fill (fun j => some (j * kz k, kz k)) cs (parts.map fun (i, x) => (i, a.eval x)).toList = some cells' := by
      intro cs hcs
      rw [hmap, Array.toList_inj.1 hcs]; exact g1
    have hnl : ¬ (16777216 < len * kz k) := by rw [← hs]; omega
    simp only [execOp, hop, Instr.buildSlice, Sem.run_bind, run_underlying' ht, Result.andThen_ok, run_sizeOf' hi, hs]
    rw [if_neg (by simpa using hnl)]
    by_cases h0 : len * kz k = 0
    · rw [if_pos h0]
      simp only [Sem.run_bind, Sem.run_pure, Result.andThen_ok]
      rw [hfill _ (by simp [h0])]
      simp [newRow]
    · rw [if_neg h0]
      simp only [Sem.run_bind, Sem.run_pure, Result.andThen_ok, run_zero' hz]
      rw [hfill _ rfl]
      simp [newRow]
  · simp only [V]
    refine ⟨_, len, by rw [g5], by omega, by simp only [OwnV]; omega, .inr ⟨W.heap.size, 0, rfl, VE_of_flat g3 (VL.mono ex _ g2) fun j u hj => ?_⟩⟩
    simp only [addImm, if_true, Nat.zero_add]
    simpa using hj
end
end Go.Proofs.Ytipbmacpenmgoaa.AM
