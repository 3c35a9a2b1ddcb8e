import Derived.Test.YtpnkldjbiinnpaaAm3
import Derived.Deep.Quiet
/- Regions that draw their order: which may be taken as all but the last one, then the last one. -/
namespace Go.Proofs.Ytpnkldjbiinnpaa.AM
open Go Go.RowKit
/-- who may come up now, the last one apart -/
def rdyB (md : Region.Mode) (ops : Array Oper) (m : Nat) (listed : Array Bool) : List Nat := (Region.ready md ops listed).filter (· != m)
/-- the order of the text, up to the last one -/
def lexM (md : Region.Mode) (ops : Array Oper) (m : Nat) : Nat → Nat → Array Bool → Bool
  | 0, _, listed => (rdyB md ops m listed).isEmpty
  | n + 1, k, listed => ((Region.ready md ops listed).contains k && Region.free md ops listed k && k != m) && lexM md ops m n (k + 1) (listed.setIfInBounds k true)
def afters (md : Region.Mode) (ops : Array Oper) (j : Nat) : List Nat := match ops[j]? with | some o => (o.after.toList.filter (Region.binds md)).map (·.on) | none => []
/-- all that an operation waits for, over others too -/
def reach (md : Region.Mode) (ops : Array Oper) : Nat → List Nat → List Nat
  | 0, l => l
  | n + 1, l => reach md ops n (l ++ l.flatMap (afters md ops)).eraseDups
def depB (md : Region.Mode) (ops : Array Oper) (m : Nat) : Bool :=
  ops.size == m + 1 &&
  ((List.range (m + 1)).all fun j => (afters md ops j).all fun i => decide (i < j)) &&
  ((List.range m).all fun i => (reach md ops m (afters md ops m)).contains i)
/-- may this region be taken as: all but the last one, in the order of the text, then the last one? -/
def lastB (ops : Array Oper) : Bool := Region.noSelect ops && (depB .any ops (ops.size - 1) && lexM .any ops (ops.size - 1) (ops.size - 1) 0 (Array.replicate ops.size false))
def oT : Opd → List Nat
  | .tmp t => [t]
  | .cst _ => []
def oTL : List Opd → List Nat
  | [] => []
  | x :: r => oT x ++ oTL r
def oTM : Option Opd → List Nat
  | none => []
  | some x => oT x
def oTP : List (Nat × Nat × Opd) → List Nat
  | [] => []
  | (_, _, x) :: r => oT x ++ oTP r
def oTE : List (Nat × Opd) → List Nat
  | [] => []
  | (_, x) :: r => oT x ++ oTE r
/-- the slots that an operation looks at -/
def opT : AOp → List Nat
  | .move x | .acc _ x | .box x | .load _ x | .nilCheck x | .un _ x | .convInt _ x | .convBytes x | .convStr x | .convSS x | .toArr _ x | .fieldAddr _ _ x | .field _ _ x | .extract x _ | .len x | .lenT x | .eqNil _ _ x => oT x
  | .pick c a b => oT c ++ (oT a ++ oT b)
  | .alloc _ | .stuck => []
  | .build _ p => oTP p
  | .buildSlice _ _ _ p => oTE p
  | .store _ x y | .bin _ x y | .eqBool _ x y | .eqArr _ _ x y | .minmax _ x y | .index _ _ x y | .indexAddr _ _ x y | .indexStr x y | .append _ _ x y | .copy _ x y | .makeSlice _ _ _ x y => oT x ++ oT y
  | .makeFunc _ a b => oTL a ++ oTL b
  | .slice _ _ x l h m => oT x ++ (oTM l ++ (oTM h ++ oTM m))
  | .call f l => oT f ++ oTL l
def erT (o : AOper) : List Nat := (match o.guard with | some (t, _) => [t] | none => []) ++ opT o.op
def effAt (os : List AOper) (j : Nat) : Bool := match os[j]? with | some o => effB o.op | none => false
def dstAt (os : List AOper) (j : Nat) : Option Nat := (os[j]?).bind (·.dst)
def erTAt (os : List AOper) (j : Nat) : List Nat := match os[j]? with | some o => erT o | none => []
def upB (ops : Array Oper) (j : Nat) : List Nat := reach .any ops ops.size (afters .any ops j)
/-- between which numbers of changes its turn may come -/
def stOf (ups : List (List Nat)) (os : List AOper) (n : Nat) (j : Nat) : Nat × Nat :=
  ((List.range n).countP (fun i => effAt os i && (ups.getD j []).contains i), (List.range n).countP (fun i => effAt os i && !((ups.getD i []).contains j) && i != j))
/-- may this region be taken in the order of the text, if what is read is the same on all ways? -/
def okU (ops : Array Oper) (os : List AOper) (ups : List (List Nat)) (st : List (Nat × Nat)) : Bool :=
  ups == (List.range ops.size).map (upB ops) && st == (List.range ops.size).map (stOf ups os ops.size) && os.length == ops.size &&
  ((List.range ops.size).all fun j => (afters .any ops j).all fun i => decide (i < j)) &&
  ((List.range ops.size).all fun j => (ups.getD j []).all fun i => decide (i < j)) &&
  ((List.range ops.size).all fun j => (erTAt os j).all fun t => (List.range ops.size).all fun i => dstAt os i != some t || (ups.getD j []).contains i || (ups.getD i []).contains j || i == j) &&
  ((List.range ops.size).all fun j => !effAt os j || (List.range j).all fun i => !effAt os i || (ups.getD j []).contains i) &&
  ((List.range ops.size).all fun j => (List.range j).all fun i => dstAt os j == none || dstAt os i != dstAt os j)
end Go.Proofs.Ytpnkldjbiinnpaa.AM
