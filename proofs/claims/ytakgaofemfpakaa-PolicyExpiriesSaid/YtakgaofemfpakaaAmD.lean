import Derived.Test.YtakgaofemfpakaaAm3
import Derived.Deep.Quiet
/- Regions that draw their order: which may be taken as all but the last one, then the last one. -/
namespace Go.Proofs.Ytakgaofemfpakaa.AM
open Go Go.RowKit
/-- who may come up now, the last one apart -/
def rdyB (md : Region.Mode) (ops : Array Oper) (m : Nat) (listed : Array Bool) : List Nat := (Region.ready md ops listed).filter (· != m)
/-- the order of the text, up to the last one -/
def lexM (md : Region.Mode) (ops : Array Oper) (m : Nat) : Nat → Nat → Array Bool → Bool
  | 0, _, listed => (rdyB md ops m listed).isEmpty
  | n + 1, k, listed => ((Region.ready md ops listed).contains k && Region.free md ops listed k && k != m) && lexM md ops m n (k + 1) (listed.setIfInBounds k true)
def afters (md : Region.Mode) (ops : Array Oper) (j : Nat) : List Nat := match ops[j]? with | some o => (o.after.toList.filter (Region.binds md)).map (·.on) | none => []
/-- all that an operation waits for, over others too -/
def reach (md : Region.Mode) (ops : Array Oper) : Nat → List Nat → List Nat
  | 0, l => l
  | n + 1, l => reach md ops n (l ++ l.flatMap (afters md ops)).eraseDups
def depB (md : Region.Mode) (ops : Array Oper) (m : Nat) : Bool :=
  ops.size == m + 1 &&
  ((List.range (m + 1)).all fun j => (afters md ops j).all fun i => decide (i < j)) &&
  ((List.range m).all fun i => (reach md ops m (afters md ops m)).contains i)
/-- may this region be taken as: all but the last one, in the order of the text, then the last one? -/
def lastB (ops : Array Oper) : Bool := Region.noSelect ops && (depB .any ops (ops.size - 1) && lexM .any ops (ops.size - 1) (ops.size - 1) 0 (Array.replicate ops.size false))
end Go.Proofs.Ytakgaofemfpakaa.AM
