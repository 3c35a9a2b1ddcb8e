/- The functions that the laws reach: each as a plain Lean function, with a proof that the Go function answers the same. Written by a program of this session. -/
import Derived.Test.YtpnkldjbiinnpaaProg
import Derived.Below
import Derived.Deep.Draws
import Derived.Deep.AppendLies
import Derived.Maps.AppendAt
import Derived.OwnWalk
import Derived.Laws.BytesArg
import Derived.Laws.MakeOwn
import Derived.Laws.OwnMore
import Derived.Deep.OwnRows
import Derived.Tactics
import Derived.Lib.ConvBytes
import Derived.Laws.Slices
import Derived.WalkKit
import Derived.KernelRfl
import Derived.RowKit3
import Derived.Deep.LoopGhost
import Derived.Deep.QuietTactic
import Derived.BigQuiet
import Derived.WideLaws
import Derived.Deep.DeepCutAuto
import Derived.Deep.CutBlock
import Derived.Deep.RegionHeld3
import Derived.Laws.Rows
import Derived.Lib.AppendStr
import Derived.ArgAppend
import Derived.Laws.IdiomCopy
import Derived.OrdersHeld
import Derived.Laws.BitsLemmas
import Derived.RowKit
import Derived.Test.YtpnkldjbiinnpaaWWords
import Derived.Test.YtpnkldjbiinnpaaWLast
import Derived.Test.YtpnkldjbiinnpaaWTab
import Derived.Test.YtpnkldjbiinnpaaWFour
import Derived.Test.YtpnkldjbiinnpaaWQPut
import Derived.Test.YtpnkldjbiinnpaaWApart
import Derived.Test.YtpnkldjbiinnpaaWArr
import Derived.Test.YtpnkldjbiinnpaaWZeros
import Derived.Test.YtpnkldjbiinnpaaWFoot
import Derived.Test.YtpnkldjbiinnpaaWKept
import Derived.Test.YtpnkldjbiinnpaaWShare
import Derived.Test.YtpnkldjbiinnpaaWN
import Derived.Test.YtpnkldjbiinnpaaWFootNe
import Derived.Test.YtpnkldjbiinnpaaWAt
import Derived.Test.YtpnkldjbiinnpaaWEqStruct
import Derived.Test.YtpnkldjbiinnpaaWRepsOne
import Derived.Test.YtpnkldjbiinnpaaWInv
import Derived.Test.YtpnkldjbiinnpaaWInvWords
import Derived.Test.YtpnkldjbiinnpaaWGuard
import Derived.Test.YtpnkldjbiinnpaaWNEv
import Derived.Test.YtpnkldjbiinnpaaWMore
namespace Go.Proofs.Ytpnkldjbiinnpaa.PO
open Go.RowKit Go.Proofs.YtpnkldjbiinnpaaW.PrintWords Go.Proofs.YtpnkldjbiinnpaaW.PrintLast Go.Proofs.YtpnkldjbiinnpaaW.PrintMore
attribute [local go_sem] max2_int min2_int max_two min_two max_three min_three max_four min_four   -- for this text's walks alone
set_option linter.unusedVariables false
set_option linter.unusedSimpArgs false



def errW : Option Int → Value
  | none => .nilIface
  | some c => .iface 0 (.int .i64 c)
theorem errW_none : errW none = .nilIface := rfl
theorem errW_some (c : Int) : errW (some c) = .iface 0 (.int .i64 c) := rfl

-- the values' own types

end Go.Proofs.Ytpnkldjbiinnpaa.PO
