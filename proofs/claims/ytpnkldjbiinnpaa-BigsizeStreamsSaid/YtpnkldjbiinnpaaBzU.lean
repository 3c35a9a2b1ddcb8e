import Derived.Test.YtpnkldjbiinnpaaBzQ
/- layer 01: Streams, called. -/
namespace Go.Proofs.Ytpnkldjbiinnpaa.AM
open Go
set_option linter.unusedVariables false
theorem call_streams {l : List Rc} (hok : ∀ r ∈ l, Rc.ok r ∧ r.v.length ≤ 140737488351232) (hn : l.length * 32 ≤ 140737488351232) : ag T 8 [.slice .none (some 2) (l.map Rc.av)] [] = some (.sc (.bool true), []) :=
  call_sc (h := []) rfl t8 rfl rfl rfl (by
    have h1 := rc_closed l
    simp only [List.map_cons, List.map_nil, strip, stripO, closedL, namL, nam, Bool.and_true, Bool.true_and] at h1 ⊢
    exact h1) (streams_run l (fun r hr => (hok r hr).1) (fun r hr => (hok r hr).2) (by omega))
end Go.Proofs.Ytpnkldjbiinnpaa.AM
