import Derived.Test.YtpnkldjbiinnpaaAmN
import Derived.WalkKit
import Derived.ProofKit
import Derived.OwnWalk
import Derived.Lib.SliceRun
import Derived.Shelf.RegionOpenPlain
/- slices.Grow of this seat: its walk. -/
namespace Go.Proofs.Ytpnkldjbiinnpaa.AM
open Go Go.RowKit
set_option linter.unusedVariables false
structure Hid (p : Prop) : Prop where
  out : p
theorem app_at {P : Program} {ops : Array Oper} {rest : List Oper} {o : Oper} {a : Act} {Q : Exit → Act → World → Prop} {W w1 : World} {v v1 : Value} {kx : IntKind} {n : Int} {t ti : TypeId} (s x : Operand) (hgd : o.guard = none)
    (ho : o.op = .call { callee := .builtin .append, args := #[s, x], argTypes := #[t, ti] }) (hs : a.eval s = v) (hx : a.eval x = .int kx n) (hrun : (Builtin.append_ #[t, ti] o.type #[v, .int kx n]).run P W = .ok v1 w1)
    (h : wpList P ops Q rest (a.put o.dst v1) w1) : wpList P ops Q (o :: rest) a W := by
  refine wpList_plain hgd fun K hK => ?_
  unfold Oper.wp execOp
  simp only [ho, resolve, invoke, builtin, Sem.run_bind, Sem.run_pure, Result.andThen_ok, List.map_toArray, List.map_cons, List.map_nil, hs, hx, hrun]
  exact hK _ _ h
theorem gate_bi {P : Program} {ops : Array Oper} {rest : List Oper} {o : Oper} {a : Act} {Q : Exit → Act → World → Prop} {W : World} {b : Builtin} {xs : Array Operand} {ts : Array TypeId} (_ho : o.op = .call { callee := .builtin b, args := xs, argTypes := ts }) (h : wpList P ops Q (o :: rest) a W) : wpList P ops Q (o :: rest) a W := h
set_option maxHeartbeats 4000000 in
set_option maxRecDepth 100000 in
theorem walk_room (ao : Option Addr) (len cap : Nat) (n : Int) (W : World) (hn : 0 ≤ n) (hc : cap ≤ 9223372036854775807) (hlc : len ≤ cap) (hr : n ≤ (cap : Int) - len) :
    Calls Try.prog 23 #[.slice ao len cap, .int .i64 n] W (fun e W' => e = .returned (.slice ao len cap) ∧ W' = W) := by
  have hkn : decide (n < 0) = false := decide_eq_false (by omega)
  have hd : decide (0 < n - ((cap : Int) - len)) = false := decide_eq_false (by omega)
  go_enter Try.func23, Try.ntmps23
  go_wp2
  go_ret
  exact ⟨rfl, rfl⟩
set_option maxHeartbeats 4000000 in
set_option maxRecDepth 100000 in
theorem walk_grow (ao : Option Addr) (len cap m cap2 q : Nat) (n : Int) (W w1 : World) (g : Nat) (hn : 0 ≤ n) (hn2 : n ≤ 1000) (hc : cap ≤ 140737488355328) (hlc : len ≤ cap) (hr : n - ((cap : Int) - len) = (m : Int)) (hm : 0 < m) (hrun : (Builtin.append_ #[23, 3] 23 #[.slice ao cap cap, .int .i64 (m : Int)]).run Try.prog W = .ok (.slice (some ⟨g, 0, none⟩) q cap2) w1) (h2 : len ≤ q) (h3 : q ≤ cap2) (h4 : cap2 ≤ 9223372036854775807) :
    Calls Try.prog 23 #[.slice ao len cap, .int .i64 n] W (fun e W' => e = .returned (.slice (some ⟨g, 0, none⟩) len cap2) ∧ W' = w1) := by
  have hkn : decide (n < 0) = false := decide_eq_false (by omega)
  have hd : decide (0 < n - ((cap : Int) - len)) = true := decide_eq_true (by omega)
  have hnn : decide ((len : Int) ≤ cap2) = true := decide_eq_true (by omega)
  have HRun := Hid.mk hrun
  clear hrun
  go_enter Try.func23, Try.ntmps23
  go_wp2_with ((with_reducible refine gate_bi (b := .append) (xs := #[.tmp 20, .tmp 21]) rfl ?_); at_builtin; (refine app_at (v := .slice ao cap cap) (kx := .i64) (n := (m : Int)) (t := 23) (ti := 3) (.tmp 20) (.tmp 21) rfl rfl rfl rfl HRun.out ?_))
  go_ret
  exact ⟨rfl, rfl⟩
theorem growWalk : GrowW Try.prog 23 #[23, 3] 23 := ⟨walk_room, walk_grow⟩
theorem growInfo : (Try.prog.info? 5).map (fun i => (i.zero, i.size, i.bytes)) = some (some (.int .u8 0), 1, 1) := by kernel_rfl
theorem grow_nat : Callable Try.prog 23 ∧ ∀ (args : List AV) (h : Heap) (v : AV) (h' : Heap), growG args h = some (v, h') → ∀ (gl : Nat → Option (List Value)) (S : St) (B : Nat) (W : World) (cargs : Array Value), Rel S h B W → VL S args cargs.toList → GlobOK gl S.imm → Calls Try.prog 23 cargs W (GPost S h' v B W) := by
  refine ⟨⟨_, Try.func23, rfl, rfl⟩, fun args h v h' hx gl S B W cargs r hv _ => ?_⟩
  obtain ⟨i, hi, hz⟩ := Option.map_eq_some_iff.1 growInfo
  simp only [Prod.mk.injEq] at hz
  exact growG_sound growWalk rfl rfl Try.underlying23 Try.underlying3 hi hz.1 hz.2.1 hz.2.2 rfl hx r hv
end Go.Proofs.Ytpnkldjbiinnpaa.AM
