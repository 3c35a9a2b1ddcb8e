import Derived.Test.YtpnkldjbiinnpaaAm13
/- Regions, calls and code: what the plain machine does the model does. -/
namespace Go.Proofs.Ytpnkldjbiinnpaa.AM
open Go Go.RowKit
set_option linter.unusedVariables false
set_option linter.unusedSimpArgs false
mutual
/-- the one value that a rigid value stands for -/
def conc : AV → Value
  | .sc v => v
  | .agg cs => .agg (concL cs).toArray
  | .tup cs => .tuple (concL cs).toArray
  | _ => Go.undef
def concL : List AV → List Value
  | [] => []
  | x :: xs => conc x :: concL xs
end
mutual
theorem conc_eq {S : St} : ∀ (x : AV) {u : Value}, rigid x = true → V S x u → u = conc x
  | .sc v, u, _, h => by simpa only [V, conc] using h
  | .agg cs, u, hr, h => by
    simp only [V, rigid, conc] at *
    obtain ⟨a, rfl, h2⟩ := h
    rw [← conc_eqL cs hr h2]
  | .tup cs, u, hr, h => by
    simp only [V, rigid, conc] at *
    obtain ⟨a, rfl, h2⟩ := h
    rw [← conc_eqL cs hr h2]
  | .unk, u, hr, h => by simp [rigid] at hr
  | .ptr i f, u, hr, h => by simp [rigid] at hr
  | .ref c, u, hr, h => by simp [rigid] at hr
  | .slice w q l, u, hr, h => by simp [rigid] at hr
  | .ms i f q l, u, hr, h => by simp [rigid] at hr
  | .func f x y, u, hr, h => by simp [rigid] at hr
  | .map i, u, hr, h => by simp [rigid] at hr
theorem conc_eqL {S : St} : ∀ (x : List AV) {u : List Value}, rigidL x = true → VL S x u → u = concL x
  | [], u, _, h => by simpa only [VL, concL] using h
  | x :: xs, u, hr, h => by
    simp only [VL, rigidL, concL, Bool.and_eq_true] at *
    obtain ⟨b, l, rfl, h2, h3⟩ := h
    rw [conc_eq x hr.1 h2, conc_eqL xs hr.2 h3]
end
mutual
theorem rigid_V {S : St} : ∀ (x : AV), rigid x = true → V S x (conc x)
  | .sc v, _ => by simp only [V, conc]
  | .agg cs, hr => by simp only [V, conc, rigid] at *; exact ⟨_, rfl, by simpa using rigid_VL cs hr⟩
  | .tup cs, hr => by simp only [V, conc, rigid] at *; exact ⟨_, rfl, by simpa using rigid_VL cs hr⟩
  | .unk, hr => by simp [rigid] at hr
  | .ptr i f, hr => by simp [rigid] at hr
  | .ref c, hr => by simp [rigid] at hr
  | .slice w q l, hr => by simp [rigid] at hr
  | .ms i f q l, hr => by simp [rigid] at hr
  | .func f x y, hr => by simp [rigid] at hr
  | .map i, hr => by simp [rigid] at hr
theorem rigid_VL {S : St} : ∀ (x : List AV), rigidL x = true → VL S x (concL x)
  | [], _ => by simp only [VL, concL]
  | x :: xs, hr => by simp only [VL, rigidL, concL, Bool.and_eq_true] at *; exact ⟨_, _, rfl, rigid_V x hr.1, rigid_VL xs hr.2⟩
end
def Callable (P : Program) (f : Nat) : Prop := ∃ fn, P.funcs[f]? = some fn ∧ (fn.name == "runtime.NumGoroutine") = false ∧ fn.body.isNone = false
def GPost (S : St) (h' : Heap) (v : AV) (B : Nat) (W : World) (e : Ending) (W' : World) : Prop := ∃ u S', e = .returned u ∧ Ext S S' ∧ Rel S' h' B W' ∧ V S' v u ∧ Below B W W'
def QPost (v : AV) (W : World) (e : Ending) (W' : World) : Prop := ∃ u S', e = .returned u ∧ V S' v u ∧ Below W.heap.size W W'
structure ClOK (P : Program) (gl : Nat → Option (List Value)) (C : Cl) : Prop where
  call : ∀ f args h v h', C.call f args h = some (v, h') → Callable P f ∧ ∀ (S : St) (B : Nat) (W : World) (cargs : Array Value), Rel S h B W → VL S args cargs.toList → GlobOK gl S.imm → Calls P f cargs W (GPost S h' v B W)
  quiet : ∀ f args h v h', C.pure f = true → C.call f args h = some (v, h') → ∀ (S : St) (B : Nat) (W : World) (cargs : Array Value), Rel S h B W → VL S args cargs.toList → GlobOK gl S.imm → Calls P f cargs W (QPost v W)
section
variable {P : Program} {E : Env0} {o : Oper} {C : Cl} {e : Env} {h h' : Heap} {v : AV} {S : St} {B : Nat} {W : World} {a : Act}
theorem run_call {f : Operand} {args : Array Operand} {ts : Array TypeId} (hop : o.op = .call { callee := .value f, args := args, argTypes := ts }) {g : Nat} {first caps : Array Value} (hf : a.eval f = .func (.func g) first caps) (hc : Callable P g) (W : World) :
    (execOp a.eval o).run P W = .ok (.enter g (first ++ args.map a.eval ++ caps)) W := by
  obtain ⟨fn, h1, h2, h3⟩ := hc
  simp only [execOp, hop, resolve, Deferred.ofValue, hf, Sem.run_bind, Sem.run_pure, Result.andThen_ok, invoke, callFunc, run_program, h1, h2, h3, Bool.false_eq_true, if_false]
/-- what a call is, as an operation -/
theorem comp_call {x : AOp} {f : Opd} {l : List Opd} (hc : compOp P E o = some x) (hx : x = .call f l) : ∃ f0 args ts, o.op = .call { callee := .value f0, args := args, argTypes := ts } ∧ compO E f0 = some f ∧ compL E args.toList = some l := by
  subst hx
  cases hop : o.op <;> simp only [compOp, hop] at hc
  case call c =>
    obtain ⟨callee, args, ts⟩ := c
    simp only at hc
    split at hc
    · rename_i f0
      simp only [Option.bind_eq_some_iff, Option.map_eq_some_iff] at hc
      obtain ⟨f', hf, l', hl, hh⟩ := hc
      cases hh
      exact ⟨f0, args, ts, rfl, hf, hl⟩
    · exfalso
      unfold compB at hc
      split at hc
      · simp only [Option.bind_eq_some_iff] at hc
        obtain ⟨t, ht, u, hu, hc⟩ := hc
        split at hc
        · (first | (simp only [Option.map_eq_some_iff] at hc; obtain ⟨_, _, hc⟩ := hc; cases hc; done) | (simp only [Option.bind_eq_some_iff, Option.map_eq_some_iff] at hc; obtain ⟨_, _, _, _, hc⟩ := hc; cases hc; done) | (simp only [Option.bind_eq_some_iff, Option.map_eq_some_iff] at hc; obtain ⟨_, _, _, _, _, _, hc⟩ := hc; cases hc; done) | (simp only [Option.bind_eq_some_iff, Option.map_eq_some_iff] at hc; obtain ⟨_, _, _, _, _, _, _, _, hc⟩ := hc; cases hc; done) | (cases hc; done))
        · (first | (simp only [Option.map_eq_some_iff] at hc; obtain ⟨_, _, hc⟩ := hc; cases hc; done) | (simp only [Option.bind_eq_some_iff, Option.map_eq_some_iff] at hc; obtain ⟨_, _, _, _, hc⟩ := hc; cases hc; done) | (simp only [Option.bind_eq_some_iff, Option.map_eq_some_iff] at hc; obtain ⟨_, _, _, _, _, _, hc⟩ := hc; cases hc; done) | (simp only [Option.bind_eq_some_iff, Option.map_eq_some_iff] at hc; obtain ⟨_, _, _, _, _, _, _, _, hc⟩ := hc; cases hc; done) | (cases hc; done))
        · cases hc
        · simp only [Option.bind_eq_some_iff] at hc
          obtain ⟨u2, hu2, hc⟩ := hc
          split at hc <;> cases hc
        · cases hc
      · simp only [Option.bind_eq_some_iff] at hc
        obtain ⟨t, ht, tx, htx, u, hu, ux, hux, hc⟩ := hc
        split at hc
        · cases hc
        · simp only [Option.bind_eq_some_iff] at hc
          obtain ⟨k, hk, i, hi, hc⟩ := hc
          split at hc
          · split at hc
            · (first | (simp only [Option.map_eq_some_iff] at hc; obtain ⟨_, _, hc⟩ := hc; cases hc; done) | (simp only [Option.bind_eq_some_iff, Option.map_eq_some_iff] at hc; obtain ⟨_, _, _, _, hc⟩ := hc; cases hc; done) | (simp only [Option.bind_eq_some_iff, Option.map_eq_some_iff] at hc; obtain ⟨_, _, _, _, _, _, hc⟩ := hc; cases hc; done) | (simp only [Option.bind_eq_some_iff, Option.map_eq_some_iff] at hc; obtain ⟨_, _, _, _, _, _, _, _, hc⟩ := hc; cases hc; done) | (cases hc; done))
            · cases hc
          · cases hc
        · cases hc
      · simp only [Option.bind_eq_some_iff] at hc
        obtain ⟨t, ht, u, hu, hc⟩ := hc
        split at hc
        · simp only [Option.bind_eq_some_iff] at hc
          obtain ⟨k, hk, i, hi, hc⟩ := hc
          split at hc
          · (first | (simp only [Option.map_eq_some_iff] at hc; obtain ⟨_, _, hc⟩ := hc; cases hc; done) | (simp only [Option.bind_eq_some_iff, Option.map_eq_some_iff] at hc; obtain ⟨_, _, _, _, hc⟩ := hc; cases hc; done) | (simp only [Option.bind_eq_some_iff, Option.map_eq_some_iff] at hc; obtain ⟨_, _, _, _, _, _, hc⟩ := hc; cases hc; done) | (simp only [Option.bind_eq_some_iff, Option.map_eq_some_iff] at hc; obtain ⟨_, _, _, _, _, _, _, _, hc⟩ := hc; cases hc; done) | (cases hc; done))
          · cases hc
        · cases hc
      · (first | (simp only [Option.map_eq_some_iff] at hc; obtain ⟨_, _, hc⟩ := hc; cases hc; done) | (simp only [Option.bind_eq_some_iff, Option.map_eq_some_iff] at hc; obtain ⟨_, _, _, _, hc⟩ := hc; cases hc; done) | (simp only [Option.bind_eq_some_iff, Option.map_eq_some_iff] at hc; obtain ⟨_, _, _, _, _, _, hc⟩ := hc; cases hc; done) | (simp only [Option.bind_eq_some_iff, Option.map_eq_some_iff] at hc; obtain ⟨_, _, _, _, _, _, _, _, hc⟩ := hc; cases hc; done) | (cases hc; done))
      · (first | (simp only [Option.map_eq_some_iff] at hc; obtain ⟨_, _, hc⟩ := hc; cases hc; done) | (simp only [Option.bind_eq_some_iff, Option.map_eq_some_iff] at hc; obtain ⟨_, _, _, _, hc⟩ := hc; cases hc; done) | (simp only [Option.bind_eq_some_iff, Option.map_eq_some_iff] at hc; obtain ⟨_, _, _, _, _, _, hc⟩ := hc; cases hc; done) | (simp only [Option.bind_eq_some_iff, Option.map_eq_some_iff] at hc; obtain ⟨_, _, _, _, _, _, _, _, hc⟩ := hc; cases hc; done) | (cases hc; done))
      · cases hc
    · cases hc
  case move y => split at hc <;> (first | (simp only [Option.map_eq_some_iff] at hc; obtain ⟨_, _, hc⟩ := hc; cases hc; done) | (simp only [Option.bind_eq_some_iff, Option.map_eq_some_iff] at hc; obtain ⟨_, _, _, _, hc⟩ := hc; cases hc; done) | (simp only [Option.bind_eq_some_iff, Option.map_eq_some_iff] at hc; obtain ⟨_, _, _, _, _, _, hc⟩ := hc; cases hc; done) | (simp only [Option.bind_eq_some_iff, Option.map_eq_some_iff] at hc; obtain ⟨_, _, _, _, _, _, _, _, hc⟩ := hc; cases hc; done) | (cases hc; done))
  case assign y => split at hc <;> (first | (simp only [Option.map_eq_some_iff] at hc; obtain ⟨_, _, hc⟩ := hc; cases hc; done) | (simp only [Option.bind_eq_some_iff, Option.map_eq_some_iff] at hc; obtain ⟨_, _, _, _, hc⟩ := hc; cases hc; done) | (simp only [Option.bind_eq_some_iff, Option.map_eq_some_iff] at hc; obtain ⟨_, _, _, _, _, _, hc⟩ := hc; cases hc; done) | (simp only [Option.bind_eq_some_iff, Option.map_eq_some_iff] at hc; obtain ⟨_, _, _, _, _, _, _, _, hc⟩ := hc; cases hc; done) | (cases hc; done))
  case pick c p q => (first | (simp only [Option.map_eq_some_iff] at hc; obtain ⟨_, _, hc⟩ := hc; cases hc; done) | (simp only [Option.bind_eq_some_iff, Option.map_eq_some_iff] at hc; obtain ⟨_, _, _, _, hc⟩ := hc; cases hc; done) | (simp only [Option.bind_eq_some_iff, Option.map_eq_some_iff] at hc; obtain ⟨_, _, _, _, _, _, hc⟩ := hc; cases hc; done) | (simp only [Option.bind_eq_some_iff, Option.map_eq_some_iff] at hc; obtain ⟨_, _, _, _, _, _, _, _, hc⟩ := hc; cases hc; done) | (cases hc; done))
  case alloc t => simp only [Option.bind_eq_some_iff] at hc; obtain ⟨z, h1, h2⟩ := hc; split at h2 <;> cases h2
  case box t y => (first | (simp only [Option.map_eq_some_iff] at hc; obtain ⟨_, _, hc⟩ := hc; cases hc; done) | (simp only [Option.bind_eq_some_iff, Option.map_eq_some_iff] at hc; obtain ⟨_, _, _, _, hc⟩ := hc; cases hc; done) | (simp only [Option.bind_eq_some_iff, Option.map_eq_some_iff] at hc; obtain ⟨_, _, _, _, _, _, hc⟩ := hc; cases hc; done) | (simp only [Option.bind_eq_some_iff, Option.map_eq_some_iff] at hc; obtain ⟨_, _, _, _, _, _, _, _, hc⟩ := hc; cases hc; done) | (cases hc; done))
  case build t parts =>
    simp only [Option.bind_eq_some_iff] at hc
    obtain ⟨z, hz, u, hu, hc⟩ := hc
    split at hc
    · split at hc <;> (first | (simp only [Option.map_eq_some_iff] at hc; obtain ⟨_, _, hc⟩ := hc; cases hc; done) | (simp only [Option.bind_eq_some_iff, Option.map_eq_some_iff] at hc; obtain ⟨_, _, _, _, hc⟩ := hc; cases hc; done) | (simp only [Option.bind_eq_some_iff, Option.map_eq_some_iff] at hc; obtain ⟨_, _, _, _, _, _, hc⟩ := hc; cases hc; done) | (simp only [Option.bind_eq_some_iff, Option.map_eq_some_iff] at hc; obtain ⟨_, _, _, _, _, _, _, _, hc⟩ := hc; cases hc; done) | (cases hc; done))
    · (first | (simp only [Option.map_eq_some_iff] at hc; obtain ⟨_, _, hc⟩ := hc; cases hc; done) | (simp only [Option.bind_eq_some_iff, Option.map_eq_some_iff] at hc; obtain ⟨_, _, _, _, hc⟩ := hc; cases hc; done) | (simp only [Option.bind_eq_some_iff, Option.map_eq_some_iff] at hc; obtain ⟨_, _, _, _, _, _, hc⟩ := hc; cases hc; done) | (simp only [Option.bind_eq_some_iff, Option.map_eq_some_iff] at hc; obtain ⟨_, _, _, _, _, _, _, _, hc⟩ := hc; cases hc; done) | (cases hc; done))
    · cases hc
  case buildSlice t len parts =>
    simp only [Option.bind_eq_some_iff] at hc
    obtain ⟨u, hu, hc⟩ := hc
    split at hc
    · simp only [Option.bind_eq_some_iff] at hc
      obtain ⟨k, hk, z, hz, i, hi, hc⟩ := hc
      split at hc <;> (first | (simp only [Option.map_eq_some_iff] at hc; obtain ⟨_, _, hc⟩ := hc; cases hc; done) | (simp only [Option.bind_eq_some_iff, Option.map_eq_some_iff] at hc; obtain ⟨_, _, _, _, hc⟩ := hc; cases hc; done) | (simp only [Option.bind_eq_some_iff, Option.map_eq_some_iff] at hc; obtain ⟨_, _, _, _, _, _, hc⟩ := hc; cases hc; done) | (simp only [Option.bind_eq_some_iff, Option.map_eq_some_iff] at hc; obtain ⟨_, _, _, _, _, _, _, _, hc⟩ := hc; cases hc; done) | (cases hc; done))
    · cases hc
  case load t y => (first | (simp only [Option.map_eq_some_iff] at hc; obtain ⟨_, _, hc⟩ := hc; cases hc; done) | (simp only [Option.bind_eq_some_iff, Option.map_eq_some_iff] at hc; obtain ⟨_, _, _, _, hc⟩ := hc; cases hc; done) | (simp only [Option.bind_eq_some_iff, Option.map_eq_some_iff] at hc; obtain ⟨_, _, _, _, _, _, hc⟩ := hc; cases hc; done) | (simp only [Option.bind_eq_some_iff, Option.map_eq_some_iff] at hc; obtain ⟨_, _, _, _, _, _, _, _, hc⟩ := hc; cases hc; done) | (cases hc; done))
  case store t y z => (first | (simp only [Option.map_eq_some_iff] at hc; obtain ⟨_, _, hc⟩ := hc; cases hc; done) | (simp only [Option.bind_eq_some_iff, Option.map_eq_some_iff] at hc; obtain ⟨_, _, _, _, hc⟩ := hc; cases hc; done) | (simp only [Option.bind_eq_some_iff, Option.map_eq_some_iff] at hc; obtain ⟨_, _, _, _, _, _, hc⟩ := hc; cases hc; done) | (simp only [Option.bind_eq_some_iff, Option.map_eq_some_iff] at hc; obtain ⟨_, _, _, _, _, _, _, _, hc⟩ := hc; cases hc; done) | (cases hc; done))
  case nilCheck y => (first | (simp only [Option.map_eq_some_iff] at hc; obtain ⟨_, _, hc⟩ := hc; cases hc; done) | (simp only [Option.bind_eq_some_iff, Option.map_eq_some_iff] at hc; obtain ⟨_, _, _, _, hc⟩ := hc; cases hc; done) | (simp only [Option.bind_eq_some_iff, Option.map_eq_some_iff] at hc; obtain ⟨_, _, _, _, _, _, hc⟩ := hc; cases hc; done) | (simp only [Option.bind_eq_some_iff, Option.map_eq_some_iff] at hc; obtain ⟨_, _, _, _, _, _, _, _, hc⟩ := hc; cases hc; done) | (cases hc; done))
  case binOp op t p q ty =>
    simp only [Option.bind_eq_some_iff] at hc
    obtain ⟨u, hu, hc⟩ := hc
    split at hc
    · (first | (simp only [Option.map_eq_some_iff] at hc; obtain ⟨_, _, hc⟩ := hc; cases hc; done) | (simp only [Option.bind_eq_some_iff, Option.map_eq_some_iff] at hc; obtain ⟨_, _, _, _, hc⟩ := hc; cases hc; done) | (simp only [Option.bind_eq_some_iff, Option.map_eq_some_iff] at hc; obtain ⟨_, _, _, _, _, _, hc⟩ := hc; cases hc; done) | (simp only [Option.bind_eq_some_iff, Option.map_eq_some_iff] at hc; obtain ⟨_, _, _, _, _, _, _, _, hc⟩ := hc; cases hc; done) | (cases hc; done))
    · have key : ∀ neg, compEq P E neg t p q ≠ some (.call f l) := by
        intro neg hc
        simp only [compEq, Option.bind_eq_some_iff] at hc
        obtain ⟨u', hu', hc⟩ := hc
        split at hc
        · (first | (simp only [Option.map_eq_some_iff] at hc; obtain ⟨_, _, hc⟩ := hc; cases hc; done) | (simp only [Option.bind_eq_some_iff, Option.map_eq_some_iff] at hc; obtain ⟨_, _, _, _, hc⟩ := hc; cases hc; done) | (simp only [Option.bind_eq_some_iff, Option.map_eq_some_iff] at hc; obtain ⟨_, _, _, _, _, _, hc⟩ := hc; cases hc; done) | (simp only [Option.bind_eq_some_iff, Option.map_eq_some_iff] at hc; obtain ⟨_, _, _, _, _, _, _, _, hc⟩ := hc; cases hc; done) | (cases hc; done))
        · simp only [Option.bind_eq_some_iff] at hc
          obtain ⟨ue, hue, i, hi, hc⟩ := hc
          split at hc
          · split at hc <;> (first | (simp only [Option.map_eq_some_iff] at hc; obtain ⟨_, _, hc⟩ := hc; cases hc; done) | (simp only [Option.bind_eq_some_iff, Option.map_eq_some_iff] at hc; obtain ⟨_, _, _, _, hc⟩ := hc; cases hc; done) | (simp only [Option.bind_eq_some_iff, Option.map_eq_some_iff] at hc; obtain ⟨_, _, _, _, _, _, hc⟩ := hc; cases hc; done) | (simp only [Option.bind_eq_some_iff, Option.map_eq_some_iff] at hc; obtain ⟨_, _, _, _, _, _, _, _, hc⟩ := hc; cases hc; done) | (cases hc; done))
          · cases hc
        · simp only [Option.bind_eq_some_iff] at hc
          obtain ⟨k, hk, hc⟩ := hc
          split at hc
          · (first | (simp only [Option.map_eq_some_iff] at hc; obtain ⟨_, _, hc⟩ := hc; cases hc; done) | (simp only [Option.bind_eq_some_iff, Option.map_eq_some_iff] at hc; obtain ⟨_, _, _, _, hc⟩ := hc; cases hc; done) | (simp only [Option.bind_eq_some_iff, Option.map_eq_some_iff] at hc; obtain ⟨_, _, _, _, _, _, hc⟩ := hc; cases hc; done) | (simp only [Option.bind_eq_some_iff, Option.map_eq_some_iff] at hc; obtain ⟨_, _, _, _, _, _, _, _, hc⟩ := hc; cases hc; done) | (cases hc; done))
          · split at hc <;> (first | (simp only [Option.map_eq_some_iff] at hc; obtain ⟨_, _, hc⟩ := hc; cases hc; done) | (simp only [Option.bind_eq_some_iff, Option.map_eq_some_iff] at hc; obtain ⟨_, _, _, _, hc⟩ := hc; cases hc; done) | (simp only [Option.bind_eq_some_iff, Option.map_eq_some_iff] at hc; obtain ⟨_, _, _, _, _, _, hc⟩ := hc; cases hc; done) | (simp only [Option.bind_eq_some_iff, Option.map_eq_some_iff] at hc; obtain ⟨_, _, _, _, _, _, _, _, hc⟩ := hc; cases hc; done) | (cases hc; done))
      split at hc
      · exact absurd hc (key _)
      · exact absurd hc (key _)
      · cases hc
  case unOp op t y => (first | (simp only [Option.map_eq_some_iff] at hc; obtain ⟨_, _, hc⟩ := hc; cases hc; done) | (simp only [Option.bind_eq_some_iff, Option.map_eq_some_iff] at hc; obtain ⟨_, _, _, _, hc⟩ := hc; cases hc; done) | (simp only [Option.bind_eq_some_iff, Option.map_eq_some_iff] at hc; obtain ⟨_, _, _, _, _, _, hc⟩ := hc; cases hc; done) | (simp only [Option.bind_eq_some_iff, Option.map_eq_some_iff] at hc; obtain ⟨_, _, _, _, _, _, _, _, hc⟩ := hc; cases hc; done) | (cases hc; done))
  case convert s d y =>
    simp only [Option.bind_eq_some_iff] at hc
    obtain ⟨us, hus, ud, hud, hc⟩ := hc
    split at hc
    · (first | (simp only [Option.map_eq_some_iff] at hc; obtain ⟨_, _, hc⟩ := hc; cases hc; done) | (simp only [Option.bind_eq_some_iff, Option.map_eq_some_iff] at hc; obtain ⟨_, _, _, _, hc⟩ := hc; cases hc; done) | (simp only [Option.bind_eq_some_iff, Option.map_eq_some_iff] at hc; obtain ⟨_, _, _, _, _, _, hc⟩ := hc; cases hc; done) | (simp only [Option.bind_eq_some_iff, Option.map_eq_some_iff] at hc; obtain ⟨_, _, _, _, _, _, _, _, hc⟩ := hc; cases hc; done) | (cases hc; done))
    · (first | (simp only [Option.map_eq_some_iff] at hc; obtain ⟨_, _, hc⟩ := hc; cases hc; done) | (simp only [Option.bind_eq_some_iff, Option.map_eq_some_iff] at hc; obtain ⟨_, _, _, _, hc⟩ := hc; cases hc; done) | (simp only [Option.bind_eq_some_iff, Option.map_eq_some_iff] at hc; obtain ⟨_, _, _, _, _, _, hc⟩ := hc; cases hc; done) | (simp only [Option.bind_eq_some_iff, Option.map_eq_some_iff] at hc; obtain ⟨_, _, _, _, _, _, _, _, hc⟩ := hc; cases hc; done) | (cases hc; done))
    · simp only [Option.bind_eq_some_iff] at hc
      obtain ⟨ue, hue, hc⟩ := hc
      split at hc <;> (first | (simp only [Option.map_eq_some_iff] at hc; obtain ⟨_, _, hc⟩ := hc; cases hc; done) | (simp only [Option.bind_eq_some_iff, Option.map_eq_some_iff] at hc; obtain ⟨_, _, _, _, hc⟩ := hc; cases hc; done) | (simp only [Option.bind_eq_some_iff, Option.map_eq_some_iff] at hc; obtain ⟨_, _, _, _, _, _, hc⟩ := hc; cases hc; done) | (simp only [Option.bind_eq_some_iff, Option.map_eq_some_iff] at hc; obtain ⟨_, _, _, _, _, _, _, _, hc⟩ := hc; cases hc; done) | (cases hc; done))
    · simp only [Option.bind_eq_some_iff] at hc
      obtain ⟨ue, hue, hc⟩ := hc
      split at hc <;> (first | (simp only [Option.map_eq_some_iff] at hc; obtain ⟨_, _, hc⟩ := hc; cases hc; done) | (simp only [Option.bind_eq_some_iff, Option.map_eq_some_iff] at hc; obtain ⟨_, _, _, _, hc⟩ := hc; cases hc; done) | (simp only [Option.bind_eq_some_iff, Option.map_eq_some_iff] at hc; obtain ⟨_, _, _, _, _, _, hc⟩ := hc; cases hc; done) | (simp only [Option.bind_eq_some_iff, Option.map_eq_some_iff] at hc; obtain ⟨_, _, _, _, _, _, _, _, hc⟩ := hc; cases hc; done) | (cases hc; done))
    · cases hc
  case sliceToArrayPointer t y =>
    simp only [Option.bind_eq_some_iff] at hc
    obtain ⟨u, hu, hc⟩ := hc
    split at hc
    · simp only [Option.bind_eq_some_iff] at hc
      obtain ⟨k, hk, hc⟩ := hc
      split at hc <;> (first | (simp only [Option.map_eq_some_iff] at hc; obtain ⟨_, _, hc⟩ := hc; cases hc; done) | (simp only [Option.bind_eq_some_iff, Option.map_eq_some_iff] at hc; obtain ⟨_, _, _, _, hc⟩ := hc; cases hc; done) | (simp only [Option.bind_eq_some_iff, Option.map_eq_some_iff] at hc; obtain ⟨_, _, _, _, _, _, hc⟩ := hc; cases hc; done) | (simp only [Option.bind_eq_some_iff, Option.map_eq_some_iff] at hc; obtain ⟨_, _, _, _, _, _, _, _, hc⟩ := hc; cases hc; done) | (cases hc; done))
    · cases hc
  case makeFunc fn first caps => (first | (simp only [Option.map_eq_some_iff] at hc; obtain ⟨_, _, hc⟩ := hc; cases hc; done) | (simp only [Option.bind_eq_some_iff, Option.map_eq_some_iff] at hc; obtain ⟨_, _, _, _, hc⟩ := hc; cases hc; done) | (simp only [Option.bind_eq_some_iff, Option.map_eq_some_iff] at hc; obtain ⟨_, _, _, _, _, _, hc⟩ := hc; cases hc; done) | (simp only [Option.bind_eq_some_iff, Option.map_eq_some_iff] at hc; obtain ⟨_, _, _, _, _, _, _, _, hc⟩ := hc; cases hc; done) | (cases hc; done))
  case makeSlice t l' c =>
    simp only [Option.bind_eq_some_iff] at hc
    obtain ⟨u, hu, hc⟩ := hc
    split at hc
    · simp only [Option.bind_eq_some_iff] at hc
      obtain ⟨k, hk, z, hz, i, hi, hc⟩ := hc
      split at hc <;> (first | (simp only [Option.map_eq_some_iff] at hc; obtain ⟨_, _, hc⟩ := hc; cases hc; done) | (simp only [Option.bind_eq_some_iff, Option.map_eq_some_iff] at hc; obtain ⟨_, _, _, _, hc⟩ := hc; cases hc; done) | (simp only [Option.bind_eq_some_iff, Option.map_eq_some_iff] at hc; obtain ⟨_, _, _, _, _, _, hc⟩ := hc; cases hc; done) | (simp only [Option.bind_eq_some_iff, Option.map_eq_some_iff] at hc; obtain ⟨_, _, _, _, _, _, _, _, hc⟩ := hc; cases hc; done) | (cases hc; done))
    · cases hc
  case slice t y lo hi mx =>
    simp only [Option.bind_eq_some_iff] at hc
    obtain ⟨u, hu, y', h1, lo', h2, hi', h3, mx', h4, hc⟩ := hc
    split at hc
    · cases hc
    · simp only [Option.bind_eq_some_iff] at hc
      obtain ⟨k, hk, i, hi2, hc⟩ := hc
      split at hc <;> cases hc
    · simp only [Option.bind_eq_some_iff] at hc
      obtain ⟨k, hk, i, hi2, hc⟩ := hc
      split at hc <;> cases hc
    · cases hc
  case fieldAddr t y q =>
    simp only [Option.bind_eq_some_iff] at hc
    obtain ⟨u, hu, hc⟩ := hc
    split at hc
    · simp only [Option.bind_eq_some_iff] at hc
      obtain ⟨fd, hf, i, hi, hc⟩ := hc
      split at hc <;> (first | (simp only [Option.map_eq_some_iff] at hc; obtain ⟨_, _, hc⟩ := hc; cases hc; done) | (simp only [Option.bind_eq_some_iff, Option.map_eq_some_iff] at hc; obtain ⟨_, _, _, _, hc⟩ := hc; cases hc; done) | (simp only [Option.bind_eq_some_iff, Option.map_eq_some_iff] at hc; obtain ⟨_, _, _, _, _, _, hc⟩ := hc; cases hc; done) | (simp only [Option.bind_eq_some_iff, Option.map_eq_some_iff] at hc; obtain ⟨_, _, _, _, _, _, _, _, hc⟩ := hc; cases hc; done) | (cases hc; done))
    · cases hc
  case field t y q =>
    simp only [Option.bind_eq_some_iff] at hc
    obtain ⟨u, hu, hc⟩ := hc
    split at hc
    · (first | (simp only [Option.map_eq_some_iff] at hc; obtain ⟨_, _, hc⟩ := hc; cases hc; done) | (simp only [Option.bind_eq_some_iff, Option.map_eq_some_iff] at hc; obtain ⟨_, _, _, _, hc⟩ := hc; cases hc; done) | (simp only [Option.bind_eq_some_iff, Option.map_eq_some_iff] at hc; obtain ⟨_, _, _, _, _, _, hc⟩ := hc; cases hc; done) | (simp only [Option.bind_eq_some_iff, Option.map_eq_some_iff] at hc; obtain ⟨_, _, _, _, _, _, _, _, hc⟩ := hc; cases hc; done) | (cases hc; done))
    · cases hc
  case indexAddr t y ix =>
    simp only [Option.bind_eq_some_iff] at hc
    obtain ⟨u, hu, y', h1, ix', h2, hc⟩ := hc
    split at hc
    · simp only [Option.bind_eq_some_iff] at hc
      obtain ⟨k, hk, i, hi, hc⟩ := hc
      split at hc <;> cases hc
    · simp only [Option.bind_eq_some_iff] at hc
      obtain ⟨k, hk, i, hi, hc⟩ := hc
      split at hc <;> cases hc
    · cases hc
  case index t y ix =>
    simp only [Option.bind_eq_some_iff] at hc
    obtain ⟨u, hu, y', h1, ix', h2, hc⟩ := hc
    split at hc
    · cases hc
    · simp only [Option.bind_eq_some_iff] at hc
      obtain ⟨k, hk, i, hi, hc⟩ := hc
      split at hc <;> cases hc
    · cases hc
  case extract t i => (first | (simp only [Option.map_eq_some_iff] at hc; obtain ⟨_, _, hc⟩ := hc; cases hc; done) | (simp only [Option.bind_eq_some_iff, Option.map_eq_some_iff] at hc; obtain ⟨_, _, _, _, hc⟩ := hc; cases hc; done) | (simp only [Option.bind_eq_some_iff, Option.map_eq_some_iff] at hc; obtain ⟨_, _, _, _, _, _, hc⟩ := hc; cases hc; done) | (simp only [Option.bind_eq_some_iff, Option.map_eq_some_iff] at hc; obtain ⟨_, _, _, _, _, _, _, _, hc⟩ := hc; cases hc; done) | (cases hc; done))
  all_goals cases hc
theorem comp_load {x : AOp} {k : Option Nat} {f : Opd} (hc : compOp P E o = some x) (hx : x = .load k f) : ∃ t y, o.op = .load t y ∧ kOf P t = some k ∧ compO E y = some f := by
  subst hx
  cases hop : o.op <;> simp only [compOp, hop] at hc
  case call c =>
    obtain ⟨callee, args, ts⟩ := c
    simp only at hc
    split at hc
    · (first | (simp only [Option.map_eq_some_iff] at hc; obtain ⟨_, _, hc⟩ := hc; cases hc; done) | (simp only [Option.bind_eq_some_iff, Option.map_eq_some_iff] at hc; obtain ⟨_, _, _, _, hc⟩ := hc; cases hc; done) | (simp only [Option.bind_eq_some_iff, Option.map_eq_some_iff] at hc; obtain ⟨_, _, _, _, _, _, hc⟩ := hc; cases hc; done) | (simp only [Option.bind_eq_some_iff, Option.map_eq_some_iff] at hc; obtain ⟨_, _, _, _, _, _, _, _, hc⟩ := hc; cases hc; done) | (cases hc; done))
    · exfalso
      unfold compB at hc
      split at hc
      · simp only [Option.bind_eq_some_iff] at hc
        obtain ⟨t, ht, u, hu, hc⟩ := hc
        split at hc
        · (first | (simp only [Option.map_eq_some_iff] at hc; obtain ⟨_, _, hc⟩ := hc; cases hc; done) | (simp only [Option.bind_eq_some_iff, Option.map_eq_some_iff] at hc; obtain ⟨_, _, _, _, hc⟩ := hc; cases hc; done) | (simp only [Option.bind_eq_some_iff, Option.map_eq_some_iff] at hc; obtain ⟨_, _, _, _, _, _, hc⟩ := hc; cases hc; done) | (simp only [Option.bind_eq_some_iff, Option.map_eq_some_iff] at hc; obtain ⟨_, _, _, _, _, _, _, _, hc⟩ := hc; cases hc; done) | (cases hc; done))
        · (first | (simp only [Option.map_eq_some_iff] at hc; obtain ⟨_, _, hc⟩ := hc; cases hc; done) | (simp only [Option.bind_eq_some_iff, Option.map_eq_some_iff] at hc; obtain ⟨_, _, _, _, hc⟩ := hc; cases hc; done) | (simp only [Option.bind_eq_some_iff, Option.map_eq_some_iff] at hc; obtain ⟨_, _, _, _, _, _, hc⟩ := hc; cases hc; done) | (simp only [Option.bind_eq_some_iff, Option.map_eq_some_iff] at hc; obtain ⟨_, _, _, _, _, _, _, _, hc⟩ := hc; cases hc; done) | (cases hc; done))
        · cases hc
        · simp only [Option.bind_eq_some_iff] at hc
          obtain ⟨u2, hu2, hc⟩ := hc
          split at hc <;> cases hc
        · cases hc
      · simp only [Option.bind_eq_some_iff] at hc
        obtain ⟨t, ht, tx, htx, u, hu, ux, hux, hc⟩ := hc
        split at hc
        · cases hc
        · simp only [Option.bind_eq_some_iff] at hc
          obtain ⟨k, hk, i, hi, hc⟩ := hc
          split at hc
          · split at hc
            · (first | (simp only [Option.map_eq_some_iff] at hc; obtain ⟨_, _, hc⟩ := hc; cases hc; done) | (simp only [Option.bind_eq_some_iff, Option.map_eq_some_iff] at hc; obtain ⟨_, _, _, _, hc⟩ := hc; cases hc; done) | (simp only [Option.bind_eq_some_iff, Option.map_eq_some_iff] at hc; obtain ⟨_, _, _, _, _, _, hc⟩ := hc; cases hc; done) | (simp only [Option.bind_eq_some_iff, Option.map_eq_some_iff] at hc; obtain ⟨_, _, _, _, _, _, _, _, hc⟩ := hc; cases hc; done) | (cases hc; done))
            · cases hc
          · cases hc
        · cases hc
      · simp only [Option.bind_eq_some_iff] at hc
        obtain ⟨t, ht, u, hu, hc⟩ := hc
        split at hc
        · simp only [Option.bind_eq_some_iff] at hc
          obtain ⟨k, hk, i, hi, hc⟩ := hc
          split at hc
          · (first | (simp only [Option.map_eq_some_iff] at hc; obtain ⟨_, _, hc⟩ := hc; cases hc; done) | (simp only [Option.bind_eq_some_iff, Option.map_eq_some_iff] at hc; obtain ⟨_, _, _, _, hc⟩ := hc; cases hc; done) | (simp only [Option.bind_eq_some_iff, Option.map_eq_some_iff] at hc; obtain ⟨_, _, _, _, _, _, hc⟩ := hc; cases hc; done) | (simp only [Option.bind_eq_some_iff, Option.map_eq_some_iff] at hc; obtain ⟨_, _, _, _, _, _, _, _, hc⟩ := hc; cases hc; done) | (cases hc; done))
          · cases hc
        · cases hc
      · (first | (simp only [Option.map_eq_some_iff] at hc; obtain ⟨_, _, hc⟩ := hc; cases hc; done) | (simp only [Option.bind_eq_some_iff, Option.map_eq_some_iff] at hc; obtain ⟨_, _, _, _, hc⟩ := hc; cases hc; done) | (simp only [Option.bind_eq_some_iff, Option.map_eq_some_iff] at hc; obtain ⟨_, _, _, _, _, _, hc⟩ := hc; cases hc; done) | (simp only [Option.bind_eq_some_iff, Option.map_eq_some_iff] at hc; obtain ⟨_, _, _, _, _, _, _, _, hc⟩ := hc; cases hc; done) | (cases hc; done))
      · (first | (simp only [Option.map_eq_some_iff] at hc; obtain ⟨_, _, hc⟩ := hc; cases hc; done) | (simp only [Option.bind_eq_some_iff, Option.map_eq_some_iff] at hc; obtain ⟨_, _, _, _, hc⟩ := hc; cases hc; done) | (simp only [Option.bind_eq_some_iff, Option.map_eq_some_iff] at hc; obtain ⟨_, _, _, _, _, _, hc⟩ := hc; cases hc; done) | (simp only [Option.bind_eq_some_iff, Option.map_eq_some_iff] at hc; obtain ⟨_, _, _, _, _, _, _, _, hc⟩ := hc; cases hc; done) | (cases hc; done))
      · cases hc
    · cases hc
  case move y => split at hc <;> (first | (simp only [Option.map_eq_some_iff] at hc; obtain ⟨_, _, hc⟩ := hc; cases hc; done) | (simp only [Option.bind_eq_some_iff, Option.map_eq_some_iff] at hc; obtain ⟨_, _, _, _, hc⟩ := hc; cases hc; done) | (simp only [Option.bind_eq_some_iff, Option.map_eq_some_iff] at hc; obtain ⟨_, _, _, _, _, _, hc⟩ := hc; cases hc; done) | (simp only [Option.bind_eq_some_iff, Option.map_eq_some_iff] at hc; obtain ⟨_, _, _, _, _, _, _, _, hc⟩ := hc; cases hc; done) | (cases hc; done))
  case assign y => split at hc <;> (first | (simp only [Option.map_eq_some_iff] at hc; obtain ⟨_, _, hc⟩ := hc; cases hc; done) | (simp only [Option.bind_eq_some_iff, Option.map_eq_some_iff] at hc; obtain ⟨_, _, _, _, hc⟩ := hc; cases hc; done) | (simp only [Option.bind_eq_some_iff, Option.map_eq_some_iff] at hc; obtain ⟨_, _, _, _, _, _, hc⟩ := hc; cases hc; done) | (simp only [Option.bind_eq_some_iff, Option.map_eq_some_iff] at hc; obtain ⟨_, _, _, _, _, _, _, _, hc⟩ := hc; cases hc; done) | (cases hc; done))
  case pick c p q => (first | (simp only [Option.map_eq_some_iff] at hc; obtain ⟨_, _, hc⟩ := hc; cases hc; done) | (simp only [Option.bind_eq_some_iff, Option.map_eq_some_iff] at hc; obtain ⟨_, _, _, _, hc⟩ := hc; cases hc; done) | (simp only [Option.bind_eq_some_iff, Option.map_eq_some_iff] at hc; obtain ⟨_, _, _, _, _, _, hc⟩ := hc; cases hc; done) | (simp only [Option.bind_eq_some_iff, Option.map_eq_some_iff] at hc; obtain ⟨_, _, _, _, _, _, _, _, hc⟩ := hc; cases hc; done) | (cases hc; done))
  case alloc t => simp only [Option.bind_eq_some_iff] at hc; obtain ⟨z, h1, h2⟩ := hc; split at h2 <;> cases h2
  case box t y => (first | (simp only [Option.map_eq_some_iff] at hc; obtain ⟨_, _, hc⟩ := hc; cases hc; done) | (simp only [Option.bind_eq_some_iff, Option.map_eq_some_iff] at hc; obtain ⟨_, _, _, _, hc⟩ := hc; cases hc; done) | (simp only [Option.bind_eq_some_iff, Option.map_eq_some_iff] at hc; obtain ⟨_, _, _, _, _, _, hc⟩ := hc; cases hc; done) | (simp only [Option.bind_eq_some_iff, Option.map_eq_some_iff] at hc; obtain ⟨_, _, _, _, _, _, _, _, hc⟩ := hc; cases hc; done) | (cases hc; done))
  case build t parts =>
    simp only [Option.bind_eq_some_iff] at hc
    obtain ⟨z, hz, u, hu, hc⟩ := hc
    split at hc
    · split at hc <;> (first | (simp only [Option.map_eq_some_iff] at hc; obtain ⟨_, _, hc⟩ := hc; cases hc; done) | (simp only [Option.bind_eq_some_iff, Option.map_eq_some_iff] at hc; obtain ⟨_, _, _, _, hc⟩ := hc; cases hc; done) | (simp only [Option.bind_eq_some_iff, Option.map_eq_some_iff] at hc; obtain ⟨_, _, _, _, _, _, hc⟩ := hc; cases hc; done) | (simp only [Option.bind_eq_some_iff, Option.map_eq_some_iff] at hc; obtain ⟨_, _, _, _, _, _, _, _, hc⟩ := hc; cases hc; done) | (cases hc; done))
    · (first | (simp only [Option.map_eq_some_iff] at hc; obtain ⟨_, _, hc⟩ := hc; cases hc; done) | (simp only [Option.bind_eq_some_iff, Option.map_eq_some_iff] at hc; obtain ⟨_, _, _, _, hc⟩ := hc; cases hc; done) | (simp only [Option.bind_eq_some_iff, Option.map_eq_some_iff] at hc; obtain ⟨_, _, _, _, _, _, hc⟩ := hc; cases hc; done) | (simp only [Option.bind_eq_some_iff, Option.map_eq_some_iff] at hc; obtain ⟨_, _, _, _, _, _, _, _, hc⟩ := hc; cases hc; done) | (cases hc; done))
    · cases hc
  case buildSlice t len parts =>
    simp only [Option.bind_eq_some_iff] at hc
    obtain ⟨u, hu, hc⟩ := hc
    split at hc
    · simp only [Option.bind_eq_some_iff] at hc
      obtain ⟨k, hk, z, hz, i, hi, hc⟩ := hc
      split at hc <;> (first | (simp only [Option.map_eq_some_iff] at hc; obtain ⟨_, _, hc⟩ := hc; cases hc; done) | (simp only [Option.bind_eq_some_iff, Option.map_eq_some_iff] at hc; obtain ⟨_, _, _, _, hc⟩ := hc; cases hc; done) | (simp only [Option.bind_eq_some_iff, Option.map_eq_some_iff] at hc; obtain ⟨_, _, _, _, _, _, hc⟩ := hc; cases hc; done) | (simp only [Option.bind_eq_some_iff, Option.map_eq_some_iff] at hc; obtain ⟨_, _, _, _, _, _, _, _, hc⟩ := hc; cases hc; done) | (cases hc; done))
    · cases hc
  case load t y =>
    simp only [Option.bind_eq_some_iff, Option.map_eq_some_iff] at hc
    obtain ⟨k', hk', y', h1, hh⟩ := hc
    cases hh
    exact ⟨t, y, rfl, hk', h1⟩
  case store t y z => (first | (simp only [Option.map_eq_some_iff] at hc; obtain ⟨_, _, hc⟩ := hc; cases hc; done) | (simp only [Option.bind_eq_some_iff, Option.map_eq_some_iff] at hc; obtain ⟨_, _, _, _, hc⟩ := hc; cases hc; done) | (simp only [Option.bind_eq_some_iff, Option.map_eq_some_iff] at hc; obtain ⟨_, _, _, _, _, _, hc⟩ := hc; cases hc; done) | (simp only [Option.bind_eq_some_iff, Option.map_eq_some_iff] at hc; obtain ⟨_, _, _, _, _, _, _, _, hc⟩ := hc; cases hc; done) | (cases hc; done))
  case nilCheck y => (first | (simp only [Option.map_eq_some_iff] at hc; obtain ⟨_, _, hc⟩ := hc; cases hc; done) | (simp only [Option.bind_eq_some_iff, Option.map_eq_some_iff] at hc; obtain ⟨_, _, _, _, hc⟩ := hc; cases hc; done) | (simp only [Option.bind_eq_some_iff, Option.map_eq_some_iff] at hc; obtain ⟨_, _, _, _, _, _, hc⟩ := hc; cases hc; done) | (simp only [Option.bind_eq_some_iff, Option.map_eq_some_iff] at hc; obtain ⟨_, _, _, _, _, _, _, _, hc⟩ := hc; cases hc; done) | (cases hc; done))
  case binOp op t p q ty =>
    simp only [Option.bind_eq_some_iff] at hc
    obtain ⟨u, hu, hc⟩ := hc
    split at hc
    · (first | (simp only [Option.map_eq_some_iff] at hc; obtain ⟨_, _, hc⟩ := hc; cases hc; done) | (simp only [Option.bind_eq_some_iff, Option.map_eq_some_iff] at hc; obtain ⟨_, _, _, _, hc⟩ := hc; cases hc; done) | (simp only [Option.bind_eq_some_iff, Option.map_eq_some_iff] at hc; obtain ⟨_, _, _, _, _, _, hc⟩ := hc; cases hc; done) | (simp only [Option.bind_eq_some_iff, Option.map_eq_some_iff] at hc; obtain ⟨_, _, _, _, _, _, _, _, hc⟩ := hc; cases hc; done) | (cases hc; done))
    · have key : ∀ neg, compEq P E neg t p q ≠ some (.load k f) := by
        intro neg hc
        simp only [compEq, Option.bind_eq_some_iff] at hc
        obtain ⟨u', hu', hc⟩ := hc
        split at hc
        · (first | (simp only [Option.map_eq_some_iff] at hc; obtain ⟨_, _, hc⟩ := hc; cases hc; done) | (simp only [Option.bind_eq_some_iff, Option.map_eq_some_iff] at hc; obtain ⟨_, _, _, _, hc⟩ := hc; cases hc; done) | (simp only [Option.bind_eq_some_iff, Option.map_eq_some_iff] at hc; obtain ⟨_, _, _, _, _, _, hc⟩ := hc; cases hc; done) | (simp only [Option.bind_eq_some_iff, Option.map_eq_some_iff] at hc; obtain ⟨_, _, _, _, _, _, _, _, hc⟩ := hc; cases hc; done) | (cases hc; done))
        · simp only [Option.bind_eq_some_iff] at hc
          obtain ⟨ue, hue, i, hi, hc⟩ := hc
          split at hc
          · split at hc <;> (first | (simp only [Option.map_eq_some_iff] at hc; obtain ⟨_, _, hc⟩ := hc; cases hc; done) | (simp only [Option.bind_eq_some_iff, Option.map_eq_some_iff] at hc; obtain ⟨_, _, _, _, hc⟩ := hc; cases hc; done) | (simp only [Option.bind_eq_some_iff, Option.map_eq_some_iff] at hc; obtain ⟨_, _, _, _, _, _, hc⟩ := hc; cases hc; done) | (simp only [Option.bind_eq_some_iff, Option.map_eq_some_iff] at hc; obtain ⟨_, _, _, _, _, _, _, _, hc⟩ := hc; cases hc; done) | (cases hc; done))
          · cases hc
        · simp only [Option.bind_eq_some_iff] at hc
          obtain ⟨k, hk, hc⟩ := hc
          split at hc
          · (first | (simp only [Option.map_eq_some_iff] at hc; obtain ⟨_, _, hc⟩ := hc; cases hc; done) | (simp only [Option.bind_eq_some_iff, Option.map_eq_some_iff] at hc; obtain ⟨_, _, _, _, hc⟩ := hc; cases hc; done) | (simp only [Option.bind_eq_some_iff, Option.map_eq_some_iff] at hc; obtain ⟨_, _, _, _, _, _, hc⟩ := hc; cases hc; done) | (simp only [Option.bind_eq_some_iff, Option.map_eq_some_iff] at hc; obtain ⟨_, _, _, _, _, _, _, _, hc⟩ := hc; cases hc; done) | (cases hc; done))
          · split at hc <;> (first | (simp only [Option.map_eq_some_iff] at hc; obtain ⟨_, _, hc⟩ := hc; cases hc; done) | (simp only [Option.bind_eq_some_iff, Option.map_eq_some_iff] at hc; obtain ⟨_, _, _, _, hc⟩ := hc; cases hc; done) | (simp only [Option.bind_eq_some_iff, Option.map_eq_some_iff] at hc; obtain ⟨_, _, _, _, _, _, hc⟩ := hc; cases hc; done) | (simp only [Option.bind_eq_some_iff, Option.map_eq_some_iff] at hc; obtain ⟨_, _, _, _, _, _, _, _, hc⟩ := hc; cases hc; done) | (cases hc; done))
      split at hc
      · exact absurd hc (key _)
      · exact absurd hc (key _)
      · cases hc
  case unOp op t y => (first | (simp only [Option.map_eq_some_iff] at hc; obtain ⟨_, _, hc⟩ := hc; cases hc; done) | (simp only [Option.bind_eq_some_iff, Option.map_eq_some_iff] at hc; obtain ⟨_, _, _, _, hc⟩ := hc; cases hc; done) | (simp only [Option.bind_eq_some_iff, Option.map_eq_some_iff] at hc; obtain ⟨_, _, _, _, _, _, hc⟩ := hc; cases hc; done) | (simp only [Option.bind_eq_some_iff, Option.map_eq_some_iff] at hc; obtain ⟨_, _, _, _, _, _, _, _, hc⟩ := hc; cases hc; done) | (cases hc; done))
  case convert s d y =>
    simp only [Option.bind_eq_some_iff] at hc
    obtain ⟨us, hus, ud, hud, hc⟩ := hc
    split at hc
    · (first | (simp only [Option.map_eq_some_iff] at hc; obtain ⟨_, _, hc⟩ := hc; cases hc; done) | (simp only [Option.bind_eq_some_iff, Option.map_eq_some_iff] at hc; obtain ⟨_, _, _, _, hc⟩ := hc; cases hc; done) | (simp only [Option.bind_eq_some_iff, Option.map_eq_some_iff] at hc; obtain ⟨_, _, _, _, _, _, hc⟩ := hc; cases hc; done) | (simp only [Option.bind_eq_some_iff, Option.map_eq_some_iff] at hc; obtain ⟨_, _, _, _, _, _, _, _, hc⟩ := hc; cases hc; done) | (cases hc; done))
    · (first | (simp only [Option.map_eq_some_iff] at hc; obtain ⟨_, _, hc⟩ := hc; cases hc; done) | (simp only [Option.bind_eq_some_iff, Option.map_eq_some_iff] at hc; obtain ⟨_, _, _, _, hc⟩ := hc; cases hc; done) | (simp only [Option.bind_eq_some_iff, Option.map_eq_some_iff] at hc; obtain ⟨_, _, _, _, _, _, hc⟩ := hc; cases hc; done) | (simp only [Option.bind_eq_some_iff, Option.map_eq_some_iff] at hc; obtain ⟨_, _, _, _, _, _, _, _, hc⟩ := hc; cases hc; done) | (cases hc; done))
    · simp only [Option.bind_eq_some_iff] at hc
      obtain ⟨ue, hue, hc⟩ := hc
      split at hc <;> (first | (simp only [Option.map_eq_some_iff] at hc; obtain ⟨_, _, hc⟩ := hc; cases hc; done) | (simp only [Option.bind_eq_some_iff, Option.map_eq_some_iff] at hc; obtain ⟨_, _, _, _, hc⟩ := hc; cases hc; done) | (simp only [Option.bind_eq_some_iff, Option.map_eq_some_iff] at hc; obtain ⟨_, _, _, _, _, _, hc⟩ := hc; cases hc; done) | (simp only [Option.bind_eq_some_iff, Option.map_eq_some_iff] at hc; obtain ⟨_, _, _, _, _, _, _, _, hc⟩ := hc; cases hc; done) | (cases hc; done))
    · simp only [Option.bind_eq_some_iff] at hc
      obtain ⟨ue, hue, hc⟩ := hc
      split at hc <;> (first | (simp only [Option.map_eq_some_iff] at hc; obtain ⟨_, _, hc⟩ := hc; cases hc; done) | (simp only [Option.bind_eq_some_iff, Option.map_eq_some_iff] at hc; obtain ⟨_, _, _, _, hc⟩ := hc; cases hc; done) | (simp only [Option.bind_eq_some_iff, Option.map_eq_some_iff] at hc; obtain ⟨_, _, _, _, _, _, hc⟩ := hc; cases hc; done) | (simp only [Option.bind_eq_some_iff, Option.map_eq_some_iff] at hc; obtain ⟨_, _, _, _, _, _, _, _, hc⟩ := hc; cases hc; done) | (cases hc; done))
    · cases hc
  case sliceToArrayPointer t y =>
    simp only [Option.bind_eq_some_iff] at hc
    obtain ⟨u, hu, hc⟩ := hc
    split at hc
    · simp only [Option.bind_eq_some_iff] at hc
      obtain ⟨k, hk, hc⟩ := hc
      split at hc <;> (first | (simp only [Option.map_eq_some_iff] at hc; obtain ⟨_, _, hc⟩ := hc; cases hc; done) | (simp only [Option.bind_eq_some_iff, Option.map_eq_some_iff] at hc; obtain ⟨_, _, _, _, hc⟩ := hc; cases hc; done) | (simp only [Option.bind_eq_some_iff, Option.map_eq_some_iff] at hc; obtain ⟨_, _, _, _, _, _, hc⟩ := hc; cases hc; done) | (simp only [Option.bind_eq_some_iff, Option.map_eq_some_iff] at hc; obtain ⟨_, _, _, _, _, _, _, _, hc⟩ := hc; cases hc; done) | (cases hc; done))
    · cases hc
  case makeFunc fn first caps => (first | (simp only [Option.map_eq_some_iff] at hc; obtain ⟨_, _, hc⟩ := hc; cases hc; done) | (simp only [Option.bind_eq_some_iff, Option.map_eq_some_iff] at hc; obtain ⟨_, _, _, _, hc⟩ := hc; cases hc; done) | (simp only [Option.bind_eq_some_iff, Option.map_eq_some_iff] at hc; obtain ⟨_, _, _, _, _, _, hc⟩ := hc; cases hc; done) | (simp only [Option.bind_eq_some_iff, Option.map_eq_some_iff] at hc; obtain ⟨_, _, _, _, _, _, _, _, hc⟩ := hc; cases hc; done) | (cases hc; done))
  case makeSlice t l' c =>
    simp only [Option.bind_eq_some_iff] at hc
    obtain ⟨u, hu, hc⟩ := hc
    split at hc
    · simp only [Option.bind_eq_some_iff] at hc
      obtain ⟨k, hk, z, hz, i, hi, hc⟩ := hc
      split at hc <;> (first | (simp only [Option.map_eq_some_iff] at hc; obtain ⟨_, _, hc⟩ := hc; cases hc; done) | (simp only [Option.bind_eq_some_iff, Option.map_eq_some_iff] at hc; obtain ⟨_, _, _, _, hc⟩ := hc; cases hc; done) | (simp only [Option.bind_eq_some_iff, Option.map_eq_some_iff] at hc; obtain ⟨_, _, _, _, _, _, hc⟩ := hc; cases hc; done) | (simp only [Option.bind_eq_some_iff, Option.map_eq_some_iff] at hc; obtain ⟨_, _, _, _, _, _, _, _, hc⟩ := hc; cases hc; done) | (cases hc; done))
    · cases hc
  case slice t y lo hi mx =>
    simp only [Option.bind_eq_some_iff] at hc
    obtain ⟨u, hu, y', h1, lo', h2, hi', h3, mx', h4, hc⟩ := hc
    split at hc
    · cases hc
    · simp only [Option.bind_eq_some_iff] at hc
      obtain ⟨k, hk, i, hi2, hc⟩ := hc
      split at hc <;> cases hc
    · simp only [Option.bind_eq_some_iff] at hc
      obtain ⟨k, hk, i, hi2, hc⟩ := hc
      split at hc <;> cases hc
    · cases hc
  case fieldAddr t y q =>
    simp only [Option.bind_eq_some_iff] at hc
    obtain ⟨u, hu, hc⟩ := hc
    split at hc
    · simp only [Option.bind_eq_some_iff] at hc
      obtain ⟨fd, hf, i, hi, hc⟩ := hc
      split at hc <;> (first | (simp only [Option.map_eq_some_iff] at hc; obtain ⟨_, _, hc⟩ := hc; cases hc; done) | (simp only [Option.bind_eq_some_iff, Option.map_eq_some_iff] at hc; obtain ⟨_, _, _, _, hc⟩ := hc; cases hc; done) | (simp only [Option.bind_eq_some_iff, Option.map_eq_some_iff] at hc; obtain ⟨_, _, _, _, _, _, hc⟩ := hc; cases hc; done) | (simp only [Option.bind_eq_some_iff, Option.map_eq_some_iff] at hc; obtain ⟨_, _, _, _, _, _, _, _, hc⟩ := hc; cases hc; done) | (cases hc; done))
    · cases hc
  case field t y q =>
    simp only [Option.bind_eq_some_iff] at hc
    obtain ⟨u, hu, hc⟩ := hc
    split at hc
    · (first | (simp only [Option.map_eq_some_iff] at hc; obtain ⟨_, _, hc⟩ := hc; cases hc; done) | (simp only [Option.bind_eq_some_iff, Option.map_eq_some_iff] at hc; obtain ⟨_, _, _, _, hc⟩ := hc; cases hc; done) | (simp only [Option.bind_eq_some_iff, Option.map_eq_some_iff] at hc; obtain ⟨_, _, _, _, _, _, hc⟩ := hc; cases hc; done) | (simp only [Option.bind_eq_some_iff, Option.map_eq_some_iff] at hc; obtain ⟨_, _, _, _, _, _, _, _, hc⟩ := hc; cases hc; done) | (cases hc; done))
    · cases hc
  case indexAddr t y ix =>
    simp only [Option.bind_eq_some_iff] at hc
    obtain ⟨u, hu, y', h1, ix', h2, hc⟩ := hc
    split at hc
    · simp only [Option.bind_eq_some_iff] at hc
      obtain ⟨k, hk, i, hi, hc⟩ := hc
      split at hc <;> cases hc
    · simp only [Option.bind_eq_some_iff] at hc
      obtain ⟨k, hk, i, hi, hc⟩ := hc
      split at hc <;> cases hc
    · cases hc
  case index t y ix =>
    simp only [Option.bind_eq_some_iff] at hc
    obtain ⟨u, hu, y', h1, ix', h2, hc⟩ := hc
    split at hc
    · cases hc
    · simp only [Option.bind_eq_some_iff] at hc
      obtain ⟨k, hk, i, hi, hc⟩ := hc
      split at hc <;> cases hc
    · cases hc
  case extract t i => (first | (simp only [Option.map_eq_some_iff] at hc; obtain ⟨_, _, hc⟩ := hc; cases hc; done) | (simp only [Option.bind_eq_some_iff, Option.map_eq_some_iff] at hc; obtain ⟨_, _, _, _, hc⟩ := hc; cases hc; done) | (simp only [Option.bind_eq_some_iff, Option.map_eq_some_iff] at hc; obtain ⟨_, _, _, _, _, _, hc⟩ := hc; cases hc; done) | (simp only [Option.bind_eq_some_iff, Option.map_eq_some_iff] at hc; obtain ⟨_, _, _, _, _, _, _, _, hc⟩ := hc; cases hc; done) | (cases hc; done))
  all_goals cases hc
theorem comp_str {x : AOp} {f : Opd} (hc : compOp P E o = some x) (hx : x = .convStr f) : ∃ s d el y, o.op = .convert s d y ∧ P.underlying s = some (.slice el) ∧ P.underlying el = some (.int .u8) ∧ P.underlying d = some .string ∧ compO E y = some f := by
  subst hx
  cases hop : o.op <;> simp only [compOp, hop] at hc
  case call c =>
    obtain ⟨callee, args, ts⟩ := c
    simp only at hc
    split at hc
    · (first | (simp only [Option.map_eq_some_iff] at hc; obtain ⟨_, _, hc⟩ := hc; cases hc; done) | (simp only [Option.bind_eq_some_iff, Option.map_eq_some_iff] at hc; obtain ⟨_, _, _, _, hc⟩ := hc; cases hc; done) | (simp only [Option.bind_eq_some_iff, Option.map_eq_some_iff] at hc; obtain ⟨_, _, _, _, _, _, hc⟩ := hc; cases hc; done) | (simp only [Option.bind_eq_some_iff, Option.map_eq_some_iff] at hc; obtain ⟨_, _, _, _, _, _, _, _, hc⟩ := hc; cases hc; done) | (cases hc; done))
    · exfalso
      unfold compB at hc
      split at hc
      · simp only [Option.bind_eq_some_iff] at hc
        obtain ⟨t, ht, u, hu, hc⟩ := hc
        split at hc
        · (first | (simp only [Option.map_eq_some_iff] at hc; obtain ⟨_, _, hc⟩ := hc; cases hc; done) | (simp only [Option.bind_eq_some_iff, Option.map_eq_some_iff] at hc; obtain ⟨_, _, _, _, hc⟩ := hc; cases hc; done) | (simp only [Option.bind_eq_some_iff, Option.map_eq_some_iff] at hc; obtain ⟨_, _, _, _, _, _, hc⟩ := hc; cases hc; done) | (simp only [Option.bind_eq_some_iff, Option.map_eq_some_iff] at hc; obtain ⟨_, _, _, _, _, _, _, _, hc⟩ := hc; cases hc; done) | (cases hc; done))
        · (first | (simp only [Option.map_eq_some_iff] at hc; obtain ⟨_, _, hc⟩ := hc; cases hc; done) | (simp only [Option.bind_eq_some_iff, Option.map_eq_some_iff] at hc; obtain ⟨_, _, _, _, hc⟩ := hc; cases hc; done) | (simp only [Option.bind_eq_some_iff, Option.map_eq_some_iff] at hc; obtain ⟨_, _, _, _, _, _, hc⟩ := hc; cases hc; done) | (simp only [Option.bind_eq_some_iff, Option.map_eq_some_iff] at hc; obtain ⟨_, _, _, _, _, _, _, _, hc⟩ := hc; cases hc; done) | (cases hc; done))
        · cases hc
        · simp only [Option.bind_eq_some_iff] at hc
          obtain ⟨u2, hu2, hc⟩ := hc
          split at hc <;> cases hc
        · cases hc
      · simp only [Option.bind_eq_some_iff] at hc
        obtain ⟨t, ht, tx, htx, u, hu, ux, hux, hc⟩ := hc
        split at hc
        · cases hc
        · simp only [Option.bind_eq_some_iff] at hc
          obtain ⟨k, hk, i, hi, hc⟩ := hc
          split at hc
          · split at hc
            · (first | (simp only [Option.map_eq_some_iff] at hc; obtain ⟨_, _, hc⟩ := hc; cases hc; done) | (simp only [Option.bind_eq_some_iff, Option.map_eq_some_iff] at hc; obtain ⟨_, _, _, _, hc⟩ := hc; cases hc; done) | (simp only [Option.bind_eq_some_iff, Option.map_eq_some_iff] at hc; obtain ⟨_, _, _, _, _, _, hc⟩ := hc; cases hc; done) | (simp only [Option.bind_eq_some_iff, Option.map_eq_some_iff] at hc; obtain ⟨_, _, _, _, _, _, _, _, hc⟩ := hc; cases hc; done) | (cases hc; done))
            · cases hc
          · cases hc
        · cases hc
      · simp only [Option.bind_eq_some_iff] at hc
        obtain ⟨t, ht, u, hu, hc⟩ := hc
        split at hc
        · simp only [Option.bind_eq_some_iff] at hc
          obtain ⟨k, hk, i, hi, hc⟩ := hc
          split at hc
          · (first | (simp only [Option.map_eq_some_iff] at hc; obtain ⟨_, _, hc⟩ := hc; cases hc; done) | (simp only [Option.bind_eq_some_iff, Option.map_eq_some_iff] at hc; obtain ⟨_, _, _, _, hc⟩ := hc; cases hc; done) | (simp only [Option.bind_eq_some_iff, Option.map_eq_some_iff] at hc; obtain ⟨_, _, _, _, _, _, hc⟩ := hc; cases hc; done) | (simp only [Option.bind_eq_some_iff, Option.map_eq_some_iff] at hc; obtain ⟨_, _, _, _, _, _, _, _, hc⟩ := hc; cases hc; done) | (cases hc; done))
          · cases hc
        · cases hc
      · (first | (simp only [Option.map_eq_some_iff] at hc; obtain ⟨_, _, hc⟩ := hc; cases hc; done) | (simp only [Option.bind_eq_some_iff, Option.map_eq_some_iff] at hc; obtain ⟨_, _, _, _, hc⟩ := hc; cases hc; done) | (simp only [Option.bind_eq_some_iff, Option.map_eq_some_iff] at hc; obtain ⟨_, _, _, _, _, _, hc⟩ := hc; cases hc; done) | (simp only [Option.bind_eq_some_iff, Option.map_eq_some_iff] at hc; obtain ⟨_, _, _, _, _, _, _, _, hc⟩ := hc; cases hc; done) | (cases hc; done))
      · (first | (simp only [Option.map_eq_some_iff] at hc; obtain ⟨_, _, hc⟩ := hc; cases hc; done) | (simp only [Option.bind_eq_some_iff, Option.map_eq_some_iff] at hc; obtain ⟨_, _, _, _, hc⟩ := hc; cases hc; done) | (simp only [Option.bind_eq_some_iff, Option.map_eq_some_iff] at hc; obtain ⟨_, _, _, _, _, _, hc⟩ := hc; cases hc; done) | (simp only [Option.bind_eq_some_iff, Option.map_eq_some_iff] at hc; obtain ⟨_, _, _, _, _, _, _, _, hc⟩ := hc; cases hc; done) | (cases hc; done))
      · cases hc
    · cases hc
  case move y => split at hc <;> (first | (simp only [Option.map_eq_some_iff] at hc; obtain ⟨_, _, hc⟩ := hc; cases hc; done) | (simp only [Option.bind_eq_some_iff, Option.map_eq_some_iff] at hc; obtain ⟨_, _, _, _, hc⟩ := hc; cases hc; done) | (simp only [Option.bind_eq_some_iff, Option.map_eq_some_iff] at hc; obtain ⟨_, _, _, _, _, _, hc⟩ := hc; cases hc; done) | (simp only [Option.bind_eq_some_iff, Option.map_eq_some_iff] at hc; obtain ⟨_, _, _, _, _, _, _, _, hc⟩ := hc; cases hc; done) | (cases hc; done))
  case assign y => split at hc <;> (first | (simp only [Option.map_eq_some_iff] at hc; obtain ⟨_, _, hc⟩ := hc; cases hc; done) | (simp only [Option.bind_eq_some_iff, Option.map_eq_some_iff] at hc; obtain ⟨_, _, _, _, hc⟩ := hc; cases hc; done) | (simp only [Option.bind_eq_some_iff, Option.map_eq_some_iff] at hc; obtain ⟨_, _, _, _, _, _, hc⟩ := hc; cases hc; done) | (simp only [Option.bind_eq_some_iff, Option.map_eq_some_iff] at hc; obtain ⟨_, _, _, _, _, _, _, _, hc⟩ := hc; cases hc; done) | (cases hc; done))
  case pick c p q => (first | (simp only [Option.map_eq_some_iff] at hc; obtain ⟨_, _, hc⟩ := hc; cases hc; done) | (simp only [Option.bind_eq_some_iff, Option.map_eq_some_iff] at hc; obtain ⟨_, _, _, _, hc⟩ := hc; cases hc; done) | (simp only [Option.bind_eq_some_iff, Option.map_eq_some_iff] at hc; obtain ⟨_, _, _, _, _, _, hc⟩ := hc; cases hc; done) | (simp only [Option.bind_eq_some_iff, Option.map_eq_some_iff] at hc; obtain ⟨_, _, _, _, _, _, _, _, hc⟩ := hc; cases hc; done) | (cases hc; done))
  case alloc t => simp only [Option.bind_eq_some_iff] at hc; obtain ⟨z, h1, h2⟩ := hc; split at h2 <;> cases h2
  case box t y => (first | (simp only [Option.map_eq_some_iff] at hc; obtain ⟨_, _, hc⟩ := hc; cases hc; done) | (simp only [Option.bind_eq_some_iff, Option.map_eq_some_iff] at hc; obtain ⟨_, _, _, _, hc⟩ := hc; cases hc; done) | (simp only [Option.bind_eq_some_iff, Option.map_eq_some_iff] at hc; obtain ⟨_, _, _, _, _, _, hc⟩ := hc; cases hc; done) | (simp only [Option.bind_eq_some_iff, Option.map_eq_some_iff] at hc; obtain ⟨_, _, _, _, _, _, _, _, hc⟩ := hc; cases hc; done) | (cases hc; done))
  case build t parts =>
    simp only [Option.bind_eq_some_iff] at hc
    obtain ⟨z, hz, u, hu, hc⟩ := hc
    split at hc
    · split at hc <;> (first | (simp only [Option.map_eq_some_iff] at hc; obtain ⟨_, _, hc⟩ := hc; cases hc; done) | (simp only [Option.bind_eq_some_iff, Option.map_eq_some_iff] at hc; obtain ⟨_, _, _, _, hc⟩ := hc; cases hc; done) | (simp only [Option.bind_eq_some_iff, Option.map_eq_some_iff] at hc; obtain ⟨_, _, _, _, _, _, hc⟩ := hc; cases hc; done) | (simp only [Option.bind_eq_some_iff, Option.map_eq_some_iff] at hc; obtain ⟨_, _, _, _, _, _, _, _, hc⟩ := hc; cases hc; done) | (cases hc; done))
    · (first | (simp only [Option.map_eq_some_iff] at hc; obtain ⟨_, _, hc⟩ := hc; cases hc; done) | (simp only [Option.bind_eq_some_iff, Option.map_eq_some_iff] at hc; obtain ⟨_, _, _, _, hc⟩ := hc; cases hc; done) | (simp only [Option.bind_eq_some_iff, Option.map_eq_some_iff] at hc; obtain ⟨_, _, _, _, _, _, hc⟩ := hc; cases hc; done) | (simp only [Option.bind_eq_some_iff, Option.map_eq_some_iff] at hc; obtain ⟨_, _, _, _, _, _, _, _, hc⟩ := hc; cases hc; done) | (cases hc; done))
    · cases hc
  case buildSlice t len parts =>
    simp only [Option.bind_eq_some_iff] at hc
    obtain ⟨u, hu, hc⟩ := hc
    split at hc
    · simp only [Option.bind_eq_some_iff] at hc
      obtain ⟨k, hk, z, hz, i, hi, hc⟩ := hc
      split at hc <;> (first | (simp only [Option.map_eq_some_iff] at hc; obtain ⟨_, _, hc⟩ := hc; cases hc; done) | (simp only [Option.bind_eq_some_iff, Option.map_eq_some_iff] at hc; obtain ⟨_, _, _, _, hc⟩ := hc; cases hc; done) | (simp only [Option.bind_eq_some_iff, Option.map_eq_some_iff] at hc; obtain ⟨_, _, _, _, _, _, hc⟩ := hc; cases hc; done) | (simp only [Option.bind_eq_some_iff, Option.map_eq_some_iff] at hc; obtain ⟨_, _, _, _, _, _, _, _, hc⟩ := hc; cases hc; done) | (cases hc; done))
    · cases hc
  case load t y => (first | (simp only [Option.map_eq_some_iff] at hc; obtain ⟨_, _, hc⟩ := hc; cases hc; done) | (simp only [Option.bind_eq_some_iff, Option.map_eq_some_iff] at hc; obtain ⟨_, _, _, _, hc⟩ := hc; cases hc; done) | (simp only [Option.bind_eq_some_iff, Option.map_eq_some_iff] at hc; obtain ⟨_, _, _, _, _, _, hc⟩ := hc; cases hc; done) | (simp only [Option.bind_eq_some_iff, Option.map_eq_some_iff] at hc; obtain ⟨_, _, _, _, _, _, _, _, hc⟩ := hc; cases hc; done) | (cases hc; done))
  case store t y z => (first | (simp only [Option.map_eq_some_iff] at hc; obtain ⟨_, _, hc⟩ := hc; cases hc; done) | (simp only [Option.bind_eq_some_iff, Option.map_eq_some_iff] at hc; obtain ⟨_, _, _, _, hc⟩ := hc; cases hc; done) | (simp only [Option.bind_eq_some_iff, Option.map_eq_some_iff] at hc; obtain ⟨_, _, _, _, _, _, hc⟩ := hc; cases hc; done) | (simp only [Option.bind_eq_some_iff, Option.map_eq_some_iff] at hc; obtain ⟨_, _, _, _, _, _, _, _, hc⟩ := hc; cases hc; done) | (cases hc; done))
  case nilCheck y => (first | (simp only [Option.map_eq_some_iff] at hc; obtain ⟨_, _, hc⟩ := hc; cases hc; done) | (simp only [Option.bind_eq_some_iff, Option.map_eq_some_iff] at hc; obtain ⟨_, _, _, _, hc⟩ := hc; cases hc; done) | (simp only [Option.bind_eq_some_iff, Option.map_eq_some_iff] at hc; obtain ⟨_, _, _, _, _, _, hc⟩ := hc; cases hc; done) | (simp only [Option.bind_eq_some_iff, Option.map_eq_some_iff] at hc; obtain ⟨_, _, _, _, _, _, _, _, hc⟩ := hc; cases hc; done) | (cases hc; done))
  case binOp op t p q ty =>
    simp only [Option.bind_eq_some_iff] at hc
    obtain ⟨u, hu, hc⟩ := hc
    split at hc
    · (first | (simp only [Option.map_eq_some_iff] at hc; obtain ⟨_, _, hc⟩ := hc; cases hc; done) | (simp only [Option.bind_eq_some_iff, Option.map_eq_some_iff] at hc; obtain ⟨_, _, _, _, hc⟩ := hc; cases hc; done) | (simp only [Option.bind_eq_some_iff, Option.map_eq_some_iff] at hc; obtain ⟨_, _, _, _, _, _, hc⟩ := hc; cases hc; done) | (simp only [Option.bind_eq_some_iff, Option.map_eq_some_iff] at hc; obtain ⟨_, _, _, _, _, _, _, _, hc⟩ := hc; cases hc; done) | (cases hc; done))
    · have key : ∀ neg, compEq P E neg t p q ≠ some (.convStr f) := by
        intro neg hc
        simp only [compEq, Option.bind_eq_some_iff] at hc
        obtain ⟨u', hu', hc⟩ := hc
        split at hc
        · (first | (simp only [Option.map_eq_some_iff] at hc; obtain ⟨_, _, hc⟩ := hc; cases hc; done) | (simp only [Option.bind_eq_some_iff, Option.map_eq_some_iff] at hc; obtain ⟨_, _, _, _, hc⟩ := hc; cases hc; done) | (simp only [Option.bind_eq_some_iff, Option.map_eq_some_iff] at hc; obtain ⟨_, _, _, _, _, _, hc⟩ := hc; cases hc; done) | (simp only [Option.bind_eq_some_iff, Option.map_eq_some_iff] at hc; obtain ⟨_, _, _, _, _, _, _, _, hc⟩ := hc; cases hc; done) | (cases hc; done))
        · simp only [Option.bind_eq_some_iff] at hc
          obtain ⟨ue, hue, i, hi, hc⟩ := hc
          split at hc
          · split at hc <;> (first | (simp only [Option.map_eq_some_iff] at hc; obtain ⟨_, _, hc⟩ := hc; cases hc; done) | (simp only [Option.bind_eq_some_iff, Option.map_eq_some_iff] at hc; obtain ⟨_, _, _, _, hc⟩ := hc; cases hc; done) | (simp only [Option.bind_eq_some_iff, Option.map_eq_some_iff] at hc; obtain ⟨_, _, _, _, _, _, hc⟩ := hc; cases hc; done) | (simp only [Option.bind_eq_some_iff, Option.map_eq_some_iff] at hc; obtain ⟨_, _, _, _, _, _, _, _, hc⟩ := hc; cases hc; done) | (cases hc; done))
          · cases hc
        · simp only [Option.bind_eq_some_iff] at hc
          obtain ⟨k, hk, hc⟩ := hc
          split at hc
          · (first | (simp only [Option.map_eq_some_iff] at hc; obtain ⟨_, _, hc⟩ := hc; cases hc; done) | (simp only [Option.bind_eq_some_iff, Option.map_eq_some_iff] at hc; obtain ⟨_, _, _, _, hc⟩ := hc; cases hc; done) | (simp only [Option.bind_eq_some_iff, Option.map_eq_some_iff] at hc; obtain ⟨_, _, _, _, _, _, hc⟩ := hc; cases hc; done) | (simp only [Option.bind_eq_some_iff, Option.map_eq_some_iff] at hc; obtain ⟨_, _, _, _, _, _, _, _, hc⟩ := hc; cases hc; done) | (cases hc; done))
          · split at hc <;> (first | (simp only [Option.map_eq_some_iff] at hc; obtain ⟨_, _, hc⟩ := hc; cases hc; done) | (simp only [Option.bind_eq_some_iff, Option.map_eq_some_iff] at hc; obtain ⟨_, _, _, _, hc⟩ := hc; cases hc; done) | (simp only [Option.bind_eq_some_iff, Option.map_eq_some_iff] at hc; obtain ⟨_, _, _, _, _, _, hc⟩ := hc; cases hc; done) | (simp only [Option.bind_eq_some_iff, Option.map_eq_some_iff] at hc; obtain ⟨_, _, _, _, _, _, _, _, hc⟩ := hc; cases hc; done) | (cases hc; done))
      split at hc
      · exact absurd hc (key _)
      · exact absurd hc (key _)
      · cases hc
  case unOp op t y => (first | (simp only [Option.map_eq_some_iff] at hc; obtain ⟨_, _, hc⟩ := hc; cases hc; done) | (simp only [Option.bind_eq_some_iff, Option.map_eq_some_iff] at hc; obtain ⟨_, _, _, _, hc⟩ := hc; cases hc; done) | (simp only [Option.bind_eq_some_iff, Option.map_eq_some_iff] at hc; obtain ⟨_, _, _, _, _, _, hc⟩ := hc; cases hc; done) | (simp only [Option.bind_eq_some_iff, Option.map_eq_some_iff] at hc; obtain ⟨_, _, _, _, _, _, _, _, hc⟩ := hc; cases hc; done) | (cases hc; done))
  case convert s d y =>
    simp only [Option.bind_eq_some_iff] at hc
    obtain ⟨us, hus, ud, hud, hc⟩ := hc
    split at hc
    · (first | (simp only [Option.map_eq_some_iff] at hc; obtain ⟨_, _, hc⟩ := hc; cases hc; done) | (simp only [Option.bind_eq_some_iff, Option.map_eq_some_iff] at hc; obtain ⟨_, _, _, _, hc⟩ := hc; cases hc; done) | (simp only [Option.bind_eq_some_iff, Option.map_eq_some_iff] at hc; obtain ⟨_, _, _, _, _, _, hc⟩ := hc; cases hc; done) | (simp only [Option.bind_eq_some_iff, Option.map_eq_some_iff] at hc; obtain ⟨_, _, _, _, _, _, _, _, hc⟩ := hc; cases hc; done) | (cases hc; done))
    · (first | (simp only [Option.map_eq_some_iff] at hc; obtain ⟨_, _, hc⟩ := hc; cases hc; done) | (simp only [Option.bind_eq_some_iff, Option.map_eq_some_iff] at hc; obtain ⟨_, _, _, _, hc⟩ := hc; cases hc; done) | (simp only [Option.bind_eq_some_iff, Option.map_eq_some_iff] at hc; obtain ⟨_, _, _, _, _, _, hc⟩ := hc; cases hc; done) | (simp only [Option.bind_eq_some_iff, Option.map_eq_some_iff] at hc; obtain ⟨_, _, _, _, _, _, _, _, hc⟩ := hc; cases hc; done) | (cases hc; done))
    · simp only [Option.bind_eq_some_iff] at hc
      obtain ⟨ue, hue, hc⟩ := hc
      split at hc <;> (first | (simp only [Option.map_eq_some_iff] at hc; obtain ⟨_, _, hc⟩ := hc; cases hc; done) | (simp only [Option.bind_eq_some_iff, Option.map_eq_some_iff] at hc; obtain ⟨_, _, _, _, hc⟩ := hc; cases hc; done) | (simp only [Option.bind_eq_some_iff, Option.map_eq_some_iff] at hc; obtain ⟨_, _, _, _, _, _, hc⟩ := hc; cases hc; done) | (simp only [Option.bind_eq_some_iff, Option.map_eq_some_iff] at hc; obtain ⟨_, _, _, _, _, _, _, _, hc⟩ := hc; cases hc; done) | (cases hc; done))
    · simp only [Option.bind_eq_some_iff] at hc
      obtain ⟨ue, hue, hc⟩ := hc
      split at hc
      · simp only [Option.map_eq_some_iff] at hc
        obtain ⟨y', h1, hh⟩ := hc
        cases hh
        exact ⟨s, d, _, y, rfl, hus, hue, hud, h1⟩
      · cases hc
    · cases hc
  case sliceToArrayPointer t y =>
    simp only [Option.bind_eq_some_iff] at hc
    obtain ⟨u, hu, hc⟩ := hc
    split at hc
    · simp only [Option.bind_eq_some_iff] at hc
      obtain ⟨k, hk, hc⟩ := hc
      split at hc <;> (first | (simp only [Option.map_eq_some_iff] at hc; obtain ⟨_, _, hc⟩ := hc; cases hc; done) | (simp only [Option.bind_eq_some_iff, Option.map_eq_some_iff] at hc; obtain ⟨_, _, _, _, hc⟩ := hc; cases hc; done) | (simp only [Option.bind_eq_some_iff, Option.map_eq_some_iff] at hc; obtain ⟨_, _, _, _, _, _, hc⟩ := hc; cases hc; done) | (simp only [Option.bind_eq_some_iff, Option.map_eq_some_iff] at hc; obtain ⟨_, _, _, _, _, _, _, _, hc⟩ := hc; cases hc; done) | (cases hc; done))
    · cases hc
  case makeFunc fn first caps => (first | (simp only [Option.map_eq_some_iff] at hc; obtain ⟨_, _, hc⟩ := hc; cases hc; done) | (simp only [Option.bind_eq_some_iff, Option.map_eq_some_iff] at hc; obtain ⟨_, _, _, _, hc⟩ := hc; cases hc; done) | (simp only [Option.bind_eq_some_iff, Option.map_eq_some_iff] at hc; obtain ⟨_, _, _, _, _, _, hc⟩ := hc; cases hc; done) | (simp only [Option.bind_eq_some_iff, Option.map_eq_some_iff] at hc; obtain ⟨_, _, _, _, _, _, _, _, hc⟩ := hc; cases hc; done) | (cases hc; done))
  case makeSlice t l' c =>
    simp only [Option.bind_eq_some_iff] at hc
    obtain ⟨u, hu, hc⟩ := hc
    split at hc
    · simp only [Option.bind_eq_some_iff] at hc
      obtain ⟨k, hk, z, hz, i, hi, hc⟩ := hc
      split at hc <;> (first | (simp only [Option.map_eq_some_iff] at hc; obtain ⟨_, _, hc⟩ := hc; cases hc; done) | (simp only [Option.bind_eq_some_iff, Option.map_eq_some_iff] at hc; obtain ⟨_, _, _, _, hc⟩ := hc; cases hc; done) | (simp only [Option.bind_eq_some_iff, Option.map_eq_some_iff] at hc; obtain ⟨_, _, _, _, _, _, hc⟩ := hc; cases hc; done) | (simp only [Option.bind_eq_some_iff, Option.map_eq_some_iff] at hc; obtain ⟨_, _, _, _, _, _, _, _, hc⟩ := hc; cases hc; done) | (cases hc; done))
    · cases hc
  case slice t y lo hi mx =>
    simp only [Option.bind_eq_some_iff] at hc
    obtain ⟨u, hu, y', h1, lo', h2, hi', h3, mx', h4, hc⟩ := hc
    split at hc
    · cases hc
    · simp only [Option.bind_eq_some_iff] at hc
      obtain ⟨k, hk, i, hi2, hc⟩ := hc
      split at hc <;> cases hc
    · simp only [Option.bind_eq_some_iff] at hc
      obtain ⟨k, hk, i, hi2, hc⟩ := hc
      split at hc <;> cases hc
    · cases hc
  case fieldAddr t y q =>
    simp only [Option.bind_eq_some_iff] at hc
    obtain ⟨u, hu, hc⟩ := hc
    split at hc
    · simp only [Option.bind_eq_some_iff] at hc
      obtain ⟨fd, hf, i, hi, hc⟩ := hc
      split at hc <;> (first | (simp only [Option.map_eq_some_iff] at hc; obtain ⟨_, _, hc⟩ := hc; cases hc; done) | (simp only [Option.bind_eq_some_iff, Option.map_eq_some_iff] at hc; obtain ⟨_, _, _, _, hc⟩ := hc; cases hc; done) | (simp only [Option.bind_eq_some_iff, Option.map_eq_some_iff] at hc; obtain ⟨_, _, _, _, _, _, hc⟩ := hc; cases hc; done) | (simp only [Option.bind_eq_some_iff, Option.map_eq_some_iff] at hc; obtain ⟨_, _, _, _, _, _, _, _, hc⟩ := hc; cases hc; done) | (cases hc; done))
    · cases hc
  case field t y q =>
    simp only [Option.bind_eq_some_iff] at hc
    obtain ⟨u, hu, hc⟩ := hc
    split at hc
    · (first | (simp only [Option.map_eq_some_iff] at hc; obtain ⟨_, _, hc⟩ := hc; cases hc; done) | (simp only [Option.bind_eq_some_iff, Option.map_eq_some_iff] at hc; obtain ⟨_, _, _, _, hc⟩ := hc; cases hc; done) | (simp only [Option.bind_eq_some_iff, Option.map_eq_some_iff] at hc; obtain ⟨_, _, _, _, _, _, hc⟩ := hc; cases hc; done) | (simp only [Option.bind_eq_some_iff, Option.map_eq_some_iff] at hc; obtain ⟨_, _, _, _, _, _, _, _, hc⟩ := hc; cases hc; done) | (cases hc; done))
    · cases hc
  case indexAddr t y ix =>
    simp only [Option.bind_eq_some_iff] at hc
    obtain ⟨u, hu, y', h1, ix', h2, hc⟩ := hc
    split at hc
    · simp only [Option.bind_eq_some_iff] at hc
      obtain ⟨k, hk, i, hi, hc⟩ := hc
      split at hc <;> cases hc
    · simp only [Option.bind_eq_some_iff] at hc
      obtain ⟨k, hk, i, hi, hc⟩ := hc
      split at hc <;> cases hc
    · cases hc
  case index t y ix =>
    simp only [Option.bind_eq_some_iff] at hc
    obtain ⟨u, hu, y', h1, ix', h2, hc⟩ := hc
    split at hc
    · cases hc
    · simp only [Option.bind_eq_some_iff] at hc
      obtain ⟨k, hk, i, hi, hc⟩ := hc
      split at hc <;> cases hc
    · cases hc
  case extract t i => (first | (simp only [Option.map_eq_some_iff] at hc; obtain ⟨_, _, hc⟩ := hc; cases hc; done) | (simp only [Option.bind_eq_some_iff, Option.map_eq_some_iff] at hc; obtain ⟨_, _, _, _, hc⟩ := hc; cases hc; done) | (simp only [Option.bind_eq_some_iff, Option.map_eq_some_iff] at hc; obtain ⟨_, _, _, _, _, _, hc⟩ := hc; cases hc; done) | (simp only [Option.bind_eq_some_iff, Option.map_eq_some_iff] at hc; obtain ⟨_, _, _, _, _, _, _, _, hc⟩ := hc; cases hc; done) | (cases hc; done))
  all_goals cases hc
theorem load_or_str {x : AOp} (hc : compOp P E o = some x) (hk : (∃ k y, x = .load k y) ∨ ∃ y, x = .convStr y) (hx : aop C x e h = some (v, h')) (r : Rel S h B W) (he : EnvR S e a E.nt) (hg : GlobOK E.gl S.imm) : h' = h ∧ ExR P o a S v W := by
  rcases hk with ⟨k, y, rfl⟩ | ⟨y, rfl⟩
  · obtain ⟨t, y0, hop, hk', h1⟩ := comp_load hc rfl
    exact ex_load hop hk' h1 hx r he hg
  · obtain ⟨s, d, el, y0, hop, q1, q2, q3, h1⟩ := comp_str hc rfl
    exact ex_convStr hop q1 q2 q3 h1 hx r he hg
/-- the call's target and arguments -/
theorem call_parts {f : Opd} {l : List Opd} {f0 : Operand} {args : Array Operand} (hf : compO E f0 = some f) (hl : compL E args.toList = some l) (he : EnvR S e a E.nt) (hg : GlobOK E.gl S.imm) {g : Nat} {first caps : List AV} (hv : evO e f = .func (.func g) first caps) :
    ∃ x y, a.eval f0 = .func (.func g) x y ∧ VL S (first ++ evL e l ++ caps) (x ++ args.map a.eval ++ y).toList := by
  have h1 := evO_V he hg hf
  rw [hv] at h1
  simp only [V] at h1
  obtain ⟨x, y, q1, q2, q3⟩ := h1
  refine ⟨x, y, q1, ?_⟩
  simp only [Array.toList_append, Array.toList_map]
  exact (q2.append (evL_V he hg hl)).append q3
/-- one operation in a row -/
theorem step_sound {x : AOp} (hC : ClOK P E.gl C) (hc : compOp P E o = some x) (hx : aop C x e h = some (v, h')) (r : Rel S h B W) (he : EnvR S e a E.nt) (hg : GlobOK E.gl S.imm) {next : Act → World → Prop} {Q : Exit → Act → World → Prop}
    (hn : ∀ S' u W', Ext S S' → Rel S' h' B W' → V S' v u → Below B W W' → next (a.put o.dst u) W') : o.wp P a W next Q := by
  by_cases hcall : ∃ f l, x = .call f l
  · obtain ⟨f, l, rfl⟩ := hcall
    obtain ⟨f0, args, ts, hop, hf, hl⟩ := comp_call hc rfl
    simp only [aop] at hx
    split at hx
    · rename_i g first caps hv
      obtain ⟨p, q, q1, q2⟩ := call_parts hf hl he hg hv
      obtain ⟨hcal, hcalls⟩ := hC.call _ _ _ _ _ hx
      unfold Oper.wp
      rw [run_call hop q1 hcal W]
      simp only [Oper.upon_enter]
      refine (hcalls S B W _ r q2 hg).mono ?_
      rintro e' W' ⟨u, S', rfl, g1, g2, g3, g4⟩
      exact hn S' u W' g1 g2 g3 g4
    · cases hx
  · obtain ⟨n, u, W', S', h1, h2, h3, h4, h5, h6⟩ := op_sound hc (fun f l hh => hcall ⟨f, l, hh⟩) hx r he hg
    unfold Oper.wp
    rw [h1]
    rcases h2 with rfl | ⟨rfl, rfl⟩
    · exact hn S' u W' h3 h4 h5 h6
    · exact hn S' _ W' h3 h4 h5 h6
/-- a guard -/
theorem want_ok {ops : Array Oper} {g : Option (Nat × Bool)} (hc : compG ops o.guard = some g) (he : EnvR S e a E.nt) {w : Bool} (hw : wantE g e = some w) : Region.wanted o (yielded ops a.tmps) = w := by
  unfold Region.wanted
  cases hgd : o.guard with
  | none =>
    rw [hgd] at hc
    simp only [compG] at hc
    cases hc
    simp only [wantE] at hw
    cases hw
    rfl
  | some p =>
    obtain ⟨j, want⟩ := p
    rw [hgd] at hc
    simp only [compG, Option.map_eq_some_iff] at hc
    obtain ⟨t, ht, rfl⟩ := hc
    have hv := he.get t
    simp only [wantE] at hw
    simp only [yielded, ht, Option.bind_some]
    split at hw
    · rename_i b hb
      cases hw
      rw [hb] at hv
      simp only [V] at hv
      have : a.tmps[t]? = some (.bool b) := by
        cases hq : a.tmps[t]? with
        | none => rw [Array.getD_eq_getD_getElem?, hq] at hv; cases hv
        | some q => rw [Array.getD_eq_getD_getElem?, hq] at hv; rw [← hv]; rfl
      rw [this]
      rfl
    · rename_i q hnb hb
      cases hw
      rw [hb] at hv
      simp only [V] at hv
      cases hq : a.tmps[t]? with
      | none => rfl
      | some q' =>
        rw [Array.getD_eq_getD_getElem?, hq] at hv
        simp only [Option.getD_some] at hv
        subst hv
        cases q' <;> first | rfl | exact absurd rfl (hnb _)
    · cases hw
theorem comp_dst {ops : Array Oper} {x : AOper} (hc : compOper P E ops o = some x) : (compOp P E o = some x.op ∨ x.op = .stuck) ∧ compG ops o.guard = some x.guard ∧ x.dst = o.dst ∧ ∀ t, o.dst = some t → t < E.nt := by
  simp only [compOper, Option.bind_eq_some_iff] at hc
  obtain ⟨g, h2, hc⟩ := hc
  split at hc
  · rename_i hd
    cases hc
    refine ⟨?_, h2, rfl, fun t ht => ?_⟩
    · cases hq : compOp P E o with
      | none => exact .inr rfl
      | some y => exact .inl rfl
    · simp only [ht, dstOK] at hd
      simpa using hd
  · cases hc
theorem not_stuck {x : AOp} {r : AV × Heap} (h1 : compOp P E o = some x ∨ x = .stuck) (h2 : aop C x e h = some r) : compOp P E o = some x := by
  rcases h1 with h1 | h1
  · exact h1
  · subst h1; cases h2
theorem not_stuckQ {x : AOp} {r : AV} (h1 : compOp P E o = some x ∨ x = .stuck) (h2 : quietV C x e h = some r) : compOp P E o = some x := by
  rcases h1 with h1 | h1
  · exact h1
  · subst h1; cases h2
/-- a row of operations -/
theorem ops_sound (hC : ClOK P E.gl C) {ops : Array Oper} {Q : Exit → Act → World → Prop} : ∀ {l : List Oper} {l' : List AOper} {e e' : Env} {h h' : Heap} {S : St} {W : World} {a : Act}, compOps P E ops l = some l' → aops C l' e h = some (e', h') → Rel S h B W → EnvR S e a E.nt → GlobOK E.gl S.imm →
    (∀ S' a' W', Ext S S' → Rel S' h' B W' → EnvR S' e' a' E.nt → a'.defers = a.defers → Below B W W' → Q .normal a' W') → wpList P ops Q l a W
  | [], l', e, e', h, h', S, W, a, hc, hx, r, he, hg, hq => by
    simp only [compOps] at hc
    cases hc
    simp only [aops] at hx
    cases hx
    exact hq S a W (Ext.refl S) r he rfl (Below.refl B W)
  | o :: l, l', e, e', h, h', S, W, a, hc, hx, r, he, hg, hq => by
    simp only [compOps, Option.bind_eq_some_iff, Option.map_eq_some_iff] at hc
    obtain ⟨x, hc1, l'', hc2, rfl⟩ := hc
    obtain ⟨d1, d2, d3, d4⟩ := comp_dst hc1
    simp only [aops, Option.bind_eq_some_iff] at hx
    obtain ⟨w, hw, hx⟩ := hx
    have hwant := want_ok d2 he hw
    unfold wpList
    cases w with
    | true =>
      rw [if_pos hwant]
      simp only [if_true, Option.bind_eq_some_iff, Prod.exists] at hx
      obtain ⟨v, h1, hx1, hx2⟩ := hx
      replace d1 := not_stuck d1 hx1
      refine .inl (step_sound hC d1 hx1 r he hg fun S' u W' g1 g2 g3 g4 => ?_)
      rw [d3] at hx2
      exact ops_sound hC hc2 hx2 g2 ((he.mono g1).put d4 g3) (hg.mono g1) fun S2 a2 W2 k1 k2 k3 k4 k5 => hq S2 a2 W2 (g1.trans k1) k2 k3 (k4.trans (by cases o.dst <;> rfl)) (g4.trans k5)
    | false =>
      rw [if_neg (by rw [hwant]; simp)]
      simp only [Bool.false_eq_true, if_false] at hx
      rw [d3] at hx
      exact ops_sound hC hc2 hx r (he.put d4 (V_sc _)) hg fun S2 a2 W2 k1 k2 k3 k4 k5 => hq S2 a2 W2 k1 k2 k3 (k4.trans (by cases o.dst <;> rfl)) k5
/-- a row of operations that only reads, in whatever order -/
theorem opsQ_sound (hC : ClOK P E.gl C) {ops : Array Oper} {Q : Act → Prop} (r : Rel S h B W) (hg : GlobOK E.gl S.imm) : ∀ {l : List Oper} {l' : List AOper} {e e' : Env} {a : Act}, compOps P E ops l = some l' → aopsQ C l' e h = some e' → EnvR S e a E.nt →
    (∀ a', EnvR S e' a' E.nt → a'.defers = a.defers → Q a') → wpQuiet P ops (fun W' => Below W.heap.size W W') Q l a
  | [], l', e, e', a, hc, hx, he, hq => by
    simp only [compOps] at hc
    cases hc
    simp only [aopsQ] at hx
    cases hx
    exact hq a he rfl
  | o :: l, l', e, e', a, hc, hx, he, hq => by
    simp only [compOps, Option.bind_eq_some_iff, Option.map_eq_some_iff] at hc
    obtain ⟨x, hc1, l'', hc2, rfl⟩ := hc
    obtain ⟨d1, d2, d3, d4⟩ := comp_dst hc1
    simp only [aopsQ, Option.bind_eq_some_iff] at hx
    obtain ⟨w, hw, hx⟩ := hx
    have hwant := want_ok d2 he hw
    unfold wpQuiet
    have hdef : ∀ u : Value, (a.put o.dst u).defers = a.defers := fun u => by cases o.dst <;> rfl
    cases w with
    | false =>
      rw [if_neg (by rw [hwant]; simp)]
      simp only [Bool.false_eq_true, if_false] at hx
      rw [d3] at hx
      exact opsQ_sound hC r hg hc2 hx (he.put d4 (V_sc _)) fun a2 k3 k4 => hq a2 k3 (k4.trans (hdef _))
    | true =>
      rw [if_pos hwant]
      simp only [if_true, Option.bind_eq_some_iff] at hx
      obtain ⟨v, hx1, hx2⟩ := hx
      replace d1 := not_stuckQ d1 hx1
      rw [d3] at hx2
      have fin : ∀ u, V S v u → wpQuiet P ops (fun W' => Below W.heap.size W W') Q l (a.put o.dst u) := fun u hu =>
        opsQ_sound hC r hg hc2 hx2 (he.put d4 hu) fun a2 k3 k4 => hq a2 k3 (k4.trans (hdef _))
      unfold quietV at hx1
      split at hx1
      · rename_i hst
        simp only [Option.map_eq_some_iff, Prod.exists] at hx1
        obtain ⟨v', h', hx1, rfl⟩ := hx1
        obtain ⟨_, u, hu, hrun⟩ := op_still d1 hst hx1 r he hg
        exact ⟨u, fun w' hw' => by unfold Oper.quietAt; rw [hrun w']; exact ⟨rfl, rfl⟩, fin u hu⟩
      · have hrel : ∀ W', Below W.heap.size W W' → Rel S h B W' := fun W' hb => r.world hb
        have fromR : ∀ v', rigid v' = true → v' = v → (∀ W', Below W.heap.size W W' → ExR P o a S v' W') → o.quiet P a (fun W' => Below W.heap.size W W') (wpQuiet P ops (fun W' => Below W.heap.size W W') Q l) := by
          rintro v' hrig rfl hR
          refine ⟨conc v', fun W' hw' => ?_, ?_⟩
          · obtain ⟨u, h1, h2⟩ := hR W' hw'
            have := conc_eq _ hrig h2
            subst this
            unfold Oper.quietAt
            rw [h1]
            exact ⟨rfl, rfl⟩
          · obtain ⟨u, h1, h2⟩ := hR W (Below.refl _ _)
            have := conc_eq _ hrig h2
            rw [← this]
            exact fin u h2
        split at hx1
        · rename_i k y hop
          simp only [Option.bind_eq_some_iff, Prod.exists] at hx1
          obtain ⟨v', h', hx1, hx3⟩ := hx1
          split at hx3
          · rename_i hrig
            refine fromR v' hrig (Option.some.inj hx3) fun W' hw' => ?_
            rw [hop] at d1 hx1
            exact (load_or_str d1 (.inl ⟨k, y, rfl⟩) hx1 (hrel W' hw') he hg).2
          · cases hx3
        · rename_i y hop
          simp only [Option.bind_eq_some_iff, Prod.exists] at hx1
          obtain ⟨v', h', hx1, hx3⟩ := hx1
          split at hx3
          · rename_i hrig
            refine fromR v' hrig (Option.some.inj hx3) fun W' hw' => ?_
            rw [hop] at d1 hx1
            exact (load_or_str d1 (.inr ⟨y, rfl⟩) hx1 (hrel W' hw') he hg).2
          · cases hx3
        · rename_i f l0 hop
          split at hx1
          · rename_i g first caps hv
            split at hx1
            · rename_i hpure
              simp only [Option.bind_eq_some_iff, Prod.exists] at hx1
              obtain ⟨v', h', hx1, hx3⟩ := hx1
              split at hx3
              · rename_i hrig
                cases hx3
                obtain ⟨f0, args, ts, hop', hf, hl⟩ := comp_call d1 hop
                rw [hop] at hx1
                simp only [aop, hv] at hx1
                obtain ⟨p, q, q1, q2⟩ := call_parts hf hl he hg hv
                obtain ⟨hcal, _⟩ := hC.call _ _ _ _ _ hx1
                have hquiet : ∀ W', Below W.heap.size W W' → o.quietAt P a (fun W' => Below W.heap.size W W') W' (conc v) := by
                  intro W' hw'
                  unfold Oper.quietAt
                  rw [run_call hop' q1 hcal W']
                  refine ⟨rfl, (hC.quiet _ _ _ _ _ hpure hx1 S B W' _ (hrel W' hw') q2 hg).mono ?_⟩
                  rintro e' W2 ⟨u, S', rfl, g1, g2⟩
                  rw [conc_eq _ hrig g1]
                  exact ⟨rfl, hw'.trans (g2.mono hw'.size)⟩
                refine ⟨conc v, hquiet, fin _ ?_⟩
                -- the value lies as it must: a rigid one lies anyhow
                exact rigid_V v hrig
              · cases hx3
            · cases hx1
          · cases hx1
        · cases hx1
end
end Go.Proofs.Ytpnkldjbiinnpaa.AM
