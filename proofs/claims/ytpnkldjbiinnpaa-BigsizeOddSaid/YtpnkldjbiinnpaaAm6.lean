import Derived.Test.YtpnkldjbiinnpaaAm5
/- Each operation of the model does what the plain machine's does: addresses, slices, parts. -/
namespace Go.Proofs.Ytpnkldjbiinnpaa.AM
open Go Go.RowKit
set_option linter.unusedVariables false
set_option linter.unusedSimpArgs false
theorem add_at (b o n : Nat) : (⟨b, o, none⟩ : Addr).add n = ⟨b, o + n, none⟩ := by unfold Addr.add; split <;> simp_all
def NilShape : NK → Bool → Value → Prop
  | .ptr, true, p => p = .pointer none
  | .ptr, false, p => ∃ a, p = .pointer (some a)
  | .slice, true, p => ∃ l c, p = .slice none l c
  | .slice, false, p => ∃ a l c, p = .slice (some a) l c
  | .map, true, p => p = .map none
  | .map, false, p => ∃ a, p = .map (some a)
  | .func, true, p => p = .nilFunc
  | .func, false, p => ∃ f x y, p = .func f x y
theorem nilShape {S : St} {k : NK} {x : AV} {r : Bool} {p : Value} (hr : isNil k x = some r) (hv : V S x p) : NilShape k r p := by
  unfold isNil at hr
  split at hr <;> cases hr <;> simp only [V] at hv <;> simp only [NilShape]
  · exact hv
  · obtain ⟨b, _, h2⟩ := hv; exact ⟨_, h2⟩
  · obtain ⟨b, o, h2, _⟩ := hv; exact ⟨_, h2⟩
  · exact ⟨_, _, hv⟩
  · exact ⟨_, _, _, hv⟩
  · obtain ⟨ao, cap, h1, _, _, h4⟩ := hv
    rcases h4 with h4 | ⟨b, o, h4, _⟩
    · cases h4
    · subst h4; exact ⟨_, _, _, h1⟩
  · obtain ⟨b, n, cap, _, _, _, _, h5⟩ := hv; exact ⟨_, _, _, h5⟩
  · exact hv
  · obtain ⟨b, _, h2⟩ := hv; exact ⟨_, h2⟩
  · exact hv
  · obtain ⟨x', y', h1, _⟩ := hv; exact ⟨_, _, _, h1⟩
section
variable {P : Program} {E : Env0} {o : Oper} {C : Cl} {e : Env} {h h' : Heap} {v : AV} {S : St} {B : Nat} {W : World} {a : Act}
theorem nil_runD (d : Nat) {k : NK} {u : TypeDesc} {t : TypeId} (ht : P.underlying t = some u) (hk : nilK u = some k) {r : Bool} {p q : Value} (hp : NilShape k r p) (hq : NilShape k true q) :
    (Op.equalIn (d + 1) t p q).run P W = .ok r W ∧ (Op.equalIn (d + 1) t q p).run P W = .ok r W := by
  have hu := fun w => run_underlying' ht w
  cases u <;> simp only [nilK] at hk <;> cases hk <;> cases r <;> simp only [NilShape] at hp hq
  · obtain ⟨b, rfl⟩ := hp; subst hq; constructor <;> simp [Op.equalIn, hu]
  · subst hp; subst hq; constructor <;> simp [Op.equalIn, hu]
  · obtain ⟨b, l, c, rfl⟩ := hp; obtain ⟨l', c', rfl⟩ := hq; constructor <;> simp [Op.equalIn, hu]
  · obtain ⟨l, c, rfl⟩ := hp; obtain ⟨l', c', rfl⟩ := hq; constructor <;> simp [Op.equalIn, hu]
  · obtain ⟨b, rfl⟩ := hp; subst hq; constructor <;> simp [Op.equalIn, hu]
  · subst hp; subst hq; constructor <;> simp [Op.equalIn, hu]
  · obtain ⟨f, x, y, rfl⟩ := hp; subst hq; constructor <;> simp [Op.equalIn, hu]
  · subst hp; subst hq; constructor <;> simp [Op.equalIn, hu]
theorem nil_run {k : NK} {u : TypeDesc} {t : TypeId} (ht : P.underlying t = some u) (hk : nilK u = some k) {r : Bool} {p q : Value} (hp : NilShape k r p) (hq : NilShape k true q) :
    (Op.equal t p q).run P W = .ok r W ∧ (Op.equal t q p).run P W = .ok r W := nil_runD 9999 ht hk hp hq
theorem nil_bin {k : NK} {r : Bool} {p q : Value} (hp : NilShape k r p) (hq : NilShape k true q) (t : TypeId) :
    binOp .eql t p q = (do pure (.bool (← Op.equal t p q))) ∧ binOp .neq t p q = (do pure (.bool (!(← Op.equal t p q)))) ∧ binOp .eql t q p = (do pure (.bool (← Op.equal t q p))) ∧ binOp .neq t q p = (do pure (.bool (!(← Op.equal t q p)))) := by
  cases k <;> cases r <;> simp only [NilShape] at hp hq
  · obtain ⟨b, rfl⟩ := hp; subst hq; exact ⟨rfl, rfl, rfl, rfl⟩
  · subst hp; subst hq; exact ⟨rfl, rfl, rfl, rfl⟩
  · obtain ⟨b, l, c, rfl⟩ := hp; obtain ⟨l', c', rfl⟩ := hq; exact ⟨rfl, rfl, rfl, rfl⟩
  · obtain ⟨l, c, rfl⟩ := hp; obtain ⟨l', c', rfl⟩ := hq; exact ⟨rfl, rfl, rfl, rfl⟩
  · obtain ⟨b, rfl⟩ := hp; subst hq; exact ⟨rfl, rfl, rfl, rfl⟩
  · subst hp; subst hq; exact ⟨rfl, rfl, rfl, rfl⟩
  · obtain ⟨f, x, y, rfl⟩ := hp; subst hq; exact ⟨rfl, rfl, rfl, rfl⟩
  · subst hp; subst hq; exact ⟨rfl, rfl, rfl, rfl⟩
theorem nil_ne {k : NK} {r : Bool} {p : Value} (hp : NilShape k r p) : p ≠ .nilIface ∧ ∀ c, p ≠ .agg c := by
  cases k <;> cases r <;> simp only [NilShape] at hp
  · obtain ⟨b, rfl⟩ := hp; constructor <;> intros <;> intro hh <;> cases hh
  · subst hp; constructor <;> intros <;> intro hh <;> cases hh
  · obtain ⟨b, l, c, rfl⟩ := hp; constructor <;> intros <;> intro hh <;> cases hh
  · obtain ⟨l, c, rfl⟩ := hp; constructor <;> intros <;> intro hh <;> cases hh
  · obtain ⟨b, rfl⟩ := hp; constructor <;> intros <;> intro hh <;> cases hh
  · subst hp; constructor <;> intros <;> intro hh <;> cases hh
  · obtain ⟨f, x, y, rfl⟩ := hp; constructor <;> intros <;> intro hh <;> cases hh
  · subst hp; constructor <;> intros <;> intro hh <;> cases hh
theorem nilC_shape {k : NK} {y : Operand} (hy : isNilC k y = true) : NilShape k true (a.eval y) := by
  unfold isNilC at hy
  split at hy
  · rfl
  · rfl
  · rfl
  · exact ⟨0, 0, rfl⟩
  · cases hy
theorem ex_eqNil {op : BinOp} {t ty : TypeId} {x y : Operand} (hop : o.op = .binOp op t x y ty) {u : TypeDesc} (ht : P.underlying t = some u) {k : NK} (hk : nilK u = some k) {neg : Bool} (hneg : (op = .eql ∧ neg = false) ∨ (op = .neq ∧ neg = true)) {z : Operand} (hz : (isNilC k y = true ∧ z = x) ∨ (isNilC k x = true ∧ z = y)) {z' : Opd} (h1 : compO E z = some z') (hx : aop C (.eqNil neg k z') e h = some (v, h')) (r : Rel S h B W) (he : EnvR S e a E.nt) (hg : GlobOK E.gl S.imm) : h' = h ∧ ExS P o a S v := by
  simp only [aop, Option.map_eq_some_iff, Prod.mk.injEq] at hx
  obtain ⟨w, hb, rfl, rfl⟩ := hx
  have hp := nilShape hb (evO_V he hg h1)
  have hnp := nil_ne hp
  refine ⟨rfl, .mk (u := .bool (w != neg)) (fun W => ?_) (V_sc _)⟩
  rcases hz with ⟨hq, rfl⟩ | ⟨hq, rfl⟩
  · have hq := nilC_shape (a := a) hq
    have hnq := nil_ne hq
    have rr := fun W => nil_run (W := W) ht hk hp hq
    obtain ⟨b1, b2, _, _⟩ := nil_bin hp hq t
    rcases hneg with ⟨rfl, rfl⟩ | ⟨rfl, rfl⟩
    · simp only [execOp, hop, Sem.run_bind, eqGuard_run hnp.1 hnp.2, Result.andThen_ok, b1, (rr W).1, Sem.run_pure]; simp
    · simp only [execOp, hop, Sem.run_bind, eqGuard_run hnp.1 hnp.2, Result.andThen_ok, b2, (rr W).1, Sem.run_pure]; simp
  · have hq := nilC_shape (a := a) hq
    have hnq := nil_ne hq
    have rr := fun W => nil_run (W := W) ht hk hp hq
    obtain ⟨_, _, b1, b2⟩ := nil_bin hp hq t
    rcases hneg with ⟨rfl, rfl⟩ | ⟨rfl, rfl⟩
    · simp only [execOp, hop, Sem.run_bind, eqGuard_run hnq.1 hnq.2, Result.andThen_ok, b1, (rr W).2, Sem.run_pure]; simp
    · simp only [execOp, hop, Sem.run_bind, eqGuard_run hnq.1 hnq.2, Result.andThen_ok, b2, (rr W).2, Sem.run_pure]; simp
theorem ex_un {op : UnOp} {t : TypeId} {x : Operand} (hop : o.op = .unOp op t x) {x' : Opd} (h1 : compO E x = some x') (hx : aop C (.un op x') e h = some (v, h')) (r : Rel S h B W) (he : EnvR S e a E.nt) (hg : GlobOK E.gl S.imm) : h' = h ∧ ExS P o a S v := by
  simp only [aop] at hx
  split at hx
  · rename_i p hp
    simp only [Option.map_eq_some_iff, Prod.mk.injEq] at hx
    obtain ⟨w, hb, rfl, rfl⟩ := hx
    have e1 := eval_sc (evO_V he hg h1) hp
    refine ⟨rfl, .mk (u := w) (fun W => ?_) (V_sc w)⟩
    simp only [execOp, hop, e1]
    unfold aun at hb
    split at hb
    · split at hb
      · cases hb; simp [Op.unary, Op.intArith]
      · simp only [abit, Option.map_some] at hb; cases hb; simp [Op.unary, Op.intBits]
      · cases hb
    · split at hb
      · cases hb; simp [Op.unary]
      · cases hb
    · cases hb
  · cases hx
theorem ex_convInt {s d : TypeId} {x : Operand} (hop : o.op = .convert s d x) {k0 k : IntKind} (hs : P.underlying s = some (.int k0)) (hd : P.underlying d = some (.int k)) {x' : Opd} (h1 : compO E x = some x') (hx : aop C (.convInt k x') e h = some (v, h')) (r : Rel S h B W) (he : EnvR S e a E.nt) (hg : GlobOK E.gl S.imm) : h' = h ∧ ExS P o a S v := by
  simp only [aop] at hx
  split at hx
  · rename_i q n hp
    cases hx
    have e1 := eval_sc (evO_V he hg h1) hp
    refine ⟨rfl, .mk (u := .int k (k.wrap n)) (fun W => ?_) (V_sc _)⟩
    simp [execOp, hop, e1, convert, run_underlying' hs, run_underlying' hd, Conv.intToInt]
  · cases hx
theorem ex_makeFunc {fn : Fn} {first caps : Array Operand} (hop : o.op = .makeFunc fn first caps) {x y : List Opd} (h1 : compL E first.toList = some x) (h2 : compL E caps.toList = some y) (hx : aop C (.makeFunc fn x y) e h = some (v, h')) (r : Rel S h B W) (he : EnvR S e a E.nt) (hg : GlobOK E.gl S.imm) : h' = h ∧ ExS P o a S v := by
  simp only [aop] at hx
  cases hx
  refine ⟨rfl, .mk (u := .func fn (first.map a.eval) (caps.map a.eval)) (fun W => ?_) ?_⟩
  · simp [execOp, hop, Instr.makeFunc]
  · simp only [V]
    exact ⟨_, _, rfl, by rw [Array.toList_map]; exact evL_V he hg h1, by rw [Array.toList_map]; exact evL_V he hg h2⟩
theorem ex_nilCheck {x : Operand} (hop : o.op = .nilCheck x) {x' : Opd} (h1 : compO E x = some x') (hx : aop C (.nilCheck x') e h = some (v, h')) (r : Rel S h B W) (he : EnvR S e a E.nt) (hg : GlobOK E.gl S.imm) : h' = h ∧ ExS P o a S v := by
  have hv := evO_V he hg h1
  simp only [aop] at hx
  split at hx
  · rename_i hp; cases hx; rw [hp] at hv; have hv' := hv; simp only [V] at hv; obtain ⟨b, _, h2⟩ := hv
    exact ⟨rfl, .mk (u := a.eval x) (fun W => by simp [execOp, hop, h2]) hv'⟩
  · rename_i hp; cases hx; rw [hp] at hv; have hv' := hv; simp only [V] at hv; obtain ⟨b, q, h2, _⟩ := hv
    exact ⟨rfl, .mk (u := a.eval x) (fun W => by simp [execOp, hop, h2]) hv'⟩
  · rename_i hp; cases hx; rw [hp] at hv; have hv' := hv; simp only [V] at hv; obtain ⟨x1, y1, h2, _⟩ := hv
    exact ⟨rfl, .mk (u := a.eval x) (fun W => by simp [execOp, hop, h2]) hv'⟩
  · cases hx
theorem ex_extract {x : Operand} {i : Nat} (hop : o.op = .extract x i) {x' : Opd} (h1 : compO E x = some x') (hx : aop C (.extract x' i) e h = some (v, h')) (r : Rel S h B W) (he : EnvR S e a E.nt) (hg : GlobOK E.gl S.imm) : h' = h ∧ ExS P o a S v := by
  have hv := evO_V he hg h1
  simp only [aop] at hx
  split at hx
  · rename_i vs hp
    simp only [Option.map_eq_some_iff, Prod.mk.injEq] at hx
    obtain ⟨w, hb, rfl, rfl⟩ := hx
    rw [hp] at hv
    simp only [V] at hv
    obtain ⟨arr, e1, g1⟩ := hv
    obtain ⟨u, g2, g3⟩ := g1.get hb
    refine ⟨rfl, .mk (u := u) (fun W => ?_) g3⟩
    have g2' : arr[i]? = some u := by simpa using g2
    simp [execOp, hop, e1, Instr.extract, g2']
  · cases hx
theorem ex_minmax {b : Builtin} {mx : Bool} {ts : Array TypeId} {x y : Operand} (hop : o.op = .call { callee := .builtin b, args := #[x, y], argTypes := ts }) (hb : (b = .max ∧ mx = true) ∨ (b = .min ∧ mx = false)) {x' y' : Opd} (h1 : compO E x = some x') (h2 : compO E y = some y') (hx : aop C (.minmax mx x' y') e h = some (v, h')) (r : Rel S h B W) (he : EnvR S e a E.nt) (hg : GlobOK E.gl S.imm) : h' = h ∧ ExS P o a S v := by
  simp only [aop] at hx
  split at hx
  · rename_i k p k' q hp hq
    split at hx
    · rename_i hk
      subst hk
      cases hx
      have e1 := eval_sc (evO_V he hg h1) hp
      have e2 := eval_sc (evO_V he hg h2) hq
      refine ⟨rfl, .mk (u := _) (fun W => ?_) (V_sc _)⟩
      rcases hb with ⟨rfl, rfl⟩ | ⟨rfl, rfl⟩
      · simp [execOp, hop, resolve, invoke, builtin, e1, e2, run_max_int2]
      · simp [execOp, hop, resolve, invoke, builtin, e1, e2, run_min_int2]
    · cases hx
  · cases hx
end
end Go.Proofs.Ytpnkldjbiinnpaa.AM
