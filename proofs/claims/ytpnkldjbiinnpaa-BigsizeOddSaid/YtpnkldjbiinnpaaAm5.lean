import Derived.Test.YtpnkldjbiinnpaaAm4
import Derived.ChangeKeysEq
import Derived.Laws.StructEq
/- Each operation of the model does what the plain machine's does: those that touch no memory. -/
namespace Go.Proofs.Ytpnkldjbiinnpaa.AM
open Go Go.RowKit
set_option linter.unusedVariables false
set_option linter.unusedSimpArgs false
structure EnvR (S : St) (e : Env) (a : Act) (nt : Nat) : Prop where
  size : a.tmps.size = nt
  get : ∀ t, V S (getE e t) (a.tmps.getD t Go.undef)
theorem EnvR.mono {S S' e a nt} (x : Ext S S') (h : EnvR S e a nt) : EnvR S' e a nt := ⟨h.size, fun t => V.mono x _ (h.get t)⟩
theorem EnvR.put {S e a nt} (h : EnvR S e a nt) {d : Option Nat} (hd : ∀ t, d = some t → t < nt) {v : AV} {u : Value} (hv : V S v u) : EnvR S (setE e d v) (a.put d u) nt := by
  cases d with
  | none => exact h
  | some t =>
    refine ⟨by simp [Act.put, h.size], fun i => ?_⟩
    have ht := hd t rfl
    simp only [setE, getE, Act.put]
    by_cases hi : t = i
    · subst hi
      rw [if_pos rfl]
      rw [show (a.tmps.setIfInBounds t u).getD t Go.undef = u by simp [Array.getD_eq_getD_getElem?, Array.getElem?_setIfInBounds, h.size, ht]]
      exact hv
    · rw [if_neg hi]
      rw [show (a.tmps.setIfInBounds t u).getD i Go.undef = a.tmps.getD i Go.undef by simp [Array.getD_eq_getD_getElem?, Array.getElem?_setIfInBounds, hi]]
      exact h.get i
/-- the laid globals lie where they stay -/
def GlobOK (gl : Nat → Option (List Value)) (imm : Imm) : Prop := ∀ g l, gl g = some l → ∀ (j : Nat) (v : Value), l[j]? = some v → imm g j = some v
theorem GlobOK.mono {gl : Nat → Option (List Value)} {S S' : St} (h : GlobOK gl S.imm) (e : Ext S S') : GlobOK gl S'.imm := fun g l hg j v hv => e.imm _ _ _ (h g l hg j v hv)
theorem V_sc {S : St} (v : Value) : V S (.sc v) v := by simp only [V]
theorem VL_map_sc {S : St} : ∀ (l : List Value), VL S (l.map .sc) l
  | [] => by simp [VL]
  | v :: r => by simp only [List.map_cons, VL]; exact ⟨v, r, rfl, V_sc v, VL_map_sc r⟩
theorem cst_V {S : St} (v : Value) : V S (cst v) v := by
  cases v <;> simp only [cst, V]
  case agg cs => exact ⟨cs, rfl, VL_map_sc _⟩
theorem evO_V {S : St} {e : Env} {a : Act} {E : Env0} (h : EnvR S e a E.nt) (hg : GlobOK E.gl S.imm) {x : Operand} {y : Opd} (hc : compO E x = some y) : V S (evO e y) (a.eval x) := by
  cases x <;> simp only [compO] at hc
  case tmp t => cases hc; exact h.get t
  case const v => cases hc; exact cst_V v
  case func f => cases hc; simp only [evO, V, Act.eval]; exact ⟨#[], #[], rfl, by simp [VL], by simp [VL]⟩
  case global g =>
    cases hgl : E.gl g with
    | none => rw [hgl] at hc; cases hc
    | some l =>
      rw [hgl] at hc
      cases hc
      simp only [evO, V, Act.eval]
      refine ⟨g, 0, rfl, VM.mk fun i y hy => ?_⟩
      rw [List.getElem?_map] at hy
      cases hl : l[i]? with
      | none => rw [hl] at hy; cases hy
      | some v =>
        rw [hl] at hy
        cases hy
        exact ⟨v, by rw [Nat.zero_add]; exact hg g l hgl i v hl, V_sc v⟩
theorem evL_V {S : St} {e : Env} {a : Act} {E : Env0} (h : EnvR S e a E.nt) (hg : GlobOK E.gl S.imm) : ∀ {x : List Operand} {y : List Opd}, compL E x = some y → VL S (evL e y) (x.map a.eval)
  | [], y, hc => by simp only [compL] at hc; cases hc; simp [evL, VL]
  | x :: r, y, hc => by
    simp only [compL, Option.bind_eq_some_iff, Option.map_eq_some_iff] at hc
    obtain ⟨x', h1, r', h2, rfl⟩ := hc
    simp only [evL, List.map_cons, VL]
    exact ⟨_, _, rfl, evO_V h hg h1, evL_V h hg h2⟩
/-- what one operation comes to -/
def ExOK (P : Program) (o : Oper) (a : Act) (S : St) (h' : Heap) (v : AV) (B : Nat) (W : World) : Prop :=
  ∃ n u W' S', (execOp a.eval o).run P W = .ok n W' ∧ (n = .value u ∨ (n = .skip ∧ u = Go.undef)) ∧ Ext S S' ∧ Rel S' h' B W' ∧ V S' v u ∧ Below B W W'
theorem ExOK.same {P : Program} {o : Oper} {a : Act} {S : St} {h : Heap} {v : AV} {B : Nat} {W : World} {u : Value} (r : Rel S h B W) (hr : (execOp a.eval o).run P W = .ok (.value u) W) (hv : V S v u) : ExOK P o a S h v B W :=
  ⟨_, u, W, S, hr, .inl rfl, Ext.refl S, r, hv, Below.refl B W⟩
/-- an operation that touches no memory -/
def ExS (P : Program) (o : Oper) (a : Act) (S : St) (v : AV) : Prop := ∃ u, V S v u ∧ ∀ W, (execOp a.eval o).run P W = .ok (.value u) W
theorem ExS.mk {P : Program} {o : Oper} {a : Act} {S : St} {v : AV} {u : Value} (hr : ∀ W, (execOp a.eval o).run P W = .ok (.value u) W) (hv : V S v u) : ExS P o a S v := ⟨u, hv, hr⟩
theorem ExS.ok {P : Program} {o : Oper} {a : Act} {S : St} {h h' : Heap} {v : AV} {B : Nat} {W : World} (he : h' = h ∧ ExS P o a S v) (r : Rel S h B W) : ExOK P o a S h' v B W := by
  obtain ⟨rfl, u, hv, hr⟩ := he
  exact .same r (hr W) hv
theorem run_typeInfo {P : Program} {t : TypeId} {i : TypeInfo} (h : P.info? t = some i) (W : World) : (typeInfo t).run P W = .ok i W := by simp [typeInfo, h]
theorem run_underlying' {P : Program} {t : TypeId} {d : TypeDesc} (h : P.underlying t = some d) (W : World) : (underlying t).run P W = .ok d W := by simp [underlying, h]
theorem run_sizeOf' {P : Program} {t : TypeId} {i : TypeInfo} (h : P.info? t = some i) (W : World) : (Go.sizeOf t).run P W = .ok i.size W := by simp [Go.sizeOf, run_typeInfo h]
theorem run_zero' {P : Program} {t : TypeId} {z : Value} (h : zeroOf P t = some z) (W : World) : (zeroValue t).run P W = .ok z W := by
  simp only [zeroOf, Option.bind_eq_some_iff] at h
  obtain ⟨i, h1, h2⟩ := h
  simp [zeroValue, run_typeInfo h1, h2]
theorem eval_sc {S : St} {e : Env} {y : Opd} {u v : Value} (h : V S (evO e y) u) (hy : evO e y = .sc v) : u = v := by rw [hy] at h; simpa only [V] using h
section
variable {P : Program} {E : Env0} {o : Oper} {C : Cl} {e : Env} {h h' : Heap} {v : AV} {S : St} {B : Nat} {W : World} {a : Act}
theorem ex_move {x : Operand} (hop : o.op = .move x ∨ o.op = .assign x) {y : Opd} (hc : compO E x = some y) (r : Rel S h B W) (he : EnvR S e a E.nt) (hg : GlobOK E.gl S.imm) : ExS P o a S (evO e y) :=
  .mk (u := a.eval x) (fun W => by rcases hop with hop | hop <;> simp [execOp, hop]) (evO_V he hg hc)
theorem ex_pick {c x y : Operand} (hop : o.op = .pick c x y) {c' x' y' : Opd} (h1 : compO E c = some c') (h2 : compO E x = some x') (h3 : compO E y = some y') (hx : aop C (.pick c' x' y') e h = some (v, h')) (r : Rel S h B W) (he : EnvR S e a E.nt) (hg : GlobOK E.gl S.imm) : h' = h ∧ ExS P o a S v := by
  simp only [aop] at hx
  split at hx
  · rename_i t ht
    cases hx
    have hb := eval_sc (evO_V he hg h1) ht
    refine ⟨rfl, .mk (u := if t then a.eval x else a.eval y) (fun W => ?_) (by cases t <;> simp [evO_V he hg h2, evO_V he hg h3])⟩
    simp [execOp, hop, hb, asBool]
  · cases hx
theorem abin_run {op : BinOp} {p q w : Value} (hb : abin op p q = some w) (t : TypeId) : (binOp op t p q).run P W = .ok w W := by
  unfold abin at hb
  split at hb
  · rename_i k x k' y
    split at hb
    · simp only [ashift] at hb
      split at hb
      · cases hb
      · rename_i hy; cases hb; simp [binOp, Op.shift, hy]
    · simp only [ashift] at hb
      split at hb
      · cases hb
      · rename_i hy; cases hb; simp [binOp, Op.shift, hy]
    · rename_i hn1 hn2
      split at hb
      · rename_i hk
        subst hk
        cases op <;> simp only [aint, abit, Option.map_some] at hb <;> first
          | (cases hb; simp [binOp, Op.intArith, Op.intBits, Op.intCmp]; done)
          | (split at hb <;> first | (cases hb; done) | (rename_i hy; cases hb; simp [binOp, Op.intDiv, hy]; done))
          | (exact absurd rfl hn1)
          | (exact absurd rfl hn2)
      · cases hb
  · rename_i x y
    have hm : IntKind.i64.max = 9223372036854775807 := by decide
    cases op <;> simp only [astr] at hb
    case add =>
      split at hb
      · rename_i hs
        cases hb
        have : ¬ (IntKind.i64.max < ((x.size : Int) + y.size)) := by rw [hm]; omega
        simp [binOp, Op.stringOp, this]
        omega
      · cases hb
    all_goals first
      | (cases hb; simp [binOp, Op.stringOp]; done)
      | (cases hb; done)
  · cases hb
theorem eqGuard_run {op : BinOp} {t : TypeId} {x y : Operand} {p q : Value} (hp : p ≠ .nilIface) (ha : ∀ c, p ≠ .agg c) : (eqGuard op t x y p q).run P W = .ok () W := by
  cases op <;> cases p <;> first | (exact absurd rfl hp) | (exact absurd rfl (ha _)) | rfl
theorem ex_bin {op : BinOp} {t ty : TypeId} {x y : Operand} (hop : o.op = .binOp op t x y ty) {x' y' : Opd} (h1 : compO E x = some x') (h2 : compO E y = some y') (hx : aop C (.bin op x' y') e h = some (v, h')) (r : Rel S h B W) (he : EnvR S e a E.nt) (hg : GlobOK E.gl S.imm) : h' = h ∧ ExS P o a S v := by
  simp only [aop] at hx
  split at hx
  · rename_i p q hp hq
    simp only [Option.map_eq_some_iff, Prod.mk.injEq] at hx
    obtain ⟨w, hb, rfl, rfl⟩ := hx
    have e1 := eval_sc (evO_V he hg h1) hp
    have e2 := eval_sc (evO_V he hg h2) hq
    refine ⟨rfl, .mk (u := w) (fun W => ?_) (V_sc w)⟩
    have hne : p ≠ .nilIface ∧ ∀ c, p ≠ .agg c := by constructor <;> (intros; rintro rfl; simp [abin] at hb)
    simp only [execOp, hop, e1, e2, Sem.run_bind, eqGuard_run hne.1 hne.2, Result.andThen_ok, abin_run hb t, Sem.run_pure]
  · cases hx
theorem ex_eqBool {op : BinOp} {t ty : TypeId} {x y : Operand} (hop : o.op = .binOp op t x y ty) (ht : P.underlying t = some .bool) {neg : Bool} (hneg : (op = .eql ∧ neg = false) ∨ (op = .neq ∧ neg = true)) {x' y' : Opd} (h1 : compO E x = some x') (h2 : compO E y = some y') (hx : aop C (.eqBool neg x' y') e h = some (v, h')) (r : Rel S h B W) (he : EnvR S e a E.nt) (hg : GlobOK E.gl S.imm) : h' = h ∧ ExS P o a S v := by
  simp only [aop] at hx
  split at hx
  · rename_i p q hp hq
    cases hx
    have e1 := eval_sc (evO_V he hg h1) hp
    have e2 := eval_sc (evO_V he hg h2) hq
    refine ⟨rfl, .mk (u := .bool ((p == q) != neg)) (fun W => ?_) (V_sc _)⟩
    rcases hneg with ⟨rfl, rfl⟩ | ⟨rfl, rfl⟩
    · simp [execOp, hop, e1, e2, eqGuard_run, run_eql_bool W t _ _ ht]
    · simp [execOp, hop, e1, e2, eqGuard_run, run_neq_bool W t _ _ ht]
  · cases hx
theorem part_one {e : TypeId} {d : IntKind} (hu : P.underlying e = some (.int d)) {xs : Array Value} {i : Nat} {w : Value} (hx : xs[i]? = some w) : (part e xs i).run P W = .ok w W := by
  unfold part isAgg
  simp [run_underlying' hu, hx]
theorem eqCells_run {e : TypeId} {d : IntKind} (hu : P.underlying e = some (.int d)) {xs ys : Array Value} : ∀ (x y : List AV) (n0 : Nat) {r : Bool}, eqCells x y = some r → VL S x (xs.toList.drop n0) → VL S y (ys.toList.drop n0) → ∀ D, (Op.eqItems (D + 1) e 1 xs ys (List.range' n0 x.length)).run P W = .ok r W
  | [], [], n0, r, hr, hx, hy, D => by simp only [eqCells] at hr; cases hr; simp [Op.eqItems]
  | [], _ :: _, n0, r, hr, hx, hy, D => by simp [eqCells] at hr
  | .sc (.int k p) :: x, y, n0, r, hr, hx, hy, D => by
    cases y with
    | nil => simp [eqCells] at hr
    | cons y0 y =>
      unfold eqCells at hr
      split at hr
      · rename_i heq _; cases heq
      · rename_i k1 p1 x1 k2 q y1 heq1 heq2
        cases heq1
        cases heq2
        split at hr
        · rename_i hk
          subst hk
          simp only [Option.map_eq_some_iff] at hr
          obtain ⟨r', hr', rfl⟩ := hr
          simp only [VL] at hx hy
          obtain ⟨u, us, hx1, hx2, hx3⟩ := hx
          obtain ⟨w, ws, hy1, hy2, hy3⟩ := hy
          simp only [V] at hx2 hy2
          subst hx2
          subst hy2
          have gx : xs[n0]? = some (.int k p) := by have := congrArg (·[0]?) hx1; simpa using this
          have gy : ys[n0]? = some (.int k q) := by have := congrArg (·[0]?) hy1; simpa using this
          have dx : xs.toList.drop (n0 + 1) = us := by have := congrArg (List.drop 1) hx1; simpa [List.drop_drop] using this
          have dy : ys.toList.drop (n0 + 1) = ws := by have := congrArg (List.drop 1) hy1; simpa [List.drop_drop] using this
          have ih := eqCells_run hu x y (n0 + 1) hr' (by rw [dx]; exact hx3) (by rw [dy]; exact hy3) D
          simp only [List.length_cons, List.range'_succ, Op.eqItems, Nat.mul_one, Sem.run_bind, part_one hu gx, part_one hu gy, Result.andThen_ok]
          have he1 : (Op.equalIn (D + 1) e (.int k p) (.int k q)).run P W = .ok (p == q) W := by
            simp [Op.equalIn, run_underlying' hu]
          rw [he1]
          by_cases hpq : p = q
          · subst hpq; simpa using ih
          · have : (p == q) = false := by simpa using hpq
            simp [this]
        · cases hr
      · rename_i hno; cases hr
  | .sc (.bool _) :: x, y, n0, r, hr, hx, hy, D => by simp [eqCells] at hr
  | .sc (.float _ _) :: x, y, n0, r, hr, hx, hy, D => by simp [eqCells] at hr
  | .sc (.complex _ _ _) :: x, y, n0, r, hr, hx, hy, D => by simp [eqCells] at hr
  | .sc (.string _) :: x, y, n0, r, hr, hx, hy, D => by simp [eqCells] at hr
  | .sc (.pointer _) :: x, y, n0, r, hr, hx, hy, D => by simp [eqCells] at hr
  | .sc (.slice _ _ _) :: x, y, n0, r, hr, hx, hy, D => by simp [eqCells] at hr
  | .sc (.map _) :: x, y, n0, r, hr, hx, hy, D => by simp [eqCells] at hr
  | .sc (.chan _) :: x, y, n0, r, hr, hx, hy, D => by simp [eqCells] at hr
  | .sc (.func _ _ _) :: x, y, n0, r, hr, hx, hy, D => by simp [eqCells] at hr
  | .sc .nilFunc :: x, y, n0, r, hr, hx, hy, D => by simp [eqCells] at hr
  | .sc (.iface _ _) :: x, y, n0, r, hr, hx, hy, D => by simp [eqCells] at hr
  | .sc .nilIface :: x, y, n0, r, hr, hx, hy, D => by simp [eqCells] at hr
  | .sc (.agg _) :: x, y, n0, r, hr, hx, hy, D => by simp [eqCells] at hr
  | .sc (.tuple _) :: x, y, n0, r, hr, hx, hy, D => by simp [eqCells] at hr
  | .unk :: x, y, n0, r, hr, hx, hy, D => by simp [eqCells] at hr
  | .ptr .. :: x, y, n0, r, hr, hx, hy, D => by simp [eqCells] at hr
  | .ref _ :: x, y, n0, r, hr, hx, hy, D => by simp [eqCells] at hr
  | .slice .. :: x, y, n0, r, hr, hx, hy, D => by simp [eqCells] at hr
  | .ms .. :: x, y, n0, r, hr, hx, hy, D => by simp [eqCells] at hr
  | .func .. :: x, y, n0, r, hr, hx, hy, D => by simp [eqCells] at hr
  | .agg _ :: x, y, n0, r, hr, hx, hy, D => by simp [eqCells] at hr
  | .tup _ :: x, y, n0, r, hr, hx, hy, D => by simp [eqCells] at hr
  | .map _ :: x, y, n0, r, hr, hx, hy, D => by simp [eqCells] at hr
theorem ex_eqArr {op : BinOp} {t ty el : TypeId} {n : Nat} {d : IntKind} {i : TypeInfo} {x y : Operand} (hop : o.op = .binOp op t x y ty) (ht : P.underlying t = some (.array n el)) (hu : P.underlying el = some (.int d)) (hi : P.info? el = some i) (hs : i.size = 1) (hG : P.eqGuardType P.depth t = false) {neg : Bool} (hneg : (op = .eql ∧ neg = false) ∨ (op = .neq ∧ neg = true)) {x' y' : Opd} (h1 : compO E x = some x') (h2 : compO E y = some y') (hx : aop C (.eqArr neg n x' y') e h = some (v, h')) (r : Rel S h B W) (he : EnvR S e a E.nt) (hg : GlobOK E.gl S.imm) : h' = h ∧ ExS P o a S v := by
  simp only [aop] at hx
  split at hx
  · rename_i p q hp hq
    split at hx
    · rename_i hn
      simp only [Option.map_eq_some_iff, Prod.mk.injEq] at hx
      obtain ⟨w, hb, rfl, rfl⟩ := hx
      have v1 := evO_V he hg h1
      have v2 := evO_V he hg h2
      rw [hp] at v1
      rw [hq] at v2
      simp only [V] at v1 v2
      obtain ⟨xs, e1, g1⟩ := v1
      obtain ⟨ys, e2, g2⟩ := v2
      have key := fun W => eqCells_run (P := P) (W := W) hu p q 0 hb (by simpa using g1) (by simpa using g2) 9998
      rw [hn, ← List.range_eq_range'] at key
      have hc : P.cellsOf el = 1 := by simp [Program.cellsOf, hi, hs]
      have harr := fun W => run_equalIn_array (P := P) (w := W) 9999 xs ys ht hi
      simp only [hc, key] at harr
      refine ⟨rfl, .mk (u := .bool (w != neg)) (fun W => ?_) (V_sc _)⟩
      rcases hneg with ⟨rfl, rfl⟩ | ⟨rfl, rfl⟩
      · simp [execOp, hop, e1, e2, run_eqGuard_agg W _ _ _ _ _ _ hG, run_eql_struct, harr]
      · simp [execOp, hop, e1, e2, run_eqGuard_agg W _ _ _ _ _ _ hG, run_neq_struct, harr]
    · cases hx
  · cases hx
end
end Go.Proofs.Ytpnkldjbiinnpaa.AM
