import Derived.Test.YtpnkldjbiinnpaaAm18
/- Steps for simp: the plain machine's runs at values that are not all known. -/
namespace Go.Proofs.Ytpnkldjbiinnpaa.AM
open Go
set_option linter.unusedVariables false
theorem getE_hit (t : Nat) (v : AV) (e : Env) : getE ((t, v) :: e) t = v := by simp [getE]
theorem getE_miss {u t : Nat} (v : AV) (e : Env) (h : (u == t) = false) : getE ((u, v) :: e) t = getE e t := by
  simp only [getE]; rw [if_neg (by simpa using h)]
theorem evO_tmp (e : Env) (t : Nat) : evO e (.tmp t) = getE e t := rfl
theorem evO_cst (e : Env) (v : AV) : evO e (.cst v) = v := rfl
theorem setE_some (e : Env) (d : Nat) (v : AV) : setE e (some d) v = (d, v) :: e := rfl
theorem setE_none (e : Env) (v : AV) : setE e none v = e := rfl
/-- an operation's value is put, and the rest goes on -/
def opsK (C : Cl) (d : Option Nat) (r : List AOper) (e : Env) : Option (AV × Heap) → Option (Env × Heap)
  | none => none
  | some (v, h) => aops C r (setE e d v) h
def opsG (C : Cl) (d : Option Nat) (o : AOp) (w : Bool) (r : List AOper) (e : Env) (h : Heap) : AV → Option (Env × Heap)
  | .sc (.bool b) => if b = w then opsK C d r e (aop C o e h) else aops C r (setE e d .undef) h
  | .sc _ => aops C r (setE e d .undef) h
  | _ => none
theorem opsK_some (C : Cl) (d : Option Nat) (r : List AOper) (e : Env) (v : AV) (h : Heap) : opsK C d r e (some (v, h)) = aops C r (setE e d v) h := rfl
theorem opsK_ite (C : Cl) (d : Option Nat) (r : List AOper) (e : Env) (p : Prop) [Decidable p] (a b : Option (AV × Heap)) : opsK C d r e (if p then a else b) = if p then opsK C d r e a else opsK C d r e b := by split <;> rfl
theorem aops_nil (C : Cl) (e : Env) (h : Heap) : aops C [] e h = some (e, h) := rfl
theorem aops_none (C : Cl) (d : Option Nat) (o : AOp) (r : List AOper) (e : Env) (h : Heap) : aops C (⟨d, o, none⟩ :: r) e h = opsK C d r e (aop C o e h) := by
  simp only [aops, wantE, Option.bind_some, if_true]
  cases aop C o e h <;> rfl
theorem aops_some (C : Cl) (d : Option Nat) (o : AOp) (t : Nat) (w : Bool) (r : List AOper) (e : Env) (h : Heap) : aops C (⟨d, o, some (t, w)⟩ :: r) e h = opsG C d o w r e h (getE e t) := by
  simp only [aops, wantE]
  cases getE e t with
  | sc v =>
    cases v with
    | bool b =>
      simp only [Option.bind_some, opsG]
      cases b <;> cases w <;> simp only [beq_self_eq_true, if_true, Bool.false_eq_true, Bool.true_eq_false, if_false, show (false == true) = false from rfl, show (true == false) = false from rfl] <;> first | rfl | (cases aop C o e h <;> rfl)
    | _ => simp only [Option.bind_some, opsG, Bool.false_eq_true, if_false]
  | _ => rfl
theorem opsG_tt (C : Cl) (d : Option Nat) (o : AOp) (r : List AOper) (e : Env) (h : Heap) : opsG C d o true r e h (.sc (.bool true)) = opsK C d r e (aop C o e h) := rfl
theorem opsG_ft (C : Cl) (d : Option Nat) (o : AOp) (r : List AOper) (e : Env) (h : Heap) : opsG C d o true r e h (.sc (.bool false)) = aops C r (setE e d .undef) h := rfl
theorem opsG_tf (C : Cl) (d : Option Nat) (o : AOp) (r : List AOper) (e : Env) (h : Heap) : opsG C d o false r e h (.sc (.bool true)) = aops C r (setE e d .undef) h := rfl
theorem opsG_ff (C : Cl) (d : Option Nat) (o : AOp) (r : List AOper) (e : Env) (h : Heap) : opsG C d o false r e h (.sc (.bool false)) = opsK C d r e (aop C o e h) := rfl
/-! rows that only read -/
def quiK (C : Cl) (d : Option Nat) (r : List AOper) (e : Env) (h : Heap) : Option AV → Option Env
  | none => none
  | some v => aopsQ C r (setE e d v) h
def quiG (C : Cl) (d : Option Nat) (o : AOp) (w : Bool) (r : List AOper) (e : Env) (h : Heap) : AV → Option Env
  | .sc (.bool b) => if b = w then quiK C d r e h (quietV C o e h) else aopsQ C r (setE e d .undef) h
  | .sc _ => aopsQ C r (setE e d .undef) h
  | _ => none
theorem quiK_some (C : Cl) (d : Option Nat) (r : List AOper) (e : Env) (v : AV) (h : Heap) : quiK C d r e h (some v) = aopsQ C r (setE e d v) h := rfl
theorem quiK_ite (C : Cl) (d : Option Nat) (r : List AOper) (e : Env) (h : Heap) (p : Prop) [Decidable p] (a b : Option AV) : quiK C d r e h (if p then a else b) = if p then quiK C d r e h a else quiK C d r e h b := by split <;> rfl
theorem aopsQ_nil (C : Cl) (e : Env) (h : Heap) : aopsQ C [] e h = some e := rfl
theorem aopsQ_none (C : Cl) (d : Option Nat) (o : AOp) (r : List AOper) (e : Env) (h : Heap) : aopsQ C (⟨d, o, none⟩ :: r) e h = quiK C d r e h (quietV C o e h) := by
  simp only [aopsQ, wantE, Option.bind_some, if_true]
  cases quietV C o e h <;> rfl
theorem aopsQ_some (C : Cl) (d : Option Nat) (o : AOp) (t : Nat) (w : Bool) (r : List AOper) (e : Env) (h : Heap) : aopsQ C (⟨d, o, some (t, w)⟩ :: r) e h = quiG C d o w r e h (getE e t) := by
  simp only [aopsQ, wantE]
  cases getE e t with
  | sc v =>
    cases v with
    | bool b =>
      simp only [Option.bind_some, quiG]
      cases b <;> cases w <;> simp only [beq_self_eq_true, if_true, Bool.false_eq_true, Bool.true_eq_false, if_false, show (false == true) = false from rfl, show (true == false) = false from rfl] <;> first | rfl | (cases quietV C o e h <;> rfl)
    | _ => simp only [Option.bind_some, quiG, Bool.false_eq_true, if_false]
  | _ => rfl
theorem quiG_tt (C : Cl) (d : Option Nat) (o : AOp) (r : List AOper) (e : Env) (h : Heap) : quiG C d o true r e h (.sc (.bool true)) = quiK C d r e h (quietV C o e h) := rfl
theorem quiG_ft (C : Cl) (d : Option Nat) (o : AOp) (r : List AOper) (e : Env) (h : Heap) : quiG C d o true r e h (.sc (.bool false)) = aopsQ C r (setE e d .undef) h := rfl
theorem quiG_tf (C : Cl) (d : Option Nat) (o : AOp) (r : List AOper) (e : Env) (h : Heap) : quiG C d o false r e h (.sc (.bool true)) = aopsQ C r (setE e d .undef) h := rfl
theorem quiG_ff (C : Cl) (d : Option Nat) (o : AOp) (r : List AOper) (e : Env) (h : Heap) : quiG C d o false r e h (.sc (.bool false)) = quiK C d r e h (quietV C o e h) := rfl
theorem opsG_undef (C : Cl) (d : Option Nat) (o : AOp) (w : Bool) (r : List AOper) (e : Env) (h : Heap) : opsG C d o w r e h .undef = aops C r (setE e d .undef) h := rfl
theorem quiG_undef (C : Cl) (d : Option Nat) (o : AOp) (w : Bool) (r : List AOper) (e : Env) (h : Heap) : quiG C d o w r e h .undef = aopsQ C r (setE e d .undef) h := rfl
/-! splitting by a truth value that is not known -/
theorem opsG_b (C : Cl) (d : Option Nat) (o : AOp) (w : Bool) (r : List AOper) (e : Env) (h : Heap) (b : Bool) : opsG C d o w r e h (.sc (.bool b)) = if b = w then opsK C d r e (aop C o e h) else aops C r (setE e d .undef) h := rfl
theorem quiG_b (C : Cl) (d : Option Nat) (o : AOp) (w : Bool) (r : List AOper) (e : Env) (h : Heap) (b : Bool) : quiG C d o w r e h (.sc (.bool b)) = if b = w then quiK C d r e h (quietV C o e h) else aopsQ C r (setE e d .undef) h := rfl
theorem bind_ite {α β : Type} (p : Prop) [Decidable p] (a b : Option α) (f : α → Option β) : (if p then a else b).bind f = if p then a.bind f else b.bind f := by split <;> rfl
theorem map_ite {α β : Type} (p : Prop) [Decidable p] (a b : Option α) (f : α → β) : (if p then a else b).map f = if p then a.map f else b.map f := by split <;> rfl
/-! code -/
noncomputable def condK (T : Tab) (a b : AC) (e : Env) (h : Heap) : AV → Option Res
  | .sc (.bool true) => ax T a e h
  | .sc (.bool false) => ax T b e h
  | _ => none
theorem ax_condK (T : Tab) (c : Opd) (a b : AC) (e : Env) (h : Heap) : ax T (.cond c a b) e h = condK T a b e h (evO e c) := by
  rw [ax_cond]; rfl
theorem condK_t (T : Tab) (a b : AC) (e : Env) (h : Heap) : condK T a b e h (.sc (.bool true)) = ax T a e h := rfl
theorem condK_f (T : Tab) (a b : AC) (e : Env) (h : Heap) : condK T a b e h (.sc (.bool false)) = ax T b e h := rfl
def blkR (id : Nat) (r : Res) : Res := (outOf id r.1, r.2)
theorem ax_blockK (T : Tab) (id : Nat) (b : AC) (e : Env) (h : Heap) : ax T (.block id b) e h = (ax T b e h).map (blkR id) := by
  rw [ax_block]; rfl
theorem blkR_normal (id : Nat) (e : Env) (h : Heap) : blkR id (.normal, e, h) = (.normal, e, h) := rfl
theorem blkR_ret (id : Nat) (e : Env) (h : Heap) : blkR id (.ret, e, h) = (.ret, e, h) := rfl
theorem blkR_hit (id : Nat) (e : Env) (h : Heap) : blkR id (.exit id, e, h) = (.normal, e, h) := by simp [blkR, outOf]
theorem blkR_miss {id i : Nat} (hi : (i == id) = false) (e : Env) (h : Heap) : blkR id (.exit i, e, h) = (.exit i, e, h) := by
  have : i ≠ id := by simpa using hi
  simp [blkR, outOf, this]
def norR (r : Env × Heap) : Res := (.normal, r.1, r.2)
theorem ax_regK (T : Tab) (ops : List AOper) (e : Env) (h : Heap) : ax T (.reg ops) e h = (aops (Cω T) ops e h).map norR := by
  rw [ax_reg]; rfl
def norQ (h : Heap) (e : Env) : Res := (.normal, e, h)
theorem ax_regQK (T : Tab) (ops : List AOper) (e : Env) (h : Heap) : ax T (.regQ ops) e h = (aopsQ (Cω T) ops e h).map (norQ h) := by
  rw [ax_regQ]; rfl
theorem norR_eq (e : Env) (h : Heap) : norR (e, h) = (.normal, e, h) := rfl
theorem norQ_eq (e : Env) (h : Heap) : norQ h e = (.normal, e, h) := rfl
def frz (p : AV × Heap) : Option AV := freeze p.2 p.1
theorem prun_eq (T : Tab) (F : AFn) (a : List AV) : prun T F a = ((ax T F.body (initE 0 a) []).bind (finish F)).bind frz := rfl
theorem frz_eq (v : AV) (h : Heap) : frz (v, h) = freeze h v := rfl
/-! values -/
theorem bin_leq (k : IntKind) (x y : Int) : abin .leq (.int k x) (.int k y) = some (.bool (decide (x ≤ y))) := by simp [abin, aint]
theorem bin_geq (k : IntKind) (x y : Int) : abin .geq (.int k x) (.int k y) = some (.bool (decide (y ≤ x))) := by simp [abin, aint]
theorem bin_lss (k : IntKind) (x y : Int) : abin .lss (.int k x) (.int k y) = some (.bool (decide (x < y))) := by simp [abin, aint]
theorem bin_gtr (k : IntKind) (x y : Int) : abin .gtr (.int k x) (.int k y) = some (.bool (decide (y < x))) := by simp [abin, aint]
theorem bin_eql (k : IntKind) (x y : Int) : abin .eql (.int k x) (.int k y) = some (.bool (decide (x = y))) := by
  simp only [abin, aint, if_true, Option.some.injEq, Value.bool.injEq]
  rw [Bool.eq_iff_iff]; simp
theorem bin_neq (k : IntKind) (x y : Int) : abin .neq (.int k x) (.int k y) = some (.bool (!decide (x = y))) := by
  simp only [abin, aint, if_true, Option.some.injEq, Value.bool.injEq]
  rw [Bool.eq_iff_iff]; simp
theorem bin_add (k : IntKind) (x y : Int) : abin .add (.int k x) (.int k y) = some (.int k (k.wrap (x + y))) := by simp [abin, aint]
theorem bin_sub (k : IntKind) (x y : Int) : abin .sub (.int k x) (.int k y) = some (.int k (k.wrap (x - y))) := by simp [abin, aint]
theorem bin_mul (k : IntKind) (x y : Int) : abin .mul (.int k x) (.int k y) = some (.int k (k.wrap (x * y))) := by simp [abin, aint]
theorem bin_quo (k : IntKind) (x y : Int) : abin .quo (.int k x) (.int k y) = if y = 0 then none else some (.int k (k.wrap (x.tdiv y))) := by simp [abin, aint]
theorem bin_rem (k : IntKind) (x y : Int) : abin .rem (.int k x) (.int k y) = if y = 0 then none else some (.int k (x.tmod y)) := by simp [abin, aint]
def rigK (p : AV × Heap) : Option AV := if rigid p.1 then some p.1 else none
theorem rigK_sc (v : Value) (h : Heap) : rigK (.sc v, h) = some (.sc v) := rfl
theorem rigK_agg (v : List AV) (h : Heap) : rigK (.agg v, h) = if rigidL v then some (.agg v) else none := rfl
theorem rigK_tup (v : List AV) (h : Heap) : rigK (.tup v, h) = if rigidL v then some (.tup v) else none := rfl
def fstV (p : AV × Heap) : AV := p.1
theorem fstV_eq (v : AV) (h : Heap) : fstV (v, h) = v := rfl
theorem quiet_still {C : Cl} {o : AOp} {e : Env} {h : Heap} (hs : o.still = true) : quietV C o e h = (aop C o e h).map fstV := by
  unfold quietV; rw [if_pos hs]; rfl
theorem quiet_move (C : Cl) (e : Env) (h : Heap) (x : Opd) : quietV C (.move x) e h = (aop C (.move x) e h).map fstV := rfl
theorem quiet_pick (C : Cl) (e : Env) (h : Heap) (c a b : Opd) : quietV C (.pick c a b) e h = (aop C (.pick c a b) e h).map fstV := rfl
theorem quiet_build (C : Cl) (e : Env) (h : Heap) (z : List AV) (p : List (Nat × Nat × Opd)) : quietV C (.build z p) e h = (aop C (.build z p) e h).map fstV := rfl
theorem quiet_nilCheck (C : Cl) (e : Env) (h : Heap) (x : Opd) : quietV C (.nilCheck x) e h = (aop C (.nilCheck x) e h).map fstV := rfl
theorem quiet_bin (C : Cl) (e : Env) (h : Heap) (o : BinOp) (x y : Opd) : quietV C (.bin o x y) e h = (aop C (.bin o x y) e h).map fstV := rfl
theorem quiet_eqBool (C : Cl) (e : Env) (h : Heap) (n : Bool) (x y : Opd) : quietV C (.eqBool n x y) e h = (aop C (.eqBool n x y) e h).map fstV := rfl
theorem quiet_eqArr (C : Cl) (e : Env) (h : Heap) (n : Bool) (m : Nat) (x y : Opd) : quietV C (.eqArr n m x y) e h = (aop C (.eqArr n m x y) e h).map fstV := rfl
theorem quiet_eqNil (C : Cl) (e : Env) (h : Heap) (n : Bool) (k : NK) (x : Opd) : quietV C (.eqNil n k x) e h = (aop C (.eqNil n k x) e h).map fstV := rfl
theorem quiet_un (C : Cl) (e : Env) (h : Heap) (o : UnOp) (x : Opd) : quietV C (.un o x) e h = (aop C (.un o x) e h).map fstV := rfl
theorem quiet_convInt (C : Cl) (e : Env) (h : Heap) (k : IntKind) (x : Opd) : quietV C (.convInt k x) e h = (aop C (.convInt k x) e h).map fstV := rfl
theorem quiet_makeFunc (C : Cl) (e : Env) (h : Heap) (f : Fn) (a b : List Opd) : quietV C (.makeFunc f a b) e h = (aop C (.makeFunc f a b) e h).map fstV := rfl
theorem quiet_slice (C : Cl) (e : Env) (h : Heap) (s : SK) (k : Option Nat) (x : Opd) (l u m : Option Opd) : quietV C (.slice s k x l u m) e h = (aop C (.slice s k x l u m) e h).map fstV := rfl
theorem quiet_toArr (C : Cl) (e : Env) (h : Heap) (n : Nat) (x : Opd) : quietV C (.toArr n x) e h = (aop C (.toArr n x) e h).map fstV := rfl
theorem quiet_fieldAddr (C : Cl) (e : Env) (h : Heap) (o n : Nat) (x : Opd) : quietV C (.fieldAddr o n x) e h = (aop C (.fieldAddr o n x) e h).map fstV := rfl
theorem quiet_field (C : Cl) (e : Env) (h : Heap) (k : Option Nat) (o : Nat) (x : Opd) : quietV C (.field k o x) e h = (aop C (.field k o x) e h).map fstV := rfl
theorem quiet_indexAddr (C : Cl) (e : Env) (h : Heap) (s : IK) (k : Option Nat) (x i : Opd) : quietV C (.indexAddr s k x i) e h = (aop C (.indexAddr s k x i) e h).map fstV := rfl
theorem quiet_index (C : Cl) (e : Env) (h : Heap) (k : Option Nat) (n : Nat) (x i : Opd) : quietV C (.index k n x i) e h = (aop C (.index k n x i) e h).map fstV := rfl
theorem quiet_indexStr (C : Cl) (e : Env) (h : Heap) (x i : Opd) : quietV C (.indexStr x i) e h = (aop C (.indexStr x i) e h).map fstV := rfl
theorem quiet_extract (C : Cl) (e : Env) (h : Heap) (x : Opd) (i : Nat) : quietV C (.extract x i) e h = (aop C (.extract x i) e h).map fstV := rfl
theorem quiet_len (C : Cl) (e : Env) (h : Heap) (x : Opd) : quietV C (.len x) e h = (aop C (.len x) e h).map fstV := rfl
theorem quiet_lenT (C : Cl) (e : Env) (h : Heap) (x : Opd) : quietV C (.lenT x) e h = (aop C (.lenT x) e h).map fstV := rfl
theorem quiet_convSS (C : Cl) (e : Env) (h : Heap) (x : Opd) : quietV C (.convSS x) e h = (aop C (.convSS x) e h).map fstV := rfl
theorem quiet_minmax (C : Cl) (e : Env) (h : Heap) (m : Bool) (x y : Opd) : quietV C (.minmax m x y) e h = (aop C (.minmax m x y) e h).map fstV := rfl
theorem quiet_load {C : Cl} {k : Option Nat} {a : Opd} {e : Env} {h : Heap} : quietV C (.load k a) e h = (aop C (.load k a) e h).bind rigK := rfl
theorem quiet_convStr {C : Cl} {a : Opd} {e : Env} {h : Heap} : quietV C (.convStr a) e h = (aop C (.convStr a) e h).bind rigK := rfl
theorem quiet_call {C : Cl} {f : Nat} {x y : List AV} {args : List Opd} {e : Env} {h : Heap} : quietV C (.call (.cst (.func (.func f) x y)) args) e h = if C.pure f then (aop C (.call (.cst (.func (.func f) x y)) args) e h).bind rigK else none := rfl
/-- a call of a function that makes all for itself, at values that name nothing of the heap -/
theorem call_pure {T : Tab} {f : Nat} {F : AFn} {args : List AV} {h : Heap} {v : AV} (hx : T.ext f = none) (hf : T.fn f = some F) (hp : F.pure = true) (hl : args.length = F.np) (hc : closedL (args.map strip) = true) (hr : prun T F (args.map strip) = some v) : ag T f args h = some (adopt v h) := by
  rw [ag_pure hx hf hp args hl]
  simp only [pcall, prep, if_pos hc, Option.bind_some, hr, Bool.false_eq_true, if_false]
theorem call_sc {T : Tab} {f : Nat} {F : AFn} {args : List AV} {h : Heap} {v : Value} (hx : T.ext f = none) (hf : T.fn f = some F) (hp : F.pure = true) (hl : args.length = F.np) (hm : args.map strip = args) (hc : closedL args = true) (hr : prun T F args = some (.sc v)) : ag T f args h = some (.sc v, h) := by
  have := call_pure (h := h) hx hf hp hl (by rw [hm]; exact hc) (by rw [hm]; exact hr)
  exact this
/-- a tuple that begins with a value that is no slice -/
theorem call_tup {T : Tab} {f : Nat} {F : AFn} {args : List AV} {h : Heap} {v : Value} {r : List AV} (hx : T.ext f = none) (hf : T.fn f = some F) (hp : F.pure = true) (hl : args.length = F.np) (hm : args.map strip = args) (hc : closedL args = true) (hr : prun T F args = some (.tup (.sc v :: r))) : ag T f args h = some (.tup (.sc v :: r), h) := by
  have := call_pure (h := h) hx hf hp hl (by rw [hm]; exact hc) (by rw [hm]; exact hr)
  exact this
theorem call_agg {T : Tab} {f : Nat} {F : AFn} {args : List AV} {h : Heap} {r : List AV} (hx : T.ext f = none) (hf : T.fn f = some F) (hp : F.pure = true) (hl : args.length = F.np) (hm : args.map strip = args) (hc : closedL args = true) (hr : prun T F args = some (.agg r)) : ag T f args h = some (.agg r, h) := by
  have := call_pure (h := h) hx hf hp hl (by rw [hm]; exact hc) (by rw [hm]; exact hr)
  exact this
end Go.Proofs.Ytpnkldjbiinnpaa.AM
