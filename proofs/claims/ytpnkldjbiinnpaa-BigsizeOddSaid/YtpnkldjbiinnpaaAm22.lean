import Derived.Test.YtpnkldjbiinnpaaAm21
/- Runs of the plain machine, by what holds behind them. -/
namespace Go.Proofs.Ytpnkldjbiinnpaa.AM
open Go
set_option linter.unusedVariables false
/-- it comes to an end, with a property -/
def WP {α : Type} (Q : α → Prop) : Option α → Prop
  | some r => Q r
  | none => False
def BQ {α β : Type} (f : α → Option β) (Q : β → Prop) (r : α) : Prop := WP Q (f r)
def MQ {α β : Type} (f : α → β) (Q : β → Prop) (r : α) : Prop := Q (f r)
section
variable {α β : Type} {Q : α → Prop}
theorem WP_some (r : α) : WP Q (some r) = Q r := rfl
theorem WP_none : WP Q none = False := rfl
theorem WP_bind (f : β → Option α) (o : Option β) : WP Q (o.bind f) = WP (BQ f Q) o := by cases o <;> rfl
theorem WP_map (f : β → α) (o : Option β) : WP Q (o.map f) = WP (MQ f Q) o := by cases o <;> rfl
theorem WP_ite (p : Prop) [Decidable p] (a : Option α) : WP Q (if p then a else none) = (p ∧ WP Q a) := by
  by_cases h : p
  · simp [h]
  · simp [h, WP]
theorem WP_mono {Q' : α → Prop} {o : Option α} (h : WP Q o) (hq : ∀ r, Q r → Q' r) : WP Q' o := by
  cases o with
  | none => exact h
  | some r => exact hq r h
theorem WP_ex {o : Option α} (h : WP Q o) : ∃ r, o = some r ∧ Q r := by
  cases o with
  | none => exact h.elim
  | some r => exact ⟨r, rfl, h⟩
theorem WP_eq {o : Option α} {v : α} (h : WP (fun r => r = v) o) : o = some v := by
  obtain ⟨r, h1, h2⟩ := WP_ex h
  rw [h1, h2]
theorem WP_of {o : Option α} {r : α} (h : o = some r) (q : Q r) : WP Q o := by rw [h]; exact q
end
theorem BQ_normal (k : Env → Heap → Option Res) (Q : Res → Prop) (e : Env) (h : Heap) : BQ (nextR k) Q (.normal, e, h) = WP Q (k e h) := rfl
theorem BQ_ret (k : Env → Heap → Option Res) (Q : Res → Prop) (e : Env) (h : Heap) : BQ (nextR k) Q (.ret, e, h) = Q (.ret, e, h) := rfl
theorem BQ_exit (k : Env → Heap → Option Res) (Q : Res → Prop) (i : Nat) (e : Env) (h : Heap) : BQ (nextR k) Q (.exit i, e, h) = Q (.exit i, e, h) := rfl
theorem MQ_norR (Q : Res → Prop) (e : Env) (h : Heap) : MQ norR Q (e, h) = Q (.normal, e, h) := rfl
theorem MQ_norQ (Q : Res → Prop) (e : Env) (h : Heap) : MQ (norQ h) Q e = Q (.normal, e, h) := rfl
theorem MQ_blk_normal (id : Nat) (Q : Res → Prop) (e : Env) (h : Heap) : MQ (blkR id) Q (.normal, e, h) = Q (.normal, e, h) := rfl
theorem MQ_blk_ret (id : Nat) (Q : Res → Prop) (e : Env) (h : Heap) : MQ (blkR id) Q (.ret, e, h) = Q (.ret, e, h) := rfl
theorem MQ_blk_hit (id : Nat) (Q : Res → Prop) (e : Env) (h : Heap) : MQ (blkR id) Q (.exit id, e, h) = Q (.normal, e, h) := by unfold MQ; rw [blkR_hit]
theorem MQ_blk_miss {id i : Nat} (hi : (i == id) = false) (Q : Res → Prop) (e : Env) (h : Heap) : MQ (blkR id) Q (.exit i, e, h) = Q (.exit i, e, h) := by unfold MQ; rw [blkR_miss hi]
theorem bool_split (b w : Bool) (p q r : Prop) (h1 : b = w → (r = p)) (h2 : b = !w → (r = q)) : r = ((b = w → p) ∧ (b = (!w) → q)) := by
  cases b <;> cases w <;> simp_all
theorem WP_opsG {Q : Env × Heap → Prop} (C : Cl) (d : Option Nat) (o : AOp) (w : Bool) (r : List AOper) (e : Env) (h : Heap) (b : Bool) : WP Q (opsG C d o w r e h (.sc (.bool b))) = ((b = w → WP Q (opsK C d r e (aop C o e h))) ∧ (b = (!w) → WP Q (aops C r (setE e d .undef) h))) :=
  bool_split _ _ _ _ _ (fun hb => by subst hb; simp [opsG_b]) (fun hb => by subst hb; cases w <;> simp [opsG_b])
theorem WP_quiG {Q : Env → Prop} (C : Cl) (d : Option Nat) (o : AOp) (w : Bool) (r : List AOper) (e : Env) (h : Heap) (b : Bool) : WP Q (quiG C d o w r e h (.sc (.bool b))) = ((b = w → WP Q (quiK C d r e h (quietV C o e h))) ∧ (b = (!w) → WP Q (aopsQ C r (setE e d .undef) h))) :=
  bool_split _ _ _ _ _ (fun hb => by subst hb; simp [quiG_b]) (fun hb => by subst hb; cases w <;> simp [quiG_b])
theorem WP_condK {T : Tab} {Q : Res → Prop} (a b : AC) (e : Env) (h : Heap) (c : Bool) : WP Q (condK T a b e h (.sc (.bool c))) = ((c = true → WP Q (ax T a e h)) ∧ (c = false → WP Q (ax T b e h))) := by
  cases c
  · rw [condK_f]; simp
  · rw [condK_t]; simp
theorem WP_opsK_ite {Q : Env × Heap → Prop} (C : Cl) (d : Option Nat) (r : List AOper) (e : Env) (p : Prop) [Decidable p] (a : Option (AV × Heap)) : WP Q (opsK C d r e (if p then a else none)) = (p ∧ WP Q (opsK C d r e a)) := by
  by_cases h : p
  · simp [h]
  · simp [h, opsK, WP]
theorem WP_quiK_ite {Q : Env → Prop} (C : Cl) (d : Option Nat) (r : List AOper) (e : Env) (hh : Heap) (p : Prop) [Decidable p] (a : Option AV) : WP Q (quiK C d r e hh (if p then a else none)) = (p ∧ WP Q (quiK C d r e hh a)) := by
  by_cases h : p
  · simp [h]
  · simp [h, quiK, WP]
/-! stores -/
def splice (cs : List AV) (o : Nat) : List AV → List AV
  | [] => cs
  | [x] => cs.set o x
  | x :: y :: r => cs.take o ++ (x :: y :: r ++ cs.drop (o + (r.length + 2)))
theorem set_split {α : Type} {cs : List α} {o : Nat} {x : α} (h : o < cs.length) : cs.set o x = cs.take o ++ x :: cs.drop (o + 1) := List.set_eq_take_append_cons_drop .. |>.trans (by rw [if_pos h])
theorem setAt_sp : ∀ {xs cs : List AV} {o : Nat}, o + xs.length ≤ cs.length → setAt cs o xs = cs.take o ++ (xs ++ cs.drop (o + xs.length))
  | [], cs, o, h => by simp [setAt]
  | x :: xs, cs, o, h => by
    simp only [List.length_cons] at h
    simp only [setAt]
    rw [setAt_sp (by simp; omega), set_split (by omega)]
    have e1 : (cs.take o ++ x :: cs.drop (o + 1)).take (o + 1) = cs.take o ++ [x] := by
      rw [List.take_append]
      simp only [List.length_take, show min o cs.length = o by omega, show o + 1 - o = 1 by omega, List.take_succ_cons, List.take_zero]
      rw [List.take_of_length_le (by simp; omega)]
    have e2 : (cs.take o ++ x :: cs.drop (o + 1)).drop (o + 1 + xs.length) = cs.drop (o + (xs.length + 1)) := by
      rw [List.drop_append]
      simp only [List.length_take, show min o cs.length = o by omega]
      rw [List.drop_eq_nil_of_le (by simp; omega), List.nil_append, show o + 1 + xs.length - o = xs.length + 1 by omega, List.drop_succ_cons, List.drop_drop, show o + 1 + xs.length = o + (xs.length + 1) by omega]
    rw [e1, e2]
    simp
theorem splice_eq {xs cs : List AV} {o : Nat} (h : o + xs.length ≤ cs.length) : setAt cs o xs = splice cs o xs := by
  match xs with
  | [] => rfl
  | [x] => rfl
  | x :: y :: r => rw [setAt_sp h]; rfl
theorem splice_nil (cs : List AV) (o : Nat) : splice cs o [] = cs := rfl
theorem splice_one (cs : List AV) (o : Nat) (x : AV) : splice cs o [x] = cs.set o x := rfl
theorem splice_more (cs : List AV) (o : Nat) (x y : AV) (r : List AV) : splice cs o (x :: y :: r) = cs.take o ++ (x :: y :: r ++ cs.drop (o + (r.length + 2))) := rfl
def stB (h : Heap) (id off : Nat) (xs cs : List AV) : Option Heap := if off + xs.length ≤ cs.length then some (h.set id (.cells (splice cs off xs))) else none
theorem storeB_K (h : Heap) (id off : Nat) (xs : List AV) : storeB h id off xs = (boxAt h id).bind (stB h id off xs) := by
  unfold storeB
  congr 1
  funext cs
  unfold stB
  split
  · rename_i hh; rw [splice_eq hh]
  · rfl
theorem stB_eq (h : Heap) (id off : Nat) (xs cs : List AV) : stB h id off xs cs = if off + xs.length ≤ cs.length then some (h.set id (.cells (splice cs off xs))) else none := rfl
def spK (e : Env) (cs : List AV) (o n : Nat) (r : List (Nat × Nat × Opd)) (xs : List AV) : Option (List AV) := if xs.length = n ∧ o + n ≤ cs.length then setParts e (splice cs o (xs.map strip)) r else none
theorem setParts_nil (e : Env) (cs : List AV) : setParts e cs [] = some cs := rfl
theorem setParts_K (e : Env) (cs : List AV) (o n : Nat) (x : Opd) (r : List (Nat × Nat × Opd)) : setParts e cs ((o, n, x) :: r) = (cellsOf (evO e x)).bind (spK e cs o n r) := by
  simp only [setParts]
  congr 1
  funext xs
  unfold spK
  split
  · rename_i hh; rw [splice_eq (by rw [List.length_map]; omega)]
  · rfl
theorem spK_eq (e : Env) (cs : List AV) (o n : Nat) (r : List (Nat × Nat × Opd)) (xs : List AV) : spK e cs o n r xs = if xs.length = n ∧ o + n ≤ cs.length then setParts e (splice cs o (xs.map strip)) r else none := rfl
/-! rows whose order is drawn -/
def dK (C : Cl) (d : Option Nat) (r : List AOper) (e : Env) (hs : List Heap) : Option (AV × Heap) → Option (Env × Heap × List Heap)
  | none => none
  | some (v, h) => runD C r (setE e d v) h hs
def dG (C : Cl) (d : Option Nat) (o : AOp) (w : Bool) (r : List AOper) (e : Env) (h : Heap) (hs : List Heap) : AV → Option (Env × Heap × List Heap)
  | .sc (.bool b) => if b = w then dK C d r e hs (aop C o e h) else runD C r (setE e d .undef) h hs
  | .sc _ => runD C r (setE e d .undef) h hs
  | _ => none
theorem dK_some (C : Cl) (d : Option Nat) (r : List AOper) (e : Env) (hs : List Heap) (v : AV) (h : Heap) : dK C d r e hs (some (v, h)) = runD C r (setE e d v) h hs := rfl
theorem runD_nil (C : Cl) (e : Env) (h : Heap) (hs : List Heap) : runD C [] e h hs = some (e, h, hs ++ [h]) := rfl
theorem runD_none (C : Cl) (d : Option Nat) (o : AOp) (r : List AOper) (e : Env) (h : Heap) (hs : List Heap) : runD C (⟨d, o, none⟩ :: r) e h hs = dK C d r e (grow o h hs) (aop C o e h) := by
  simp only [runD, wantE, Option.bind_some, if_true]
  cases aop C o e h <;> rfl
theorem runD_some (C : Cl) (d : Option Nat) (o : AOp) (t : Nat) (w : Bool) (r : List AOper) (e : Env) (h : Heap) (hs : List Heap) : runD C (⟨d, o, some (t, w)⟩ :: r) e h hs = dG C d o w r e h (grow o h hs) (getE e t) := by
  simp only [runD, wantE]
  cases getE e t with
  | sc v =>
    cases v with
    | bool b =>
      simp only [Option.bind_some, dG]
      cases b <;> cases w <;> simp only [beq_self_eq_true, if_true, Bool.false_eq_true, Bool.true_eq_false, if_false, show (false == true) = false from rfl, show (true == false) = false from rfl] <;> first | rfl | (cases aop C o e h <;> rfl)
    | _ => simp only [Option.bind_some, dG, Bool.false_eq_true, if_false]
  | _ => rfl
theorem dG_tt (C : Cl) (d : Option Nat) (o : AOp) (r : List AOper) (e : Env) (h : Heap) (hs : List Heap) : dG C d o true r e h hs (.sc (.bool true)) = dK C d r e hs (aop C o e h) := rfl
theorem dG_ft (C : Cl) (d : Option Nat) (o : AOp) (r : List AOper) (e : Env) (h : Heap) (hs : List Heap) : dG C d o true r e h hs (.sc (.bool false)) = runD C r (setE e d .undef) h hs := rfl
theorem dG_tf (C : Cl) (d : Option Nat) (o : AOp) (r : List AOper) (e : Env) (h : Heap) (hs : List Heap) : dG C d o false r e h hs (.sc (.bool true)) = runD C r (setE e d .undef) h hs := rfl
theorem dG_ff (C : Cl) (d : Option Nat) (o : AOp) (r : List AOper) (e : Env) (h : Heap) (hs : List Heap) : dG C d o false r e h hs (.sc (.bool false)) = dK C d r e hs (aop C o e h) := rfl
theorem dG_undef (C : Cl) (d : Option Nat) (o : AOp) (w : Bool) (r : List AOper) (e : Env) (h : Heap) (hs : List Heap) : dG C d o w r e h hs .undef = runD C r (setE e d .undef) h hs := rfl
theorem dG_b (C : Cl) (d : Option Nat) (o : AOp) (w : Bool) (r : List AOper) (e : Env) (h : Heap) (hs : List Heap) (b : Bool) : dG C d o w r e h hs (.sc (.bool b)) = if b = w then dK C d r e hs (aop C o e h) else runD C r (setE e d .undef) h hs := rfl
theorem WP_dG {Q : Env × Heap × List Heap → Prop} (C : Cl) (d : Option Nat) (o : AOp) (w : Bool) (r : List AOper) (e : Env) (h : Heap) (hs : List Heap) (b : Bool) : WP Q (dG C d o w r e h hs (.sc (.bool b))) = ((b = w → WP Q (dK C d r e hs (aop C o e h))) ∧ (b = (!w) → WP Q (runD C r (setE e d .undef) h hs))) :=
  bool_split _ _ _ _ _ (fun hb => by subst hb; simp [dG_b]) (fun hb => by subst hb; cases w <;> simp [dG_b])
theorem WP_dK_ite {Q : Env × Heap × List Heap → Prop} (C : Cl) (d : Option Nat) (r : List AOper) (e : Env) (hs : List Heap) (p : Prop) [Decidable p] (a : Option (AV × Heap)) : WP Q (dK C d r e hs (if p then a else none)) = (p ∧ WP Q (dK C d r e hs a)) := by
  by_cases h : p
  · simp [h]
  · simp [h, dK, WP]
theorem chkR_eq (C : Cl) (e0 : Env) (ops : List AOper) (st : List (Nat × Nat)) (e : Env) (h : Heap) (hs : List Heap) : chkR C e0 ops st (e, h, hs) = if chkD C e hs e0 ops st = true then some (.normal, e, h) else none := rfl
theorem nxE_some (e e' : Env) (d : Nat) : nxE e e' (some d) = (d, getE e' d) :: e := rfl
theorem nxE_none (e e' : Env) : nxE e e' none = e := rfl
theorem chkV_some (v : AV) (h : Heap) (d : Nat) (e : Env) : chkV (some (v, h)) (some d) e = beqV v (getE e d) := rfl
theorem chkV_off (v : AV) (h : Heap) (e : Env) : chkV (some (v, h)) none e = true := rfl
theorem grow_eq (o : AOp) (h : Heap) (hs : List Heap) : grow o h hs = if effB o = true then hs ++ [h] else hs := rfl
theorem wantE_none (e : Env) : wantE none e = some true := rfl
theorem wantE_some (t : Nat) (w : Bool) (e : Env) : wantE (some (t, w)) e = match getE e t with
    | .sc (.bool b) => some (b == w)
    | .sc _ => some false
    | _ => none := rfl
/-- what holds behind a round -/
def LQ (I : Nat → Env → Heap → Prop) (Q : Res → Prop) (n : Nat) : Res → Prop
  | (.normal, e, h) => ∃ n', n' < n ∧ I n' e h
  | r => Q r
theorem LQ_normal (I : Nat → Env → Heap → Prop) (Q : Res → Prop) (n : Nat) (e : Env) (h : Heap) : LQ I Q n (.normal, e, h) = ∃ n', n' < n ∧ I n' e h := rfl
theorem LQ_exit (I : Nat → Env → Heap → Prop) (Q : Res → Prop) (n i : Nat) (e : Env) (h : Heap) : LQ I Q n (.exit i, e, h) = Q (.exit i, e, h) := rfl
theorem LQ_ret (I : Nat → Env → Heap → Prop) (Q : Res → Prop) (n : Nat) (e : Env) (h : Heap) : LQ I Q n (.ret, e, h) = Q (.ret, e, h) := rfl
/-- a loop -/
theorem WP_loop {T : Tab} {keep : List Nat} {gc : Bool} {b : AC} {m : Nat} {Q : Res → Prop} (I : Nat → Env → Heap → Prop)
    (hs : ∀ n e h, I n e h → WP (fun p => WP (LQ I Q n) (ax T b p.1 p.2)) (trim keep gc m e h)) : ∀ (n : Nat) (e : Env) (h : Heap), I n e h → WP Q (axl T keep gc b m e h) := by
  intro n
  induction n using Nat.strongRecOn with
  | ind n ih =>
    intro e h hi
    rw [axl_eq]
    obtain ⟨p, h1, h2⟩ := WP_ex (hs n e h hi)
    rw [h1, Option.bind_some]
    obtain ⟨⟨x, e', h'⟩, h3, h4⟩ := WP_ex h2
    rw [h3, Option.bind_some]
    cases x with
    | normal =>
      rw [nextR_normal]
      obtain ⟨n', hn, hi'⟩ := h4
      exact ih n' hn _ _ hi'
    | exit i => exact h4
    | ret => exact h4
theorem trim_same' {keep : List Nat} {gc : Bool} {m : Nat} {e : Env} {h : Heap} (hm : h.length ≤ m) : trim keep gc m e h = some (keep.map fun t => (t, getE e t), h) := by
  unfold trim
  rw [if_neg (by omega)]
theorem trim_off (keep : List Nat) (m : Nat) (e : Env) (h : Heap) : trim keep false m e h = some (keep.map fun t => (t, getE e t), h) := by simp [trim]
mutual
theorem nam_imp {p q : Nat → Bool} (hpq : ∀ i, p i = true → q i = true) : ∀ (x : AV), nam p x = true → nam q x = true
  | .sc _, _ => rfl
  | .unk, _ => rfl
  | .ptr id _, h => hpq _ h
  | .ms id _ _ _, h => hpq _ h
  | .map id, h => hpq _ h
  | .ref cs, h => namL_imp hpq cs h
  | .slice o _ els, h => by
    simp only [nam, Bool.and_eq_true] at h ⊢
    refine ⟨?_, namL_imp hpq els h.2⟩
    cases o <;> first | exact hpq _ h.1 | rfl
  | .func _ a b, h => by
    simp only [nam, Bool.and_eq_true] at h ⊢
    exact ⟨namL_imp hpq a h.1, namL_imp hpq b h.2⟩
  | .agg cs, h => namL_imp hpq cs h
  | .tup vs, h => namL_imp hpq vs h
theorem namL_imp {p q : Nat → Bool} (hpq : ∀ i, p i = true → q i = true) : ∀ (x : List AV), namL p x = true → namL q x = true
  | [], _ => rfl
  | x :: xs, h => by
    simp only [namL, Bool.and_eq_true] at h ⊢
    exact ⟨nam_imp hpq x h.1, namL_imp hpq xs h.2⟩
end
theorem closed_below' (m : Nat) : ∀ (x : AV), closed x = true → below m x = true := by
  intro x hx
  exact nam_imp (fun _ h => by cases h) x hx
theorem trim_take {keep : List Nat} {m : Nat} {e : Env} {h : Heap} (hk : (keep.all fun t => below m (getE e t)) = true) (hb : (h.take m).all (belowO m) = true) : trim keep true m e h = some (keep.map fun t => (t, getE e t), h.take m) := by
  unfold trim
  split
  · rw [if_pos (by simp [hk, hb])]
  · rename_i hh
    rw [List.take_of_length_le]
    by_cases hl : h.length ≤ m
    · exact hl
    · exact absurd ⟨rfl, by omega⟩ hh
theorem getE_cons (u t : Nat) (v : AV) (r : Env) : getE ((u, v) :: r) t = if u = t then v else getE r t := rfl
theorem blkR_if (id i : Nat) (e : Env) (h : Heap) : blkR id (.exit i, e, h) = if i = id then (.normal, e, h) else (.exit i, e, h) := by
  unfold blkR outOf
  simp only
  split <;> rfl
theorem aun_not (b : Bool) : aun .not (.bool b) = some (.bool !b) := rfl
theorem cast_succ' (i : Nat) : (i : Int) + 1 = ((i + 1 : Nat) : Int) := rfl
theorem cast_add' (a b : Nat) : (a : Int) + (b : Int) = ((a + b : Nat) : Int) := rfl
theorem cast_mul' (a b : Nat) : (a : Int) * (b : Int) = ((a * b : Nat) : Int) := rfl
theorem get_lt {α : Type} {l : List α} {i : Nat} (h : i < l.length) : l[i]? = some l[i] := List.getElem?_eq_getElem h
theorem toNat_eq {x : Int} {n : Nat} (h : x = n) : x.toNat = n := by rw [h]; rfl
theorem flat_one' (n : Nat) (z : AV) : (List.replicate n [z]).flatten = List.replicate n z := by
  induction n with
  | zero => rfl
  | succ n ih => simp [List.replicate_succ, ih]
def IsRow (x : AObj) : Prop := ∃ k n, x = .row k n
/-- what is taken over: a tuple that begins with a slice -/
theorem adopt_sl {o : AOwn} {k : Option Nat} {els r : List AV} (ho : o = .full ∨ o = .fresh ∨ o = .none) (hc : closedL els = true) (h : Heap) : ∃ o' h', Go.Proofs.Ytpnkldjbiinnpaa.AM.adopt (.tup (.slice o k els :: r)) h = (.tup (.slice o' k els :: r), h') ∧ ((∀ x ∈ h, IsRow x) → ∀ x ∈ h', IsRow x) ∧ h.length ≤ h'.length ∧ stripO o' ≠ .fresh ∧ ∀ m, h'.length ≤ m → below m (.slice o' k els) = true := by
  have hb : ∀ m, namL (fun i => decide (i < m)) els = true := fun m => namL_imp (fun _ h => by cases h) els hc
  rcases ho with rfl | rfl | rfl
  · exact ⟨.full, h, rfl, fun g => g, Nat.le_refl _, by simp [stripO], fun m _ => by simp [below, nam, hb]⟩
  · refine ⟨.tok h.length, h ++ [.row k els.length], rfl, fun g x hx => ?_, by simp, by simp [stripO], fun m hm => by simp [below, nam, hb] at hm ⊢; omega⟩
    rcases List.mem_append.1 hx with hx | hx
    · exact g x hx
    · simp at hx; exact ⟨_, _, hx⟩
  · exact ⟨.none, h, rfl, fun g => g, Nat.le_refl _, by simp [stripO], fun m _ => by simp [below, nam, hb]⟩
theorem rows_below {h : Heap} (g : ∀ x ∈ h, IsRow x) (n m : Nat) : (h.take n).all (belowO m) = true := by
  rw [List.all_eq_true]
  intro x hx
  obtain ⟨k, n, rfl⟩ := g x (List.mem_of_mem_take hx)
  rfl
theorem bne_ff : (false != false) = false := rfl
theorem bne_tf : (true != false) = true := rfl
theorem bne_ft : (false != true) = true := rfl
theorem bne_tt : (true != true) = false := rfl
theorem beq_ff : (false == false) = true := rfl
theorem beq_tf : (true == false) = false := rfl
theorem beq_ft : (false == true) = false := rfl
theorem beq_tt : (true == true) = true := rfl
theorem bne_f (b : Bool) : (b != false) = b := by cases b <;> rfl
theorem bne_t (b : Bool) : (b != true) = !b := by cases b <;> rfl
theorem fits_of {n b : Nat} (h : n * b ≤ 140737488355328 ∨ (n + n / 4 + 192) * b ≤ 281474976710656) : fitsB n b = true := by simp only [fitsB, decide_eq_true_eq]; exact h
theorem get_app {α : Type} (h t : List α) (n : Nat) : (h ++ t)[h.length + n]? = t[n]? := by rw [List.getElem?_append_right (by omega)]; congr 1; omega
theorem get_app0 {α : Type} (h t : List α) : (h ++ t)[h.length]? = t[0]? := get_app h t 0
theorem get_appl {α : Type} {h t : List α} {n : Nat} (hn : n < h.length) : (h ++ t)[n]? = h[n]? := List.getElem?_append_left hn
theorem set_app {α : Type} (h t : List α) (n : Nat) (x : α) : (h ++ t).set (h.length + n) x = h ++ t.set n x := by rw [List.set_append_right _ _ (by omega)]; congr 2; omega
theorem set_app0 {α : Type} (h t : List α) (x : α) : (h ++ t).set h.length x = h ++ t.set 0 x := set_app h t 0 x
theorem app_app {α : Type} (h : List α) (a b : List α) : (h ++ a) ++ b = h ++ (a ++ b) := List.append_assoc ..
theorem tn_pred (i : Nat) : ((i : Int) - 1).toNat = i - 1 := by omega
theorem kz_none : kz none = 1 := rfl
theorem kz_some (n : Nat) : kz (some n) = n := rfl
def fin (l : List ARes) (r : Res) : Option (AV × Heap) :=
  match r.1 with
  | .exit _ => none
  | _ => (resOf r.2.1 r.2.2 l).map fun l => (tupOf l, r.2.2)
theorem fin_ret (l : List ARes) (e : Env) (h : Heap) : fin l (.ret, e, h) = (resOf e h l).map fun l => (tupOf l, h) := rfl
theorem fin_normal (l : List ARes) (e : Env) (h : Heap) : fin l (.normal, e, h) = (resOf e h l).map fun l => (tupOf l, h) := rfl
theorem prun_wp {T : Tab} {F : AFn} {a : List AV} {Q : AV → Prop} (h : WP (BQ (fin F.res) (BQ frz Q)) (ax T F.body (initE 0 a) [])) : WP Q (prun T F a) := by
  rw [prun_eq, WP_bind, WP_bind]
  exact h
theorem BQ_frz (Q : AV → Prop) (v : AV) (h : Heap) : BQ frz Q (v, h) = WP Q (freeze h v) := rfl
theorem BQ_eq {α β : Type} (f : α → Option β) (Q : β → Prop) (r : α) : BQ f Q r = WP Q (f r) := rfl
theorem MQ_eq {α β : Type} (f : α → β) (Q : β → Prop) (r : α) : MQ f Q r = Q (f r) := rfl
end Go.Proofs.Ytpnkldjbiinnpaa.AM
