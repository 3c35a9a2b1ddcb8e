import Derived.Test.YtpnkldjbiinnpaaAmG
import Derived.LoopN
/- Code: what the plain machine does the model does. -/
namespace Go.Proofs.Ytpnkldjbiinnpaa.AM
open Go Go.RowKit
set_option linter.unusedVariables false
set_option linter.unusedSimpArgs false
def restr (S : St) (m : Nat) : St := { S with blk := fun i v => if i < m then S.blk i v else none }
theorem restr_ext {S : St} {m : Nat} : ExtP (fun i => decide (i < m)) S (restr S m) where
  blk := fun i v b hp hb => by simp only [restr]; rw [if_pos (by simpa using hp)]; exact hb
  sz := fun _ _ _ _ _ _ h => h
  imm := fun _ _ _ h => h
theorem Rel.trim {S : St} {h : Heap} {B : Nat} {W : World} (r : Rel S h B W) {m : Nat} (hm : m ≤ h.length) (hb : (h.take m).all (belowO m) = true) : Rel (restr S m) (h.take m) B W := by
  have hget : ∀ (i : Nat) (x : AObj), (h.take m)[i]? = some x → i < m ∧ h[i]? = some x := fun i x hx => by
    rw [List.getElem?_take] at hx
    split at hx
    · exact ⟨by assumption, hx⟩
    · cases hx
  have hblk : ∀ i v, i < m → (restr S m).blk i v = S.blk i v := fun i v hi => if_pos hi
  refine ⟨r.imm, ?_, ?_, ?_, r.lt, r.base, r.sb⟩
  · intro i x hx
    obtain ⟨hi, hx'⟩ := hget i x hx
    have hbx : belowO m x = true := List.all_eq_true.1 hb x (List.mem_of_getElem? hx)
    have ho := r.obj i x hx'
    cases x with
    | cells cs =>
      obtain ⟨b, c, e, p1, p2, p3, p4, p5, p6, p7⟩ := ho
      exact ⟨b, c, e, by rw [hblk i _ hi]; exact p1, p2, p3, VL.nam restr_ext cs hbx p4, p5, p6, p7⟩
    | row k n =>
      obtain ⟨p1, p2⟩ := ho
      refine ⟨fun v hv => by rw [hblk i _ hi]; exact p1 v hv, fun b hb => ?_⟩
      rw [hblk i _ hi] at hb
      exact p2 b hb
    | map es => exact ho
  · intro i j x y b hx hy hcx hcy
    obtain ⟨hi, hx'⟩ := hget i x hx
    obtain ⟨hj, hy'⟩ := hget j y hy
    refine r.inj i j x y b hx' hy' ?_ ?_
    · cases x <;> simp only [curB, hblk _ _ hi] at * <;> exact hcx
    · cases y <;> simp only [curB, hblk _ _ hj] at * <;> exact hcy
  · intro i v hi
    rw [List.length_take] at hi
    simp only [restr]
    rw [if_neg (by omega)]
theorem getE_map (e : Env) : ∀ (keep : List Nat) (t : Nat), getE (keep.map fun t => (t, getE e t)) t = if t ∈ keep then getE e t else .unk
  | [], t => by simp [getE]
  | k :: keep, t => by
    simp only [List.map_cons, getE]
    by_cases hk : k = t
    · subst hk; simp
    · rw [if_neg hk, getE_map e keep t]
      have : t ≠ k := fun hh => hk hh.symm
      simp [this]
theorem trim_ok {S0 S : St} {h h1 : Heap} {B : Nat} {W : World} {e e1 : Env} {a : Act} {nt m : Nat} {keep : List Nat} {gc : Bool} (ht : trim keep gc m e h = some (e1, h1)) (r : Rel S h B W) (he : EnvR S e a nt) (h0 : Ext S0 S) (hS0 : ∀ i v, m ≤ i → S0.blk i v = none) :
    ∃ S1, Rel S1 h1 B W ∧ EnvR S1 e1 a nt ∧ Ext S0 S1 ∧ S1.imm = S.imm := by
  unfold trim at ht
  split at ht
  · rename_i hc
    split at ht
    · rename_i hall
      cases ht
      simp only [Bool.and_eq_true] at hall
      refine ⟨restr S m, r.trim (by omega) hall.2, ⟨he.size, fun t => ?_⟩, ⟨fun i v b hb => ?_, h0.sz, h0.imm, h0.base, h0.low⟩, rfl⟩
      · rw [getE_map]
        split
        · rename_i hmem
          exact V.nam restr_ext _ (List.all_eq_true.1 hall.1 t hmem) (he.get t)
        · simp only [V]
      · simp only [restr]
        by_cases hi : i < m
        · rw [if_pos hi]; exact h0.blk i v b hb
        · rw [hS0 i v (by omega)] at hb; cases hb
    · cases ht
  · cases ht
    refine ⟨S, r, ⟨he.size, fun t => ?_⟩, h0, rfl⟩
    rw [getE_map]
    split
    · exact he.get t
    · simp only [V]
def exitOf : AX → Exit
  | .normal => .normal
  | .exit id => .exit id
  | .ret => .ret
section
variable {P : Program} {E : Env0} {C : Cl} {B : Nat}
/-- the code does what the machine's text does -/
def CodeOK (P : Program) (E : Env0) (B : Nat) (c : Code) (f : Env → Heap → Option Res) : Prop :=
  ∀ (e : Env) (h : Heap) (x : AX) (e' : Env) (h' : Heap), f e h = some (x, e', h') → ∀ (S : St) (a : Act) (W : World) (Q : Exit → Act → World → Prop), Rel S h B W → EnvR S e a E.nt → GlobOK E.gl S.imm →
    (∀ S' a' W', Ext S S' → Rel S' h' B W' → EnvR S' e' a' E.nt → a'.defers = a.defers → Below B W W' → Q (exitOf x) a' W') → c.wp P Q a W
theorem loop_sound {c : Code} {body : Env → Heap → Option Res} (hb : CodeOK P E B c body) {keep : List Nat} {gc : Bool} {m : Nat} {S0 : St} (hS0 : ∀ i v, m ≤ i → S0.blk i v = none) {Q : Exit → Act → World → Prop} {x : AX} {e' : Env} {h' : Heap} {W0 : World} {d0 : List Deferred}
    (hq : ∀ S' a' W', Ext S0 S' → Rel S' h' B W' → EnvR S' e' a' E.nt → a'.defers = d0 → Below B W0 W' → Q (exitOf x) a' W') :
    ∀ (n : Nat) (e : Env) (h : Heap) (S : St) (a : Act) (W : World), aloop body keep gc m n e h = some (x, e', h') → Rel S h B W → EnvR S e a E.nt → GlobOK E.gl S.imm → Ext S0 S → a.defers = d0 → Below B W0 W → Code.rounds P c Q n a W
  | 0, e, h, S, a, W, hx, r, he, hg, h0, hd, hbel => by simp [aloop] at hx
  | n + 1, e, h, S, a, W, hx, r, he, hg, h0, hd, hbel => by
    simp only [aloop, Option.bind_eq_some_iff, Prod.exists] at hx
    obtain ⟨e1, h1, ht, x1, e2, h2, hbody, hx⟩ := hx
    obtain ⟨S1, r1, he1, h01, himm⟩ := trim_ok ht r he h0 hS0
    rw [rounds_succ]
    refine hb e1 h1 x1 e2 h2 hbody S1 a W _ r1 he1 (by rw [himm]; exact hg) fun S2 a2 W2 k1 k2 k3 k4 k5 => ?_
    have hg2 : GlobOK E.gl S2.imm := by
      refine GlobOK.mono (S := S1) ?_ k1
      rw [himm]; exact hg
    cases x1 with
    | normal => exact loop_sound hb hS0 hq n e2 h2 S2 a2 W2 hx k2 k3 hg2 (h01.trans k1) (k4.trans hd) (hbel.trans k5)
    | exit id => simp only at hx; cases hx; exact hq S2 a2 W2 (h01.trans k1) k2 k3 (k4.trans hd) (hbel.trans k5)
    | ret => simp only at hx; cases hx; exact hq S2 a2 W2 (h01.trans k1) k2 k3 (k4.trans hd) (hbel.trans k5)
theorem compOps_take {P : Program} {E : Env0} {ops : Array Oper} : ∀ {l : List Oper} {os : List AOper}, compOps P E ops l = some os → ∀ n, compOps P E ops (l.take n) = some (os.take n)
  | [], os, h, n => by simp only [compOps] at h; cases h; simp [compOps]
  | o :: l, os, h, 0 => by simp [compOps]
  | o :: l, os, h, n + 1 => by
    simp only [compOps, Option.bind_eq_some_iff, Option.map_eq_some_iff] at h
    obtain ⟨x, h1, os', h2, rfl⟩ := h
    simp only [List.take_succ_cons, compOps, h1, Option.bind_some, compOps_take h2 n, Option.map_some]
theorem compOps_drop {P : Program} {E : Env0} {ops : Array Oper} : ∀ {l : List Oper} {os : List AOper}, compOps P E ops l = some os → ∀ n, compOps P E ops (l.drop n) = some (os.drop n)
  | [], os, h, n => by simp only [compOps] at h; cases h; simp [compOps]
  | o :: l, os, h, 0 => h
  | o :: l, os, h, n + 1 => by
    simp only [compOps, Option.bind_eq_some_iff, Option.map_eq_some_iff] at h
    obtain ⟨x, h1, os', h2, rfl⟩ := h
    simpa using compOps_drop h2 n
theorem lastB_size {ops : Array Oper} (h : lastB ops = true) : ops.size ≠ 0 := by
  simp only [lastB, Bool.and_eq_true] at h
  have := (depB_spec h.2.1).1
  omega
theorem wpOp_of_list {P : Program} {ops : Array Oper} {Q : Exit → Act → World → Prop} {a : Act} {w : World} (hs : ops.size ≠ 0) (h : wpList P ops Q (ops.toList.drop (ops.size - 1)) a w) : wpOp P ops Q (ops.size - 1) (fun a' w' => Q .normal a' w') a w := by
  have hlt : ops.size - 1 < ops.size := by omega
  have hd : ops.toList.drop (ops.size - 1) = [ops[ops.size - 1]] := by
    rw [List.drop_eq_getElem_cons (by simpa using hlt)]
    simp
    omega
  rw [hd] at h
  unfold wpOp
  rw [Array.getElem?_eq_getElem hlt]
  exact h
theorem code_sound (hm : P.follows .mixedOrders = true) (hC : ClOK P E.gl C) (n : Nat) : ∀ (c : Code) (l : List (List Nat × Bool)) (ac : AC) (l' : List (List Nat × Bool)), compC P E c l = some (ac, l') → CodeOK P E B c (aexec C n ac)
  | .skip, l, ac, l', hc => by
    simp only [compC] at hc
    cases hc
    intro e h x e' h' hx S a W Q r he hg hq
    simp only [aexec] at hx
    cases hx
    exact wp_skip (hq S a W (Ext.refl S) r he rfl (Below.refl B W))
  | .label _, l, ac, l', hc => by
    simp only [compC] at hc
    cases hc
    intro e h x e' h' hx S a W Q r he hg hq
    simp only [aexec] at hx
    cases hx
    exact wp_label (hq S a W (Ext.refl S) r he rfl (Below.refl B W))
  | .region id ops draw, l, ac, l', hc => by
    simp only [compC, Option.bind_eq_some_iff] at hc
    obtain ⟨os, h1, hc⟩ := hc
    split at hc
    · rename_i hdraw
      split at hc
      · rename_i hlex
        cases hc
        subst hdraw
        intro e h x e' h' hx S a W Q r he hg hq
        simp only [aexec, Option.map_eq_some_iff] at hx
        obtain ⟨e1, hx, hh⟩ := hx
        cases hh
        refine wp_region_quiet (C := fun W' => Below W.heap.size W W') hm hlex.2.1 ((Below.refl _ W).drew) ?_
        exact opsQ_sound hC r hg h1 hx he fun a' k1 k2 w' hw' => hq S a' w' (Ext.refl S) (r.world hw') k1 k2 (hw'.mono r.base)
      · split at hc
        · rename_i hlast
          cases hc
          subst hdraw
          intro e h x e' h' hx S a W Q r he hg hq
          simp only [aexec, Option.bind_eq_some_iff, Option.map_eq_some_iff, Prod.exists] at hx
          obtain ⟨x1, e1, h2, ⟨e0, hx1, hh⟩, hx2⟩ := hx
          cases hh
          simp only [Option.map_eq_some_iff, Prod.exists] at hx2
          obtain ⟨e3, h3, hx2, hh⟩ := hx2
          cases hh
          refine wp_region_last (C := fun W' => Below W.heap.size W W') hm hlast.1 ((Below.refl _ W).drew) ?_
          refine opsQ_sound hC r hg (compOps_take h1 _) hx1 he fun a' k1 k2 w' hw' => ?_
          refine wpOp_of_list (lastB_size hlast.1) ?_
          exact ops_sound hC (compOps_drop h1 _) hx2 (r.world hw') k1 hg fun S' a2 W2 g1 g2 g3 g4 g5 => hq S' a2 W2 g1 g2 g3 (g4.trans k2) ((hw'.mono r.base).trans g5)
        · split at hc
          · rename_i hok
            cases hc
            subst hdraw
            intro e h x e' h' hx S a W Q r he hg hq
            simp only [aexec, Option.bind_eq_some_iff, Prod.exists] at hx
            obtain ⟨e1, h2, hs, hx1, hx2⟩ := hx
            split at hx2
            · rename_i hchk
              cases hx2
              exact regD_sound hm hC hok h1 hx1 hchk r he hg fun S' a' W' k1 k2 k3 k4 k5 => hq S' a' W' k1 k2 k3 k4 k5
            · cases hx2
          · cases hc
            intro e h x e' h' hx S a W Q r he hg hq
            simp [aexec, aops, wantE, aop] at hx
    · rename_i hdraw
      cases hc
      intro e h x e' h' hx S a W Q r he hg hq
      simp only [aexec, Option.map_eq_some_iff, Prod.exists] at hx
      obtain ⟨e1, h2, hx, hh⟩ := hx
      cases hh
      have : draw = false := by simpa using hdraw
      subst this
      exact wp_region_list (ops_sound hC h1 hx r he hg fun S' a' W' k1 k2 k3 k4 k5 => hq S' a' W' k1 k2 k3 k4 k5)
  | .seq p q, l, ac, l', hc => by
    simp only [compC, Option.bind_eq_some_iff, Option.map_eq_some_iff, Prod.exists] at hc
    obtain ⟨p', l1, h1, q', l2, h2, hh⟩ := hc
    cases hh
    intro e h x e' h' hx S a W Q r he hg hq
    simp only [aexec, Option.bind_eq_some_iff, Prod.exists] at hx
    obtain ⟨x1, e1, hp1, hx1, hx2⟩ := hx
    refine wp_seq (code_sound hm hC n p l p' l1 h1 e h x1 e1 hp1 hx1 S a W _ r he hg fun S1 a1 W1 k1 k2 k3 k4 k5 => ?_)
    cases x1 with
    | normal => exact code_sound hm hC n q l1 q' _ h2 e1 hp1 x e' h' hx2 S1 a1 W1 Q k2 k3 (hg.mono k1) fun S2 a2 W2 g1 g2 g3 g4 g5 => hq S2 a2 W2 (k1.trans g1) g2 g3 (g4.trans k4) (k5.trans g5)
    | exit id => simp only at hx2; cases hx2; exact hq S1 a1 W1 k1 k2 k3 k4 k5
    | ret => simp only at hx2; cases hx2; exact hq S1 a1 W1 k1 k2 k3 k4 k5
  | .cond o p q, l, ac, l', hc => by
    simp only [compC, Option.bind_eq_some_iff, Option.map_eq_some_iff, Prod.exists] at hc
    obtain ⟨o', h0, p', l1, h1, q', l2, h2, hh⟩ := hc
    cases hh
    intro e h x e' h' hx S a W Q r he hg hq
    simp only [aexec] at hx
    split at hx
    · rename_i hb
      exact wp_cond_true (eval_sc (evO_V he hg h0) hb) (code_sound hm hC n p l p' l1 h1 e h x e' h' hx S a W Q r he hg hq)
    · rename_i hb
      exact wp_cond_false (eval_sc (evO_V he hg h0) hb) (code_sound hm hC n q l1 q' _ h2 e h x e' h' hx S a W Q r he hg hq)
    · cases hx
  | .block id p, l, ac, l', hc => by
    simp only [compC, Option.map_eq_some_iff, Prod.exists] at hc
    obtain ⟨p', l1, h1, hh⟩ := hc
    cases hh
    intro e h x e' h' hx S a W Q r he hg hq
    simp only [aexec, Option.map_eq_some_iff, Prod.exists] at hx
    obtain ⟨x1, e1, h2, hx, hh⟩ := hx
    cases hh
    refine wp_block (code_sound hm hC n p l p' _ h1 e h x1 e' h' hx S a W _ r he hg fun S1 a1 W1 k1 k2 k3 k4 k5 => ?_)
    have := hq S1 a1 W1 k1 k2 k3 k4 k5
    cases x1 with
    | normal => exact this
    | ret => exact this
    | exit i =>
      simp only [exitOf, Exit.inBlock]
      simp only [outOf] at this
      split
      · rename_i hi; rw [if_pos hi] at this; exact this
      · rename_i hi; rw [if_neg hi] at this; exact this
  | .loop p, l, ac, l', hc => by
    simp only [compC] at hc
    split at hc
    · cases hc
    · rename_i keep gc l1
      simp only [Option.map_eq_some_iff, Prod.exists] at hc
      obtain ⟨p', l2, h1, hh⟩ := hc
      cases hh
      intro e h x e' h' hx S a W Q r he hg hq
      simp only [aexec] at hx
      exact wp_loop_rounds n (loop_sound (code_sound hm hC n p l1 p' _ h1) (S0 := S) (W0 := W) (d0 := a.defers) (fun i v hi => r.new i v hi) hq n e h S a W hx r he hg (Ext.refl S) rfl (Below.refl B W))
  | .exit id, l, ac, l', hc => by
    simp only [compC] at hc
    cases hc
    intro e h x e' h' hx S a W Q r he hg hq
    simp only [aexec] at hx
    cases hx
    exact wp_exit (hq S a W (Ext.refl S) r he rfl (Below.refl B W))
  | .scope p, l, ac, l', hc => by
    simp only [compC, Option.map_eq_some_iff, Prod.exists] at hc
    obtain ⟨p', l1, h1, hh⟩ := hc
    cases hh
    intro e h x e' h' hx S a W Q r he hg hq
    simp only [aexec] at hx
    refine wp_scope_straight (code_sound hm hC n p l p' _ h1 e h x e' h' hx S a W _ r he hg fun S1 a1 W1 k1 k2 k3 k4 k5 => ?_)
    have := hq S1 a1 W1 k1 k2 k3 k4 k5
    cases x <;> exact this
  | .ret, l, ac, l', hc => by
    simp only [compC] at hc
    cases hc
    intro e h x e' h' hx S a W Q r he hg hq
    simp only [aexec] at hx
    cases hx
    exact wp_ret (hq S a W (Ext.refl S) r he rfl (Below.refl B W))
  | .rangeFunc .., l, ac, l', hc => by simp [compC] at hc
  | .goto _, l, ac, l', hc => by simp [compC] at hc
  | .refuse _, l, ac, l', hc => by simp [compC] at hc
/-! ### functions -/
def resFn (tmps : Array Value) : ResultVar → Sem Value
  | .tmp t => pure (tmps.getD t Go.undef)
  | .cell p t => do loadVar t (← asAddr (tmps.getD p Go.undef))
theorem results_eq (fn : Func) (tmps : Array Value) : results fn tmps = (fn.results.mapM (resFn tmps)) >>= fun vs => pure (if h : vs.size = 1 then vs[0] else .tuple vs) := by
  unfold results
  congr 1
theorem run_results {S : St} {h : Heap} {W : World} {e : Env} {a : Act} {nt : Nat} (r : Rel S h B W) (he : EnvR S e a nt) : ∀ {rs : List ResultVar} {rs' : List ARes} {l : List AV}, compR P rs = some rs' → resOf e h rs' = some l →
    ∃ us : List Value, (rs.mapM (resFn a.tmps)).run P W = .ok us W ∧ VL S l us
  | [], rs', l, hc, hr => by
    simp only [compR] at hc
    cases hc
    simp only [resOf] at hr
    cases hr
    exact ⟨[], rfl, by simp [VL]⟩
  | .tmp t :: rs, rs', l, hc, hr => by
    simp only [compR, Option.map_eq_some_iff] at hc
    obtain ⟨rs1, h1, rfl⟩ := hc
    simp only [resOf, Option.map_eq_some_iff] at hr
    obtain ⟨l1, h2, rfl⟩ := hr
    obtain ⟨us, g1, g2⟩ := run_results r he h1 h2
    refine ⟨a.tmps.getD t Go.undef :: us, ?_, by simp only [VL]; exact ⟨_, _, rfl, he.get t, g2⟩⟩
    rw [List.mapM_cons]
    simp only [Sem.run_bind, resFn, Sem.run_pure, Result.andThen_ok]
    rw [show (rs.mapM (resFn a.tmps)).run P W = .ok us W from g1]
    rfl
  | .cell p t :: rs, rs', l, hc, hr => by
    simp only [compR, Option.bind_eq_some_iff, Option.map_eq_some_iff] at hc
    obtain ⟨k, hk, rs1, h1, rfl⟩ := hc
    simp only [resOf, Option.bind_eq_some_iff, Option.map_eq_some_iff] at hr
    obtain ⟨v, ⟨cs, hd, hl⟩, l1, h2, rfl⟩ := hr
    obtain ⟨us, g1, g2⟩ := run_results r he h1 h2
    obtain ⟨b, o', q1, q2⟩ := deref_ok r (he.get p) hd
    obtain ⟨u, w1, w2⟩ := run_ld (P := P) hk q2 hl
    refine ⟨u :: us, ?_, by simp only [VL]; exact ⟨_, _, rfl, w2, g2⟩⟩
    have hf : (resFn a.tmps (.cell p t)).run P W = .ok u W := by
      simp only [resFn, Sem.run_bind, q1]
      rw [show (asAddr (.pointer (some ⟨b, o', none⟩))).run P W = .ok ⟨b, o', none⟩ W from rfl]
      exact w1
    rw [List.mapM_cons]
    simp only [Sem.run_bind, hf, Result.andThen_ok]
    rw [show (rs.mapM (resFn a.tmps)).run P W = .ok us W from g1]
    rfl
theorem tupOf_V {S : St} {l : List AV} {us : List Value} (h : VL S l us) : V S (tupOf l) (if h : us.toArray.size = 1 then us.toArray[0] else .tuple us.toArray) := by
  have hl := h.length
  unfold tupOf
  split
  · rename_i x
    simp only [VL] at h
    obtain ⟨u, ws, rfl, h1, rfl⟩ := h
    simpa using h1
  · rename_i hn
    rw [dif_neg (by
      simp only [List.size_toArray]
      intro h1
      rw [hl] at h1
      match l, h1 with
      | [x], _ => exact hn x rfl)]
    simp only [V]
    exact ⟨_, rfl, by simpa using h⟩
theorem initE_get : ∀ (args : List AV) (i t : Nat), getE (initE i args) t = if i ≤ t then (args[t - i]?).getD .unk else .unk
  | [], i, t => by simp [initE, getE]
  | x :: xs, i, t => by
    simp only [initE, getE]
    by_cases h : i = t
    · subst h; simp
    · rw [if_neg h, initE_get xs (i + 1) t]
      by_cases h2 : i + 1 ≤ t
      · rw [if_pos h2, if_pos (by omega)]
        obtain ⟨d, rfl⟩ := Nat.exists_eq_add_of_le h2
        rw [show i + 1 + d - (i + 1) = d by omega, show i + 1 + d - i = d + 1 by omega]
        simp
      · rw [if_neg h2, if_neg (by omega)]
theorem initE_R {S : St} {args : List AV} {cargs : Array Value} (hv : VL S args cargs.toList) {nt : Nat} (hn : args.length ≤ nt) : EnvR S (initE 0 args) { tmps := cargs ++ Array.replicate (nt - cargs.size) Go.undef, defers := [] } nt := by
  have hl := hv.length
  simp only [Array.length_toList] at hl
  refine ⟨by simp; omega, fun t => ?_⟩
  rw [initE_get]
  simp only [Nat.zero_le, if_true, Nat.sub_zero]
  cases hx : args[t]? with
  | none => simp only [Option.getD_none, V]
  | some x =>
    obtain ⟨u, g1, g2⟩ := hv.get hx
    have hlt : t < cargs.size := by have := (List.getElem?_eq_some_iff.1 g1).1; simpa using this
    have : (cargs ++ Array.replicate (nt - cargs.size) Go.undef).getD t Go.undef = u := by
      rw [Array.getD_eq_getD_getElem?, Array.getElem?_append_left hlt]
      have : cargs[t]? = some u := by simpa using g1
      rw [this]; rfl
    rw [this]
    exact g2
/-- a function's text -/
structure FnOK (P : Program) (gl : Nat → Option (List Value)) (f : Nat) (F : AFn) : Prop where
  ok : ∃ fn pure accs keeps, P.funcs[f]? = some fn ∧ compF P gl pure accs keeps fn = some F
theorem FnOK.callable {gl : Nat → Option (List Value)} {f : Nat} {F : AFn} (h : FnOK P gl f F) : Callable P f := by
  obtain ⟨fn, pure, accs, keeps, h1, h2⟩ := h.ok
  simp only [compF, Option.bind_eq_some_iff, Prod.exists] at h2
  obtain ⟨c, hb, b, l, h3, rs, h4, h5⟩ := h2
  split at h5
  · cases h5
  · rename_i hne
    exact ⟨fn, h1, by simpa using hne, by rw [hb]; rfl⟩
/-- a run of a function's text -/
theorem run_fn {gl : Nat → Option (List Value)} (hm : P.follows .mixedOrders = true) (hC : ClOK P gl C) {f : Nat} {F : AFn} (hF : FnOK P gl f F) {n : Nat} {args : List AV} {h h' : Heap} {v : AV} (hlen : args.length = F.np) (hx : (aexec C n F.body (initE 0 args) h).bind (finish F) = some (v, h')) {S : St} {W : World} {cargs : Array Value} (r : Rel S h B W) (hv : VL S args cargs.toList) (hg : GlobOK gl S.imm) :
    Calls P f cargs W (GPost S h' v B W) := by
  obtain ⟨fn, pure, accs, keeps, h1, h2⟩ := hF.ok
  simp only [compF, Option.bind_eq_some_iff, Prod.exists] at h2
  obtain ⟨c, hb, b, l, h3, rs, h4, h5⟩ := h2
  split at h5
  · cases h5
  rename_i hne
  split at h5
  · rename_i hnp
    cases h5
    simp only at hlen hx
    simp only [Option.bind_eq_some_iff, Prod.exists] at hx
    obtain ⟨x, e', h'', hx1, hx2⟩ := hx
    refine calls_of_wp h1 hb ?_
    refine code_sound (B := B) hm (E := ⟨gl, fn.ntmps, accs⟩) hC n c keeps b l h3 _ _ _ _ _ hx1 S _ W _ r (initE_R hv (by omega)) hg fun S' a' W' k1 k2 k3 k4 k5 => ?_
    have hfin : ∀ (y : AX), y ≠ .exit 0 → True := fun _ _ => trivial
    simp only [finish] at hx2
    have main : (resOf e' h'' rs).map (fun l => (tupOf l, h'')) = some (v, h') → a'.defers = [] ∧ ∃ u, (results fn a'.tmps).run P W' = .ok u W' ∧ GPost S h' v B W (.returned u) W' := by
      intro hx2
      simp only [Option.map_eq_some_iff] at hx2
      obtain ⟨l2, hl2, hh⟩ := hx2
      cases hh
      obtain ⟨us, g1, g2⟩ := run_results (P := P) k2 k3 h4 hl2
      refine ⟨k4, _, ?_, _, S', rfl, k1, k2, tupOf_V g2, k5⟩
      rw [results_eq, Array.mapM_eq_mapM_toList]
      simp only [Sem.run_bind, Sem.run_map, g1, Result.andThen_ok, Sem.run_pure]
    cases x with
    | normal => exact main hx2
    | ret => exact main hx2
    | exit id => cases hx2
  · cases h5
end
end Go.Proofs.Ytpnkldjbiinnpaa.AM
