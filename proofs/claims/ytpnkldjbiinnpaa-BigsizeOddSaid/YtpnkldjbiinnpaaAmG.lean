import Derived.Test.YtpnkldjbiinnpaaAmF
/- A region that draws its order: all orders come to what the plain machine says. -/
namespace Go.Proofs.Ytpnkldjbiinnpaa.AM
open Go Go.RowKit
set_option linter.unusedVariables false
set_option linter.unusedSimpArgs false
section
variable {P : Program} {E : Env0} {C : Cl} {B : Nat} {ops : Array Oper} {os : List AOper} {st : List (Nat × Nat)} {e e' : Env} {h h' : Heap} {hs : List Heap}
theorem compOps_get : ∀ {l : List Oper} {os : List AOper}, compOps P E ops l = some os → ∀ {i : Nat} {o : Oper}, l[i]? = some o → ∃ x, os[i]? = some x ∧ compOper P E ops o = some x
  | [], os, hc, i, o, ho => by simp at ho
  | p :: l, os, hc, i, o, ho => by
    simp only [compOps, Option.bind_eq_some_iff, Option.map_eq_some_iff] at hc
    obtain ⟨x, h1, os', h2, rfl⟩ := hc
    cases i with
    | zero =>
      simp only [List.getElem?_cons_zero, Option.some.injEq] at ho
      subst ho
      exact ⟨x, rfl, h1⟩
    | succ i => simpa using compOps_get h2 (by simpa using ho)
theorem effN_at {ups : List (List Nat)} (ku : OkU ops os ups st) {listed : Array Bool} (hd : Down .any ops listed) {i : Nat} (hi : i < ops.size) (hu : lst listed i = false) (ha : ∀ j ∈ afters .any ops i, listed.getD j false = true) (he : effAt os i = true) : effN os ops.size listed = cnt os i := by
  refine countP_split (Nat.le_of_lt hi) (fun j hj => ?_) (fun j hj hjn => ?_)
  · cases hej : effAt os j with
    | false => rfl
    | true =>
      rw [Bool.true_and]
      exact upB_listed hd ha j (ku.eff i hi he j hj hej)
  · cases hej : effAt os j with
    | false => rfl
    | true =>
      rw [Bool.true_and]
      by_cases hij : j = i
      · rw [hij]; exact hu
      · cases hl : lst listed j with
        | false => rfl
        | true =>
          exfalso
          have := upB_listed hd (afters_listed hd (show listed.getD j false = true from hl)) i (ku.eff j hjn hej i (by omega) he)
          rw [hu] at this
          cases this
theorem effN_range {ups : List (List Nat)} (ku : OkU ops os ups st) {listed : Array Bool} (hd : Down .any ops listed) {i lo hi : Nat} (hin : i < ops.size) (hu : lst listed i = false) (ha : ∀ j ∈ afters .any ops i, listed.getD j false = true) (hst : st[i]? = some (lo, hi)) (hq : effAt os i = false) : lo ≤ effN os ops.size listed ∧ effN os ops.size listed ≤ hi := by
  have hups : ∀ j, j < ops.size → ups.getD j [] = upB ops j := fun j hj => by
    rw [ku.upsE, List.getD_eq_getElem?_getD, List.getElem?_map, List.getElem?_range hj]; rfl
  have hs : stOf ups os ops.size i = (lo, hi) := by
    have := ku.st
    rw [this, List.getElem?_map, List.getElem?_range hin] at hst
    simpa using hst
  simp only [stOf, Prod.mk.injEq] at hs
  obtain ⟨rfl, rfl⟩ := hs
  constructor
  · refine countP_le fun j hj hp => ?_
    simp only [Bool.and_eq_true, List.contains_iff_mem] at hp ⊢
    rw [hups i hin] at hp
    exact ⟨hp.1, upB_listed hd ha j hp.2⟩
  · refine countP_le fun j hj hp => ?_
    simp only [Bool.and_eq_true] at hp
    have hji : j ≠ i := by rintro rfl; rw [hq] at hp; cases hp.1
    have hn : (ups.getD j []).contains i = false := by
      cases hc : (ups.getD j []).contains i with
      | false => rfl
      | true =>
        exfalso
        rw [List.contains_iff_mem, hups j hj] at hc
        have := upB_listed hd (afters_listed hd (show listed.getD j false = true from hp.2)) i hc
        rw [hu] at this
        cases this
    simp only [hp.1, hn, Bool.not_false, Bool.true_and, bne_iff_ne, ne_eq]
    exact hji
theorem regD_wp (hC : ClOK P E.gl C) {ups : List (List Nat)} (ku : OkU ops os ups st) (hcomp : compOps P E ops ops.toList = some os) (hr : RunC C os e e' h h' hs 0) (hchk : chkD C e' hs e os st = true) {a0 : Act} {W0 : World} {S0 : St} (hg : GlobOK E.gl S0.imm) {Q : Exit → Act → World → Prop} (hq : ∀ S' a' W', Ext S0 S' → Rel S' h' B W' → EnvR S' e' a' E.nt → a'.defers = a0.defers → Below B W0 W' → Q .normal a' W') :
    ∀ (fuel : Nat) (listed : Array Bool) (a : Act) (W : World) (S : St) (eL : Env) (hk : Heap), todo ops.size listed ≤ fuel → listed.size = ops.size → Down .any ops listed → Ext S0 S → hs[effN os ops.size listed]? = some hk → Rel S hk B W → EnvR S eL a E.nt →
      (∀ t, (∃ i, i < ops.size ∧ lst listed i = true ∧ dstAt os i = some t) → getE eL t = getE e' t) → (∀ t, (¬ ∃ i, i < ops.size ∧ lst listed i = true ∧ dstAt os i = some t) → getE eL t = getE e t) → a.defers = a0.defers → Below B W0 W → wpAny P .any ops Q fuel listed a W := by
  have done : ∀ (listed : Array Bool) (a : Act) (W : World) (S : St) (eL : Env) (hk : Heap), listed.size = ops.size → Ext S0 S → hs[effN os ops.size listed]? = some hk → Rel S hk B W → EnvR S eL a E.nt →
      (∀ t, (∃ i, i < ops.size ∧ lst listed i = true ∧ dstAt os i = some t) → getE eL t = getE e' t) → (∀ t, (¬ ∃ i, i < ops.size ∧ lst listed i = true ∧ dstAt os i = some t) → getE eL t = getE e t) → a.defers = a0.defers → Below B W0 W → (∀ i, i < ops.size → lst listed i = true) → Q .normal a W := by
    intro listed a W S eL hk hsz hx hkk r he ht1 ht2 hdef hbel hall
    have hc : effN os ops.size listed = cnt os os.length := by
      rw [ku.len]
      exact List.countP_congr fun j hj => by rw [hall j (by simpa using hj), Bool.and_true]
    rw [hc] at hkk
    have hl := hr.last
    rw [Nat.zero_add, hkk] at hl
    cases hl
    refine hq S a W hx r ⟨he.size, fun t => ?_⟩ hdef hbel
    have key : getE e' t = getE eL t := by
      by_cases hh : ∃ i, i < ops.size ∧ lst listed i = true ∧ dstAt os i = some t
      · exact (ht1 t hh).symm
      · rw [ht2 t hh]
        refine hr.frame t fun hm => ?_
        obtain ⟨i, _, h2, h3⟩ := mem_dstsOf (n := 0) (by simpa using hm)
        exact hh ⟨i, by rw [← ku.len]; exact h2, hall i (by rw [← ku.len]; exact h2), h3⟩
    rw [key]
    exact he.get t
  have none_ready : ∀ (listed : Array Bool), listed.size = ops.size → (∀ i, i < ops.size → lst listed i = true) → Region.ready .any ops listed = [] := by
    intro listed hsz hall
    apply List.eq_nil_iff_forall_not_mem.2
    intro k hk
    obtain ⟨h1, o, h2, _⟩ := mem_ready.1 hk
    have hk : k < ops.size := (Array.getElem?_eq_some_iff.1 h2).1
    have := hall k hk
    unfold lst at this
    rw [getD_tf (by omega) false true, h1] at this
    cases this
  intro fuel
  induction fuel with
  | zero =>
    intro listed a W S eL hk hf hsz hd hx hkk r he ht1 ht2 hdef hbel
    have hall : ∀ i, i < ops.size → lst listed i = true := fun i hi => by
      cases hl : lst listed i with
      | true => rfl
      | false =>
        have : 0 < todo ops.size listed := List.countP_pos_iff.2 ⟨i, by simpa using hi, by simp [hl]⟩
        omega
    exact ⟨none_ready listed hsz hall, done listed a W S eL hk hsz hx hkk r he ht1 ht2 hdef hbel hall⟩
  | succ fuel ih =>
    intro listed a W S eL hk hf hsz hd hx hkk r he ht1 ht2 hdef hbel
    refine ⟨fun hn => done listed a W S eL hk hsz hx hkk r he ht1 ht2 hdef hbel fun i hi => all_done ku hsz hn (i + 1) i (by omega) hi, fun i hi => ?_⟩
    obtain ⟨hu0, hafters⟩ := ready_afters hi
    obtain ⟨_, o, hoi, _⟩ := mem_ready.1 hi
    have hin : i < ops.size := (Array.getElem?_eq_some_iff.1 hoi).1
    have hu : lst listed i = false := by unfold lst; rw [getD_tf (by omega) false true]; exact hu0
    obtain ⟨x, hxi, hcx⟩ := compOps_get hcomp (i := i) (o := o) (by simpa using hoi)
    obtain ⟨d1, d2, d3, d4⟩ := comp_dst hcx
    obtain ⟨ei, w, v, hcert⟩ := cert_of ku hr hxi
    -- its slots are as in its place in the text
    have only : ∀ (j k : Nat) (t : Nat), j < ops.size → k < ops.size → dstAt os j = some t → dstAt os k = some t → j = k := fun j k t hj hk h1 h2 => by
      rcases Nat.lt_trichotomy j k with h | h | h
      · exact absurd h1 (ku.dst k hk j h t h2)
      · exact h
      · exact absurd h2 (ku.dst j hj k h t h1)
    have low : ∀ t, t ∈ erT x → getE eL t = getE ei t := by
      intro t ht
      have late : ∀ j, j < ops.size → dstAt os j = some t → lst listed j = false → i ≤ j → getE eL t = getE ei t := by
        intro j hj hjd hlj hij
        rw [ht2 t fun ⟨k, hk, hlk, hkd⟩ => by
          have := only j k t hj hk hjd hkd
          subst this
          rw [hlj] at hlk
          cases hlk]
        refine (hcert.mid.not t fun hh => ?_).symm
        obtain ⟨k, hk1, hk2, hk3⟩ := mem_dstsOf_take.1 hh
        have := only j k t hj (by rw [← ku.len]; exact hk2) hjd hk3
        omega
      by_cases hh : ∃ j, j < ops.size ∧ dstAt os j = some t
      · obtain ⟨j, hj, hjd⟩ := hh
        rcases ku.tmp i hin t (by simpa [erTAt, hxi] using ht) j hj hjd with h | h | h
        · rw [ht1 t ⟨j, hj, upB_listed hd hafters j h, hjd⟩]
          exact (hcert.mid.done t (mem_dstsOf_take.2 ⟨j, ku.up i hin j h, by rw [ku.len]; exact hj, hjd⟩)).symm
        · refine late j hj hjd ?_ (Nat.le_of_lt (ku.up j hj i h))
          cases hl : lst listed j with
          | false => rfl
          | true =>
            exfalso
            have := upB_listed hd (afters_listed hd (show listed.getD j false = true from hl)) i h
            rw [hu] at this
            cases this
        · subst h
          exact late j hj hjd hu (Nat.le_refl _)
      · rw [ht2 t fun ⟨j, hj, _, hjd⟩ => hh ⟨j, hj, hjd⟩]
        refine (hcert.mid.not t fun hm => ?_).symm
        obtain ⟨j, _, h2, h3⟩ := mem_dstsOf_take.1 hm
        exact hh ⟨j, by rw [← ku.len]; exact h2, h3⟩
    have hw : wantE x.guard eL = some w := by
      rw [← hcert.want]
      exact wantE_congr fun t b hgd => low t (by simp [erT, hgd])
    have hop : ∀ hh, aop C x.op eL hh = aop C x.op ei hh := fun hh => aop_congr fun t ht => low t (by simp [erT, ht])
    have heffx : effAt os i = effB x.op := by simp [effAt, hxi]
    have hdst : dstAt os i = o.dst := by simp [dstAt, hxi, d3]
    have hcount := effN_set (os := os) hin hsz hu
    have htodo := todo_set hin hsz hu
    -- what is held behind it
    have after : ∀ (v' : AV) (ha : Heap), (∀ d, o.dst = some d → getE e' d = v') → hs[effN os ops.size (listed.setIfInBounds i true)]? = some ha → ∀ (S' : St) (u : Value) (W' : World), Ext S S' → Rel S' ha B W' → V S' v' u → Below B W W' → wpAny P .any ops Q fuel (listed.setIfInBounds i true) (a.put o.dst u) W' := by
      intro v' ha hdv hha S' u W' k1 k2 k3 k4
      refine ih _ _ W' S' (setE eL o.dst v') ha (by omega) (by simpa using hsz) (hd.set hi) (hx.trans k1) hha k2 ((he.mono k1).put d4 k3) (fun t hh => ?_) (fun t hh => ?_) ((by cases o.dst <;> rfl : (a.put o.dst u).defers = a.defers).trans hdef) (hbel.trans k4)
      · by_cases hto : o.dst = some t
        · rw [hto]; simp only [setE, getE, if_true]; exact (hdv t hto).symm
        · rw [getE_setE_ne fun y hy hh => hto (by rw [hy, hh])]
          obtain ⟨j, hj, hlj, hjd⟩ := hh
          rw [lst_set (show i < listed.size by omega)] at hlj
          refine ht1 t ⟨j, hj, ?_, hjd⟩
          by_cases hij : i = j
          · subst hij; rw [hdst] at hjd; exact absurd hjd hto
          · simpa [hij] using hlj
      · have hto : o.dst ≠ some t := fun hto => hh ⟨i, hin, by rw [lst_set (show i < listed.size by omega)]; simp, by rw [hdst]; exact hto⟩
        rw [getE_setE_ne fun y hy hh => hto (by rw [hy, hh])]
        refine ht2 t fun ⟨j, hj, hlj, hjd⟩ => hh ⟨j, hj, ?_, hjd⟩
        rw [lst_set (show i < listed.size by omega), hlj]; rfl
    have hgS : GlobOK E.gl S.imm := hg.mono hx
    have hwant := want_ok d2 he hw
    unfold wpOp
    rw [hoi]
    simp only
    have hdv : ∀ d, o.dst = some d → getE e' d = v := fun d hd => hcert.dst d (by rw [d3]; exact hd)
    cases w with
    | false =>
      rw [if_neg (by rw [hwant]; simp)]
      obtain ⟨hv, hoff⟩ := hcert.off rfl
      refine after v hk hdv ?_ S Go.undef W (Ext.refl S) r (by rw [hv]; exact V_sc _) (Below.refl B W)
      rw [hcount, heffx]
      cases he2 : effB x.op with
      | false => simpa using hkk
      | true =>
        have h1 := effN_at ku hd hin hu hafters (by rw [heffx]; exact he2)
        have h2 := hoff he2
        rw [cnt_succ, heffx, he2] at h2
        rw [h1] at hkk ⊢
        rw [h2]
        exact hkk
    | true =>
      rw [if_pos hwant]
      cases he2 : effB x.op with
      | true =>
        obtain ⟨hb, ha, q1, q2, q3⟩ := hcert.eff rfl he2
        have h1 := effN_at ku hd hin hu hafters (by rw [heffx]; exact he2)
        rw [h1, q1] at hkk
        cases hkk
        rw [← hop] at q3
        refine .inl (step_sound hC (not_stuck d1 q3) q3 r he hgS fun S' u W' k1 k2 k3 k4 => after v ha hdv ?_ S' u W' k1 k2 k3 k4)
        rw [hcount, heffx, he2, h1]
        rw [cnt_succ, heffx, he2] at q2
        exact q2
      | false =>
        obtain ⟨hb, q1, q2⟩ := hcert.qui rfl he2
        have hst : ∃ lo hi', st[i]? = some (lo, hi') := by
          rw [ku.st, List.getElem?_map, List.getElem?_range hin]
          exact ⟨_, _, rfl⟩
        obtain ⟨lo, hi', hst⟩ := hst
        obtain ⟨r1, r2⟩ := effN_range ku hd hin hu hafters hst (by rw [heffx]; exact he2)
        -- its value there
        have hval : ∃ v', aop C x.op ei hk = some (v', hk) ∧ ∀ d, o.dst = some d → getE e' d = v' := by
          by_cases hre : reB x.op = true
          · by_cases hlt : lo < hi'
            · obtain ⟨fi, hmid, hrest⟩ := chkD_spec hchk i x lo hi' hxi hst
              have same := hmid.same hcert.mid
              obtain ⟨v', h1, g1, g2⟩ := hrest hre hlt (by rw [wantE_congr fun t b _ => same t]; exact hcert.want) _ hk r1 r2 hkk
              rw [aop_congr fun t _ => same t] at g1
              have := quiet_same he2 g1
              subst this
              exact ⟨v', g1, fun d hd => (g2 d (by rw [d3]; exact hd)).symm⟩
            · -- there is but one number of changes
              have hc : effN os ops.size listed = cnt os i := by
                have l1 : lo ≤ cnt os i := by
                  have hs' : stOf ups os ops.size i = (lo, hi') := by
                    have := ku.st
                    rw [this, List.getElem?_map, List.getElem?_range hin] at hst
                    simpa using hst
                  simp only [stOf, Prod.mk.injEq] at hs'
                  unfold cnt
                  rw [← hs'.1, ← countP_split (p := fun j => effAt os j && decide (j < i)) (q := effAt os) (n := ops.size) (Nat.le_of_lt hin) (fun j hj => by simp [hj]) (fun j hj _ => by simp; intro _; omega)]
                  refine countP_le fun j hj hp => ?_
                  simp only [Bool.and_eq_true, List.contains_iff_mem, decide_eq_true_eq] at hp ⊢
                  refine ⟨hp.1, ku.up i hin j ?_⟩
                  have hups : ups.getD i [] = upB ops i := by rw [ku.upsE, List.getD_eq_getElem?_getD, List.getElem?_map, List.getElem?_range hin]; rfl
                  rw [← hups]; exact hp.2
                have l2 : cnt os i ≤ hi' := by
                  have hs' : stOf ups os ops.size i = (lo, hi') := by
                    have := ku.st
                    rw [this, List.getElem?_map, List.getElem?_range hin] at hst
                    simpa using hst
                  simp only [stOf, Prod.mk.injEq] at hs'
                  unfold cnt
                  rw [← hs'.2, ← countP_split (p := fun j => effAt os j && decide (j < i)) (q := effAt os) (n := ops.size) (Nat.le_of_lt hin) (fun j hj => by simp [hj]) (fun j hj _ => by simp; intro _; omega)]
                  refine countP_le fun j hj hp => ?_
                  simp only [Bool.and_eq_true, decide_eq_true_eq, Bool.not_eq_true', bne_iff_ne, ne_eq] at hp ⊢
                  have hups : ups.getD j [] = upB ops j := by rw [ku.upsE, List.getD_eq_getElem?_getD, List.getElem?_map, List.getElem?_range hj]; rfl
                  refine ⟨⟨hp.1, ?_⟩, by omega⟩
                  cases hcc : (ups.getD j []).contains i with
                  | false => rfl
                  | true =>
                    rw [List.contains_iff_mem, hups] at hcc
                    have := ku.up j hj i hcc
                    omega
                omega
              rw [hc, q1] at hkk
              cases hkk
              exact ⟨v, q2, hdv⟩
          · have hre' : reB x.op = false := by simpa using hre
            refine ⟨v, ?_, hdv⟩
            rw [pure_any he2 hre'] at q2 ⊢
            simp only [Option.map_eq_some_iff, Prod.mk.injEq] at q2 ⊢
            obtain ⟨y, q3, q4, _⟩ := q2
            exact ⟨y, q3, q4, trivial⟩
        obtain ⟨v', q3, hdv'⟩ := hval
        rw [← hop] at q3
        refine .inl (step_sound hC (not_stuck d1 q3) q3 r he hgS fun S' u W' k1 k2 k3 k4 => after v' hk hdv' ?_ S' u W' k1 k2 k3 k4)
        rw [hcount, heffx, he2]
        simpa using hkk
theorem regD_sound (hm : P.follows .mixedOrders = true) (hC : ClOK P E.gl C) {id : Nat} {ups : List (List Nat)} (hk : okU ops os ups st = true) (hcomp : compOps P E ops ops.toList = some os) (hx : runD C os e h [] = some (e', h', hs)) (hchk : chkD C e' hs e os st = true) {a : Act} {W : World} {S : St} (r : Rel S h B W) (he : EnvR S e a E.nt) (hg : GlobOK E.gl S.imm) {Q : Exit → Act → World → Prop}
    (hq : ∀ S' a' W', Ext S S' → Rel S' h' B W' → EnvR S' e' a' E.nt → a'.defers = a.defers → Below B W W' → Q .normal a' W') : (Code.region id ops true).wp P Q a W := by
  have ku := okU_spec hk
  have hr := runD_cert hx
  simp only [List.length_nil] at hr
  have hl : ∀ j, lst (Array.replicate ops.size false) j = false := fun j => by
    unfold lst
    rw [Array.getD_eq_getD_getElem?, Array.getElem?_replicate]
    split <;> rfl
  refine wp_region_any hm ?_
  have hdr : Below B W { W with drawn := W.drawn + 1 } := (Below.refl B W).drew
  refine regD_wp hC ku hcomp hr hchk hg hq ops.size (Array.replicate ops.size false) a _ S e h ?_ (by simp) ?_ (Ext.refl S) ?_ (r.world ((Below.refl _ W).drew)) he ?_ ?_ rfl hdr
  · unfold todo
    exact Nat.le_trans List.countP_le_length (by simp)
  · intro j o ho hj
    have := hl j
    unfold lst at this
    rw [this] at hj
    cases hj
  · have : effN os ops.size (Array.replicate ops.size false) = 0 := by
      unfold effN
      rw [List.countP_eq_zero]
      intro j _
      simp [hl]
    rw [this]
    exact hr.first
  · rintro t ⟨i, _, h1, _⟩
    rw [hl] at h1
    cases h1
  · intro t _
    rfl
end
end Go.Proofs.Ytpnkldjbiinnpaa.AM
