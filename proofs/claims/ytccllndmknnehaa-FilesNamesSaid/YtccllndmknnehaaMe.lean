import Derived.Test.YtccllndmknnehaaMd
/- layer 10: a disk's acts. -/
namespace Go.Proofs.Ytccllndmknnehaa.AM
open Go
set_option maxRecDepth 100000
set_option maxHeartbeats 4000000
set_option linter.unusedVariables false
set_option linter.unusedSimpArgs false
section
variable {h h1 h3 : Heap} {p s n f : Nat} {size c b : Int} {A : AV} {caps els : List AV} {o : AOwn} {ad : Bool} {nm : ByteArray}
theorem c_does (hbx : h[p]? = some (.cells (dC size s n A c))) (happ : aappend (some 4) 40 h A [.agg [.func (.func f) [] caps, i64 b, .bool ad, .str nm]] = some (.slice o (some 4) els, h1)) (hp1 : h1[p]? = some (.cells (dC size s n A c)))
    (hc : ag T f (.map n :: i64 b :: caps) (h1.set p (.cells (dC size s n (.slice o (some 4) els) c))) = some (.tup [], h3)) (hp3 : h3[p]? = some (.cells (dC size s n (.slice o (some 4) els) c))) (hcb : 0 ≤ c → c ≤ 9223372036854775807) :
    ag T 26 [.ptr p 0, .agg [.func (.func f) [] caps, i64 b, .bool ad, .str nm]] h = some (i64 0, h3.set p (.cells (dC size s n (.slice o (some 4) els) (if 0 < c then c - 1 else c)))) := by
  refine WP_eq (k_wp rfl t26 rfl rfl ?_)
  obtain ⟨lp, ep⟩ := List.getElem?_eq_some_iff.1 hp1
  have hp2 : (h1.set p (.cells (dC size s n (.slice o (some 4) els) c)))[p]? = some (.cells (dC size s n (.slice o (some 4) els) c)) := List.getElem?_set_self lp
  have hd := c_did hp3 hcb
  unfold dC at *
  first | have hb := hb | have hb := trivial
  repeat' (first | (simp -implicitDefEqProofs (disch := omega) only [hb, F26, hbx, happ, hp1, hp2, hc, hd, setEls, List.replicate_succ, List.replicate_zero, elFits, stripEl, elemsOf, wC, initE, aop, Nat.reduceEqDiff, ↓reduceIte, Nat.reduceAdd, finish, resOf, tupOf, AM.freeze, freeze1, freezeL, closed, nam, namL, if_true, if_false, deref, boxAt, exAt, ldCells, oneL, oneCell, Nat.reduceLeDiff, evL, adopt, rigid, rigidL, trim, Int.reduceEq, Int.reduceMod, Int.reduceDiv, if_pos, if_neg, asI, forall_const, implies_true, chkD, chkO, chkW, effB, reB, vEq, beq_self_eq_true, Nat.reduceSub, Nat.reduceLT, Int.reduceSub, Int.reduceAdd, Int.reduceMul, Int.reduceLT, Int.reduceLE, Int.reduceToNat, optI, aslice, cutSl, cutMs, cutStr, cutOwn, cellsOf, one, elCells, lenOf, beqV, beqVL, strip, stripO, convS]) | ((first | rw [WP_condK] | rw [WP_opsG] | rw [WP_quiG] | rw [WP_dG]); refine And.intro (fun hb => ?_) (fun hb => ?_) <;> (first | have hd := dq1 hb | have hd := dq2 hb | have hd := dq3 hb | have hd := dq4 hb | skip)))
end
end Go.Proofs.Ytccllndmknnehaa.AM

/- layer 10: a disk in a store, and an act that is done to it. -/
namespace Go.Proofs.Ytccllndmknnehaa.AM
open Go
set_option maxRecDepth 100000
set_option maxHeartbeats 4000000
set_option linter.unusedVariables false
set_option linter.unusedSimpArgs false
inductive Dact where
  | add (nm l : List Int)
  | trunc (nm : List Int) (k : Nat)
  | ren (a b : List Int)
  | rem (nm : List Int)
structure Dk where
  size : Int
  sure : Fs
  now : Fs
  acts : List Dact
  c : Int
/-- what is held of an act -/
def changeC (inner : AV) : AV := .agg [.func (.func 43) [] [.ref [inner]], i64 0, .bool false, .str (bs [])]
def actR (h : Heap) (p : Nat) (v : AV) : Dact → Prop
  | .add nm l => ∃ q o, v = .agg [.func (.func 24) [] [.ref [stB' nm], .ptr q 0], i64 l.length, .bool true, stB' nm] ∧ h[q]? = some (.cells [.slice o none (l.map u8)]) ∧ q ≠ p ∧ Bytes nm
  | .trunc nm k => v = changeC (.func (.func 32) [] [.ref [stB' nm], .ref [i64 k]]) ∧ Bytes nm
  | .ren a b => v = changeC (.func (.func 29) [] [.ref [stB' a], .ref [stB' b]]) ∧ Bytes a ∧ Bytes b
  | .rem nm => v = changeC (.func (.func 30) [] [.ref [stB' nm]]) ∧ Bytes nm
def actsR (h : Heap) (p : Nat) : List AV → List Dact → Prop
  | [], [] => True
  | v :: vs, a :: ac => actR h p v a ∧ actsR h p vs ac
  | _, _ => False
/-- the row of acts -/
def rowR (h : Heap) (J : List Nat) (A : AV) (els : List AV) : Prop := (A = .nil ∧ els = [] ∧ J = []) ∨ ∃ j, J = [j] ∧ A = .slice (.tok j) (some 4) els ∧ h[j]? = some (.row (some 4) els.length)
/-- what an act does, to the letter -/
def runA (fs : Fs) : Dact → Fs
  | .add nm l => putF fs nm (moreF (findF nm fs 0) l) (findF nm fs 0)
  | .trunc nm k => match findF nm fs 0 with | some r => putF fs nm [r.2.flatten.take k] (some r) | none => fs
  | .ren a b => match findF a fs 0 with | some r => putF (fs.eraseIdx r.1) b r.2 (findF b (fs.eraseIdx r.1) 0) | none => fs
  | .rem nm => match findF nm fs 0 with | some r => fs.eraseIdx r.1 | none => fs
def validA (fs : Fs) : Dact → Prop
  | .add nm l => True
  | .trunc nm k => ∃ r, findF nm fs 0 = some r
  | .ren a b => ∃ r, findF a fs 0 = some r
  | .rem nm => ∃ r, findF nm fs 0 = some r
/-- no more than fits -/
def small (size : Int) (fs : Fs) : Prop := (totF fs : Int) ≤ size ∧ ∀ x ∈ fs, x.2.length ≤ 1000000000
/-- acts that go through, with room at each -/
def okRun (size : Int) : Fs → List Dact → Prop
  | fs, [] => small size fs
  | fs, a :: r => small size fs ∧ validA fs a ∧ okRun size (runA fs a) r
theorem okRun.snoc {size : Int} {a : Dact} : ∀ {ac : List Dact} {fs : Fs}, okRun size fs ac → validA (ac.foldl runA fs) a → small size (runA (ac.foldl runA fs) a) → okRun size fs (ac ++ [a])
  | [], fs, h, hv, ht => ⟨h, hv, ht⟩
  | b :: ac, fs, h, hv, ht => ⟨h.1, h.2.1, okRun.snoc h.2.2 hv ht⟩
theorem okRun.last {size : Int} : ∀ {ac : List Dact} {fs : Fs}, okRun size fs ac → small size (ac.foldl runA fs)
  | [], fs, h => h
  | b :: ac, fs, h => h.2.2.last
theorem okRun.first {size : Int} {ac : List Dact} {fs : Fs} (h : okRun size fs ac) : small size fs := by
  cases ac with
  | nil => exact h
  | cons a r => exact h.1
structure DkV (h : Heap) (p n s : Nat) (J : List Nat) (d : Dk) (A : AV) (els : List AV) (c : Nat) (bs : List Nat) (c' : Nat) (bs' : List Nat) : Prop where
  box : h[p]? = some (.cells (dC d.size s n A d.c))
  now : h[n]? = some (.map none c bs (fsV d.now))
  wn : Wf c bs d.now
  sure : h[s]? = some (.map none c' bs' (fsV d.sure))
  ws : Wf c' bs' d.sure
  row : rowR h J A els
  acts : actsR h p els d.acts
  ns : n ≠ s
  few : d.acts.length ≤ 100000000
  cal : d.c ≤ 9223372036854775807
  hist : d.now = d.acts.foldl runA d.sure
  run : okRun d.size d.sure d.acts
  big : d.size ≤ 268435456
theorem actsR_len {h : Heap} {p : Nat} : ∀ {vs : List AV} {ac : List Dact}, actsR h p vs ac → vs.length = ac.length
  | [], [], _ => rfl
  | _ :: _, _ :: _, h => by simp [actsR_len h.2]
  | [], _ :: _, h => h.elim
  | _ :: _, [], h => h.elim
theorem actR.keep {h h' : Heap} {p : Nat} {v : AV} {a : Dact} {Tl : List Nat} (r : actR h p v a) (k : Keep h h' Tl) (hT : ∀ i ∈ Tl, i = p ∨ ∀ cs, h[i]? ≠ some (.cells cs)) : actR h' p v a := by
  cases a with
  | add nm l =>
    obtain ⟨q, o, h1, h2, h3, h4⟩ := r
    refine ⟨q, o, h1, k.get h2 (fun hm => ?_), h3, h4⟩
    rcases hT q hm with rfl | hh
    · exact h3 rfl
    · exact hh _ h2
  | trunc nm k => exact r
  | ren a b => exact r
  | rem nm => exact r
theorem actsR.keep {h h' : Heap} {p : Nat} {Tl : List Nat} (k : Keep h h' Tl) (hT : ∀ i ∈ Tl, i = p ∨ ∀ cs, h[i]? ≠ some (.cells cs)) : ∀ {vs : List AV} {ac : List Dact}, actsR h p vs ac → actsR h' p vs ac
  | [], [], _ => trivial
  | _ :: _, _ :: _, r => ⟨r.1.keep k hT, actsR.keep k hT r.2⟩
  | [], _ :: _, h => h.elim
  | _ :: _, [], h => h.elim
theorem actsR.snoc {h : Heap} {p : Nat} {v : AV} {a : Dact} (r1 : actR h p v a) : ∀ {vs : List AV} {ac : List Dact}, actsR h p vs ac → actsR h p (vs ++ [v]) (ac ++ [a])
  | [], [], _ => ⟨r1, trivial⟩
  | _ :: _, _ :: _, r => ⟨r.1, actsR.snoc r1 r.2⟩
  | [], _ :: _, h => h.elim
  | _ :: _, [], h => h.elim
/-- places that a disk may change -/
abbrev plc (p n s : Nat) (J : List Nat) : List Nat := p :: n :: s :: J
structure Stp (h : Heap) (p n s : Nat) (J : List Nat) (h' : Heap) (n' s' : Nat) (J' : List Nat) : Prop where
  keep : Keep h h' (plc p n s J)
  new : ∀ i ∈ plc p n' s' J', i ∈ plc p n s J ∨ h.length ≤ i
theorem Stp.refl (h : Heap) (p n s : Nat) (J : List Nat) : Stp h p n s J h n s J := ⟨Keep.refl _ _, fun i hi => .inl hi⟩
theorem Stp.trans {a b c : Heap} {p n s n' s' n2 s2 : Nat} {J J' J2 : List Nat} (x : Stp a p n s J b n' s' J') (y : Stp b p n' s' J' c n2 s2 J2) : Stp a p n s J c n2 s2 J2 :=
  ⟨x.keep.trans y.keep x.new, fun i hi => by
    rcases y.new i hi with h | h
    · exact x.new i h
    · exact .inr (Nat.le_trans x.keep.1 h)⟩
/-- one more act in the row -/
theorem row_app {h : Heap} {J : List Nat} {A : AV} {els : List AV} (r : rowR h J A els) (hl : els.length ≤ 1000000000) (a : List AV) : ∃ j h1, aappend (some 4) 40 h A [.agg a] = some (.slice (.tok j) (some 4) (els ++ [.agg a]), h1) ∧ h1[j]? = some (.row (some 4) (els ++ [AV.agg a]).length) ∧ Keep h h1 J ∧ (j ∈ J ∨ h.length ≤ j) := by
  have hf : fitsB (els.length + 1) 40 = true := fits_of (.inl (by omega))
  rcases r with ⟨rfl, rfl, rfl⟩ | ⟨j, rfl, rfl, hj⟩
  · refine ⟨h.length, h ++ [.row (some 4) 1], ?_, by rw [get_app0]; rfl, keep_app _ _ _, .inr (Nat.le_refl _)⟩
    have : fitsB 1 40 = true := rfl
    simp [aappend, this]
  · obtain ⟨lj, ej⟩ := List.getElem?_eq_some_iff.1 hj
    refine ⟨j, h.set j (.row (some 4) (els.length + 1)), ?_, ?_, ⟨by simp, fun i hi hn => ?_⟩, .inl (by simp)⟩
    · simp [aappend, hj, hf]
    · rw [List.getElem?_set_self lj, List.length_append]; rfl
    · rw [List.getElem?_set_ne (fun e => hn (by simp [e]))]
/-- an act is done -/
theorem d_does {h : Heap} {p n s : Nat} {J : List Nat} {d : Dk} {A : AV} {els : List AV} {c : Nat} {bs0 : List Nat} {c' : Nat} {bs' : List Nat} (D : DkV h p n s J d A els c bs0 c' bs') (f : Nat) (caps : List AV) (b : Int) (ad : Bool) (nm : ByteArray) (a : Dact) {c2 : Nat} {bs2 : List Nat} {now2 : Fs} (hw2 : Wf c2 bs2 now2)
    (hclos : ∀ h2, Keep h h2 (p :: J) → h2[n]? = h[n]? → ∃ g, ag T f (.map n :: i64 b :: caps) h2 = some (.tup [], h2.set n (.map none c2 bs2 (fsV now2)) ++ g))
    (hact : actR h p (.agg [.func (.func f) [] caps, i64 b, .bool ad, .str nm]) a) (hn2 : now2 = runA d.now a) (hv : validA d.now a) (ht : small d.size now2) (hfew : d.acts.length < 100000000) :
    ∃ h' J' A', ag T 26 [.ptr p 0, .agg [.func (.func f) [] caps, i64 b, .bool ad, .str nm]] h = some (i64 0, h') ∧ Stp h p n s J h' n s J' ∧
      DkV h' p n s J' { d with now := now2, acts := d.acts ++ [a], c := if 0 < d.c then d.c - 1 else d.c } A' (els ++ [.agg [.func (.func f) [] caps, i64 b, .bool ad, .str nm]]) c2 bs2 c' bs' := by
  have hlen := actsR_len D.acts
  obtain ⟨j, h1, happ, hj, hk, hjn⟩ := row_app D.row (by omega) [.func (.func f) [] caps, i64 b, .bool ad, .str nm]
  -- J holds no place of another kind
  have hJ : ∀ i ∈ J, ∃ m, h[i]? = some (.row (some 4) m) := by
    rcases D.row with ⟨_, _, rfl⟩ | ⟨i, rfl, _, hi⟩
    · intro i hi; cases hi
    · intro x hx; simp at hx; subst hx; exact ⟨_, hi⟩
  have npJ : ∀ i o, h[i]? = some o → (∀ k m, o ≠ .row k m) → i ∉ J := fun i o hi ho hm => by
    obtain ⟨m, hm⟩ := hJ i hm
    rw [hi] at hm
    cases hm
    exact ho _ _ rfl
  have hpJ := npJ p _ D.box (by intros; simp)
  have hnJ := npJ n _ D.now (by intros; simp)
  have hsJ := npJ s _ D.sure (by intros; simp)
  have hpn : p ≠ n := fun e => by have := D.box; rw [e, D.now] at this; cases this
  have hps : p ≠ s := fun e => by have := D.box; rw [e, D.sure] at this; cases this
  have hp1 := hk.get D.box hpJ
  have hn1 := hk.get D.now hnJ
  have hs1 := hk.get D.sure hsJ
  obtain ⟨lp1, _⟩ := List.getElem?_eq_some_iff.1 hp1
  obtain ⟨ln1, _⟩ := List.getElem?_eq_some_iff.1 hn1
  obtain ⟨ls1, _⟩ := List.getElem?_eq_some_iff.1 hs1
  obtain ⟨lj1, _⟩ := List.getElem?_eq_some_iff.1 hj
  have hjp : j ≠ p := fun e => by rw [e, hp1] at hj; cases hj
  have hjn' : j ≠ n := fun e => by rw [e, hn1] at hj; cases hj
  have hjs : j ≠ s := fun e => by rw [e, hs1] at hj; cases hj
  generalize hA' : AV.slice (.tok j) (some 4) (els ++ [.agg [.func (.func f) [] caps, i64 b, .bool ad, .str nm]]) = A'
  obtain ⟨g, hg⟩ := hclos (h1.set p (.cells (dC d.size s n A' d.c))) ⟨by rw [List.length_set]; exact hk.1, fun i hi hn => by
      simp only [List.mem_cons, not_or] at hn
      rw [List.getElem?_set_ne (fun e => hn.1 e.symm), hk.2 i hi hn.2]⟩ (by rw [List.getElem?_set_ne hpn, hn1, D.now])
  generalize hh2 : h1.set p (.cells (dC d.size s n A' d.c)) = h2 at hg
  have l2 : h2.length = h1.length := by rw [← hh2, List.length_set]
  have g2 : ∀ i, i ≠ p → h2[i]? = h1[i]? := fun i hi => by rw [← hh2, List.getElem?_set_ne (fun e => hi e.symm)]
  have g2p : h2[p]? = some (.cells (dC d.size s n A' d.c)) := by rw [← hh2, List.getElem?_set_self lp1]
  have g3 : ∀ i, i < h1.length → i ≠ n → (h2.set n (.map none c2 bs2 (fsV now2)) ++ g)[i]? = h2[i]? := fun i hi hn => by
    rw [List.getElem?_append_left (by rw [List.length_set, l2]; exact hi), List.getElem?_set_ne (fun e => hn e.symm)]
  have g3n : (h2.set n (.map none c2 bs2 (fsV now2)) ++ g)[n]? = some (.map none c2 bs2 (fsV now2)) := by
    rw [List.getElem?_append_left (by rw [List.length_set, l2]; exact ln1), List.getElem?_set_self (by rw [l2]; exact ln1)]
  have hdo := c_does (o := .tok j) (els := els ++ [.agg [.func (.func f) [] caps, i64 b, .bool ad, .str nm]]) D.box (by rw [happ]) hp1 (by rw [hA', hh2]; exact hg) (by rw [g3 p lp1 hpn, g2p, hA']) (fun _ => D.cal)
  rw [hA'] at hdo
  generalize hh3 : h2.set n (.map none c2 bs2 (fsV now2)) ++ g = h3 at hdo g3 g3n
  have l3 : h1.length ≤ h3.length := by rw [← hh3, List.length_append, List.length_set, l2]; omega
  have lp3 : p < h3.length := Nat.lt_of_lt_of_le lp1 l3
  have g4 : ∀ i, i ≠ p → (h3.set p (.cells (dC d.size s n A' (if 0 < d.c then d.c - 1 else d.c))))[i]? = h3[i]? := fun i hi => List.getElem?_set_ne (fun e => hi e.symm)
  have hkeep : Keep h (h3.set p (.cells (dC d.size s n A' (if 0 < d.c then d.c - 1 else d.c)))) (p :: n :: J) := ⟨by rw [List.length_set]; exact Nat.le_trans hk.1 l3, fun i hi hn => by
    simp only [List.mem_cons, not_or] at hn
    rw [g4 i hn.1, g3 i (Nat.lt_of_lt_of_le hi hk.1) hn.2.1, g2 i hn.1, hk.2 i hi hn.2.2]⟩
  refine ⟨_, [j], A', hdo, ⟨⟨hkeep.1, fun i hi hn => hkeep.2 i hi (fun hm => hn (by
      simp only [List.mem_cons] at hm ⊢
      rcases hm with h | h | h
      · exact .inl h
      · exact .inr (.inl h)
      · exact .inr (.inr (.inr h))))⟩, fun i hi => ?_⟩, ?_⟩
  · simp only [List.mem_cons, List.not_mem_nil, or_false] at hi ⊢
    rcases hi with h | h | h | rfl
    · exact .inl (.inl h)
    · exact .inl (.inr (.inl h))
    · exact .inl (.inr (.inr (.inl h)))
    · rcases hjn with h | h
      · exact .inl (.inr (.inr (.inr h)))
      · exact .inr h
  · have hT : ∀ i ∈ p :: n :: J, i = p ∨ ∀ cs, h[i]? ≠ some (.cells cs) := fun i hi => by
      simp only [List.mem_cons] at hi
      rcases hi with h | rfl | hi
      · exact .inl h
      · right; intro cs hc; rw [D.now] at hc; cases hc
      · right; intro cs hc; obtain ⟨m, hm⟩ := hJ i hi; rw [hm] at hc; cases hc
    refine ⟨List.getElem?_set_self lp3, by rw [g4 n hpn.symm, g3n], hw2, ?_, D.ws, .inr ⟨j, rfl, hA'.symm, ?_⟩, ?_, D.ns, ?_, ?_, ?_, ?_, D.big⟩
    · rw [g4 s hps.symm, g3 s ls1 (fun e => D.ns e.symm), g2 s hps.symm, hs1]
    · rw [g4 j hjp, g3 j lj1 hjn', g2 j hjp, hj]
    · exact actsR.snoc (hact.keep hkeep hT) (D.acts.keep hkeep hT)
    · simp; omega
    · have := D.cal; show (if 0 < d.c then d.c - 1 else d.c) ≤ _; split <;> omega
    · show now2 = (d.acts ++ [a]).foldl runA d.sure
      rw [List.foldl_append, ← D.hist, hn2]; rfl
    · exact D.run.snoc (by rw [← D.hist]; exact hv) (by rw [← D.hist, ← hn2]; exact ht)
theorem DkV.app {h : Heap} {p n s : Nat} {J : List Nat} {d : Dk} {A : AV} {els : List AV} {c : Nat} {bs0 : List Nat} {c' : Nat} {bs' : List Nat} (D : DkV h p n s J d A els c bs0 c' bs') (g : Heap) : DkV (h ++ g) p n s J d A els c bs0 c' bs' := by
  have get : ∀ {i : Nat} {o : AObj}, h[i]? = some o → (h ++ g)[i]? = some o := fun hi => by rw [List.getElem?_append_left (List.getElem?_eq_some_iff.1 hi).1]; exact hi
  refine ⟨get D.box, get D.now, D.wn, get D.sure, D.ws, ?_, D.acts.keep (keep_app h g []) (fun i hi => by cases hi), D.ns, D.few, D.cal, D.hist, D.run, D.big⟩
  rcases D.row with ⟨h1, h2, h3⟩ | ⟨j, h1, h2, h3⟩
  · exact .inl ⟨h1, h2, h3⟩
  · exact .inr ⟨j, h1, h2, get h3⟩
theorem stp_app (h g : Heap) (p n s : Nat) (J : List Nat) : Stp h p n s J (h ++ g) n s J := ⟨keep_app _ _ _, fun i hi => .inl hi⟩
theorem DkV.tot {h : Heap} {p n s : Nat} {J : List Nat} {d : Dk} {A : AV} {els : List AV} {c : Nat} {bs0 : List Nat} {c' : Nat} {bs' : List Nat} (D : DkV h p n s J d A els c bs0 c' bs') : (totF d.now : Int) ≤ d.size := by rw [D.hist]; exact D.run.last.1
theorem d_left {h : Heap} {p n s : Nat} {J : List Nat} {d : Dk} {A : AV} {els : List AV} {c : Nat} {bs0 : List Nat} {c' : Nat} {bs' : List Nat} (D : DkV h p n s J d A els c bs0 c' bs') : ag T 13 [.ptr p 0] h = some (i64 (d.size - totF d.now), h) := by
  rw [ag_nat rfl nf13 n13]
  have ht := D.tot
  have hbig := D.big
  have hw : IntKind.i64.wrap d.size = d.size := by rw [IntKind.wrap_i64]; omega
  have hw2 : IntKind.i64.wrap (d.size - (totF d.now : Int)) = d.size - totF d.now := by rw [IntKind.wrap_i64]; omega
  have hbox : boxAt h p = some (dC d.size s n A d.c) := by unfold boxAt; rw [D.box]
  have hm : mapAt h n = some (c, bs0, fsV d.now) := by unfold mapAt; rw [D.now]
  have h1 : (bs0.all fun b => decide (b < c)) = true := by rw [List.all_eq_true]; exact fun b hb => decide_eq_true (D.wn.lt b hb)
  simp only [leftN, hbox, Option.bind_some, dC, List.drop_zero, hm, hw, h1, D.wn.nd, fileB_fs, and_self, if_true, szA_fs, hw2]
end Go.Proofs.Ytccllndmknnehaa.AM

/- layer 10: Append, Truncate, Rename, Remove. -/
namespace Go.Proofs.Ytccllndmknnehaa.AM
open Go
set_option maxRecDepth 100000
set_option maxHeartbeats 4000000
set_option linter.unusedVariables false
set_option linter.unusedSimpArgs false
theorem fitsB_small {n : Nat} (h : n ≤ 1000000000) : fitsB n 1 = true := fits_of (.inl (by omega))
theorem le_sum : ∀ {l : List Nat} {x : Nat}, x ∈ l → x ≤ l.sum
  | y :: l, x, h => by
    rw [List.sum_cons]
    rcases List.mem_cons.1 h with rfl | h
    · omega
    · have := le_sum h; omega
theorem beqVL_u8 : ∀ l : List Int, beqVL (l.map u8) (l.map u8) = true
  | [] => rfl
  | x :: l => by simp only [List.map_cons, beqVL, beqV, vEq, beq_self_eq_true, Bool.and_self, beqVL_u8 l]
theorem beqVL_parts : ∀ ps : Fl, beqVL (ps.map partV) (ps.map partV) = true
  | [] => rfl
  | x :: r => by simp only [List.map_cons, beqVL, partV, beqV, beq_self_eq_true, Bool.and_self, beqVL_u8, beqVL_parts r]
/-- why there may be no Append -/
def addE (d : Dk) (nm l : List Int) : Int :=
  if mayS [strOfNums nm] d.c ≠ 0 then mayS [strOfNums nm] d.c
  else if (findF nm d.now 0 = none ∧ 16 ≤ d.now.length) ∨ d.size - totF d.now < l.length then 2 else 0
def stepC (c : Int) : Int := if 0 < c then c - 1 else c
section
variable {h : Heap} {p n s : Nat} {J : List Nat} {d : Dk} {A : AV} {els : List AV} {c : Nat} {bs0 : List Nat} {c' : Nat} {bs' : List Nat}
theorem tot_put {fs : Fs} {nm l : List Int} : totF (putF fs nm (moreF (findF nm fs 0) l) (findF nm fs 0)) = totF fs + l.length := by
  cases hr : findF nm fs 0 with
  | none => simp [putF, moreF, totF, List.sum_append]
  | some r =>
    obtain ⟨_, h2⟩ := findF_some hr
    rw [Nat.sub_zero] at h2
    obtain ⟨hl, he⟩ := List.getElem?_eq_some_iff.1 h2
    unfold putF moreF totF
    rw [List.map_set]
    have key : ∀ (L : List Nat) (i : Nat) (hi : i < L.length) (x : Nat), (L.set i (L[i] + x)).sum = L.sum + x := by
      intro L
      induction L with
      | nil => intro i hi; simp at hi
      | cons a L ih =>
        intro i hi x
        cases i with
        | zero => simp; omega
        | succ i =>
          have := ih i (by simpa using hi) x
          simp only [List.set_cons_succ, List.getElem_cons_succ, List.sum_cons, this]
          omega
    have := key (fs.map fun x => x.2.flatten.length) r.1 (by simpa using hl) l.length
    rw [← this]
    congr 2
    simp only [List.getElem_map, he, List.flatten_append, List.length_append, List.flatten_cons, List.flatten_nil, List.append_nil]
theorem flat_tot {fs : Fs} {nm l : List Int} : (moreF (findF nm fs 0) l).flatten.length ≤ totF fs + l.length := by
  cases hr : findF nm fs 0 with
  | none => simp [moreF]
  | some r =>
    obtain ⟨_, h2⟩ := findF_some hr
    rw [Nat.sub_zero] at h2
    have hm : (nm, r.2) ∈ fs := List.mem_of_getElem? h2
    have : r.2.flatten.length ≤ totF fs := by
      unfold totF
      exact le_sum (List.mem_map.2 ⟨_, hm, rfl⟩)
    simp only [moreF, List.flatten_append, List.length_append, List.flatten_cons, List.flatten_nil, List.append_nil]
    omega
theorem d_append (D : DkV h p n s J d A els c bs0 c' bs') {nm l : List Int} (hnm : Bytes nm) (hl : Bytes l) {b : AV} (hbl : lenOf b = some l.length)
    (hcl : ∀ h, ∃ o h', ag T 23 [b] h = some (.slice o none (l.map u8), h ++ h')) (hsz : nm.length ≤ 9223372036854775807) (hfew : d.acts.length < 100000000) (hpt : (moreF (findF nm d.now 0) l).length ≤ 1000000000) :
    ∃ h' J' A' els' c2 bs2, ag T 8 [.ptr p 0, stB' nm, b] h = some (i64 (addE d nm l), h') ∧ Stp h p n s J h' n s J' ∧
      DkV h' p n s J' (if addE d nm l = 0 then { d with now := runA d.now (.add nm l), acts := d.acts ++ [.add nm l], c := stepC d.c } else d) A' els' c2 bs2 c' bs' := by
  have hm := c_may D.box [strOfNums nm] (fun x hx => by simp at hx; subst hx; rw [st_size]; omega) (by simp)
  unfold addE
  by_cases h0 : mayS [strOfNums nm] d.c = 0
  · rw [if_neg (by rw [h0]; simp)]
    simp only [List.map_cons, List.map_nil] at hm
    rw [h0] at hm
    have hbx := D.box
    obtain ⟨lp, _⟩ := List.getElem?_eq_some_iff.1 hbx
    have hbx2 : ∀ g, (h ++ g)[p]? = some (.cells (dC d.size s n A d.c)) := fun g => (D.app g).box
    have hme : mapEs h (.map n) = some (fsV d.now) := by simp [mapEs, mapAt, D.now]
    have hme2 : ∀ g, mapEs (h ++ g) (.map n) = some (fsV d.now) := fun g => by simp [mapEs, mapAt, (D.app g).now]
    have hf := findM_fs hnm D.wn.names 0
    have hv := valM_fs (findF nm d.now 0)
    have hleft : ∀ g, ag T 13 [.ptr p 0] (h ++ g) = some (i64 (d.size - totF d.now), h ++ g) := fun g => d_left (D.app g)
    have hlm : (fsV d.now).length = d.now.length := by simp [fsV]
    have g0 : ∀ x g, (h ++ (x :: g))[h.length]? = some x := fun x g => app_get _ _ _ 0 rfl
    have s0 : ∀ x g u, (h ++ (x :: g)).set h.length u = h ++ (u :: g) := fun x g u => app_set _ _ _ 0 u rfl
    have hbq : ∀ ps : Fl, beqVL (ps.map partV) (ps.map partV) = true := fun ps => beqVL_parts ps
    have cells : ∃ F1 F2, valF (findF nm d.now 0) = .agg [F1, F2] ∧ beqV F1 F1 = true ∧ beqV F2 F2 = true ∧ one F1 = true ∧ one F2 = true := by
      cases findF nm d.now 0 with
      | none => exact ⟨_, _, rfl, rfl, rfl, rfl, rfl⟩
      | some r => exact ⟨_, _, rfl, by simp [beqV, hbq], by simp [beqV, vEq], rfl, rfl⟩
    obtain ⟨F1, F2, hF, b1, b2, n1, n2⟩ := cells
    rw [hF] at hv
    have c1 : cellsOf (.agg [F1, F2]) = some [F1, F2] := rfl
    have n12 : oneL [F1, F2] = true := by simp [oneL, n1, n2]
    unfold dC at hbx hbx2
    have his : ∀ r : Option (Nat × Fl), (Option.map (fun r => (r.1, fileV r.2)) r).isSome = r.isSome := fun r => Option.isSome_map ..
    by_cases hfull : (findF nm d.now 0 = none ∧ 16 ≤ d.now.length) ∨ d.size - totF d.now < l.length
    · rw [if_pos hfull, if_neg (by decide)]
      refine ⟨h ++ [.cells [F1, F2]], J, A, els, c, bs0, WP_eq (k_wp rfl t8 rfl rfl ?_), stp_app _ _ _ _ _ _, D.app _⟩
      generalize hR : findF nm d.now 0 = r at *
      have bm : beqV (.map n) (.map n) = true := by simp [beqV]
      cases r with
      | some r =>
        have hlt : d.size - totF d.now < l.length := by rcases hfull with ⟨h, _⟩ | h; cases h; exact h
        simp only [Option.map_some] at hf hv
        first | have hb := hb | have hb := trivial
        repeat' (first | (simp -implicitDefEqProofs (disch := omega) only [hb, F8, hm, hbx, hbx2, hme, hme2, hf, hv, hleft, g0, s0, b1, b2, bm, n1, n2, hbl, setEls, List.replicate_succ, List.replicate_zero, keyB, Option.isSome_some, Option.isSome_none, hlm, hlt, wC, wO, initE, aop, Nat.reduceEqDiff, ↓reduceIte, Nat.reduceAdd, finish, resOf, tupOf, AM.freeze, freeze1, freezeL, closed, nam, namL, if_true, if_false, deref, boxAt, exAt, ldCells, oneL, oneCell, Nat.reduceLeDiff, evL, adopt, rigid, rigidL, trim, Int.reduceEq, Int.reduceMod, Int.reduceDiv, if_pos, if_neg, asI, forall_const, implies_true, chkD, chkO, chkW, effB, reB, vEq, beq_self_eq_true, Nat.reduceSub, Nat.reduceLT, Int.reduceSub, Int.reduceAdd, Int.reduceMul, Int.reduceLT, Int.reduceLE, Int.reduceToNat, optI, aslice, cutSl, cutMs, cutStr, cutOwn]) | ((first | rw [WP_condK] | rw [WP_opsG] | rw [WP_quiG] | rw [WP_dG]); refine And.intro (fun hb => ?_) (fun hb => ?_) <;> (first | have hd := dq1 hb | have hd := dq2 hb | have hd := dq3 hb | have hd := dq4 hb | skip)))
      | none =>
        simp only [Option.map_none] at hf hv
        by_cases h16 : (16 : Int) ≤ (d.now.length : Nat)
        · first | have hb := hb | have hb := trivial
          repeat' (first | (simp -implicitDefEqProofs (disch := omega) only [hb, F8, hm, hbx, hbx2, hme, hme2, hf, hv, hleft, g0, s0, b1, b2, bm, n1, n2, hbl, setEls, List.replicate_succ, List.replicate_zero, keyB, Option.isSome_some, Option.isSome_none, hlm, h16, wC, wO, initE, aop, Nat.reduceEqDiff, ↓reduceIte, Nat.reduceAdd, finish, resOf, tupOf, AM.freeze, freeze1, freezeL, closed, nam, namL, if_true, if_false, deref, boxAt, exAt, ldCells, oneL, oneCell, Nat.reduceLeDiff, evL, adopt, rigid, rigidL, trim, Int.reduceEq, Int.reduceMod, Int.reduceDiv, if_pos, if_neg, asI, forall_const, implies_true, chkD, chkO, chkW, effB, reB, vEq, beq_self_eq_true, Nat.reduceSub, Nat.reduceLT, Int.reduceSub, Int.reduceAdd, Int.reduceMul, Int.reduceLT, Int.reduceLE, Int.reduceToNat, optI, aslice, cutSl, cutMs, cutStr, cutOwn]) | ((first | rw [WP_condK] | rw [WP_opsG] | rw [WP_quiG] | rw [WP_dG]); refine And.intro (fun hb => ?_) (fun hb => ?_) <;> (first | have hd := dq1 hb | have hd := dq2 hb | have hd := dq3 hb | have hd := dq4 hb | skip)))
        · have hlt : d.size - totF d.now < l.length := by rcases hfull with ⟨_, h⟩ | h; omega; exact h
          first | have hb := hb | have hb := trivial
          repeat' (first | (simp -implicitDefEqProofs (disch := omega) only [hb, F8, hm, hbx, hbx2, hme, hme2, hf, hv, hleft, g0, s0, b1, b2, bm, n1, n2, hbl, setEls, List.replicate_succ, List.replicate_zero, keyB, Option.isSome_some, Option.isSome_none, hlm, h16, hlt, wC, wO, initE, aop, Nat.reduceEqDiff, ↓reduceIte, Nat.reduceAdd, finish, resOf, tupOf, AM.freeze, freeze1, freezeL, closed, nam, namL, if_true, if_false, deref, boxAt, exAt, ldCells, oneL, oneCell, Nat.reduceLeDiff, evL, adopt, rigid, rigidL, trim, Int.reduceEq, Int.reduceMod, Int.reduceDiv, if_pos, if_neg, asI, forall_const, implies_true, chkD, chkO, chkW, effB, reB, vEq, beq_self_eq_true, Nat.reduceSub, Nat.reduceLT, Int.reduceSub, Int.reduceAdd, Int.reduceMul, Int.reduceLT, Int.reduceLE, Int.reduceToNat, optI, aslice, cutSl, cutMs, cutStr, cutOwn]) | ((first | rw [WP_condK] | rw [WP_opsG] | rw [WP_quiG] | rw [WP_dG]); refine And.intro (fun hb => ?_) (fun hb => ?_) <;> (first | have hd := dq1 hb | have hd := dq2 hb | have hd := dq3 hb | have hd := dq4 hb | skip)))
    · rw [if_neg hfull, if_pos rfl]
      have bm : beqV (.map n) (.map n) = true := by simp [beqV]
      have hlt : ¬ (d.size - totF d.now < l.length) := fun h => hfull (.inr h)
      have h16 : findF nm d.now 0 = none → ¬ ((16 : Int) ≤ (d.now.length : Nat)) := fun h h1 => hfull (.inl ⟨h, by omega⟩)
      obtain ⟨o, hh, hc⟩ := hcl (h ++ [.cells [F1, F2]])
      have D0 := (D.app [.cells [F1, F2]]).app hh
      generalize hh0 : h ++ [.cells [F1, F2]] ++ hh = h0' at hc D0
      have D1 := D0.app [.cells [.slice o none (l.map u8)]]
      have hsmall : small d.size (putF d.now nm (moreF (findF nm d.now 0) l) (findF nm d.now 0)) := by
        refine ⟨by rw [tot_put]; omega, fun x hx => ?_⟩
        have hfw := D.wn.few
        cases hr : findF nm d.now 0 with
        | none =>
          rw [hr] at hx hpt
          rcases List.mem_append.1 hx with hx | hx
          · exact hfw x hx
          · simp at hx; subst hx; exact hpt
        | some r =>
          rw [hr] at hx hpt
          rcases List.mem_or_eq_of_mem_set hx with hx | rfl
          · exact hfw x hx
          · exact hpt
      have hq0 : (h0' ++ [AObj.cells [.slice o none (l.map u8)]])[h0'.length]? = some (.cells [.slice o none (l.map u8)]) := by rw [get_app0]; rfl
      have lp0 := (List.getElem?_eq_some_iff.1 D0.box).1
      have hqJ : ∀ i ∈ J, i < h0'.length := by
        rcases D0.row with ⟨_, _, rfl⟩ | ⟨i, rfl, _, hi⟩
        · intro i hi; cases hi
        · intro x hx; simp at hx; subst hx; exact (List.getElem?_eq_some_iff.1 hi).1
      have hBl : (moreF (findF nm d.now 0) l).flatten.length ≤ 140737488355328 := by
        have := flat_tot (fs := d.now) (nm := nm) (l := l)
        have := D.tot
        have := D.big
        omega
      obtain ⟨h', J', A', hdo, hst, hD⟩ := d_does D1 24 [.ref [stB' nm], .ptr h0'.length 0] l.length true (strOfNums nm) (.add nm l) (D.wn.put hnm hpt) (fun h2 hk hn => by
          have hq2 : h2[h0'.length]? = _ := hk.get hq0 (fun hm => by
            simp only [List.mem_cons] at hm
            rcases hm with hm | hm
            · omega
            · have := hqJ _ hm; omega)
          have := c_add (k := l.length) (hn.trans D1.now) hq2 D.wn hnm (Nat.le_refl _) (by rw [List.take_length]; exact hBl)
          rw [List.take_length] at this
          exact ⟨[], by rw [List.append_nil]; exact this⟩) ⟨_, o, rfl, hq0, by omega, hnm⟩ rfl trivial hsmall hfew
      have hst0 : Stp h p n s J h' n s J' := by
        refine Stp.trans (b := h0' ++ [.cells [.slice o none (l.map u8)]]) ?_ hst
        rw [← hh0, List.append_assoc, List.append_assoc]
        exact stp_app _ _ _ _ _ _
      refine ⟨h', J', A', _, _, _, WP_eq (k_wp rfl t8 rfl rfl ?_), hst0, hD⟩
      have g1 : ∀ x g, (h0' ++ (x :: g))[h0'.length]? = some x := fun x g => app_get _ _ _ 0 rfl
      have s1 : ∀ x g u, (h0' ++ (x :: g)).set h0'.length u = h0' ++ (u :: g) := fun x g u => app_set _ _ _ 0 u rfl
      generalize hR : findF nm d.now 0 = r at *
      cases r with
      | some r =>
        simp only [Option.map_some] at hf hv
        first | have hb := hb | have hb := trivial
        repeat' (first | (simp -implicitDefEqProofs (disch := omega) only [hb, F8, hm, hbx, hbx2, hme, hme2, hf, hv, hleft, g0, s0, b1, b2, bm, n1, n2, hbl, setEls, List.replicate_succ, List.replicate_zero, keyB, Option.isSome_some, Option.isSome_none, hlm, hlt, hc, g1, s1, hdo, wC, wO, initE, aop, Nat.reduceEqDiff, ↓reduceIte, Nat.reduceAdd, finish, resOf, tupOf, AM.freeze, freeze1, freezeL, closed, nam, namL, if_true, if_false, deref, boxAt, exAt, ldCells, oneL, oneCell, Nat.reduceLeDiff, evL, adopt, rigid, rigidL, trim, Int.reduceEq, Int.reduceMod, Int.reduceDiv, if_pos, if_neg, asI, forall_const, implies_true, chkD, chkO, chkW, effB, reB, vEq, beq_self_eq_true, Nat.reduceSub, Nat.reduceLT, Int.reduceSub, Int.reduceAdd, Int.reduceMul, Int.reduceLT, Int.reduceLE, Int.reduceToNat, optI, aslice, cutSl, cutMs, cutStr, cutOwn]) | ((first | rw [WP_condK] | rw [WP_opsG] | rw [WP_quiG] | rw [WP_dG]); refine And.intro (fun hb => ?_) (fun hb => ?_) <;> (first | have hd := dq1 hb | have hd := dq2 hb | have hd := dq3 hb | have hd := dq4 hb | skip)))
      | none =>
        have h16 := h16 rfl
        simp only [Option.map_none] at hf hv
        first | have hb := hb | have hb := trivial
        repeat' (first | (simp -implicitDefEqProofs (disch := omega) only [hb, F8, hm, hbx, hbx2, hme, hme2, hf, hv, hleft, g0, s0, b1, b2, bm, n1, n2, hbl, setEls, List.replicate_succ, List.replicate_zero, keyB, Option.isSome_some, Option.isSome_none, hlm, hlt, h16, hc, g1, s1, hdo, wC, wO, initE, aop, Nat.reduceEqDiff, ↓reduceIte, Nat.reduceAdd, finish, resOf, tupOf, AM.freeze, freeze1, freezeL, closed, nam, namL, if_true, if_false, deref, boxAt, exAt, ldCells, oneL, oneCell, Nat.reduceLeDiff, evL, adopt, rigid, rigidL, trim, Int.reduceEq, Int.reduceMod, Int.reduceDiv, if_pos, if_neg, asI, forall_const, implies_true, chkD, chkO, chkW, effB, reB, vEq, beq_self_eq_true, Nat.reduceSub, Nat.reduceLT, Int.reduceSub, Int.reduceAdd, Int.reduceMul, Int.reduceLT, Int.reduceLE, Int.reduceToNat, optI, aslice, cutSl, cutMs, cutStr, cutOwn]) | ((first | rw [WP_condK] | rw [WP_opsG] | rw [WP_quiG] | rw [WP_dG]); refine And.intro (fun hb => ?_) (fun hb => ?_) <;> (first | have hd := dq1 hb | have hd := dq2 hb | have hd := dq3 hb | have hd := dq4 hb | skip)))
  · rw [if_pos h0, if_neg h0]
    refine ⟨h, J, A, els, c, bs0, WP_eq (k_wp rfl t8 rfl rfl ?_), Stp.refl _ _ _ _ _, D⟩
    simp only [List.map_cons, List.map_nil] at hm
    generalize mayS [strOfNums nm] d.c = e at *
    first | have hb := hb | have hb := trivial
    repeat' (first | (simp -implicitDefEqProofs (disch := omega) only [hb, F8, hm, setEls, List.replicate_succ, List.replicate_zero, elFits, stripEl, h0, wC, initE, aop, Nat.reduceEqDiff, ↓reduceIte, Nat.reduceAdd, finish, resOf, tupOf, AM.freeze, freeze1, freezeL, closed, nam, namL, if_true, if_false, deref, boxAt, exAt, ldCells, oneL, oneCell, Nat.reduceLeDiff, evL, adopt, rigid, rigidL, trim, Int.reduceEq, Int.reduceMod, Int.reduceDiv, if_pos, if_neg, asI, forall_const, implies_true, chkD, chkO, chkW, effB, reB, vEq, beq_self_eq_true, Nat.reduceSub, Nat.reduceLT, Int.reduceSub, Int.reduceAdd, Int.reduceMul, Int.reduceLT, Int.reduceLE, Int.reduceToNat, optI, aslice, cutSl, cutMs, cutStr, cutOwn, cellsOf, one, elCells, lenOf, beqV, beqVL, strip, stripO, convS]) | ((first | rw [WP_condK] | rw [WP_opsG] | rw [WP_quiG] | rw [WP_dG]); refine And.intro (fun hb => ?_) (fun hb => ?_) <;> (first | have hd := dq1 hb | have hd := dq2 hb | have hd := dq3 hb | have hd := dq4 hb | skip)))
end
end Go.Proofs.Ytccllndmknnehaa.AM

/- layer 10: Truncate, Rename, Remove. -/
namespace Go.Proofs.Ytccllndmknnehaa.AM
open Go
set_option maxRecDepth 100000
set_option maxHeartbeats 4000000
set_option linter.unusedVariables false
set_option linter.unusedSimpArgs false
section
variable {h : Heap} {p n s : Nat} {J : List Nat} {d : Dk} {A : AV} {els : List AV} {c : Nat} {bs0 : List Nat} {c' : Nat} {bs' : List Nat}
theorem c_inner {h h3 : Heap} {n f : Nat} {caps : List AV} (hc : ag T f (.map n :: caps) h = some (.tup [], h3)) : ag T 43 [.map n, i64 0, .ref [.func (.func f) [] caps]] h = some (.tup [], h3) := by
  refine WP_eq (k_wp rfl t43 rfl rfl ?_)
  first | have hb := hb | have hb := trivial
  repeat' (first | (simp -implicitDefEqProofs (disch := omega) only [hb, F43, hc, wC, initE, aop, Nat.reduceEqDiff, ↓reduceIte, Nat.reduceAdd, finish, resOf, tupOf, AM.freeze, freeze1, freezeL, closed, nam, namL, if_true, if_false, deref, boxAt, exAt, ldCells, oneL, oneCell, Nat.reduceLeDiff, evL, adopt, rigid, rigidL, trim, Int.reduceEq, Int.reduceMod, Int.reduceDiv, if_pos, if_neg, asI, forall_const, implies_true, chkD, chkO, chkW, effB, reB, vEq, beq_self_eq_true, Nat.reduceSub, Nat.reduceLT, Int.reduceSub, Int.reduceAdd, Int.reduceMul, Int.reduceLT, Int.reduceLE, Int.reduceToNat, optI, aslice, cutSl, cutMs, cutStr, cutOwn, cellsOf, one, elCells, lenOf, beqV, beqVL, strip, stripO, convS]) | ((first | rw [WP_condK] | rw [WP_opsG] | rw [WP_quiG] | rw [WP_dG]); refine And.intro (fun hb => ?_) (fun hb => ?_) <;> (first | have hd := dq1 hb | have hd := dq2 hb | have hd := dq3 hb | have hd := dq4 hb | skip)))
theorem find_cells (r : Option (Nat × Fl)) : ∃ F1 F2, valF r = .agg [F1, F2] ∧ beqV F1 F1 = true ∧ beqV F2 F2 = true ∧ one F1 = true ∧ one F2 = true := by
  cases r with
  | none => exact ⟨_, _, rfl, rfl, rfl, rfl, rfl⟩
  | some r => exact ⟨_, _, rfl, by simp [beqV, beqVL_parts], by simp [beqV, vEq], rfl, rfl⟩
theorem d_change_none (D : DkV h p n s J d A els c bs0 c' bs') {nm : List Int} (hnm : Bytes nm) (hr : findF nm d.now 0 = none) (f : Nat) (caps : List AV) :
    ag T 28 [.ptr p 0, stB' nm, .func (.func f) [] caps] h = some (i64 4, h ++ [.cells [.nil, i64 0]]) := by
  refine WP_eq (k_wp rfl t28 rfl rfl ?_)
  have hbx := D.box
  have hme : mapEs h (.map n) = some (fsV d.now) := by simp [mapEs, mapAt, D.now]
  have hf := findM_fs hnm D.wn.names 0
  rw [hr] at hf
  have g0 : ∀ x g, (h ++ (x :: g))[h.length]? = some x := fun x g => app_get _ _ _ 0 rfl
  have s0 : ∀ x g u, (h ++ (x :: g)).set h.length u = h ++ (u :: g) := fun x g u => app_set _ _ _ 0 u rfl
  unfold dC at hbx
  simp only [Option.map_none] at hf
  first | have hb := hb | have hb := trivial
  repeat' (first | (simp -implicitDefEqProofs (disch := omega) only [hb, F28, hbx, hme, hf, g0, s0, keyB, valM, Option.isSome_none, wC, wO, initE, aop, Nat.reduceEqDiff, ↓reduceIte, Nat.reduceAdd, finish, resOf, tupOf, AM.freeze, freeze1, freezeL, closed, nam, namL, if_true, if_false, deref, boxAt, exAt, ldCells, oneL, oneCell, Nat.reduceLeDiff, evL, adopt, rigid, rigidL, trim, Int.reduceEq, Int.reduceMod, Int.reduceDiv, if_pos, if_neg, asI, forall_const, implies_true, chkD, chkO, chkW, effB, reB, vEq, beq_self_eq_true, Nat.reduceSub, Nat.reduceLT, Int.reduceSub, Int.reduceAdd, Int.reduceMul, Int.reduceLT, Int.reduceLE, Int.reduceToNat, optI, aslice, cutSl, cutMs, cutStr, cutOwn]) | ((first | rw [WP_condK] | rw [WP_opsG] | rw [WP_quiG] | rw [WP_dG]); refine And.intro (fun hb => ?_) (fun hb => ?_) <;> (first | have hd := dq1 hb | have hd := dq2 hb | have hd := dq3 hb | have hd := dq4 hb | skip)))
theorem d_change (D : DkV h p n s J d A els c bs0 c' bs') {nm : List Int} (hnm : Bytes nm) {r : Nat × Fl} (hr : findF nm d.now 0 = some r) (f : Nat) (caps : List AV) (a : Dact) {c2 : Nat} {bs2 : List Nat} (hw2 : Wf c2 bs2 (runA d.now a))
    (hclos : ∀ h2, h2[n]? = some (.map none c bs0 (fsV d.now)) → ∃ g, ag T f (.map n :: caps) h2 = some (.tup [], h2.set n (.map none c2 bs2 (fsV (runA d.now a))) ++ g))
    (hact : ∀ h, actR h p (changeC (.func (.func f) [] caps)) a) (hv : validA d.now a) (ht : small d.size (runA d.now a)) (hfew : d.acts.length < 100000000) :
    ∃ h' J' A' els', ag T 28 [.ptr p 0, stB' nm, .func (.func f) [] caps] h = some (i64 0, h') ∧ Stp h p n s J h' n s J' ∧
      DkV h' p n s J' { d with now := runA d.now a, acts := d.acts ++ [a], c := stepC d.c } A' els' c2 bs2 c' bs' := by
  have hbx := D.box
  have hme : mapEs h (.map n) = some (fsV d.now) := by simp [mapEs, mapAt, D.now]
  have hf := findM_fs hnm D.wn.names 0
  rw [hr] at hf
  obtain ⟨F1, F2, hF, b1, b2, n1, n2⟩ := find_cells (some r)
  have g0 : ∀ x g, (h ++ (x :: g))[h.length]? = some x := fun x g => app_get _ _ _ 0 rfl
  have s0 : ∀ x g u, (h ++ (x :: g)).set h.length u = h ++ (u :: g) := fun x g u => app_set _ _ _ 0 u rfl
  have hv' := valM_fs (some r)
  rw [hF] at hv'
  have D1 := D.app [.cells [F1, F2]]
  obtain ⟨h', J', A', hdo, hst, hD⟩ := d_does D1 43 [.ref [.func (.func f) [] caps]] 0 false (bs []) a hw2 (fun h2 hk hn => by
    obtain ⟨g, hg⟩ := hclos h2 (hn.trans D1.now)
    exact ⟨g, c_inner hg⟩) (hact _) rfl hv ht hfew
  refine ⟨h', J', A', _, WP_eq (k_wp rfl t28 rfl rfl ?_), (stp_app _ _ _ _ _ _).trans hst, hD⟩
  unfold dC at hbx
  simp only [Option.map_some] at hf hv'
  first | have hb := hb | have hb := trivial
  repeat' (first | (simp -implicitDefEqProofs (disch := omega) only [hb, F28, hbx, hme, hf, hv', g0, s0, n1, n2, keyB, hdo, Option.isSome_some, wC, wO, initE, aop, Nat.reduceEqDiff, ↓reduceIte, Nat.reduceAdd, finish, resOf, tupOf, AM.freeze, freeze1, freezeL, closed, nam, namL, if_true, if_false, deref, boxAt, exAt, ldCells, oneL, oneCell, Nat.reduceLeDiff, evL, adopt, rigid, rigidL, trim, Int.reduceEq, Int.reduceMod, Int.reduceDiv, if_pos, if_neg, asI, forall_const, implies_true, chkD, chkO, chkW, effB, reB, vEq, beq_self_eq_true, Nat.reduceSub, Nat.reduceLT, Int.reduceSub, Int.reduceAdd, Int.reduceMul, Int.reduceLT, Int.reduceLE, Int.reduceToNat, optI, aslice, cutSl, cutMs, cutStr, cutOwn]) | ((first | rw [WP_condK] | rw [WP_opsG] | rw [WP_quiG] | rw [WP_dG]); refine And.intro (fun hb => ?_) (fun hb => ?_) <;> (first | have hd := dq1 hb | have hd := dq2 hb | have hd := dq3 hb | have hd := dq4 hb | skip)))
theorem sum_set : ∀ {L : List Nat} {i x : Nat}, i < L.length → (L.set i x).sum + L.getD i 0 = L.sum + x
  | a :: L, 0, x, h => by simp; omega
  | a :: L, i + 1, x, h => by
    have := sum_set (L := L) (i := i) (x := x) (by simpa using h)
    simp only [List.set_cons_succ, List.sum_cons, List.getD_cons_succ]
    omega
theorem sum_erase : ∀ {L : List Nat} {i : Nat}, i < L.length → (L.eraseIdx i).sum + L.getD i 0 = L.sum
  | a :: L, 0, h => by simp; omega
  | a :: L, i + 1, h => by
    have := sum_erase (L := L) (i := i) (by simpa using h)
    simp only [List.eraseIdx_cons_succ, List.sum_cons, List.getD_cons_succ]
    omega
abbrev lenF (fs : Fs) : List Nat := fs.map fun x => x.2.flatten.length
theorem lenF_at {fs : Fs} {nm : List Int} {r : Nat × Fl} (h : fs[r.1]? = some (nm, r.2)) : (lenF fs).getD r.1 0 = r.2.flatten.length ∧ r.1 < (lenF fs).length := by
  have hl := (List.getElem?_eq_some_iff.1 h).1
  refine ⟨?_, by simpa using hl⟩
  rw [List.getD_eq_getElem?_getD, List.getElem?_map, h]; rfl
theorem tot_erase {fs : Fs} {nm : List Int} {r : Nat × Fl} (h : fs[r.1]? = some (nm, r.2)) : totF (fs.eraseIdx r.1) + r.2.flatten.length = totF fs := by
  obtain ⟨h1, h2⟩ := lenF_at h
  have := sum_erase h2
  rw [h1] at this
  unfold totF
  rw [ChangeMaps.map_eraseIdx]
  exact this
theorem tot_set {fs : Fs} {nm b : List Int} {r : Nat × Fl} (h : fs[r.1]? = some (nm, r.2)) (ps : Fl) : totF (fs.set r.1 (b, ps)) + r.2.flatten.length = totF fs + ps.flatten.length := by
  obtain ⟨h1, h2⟩ := lenF_at h
  have := sum_set (x := ps.flatten.length) h2
  rw [h1] at this
  unfold totF
  rw [List.map_set]
  exact this
theorem found {fs : Fs} {nm : List Int} {r : Nat × Fl} (h : findF nm fs 0 = some r) : fs[r.1]? = some (nm, r.2) := by
  obtain ⟨_, h2⟩ := findF_some h
  rw [Nat.sub_zero] at h2
  exact h2
theorem tot_putF {fs : Fs} {nm : List Int} {ps : Fl} : totF (putF fs nm ps (findF nm fs 0)) ≤ totF fs + ps.flatten.length := by
  cases hr : findF nm fs 0 with
  | none => simp [putF, totF, List.sum_append]
  | some r =>
    have := tot_set (b := nm) (found hr) ps
    show totF (fs.set r.1 (nm, ps)) ≤ _
    omega
theorem mem_putF {fs : Fs} {nm : List Int} {ps : Fl} {r : Option (Nat × Fl)} {x : List Int × Fl} (h : x ∈ putF fs nm ps r) : x ∈ fs ∨ x = (nm, ps) := by
  cases r with
  | none => rcases List.mem_append.1 h with h | h; exact .inl h; simp at h; exact .inr h
  | some r => exact List.mem_or_eq_of_mem_set h
theorem mem_erase {α : Type} {l : List α} {i : Nat} {x : α} (h : x ∈ l.eraseIdx i) : x ∈ l := (List.eraseIdx_sublist _ _).subset h
theorem small_rem {size : Int} {fs : Fs} {nm : List Int} (hs : small size fs) {r : Nat × Fl} (hr : findF nm fs 0 = some r) : small size (runA fs (.rem nm)) := by
  have e : runA fs (.rem nm) = fs.eraseIdx r.1 := by simp only [runA, hr]
  rw [e]
  have := tot_erase (found hr)
  exact ⟨by have := hs.1; omega, fun x hx => hs.2 x (mem_erase hx)⟩
theorem small_trunc {size : Int} {fs : Fs} {nm : List Int} {k : Nat} (hs : small size fs) {r : Nat × Fl} (hr : findF nm fs 0 = some r) : small size (runA fs (.trunc nm k)) := by
  have e : runA fs (.trunc nm k) = fs.set r.1 (nm, [r.2.flatten.take k]) := by simp only [runA, hr]; rfl
  rw [e]
  have h1 := tot_set (b := nm) (found hr) [r.2.flatten.take k]
  have h2 : ([r.2.flatten.take k] : Fl).flatten.length ≤ r.2.flatten.length := by
    rw [List.flatten_cons, List.flatten_nil, List.append_nil, List.length_take]
    omega
  refine ⟨by have := hs.1; omega, fun x hx => ?_⟩
  rcases List.mem_or_eq_of_mem_set hx with hx | rfl
  · exact hs.2 x hx
  · simp
theorem small_ren {size : Int} {fs : Fs} {a b : List Int} (hs : small size fs) {r : Nat × Fl} (hr : findF a fs 0 = some r) : small size (runA fs (.ren a b)) := by
  have e : runA fs (.ren a b) = putF (fs.eraseIdx r.1) b r.2 (findF b (fs.eraseIdx r.1) 0) := by simp only [runA, hr]
  rw [e]
  have h1 := tot_erase (found hr)
  have h2 := tot_putF (fs := fs.eraseIdx r.1) (nm := b) (ps := r.2)
  refine ⟨by have := hs.1; omega, fun x hx => ?_⟩
  rcases mem_putF hx with hx | rfl
  · exact hs.2 x (mem_erase hx)
  · exact hs.2 (a, r.2) (List.mem_of_getElem? (found hr))
theorem DkV.small {h : Heap} {p n s : Nat} {J : List Nat} {d : Dk} {A : AV} {els : List AV} {c : Nat} {bs0 : List Nat} {c' : Nat} {bs' : List Nat} (D : DkV h p n s J d A els c bs0 c' bs') : AM.small d.size d.now := by rw [D.hist]; exact D.run.last
/-- why there may be no act with a file that there must be -/
def nonE (d : Dk) (nm : List Int) : Int := if findF nm d.now 0 = none then 4 else 0
def remE (d : Dk) (nm : List Int) : Int := if mayS [strOfNums nm] d.c ≠ 0 then mayS [strOfNums nm] d.c else nonE d nm
def renE (d : Dk) (a b : List Int) : Int := if mayS [strOfNums a, strOfNums b] d.c ≠ 0 then mayS [strOfNums a, strOfNums b] d.c else nonE d a
def truE (d : Dk) (nm : List Int) (k : Int) : Int := if mayS [strOfNums nm] d.c = 1 then 1 else if k < 0 then 1 else if d.c = 0 then 100 else nonE d nm
def actD (d : Dk) (a : Dact) : Dk := { d with now := runA d.now a, acts := d.acts ++ [a], c := stepC d.c }
/-- a disk in a store, whatever else is there -/
def DkH (h : Heap) (p n s : Nat) (J : List Nat) (d : Dk) : Prop := ∃ A els c bs0 c' bs', DkV h p n s J d A els c bs0 c' bs'
theorem d_remove (D : DkH h p n s J d) {nm : List Int} (hnm : Bytes nm) (hsz : nm.length ≤ 9223372036854775807) (hfew : d.acts.length < 100000000) :
    ∃ h' J', ag T 12 [.ptr p 0, stB' nm] h = some (i64 (remE d nm), h') ∧ Stp h p n s J h' n s J' ∧ DkH h' p n s J' (if remE d nm = 0 then actD d (.rem nm) else d) := by
  obtain ⟨A, els, c, bs0, c', bs', D⟩ := D
  have hm := c_may D.box [strOfNums nm] (fun x hx => by simp at hx; subst hx; rw [st_size]; omega) (by simp)
  simp only [List.map_cons, List.map_nil] at hm
  unfold remE nonE
  by_cases h0 : mayS [strOfNums nm] d.c = 0
  · rw [h0] at hm ⊢
    rw [if_neg (by simp)]
    cases hr : findF nm d.now 0 with
    | none =>
      rw [if_pos rfl, if_neg (by decide)]
      have hc := d_change_none D hnm hr 30 [.ref [stB' nm]]
      refine ⟨_, J, WP_eq (k_wp rfl t12 rfl rfl ?_), stp_app h [.cells [.nil, i64 0]] p n s J, ⟨_, _, _, _, _, _, D.app _⟩⟩
      first | have hb := hb | have hb := trivial
      repeat' (first | (simp -implicitDefEqProofs (disch := omega) only [hb, F12, hm, hc, setEls, List.replicate_succ, List.replicate_zero, elFits, stripEl, wC, initE, aop, Nat.reduceEqDiff, ↓reduceIte, Nat.reduceAdd, finish, resOf, tupOf, AM.freeze, freeze1, freezeL, closed, nam, namL, if_true, if_false, deref, boxAt, exAt, ldCells, oneL, oneCell, Nat.reduceLeDiff, evL, adopt, rigid, rigidL, trim, Int.reduceEq, Int.reduceMod, Int.reduceDiv, if_pos, if_neg, asI, forall_const, implies_true, chkD, chkO, chkW, effB, reB, vEq, beq_self_eq_true, Nat.reduceSub, Nat.reduceLT, Int.reduceSub, Int.reduceAdd, Int.reduceMul, Int.reduceLT, Int.reduceLE, Int.reduceToNat, optI, aslice, cutSl, cutMs, cutStr, cutOwn, cellsOf, one, elCells, lenOf, beqV, beqVL, strip, stripO, convS]) | ((first | rw [WP_condK] | rw [WP_opsG] | rw [WP_quiG] | rw [WP_dG]); refine And.intro (fun hb => ?_) (fun hb => ?_) <;> (first | have hd := dq1 hb | have hd := dq2 hb | have hd := dq3 hb | have hd := dq4 hb | skip)))
    | some r =>
      rw [if_neg (by simp), if_pos rfl]
      obtain ⟨h', J', A', els', hc, hst, hD⟩ := d_change D hnm hr 30 [.ref [stB' nm]] (.rem nm) (c2 := c) (bs2 := bs0.eraseIdx r.1) (by simp only [runA, hr]; exact D.wn.erase r.1)
        (fun h2 hn => ⟨[], by rw [List.append_nil]; simp only [runA, hr]; exact c_rem hn D.wn hnm hr⟩) (fun h => ⟨rfl, hnm⟩) ⟨r, hr⟩ (small_rem D.small hr) hfew
      refine ⟨h', J', WP_eq (k_wp rfl t12 rfl rfl ?_), hst, ⟨_, _, _, _, _, _, hD⟩⟩
      first | have hb := hb | have hb := trivial
      repeat' (first | (simp -implicitDefEqProofs (disch := omega) only [hb, F12, hm, hc, setEls, List.replicate_succ, List.replicate_zero, elFits, stripEl, wC, initE, aop, Nat.reduceEqDiff, ↓reduceIte, Nat.reduceAdd, finish, resOf, tupOf, AM.freeze, freeze1, freezeL, closed, nam, namL, if_true, if_false, deref, boxAt, exAt, ldCells, oneL, oneCell, Nat.reduceLeDiff, evL, adopt, rigid, rigidL, trim, Int.reduceEq, Int.reduceMod, Int.reduceDiv, if_pos, if_neg, asI, forall_const, implies_true, chkD, chkO, chkW, effB, reB, vEq, beq_self_eq_true, Nat.reduceSub, Nat.reduceLT, Int.reduceSub, Int.reduceAdd, Int.reduceMul, Int.reduceLT, Int.reduceLE, Int.reduceToNat, optI, aslice, cutSl, cutMs, cutStr, cutOwn, cellsOf, one, elCells, lenOf, beqV, beqVL, strip, stripO, convS]) | ((first | rw [WP_condK] | rw [WP_opsG] | rw [WP_quiG] | rw [WP_dG]); refine And.intro (fun hb => ?_) (fun hb => ?_) <;> (first | have hd := dq1 hb | have hd := dq2 hb | have hd := dq3 hb | have hd := dq4 hb | skip)))
  · rw [if_pos h0, if_neg h0]
    refine ⟨h, J, WP_eq (k_wp rfl t12 rfl rfl ?_), Stp.refl _ _ _ _ _, ⟨_, _, _, _, _, _, D⟩⟩
    generalize mayS [strOfNums nm] d.c = e at *
    first | have hb := hb | have hb := trivial
    repeat' (first | (simp -implicitDefEqProofs (disch := omega) only [hb, F12, hm, h0, setEls, List.replicate_succ, List.replicate_zero, elFits, stripEl, wC, initE, aop, Nat.reduceEqDiff, ↓reduceIte, Nat.reduceAdd, finish, resOf, tupOf, AM.freeze, freeze1, freezeL, closed, nam, namL, if_true, if_false, deref, boxAt, exAt, ldCells, oneL, oneCell, Nat.reduceLeDiff, evL, adopt, rigid, rigidL, trim, Int.reduceEq, Int.reduceMod, Int.reduceDiv, if_pos, if_neg, asI, forall_const, implies_true, chkD, chkO, chkW, effB, reB, vEq, beq_self_eq_true, Nat.reduceSub, Nat.reduceLT, Int.reduceSub, Int.reduceAdd, Int.reduceMul, Int.reduceLT, Int.reduceLE, Int.reduceToNat, optI, aslice, cutSl, cutMs, cutStr, cutOwn, cellsOf, one, elCells, lenOf, beqV, beqVL, strip, stripO, convS]) | ((first | rw [WP_condK] | rw [WP_opsG] | rw [WP_quiG] | rw [WP_dG]); refine And.intro (fun hb => ?_) (fun hb => ?_) <;> (first | have hd := dq1 hb | have hd := dq2 hb | have hd := dq3 hb | have hd := dq4 hb | skip)))
theorem d_rename (D : DkH h p n s J d) {a b : List Int} (ha : Bytes a) (hb' : Bytes b) (hsa : a.length ≤ 9223372036854775807) (hsb : b.length ≤ 9223372036854775807) (hfew : d.acts.length < 100000000) :
    ∃ h' J', ag T 11 [.ptr p 0, stB' a, stB' b] h = some (i64 (renE d a b), h') ∧ Stp h p n s J h' n s J' ∧ DkH h' p n s J' (if renE d a b = 0 then actD d (.ren a b) else d) := by
  obtain ⟨A, els, c, bs0, c', bs', D⟩ := D
  have hm := c_may D.box [strOfNums a, strOfNums b] (fun x hx => by simp at hx; rcases hx with rfl | rfl <;> rw [st_size] <;> omega) (by simp)
  simp only [List.map_cons, List.map_nil] at hm
  unfold renE nonE
  by_cases h0 : mayS [strOfNums a, strOfNums b] d.c = 0
  · rw [h0] at hm ⊢
    rw [if_neg (by simp)]
    cases hr : findF a d.now 0 with
    | none =>
      rw [if_pos rfl, if_neg (by decide)]
      have hc := d_change_none D ha hr 29 [.ref [stB' a], .ref [stB' b]]
      refine ⟨_, J, WP_eq (k_wp rfl t11 rfl rfl ?_), stp_app h [.cells [.nil, i64 0]] p n s J, ⟨_, _, _, _, _, _, D.app _⟩⟩
      first | have hb := hb | have hb := trivial
      repeat' (first | (simp -implicitDefEqProofs (disch := omega) only [hb, F11, hm, hc, setEls, List.replicate_succ, List.replicate_zero, elFits, stripEl, wC, initE, aop, Nat.reduceEqDiff, ↓reduceIte, Nat.reduceAdd, finish, resOf, tupOf, AM.freeze, freeze1, freezeL, closed, nam, namL, if_true, if_false, deref, boxAt, exAt, ldCells, oneL, oneCell, Nat.reduceLeDiff, evL, adopt, rigid, rigidL, trim, Int.reduceEq, Int.reduceMod, Int.reduceDiv, if_pos, if_neg, asI, forall_const, implies_true, chkD, chkO, chkW, effB, reB, vEq, beq_self_eq_true, Nat.reduceSub, Nat.reduceLT, Int.reduceSub, Int.reduceAdd, Int.reduceMul, Int.reduceLT, Int.reduceLE, Int.reduceToNat, optI, aslice, cutSl, cutMs, cutStr, cutOwn, cellsOf, one, elCells, lenOf, beqV, beqVL, strip, stripO, convS]) | ((first | rw [WP_condK] | rw [WP_opsG] | rw [WP_quiG] | rw [WP_dG]); refine And.intro (fun hb => ?_) (fun hb => ?_) <;> (first | have hd := dq1 hb | have hd := dq2 hb | have hd := dq3 hb | have hd := dq4 hb | skip)))
    | some r =>
      rw [if_neg (by simp), if_pos rfl]
      have w2 := D.wn.erase r.1
      obtain ⟨h', J', A', els', hc, hst, hD⟩ := d_change D ha hr 29 [.ref [stB' a], .ref [stB' b]] (.ren a b) (by simp only [runA, hr]; exact w2.put hb' (D.wn.found hr).2)
        (fun h2 hn => ⟨_, by simp only [runA, hr]; exact c_ren hn D.wn ha hb' hr⟩) (fun h => ⟨rfl, ha, hb'⟩) ⟨r, hr⟩ (small_ren D.small hr) hfew
      refine ⟨h', J', WP_eq (k_wp rfl t11 rfl rfl ?_), hst, ⟨_, _, _, _, _, _, hD⟩⟩
      first | have hb := hb | have hb := trivial
      repeat' (first | (simp -implicitDefEqProofs (disch := omega) only [hb, F11, hm, hc, setEls, List.replicate_succ, List.replicate_zero, elFits, stripEl, wC, initE, aop, Nat.reduceEqDiff, ↓reduceIte, Nat.reduceAdd, finish, resOf, tupOf, AM.freeze, freeze1, freezeL, closed, nam, namL, if_true, if_false, deref, boxAt, exAt, ldCells, oneL, oneCell, Nat.reduceLeDiff, evL, adopt, rigid, rigidL, trim, Int.reduceEq, Int.reduceMod, Int.reduceDiv, if_pos, if_neg, asI, forall_const, implies_true, chkD, chkO, chkW, effB, reB, vEq, beq_self_eq_true, Nat.reduceSub, Nat.reduceLT, Int.reduceSub, Int.reduceAdd, Int.reduceMul, Int.reduceLT, Int.reduceLE, Int.reduceToNat, optI, aslice, cutSl, cutMs, cutStr, cutOwn, cellsOf, one, elCells, lenOf, beqV, beqVL, strip, stripO, convS]) | ((first | rw [WP_condK] | rw [WP_opsG] | rw [WP_quiG] | rw [WP_dG]); refine And.intro (fun hb => ?_) (fun hb => ?_) <;> (first | have hd := dq1 hb | have hd := dq2 hb | have hd := dq3 hb | have hd := dq4 hb | skip)))
  · rw [if_pos h0, if_neg h0]
    refine ⟨h, J, WP_eq (k_wp rfl t11 rfl rfl ?_), Stp.refl _ _ _ _ _, ⟨_, _, _, _, _, _, D⟩⟩
    generalize mayS [strOfNums a, strOfNums b] d.c = e at *
    first | have hb := hb | have hb := trivial
    repeat' (first | (simp -implicitDefEqProofs (disch := omega) only [hb, F11, hm, h0, setEls, List.replicate_succ, List.replicate_zero, elFits, stripEl, wC, initE, aop, Nat.reduceEqDiff, ↓reduceIte, Nat.reduceAdd, finish, resOf, tupOf, AM.freeze, freeze1, freezeL, closed, nam, namL, if_true, if_false, deref, boxAt, exAt, ldCells, oneL, oneCell, Nat.reduceLeDiff, evL, adopt, rigid, rigidL, trim, Int.reduceEq, Int.reduceMod, Int.reduceDiv, if_pos, if_neg, asI, forall_const, implies_true, chkD, chkO, chkW, effB, reB, vEq, beq_self_eq_true, Nat.reduceSub, Nat.reduceLT, Int.reduceSub, Int.reduceAdd, Int.reduceMul, Int.reduceLT, Int.reduceLE, Int.reduceToNat, optI, aslice, cutSl, cutMs, cutStr, cutOwn, cellsOf, one, elCells, lenOf, beqV, beqVL, strip, stripO, convS]) | ((first | rw [WP_condK] | rw [WP_opsG] | rw [WP_quiG] | rw [WP_dG]); refine And.intro (fun hb => ?_) (fun hb => ?_) <;> (first | have hd := dq1 hb | have hd := dq2 hb | have hd := dq3 hb | have hd := dq4 hb | skip)))
theorem d_truncate (D : DkH h p n s J d) {nm : List Int} (hnm : Bytes nm) (hsz : nm.length ≤ 9223372036854775807) (k : Int) (hfew : d.acts.length < 100000000) :
    ∃ h' J', ag T 14 [.ptr p 0, stB' nm, i64 k] h = some (i64 (truE d nm k), h') ∧ Stp h p n s J h' n s J' ∧ DkH h' p n s J' (if truE d nm k = 0 then actD d (.trunc nm k.toNat) else d) := by
  obtain ⟨A, els, c, bs0, c', bs', D⟩ := D
  have hm := c_may D.box [strOfNums nm] (fun x hx => by simp at hx; subst hx; rw [st_size]; omega) (by simp)
  have ho := c_off D.box
  simp only [List.map_cons, List.map_nil] at hm
  unfold truE nonE
  by_cases h1 : mayS [strOfNums nm] d.c = 1
  · rw [if_pos h1, if_neg (by decide)]
    rw [h1] at hm
    refine ⟨h, J, WP_eq (k_wp rfl t14 rfl rfl ?_), Stp.refl _ _ _ _ _, ⟨_, _, _, _, _, _, D⟩⟩
    first | have hb := hb | have hb := trivial
    repeat' (first | (simp -implicitDefEqProofs (disch := omega) only [hb, F14, hm, setEls, List.replicate_succ, List.replicate_zero, elFits, stripEl, wC, initE, aop, Nat.reduceEqDiff, ↓reduceIte, Nat.reduceAdd, finish, resOf, tupOf, AM.freeze, freeze1, freezeL, closed, nam, namL, if_true, if_false, deref, boxAt, exAt, ldCells, oneL, oneCell, Nat.reduceLeDiff, evL, adopt, rigid, rigidL, trim, Int.reduceEq, Int.reduceMod, Int.reduceDiv, if_pos, if_neg, asI, forall_const, implies_true, chkD, chkO, chkW, effB, reB, vEq, beq_self_eq_true, Nat.reduceSub, Nat.reduceLT, Int.reduceSub, Int.reduceAdd, Int.reduceMul, Int.reduceLT, Int.reduceLE, Int.reduceToNat, optI, aslice, cutSl, cutMs, cutStr, cutOwn, cellsOf, one, elCells, lenOf, beqV, beqVL, strip, stripO, convS]) | ((first | rw [WP_condK] | rw [WP_opsG] | rw [WP_quiG] | rw [WP_dG]); refine And.intro (fun hb => ?_) (fun hb => ?_) <;> (first | have hd := dq1 hb | have hd := dq2 hb | have hd := dq3 hb | have hd := dq4 hb | skip)))
  · rw [if_neg h1]
    have h6 : ¬ mayS [strOfNums nm] d.c = 6 := by unfold mayS; split; decide; split <;> decide
    by_cases hk : k < 0
    · rw [if_pos hk, if_neg (by decide)]
      refine ⟨h, J, WP_eq (k_wp rfl t14 rfl rfl ?_), Stp.refl _ _ _ _ _, ⟨_, _, _, _, _, _, D⟩⟩
      generalize mayS [strOfNums nm] d.c = e at *
      first | have hb := hb | have hb := trivial
      repeat' (first | (simp -implicitDefEqProofs (disch := omega) only [hb, F14, hm, h1, h6, hk, setEls, List.replicate_succ, List.replicate_zero, elFits, stripEl, wC, initE, aop, Nat.reduceEqDiff, ↓reduceIte, Nat.reduceAdd, finish, resOf, tupOf, AM.freeze, freeze1, freezeL, closed, nam, namL, if_true, if_false, deref, boxAt, exAt, ldCells, oneL, oneCell, Nat.reduceLeDiff, evL, adopt, rigid, rigidL, trim, Int.reduceEq, Int.reduceMod, Int.reduceDiv, if_pos, if_neg, asI, forall_const, implies_true, chkD, chkO, chkW, effB, reB, vEq, beq_self_eq_true, Nat.reduceSub, Nat.reduceLT, Int.reduceSub, Int.reduceAdd, Int.reduceMul, Int.reduceLT, Int.reduceLE, Int.reduceToNat, optI, aslice, cutSl, cutMs, cutStr, cutOwn, cellsOf, one, elCells, lenOf, beqV, beqVL, strip, stripO, convS]) | ((first | rw [WP_condK] | rw [WP_opsG] | rw [WP_quiG] | rw [WP_dG]); refine And.intro (fun hb => ?_) (fun hb => ?_) <;> (first | have hd := dq1 hb | have hd := dq2 hb | have hd := dq3 hb | have hd := dq4 hb | skip)))
    · rw [if_neg hk]
      by_cases hc0 : d.c = 0
      · rw [if_pos hc0, if_neg (by decide)]
        rw [decide_eq_true hc0] at ho
        refine ⟨h, J, WP_eq (k_wp rfl t14 rfl rfl ?_), Stp.refl _ _ _ _ _, ⟨_, _, _, _, _, _, D⟩⟩
        generalize mayS [strOfNums nm] d.c = e at *
        first | have hb := hb | have hb := trivial
        repeat' (first | (simp -implicitDefEqProofs (disch := omega) only [hb, F14, hm, h1, h6, hk, ho, setEls, List.replicate_succ, List.replicate_zero, elFits, stripEl, wC, initE, aop, Nat.reduceEqDiff, ↓reduceIte, Nat.reduceAdd, finish, resOf, tupOf, AM.freeze, freeze1, freezeL, closed, nam, namL, if_true, if_false, deref, boxAt, exAt, ldCells, oneL, oneCell, Nat.reduceLeDiff, evL, adopt, rigid, rigidL, trim, Int.reduceEq, Int.reduceMod, Int.reduceDiv, if_pos, if_neg, asI, forall_const, implies_true, chkD, chkO, chkW, effB, reB, vEq, beq_self_eq_true, Nat.reduceSub, Nat.reduceLT, Int.reduceSub, Int.reduceAdd, Int.reduceMul, Int.reduceLT, Int.reduceLE, Int.reduceToNat, optI, aslice, cutSl, cutMs, cutStr, cutOwn, cellsOf, one, elCells, lenOf, beqV, beqVL, strip, stripO, convS]) | ((first | rw [WP_condK] | rw [WP_opsG] | rw [WP_quiG] | rw [WP_dG]); refine And.intro (fun hb => ?_) (fun hb => ?_) <;> (first | have hd := dq1 hb | have hd := dq2 hb | have hd := dq3 hb | have hd := dq4 hb | skip)))
      · rw [if_neg hc0]
        rw [decide_eq_false hc0] at ho
        obtain ⟨kn, rfl⟩ := Int.eq_ofNat_of_zero_le (show 0 ≤ k by omega)
        rw [Int.toNat_natCast]
        cases hr : findF nm d.now 0 with
        | none =>
          rw [if_pos rfl, if_neg (by decide)]
          have hc := d_change_none D hnm hr 32 [.ref [stB' nm], .ref [i64 kn]]
          refine ⟨_, J, WP_eq (k_wp rfl t14 rfl rfl ?_), stp_app h [.cells [.nil, i64 0]] p n s J, ⟨_, _, _, _, _, _, D.app _⟩⟩
          generalize mayS [strOfNums nm] d.c = e at *
          first | have hb := hb | have hb := trivial
          repeat' (first | (simp -implicitDefEqProofs (disch := omega) only [hb, F14, hm, h1, h6, hk, ho, hc, setEls, List.replicate_succ, List.replicate_zero, elFits, stripEl, wC, initE, aop, Nat.reduceEqDiff, ↓reduceIte, Nat.reduceAdd, finish, resOf, tupOf, AM.freeze, freeze1, freezeL, closed, nam, namL, if_true, if_false, deref, boxAt, exAt, ldCells, oneL, oneCell, Nat.reduceLeDiff, evL, adopt, rigid, rigidL, trim, Int.reduceEq, Int.reduceMod, Int.reduceDiv, if_pos, if_neg, asI, forall_const, implies_true, chkD, chkO, chkW, effB, reB, vEq, beq_self_eq_true, Nat.reduceSub, Nat.reduceLT, Int.reduceSub, Int.reduceAdd, Int.reduceMul, Int.reduceLT, Int.reduceLE, Int.reduceToNat, optI, aslice, cutSl, cutMs, cutStr, cutOwn, cellsOf, one, elCells, lenOf, beqV, beqVL, strip, stripO, convS]) | ((first | rw [WP_condK] | rw [WP_opsG] | rw [WP_quiG] | rw [WP_dG]); refine And.intro (fun hb => ?_) (fun hb => ?_) <;> (first | have hd := dq1 hb | have hd := dq2 hb | have hd := dq3 hb | have hd := dq4 hb | skip)))
        | some r =>
          rw [if_neg (by simp), if_pos rfl]
          have hB : r.2.flatten.length ≤ 140737488355328 := by
            have := tot_erase (found hr)
            have := D.tot
            have := D.big
            omega
          obtain ⟨h', J', A', els', hc, hst, hD⟩ := d_change D hnm hr 32 [.ref [stB' nm], .ref [i64 kn]] (.trunc nm kn) (by
              have := D.wn.put hnm (ps := [r.2.flatten.take kn]) (by simp)
              rw [hr] at this
              simp only [runA, hr]; exact this)
            (fun h2 hn => ⟨_, by
              have := c_trunc (k := kn) hn D.wn hnm hr hB
              unfold putO at this
              rw [hr] at this
              simp only [runA, hr]
              exact this⟩) (fun h => ⟨rfl, hnm⟩) ⟨r, hr⟩ (small_trunc D.small hr) hfew
          refine ⟨h', J', WP_eq (k_wp rfl t14 rfl rfl ?_), hst, ⟨_, _, _, _, _, _, hD⟩⟩
          generalize mayS [strOfNums nm] d.c = e at *
          first | have hb := hb | have hb := trivial
          repeat' (first | (simp -implicitDefEqProofs (disch := omega) only [hb, F14, hm, h1, h6, hk, ho, hc, setEls, List.replicate_succ, List.replicate_zero, elFits, stripEl, wC, initE, aop, Nat.reduceEqDiff, ↓reduceIte, Nat.reduceAdd, finish, resOf, tupOf, AM.freeze, freeze1, freezeL, closed, nam, namL, if_true, if_false, deref, boxAt, exAt, ldCells, oneL, oneCell, Nat.reduceLeDiff, evL, adopt, rigid, rigidL, trim, Int.reduceEq, Int.reduceMod, Int.reduceDiv, if_pos, if_neg, asI, forall_const, implies_true, chkD, chkO, chkW, effB, reB, vEq, beq_self_eq_true, Nat.reduceSub, Nat.reduceLT, Int.reduceSub, Int.reduceAdd, Int.reduceMul, Int.reduceLT, Int.reduceLE, Int.reduceToNat, optI, aslice, cutSl, cutMs, cutStr, cutOwn, cellsOf, one, elCells, lenOf, beqV, beqVL, strip, stripO, convS]) | ((first | rw [WP_condK] | rw [WP_opsG] | rw [WP_quiG] | rw [WP_dG]); refine And.intro (fun hb => ?_) (fun hb => ?_) <;> (first | have hd := dq1 hb | have hd := dq2 hb | have hd := dq3 hb | have hd := dq4 hb | skip)))
end
end Go.Proofs.Ytccllndmknnehaa.AM

/- layer 10: Sync, Read, Unsure. -/
namespace Go.Proofs.Ytccllndmknnehaa.AM
open Go
set_option maxRecDepth 100000
set_option maxHeartbeats 4000000
set_option linter.unusedVariables false
set_option linter.unusedSimpArgs false
section
variable {h : Heap} {p n s : Nat} {J : List Nat} {d : Dk} {A : AV} {els : List AV} {c : Nat} {bs0 : List Nat} {c' : Nat} {bs' : List Nat}
def syncD (d : Dk) : Dk := { d with sure := d.now, acts := [], c := stepC d.c }
theorem call_mclone {h : Heap} {n c : Nat} {bs : List Nat} {es : List (AV × AV)} (hn : h[n]? = some (.map none c bs es)) : ag T 33 [.map n] h = some (.map h.length, h ++ [.map none c bs es]) := by
  rw [ag_nat rfl nf33 n33]
  have hm : mapAt h n = some (c, bs, es) := by simp [mapAt, hn]
  simp only [cloneM33, hm, Option.map_some]
theorem d_sync (D : DkH h p n s J d) :
    ∃ h' s' J', ag T 15 [.ptr p 0] h = some (i64 (if d.c = 0 then 100 else 0), h') ∧ Stp h p n s J h' n s' J' ∧ DkH h' p n s' J' (if d.c = 0 then d else syncD d) := by
  obtain ⟨A, els, c, bs0, c', bs', D⟩ := D
  have hm := c_may0 D.box
  by_cases hc0 : d.c = 0
  · rw [if_pos hc0, if_pos hc0]
    rw [if_pos hc0] at hm
    refine ⟨h, s, J, WP_eq (k_wp rfl t15 rfl rfl ?_), Stp.refl _ _ _ _ _, ⟨_, _, _, _, _, _, D⟩⟩
    first | have hb := hb | have hb := trivial
    repeat' (first | (simp -implicitDefEqProofs (disch := omega) only [hb, F15, hm, wC, initE, aop, Nat.reduceEqDiff, ↓reduceIte, Nat.reduceAdd, finish, resOf, tupOf, AM.freeze, freeze1, freezeL, closed, nam, namL, if_true, if_false, deref, boxAt, exAt, ldCells, oneL, oneCell, Nat.reduceLeDiff, evL, adopt, rigid, rigidL, trim, Int.reduceEq, Int.reduceMod, Int.reduceDiv, if_pos, if_neg, asI, forall_const, implies_true, chkD, chkO, chkW, effB, reB, vEq, beq_self_eq_true, Nat.reduceSub, Nat.reduceLT, Int.reduceSub, Int.reduceAdd, Int.reduceMul, Int.reduceLT, Int.reduceLE, Int.reduceToNat, optI, aslice, cutSl, cutMs, cutStr, cutOwn, cellsOf, one, elCells, lenOf, beqV, beqVL, strip, stripO, convS]) | ((first | rw [WP_condK] | rw [WP_opsG] | rw [WP_quiG] | rw [WP_dG]); refine And.intro (fun hb => ?_) (fun hb => ?_) <;> (first | have hd := dq1 hb | have hd := dq2 hb | have hd := dq3 hb | have hd := dq4 hb | skip)))
  · rw [if_neg hc0, if_neg hc0]
    rw [if_neg hc0] at hm
    have hbx := D.box
    obtain ⟨lp, ep⟩ := List.getElem?_eq_some_iff.1 hbx
    obtain ⟨ln, _⟩ := List.getElem?_eq_some_iff.1 D.now
    have hcl := call_mclone D.now
    have hpn : p ≠ n := fun e => by have := D.box; rw [e, D.now] at this; cases this
    generalize hh1 : h ++ [AObj.map none c bs0 (fsV d.now)] = h1 at hcl
    have l1 : h1.length = h.length + 1 := by rw [← hh1]; simp
    have hbx1 : h1[p]? = some (.cells (dC d.size s n A d.c)) := by rw [← hh1, List.getElem?_append_left lp]; exact hbx
    have lp1 : p < h1.length := by omega
    have hbx2 : ∀ X, (h1.set p (.cells X))[p]? = some (.cells X) := fun X => List.getElem?_set_self lp1
    have hs2 : ∀ X Y, (h1.set p (.cells X)).set p (.cells Y) = h1.set p (.cells Y) := fun X Y => List.set_set ..
    have hdid := c_did (hbx2 (dC d.size h.length n .nil d.c)) (fun _ => D.cal)
    rw [hs2] at hdid
    have hrun : ag T 15 [.ptr p 0] h = some (i64 0, h1.set p (.cells (dC d.size h.length n .nil (stepC d.c)))) := by
      refine WP_eq (k_wp rfl t15 rfl rfl ?_)
      unfold stepC
      unfold dC at *
      first | have hb := hb | have hb := trivial
      repeat' (first | (simp -implicitDefEqProofs (disch := omega) only [hb, F15, hm, hbx, hcl, hbx1, hbx2, hs2, hdid, wC, initE, aop, Nat.reduceEqDiff, ↓reduceIte, Nat.reduceAdd, finish, resOf, tupOf, AM.freeze, freeze1, freezeL, closed, nam, namL, if_true, if_false, deref, boxAt, exAt, ldCells, oneL, oneCell, Nat.reduceLeDiff, evL, adopt, rigid, rigidL, trim, Int.reduceEq, Int.reduceMod, Int.reduceDiv, if_pos, if_neg, asI, forall_const, implies_true, chkD, chkO, chkW, effB, reB, vEq, beq_self_eq_true, Nat.reduceSub, Nat.reduceLT, Int.reduceSub, Int.reduceAdd, Int.reduceMul, Int.reduceLT, Int.reduceLE, Int.reduceToNat, optI, aslice, cutSl, cutMs, cutStr, cutOwn, cellsOf, one, elCells, lenOf, beqV, beqVL, strip, stripO, convS]) | ((first | rw [WP_condK] | rw [WP_opsG] | rw [WP_quiG] | rw [WP_dG]); refine And.intro (fun hb => ?_) (fun hb => ?_) <;> (first | have hd := dq1 hb | have hd := dq2 hb | have hd := dq3 hb | have hd := dq4 hb | skip)))
    have hget : ∀ i, i < h.length → i ≠ p → (h1.set p (.cells (dC d.size h.length n .nil (stepC d.c))))[i]? = h[i]? := fun i hi hp => by
      rw [List.getElem?_set_ne (fun e => hp e.symm), ← hh1, List.getElem?_append_left hi]
    refine ⟨_, h.length, [], hrun, ⟨⟨by rw [List.length_set]; omega, fun i hi hn => hget i hi (fun e => hn (by simp [e]))⟩, fun i hi => ?_⟩, ⟨.nil, [], c, bs0, c, bs0, hbx2 _, ?_, D.wn, ?_, D.wn, .inl ⟨rfl, rfl, rfl⟩, trivial, by show n ≠ h.length; omega, by simp [syncD], ?_, rfl, D.small, D.big⟩⟩
    · simp only [List.mem_cons, List.not_mem_nil, or_false] at hi ⊢
      rcases hi with h | h | h
      · exact .inl (.inl h)
      · exact .inl (.inr (.inl h))
      · exact .inr (by omega)
    · rw [hget n ln hpn.symm]; exact D.now
    · rw [List.getElem?_set_ne (by omega), ← hh1, get_app0]; rfl
    · have := D.cal; show (if 0 < d.c then d.c - 1 else d.c) ≤ _; split <;> omega
/-- what is read, and why nothing is -/
def readE (d : Dk) (nm : List Int) : Int := remE d nm
theorem d_read (D : DkH h p n s J d) {nm : List Int} (hnm : Bytes nm) (hsz : nm.length ≤ 9223372036854775807) :
    ∃ g, (readE d nm ≠ 0 → ag T 9 [.ptr p 0, stB' nm] h = some (.tup [.nil, i64 (readE d nm)], h ++ g)) ∧
      (∀ r, readE d nm = 0 → findF nm d.now 0 = some r → ag T 9 [.ptr p 0, stB' nm] h = some (.tup [.slice (.tok (h.length + 1)) none (r.2.flatten.map u8), i64 0], h ++ [.cells [.slice .none none (r.2.map partV), i64 (r.2.flatten.length : Nat)], .row none r.2.flatten.length])) := by
  obtain ⟨A, els, c, bs0, c', bs', D⟩ := D
  have hm := c_may D.box [strOfNums nm] (fun x hx => by simp at hx; subst hx; rw [st_size]; omega) (by simp)
  simp only [List.map_cons, List.map_nil] at hm
  have hbx := D.box
  have hme : mapEs h (.map n) = some (fsV d.now) := by simp [mapEs, mapAt, D.now]
  have hf := findM_fs hnm D.wn.names 0
  have g0 : ∀ x g, (h ++ (x :: g))[h.length]? = some x := fun x g => app_get _ _ _ 0 rfl
  have s0 : ∀ x g u, (h ++ (x :: g)).set h.length u = h ++ (u :: g) := fun x g u => app_set _ _ _ 0 u rfl
  unfold dC at hbx
  by_cases h0 : mayS [strOfNums nm] d.c = 0
  · rw [h0] at hm
    have e0 : readE d nm = nonE d nm := by unfold readE remE; rw [if_neg (by rw [h0]; simp)]
    rw [e0]
    cases hr : findF nm d.now 0 with
    | none =>
      have e1 : nonE d nm = 4 := by unfold nonE; rw [if_pos hr]
      rw [e1]
      refine ⟨[.cells [.nil, i64 0]], fun _ => WP_eq (k_wp rfl t9 rfl rfl ?_), fun r hh => by cases hh⟩
      rw [hr, Option.map_none] at hf
      first | have hb := hb | have hb := trivial
      repeat' (first | (simp -implicitDefEqProofs (disch := omega) only [hb, F9, hm, hbx, hme, hf, g0, s0, keyB, valM, Option.isSome_none, setEls, List.replicate_succ, List.replicate_zero, wC, wO, initE, aop, Nat.reduceEqDiff, ↓reduceIte, Nat.reduceAdd, finish, resOf, tupOf, AM.freeze, freeze1, freezeL, closed, nam, namL, if_true, if_false, deref, boxAt, exAt, ldCells, oneL, oneCell, Nat.reduceLeDiff, evL, adopt, rigid, rigidL, trim, Int.reduceEq, Int.reduceMod, Int.reduceDiv, if_pos, if_neg, asI, forall_const, implies_true, chkD, chkO, chkW, effB, reB, vEq, beq_self_eq_true, Nat.reduceSub, Nat.reduceLT, Int.reduceSub, Int.reduceAdd, Int.reduceMul, Int.reduceLT, Int.reduceLE, Int.reduceToNat, optI, aslice, cutSl, cutMs, cutStr, cutOwn]) | ((first | rw [WP_condK] | rw [WP_opsG] | rw [WP_quiG] | rw [WP_dG]); refine And.intro (fun hb => ?_) (fun hb => ?_) <;> (first | have hd := dq1 hb | have hd := dq2 hb | have hd := dq3 hb | have hd := dq4 hb | skip)))
    | some r =>
      have e1 : nonE d nm = 0 := by unfold nonE; rw [if_neg (by rw [hr]; simp)]
      rw [e1]
      refine ⟨[], fun hh => absurd rfl hh, fun r' _ hr' => ?_⟩
      cases hr'
      have hB : r.2.flatten.length ≤ 140737488355328 := by
        have := tot_erase (found hr)
        have := D.tot
        have := D.big
        omega
      have hpl := (D.wn.found hr).2
      have hby := fun h => call_bytes r.2 hB (by omega) h
      rw [hr, Option.map_some] at hf
      refine WP_eq (k_wp rfl t9 rfl rfl ?_)
      unfold fileV at hf hby
      generalize r.2.map partV = P at *
      generalize hFF : r.2.flatten = FF at *
      first | have hb := hb | have hb := trivial
      repeat' (first | (simp -implicitDefEqProofs (disch := omega) only [hb, F9, hm, hbx, hme, hf, g0, s0, keyB, valM, Option.isSome_some, setEls, List.replicate_succ, List.replicate_zero, hby, List.append_assoc, wC, wO, initE, aop, Nat.reduceEqDiff, ↓reduceIte, Nat.reduceAdd, finish, resOf, tupOf, AM.freeze, freeze1, freezeL, closed, nam, namL, if_true, if_false, deref, boxAt, exAt, ldCells, oneL, oneCell, Nat.reduceLeDiff, evL, adopt, rigid, rigidL, trim, Int.reduceEq, Int.reduceMod, Int.reduceDiv, if_pos, if_neg, asI, forall_const, implies_true, chkD, chkO, chkW, effB, reB, vEq, beq_self_eq_true, Nat.reduceSub, Nat.reduceLT, Int.reduceSub, Int.reduceAdd, Int.reduceMul, Int.reduceLT, Int.reduceLE, Int.reduceToNat, optI, aslice, cutSl, cutMs, cutStr, cutOwn]) | ((first | rw [WP_condK] | rw [WP_opsG] | rw [WP_quiG] | rw [WP_dG]); refine And.intro (fun hb => ?_) (fun hb => ?_) <;> (first | have hd := dq1 hb | have hd := dq2 hb | have hd := dq3 hb | have hd := dq4 hb | skip)))
  · have e0 : readE d nm = mayS [strOfNums nm] d.c := by unfold readE remE; rw [if_pos h0]
    rw [e0]
    refine ⟨[], fun _ => WP_eq (k_wp rfl t9 rfl rfl ?_), fun r hh => absurd hh h0⟩
    rw [List.append_nil]
    generalize mayS [strOfNums nm] d.c = e at *
    first | have hb := hb | have hb := trivial
    repeat' (first | (simp -implicitDefEqProofs (disch := omega) only [hb, F9, hm, h0, setEls, List.replicate_succ, List.replicate_zero, elFits, stripEl, wC, initE, aop, Nat.reduceEqDiff, ↓reduceIte, Nat.reduceAdd, finish, resOf, tupOf, AM.freeze, freeze1, freezeL, closed, nam, namL, if_true, if_false, deref, boxAt, exAt, ldCells, oneL, oneCell, Nat.reduceLeDiff, evL, adopt, rigid, rigidL, trim, Int.reduceEq, Int.reduceMod, Int.reduceDiv, if_pos, if_neg, asI, forall_const, implies_true, chkD, chkO, chkW, effB, reB, vEq, beq_self_eq_true, Nat.reduceSub, Nat.reduceLT, Int.reduceSub, Int.reduceAdd, Int.reduceMul, Int.reduceLT, Int.reduceLE, Int.reduceToNat, optI, aslice, cutSl, cutMs, cutStr, cutOwn, cellsOf, one, elCells, lenOf, beqV, beqVL, strip, stripO, convS]) | ((first | rw [WP_condK] | rw [WP_opsG] | rw [WP_quiG] | rw [WP_dG]); refine And.intro (fun hb => ?_) (fun hb => ?_) <;> (first | have hd := dq1 hb | have hd := dq2 hb | have hd := dq3 hb | have hd := dq4 hb | skip)))
theorem d_unsure (D : DkH h p n s J d) : ag T 17 [.ptr p 0] h = some (i64 (d.acts.length : Nat), h) := by
  obtain ⟨A, els, c, bs0, c', bs', D⟩ := D
  refine WP_eq (k_wp rfl t17 rfl rfl ?_)
  have hm := c_made D.box
  have hbx := D.box
  have hlen := actsR_len D.acts
  have hA : lenOf A = some d.acts.length := by
    rcases D.row with ⟨rfl, rfl, _⟩ | ⟨j, _, rfl, _⟩
    · rw [← hlen]; rfl
    · rw [← hlen]; rfl
  unfold dC at hbx
  first | have hb := hb | have hb := trivial
  repeat' (first | (simp -implicitDefEqProofs (disch := omega) only [hb, F17, hm, hbx, hA, wC, wO, initE, aop, Nat.reduceEqDiff, ↓reduceIte, Nat.reduceAdd, finish, resOf, tupOf, AM.freeze, freeze1, freezeL, closed, nam, namL, if_true, if_false, deref, boxAt, exAt, ldCells, oneL, oneCell, Nat.reduceLeDiff, evL, adopt, rigid, rigidL, trim, Int.reduceEq, Int.reduceMod, Int.reduceDiv, if_pos, if_neg, asI, forall_const, implies_true, chkD, chkO, chkW, effB, reB, vEq, beq_self_eq_true, Nat.reduceSub, Nat.reduceLT, Int.reduceSub, Int.reduceAdd, Int.reduceMul, Int.reduceLT, Int.reduceLE, Int.reduceToNat, optI, aslice, cutSl, cutMs, cutStr, cutOwn]) | ((first | rw [WP_condK] | rw [WP_opsG] | rw [WP_quiG] | rw [WP_dG]); refine And.intro (fun hb => ?_) (fun hb => ?_) <;> (first | have hd := dq1 hb | have hd := dq2 hb | have hd := dq3 hb | have hd := dq4 hb | skip)))
end
end Go.Proofs.Ytccllndmknnehaa.AM

/- layer 10: Crash. -/
namespace Go.Proofs.Ytccllndmknnehaa.AM
open Go
set_option maxRecDepth 100000
set_option maxHeartbeats 4000000
set_option linter.unusedVariables false
set_option linter.unusedSimpArgs false
section
variable {h : Heap} {p n s : Nat} {J : List Nat} {d : Dk} {A : AV} {els : List AV} {c : Nat} {bs0 : List Nat} {c' : Nat} {bs' : List Nat}
/-- an act is done to a tree -/
theorem act_run {h : Heap} {p s c : Nat} {bs : List Nat} {fs : Fs} {v : AV} {a : Dact} (hs : h[s]? = some (.map none c bs (fsV fs))) (w : Wf c bs fs) (r : actR h p v a) (hv : validA fs a) (hb : (totF (runA fs a) : Int) ≤ 268435456) (hfs : (totF fs : Int) ≤ 268435456) (hfew : ∀ x ∈ runA fs a, x.2.length ≤ 1000000000) :
    ∃ f caps b ad nm, v = .agg [.func (.func f) [] caps, i64 b, .bool ad, .str nm] ∧ ∃ g c2 bs2, Wf c2 bs2 (runA fs a) ∧ ag T f (.map s :: i64 b :: caps) h = some (.tup [], h.set s (.map none c2 bs2 (fsV (runA fs a))) ++ g) := by
  have flat : ∀ {nm : List Int} {r : Nat × Fl}, findF nm fs 0 = some r → r.2.flatten.length ≤ 140737488355328 := fun hr => by
    have := tot_erase (found hr)
    omega
  cases a with
  | add nm l =>
    obtain ⟨q, o, rfl, hq, _, hnm⟩ := r
    refine ⟨_, _, _, _, _, rfl, [], ?_⟩
    have hB : (moreF (findF nm fs 0) l).flatten.length ≤ 140737488355328 := by
      have := flat_tot (fs := fs) (nm := nm) (l := l)
      have e : totF (runA fs (.add nm l)) = totF fs + l.length := tot_put
      omega
    have hp : (moreF (findF nm fs 0) l).length ≤ 1000000000 := hfew (nm, moreF (findF nm fs 0) l) (by
      show _ ∈ putF fs nm _ _
      cases hr : findF nm fs 0 with
      | none => simp [putF]
      | some r => exact List.mem_set (List.getElem?_eq_some_iff.1 (found hr)).1 _)
    have := c_add (k := l.length) hs hq w hnm (Nat.le_refl _) (by rw [List.take_length]; exact hB)
    rw [List.take_length] at this
    exact ⟨_, _, w.put hnm hp, by rw [List.append_nil]; exact this⟩
  | trunc nm k =>
    obtain ⟨rfl, hnm⟩ := r
    obtain ⟨r, hr⟩ := hv
    have := c_trunc (k := k) hs w hnm hr (flat hr)
    unfold putO at this
    have w2 := w.put hnm (ps := [r.2.flatten.take k]) (by simp)
    rw [hr] at this w2
    refine ⟨_, _, _, _, _, rfl, _, _, _, ?_, c_inner (by simp only [runA, hr]; exact this)⟩
    simp only [runA, hr]
    exact w2
  | ren a b =>
    obtain ⟨rfl, ha, hb'⟩ := r
    obtain ⟨r, hr⟩ := hv
    have := c_ren hs w ha hb' hr
    refine ⟨_, _, _, _, _, rfl, _, _, _, ?_, c_inner (by simp only [runA, hr]; exact this)⟩
    simp only [runA, hr]
    exact (w.erase r.1).put hb' (w.found hr).2
  | rem nm =>
    obtain ⟨rfl, hnm⟩ := r
    obtain ⟨r, hr⟩ := hv
    have := c_rem hs w hnm hr
    refine ⟨_, _, _, _, _, rfl, [], _, _, ?_, c_inner (by rw [List.append_nil]; simp only [runA, hr]; exact this)⟩
    simp only [runA, hr]
    exact w.erase r.1
theorem actsR.get {h : Heap} {p : Nat} : ∀ {vs : List AV} {ac : List Dact}, actsR h p vs ac → ∀ {i : Nat} {a : Dact}, ac[i]? = some a → ∃ v, vs[i]? = some v ∧ actR h p v a
  | v :: vs, a :: ac, r, 0, b, hb => by simp at hb; subst hb; exact ⟨v, rfl, r.1⟩
  | v :: vs, a :: ac, r, i + 1, b, hb => by simpa using actsR.get r.2 (by simpa using hb)
  | [], [], _, i, b, hb => by simp at hb
  | [], _ :: _, h, _, _, _ => h.elim
  | _ :: _, [], h, _, _, _ => h.elim
theorem okRun.at_ {size : Int} : ∀ {ac : List Dact} {fs : Fs}, okRun size fs ac → ∀ (j : Nat) {a : Dact}, ac[j]? = some a → small size ((ac.take j).foldl runA fs) ∧ validA ((ac.take j).foldl runA fs) a ∧ small size ((ac.take (j + 1)).foldl runA fs)
  | a :: ac, fs, h, 0, b, hb => by simp at hb; subst hb; exact ⟨h.1, h.2.1, by simpa using h.2.2.first⟩
  | a :: ac, fs, h, j + 1, b, hb => by simpa using okRun.at_ h.2.2 j (by simpa using hb)
  | [], fs, h, j, b, hb => by simp at hb
theorem okRun.pre {size : Int} : ∀ {ac : List Dact} {fs : Fs}, okRun size fs ac → ∀ (j : Nat), small size ((ac.take j).foldl runA fs)
  | [], fs, h, j => by rw [List.take_nil]; exact h
  | a :: ac, fs, h, 0 => h.1
  | a :: ac, fs, h, j + 1 => by simpa using okRun.pre h.2.2 j
theorem fold_succ {ac : List Dact} {fs : Fs} {j : Nat} {a : Dact} (h : ac[j]? = some a) : (ac.take (j + 1)).foldl runA fs = runA ((ac.take j).foldl runA fs) a := by
  rw [List.take_add_one, h, List.foldl_append]
  rfl
/-- the loop over the first acts -/
theorem crash_loop (D : DkV h p n s J d A els c bs0 c' bs') (k : Nat) (hk : k ≤ d.acts.length) (m : Nat) (kk : Int) (bb : Int) (e : Env) (e0 : getE e 0 = .ptr p 0) (e1 : getE e 1 = i64 kk) (e2 : getE e 2 = i64 bb) (e7 : getE e 7 = .map s) (S42 : AV) (e42 : getE e 42 = S42) (hS : k = 0 ∨ S42 = .slice .none (some 4) (els.take k)) (e43 : getE e 43 = i64 k) (e44 : getE e 44 = i64 0) {Q : Res → Prop}
    (hQ : ∀ e' h' c2 bs2, getE e' 0 = .ptr p 0 → getE e' 1 = i64 kk → getE e' 2 = i64 bb → getE e' 7 = .map s → Keep h h' [s] → h'[s]? = some (.map none c2 bs2 (fsV ((d.acts.take k).foldl runA d.sure))) → Wf c2 bs2 ((d.acts.take k).foldl runA d.sure) → Q (.exit 1, e', h')) :
    WP Q (axl T [0, 1, 2, 7, 42, 43, 44] false L18_0 m e h) := by
  refine WP_loop (I := fun f e h' => ∃ j c2 bs2, f = k - j ∧ j ≤ k ∧ getE e 0 = .ptr p 0 ∧ getE e 1 = i64 kk ∧ getE e 2 = i64 bb ∧ getE e 7 = .map s ∧ getE e 42 = S42 ∧ getE e 43 = i64 k ∧ getE e 44 = i64 j ∧ Keep h h' [s] ∧ h'[s]? = some (.map none c2 bs2 (fsV ((d.acts.take j).foldl runA d.sure))) ∧ Wf c2 bs2 ((d.acts.take j).foldl runA d.sure)) ?_ k _ _
    ⟨0, c', bs', rfl, Nat.zero_le _, e0, e1, e2, e7, e42, e43, e44, Keep.refl _ _, D.sure, D.ws⟩
  clear e0 e1 e2 e7 e42 e43 e44 e
  rintro f e h' ⟨j, c2, bs2, rfl, hj, e0, e1, e2, e7, e42, e43, e44, hkp, hs, w⟩
  rw [trim_off]
  by_cases hjk : j = k
  · subst hjk
    have hlt : ¬ ((j : Int) < (j : Int)) := Int.lt_irrefl _
    first | have hb := hb | have hb := trivial
    repeat' (first | (simp -implicitDefEqProofs (disch := omega) only [hb, L18_0, e0, e1, e2, e7, e42, e43, e44, hlt, wC, initE, aop, Nat.reduceEqDiff, ↓reduceIte, Nat.reduceAdd, finish, resOf, tupOf, AM.freeze, freeze1, freezeL, closed, nam, namL, if_true, if_false, deref, boxAt, exAt, ldCells, oneL, oneCell, Nat.reduceLeDiff, evL, adopt, rigid, rigidL, trim, Int.reduceEq, Int.reduceMod, Int.reduceDiv, if_pos, if_neg, asI, forall_const, implies_true, chkD, chkO, chkW, effB, reB, vEq, beq_self_eq_true, Nat.reduceSub, Nat.reduceLT, Int.reduceSub, Int.reduceAdd, Int.reduceMul, Int.reduceLT, Int.reduceLE, Int.reduceToNat, optI, aslice, cutSl, cutMs, cutStr, cutOwn, cellsOf, one, elCells, lenOf, beqV, beqVL, strip, stripO, convS]) | ((first | rw [WP_condK] | rw [WP_opsG] | rw [WP_quiG] | rw [WP_dG]); refine And.intro (fun hb => ?_) (fun hb => ?_) <;> (first | have hd := dq1 hb | have hd := dq2 hb | have hd := dq3 hb | have hd := dq4 hb | skip)))
    exact hQ _ _ _ _ rfl rfl rfl rfl hkp hs w
  · have hlt : (j : Int) < (k : Int) := by omega
    obtain ⟨a, ha⟩ : ∃ a, d.acts[j]? = some a := ⟨_, List.getElem?_eq_getElem (by omega)⟩
    obtain ⟨v, hv, hr⟩ := D.acts.get ha
    have hr' := hr.keep hkp (fun i hi => by simp at hi; subst hi; right; intro cs hc; rw [D.sure] at hc; cases hc)
    obtain ⟨q1, q2, q3⟩ := D.run.at_ j ha
    have hbig := D.big
    have hfs := fold_succ (fs := d.sure) ha
    rw [hfs] at q3
    rcases hS with rfl | hS
    · omega
    rw [hS] at e42
    have hg : (els.take k)[j]? = some v := by rw [List.getElem?_take, if_pos (by omega)]; exact hv
    have g0 : ∀ x g, (h' ++ (x :: g))[h'.length]? = some x := fun x g => app_get _ _ _ 0 rfl
    have s0 : ∀ x g u, (h' ++ (x :: g)).set h'.length u = h' ++ (u :: g) := fun x g u => app_set _ _ _ 0 u rfl
    have hw : IntKind.i64.wrap (((j + 1 : Nat) : Int)) = ((j + 1 : Nat) : Int) := by rw [IntKind.wrap_i64]; have := D.few; omega
    have hls := (List.getElem?_eq_some_iff.1 hs).1
    obtain ⟨f0, caps, b, ad, nm, rfl, _⟩ := act_run hs w hr' q2 (by have := q3.1; omega) (by have := q1.1; omega) q3.2
    have hkp2 := hkp.trans (keep_app h' [.cells [.func (.func f0) [] caps, i64 b, .bool ad, .str nm]] [s]) (fun i hi => .inl hi)
    have hr2 := hr.keep hkp2 (fun i hi => by simp at hi; subst hi; right; intro cs hc; rw [D.sure] at hc; cases hc)
    have hs2 : (h' ++ [AObj.cells [.func (.func f0) [] caps, i64 b, .bool ad, .str nm]])[s]? = some (.map none c2 bs2 (fsV ((d.acts.take j).foldl runA d.sure))) := by rw [List.getElem?_append_left hls]; exact hs
    obtain ⟨_, _, _, _, _, heq, g, c3, bs3, w3, hrun⟩ := act_run hs2 w hr2 q2 (by have := q3.1; omega) (by have := q1.1; omega) q3.2
    cases heq
    have l2 : ∀ X, ((h' ++ [AObj.cells [.func (.func f0) [] caps, i64 b, .bool ad, .str nm]]).set s X ++ g).length = h'.length + 1 + g.length := fun X => by simp [Nat.add_assoc]
    have hk3 : ∀ X, Keep h ((h' ++ [AObj.cells [.func (.func f0) [] caps, i64 b, .bool ad, .str nm]]).set s X ++ g) [s] := fun X => ⟨by rw [l2]; have := hkp.1; omega, fun i hi hn => by
      simp only [List.mem_singleton] at hn
      have hi' : i < h'.length := Nat.lt_of_lt_of_le hi hkp.1
      rw [List.getElem?_append_left (by simp; omega), List.getElem?_set_ne (fun e => hn e.symm), List.getElem?_append_left hi', hkp.2 i hi (by simp [hn])]⟩
    have hs3 : ∀ X, ((h' ++ [AObj.cells [.func (.func f0) [] caps, i64 b, .bool ad, .str nm]]).set s X ++ g)[s]? = some X := fun X => by
      rw [List.getElem?_append_left (by simp; omega), List.getElem?_set_self (by simp; omega)]
    rw [← hfs] at w3 hrun
    first | have hb := hb | have hb := trivial
    repeat' (first | (simp -implicitDefEqProofs (disch := omega) only [hb, L18_0, e0, e1, e2, e7, e42, e43, e44, hlt, hg, g0, s0, hrun, hw, wC, initE, aop, Nat.reduceEqDiff, ↓reduceIte, Nat.reduceAdd, finish, resOf, tupOf, AM.freeze, freeze1, freezeL, closed, nam, namL, if_true, if_false, deref, boxAt, exAt, ldCells, oneL, oneCell, Nat.reduceLeDiff, evL, adopt, rigid, rigidL, trim, Int.reduceEq, Int.reduceMod, Int.reduceDiv, if_pos, if_neg, asI, forall_const, implies_true, chkD, chkO, chkW, effB, reB, vEq, beq_self_eq_true, Nat.reduceSub, Nat.reduceLT, Int.reduceSub, Int.reduceAdd, Int.reduceMul, Int.reduceLT, Int.reduceLE, Int.reduceToNat, optI, aslice, cutSl, cutMs, cutStr, cutOwn, cellsOf, one, elCells, lenOf, beqV, beqVL, strip, stripO, convS]) | ((first | rw [WP_condK] | rw [WP_opsG] | rw [WP_quiG] | rw [WP_dG]); refine And.intro (fun hb => ?_) (fun hb => ?_) <;> (first | have hd := dq1 hb | have hd := dq2 hb | have hd := dq3 hb | have hd := dq4 hb | skip)))
    exact ⟨k - (j + 1), by omega, j + 1, _, _, rfl, by omega, hS.symm, rfl, hk3 _, hs3 _, w3⟩
def crashD (d : Dk) (S : Fs) : Dk := { d with sure := S, now := S, acts := [], c := -1 }
/-- what is there behind a crash -/
def crashS (d : Dk) (k b : Nat) : Fs := match d.acts[k]? with
  | some (.add nm l) => if (findF nm ((d.acts.take k).foldl runA d.sure) 0).isSome = true ∨ 0 < b then runA ((d.acts.take k).foldl runA d.sure) (.add nm (l.take b)) else (d.acts.take k).foldl runA d.sure
  | _ => (d.acts.take k).foldl runA d.sure
theorem crash_fin (D : DkV h p n s J d A els c bs0 c' bs') {hE : Heap} {S : Fs} {c2 : Nat} {bs2 : List Nat} (hk : Keep h hE [s]) (hs : hE[s]? = some (.map none c2 bs2 (fsV S))) (w : Wf c2 bs2 S) (hsm : small d.size S) :
    Stp h p n s J ((hE ++ [AObj.map none c2 bs2 (fsV S)]).set p (.cells (dC d.size s hE.length .nil (-1)))) hE.length s [] ∧ DkH ((hE ++ [AObj.map none c2 bs2 (fsV S)]).set p (.cells (dC d.size s hE.length .nil (-1)))) p hE.length s [] (crashD d S) := by
  have lp := (List.getElem?_eq_some_iff.1 D.box).1
  have ls := (List.getElem?_eq_some_iff.1 D.sure).1
  have hps : p ≠ s := fun e => by have := D.box; rw [e, D.sure] at this; cases this
  have hl := hk.1
  refine ⟨⟨⟨by simp; omega, fun i hi hn => ?_⟩, fun i hi => ?_⟩, ⟨.nil, [], c2, bs2, c2, bs2, List.getElem?_set_self (by simp; omega), ?_, w, ?_, w, .inl ⟨rfl, rfl, rfl⟩, trivial, by omega, by simp [crashD], by simp [crashD], rfl, hsm, D.big⟩⟩
  · simp only [List.mem_cons, not_or] at hn
    rw [List.getElem?_set_ne (fun e => hn.1 e.symm), List.getElem?_append_left (by omega), hk.2 i hi (by simp [hn.2.2.1])]
  · simp only [List.mem_cons, List.not_mem_nil, or_false] at hi ⊢
    rcases hi with h | h | h
    · exact .inl (.inl h)
    · exact .inr (by omega)
    · exact .inl (.inr (.inr (.inl h)))
  · rw [List.getElem?_set_ne (by omega), get_app0]; rfl
  · rw [List.getElem?_set_ne hps, List.getElem?_append_left (by omega)]; exact hs
theorem crash_end (D : DkV h p n s J d A els c bs0 c' bs') {hE : Heap} {S : Fs} {c2 : Nat} {bs2 : List Nat} (hk : Keep h hE [s]) (hs : hE[s]? = some (.map none c2 bs2 (fsV S))) (w : Wf c2 bs2 S) (hsm : small d.size S) :
    ∃ h1, ag T 33 [.map s] hE = some (.map hE.length, h1) ∧ h1[p]? = some (.cells (dC d.size s n A d.c)) ∧ (∀ X, (h1.set p (.cells X))[p]? = some (.cells X)) ∧ (∀ X Y, (h1.set p (.cells X)).set p (.cells Y) = h1.set p (.cells Y)) ∧
      Stp h p n s J (h1.set p (.cells (dC d.size s hE.length .nil (-1)))) hE.length s [] ∧ DkH (h1.set p (.cells (dC d.size s hE.length .nil (-1)))) p hE.length s [] (crashD d S) := by
  have hps : p ≠ s := fun e => by have := D.box; rw [e, D.sure] at this; cases this
  have hbE := hk.get D.box (by simp [hps])
  have lE := (List.getElem?_eq_some_iff.1 hbE).1
  obtain ⟨r1, r2⟩ := crash_fin D hk hs w hsm
  exact ⟨_, call_mclone hs, by rw [List.getElem?_append_left lE]; exact hbE, fun X => List.getElem?_set_self (by simp; omega), fun X Y => List.set_set .., r1, r2⟩
theorem d_crash_arg (D : DkH h p n s J d) (k b : Int) (hkb : k < 0 ∨ (d.acts.length : Int) < k ∨ b < 0) : ag T 18 [.ptr p 0, i64 k, i64 b] h = some (i64 1, h) := by
  obtain ⟨A, els, c, bs0, c', bs', D⟩ := D
  refine WP_eq (k_wp rfl t18 rfl rfl ?_)
  have hm := c_made D.box
  have hbx := D.box
  have hlen := actsR_len D.acts
  have hA : lenOf A = some d.acts.length := by
    rcases D.row with ⟨rfl, rfl, _⟩ | ⟨j, _, rfl, _⟩
    · rw [← hlen]; rfl
    · rw [← hlen]; rfl
  unfold dC at hbx
  by_cases h1 : k < 0
  · first | have hb := hb | have hb := trivial
    repeat' (first | (simp -implicitDefEqProofs (disch := omega) only [hb, F18, hm, hbx, hA, h1, wC, wO, initE, aop, Nat.reduceEqDiff, ↓reduceIte, Nat.reduceAdd, finish, resOf, tupOf, AM.freeze, freeze1, freezeL, closed, nam, namL, if_true, if_false, deref, boxAt, exAt, ldCells, oneL, oneCell, Nat.reduceLeDiff, evL, adopt, rigid, rigidL, trim, Int.reduceEq, Int.reduceMod, Int.reduceDiv, if_pos, if_neg, asI, forall_const, implies_true, chkD, chkO, chkW, effB, reB, vEq, beq_self_eq_true, Nat.reduceSub, Nat.reduceLT, Int.reduceSub, Int.reduceAdd, Int.reduceMul, Int.reduceLT, Int.reduceLE, Int.reduceToNat, optI, aslice, cutSl, cutMs, cutStr, cutOwn]) | ((first | rw [WP_condK] | rw [WP_opsG] | rw [WP_quiG] | rw [WP_dG]); refine And.intro (fun hb => ?_) (fun hb => ?_) <;> (first | have hd := dq1 hb | have hd := dq2 hb | have hd := dq3 hb | have hd := dq4 hb | skip)))
  · by_cases h2 : (d.acts.length : Int) < k
    · first | have hb := hb | have hb := trivial
      repeat' (first | (simp -implicitDefEqProofs (disch := omega) only [hb, F18, hm, hbx, hA, h1, h2, wC, wO, initE, aop, Nat.reduceEqDiff, ↓reduceIte, Nat.reduceAdd, finish, resOf, tupOf, AM.freeze, freeze1, freezeL, closed, nam, namL, if_true, if_false, deref, boxAt, exAt, ldCells, oneL, oneCell, Nat.reduceLeDiff, evL, adopt, rigid, rigidL, trim, Int.reduceEq, Int.reduceMod, Int.reduceDiv, if_pos, if_neg, asI, forall_const, implies_true, chkD, chkO, chkW, effB, reB, vEq, beq_self_eq_true, Nat.reduceSub, Nat.reduceLT, Int.reduceSub, Int.reduceAdd, Int.reduceMul, Int.reduceLT, Int.reduceLE, Int.reduceToNat, optI, aslice, cutSl, cutMs, cutStr, cutOwn]) | ((first | rw [WP_condK] | rw [WP_opsG] | rw [WP_quiG] | rw [WP_dG]); refine And.intro (fun hb => ?_) (fun hb => ?_) <;> (first | have hd := dq1 hb | have hd := dq2 hb | have hd := dq3 hb | have hd := dq4 hb | skip)))
    · have h3 : b < 0 := by omega
      first | have hb := hb | have hb := trivial
      repeat' (first | (simp -implicitDefEqProofs (disch := omega) only [hb, F18, hm, hbx, hA, h1, h2, h3, wC, wO, initE, aop, Nat.reduceEqDiff, ↓reduceIte, Nat.reduceAdd, finish, resOf, tupOf, AM.freeze, freeze1, freezeL, closed, nam, namL, if_true, if_false, deref, boxAt, exAt, ldCells, oneL, oneCell, Nat.reduceLeDiff, evL, adopt, rigid, rigidL, trim, Int.reduceEq, Int.reduceMod, Int.reduceDiv, if_pos, if_neg, asI, forall_const, implies_true, chkD, chkO, chkW, effB, reB, vEq, beq_self_eq_true, Nat.reduceSub, Nat.reduceLT, Int.reduceSub, Int.reduceAdd, Int.reduceMul, Int.reduceLT, Int.reduceLE, Int.reduceToNat, optI, aslice, cutSl, cutMs, cutStr, cutOwn]) | ((first | rw [WP_condK] | rw [WP_opsG] | rw [WP_quiG] | rw [WP_dG]); refine And.intro (fun hb => ?_) (fun hb => ?_) <;> (first | have hd := dq1 hb | have hd := dq2 hb | have hd := dq3 hb | have hd := dq4 hb | skip)))
theorem small_pre {size : Int} {S : Fs} {nm l : List Int} {b : Nat} (h : small size (runA S (.add nm l))) (hS : small size S) : small size (runA S (.add nm (l.take b))) := by
  have e1 : totF (runA S (.add nm l)) = totF S + l.length := tot_put
  have e2 : totF (runA S (.add nm (l.take b))) = totF S + (l.take b).length := tot_put
  refine ⟨by have := h.1; rw [e1] at this; rw [e2, List.length_take]; omega, fun x hx => ?_⟩
  rcases mem_putF hx with hx | rfl
  · exact hS.2 x hx
  · have := h.2 (nm, moreF (findF nm S 0) l) (by
      show _ ∈ putF S nm _ _
      cases hr : findF nm S 0 with
      | none => simp [putF]
      | some r => exact List.mem_set (List.getElem?_eq_some_iff.1 (found hr)).1 _)
    cases hr : findF nm S 0 with
    | none => simp [moreF]
    | some r => rw [hr] at this; simpa [moreF] using this
theorem d_crash (D : DkH h p n s J d) (k b : Nat) (hk : k ≤ d.acts.length) :
    ∃ h' n', ag T 18 [.ptr p 0, i64 k, i64 b] h = some (i64 0, h') ∧ Stp h p n s J h' n' s [] ∧ DkH h' p n' s [] (crashD d (crashS d k b)) := by
  obtain ⟨A, els, c, bs0, c', bs', D⟩ := D
  suffices hwp : WP (fun r : AV × Heap => r.1 = i64 0 ∧ ∃ n', Stp h p n s J r.2 n' s [] ∧ DkH r.2 p n' s [] (crashD d (crashS d k b))) (ag T 18 [.ptr p 0, i64 k, i64 b] h) by
    obtain ⟨⟨v, h'⟩, h1, h2, n', h3, h4⟩ := WP_ex hwp
    cases h2
    exact ⟨h', n', h1, h3, h4⟩
  refine k_wp rfl t18 rfl rfl ?_
  have hm := c_made D.box
  have hbx := D.box
  have lp := (List.getElem?_eq_some_iff.1 hbx).1
  have hlen := actsR_len D.acts
  have hps : p ≠ s := fun e => by have := D.box; rw [e, D.sure] at this; cases this
  have hA : lenOf A = some d.acts.length := by
    rcases D.row with ⟨rfl, rfl, _⟩ | ⟨j, _, rfl, _⟩
    · rw [← hlen]; rfl
    · rw [← hlen]; rfl
  have hk0 : ¬ ((k : Int) < 0) := by omega
  have hk1 : ¬ ((d.acts.length : Int) < k) := by omega
  have hb0 : ¬ ((b : Int) < 0) := by omega
  obtain ⟨S42, hsl, hS42, hl42⟩ : ∃ S42, aslice h .slice (some 4) A none (some (k : Int)) none = some S42 ∧ (k = 0 ∨ S42 = .slice .none (some 4) (els.take k)) ∧ lenOf S42 = some k := by
    rcases D.row with ⟨rfl, rfl, _⟩ | ⟨j, _, rfl, _⟩
    · have : k = 0 := by simp at hlen; omega
      subst this
      exact ⟨.nil, by simp [aslice], .inl rfl, rfl⟩
    · refine ⟨.slice .none (some 4) (els.take k), ?_, .inr rfl, by simp [lenOf]; omega⟩
      have h1 : (k : Int) ≤ els.length := by omega
      have h0 : (0 : Int) ≤ k := by omega
      simp [aslice, cutSl, h1, h0]
  unfold dC at hbx
  first | have hb := hb | have hb := trivial
  repeat' (first | (simp -implicitDefEqProofs (disch := omega) only [hb, F18, hm, hbx, hA, hk0, hk1, hb0, hsl, hl42, wC, wO, initE, aop, Nat.reduceEqDiff, ↓reduceIte, Nat.reduceAdd, finish, resOf, tupOf, AM.freeze, freeze1, freezeL, closed, nam, namL, if_true, if_false, deref, boxAt, exAt, ldCells, oneL, oneCell, Nat.reduceLeDiff, evL, adopt, rigid, rigidL, trim, Int.reduceEq, Int.reduceMod, Int.reduceDiv, if_pos, if_neg, asI, forall_const, implies_true, chkD, chkO, chkW, effB, reB, vEq, beq_self_eq_true, Nat.reduceSub, Nat.reduceLT, Int.reduceSub, Int.reduceAdd, Int.reduceMul, Int.reduceLT, Int.reduceLE, Int.reduceToNat, optI, cutSl, cutMs, cutStr, cutOwn]) | ((first | rw [WP_condK] | rw [WP_opsG] | rw [WP_quiG] | rw [WP_dG]); refine And.intro (fun hb => ?_) (fun hb => ?_) <;> (first | have hd := dq1 hb | have hd := dq2 hb | have hd := dq3 hb | have hd := dq4 hb | skip)))
  refine crash_loop D k hk _ k b _ rfl rfl rfl rfl S42 rfl hS42 rfl rfl (fun e' h1 c2 bs2 e0 e1 e2 e7 hkp hs w => ?_)
  have hbx1 := hkp.get D.box (by simp [hps])
  have hsm := D.run.pre k
  cases ha : d.acts[k]? with
  | none =>
    have hlt : ¬ ((k : Int) < (d.acts.length : Nat)) := by
      have := List.getElem?_eq_none_iff.1 ha
      omega
    have hS : crashS d k b = (d.acts.take k).foldl runA d.sure := by unfold crashS; rw [ha]
    obtain ⟨h2, hcl, hb1, hb2, hs2, r1, r2⟩ := crash_end D hkp hs w hsm
    rw [hS]
    unfold dC at *
    first | have hb := hb | have hb := trivial
    repeat' (first | (simp -implicitDefEqProofs (disch := omega) only [hb, F18, e0, e1, e2, e7, hbx1, hA, hlt, hcl, hb1, hb2, hs2, mapO, wC, wO, initE, aop, Nat.reduceEqDiff, ↓reduceIte, Nat.reduceAdd, finish, resOf, tupOf, AM.freeze, freeze1, freezeL, closed, nam, namL, if_true, if_false, deref, boxAt, exAt, ldCells, oneL, oneCell, Nat.reduceLeDiff, evL, adopt, rigid, rigidL, trim, Int.reduceEq, Int.reduceMod, Int.reduceDiv, if_pos, if_neg, asI, forall_const, implies_true, chkD, chkO, chkW, effB, reB, vEq, beq_self_eq_true, Nat.reduceSub, Nat.reduceLT, Int.reduceSub, Int.reduceAdd, Int.reduceMul, Int.reduceLT, Int.reduceLE, Int.reduceToNat, optI, aslice, cutSl, cutMs, cutStr, cutOwn]) | ((first | rw [WP_condK] | rw [WP_opsG] | rw [WP_quiG] | rw [WP_dG]); refine And.intro (fun hb => ?_) (fun hb => ?_) <;> (first | have hd := dq1 hb | have hd := dq2 hb | have hd := dq3 hb | have hd := dq4 hb | skip)))
    exact ⟨_, r1, r2⟩
  | some a =>
    have hlt : ((k : Int) < (d.acts.length : Nat)) := by
      have := (List.getElem?_eq_some_iff.1 ha).1
      omega
    obtain ⟨v, hv, hr⟩ := D.acts.get ha
    obtain ⟨j, rfl⟩ : ∃ j, A = .slice (.tok j) (some 4) els := by
      rcases D.row with ⟨rfl, rfl, _⟩ | ⟨j, _, rfl, _⟩
      · simp at hv
      · exact ⟨j, rfl⟩
    cases a with
    | trunc nm k' =>
      have hS : crashS d k b = (d.acts.take k).foldl runA d.sure := by unfold crashS; rw [ha]
      obtain ⟨rfl, _⟩ := hr
      obtain ⟨h2, hcl, hb1, hb2, hs2, r1, r2⟩ := crash_end D hkp hs w hsm
      rw [hS]
      unfold dC changeC at *
      first | have hb := hb | have hb := trivial
      repeat' (first | (simp -implicitDefEqProofs (disch := omega) only [hb, F18, e0, e1, e2, e7, hbx1, hA, hlt, hv, hcl, hb1, hb2, hs2, mapO, wC, wO, initE, aop, Nat.reduceEqDiff, ↓reduceIte, Nat.reduceAdd, finish, resOf, tupOf, AM.freeze, freeze1, freezeL, closed, nam, namL, if_true, if_false, deref, boxAt, exAt, ldCells, oneL, oneCell, Nat.reduceLeDiff, evL, adopt, rigid, rigidL, trim, Int.reduceEq, Int.reduceMod, Int.reduceDiv, if_pos, if_neg, asI, forall_const, implies_true, chkD, chkO, chkW, effB, reB, vEq, beq_self_eq_true, Nat.reduceSub, Nat.reduceLT, Int.reduceSub, Int.reduceAdd, Int.reduceMul, Int.reduceLT, Int.reduceLE, Int.reduceToNat, optI, aslice, cutSl, cutMs, cutStr, cutOwn]) | ((first | rw [WP_condK] | rw [WP_opsG] | rw [WP_quiG] | rw [WP_dG]); refine And.intro (fun hb => ?_) (fun hb => ?_) <;> (first | have hd := dq1 hb | have hd := dq2 hb | have hd := dq3 hb | have hd := dq4 hb | skip)))
      exact ⟨_, r1, r2⟩
    | ren x y =>
      have hS : crashS d k b = (d.acts.take k).foldl runA d.sure := by unfold crashS; rw [ha]
      obtain ⟨rfl, _⟩ := hr
      obtain ⟨h2, hcl, hb1, hb2, hs2, r1, r2⟩ := crash_end D hkp hs w hsm
      rw [hS]
      unfold dC changeC at *
      first | have hb := hb | have hb := trivial
      repeat' (first | (simp -implicitDefEqProofs (disch := omega) only [hb, F18, e0, e1, e2, e7, hbx1, hA, hlt, hv, hcl, hb1, hb2, hs2, mapO, wC, wO, initE, aop, Nat.reduceEqDiff, ↓reduceIte, Nat.reduceAdd, finish, resOf, tupOf, AM.freeze, freeze1, freezeL, closed, nam, namL, if_true, if_false, deref, boxAt, exAt, ldCells, oneL, oneCell, Nat.reduceLeDiff, evL, adopt, rigid, rigidL, trim, Int.reduceEq, Int.reduceMod, Int.reduceDiv, if_pos, if_neg, asI, forall_const, implies_true, chkD, chkO, chkW, effB, reB, vEq, beq_self_eq_true, Nat.reduceSub, Nat.reduceLT, Int.reduceSub, Int.reduceAdd, Int.reduceMul, Int.reduceLT, Int.reduceLE, Int.reduceToNat, optI, aslice, cutSl, cutMs, cutStr, cutOwn]) | ((first | rw [WP_condK] | rw [WP_opsG] | rw [WP_quiG] | rw [WP_dG]); refine And.intro (fun hb => ?_) (fun hb => ?_) <;> (first | have hd := dq1 hb | have hd := dq2 hb | have hd := dq3 hb | have hd := dq4 hb | skip)))
      exact ⟨_, r1, r2⟩
    | rem nm =>
      have hS : crashS d k b = (d.acts.take k).foldl runA d.sure := by unfold crashS; rw [ha]
      obtain ⟨rfl, _⟩ := hr
      obtain ⟨h2, hcl, hb1, hb2, hs2, r1, r2⟩ := crash_end D hkp hs w hsm
      rw [hS]
      unfold dC changeC at *
      first | have hb := hb | have hb := trivial
      repeat' (first | (simp -implicitDefEqProofs (disch := omega) only [hb, F18, e0, e1, e2, e7, hbx1, hA, hlt, hv, hcl, hb1, hb2, hs2, mapO, wC, wO, initE, aop, Nat.reduceEqDiff, ↓reduceIte, Nat.reduceAdd, finish, resOf, tupOf, AM.freeze, freeze1, freezeL, closed, nam, namL, if_true, if_false, deref, boxAt, exAt, ldCells, oneL, oneCell, Nat.reduceLeDiff, evL, adopt, rigid, rigidL, trim, Int.reduceEq, Int.reduceMod, Int.reduceDiv, if_pos, if_neg, asI, forall_const, implies_true, chkD, chkO, chkW, effB, reB, vEq, beq_self_eq_true, Nat.reduceSub, Nat.reduceLT, Int.reduceSub, Int.reduceAdd, Int.reduceMul, Int.reduceLT, Int.reduceLE, Int.reduceToNat, optI, aslice, cutSl, cutMs, cutStr, cutOwn]) | ((first | rw [WP_condK] | rw [WP_opsG] | rw [WP_quiG] | rw [WP_dG]); refine And.intro (fun hb => ?_) (fun hb => ?_) <;> (first | have hd := dq1 hb | have hd := dq2 hb | have hd := dq3 hb | have hd := dq4 hb | skip)))
      exact ⟨_, r1, r2⟩
    | add nm l =>
      obtain ⟨q, o, rfl, hq, hqp, hnm⟩ := hr
      have hsn := D.run.at_ k ha
      generalize hSt : (d.acts.take k).foldl runA d.sure = S at *
      obtain ⟨q1, q2, q3⟩ := hsn
      rw [fold_succ ha, hSt] at q3
      have ls := (List.getElem?_eq_some_iff.1 hs).1
      have hq1 := hkp.get hq (fun hm => by simp at hm; subst hm; rw [D.sure] at hq; cases hq)
      have lq := (List.getElem?_eq_some_iff.1 hq1).1
      have lp1 := (List.getElem?_eq_some_iff.1 hbx1).1
      have hme : ∀ g, mapEs (h1 ++ g) (.map s) = some (fsV S) := fun g => by simp [mapEs, mapAt, List.getElem?_append_left ls, hs]
      have hf := findM_fs hnm w.names 0
      have g0 : ∀ x g, (h1 ++ (x :: g))[h1.length]? = some x := fun x g => app_get _ _ _ 0 rfl
      have s0 : ∀ x g u, (h1 ++ (x :: g)).set h1.length u = h1 ++ (u :: g) := fun x g u => app_set _ _ _ 0 u rfl
      have g1 : ∀ x y g, (h1 ++ (x :: y :: g))[h1.length + 1]? = some y := fun x y g => app_get _ _ _ 1 rfl
      have s1 : ∀ x y g u, (h1 ++ (x :: y :: g)).set (h1.length + 1) u = h1 ++ (x :: u :: g) := fun x y g u => app_set _ _ _ 1 u rfl
      have hv' := valM_fs (findF nm S 0)
      have his : ∀ r : Option (Nat × Fl), (Option.map (fun r => (r.1, fileV r.2)) r).isSome = r.isSome := fun r => Option.isSome_map ..
      obtain ⟨F1, F2, hF, _, _, n1, n2⟩ := find_cells (findF nm S 0)
      rw [hF] at hv'
      have hbx2 : ∀ g, (h1 ++ g)[p]? = some (.cells (dC d.size s n (.slice (.tok j) (some 4) els) d.c)) := fun g => by rw [List.getElem?_append_left lp1]; exact hbx1
      by_cases hcond : (findF nm S 0).isSome = true ∨ 0 < b
      · obtain ⟨kk, hk3, hk4, hk5⟩ : ∃ kk : Nat, (if ((l.length : Nat) : Int) < (b : Int) then ((l.length : Nat) : Int) else (b : Int)) = (kk : Int) ∧ kk ≤ l.length ∧ l.take kk = l.take b := by
          by_cases h : l.length < b
          · exact ⟨l.length, by rw [if_pos (by omega)], Nat.le_refl _, by rw [List.take_of_length_le (Nat.le_refl _), List.take_of_length_le (by omega)]⟩
          · exact ⟨b, by rw [if_neg (by omega)], by omega, rfl⟩
        have hS : crashS d k b = runA S (.add nm (l.take b)) := by unfold crashS; rw [ha]; simp only [hSt]; rw [if_pos hcond]
        have hsm2 := small_pre (b := b) q3 hsm
        have hbig := D.big
        have hB : (moreF (findF nm S 0) (l.take kk)).flatten.length ≤ 140737488355328 := by
          have := flat_tot (fs := S) (nm := nm) (l := l.take kk)
          have h2 : totF (runA S (.add nm l)) = totF S + l.length := tot_put
          have := q3.1
          rw [List.length_take] at *
          omega
        have hpl : (moreF (findF nm S 0) (l.take b)).length ≤ 1000000000 := hsm2.2 (nm, moreF (findF nm S 0) (l.take b)) (by
          show _ ∈ putF S nm _ _
          cases hr : findF nm S 0 with
          | none => simp [putF]
          | some r => exact List.mem_set (List.getElem?_eq_some_iff.1 (found hr)).1 _)
        have hcall := c_add (h := h1 ++ [.cells [.func (.func 24) [] [.ref [stB' nm], .ptr q 0], i64 l.length, .bool true, stB' nm], .cells [F1, F2]]) (k := kk) (by rw [List.getElem?_append_left ls]; exact hs) (by rw [List.getElem?_append_left lq]; exact hq1) w hnm hk4 hB
        rw [hk5] at hcall
        unfold putO at hcall
        have hk6 : Keep h ((h1 ++ [AObj.cells [.func (.func 24) [] [.ref [stB' nm], .ptr q 0], i64 l.length, .bool true, stB' nm], .cells [F1, F2]]).set s (.map none (putB c2 bs2 (resM (findF nm S 0))).1 (putB c2 bs2 (resM (findF nm S 0))).2 (fsV (putF S nm (moreF (findF nm S 0) (l.take b)) (findF nm S 0))))) [s] := ⟨by simp; have := hkp.1; omega, fun i hi hn => by
          have hn' : i ≠ s := by simpa using hn
          have hi' : i < h1.length := Nat.lt_of_lt_of_le hi hkp.1
          rw [List.getElem?_set_ne (fun e => hn' e.symm), List.getElem?_append_left hi', hkp.2 i hi hn]⟩
        obtain ⟨h2, hcl, hb1, hb2, hs2, r1, r2⟩ := crash_end D hk6 (List.getElem?_set_self (by simp; omega)) (w.put hnm hpl) hsm2
        have hl6 : ((h1 ++ [AObj.cells [.func (.func 24) [] [.ref [stB' nm], .ptr q 0], i64 l.length, .bool true, stB' nm], .cells [F1, F2]]).set s (.map none (putB c2 bs2 (resM (findF nm S 0))).1 (putB c2 bs2 (resM (findF nm S 0))).2 (fsV (putF S nm (moreF (findF nm S 0) (l.take b)) (findF nm S 0))))).length = h1.length + 2 := by simp
        rw [hS]
        rw [show runA S (.add nm (l.take b)) = putF S nm (moreF (findF nm S 0) (l.take b)) (findF nm S 0) from rfl]
        rw [hl6] at r1 r2 hcl
        generalize (h1 ++ [AObj.cells [.func (.func 24) [] [.ref [stB' nm], .ptr q 0], i64 l.length, .bool true, stB' nm], .cells [F1, F2]]).set s (.map none (putB c2 bs2 (resM (findF nm S 0))).1 (putB c2 bs2 (resM (findF nm S 0))).2 (fsV (putF S nm (moreF (findF nm S 0) (l.take b)) (findF nm S 0)))) = hE at *
        generalize putF S nm (moreF (findF nm S 0) (l.take b)) (findF nm S 0) = S2 at *
        unfold dC at *
        cases hr : findF nm S 0 with
        | some r =>
          rw [hr] at hf hv'
          rw [Option.map_some] at hf hv'
          first | have hb := hb | have hb := trivial
          repeat' (first | (simp -implicitDefEqProofs (disch := omega) only [hb, F18, e0, e1, e2, e7, hbx1, hbx2, hA, hlt, hv, g0, s0, g1, s1, List.append_assoc, hme, hf, hv', keyB, Option.isSome_some, n1, n2, hk3, hcall, hcl, hb1, hb2, hs2, mapO, wC, wO, initE, aop, Nat.reduceEqDiff, ↓reduceIte, Nat.reduceAdd, finish, resOf, tupOf, AM.freeze, freeze1, freezeL, closed, nam, namL, if_true, if_false, deref, boxAt, exAt, ldCells, oneL, oneCell, Nat.reduceLeDiff, evL, adopt, rigid, rigidL, trim, Int.reduceEq, Int.reduceMod, Int.reduceDiv, if_pos, if_neg, asI, forall_const, implies_true, chkD, chkO, chkW, effB, reB, vEq, beq_self_eq_true, Nat.reduceSub, Nat.reduceLT, Int.reduceSub, Int.reduceAdd, Int.reduceMul, Int.reduceLT, Int.reduceLE, Int.reduceToNat, optI, aslice, cutSl, cutMs, cutStr, cutOwn]) | ((first | rw [WP_condK] | rw [WP_opsG] | rw [WP_quiG] | rw [WP_dG]); refine And.intro (fun hb => ?_) (fun hb => ?_) <;> (first | have hd := dq1 hb | have hd := dq2 hb | have hd := dq3 hb | have hd := dq4 hb | skip)))
          exact ⟨_, r1, r2⟩
        | none =>
          rw [hr] at hf hv'
          rw [Option.map_none] at hf hv'
          have hbp : (0 : Int) < b := by
            rw [hr] at hcond
            rcases hcond with h | h
            · cases h
            · omega
          first | have hb := hb | have hb := trivial
          repeat' (first | (simp -implicitDefEqProofs (disch := omega) only [hb, F18, e0, e1, e2, e7, hbx1, hbx2, hA, hlt, hv, g0, s0, g1, s1, List.append_assoc, hme, hf, hv', keyB, Option.isSome_none, n1, n2, hbp, hk3, hcall, hcl, hb1, hb2, hs2, mapO, wC, wO, initE, aop, Nat.reduceEqDiff, ↓reduceIte, Nat.reduceAdd, finish, resOf, tupOf, AM.freeze, freeze1, freezeL, closed, nam, namL, if_true, if_false, deref, boxAt, exAt, ldCells, oneL, oneCell, Nat.reduceLeDiff, evL, adopt, rigid, rigidL, trim, Int.reduceEq, Int.reduceMod, Int.reduceDiv, if_pos, if_neg, asI, forall_const, implies_true, chkD, chkO, chkW, effB, reB, vEq, beq_self_eq_true, Nat.reduceSub, Nat.reduceLT, Int.reduceSub, Int.reduceAdd, Int.reduceMul, Int.reduceLT, Int.reduceLE, Int.reduceToNat, optI, aslice, cutSl, cutMs, cutStr, cutOwn]) | ((first | rw [WP_condK] | rw [WP_opsG] | rw [WP_quiG] | rw [WP_dG]); refine And.intro (fun hb => ?_) (fun hb => ?_) <;> (first | have hd := dq1 hb | have hd := dq2 hb | have hd := dq3 hb | have hd := dq4 hb | skip)))
          exact ⟨_, r1, r2⟩
      · have hS : crashS d k b = S := by unfold crashS; rw [ha]; simp only [hSt]; rw [if_neg hcond]
        rw [hS]
        have hr : findF nm S 0 = none := by
          cases hr : findF nm S 0 with
          | none => rfl
          | some r => exact absurd (.inl (by rw [hr]; rfl)) hcond
        rw [hr, Option.map_none] at hf hv'
        have hbp : ¬ ((0 : Int) < b) := by omega
        have hk6 := hkp.trans (keep_app h1 [.cells [.func (.func 24) [] [.ref [stB' nm], .ptr q 0], i64 l.length, .bool true, stB' nm], .cells [F1, F2]] [s]) (fun i hi => .inl hi)
        obtain ⟨h2, hcl, hb1, hb2, hs2, r1, r2⟩ := crash_end D hk6 (by rw [List.getElem?_append_left ls]; exact hs) w hsm
        rw [List.length_append] at r1 r2 hcl
        unfold dC at *
        first | have hb := hb | have hb := trivial
        repeat' (first | (simp -implicitDefEqProofs (disch := omega) only [hb, F18, e0, e1, e2, e7, hbx1, hbx2, hA, hlt, hv, g0, s0, g1, s1, List.append_assoc, hme, hf, hv', keyB, Option.isSome_none, n1, n2, hbp, hcl, hb1, hb2, hs2, mapO, wC, wO, initE, aop, Nat.reduceEqDiff, ↓reduceIte, Nat.reduceAdd, finish, resOf, tupOf, AM.freeze, freeze1, freezeL, closed, nam, namL, if_true, if_false, deref, boxAt, exAt, ldCells, oneL, oneCell, Nat.reduceLeDiff, evL, adopt, rigid, rigidL, trim, Int.reduceEq, Int.reduceMod, Int.reduceDiv, if_pos, if_neg, asI, forall_const, implies_true, chkD, chkO, chkW, effB, reB, vEq, beq_self_eq_true, Nat.reduceSub, Nat.reduceLT, Int.reduceSub, Int.reduceAdd, Int.reduceMul, Int.reduceLT, Int.reduceLE, Int.reduceToNat, optI, aslice, cutSl, cutMs, cutStr, cutOwn]) | ((first | rw [WP_condK] | rw [WP_opsG] | rw [WP_quiG] | rw [WP_dG]); refine And.intro (fun hb => ?_) (fun hb => ?_) <;> (first | have hd := dq1 hb | have hd := dq2 hb | have hd := dq3 hb | have hd := dq4 hb | skip)))
        exact ⟨_, r1, r2⟩
end
end Go.Proofs.Ytccllndmknnehaa.AM

/- layer 10: FilesNames. -/
namespace Go.Proofs.Ytccllndmknnehaa.AM
open Go
set_option maxRecDepth 100000
set_option maxHeartbeats 4000000
set_option linter.unusedVariables false
set_option linter.unusedSimpArgs false
def newH (size : Int) : Heap := [.map none 0 [] [], .map none 0 [] [], .cells (dC size 0 1 .nil (-1))]
def newD (size : Int) : Dk := ⟨size, [], [], [], -1⟩
theorem new_dk (size : Int) (h0 : 0 ≤ size) (h1 : size ≤ 268435456) (g : Heap) : DkH (newH size ++ g) 2 1 0 [] (newD size) := by
  have w : Wf 0 [] [] := ⟨rfl, List.nodup_nil, fun b hb => (by cases hb), fun x hx => (by cases hx), List.nodup_nil, fun x hx => (by cases hx)⟩
  have D : DkV (newH size) 2 1 0 [] (newD size) .nil [] 0 [] 0 [] := ⟨rfl, rfl, w, rfl, w, .inl ⟨rfl, rfl, rfl⟩, trivial, by decide, by simp [newD], by simp [newD], rfl, ⟨by simpa [newD, totF] using h0, fun x hx => by cases hx⟩, h1⟩
  exact ⟨_, _, _, _, _, _, D.app g⟩
theorem call_new (size : Int) (h0 : 0 ≤ size) (h1 : size ≤ 268435456) : ag T 6 [i64 size] [] = some (.tup [.ptr 2 0, i64 0], newH size) := by
  refine WP_eq (k_wp rfl t6 rfl rfl ?_)
  have n0 : ¬ (size < 0) := by omega
  have n1 : ¬ (268435456 < size) := by omega
  first | have hb := hb | have hb := trivial
  repeat' (first | (simp -implicitDefEqProofs (disch := omega) only [hb, F6, n0, n1, wC, initE, aop, Nat.reduceEqDiff, ↓reduceIte, Nat.reduceAdd, finish, resOf, tupOf, AM.freeze, freeze1, freezeL, closed, nam, namL, if_true, if_false, deref, boxAt, exAt, ldCells, oneL, oneCell, Nat.reduceLeDiff, evL, adopt, rigid, rigidL, trim, Int.reduceEq, Int.reduceMod, Int.reduceDiv, if_pos, if_neg, asI, forall_const, implies_true, chkD, chkO, chkW, effB, reB, vEq, beq_self_eq_true, Nat.reduceSub, Nat.reduceLT, Int.reduceSub, Int.reduceAdd, Int.reduceMul, Int.reduceLT, Int.reduceLE, Int.reduceToNat, optI, aslice, cutSl, cutMs, cutStr, cutOwn, cellsOf, one, elCells, lenOf, beqV, beqVL, strip, stripO, convS]) | ((first | rw [WP_condK] | rw [WP_opsG] | rw [WP_quiG] | rw [WP_dG]); refine And.intro (fun hb => ?_) (fun hb => ?_) <;> (first | have hd := dq1 hb | have hd := dq2 hb | have hd := dq3 hb | have hd := dq4 hb | skip)))
  rfl
theorem d_left' {h : Heap} {p n s : Nat} {J : List Nat} {d : Dk} (D : DkH h p n s J d) : ag T 13 [.ptr p 0] h = some (i64 (d.size - totF d.now), h) := by
  obtain ⟨_, _, _, _, _, _, D⟩ := D
  exact d_left D
theorem call_clone_b (o : AOwn) (l : List Int) (hl : l.length ≤ 140737488355328) (h : Heap) : ∃ o' h', ag T 23 [.slice o none (l.map u8)] h = some (.slice o' none (l.map u8), h ++ h') := by
  have hc : closedL (l.map u8) = true := u8_nam _ l
  exact ⟨_, _, call_clone e23 h hc (by rw [List.length_map]; exact fits_of (.inl (by omega)))⟩
theorem names_ok (nm b : List Int) (hnm : Bytes nm) (hby : Bytes b) (hsz : nm.length ≤ 9223372036854775807) : prun T F3 [.str (strOfNums nm), .slice .none none (b.map u8)] = some (.bool true) := by
  refine WP_eq (prun_wp ?_)
  have hnew := call_new 1048576 (by decide) (by decide)
  have hlv := call_lives
  by_cases hlen : (1000 : Int) < b.length
  · first | have hb := hb | have hb := trivial
    repeat' (first | (simp -implicitDefEqProofs (disch := omega) only [hb, F3, isNil, hnew, hlv, hlen, wC, initE, aop, Nat.reduceEqDiff, ↓reduceIte, Nat.reduceAdd, finish, resOf, tupOf, AM.freeze, freeze1, freezeL, closed, nam, namL, if_true, if_false, deref, boxAt, exAt, ldCells, oneL, oneCell, Nat.reduceLeDiff, evL, adopt, rigid, rigidL, trim, Int.reduceEq, Int.reduceMod, Int.reduceDiv, if_pos, if_neg, asI, forall_const, implies_true, chkD, chkO, chkW, effB, reB, vEq, beq_self_eq_true, Nat.reduceSub, Nat.reduceLT, Int.reduceSub, Int.reduceAdd, Int.reduceMul, Int.reduceLT, Int.reduceLE, Int.reduceToNat, optI, aslice, cutSl, cutMs, cutStr, cutOwn, cellsOf, one, elCells, lenOf, beqV, beqVL, strip, stripO, convS]) | ((first | rw [WP_condK] | rw [WP_opsG] | rw [WP_quiG] | rw [WP_dG]); refine And.intro (fun hb => ?_) (fun hb => ?_) <;> (first | have hd := dq1 hb | have hd := dq2 hb | have hd := dq3 hb | have hd := dq4 hb | skip)))
  · have D0 := new_dk 1048576 (by decide) (by decide) []
    rw [List.append_nil] at D0
    obtain ⟨A, els, c, bs0, c', bs', D0'⟩ := D0
    obtain ⟨h1, J1, A1, els1, c2, bs2, ha, hst, D1⟩ := d_append D0' hnm hby (b := .slice .none none (b.map u8)) (by simp [lenOf]) (call_clone_b _ b (by omega)) hsz (by simp [newD]) (by simp [newD, findF, moreF])
    have hright := call_rright (strOfNums nm) (by rw [st_size]; omega)
    by_cases hr : rightS (strOfNums nm) = true
    · rw [hr] at hright
      have hmay : mayS [strOfNums nm] (-1) = 0 := by unfold mayS badS; simp [hr]
      have he : addE (newD 1048576) nm b = 0 := by
        unfold addE
        rw [show (newD 1048576).c = -1 from rfl, hmay, if_neg (by simp), if_neg (by simp [newD, totF]; omega)]
      rw [he] at ha D1
      rw [if_pos rfl] at D1
      have D1 : DkH h1 2 1 0 J1 _ := ⟨_, _, _, _, _, _, D1⟩
      obtain ⟨d1, D1, d1n, d1c, d1s, d1a⟩ : ∃ d1, DkH h1 2 1 0 J1 d1 ∧ d1.now = [(nm, [b])] ∧ d1.c = -1 ∧ d1.size = 1048576 ∧ d1.acts.length = 1 := ⟨_, D1, rfl, rfl, rfl, rfl⟩
      have hfnd : findF nm [(nm, [b])] 0 = some (0, [b]) := by simp [findF]
      obtain ⟨g2, _, hrd⟩ := d_read D1 hnm hsz
      have hre : readE d1 nm = 0 := by unfold readE remE nonE; rw [d1c, hmay, if_neg (by simp), d1n, hfnd]; rfl
      have hrd := hrd (0, [b]) hre (by rw [d1n]; exact hfnd)
      have hfl : ([b] : Fl).flatten = b := by simp
      simp only [hfl] at hrd
      obtain ⟨_, _, _, _, _, _, D2⟩ := D1
      have D2 := D2.app [.cells [.slice .none none (([b] : Fl).map partV), i64 (b.length : Nat)], .row none b.length]
      generalize hh2 : h1 ++ [AObj.cells [.slice .none none (([b] : Fl).map partV), i64 (b.length : Nat)], .row none b.length] = h2 at D2 hrd
      have D2 : DkH h2 2 1 0 J1 d1 := ⟨_, _, _, _, _, _, D2⟩
      have hleft2 := d_left' D2
      have ht1 : totF d1.now = b.length := by rw [d1n]; simp [totF]
      rw [ht1, d1s] at hleft2
      obtain ⟨h3, J3, hrn, _, D3⟩ := d_rename D2 hnm hnm hsz hsz (by rw [d1a]; omega)
      have hm2 : mayS [strOfNums nm, strOfNums nm] (-1) = 0 := by unfold mayS badS; simp [hr]
      have hrnE : renE d1 nm nm = 0 := by unfold renE nonE; rw [d1c, hm2, if_neg (by simp), d1n, hfnd]; rfl
      rw [hrnE] at hrn D3
      rw [if_pos rfl] at D3
      have hn3 : runA [(nm, [b])] (.ren nm nm) = [(nm, [b])] := by simp only [runA, hfnd]; rfl
      obtain ⟨d3, D3, d3n, d3c, d3s, d3a⟩ : ∃ d3, DkH h3 2 1 0 J3 d3 ∧ d3.now = [(nm, [b])] ∧ d3.c = -1 ∧ d3.size = 1048576 ∧ d3.acts.length = 2 := ⟨_, D3, by simp only [actD, d1n, hn3], by simp only [actD, d1c]; rfl, d1s, by simp [actD, d1a]⟩
      obtain ⟨h4, J4, hrm, _, D4⟩ := d_remove D3 hnm hsz (by rw [d3a]; omega)
      have hrmE : remE d3 nm = 0 := by unfold remE nonE; rw [d3c, hmay, if_neg (by simp), d3n, hfnd]; rfl
      rw [hrmE] at hrm D4
      rw [if_pos rfl] at D4
      have hn4 : runA [(nm, [b])] (.rem nm) = [] := by simp only [runA, hfnd]; rfl
      obtain ⟨d4, D4, d4n, d4c, d4s, d4a⟩ : ∃ d4, DkH h4 2 1 0 J4 d4 ∧ d4.now = [] ∧ d4.c = -1 ∧ d4.size = 1048576 ∧ d4.acts.length = 3 := ⟨_, D4, by simp only [actD, d3n, hn4], by simp only [actD, d3c]; rfl, d3s, by simp [actD, d3a]⟩
      obtain ⟨h5, J5, hrm2, _, D5⟩ := d_remove D4 hnm hsz (by rw [d4a]; omega)
      have hrmE2 : remE d4 nm = 4 := by unfold remE nonE; rw [d4c, hmay, if_neg (by simp), d4n]; rfl
      rw [hrmE2] at hrm2 D5
      rw [if_neg (by decide)] at D5
      have hleft5 := d_left' D5
      rw [d4n, d4s] at hleft5
      have hw5 : (1048576 : Int) - ((totF [] : Nat) : Int) = 1048576 := by simp [totF]
      rw [hw5] at hleft5
      have hbe := byteEls_u8 b
      have hse := st_eq hby hby
      rw [decide_eq_true rfl] at hse
      have hsub : IntKind.i64.wrap (1048576 - (b.length : Int)) = 1048576 - b.length := by rw [IntKind.wrap_i64]; omega
      first | have hb := hb | have hb := trivial
      repeat' (first | (simp -implicitDefEqProofs (disch := omega) only [hb, F3, hnew, hlv, hlen, ha, hrd, hright, hbe, hse, hleft2, hsub, hrn, hrm, hrm2, hleft5, wC, wO, initE, aop, Nat.reduceEqDiff, ↓reduceIte, Nat.reduceAdd, finish, resOf, tupOf, AM.freeze, freeze1, freezeL, closed, nam, namL, if_true, if_false, deref, boxAt, exAt, ldCells, oneL, oneCell, Nat.reduceLeDiff, evL, adopt, rigid, rigidL, trim, Int.reduceEq, Int.reduceMod, Int.reduceDiv, if_pos, if_neg, asI, forall_const, implies_true, chkD, chkO, chkW, effB, reB, vEq, beq_self_eq_true, Nat.reduceSub, Nat.reduceLT, Int.reduceSub, Int.reduceAdd, Int.reduceMul, Int.reduceLT, Int.reduceLE, Int.reduceToNat, optI, aslice, cutSl, cutMs, cutStr, cutOwn]) | ((first | rw [WP_condK] | rw [WP_opsG] | rw [WP_quiG] | rw [WP_dG]); refine And.intro (fun hb => ?_) (fun hb => ?_) <;> (first | have hd := dq1 hb | have hd := dq2 hb | have hd := dq3 hb | have hd := dq4 hb | skip)))
    · have hrf : rightS (strOfNums nm) = false := by simpa using hr
      rw [hrf] at hright
      have hmay : mayS [strOfNums nm] (-1) = 1 := by unfold mayS badS; simp [hrf]
      have hmay2 : mayS [strOfNums nm, strOfNums [97]] (-1) = 1 := by unfold mayS badS; simp [hrf]
      have he : addE (newD 1048576) nm b = 1 := by
        unfold addE
        rw [show (newD 1048576).c = -1 from rfl, hmay, if_pos (by decide)]
      rw [he] at ha D1
      rw [if_neg (by decide)] at D1
      have D1 : DkH h1 2 1 0 J1 _ := ⟨_, _, _, _, _, _, D1⟩
      obtain ⟨g2, hrd, _⟩ := d_read D1 hnm hsz
      have hre : readE (newD 1048576) nm = 1 := by unfold readE remE; rw [show (newD 1048576).c = -1 from rfl, hmay, if_pos (by decide)]
      rw [hre] at hrd
      have hrd := hrd (by decide)
      obtain ⟨_, _, _, _, _, _, D2⟩ := D1
      have D2 := D2.app g2
      generalize h1 ++ g2 = h2 at D2 hrd
      have D2 : DkH h2 2 1 0 J1 (newD 1048576) := ⟨_, _, _, _, _, _, D2⟩
      have h97 : Bytes [97] := fun c hc => by simp at hc; omega
      obtain ⟨h3, J3, hrn, _, D3⟩ := d_rename D2 hnm h97 hsz (by simp) (by simp [newD])
      have hrnE : renE (newD 1048576) nm [97] = 1 := by unfold renE; rw [show (newD 1048576).c = -1 from rfl, hmay2, if_pos (by decide)]
      rw [hrnE] at hrn D3
      rw [if_neg (by decide)] at D3
      obtain ⟨h4, J4, hrm, _, D4⟩ := d_remove D3 hnm hsz (by simp [newD])
      have hrmE : remE (newD 1048576) nm = 1 := hre
      rw [hrmE] at hrm
      have hst97 : bs [97] = strOfNums [97] := by decide +kernel
      first | have hb := hb | have hb := trivial
      repeat' (first | (simp -implicitDefEqProofs (disch := omega) only [hb, F3, hnew, hlv, hlen, ha, hrd, hright, hst97, hrn, hrm, wC, wO, initE, aop, Nat.reduceEqDiff, ↓reduceIte, Nat.reduceAdd, finish, resOf, tupOf, AM.freeze, freeze1, freezeL, closed, nam, namL, if_true, if_false, deref, boxAt, exAt, ldCells, oneL, oneCell, Nat.reduceLeDiff, evL, adopt, rigid, rigidL, trim, Int.reduceEq, Int.reduceMod, Int.reduceDiv, if_pos, if_neg, asI, forall_const, implies_true, chkD, chkO, chkW, effB, reB, vEq, beq_self_eq_true, Nat.reduceSub, Nat.reduceLT, Int.reduceSub, Int.reduceAdd, Int.reduceMul, Int.reduceLT, Int.reduceLE, Int.reduceToNat, optI, aslice, cutSl, cutMs, cutStr, cutOwn]) | ((first | rw [WP_condK] | rw [WP_opsG] | rw [WP_quiG] | rw [WP_dG]); refine And.intro (fun hb => ?_) (fun hb => ?_) <;> (first | have hd := dq1 hb | have hd := dq2 hb | have hd := dq3 hb | have hd := dq4 hb | skip)))
theorem call_names (nm : ByteArray) (hsz : nm.size ≤ 140737488351232) (b : List Int) (hby : Bytes b) : ag T 3 [.str nm, .slice .none none (b.map u8)] [] = some (.sc (.bool true), []) := by
  obtain ⟨l, hl, rfl⟩ := st_of nm
  rw [st_size] at hsz
  exact call_sc rfl t3 rfl rfl rfl (by
    have h1 := u8_nam (fun _ => false) b
    simp only [closedL, namL, nam, h1, Bool.and_self]) (names_ok l b hl hby (by omega))
end Go.Proofs.Ytccllndmknnehaa.AM
