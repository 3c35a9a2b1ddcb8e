import Derived.Test.YtpnkldjbiinnpaaAm9
import Derived.Laws.CopyRow
/- Each operation of the model does what the plain machine's does: structs, slices made, appended to, copied. -/
namespace Go.Proofs.Ytpnkldjbiinnpaa.AM
open Go Go.RowKit
set_option linter.unusedVariables false
set_option linter.unusedSimpArgs false
def setV : List Value → Nat → List Value → List Value
  | cs, _, [] => cs
  | cs, o, x :: xs => setV (cs.set o x) (o + 1) xs
theorem VL.setAt {S : St} : ∀ {xs : List AV} {us : List Value} {cs : List AV} {ws : List Value} (o : Nat), VL S cs ws → VL S xs us → VL S (setAt cs o xs) (setV ws o us)
  | [], us, cs, ws, o, h, k => by simp only [VL] at k; subst k; exact h
  | x :: xs, us, cs, ws, o, h, k => by
    simp only [VL] at k
    obtain ⟨u, l, rfl, k1, k2⟩ := k
    exact VL.setAt (o + 1) (h.set o k1) k2
theorem foldl_set (off : Nat) : ∀ (l : List Value) (j : Nat) (cells : Array Value), ((l.zipIdx j).foldl (fun cs (x : Value × Nat) => cs.setIfInBounds (off + x.2) x.1) cells).toList = setV cells.toList (off + j) l
  | [], j, cells => rfl
  | x :: l, j, cells => by
    rw [List.zipIdx_cons, List.foldl_cons, foldl_set off l (j + 1), setV, Array.toList_setIfInBounds]
    rfl
theorem fill_step {place : Nat → Option (Nat × Nat)} {cells : Array Value} {i : Nat} {v : Value} {rest : List (Nat × Value)} {o n : Nat} (hp : place i = some (o, n)) (h1 : v.cells.size = n) (h2 : o + n ≤ cells.size) :
    ∃ cells', Instr.fill place cells ((i, v) :: rest) = Instr.fill place cells' rest ∧ cells'.toList = setV cells.toList o v.cells.toList := by
  refine ⟨_, by simp only [Instr.fill, hp]; rw [if_neg (by simp [h1]; omega)], ?_⟩
  rw [← Array.foldl_toList, Array.toList_zipIdx]
  have := foldl_set o v.cells.toList 0 cells
  rw [Nat.add_zero] at this
  exact this
theorem setV_length : ∀ (xs cs : List Value) (o : Nat), (setV cs o xs).length = cs.length
  | [], cs, o => rfl
  | x :: xs, cs, o => by rw [setV, setV_length xs]; simp
theorem strip_V {S : St} {x : AV} {u : Value} (h : V S x u) : V S (strip x) u := by
  cases x <;> try exact h
  rename_i own k els
  simp only [strip, V] at *
  obtain ⟨ao, cap, h1, h2, h3, h4⟩ := h
  refine ⟨ao, cap, h1, h2, ?_, h4⟩
  cases own <;> simp only [stripO, OwnV] at * 
  exact h3
theorem stripL_V {S : St} : ∀ {x : List AV} {u : List Value}, VL S x u → VL S (x.map strip) u
  | [], u, h => h
  | x :: xs, u, h => by
    simp only [VL, List.map_cons] at *
    obtain ⟨a, l, h1, h2, h3⟩ := h
    exact ⟨a, l, h1, strip_V h2, stripL_V h3⟩
section
variable {P : Program} {E : Env0} {o : Oper} {C : Cl} {e : Env} {h h' : Heap} {v : AV} {S : St} {B : Nat} {W : World} {a : Act}
theorem fill_parts {place : Nat → Option (Nat × Nat)} (he : EnvR S e a E.nt) (hg : GlobOK E.gl S.imm) : ∀ {parts : List (Nat × Operand)} {parts' : List (Nat × Nat × Opd)} {cs cs' : List AV} {cells : Array Value}, compParts E place parts = some parts' → setParts e cs parts' = some cs' → VL S cs cells.toList →
    ∃ cells', Instr.fill place cells (parts.map fun (i, x) => (i, a.eval x)) = some cells' ∧ VL S cs' cells'.toList
  | [], parts', cs, cs', cells, hc, hs, hv => by
    simp only [compParts] at hc
    cases hc
    simp only [setParts] at hs
    cases hs
    exact ⟨cells, rfl, hv⟩
  | (i, x) :: r, parts', cs, cs', cells, hc, hs, hv => by
    simp only [compParts, Option.bind_eq_some_iff, Option.map_eq_some_iff, Prod.exists] at hc
    obtain ⟨o', n, hp, x', hx, r', hr, rfl⟩ := hc
    simp only [setParts, Option.bind_eq_some_iff] at hs
    obtain ⟨xs, hxs, hs⟩ := hs
    split at hs
    · rename_i hcond
      have hv' := cellsOf_V (evO_V he hg hx) hxs
      have hl := hv.length
      have hl' := hv'.length
      simp only [Array.length_toList] at hl hl'
      obtain ⟨cells1, g1, g2⟩ := fill_step (v := a.eval x) (rest := r.map fun (i, x) => (i, a.eval x)) (cells := cells) hp (by omega) (by omega)
      obtain ⟨cells2, g3, g4⟩ := fill_parts he hg (cells := cells1) hr hs (by rw [g2]; exact hv.setAt o' (stripL_V hv'))
      exact ⟨cells2, by rw [List.map_cons, g1, g3], g4⟩
    · cases hs
theorem run_places {fs : Array Field} (hall : fs.toList.all (fun f => (P.info? f.type).isSome) = true) : ∃ pl : Array (Nat × Nat), (∀ W, (fs.mapM (m := Sem) (fun f => do pure (f.offset, ← Go.sizeOf f.type))).run P W = .ok pl W) ∧ ∀ i : Nat, pl[i]? = (fs[i]?).bind fun f => (P.info? f.type).map fun i => (f.offset, i.size) := by
  have key : ∀ l : List Field, l.all (fun f => (P.info? f.type).isSome) = true → ∃ pl : List (Nat × Nat), (∀ W, (l.mapM (m := Sem) (fun f => do pure (f.offset, ← Go.sizeOf f.type))).run P W = .ok pl W) ∧ ∀ i : Nat, pl[i]? = (l[i]?).bind fun f => (P.info? f.type).map fun i => (f.offset, i.size) := by
    intro l
    induction l with
    | nil => intro _; exact ⟨[], fun W => by simp, by simp⟩
    | cons f l ih =>
      intro hl
      simp only [List.all_cons, Bool.and_eq_true] at hl
      obtain ⟨pl, g1, g2⟩ := ih hl.2
      obtain ⟨inf, hinf⟩ := Option.isSome_iff_exists.1 hl.1
      refine ⟨(f.offset, inf.size) :: pl, fun W => by rw [List.mapM_cons]; simp only [Sem.run_bind, run_sizeOf' hinf, Result.andThen_ok, Sem.run_pure, g1], fun i => ?_⟩
      cases i with
      | zero => simp [hinf]
      | succ i => simpa using g2 i
  obtain ⟨pl, g1, g2⟩ := key fs.toList hall
  refine ⟨pl.toArray, fun W => ?_, fun i => by simpa using g2 i⟩
  rw [Array.mapM_eq_mapM_toList]
  simp only [Sem.run_map, g1, Result.andThen_ok]
theorem ex_build {t : TypeId} {parts : Array (Nat × Operand)} (hop : o.op = .build t parts) {z : Value} (hz : zeroOf P t = some z) {u : TypeDesc} (ht : P.underlying t = some u) {parts' : List (Nat × Nat × Opd)}
    (hu : (∃ fs, u = .struct fs ∧ fs.toList.all (fun f => (P.info? f.type).isSome) = true ∧ compParts E (fun i => (fs[i]?).bind fun f => (P.info? f.type).map fun i => (f.offset, i.size)) parts.toList = some parts') ∨ (∃ n el i, u = .array n el ∧ P.info? el = some i ∧ compParts E (fun j => some (j * i.size, i.size)) parts.toList = some parts'))
    (hx : aop C (.build (z.cells.toList.map .sc) parts') e h = some (v, h')) (r : Rel S h B W) (he : EnvR S e a E.nt) (hg : GlobOK E.gl S.imm) : h' = h ∧ ExS P o a S v := by
  simp only [aop, Option.map_eq_some_iff, Prod.mk.injEq] at hx
  obtain ⟨cs, hs, rfl, rfl⟩ := hx
  have hmap : (parts.map fun (i, x) => (i, a.eval x)).toList = parts.toList.map fun (i, x) => (i, a.eval x) := by simp
  rcases hu with ⟨fs, rfl, hall, hc⟩ | ⟨n, el, i, rfl, hi, hc⟩
  · obtain ⟨pl, p1, p2⟩ := run_places hall
    obtain ⟨cells', g1, g2⟩ := fill_parts he hg (cells := z.cells) hc hs (VL_map_sc _)
    refine ⟨rfl, .mk (u := .agg cells') (fun W => ?_) (by simp only [V]; exact ⟨_, rfl, g2⟩)⟩
    have hpl : (fun (x : Nat) => pl[x]?) = fun i => (fs[i]?).bind fun f => (P.info? f.type).map fun i => (f.offset, i.size) := funext p2
    have hfill : Instr.fill (fun (x : Nat) => pl[x]?) z.cells (parts.map fun (i, x) => (i, a.eval x)).toList = some cells' := by rw [hmap, hpl]; exact g1
    simp only [execOp, hop, Instr.build, Sem.run_bind, run_zero' hz, Result.andThen_ok, run_underlying' ht, p1, hfill, Sem.run_pure]
  · obtain ⟨cells', g1, g2⟩ := fill_parts he hg (cells := z.cells) hc hs (VL_map_sc _)
    refine ⟨rfl, .mk (u := .agg cells') (fun W => ?_) (by simp only [V]; exact ⟨_, rfl, g2⟩)⟩
    have hfill : Instr.fill (fun j => some (j * i.size, i.size)) z.cells (parts.map fun (i, x) => (i, a.eval x)).toList = some cells' := by rw [hmap]; exact g1
    simp only [execOp, hop, Instr.build, Sem.run_bind, run_zero' hz, Result.andThen_ok, run_underlying' ht, run_sizeOf' hi, hfill, Sem.run_pure]
/-! ### slices' elements in a block -/
theorem setAt_eq : ∀ (xs cs : List AV) (o : Nat), o + xs.length ≤ cs.length → setAt cs o xs = cs.take o ++ xs ++ cs.drop (o + xs.length)
  | [], cs, o, _ => by simp [setAt]
  | x :: xs, cs, o, hl => by
    simp only [List.length_cons] at hl
    rw [setAt, setAt_eq xs _ _ (by rw [List.length_set]; omega)]
    have h1 : (cs.set o x).take (o + 1) = cs.take o ++ [x] := by
      rw [List.take_succ_eq_append_getElem (by rw [List.length_set]; omega), List.take_set_of_le (Nat.le_refl _)]
      simp
    have h2 : (cs.set o x).drop (o + 1 + xs.length) = cs.drop (o + (xs.length + 1)) := by
      rw [List.drop_set_of_lt (by omega)]
      congr 1
      omega
    rw [h1, h2]
    simp
def flat (els : List AV) : List AV := (els.map elCells).flatten
theorem flat_length {k : Option Nat} : ∀ {els : List AV}, (∀ x ∈ els, shp k x) → (flat els).length = els.length * kz k
  | [], _ => by simp [flat]
  | x :: els, hs => by
    have := flat_length (els := els) fun y hy => hs y (by simp [hy])
    simp only [flat, List.map_cons, List.flatten_cons, List.length_append, List.length_cons, Nat.succ_mul] at *
    rw [this, shp_len (hs x (by simp))]
    omega
theorem flat_set {k : Option Nat} : ∀ {els : List AV} {i : Nat} {x : AV}, (∀ y ∈ els, shp k y) → shp k x → i < els.length → flat (els.set i x) = setAt (flat els) (i * kz k) (elCells x)
  | [], i, x, _, _, hi => by simp at hi
  | y :: els, 0, x, hs, hx, hi => by
    have h1 := shp_len hx
    have h2 := shp_len (hs y (by simp))
    rw [setAt_eq _ _ _ (by simp only [flat, List.map_cons, List.flatten_cons, List.length_append]; omega)]
    simp only [List.set_cons_zero, flat, List.map_cons, List.flatten_cons, Nat.zero_mul, List.take_zero, List.nil_append, Nat.zero_add]
    rw [h1, ← h2, List.drop_left]
  | y :: els, i + 1, x, hs, hx, hi => by
    have h1 := shp_len hx
    have h2 := shp_len (hs y (by simp))
    have hl := flat_length (els := els) fun z hz => hs z (by simp [hz])
    have hi' : i < els.length := by simpa using hi
    have hmul : (i + 1) * kz k ≤ els.length * kz k := Nat.mul_le_mul_right _ hi'
    rw [Nat.succ_mul] at hmul
    have ih := flat_set (els := els) (i := i) (x := x) (fun z hz => hs z (by simp [hz])) hx hi'
    rw [setAt_eq _ _ _ (by omega)] at ih
    rw [setAt_eq _ _ _ (by simp only [flat, List.map_cons, List.flatten_cons, List.length_append] at *; rw [Nat.succ_mul]; omega)]
    simp only [List.set_cons_succ, flat, List.map_cons, List.flatten_cons] at *
    rw [ih]
    have e1 : (i + 1) * kz k = (elCells y).length + i * kz k := by rw [Nat.succ_mul, h2]; omega
    rw [e1, List.take_length_add_append, List.append_assoc, List.append_assoc, List.append_assoc]
    congr 2
    rw [Nat.add_assoc, List.drop_length_add_append]
theorem elFits_shp {k : Option Nat} {x : AV} (hf : elFits k x = true) : shp k x ∧ oneL (elCells x) = true := by
  cases x <;> simp only [elFits, shp, elCells, oneL, Bool.and_eq_true, beq_iff_eq, Bool.and_true] at * <;> first | exact ⟨hf.1, hf.2⟩ | exact ⟨hf.2, hf.1⟩
theorem one_strip {x : AV} : one (strip x) = one x := by cases x <;> rfl
theorem oneL_strip : ∀ {x : List AV}, oneL (x.map strip) = oneL x
  | [] => rfl
  | x :: xs => by simp only [List.map_cons, oneL, one_strip, oneL_strip]
theorem stripEl_cells {x : AV} : elCells (stripEl x) = (elCells x).map strip := by
  cases x <;> simp [stripEl, elCells, strip]
theorem stripEl_shp {k : Option Nat} {x : AV} (hs : shp k x) : shp k (stripEl x) := by
  cases x <;> simp only [stripEl, strip, shp] at * <;> simpa using hs
theorem elCells_V {x : AV} {u : Value} (hf : oneL (elCells x) = true) (hv : V S x u) : VL S (elCells x) u.cells.toList := by
  refine cellsOf_V hv ?_
  cases x <;> simp only [elCells, oneL, one, cellsOf, Bool.and_true, Bool.false_eq_true] at * 
  rw [if_pos hf]
theorem VE_of_flat {k : Option Nat} {b : Nat} : ∀ {els : List AV} {us : List Value} {q : Nat}, (∀ x ∈ els, shp k x) → VL S (flat els) us → (∀ j u, us[j]? = some u → S.imm b (q + j) = some u) → VE S k els b q
  | [], us, q, _, _, _ => by simp only [VE]
  | x :: els, us, q, hs, hv, hi => by
    have hl := shp_len (hs x (by simp))
    rw [VE.cons]
    have hfl : flat (x :: els) = elCells x ++ flat els := by simp [flat]
    rw [hfl] at hv
    have hv1 := hv.take (kz k)
    have hv2 := hv.drop (kz k)
    rw [← hl, List.take_left] at hv1
    rw [← hl, List.drop_left] at hv2
    have hm : VM S (elCells x) b q := VM.mk fun i y hy => by
      obtain ⟨u, g1, g2⟩ := hv1.get hy
      rw [List.getElem?_take] at g1
      split at g1
      · exact ⟨u, hi i u g1, g2⟩
      · cases g1
    refine ⟨?_, VE_of_flat (us := us.drop (elCells x).length) (fun y hy => hs y (by simp [hy])) hv2 fun j u hj => ?_⟩
    · have hx := hs x (by simp)
      cases x <;> simp only [shp, V1, elCells, VM, and_true] at * <;> first | exact ⟨hx, hm⟩
    · rw [List.getElem?_drop] at hj
      have := hi _ u hj
      rw [← this]
      congr 1
      omega
theorem set_els (he : EnvR S e a E.nt) (hg : GlobOK E.gl S.imm) {k : Option Nat} : ∀ {parts : List (Nat × Operand)} {parts' : List (Nat × Opd)} {els els' : List AV} {cells : Array Value}, compEls E parts = some parts' → setEls e k els parts' = some els' → (∀ x ∈ els, shp k x) → VL S (flat els) cells.toList → (∀ u ∈ cells.toList, u.oneCell' = true) →
    ∃ cells', Instr.fill (fun j => some (j * kz k, kz k)) cells (parts.map fun (i, x) => (i, a.eval x)) = some cells' ∧ VL S (flat els') cells'.toList ∧ (∀ x ∈ els', shp k x) ∧ (∀ u ∈ cells'.toList, u.oneCell' = true) ∧ els'.length = els.length
  | [], parts', els, els', cells, hc, hs, hsh, hv, h1 => by
    simp only [compEls] at hc
    cases hc
    simp only [setEls] at hs
    cases hs
    exact ⟨cells, rfl, hv, hsh, h1, rfl⟩
  | (i, x) :: r, parts', els, els', cells, hc, hs, hsh, hv, h1 => by
    simp only [compEls, Option.bind_eq_some_iff, Option.map_eq_some_iff] at hc
    obtain ⟨x', hx, r', hr, rfl⟩ := hc
    simp only [setEls] at hs
    split at hs
    · rename_i hcond
      obtain ⟨hf, hi⟩ := hcond
      obtain ⟨f1, f2⟩ := elFits_shp hf
      have hvx := elCells_V f2 (evO_V he hg hx)
      have hvx' : VL S (elCells (stripEl (evO e x'))) (a.eval x).cells.toList := by rw [stripEl_cells]; exact stripL_V hvx
      have hfl := flat_length hsh
      have hl := hv.length
      have hl' := hvx.length
      rw [shp_len f1] at hl'
      simp only [Array.length_toList] at hl hl'
      have hmul : (i + 1) * kz k ≤ els.length * kz k := Nat.mul_le_mul_right _ hi
      rw [Nat.succ_mul] at hmul
      obtain ⟨cells1, g1, g2⟩ := fill_step (v := a.eval x) (rest := r.map fun (i, x) => (i, a.eval x)) (cells := cells) (place := fun j => some (j * kz k, kz k)) (i := i) rfl (by omega) (by omega)
      have hsh' : ∀ y ∈ els.set i (stripEl (evO e x')), shp k y := fun y hy => by
        rcases List.mem_or_eq_of_mem_set hy with hy | rfl
        · exact hsh y hy
        · exact stripEl_shp f1
      have h1' : ∀ u ∈ cells1.toList, u.oneCell' = true := by
        have hone : ∀ (xs cs : List Value) (q : Nat), (∀ u ∈ cs, u.oneCell' = true) → (∀ u ∈ xs, u.oneCell' = true) → ∀ u ∈ setV cs q xs, u.oneCell' = true := by
          intro xs
          induction xs with
          | nil => intro cs q hc _ u hu; exact hc u hu
          | cons y ys ih =>
            intro cs q hc hy u hu
            refine ih _ _ (fun w hw => ?_) (fun w hw => hy w (by simp [hw])) u hu
            rcases List.mem_or_eq_of_mem_set hw with hw | rfl
            · exact hc w hw
            · exact hy _ (by simp)
        rw [g2]
        exact hone _ _ _ h1 (oneL_V f2 hvx)
      obtain ⟨cells2, g3, g4, g5, g6, g7⟩ := set_els he hg (cells := cells1) hr hs hsh' (by rw [flat_set hsh (stripEl_shp f1) hi, g2]; exact hv.setAt _ hvx') h1'
      exact ⟨cells2, by rw [List.map_cons, g1, g3], g4, g5, g6, by rw [g7, List.length_set]⟩
    · cases hs
theorem range_cells (z : Array Value) (hz : 0 < z.size) : ∀ n, ((Array.range (n * z.size)).map (fun j => z[j % z.size]!)).toList = (List.replicate n z.toList).flatten
  | 0 => by simp
  | n + 1 => by
    have ih := range_cells z hz n
    simp only [Array.toList_map, Array.toList_range] at *
    rw [Nat.succ_mul, List.range_add, List.map_append, ih, List.replicate_succ', List.flatten_append]
    congr 1
    simp only [List.map_map, List.flatten_cons, List.flatten_nil, List.append_nil]
    apply List.ext_getElem?
    intro j
    by_cases hj : j < z.size
    · simp [hj, Nat.mod_eq_of_lt hj]
    · simp [hj, Nat.not_lt.1 hj]
theorem cst_cells {z : Value} {k : Option Nat} (hf : elFits k (cst z) = true) : elCells (cst z) = z.cells.toList.map .sc ∧ z.cells.size = kz k := by
  have hs := (elFits_shp hf).1
  have hl := shp_len hs
  cases z <;> simp only [cst, elCells, Value.cells] at * <;> first | (simp at hl ⊢; exact hl) 
theorem ex_buildSlice {t el : TypeId} {len : Nat} {parts : Array (Nat × Operand)} (hop : o.op = .buildSlice t len parts) (ht : P.underlying t = some (.slice el)) {k : Option Nat} (hkz : 0 < kz k) {z : Value} (hz : zeroOf P el = some z) {i : TypeInfo} (hi : P.info? el = some i) (hl : len * i.size ≤ 16777216) (hs : i.size = kz k) (hf : elFits k (cst z) = true) {parts' : List (Nat × Opd)} (hc : compEls E parts.toList = some parts')
    (hx : aop C (.buildSlice k (cst z) len parts') e h = some (v, h')) (r : Rel S h B W) (he : EnvR S e a E.nt) (hg : GlobOK E.gl S.imm) : ExOK P o a S h' v B W := by
  simp only [aop, Option.map_eq_some_iff, Prod.mk.injEq] at hx
  obtain ⟨els, hse, rfl, rfl⟩ := hx
  obtain ⟨hcz, hzs⟩ := cst_cells hf
  obtain ⟨f1, f2⟩ := elFits_shp hf
  have hcells : ((Array.range (len * kz k)).map (fun j => z.cells[j % z.cells.size]!)).toList = (List.replicate len z.cells.toList).flatten := by
    rw [← hzs]; exact range_cells _ (by omega) len
  have hone : ∀ u ∈ z.cells.toList, u.oneCell' = true := by
    rw [hcz] at f2
    exact oneL_V (S := S) f2 (VL_map_sc _)
  have hv0 : VL S (flat (List.replicate len (cst z))) ((Array.range (len * kz k)).map (fun j => z.cells[j % z.cells.size]!)).toList := by
    rw [hcells, flat, List.map_replicate, hcz]
    refine VL.flatten (by simp) fun j y w hy hw => ?_
    rw [List.getElem?_replicate] at hy hw
    split at hy
    · cases hy; rename_i hj; rw [if_pos hj] at hw; cases hw; exact VL_map_sc _
    · cases hy
  obtain ⟨cells', g1, g2, g3, g4, g5⟩ := set_els he hg (cells := (Array.range (len * kz k)).map (fun j => z.cells[j % z.cells.size]!)) hc hse (fun x hx => by rw [List.eq_of_mem_replicate hx]; exact f1) hv0 (by
    rw [hcells]
    intro u hu
    rw [List.mem_flatten] at hu
    obtain ⟨l, hl1, hl2⟩ := hu
    rw [List.eq_of_mem_replicate hl1] at hl2
    exact hone u hl2)
  rw [List.length_replicate] at g5
  obtain ⟨r', ex⟩ := r.newImm cells' el (0, 0) g4
  refine ⟨_, .slice (some ⟨W.heap.size, 0, none⟩) len len, _, _, ?_, .inl rfl, ex, r', ?_, (Below.refl B W).alloc r.base _⟩
  · have hmap : (parts.map fun (i, x) => (i, a.eval x)).toList = parts.toList.map fun (i, x) => (i, a.eval x) := by simp
    have hfill : ∀ cs : Array Value, cs.toList = ((Array.range (len * kz k)).map (fun j => z.cells[j % z.cells.size]!)).toList → Instr.fill (fun j => some (j * kz k, kz k)) cs (parts.map fun (i, x) => (i, a.eval x)).toList = some cells' := by
      intro cs hcs
      rw [hmap, Array.toList_inj.1 hcs]; exact g1
    have hnl : ¬ (16777216 < len * kz k) := by rw [← hs]; omega
    simp only [execOp, hop, Instr.buildSlice, Sem.run_bind, run_underlying' ht, Result.andThen_ok, run_sizeOf' hi, hs]
    rw [if_neg (by simpa using hnl)]
    by_cases h0 : len * kz k = 0
    · rw [if_pos h0]
      simp only [Sem.run_bind, Sem.run_pure, Result.andThen_ok]
      rw [hfill _ (by simp [h0])]
      simp [newRow]
    · rw [if_neg h0]
      simp only [Sem.run_bind, Sem.run_pure, Result.andThen_ok, run_zero' hz]
      rw [hfill _ rfl]
      simp [newRow]
  · simp only [V]
    refine ⟨_, len, by rw [g5], by omega, by simp only [OwnV]; omega, .inr ⟨W.heap.size, 0, rfl, VE_of_flat g3 (VL.mono ex _ g2) fun j u hj => ?_⟩⟩
    simp only [addImm, if_true, Nat.zero_add]
    simpa using hj
end
end Go.Proofs.Ytpnkldjbiinnpaa.AM
