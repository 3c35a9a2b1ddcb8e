import Derived.Test.YtpnkldjbiinnpaaAm20
import Derived.Deep.Slices
import Derived.ChangeArms
import Derived.Deep.Fields
import Derived.OpenShut
import Derived.SizedLaws
/- What comes in as data, as plain values: whole numbers, bools, strings, slices, structs. -/
namespace Go.Proofs.Ytpnkldjbiinnpaa.AM
open Go Go.RowKit Go.Deep
set_option linter.unusedVariables false
/-- all that the memory holds, as it is -/
def memImm (w : World) : Imm := fun b o => match w.cell? ⟨b, o, none⟩ with | some u => if u.oneCell' then some u else none | none => none
theorem memImm_ok (w : World) : ImmOK (memImm w) w := by
  intro b o u h
  unfold memImm at h
  split at h
  · rename_i u' hc
    split at h
    · rename_i h1; cases h; exact ⟨hc, h1⟩
    · cases h
  · cases h
theorem memImm_of {w : World} {b o : Nat} {u : Value} (h : w.cell? ⟨b, o, none⟩ = some u) (h1 : u.oneCell' = true) : memImm w b o = some u := by
  simp only [memImm, h, h1, if_true]
/-- nothing in it is heavier than what may be -/
def Light {H : Type} (P : Program) (t : TypeId) (d : DataW H) : Prop := ∀ n ∈ d.weights P t, n ≤ 140737488351232
/-- data of a type reads as plain values with a property -/
structure Reads (P : Program) (t : TypeId) (I : List AV → Prop) : Prop where
  of : ∀ {H : Type} {enc : TypeId × Value → H} {w : World} {base : Nat} {spare : Nat → Bool} {held : Bool} {fuel : Nat} {cs : List Value} {x : DataW H × List MemPlace} {b0 : Nat},
    DataW.trod enc P w base spare held fuel t cs = some x → Light P t x.1 → ∃ xs, VL (immSt (memImm w) b0) xs cs ∧ oneL xs = true ∧ (∀ u ∈ cs, u.oneCell' = true) ∧ I xs
theorem Reads.imp {P : Program} {t : TypeId} {I J : List AV → Prop} (h : Reads P t I) (hi : ∀ xs, I xs → J xs) : Reads P t J := ⟨fun hx hl => by
  obtain ⟨xs, h1, h2, h3, h4⟩ := h.of hx hl
  exact ⟨xs, h1, h2, h3, hi _ h4⟩⟩
theorem Reads.int {P : Program} {t : TypeId} {k : IntKind} (ht : P.underlying t = some (.int k)) : Reads P t (fun xs => ∃ n, xs = [.int k n] ∧ (Lit.int k n).wf = true) := ⟨fun h _ => by
  obtain ⟨n, rfl, _, hw⟩ := DataW.trod_int ht h
  exact ⟨[.int k n], VL_cons (V_sc _) VL_nil, rfl, by simp [Value.oneCell'], n, rfl, hw⟩⟩
theorem Reads.bool {P : Program} {t : TypeId} (ht : P.underlying t = some .bool) : Reads P t (fun xs => ∃ b, xs = [.bool b]) := ⟨fun h _ => by
  obtain ⟨n, rfl, _⟩ := DataW.trod_bool ht h
  exact ⟨[.bool n], VL_cons (V_sc _) VL_nil, rfl, by simp [Value.oneCell'], n, rfl⟩⟩
theorem Reads.string {P : Program} {t : TypeId} (ht : P.underlying t = some .string) : Reads P t (fun xs => ∃ s, xs = [.str s] ∧ s.size ≤ 140737488351232) := ⟨fun h hl => by
  obtain ⟨s, rfl, rfl, hs⟩ := DataW.trod_string ht h
  exact ⟨[.str s], VL_cons (V_sc _) VL_nil, rfl, by simp [Value.oneCell'], s, rfl, by
    have := hl _ (by simp only [DataW.weights]; exact List.mem_singleton.2 rfl)
    simpa using this⟩⟩
theorem oneL_append {x y : List AV} (h : oneL x = true) (k : oneL y = true) : oneL (x ++ y) = true := by
  induction x with
  | nil => exact k
  | cons a r ih => simp only [oneL, List.cons_append, Bool.and_eq_true] at *; exact ⟨h.1, ih h.2⟩
structure ReadsF (P : Program) (fs : List Field) (off : Nat) (I : List AV → Prop) : Prop where
  of : ∀ {H : Type} {enc : TypeId × Value → H} {w : World} {base : Nat} {spare : Nat → Bool} {held : Bool} {fuel : Nat} {cs : List Value} {b0 : Nat} {n : Nat}, cs.length = n →
    (∀ (i : Nat) (f : Field), fs[i]? = some f → ∃ y, DataW.trod enc P w base spare held fuel f.type ((cs.drop f.offset).take (P.cellsOf f.type)) = some y ∧ Light P f.type y.1) → n = off + (fs.map fun f => P.cellsOf f.type).sum → ∃ xs, VL (immSt (memImm w) b0) xs (cs.drop off) ∧ oneL xs = true ∧ (∀ u ∈ cs.drop off, u.oneCell' = true) ∧ I xs
theorem ReadsF.nil {P : Program} {off : Nat} : ReadsF P [] off (fun xs => xs = []) := ⟨fun hl _ hn => by
  refine ⟨[], ?_, rfl, ?_, rfl⟩
  · rw [List.drop_eq_nil_of_le (by simp at hn; omega)]; exact VL_nil
  · rw [List.drop_eq_nil_of_le (by simp at hn; omega)]; simp⟩
theorem ReadsF.cons {P : Program} {f : Field} {fs : List Field} {off : Nat} {I J : List AV → Prop} {a : Nat} (h : Reads P f.type I) (ho : f.offset = off) (ha : P.cellsOf f.type = a) (hr : ReadsF P fs (off + a) J) :
    ReadsF P (f :: fs) off (fun xs => ∃ x y, xs = x ++ y ∧ I x ∧ J y) := ⟨fun {H enc w base spare held fuel cs b0 n} hl hf hn => by
  obtain ⟨y, hy, hyl⟩ := hf 0 f rfl
  rw [ho, ha] at hy
  obtain ⟨xs, h1, h2, h3, h4⟩ := h.of (b0 := b0) hy hyl
  simp only [List.map_cons, List.sum_cons, ha] at hn
  obtain ⟨ys, g1, g2, g3, g4⟩ := hr.of (b0 := b0) hl (fun i f' hi => hf (i + 1) f' hi) (by omega)
  have e : cs.drop off = (cs.drop off).take a ++ cs.drop (off + a) := by rw [← List.drop_drop, List.take_append_drop]
  refine ⟨xs ++ ys, ?_, oneL_append h2 g2, ?_, xs, ys, rfl, h4, g4⟩
  · rw [e]; exact h1.append g1
  · rw [e]; intro u hu
    rcases List.mem_append.1 hu with hu | hu
    · exact h3 u hu
    · exact g3 u hu⟩
theorem Reads.struct {P : Program} {t : TypeId} {fs : List Field} {I : List AV → Prop} (ht : P.underlying t = some (.struct fs.toArray)) (hc : P.cellsOf t = (fs.map fun f => P.cellsOf f.type).sum) (h : ReadsF P fs 0 I) : Reads P t I := ⟨fun {H enc w base spare held fuel cs x b0} hx hlight => by
  obtain ⟨xs, n, _, rfl, hlen, hxl, hf⟩ := DataW.trod_struct ht hx
  have := h.of (b0 := b0) (cs := cs) (n := cs.length) rfl (fun i f hi => by
    have hi' : fs.toArray[i]? = some f := by simpa using hi
    have hlt : i < xs.length := by
      rw [hxl]
      have := (List.getElem?_eq_some_iff.1 hi).1
      simpa using this
    refine ⟨xs[i], by rw [hf i f hi', List.getElem?_eq_getElem hlt], fun k hk => hlight k ?_⟩
    simp only [DataW.weights, ht]
    exact DataW.weights_mem_each (j := i) (t := f.type) (d := xs[i].1) (by rw [List.getElem?_map]; show (fs[i]?).map _ = _; rw [hi]; rfl) (by rw [List.getElem?_map, List.getElem?_eq_getElem hlt]; rfl) k hk) (by rw [hlen, hc]; omega)
  simpa using this⟩
theorem weights_mem_all {H : Type} {P : Program} {e : TypeId} {d : DataW H} {n : Nat} : ∀ {l : List (DataW H)}, d ∈ l → n ∈ d.weights P e → n ∈ DataW.weightsAll P e l
  | x :: l, h, hn => by
    simp only [DataW.weightsAll, List.mem_append]
    rcases List.mem_cons.1 h with rfl | h
    · exact .inl hn
    · exact .inr (weights_mem_all h hn)
def mkEl (k : Option Nat) (xs : List AV) : AV := match k with | none => xs.headD .unk | some _ => .agg xs
theorem addr_add (b o n : Nat) : (Addr.mk b o none).add n = ⟨b, o + n, none⟩ := by
  unfold Addr.add
  split
  · rename_i h; subst h; rfl
  · rfl
theorem spot_none {w : World} {a : Addr} {u : Value} (h : w.cell? a = some u) : a.spot = none := by
  unfold World.cell? at h
  split at h
  · split at h
    · cases h
    · rename_i hs; simpa using hs
  · cases h
/-- a slice that came in: its elements' cells have the property -/
theorem Reads.slice {P : Program} {t e : TypeId} {k : Option Nat} {I : List AV → Prop} (ht : P.underlying t = some (.slice e)) (hc : P.cellsOf e = kz k) (hz : 0 < kz k) (h : Reads P e I) :
    Reads P t (fun xs => ∃ ys : List (List AV), xs = [.slice .none k (ys.map (mkEl k))] ∧ ys.length * P.bytesOf e ≤ 140737488351232 ∧ ∀ y ∈ ys, I y ∧ y.length = kz k ∧ oneL y = true) := ⟨fun {H enc w base spare held fuel cs x b0} hx hlight => by
  rcases open_slice ht hx with ⟨rfl, _⟩ | ⟨a, len, cap, m, n, D, Pl, rfl, hb, hl, hm, hmm, rfl, hel⟩
  · refine ⟨[.slice .none k []], VL_cons ?_ VL_nil, rfl, by simp [Value.oneCell'], [], rfl, by simp, fun y hy => by cases hy⟩
    simp only [V, OwnV]
    exact ⟨none, 0, rfl, Nat.le_refl _, trivial, .inl (by simp)⟩
  · have hlm : len ≤ m := by rw [hmm]; split <;> omega
    have each : ∀ i, i < len → ∃ xs : List AV, (I xs ∧ xs.length = kz k ∧ oneL xs = true) ∧ ∃ cs', VL (immSt (memImm w) b0) xs cs' ∧ (∀ u ∈ cs', u.oneCell' = true) ∧ w.cells? base (a.add (i * kz k)) (kz k) = some cs' := by
      intro i hi
      obtain ⟨cs', h1, h2⟩ := hel i (by omega)
      obtain ⟨xs, g1, g2, g3, g4⟩ := h.of (b0 := b0) h2 fun k hk => hlight k (by
        simp only [DataW.weights, ht]
        exact List.mem_cons_of_mem _ (List.mem_append_left _ (weights_mem_all (d := D i) (List.mem_map.2 ⟨i, List.mem_range.2 hi, rfl⟩) hk)))
      rw [hc] at h1
      have := (World.cells?_some h1).2.1
      exact ⟨xs, ⟨g4, by rw [← g1.length, this], g2⟩, cs', g1, g3, h1⟩
    obtain ⟨f, hf⟩ := choose_lt each
    refine ⟨[.slice .none k (((List.range len).map f).map (mkEl k))], VL_cons ?_ VL_nil, rfl, by simp [Value.oneCell'], (List.range len).map f, rfl, ?_, fun y hy => ?_⟩
    · simp only [V, OwnV]
      refine ⟨some a, cap, by simp, by simpa using hl, trivial, ?_⟩
      cases len with
      | zero => exact .inl rfl
      | succ len' =>
        right
        obtain ⟨b, o, sp⟩ := a
        have hs : sp = none := by
          obtain ⟨_, cs', _, _, hcs⟩ := hf 0 (by omega)
          obtain ⟨_, hlen, hcell⟩ := World.cells?_some hcs
          have h0 := hcell 0 hz
          rw [Nat.zero_mul] at h0
          have : w.cell? ⟨b, o, sp⟩ = cs'[0]? := by simpa [Addr.add] using h0
          rw [List.getElem?_eq_getElem (by omega)] at this
          exact spot_none this
        subst hs
        refine ⟨b, o, rfl, VE.mk fun i y hy => ?_⟩
        rw [List.getElem?_map, List.getElem?_map, Option.map_eq_some_iff] at hy
        obtain ⟨xs, hxs, rfl⟩ := hy
        rw [Option.map_eq_some_iff] at hxs
        obtain ⟨i', hi', rfl⟩ := hxs
        have hil : i < len' + 1 := by have := (List.getElem?_eq_some_iff.1 hi').1; simpa using this
        rw [List.getElem?_range hil] at hi'
        cases hi'
        obtain ⟨⟨_, hxl, hone⟩, cs', g1, g3, hcs⟩ := hf i hil
        obtain ⟨_, hlen, hcell⟩ := World.cells?_some hcs
        have cell : ∀ j u, cs'[j]? = some u → memImm w b (o + i * kz k + j) = some u := by
          intro j u hj
          have hjl : j < kz k := by have := (List.getElem?_eq_some_iff.1 hj).1; omega
          have := hcell j hjl
          rw [addr_add, addr_add] at this
          exact memImm_of (by rw [this, hj]) (g3 u (List.mem_of_getElem? hj))
        have hvm : VM (immSt (memImm w) b0) (f i) b (o + i * kz k) := VM.mk fun j z hz' => by
          obtain ⟨v, q1, q2⟩ := g1.get hz'
          exact ⟨v, cell j v q1, q2⟩
        cases k with
        | some n =>
          simp only [mkEl, V1]
          exact ⟨by rw [hxl]; rfl, hvm⟩
        | none =>
          match hfi : f i, hxl, hone, hvm with
          | [z], _, hone, hvm =>
            simp only [VM] at hvm
            refine V1.of (fun c hc' => ?_) rfl hvm.1
            simp only [mkEl, List.headD_cons] at hc'
            subst hc'
            simp [oneL, AM.one] at hone
    · have := hlight ((len + (m - len)) * P.bytesOf e) (by simp [DataW.weights, ht])
      have h2 : len * P.bytesOf e ≤ (len + (m - len)) * P.bytesOf e := Nat.mul_le_mul_right _ (by omega)
      rw [List.length_map, List.length_range]
      omega
    · rw [List.mem_map] at hy
      obtain ⟨i, hi, rfl⟩ := hy
      exact (hf i (List.mem_range.1 hi)).1⟩
/-- an argument that came in -/
theorem light {H : Type} {P : Program} {t : TypeId} {d : DataW H} {ts : List TypeId} {ds : List (DataW H)} {j : Nat} (hsz : (DataW.weightsEach P ts ds).all (· ≤ reachBytes) = true) (ht : ts[j]? = some t) (hd : ds[j]? = some d) : Light P t d := fun n hn => by
  have := List.all_eq_true.1 hsz _ (DataW.weights_mem_each ht hd n hn)
  have h2 : n ≤ reachBytes := by simpa using this
  exact h2
structure ReadsA (P : Program) (e : TypeId) (n : Nat) (I : List AV → Prop) : Prop where
  of : ∀ {H : Type} {enc : TypeId × Value → H} {w : World} {base : Nat} {spare : Nat → Bool} {held : Bool} {fuel : Nat} {cs : List Value} {b0 : Nat}, cs.length = n * P.cellsOf e →
    (∀ i, i < n → ∃ y, DataW.trod enc P w base spare held fuel e ((cs.drop (i * P.cellsOf e)).take (P.cellsOf e)) = some y ∧ Light P e y.1) → ∃ ys : List (List AV), VL (immSt (memImm w) b0) ys.flatten cs ∧ oneL ys.flatten = true ∧ (∀ u ∈ cs, u.oneCell' = true) ∧ ys.length = n ∧ ∀ y ∈ ys, I y ∧ y.length = P.cellsOf e
theorem ReadsA.mk' {P : Program} {e : TypeId} {I : List AV → Prop} (h : Reads P e I) : ∀ n, ReadsA P e n I
  | 0 => ⟨fun {H enc w base spare held fuel cs b0} hl _ => ⟨[], by rw [List.eq_nil_of_length_eq_zero (by omega : cs.length = 0)]; exact VL_nil, rfl, by rw [List.eq_nil_of_length_eq_zero (by omega : cs.length = 0)]; simp, rfl, by simp⟩⟩
  | n + 1 => ⟨fun {H enc w base spare held fuel cs b0} hl hf => by
    obtain ⟨y, hy, hyl⟩ := hf 0 (by omega)
    rw [Nat.zero_mul, List.drop_zero] at hy
    obtain ⟨xs, h1, h2, h3, h4⟩ := h.of (b0 := b0) hy hyl
    have hc : (cs.drop (P.cellsOf e)).length = n * P.cellsOf e := by rw [List.length_drop, hl, Nat.add_mul]; omega
    obtain ⟨ys, g1, g2, g3, g4, g5⟩ := (ReadsA.mk' h n).of (b0 := b0) (cs := cs.drop (P.cellsOf e)) hc (fun i hi => by
      obtain ⟨z, hz, hzl⟩ := hf (i + 1) (by omega)
      refine ⟨z, ?_, hzl⟩
      rw [List.drop_drop, show P.cellsOf e + i * P.cellsOf e = (i + 1) * P.cellsOf e by rw [Nat.add_mul]; omega]
      exact hz)
    refine ⟨xs :: ys, ?_, ?_, ?_, by simp [g4], ?_⟩
    · rw [List.flatten_cons, ← List.take_append_drop (P.cellsOf e) cs]; exact h1.append g1
    · rw [List.flatten_cons]; exact oneL_append h2 g2
    · rw [← List.take_append_drop (P.cellsOf e) cs]; intro u hu
      rcases List.mem_append.1 hu with hu | hu
      · exact h3 u hu
      · exact g3 u hu
    · intro z hz
      rcases List.mem_cons.1 hz with rfl | hz
      · refine ⟨h4, ?_⟩
        have := h1.length
        rw [← this, List.length_take, hl, Nat.add_mul]
        omega
      · exact g5 z hz⟩
/-- an array that came in -/
theorem Reads.array {P : Program} {t e : TypeId} {n : Nat} {I : List AV → Prop} (ht : P.underlying t = some (.array n e)) (hc : P.cellsOf t = n * P.cellsOf e) (h : Reads P e I) :
    Reads P t (fun xs => ∃ ys : List (List AV), xs = ys.flatten ∧ ys.length = n ∧ ∀ y ∈ ys, I y ∧ y.length = P.cellsOf e) := ⟨fun {H enc w base spare held fuel cs x b0} hx hlight => by
  obtain ⟨xs, m, _, rfl, hlen, hxl, hf⟩ := DataW.trod_array ht hx
  obtain ⟨ys, h1, h2, h3, h4, h5⟩ := (ReadsA.mk' h n).of (b0 := b0) (cs := cs) (by rw [hlen, hc]) (fun i hi => by
    have hlt : i < xs.length := by omega
    refine ⟨xs[i], by rw [hf i hi, List.getElem?_eq_getElem hlt], fun k hk => hlight k ?_⟩
    simp only [DataW.weights, ht]
    exact weights_mem_all (d := xs[i].1) (List.mem_map.2 ⟨xs[i], List.getElem_mem hlt, rfl⟩) hk)
  exact ⟨ys.flatten, h1, h2, h3, ys, rfl, h4, h5⟩⟩
/-- what a slice that came in takes -/
theorem sized {H : Type} {enc : TypeId × Value → H} {P : Program} {W : World} {base : Nat} {spare : Nat → Bool} {held : Bool} {t e : TypeId} {a : Option Addr} {len cap : Nat} {d : DataW H} {ps : List MemPlace} {ts : List TypeId} {ds : List (DataW H)} {j B : Nat}
    (hsz : (DataW.weightsEach P ts ds).all (· ≤ reachBytes) = true) (ht : ts[j]? = some t) (hd : ds[j]? = some d) (hu : P.underlying t = some (.slice e)) (hB : P.bytesOf e = B)
    (h : DataW.Trod enc P W base spare held t (.slice a len cap) d ps) : len * B ≤ 140737488351232 := by
  obtain ⟨fuel, hf⟩ := h
  rcases open_slice hu hf with ⟨hcs, _⟩ | ⟨x, l, c, m, n, D, Pl, hcs, _, hl, hm, hmm, hx, _⟩
  · simp [Value.cells] at hcs
    obtain ⟨rfl, rfl, rfl⟩ := hcs
    simp
  · simp [Value.cells] at hcs
    obtain ⟨rfl, rfl, rfl⟩ := hcs
    obtain ⟨hx, _⟩ := Prod.mk.inj hx
    subst hx
    have z := sized_slice hsz ht hd hu
    rw [hB] at z
    refine Nat.le_trans (Nat.mul_le_mul_right _ ?_) z
    simp
end Go.Proofs.Ytpnkldjbiinnpaa.AM
