import Derived.Test.YtpnkldjbiinnpaaBzD
/- What comes in: bytes, numbers, hashes, records. -/
namespace Go.Proofs.Ytpnkldjbiinnpaa.AM
open Go
set_option linter.unusedSimpArgs false
set_option linter.unusedVariables false
theorem oc_slice {S : St} {xs : List AV} {a : Option Addr} {n c : Nat} (h : VL S xs (Value.slice a n c).cells.toList) : VL S xs [.slice a n c] := h
theorem oc_agg {S : St} {xs : List AV} {c : Array Value} (h : VL S xs (Value.agg c).cells.toList) : VL S [.agg xs] [.agg c] := VL_cons (by simp only [V]; exact ⟨c, rfl, h⟩) VL_nil
theorem okWide_array {P : Program} {w : World} {r : Reach} {base : Nat} {t : TypeId} {v : Value} {n : Nat} {e : TypeId} (ht : P.underlying t = some (.array n e)) (h : Value.okWide P w r base t v) : ∃ cs, v = .agg cs ∧ cs.size = P.cellsOf t := by
  simp only [Value.okWide, ht] at h
  obtain ⟨cs, h1, h2, _⟩ := h
  exact ⟨cs, h1, h2⟩
theorem wf_i64 {x : Int} (h : (Lit.int .i64 x).wf = true) : I64 x := by
  simp [Lit.wf, IntKind.min, IntKind.max, IntKind.bits, IntKind.signed] at h
  unfold I64
  omega
theorem wf_u64 {x : Int} (h : (Lit.int .u64 x).wf = true) : U64 x := by
  simp [Lit.wf, IntKind.min, IntKind.max, IntKind.bits, IntKind.signed] at h
  unfold U64
  omega
theorem wf_b {x : Int} (h : (Lit.int .u8 x).wf = true) : 0 ≤ x ∧ x ≤ 255 := by
  simp [Lit.wf, IntKind.min, IntKind.max, IntKind.bits, IntKind.signed] at h
  omega
theorem reads_i64 {P : Program} {t : TypeId} (ht : P.underlying t = some (.int .i64)) : Reads P t (fun xs => ∃ x, xs = [i64 x] ∧ I64 x) :=
  (Reads.int ht).imp fun xs ⟨x, h, w⟩ => ⟨x, h, wf_i64 w⟩
theorem reads_u64 {P : Program} {t : TypeId} (ht : P.underlying t = some (.int .u64)) : Reads P t (fun xs => ∃ x, xs = [u64 x] ∧ U64 x) :=
  (Reads.int ht).imp fun xs ⟨x, h, w⟩ => ⟨x, h, wf_u64 w⟩
theorem els_of {I : List AV → Prop} {α : Type} {k : Option Nat} {f : α → AV} {p : α → Prop} (hI : ∀ y, I y ∧ y.length = kz k ∧ oneL y = true → ∃ x, mkEl k y = f x ∧ p x) : ∀ {ys : List (List AV)}, (∀ y ∈ ys, I y ∧ y.length = kz k ∧ oneL y = true) → ∃ l : List α, ys.map (mkEl k) = l.map f ∧ l.length = ys.length ∧ ∀ x ∈ l, p x := by
  intro ys
  induction ys with
  | nil => intro _; exact ⟨[], rfl, rfl, by intro c hc; cases hc⟩
  | cons y ys ih =>
    intro h
    obtain ⟨l, h1, h2, h3⟩ := ih fun z hz => h z (List.mem_cons_of_mem _ hz)
    obtain ⟨x, hx, px⟩ := hI y (h y List.mem_cons_self)
    refine ⟨x :: l, by rw [List.map_cons, List.map_cons, h1, hx], by simp [h2], ?_⟩
    intro c hc
    rcases List.mem_cons.1 hc with rfl | hc
    · exact px
    · exact h3 c hc
theorem reads_sl {P : Program} {t e : TypeId} {k : Option Nat} {I : List AV → Prop} {α : Type} {f : α → AV} {p : α → Prop} (ht : P.underlying t = some (.slice e)) (hc : P.cellsOf e = kz k) (hz : 0 < kz k) (B : Nat) (hb : P.bytesOf e = B) (h : Reads P e I)
    (hI : ∀ y, I y ∧ y.length = kz k ∧ oneL y = true → ∃ x, mkEl k y = f x ∧ p x) : Reads P t (fun xs => ∃ l : List α, xs = [.slice .none k (l.map f)] ∧ (∀ x ∈ l, p x) ∧ l.length * B ≤ 140737488351232) :=
  (Reads.slice ht hc hz h).imp fun xs ⟨ys, h1, h2, h3⟩ => by
    obtain ⟨l, g1, g2, g3⟩ := els_of hI h3
    refine ⟨l, by rw [h1, g1], g3, ?_⟩
    rw [g2, ← hb]
    exact h2
theorem reads_bytes {P : Program} {t e : TypeId} (ht : P.underlying t = some (.slice e)) (he : P.underlying e = some (.int .u8)) (hc : P.cellsOf e = 1) (hb : P.bytesOf e = 1) : Reads P t (fun xs => ∃ l : List Int, xs = [.slice .none none (l.map u8)] ∧ Bytes l ∧ l.length ≤ 140737488351232) :=
  (reads_sl (k := none) (f := u8) (p := fun c => 0 ≤ c ∧ c ≤ 255) ht hc (by decide) 1 hb (Reads.int he) (fun y ⟨⟨x, hy, hw⟩, _, _⟩ => ⟨x, by rw [hy]; rfl, wf_b hw⟩)).imp fun xs ⟨l, h1, h2, h3⟩ => ⟨l, h1, h2, by omega⟩
theorem reads_nums {P : Program} {t e : TypeId} (ht : P.underlying t = some (.slice e)) (he : P.underlying e = some (.int .u64)) (hc : P.cellsOf e = 1) (hb : P.bytesOf e = 8) : Reads P t (fun xs => ∃ l : List Int, xs = [.slice .none none (l.map u64)] ∧ (∀ x ∈ l, U64 x) ∧ l.length * 8 ≤ 140737488351232) :=
  reads_sl (k := none) (f := u64) ht hc (by decide) 8 hb (Reads.int he) (fun y ⟨⟨x, hy, hw⟩, _, _⟩ => ⟨x, by rw [hy]; rfl, wf_u64 hw⟩)
theorem flat_bytes : ∀ {ys : List (List AV)}, (∀ y ∈ ys, (∃ x, y = [u8 x] ∧ (Lit.int .u8 x).wf = true) ∧ y.length = 1) → ∃ l : List Int, ys.flatten = l.map u8 ∧ l.length = ys.length ∧ Bytes l
  | [], _ => ⟨[], rfl, rfl, by intro c hc; cases hc⟩
  | y :: ys, h => by
    obtain ⟨l, h1, h2, h3⟩ := flat_bytes fun z hz => h z (List.mem_cons_of_mem _ hz)
    obtain ⟨⟨x, rfl, hx⟩, _⟩ := h y List.mem_cons_self
    refine ⟨x :: l, by rw [List.flatten_cons, h1]; rfl, by simp [h2], ?_⟩
    intro c hc
    rcases List.mem_cons.1 hc with rfl | hc
    · exact wf_b hx
    · exact h3 c hc
theorem reads_hash {P : Program} {t e : TypeId} {n : Nat} (ht : P.underlying t = some (.array n e)) (hc : P.cellsOf t = n * P.cellsOf e) (he : P.underlying e = some (.int .u8)) (hc1 : P.cellsOf e = 1) : Reads P t (fun xs => ∃ l : List Int, xs = l.map u8 ∧ l.length = n ∧ Bytes l) :=
  (Reads.array ht hc (Reads.int he)).imp fun xs ⟨ys, h1, h2, h3⟩ => by
    obtain ⟨l, g1, g2, g3⟩ := flat_bytes fun y hy => ⟨(h3 y hy).1, by rw [(h3 y hy).2, hc1]⟩
    exact ⟨l, by rw [h1, g1], by omega, g3⟩
theorem reads_rec {P : Program} {t t1 t2 e : TypeId} {f1 f2 : Field} (ht : P.underlying t = some (.struct #[f1, f2])) (hc : P.cellsOf t = 2) (o1 : f1.offset = 0) (o2 : f2.offset = 1) (g1 : f1.type = t1) (g2 : f2.type = t2)
    (h1 : P.underlying t1 = some (.int .u64)) (h2 : P.underlying t2 = some (.slice e)) (c1 : P.cellsOf t1 = 1) (c2 : P.cellsOf t2 = 1) (he : P.underlying e = some (.int .u8)) (hce : P.cellsOf e = 1) (hbe : P.bytesOf e = 1) :
    Reads P t (fun xs => ∃ r : Rc, xs = [u64 r.t, .slice .none none (r.v.map u8)] ∧ Rc.ok r ∧ r.v.length ≤ 140737488351232) := by
  subst g1; subst g2
  refine (Reads.struct (fs := [f1, f2]) ht (by rw [hc]; simp [c1, c2]) (ReadsF.cons (reads_u64 h1) o1 c1 (ReadsF.cons (a := 1) (reads_bytes h2 he hce hbe) (by rw [o2]) c2 ReadsF.nil))).imp ?_
  rintro xs ⟨x, y, rfl, ⟨n, rfl, hn⟩, z, w, rfl, ⟨l, rfl, hl, hll⟩, rfl⟩
  exact ⟨⟨n, l⟩, rfl, ⟨hn, hl⟩, hll⟩
theorem reads_recs {P : Program} {ts t t1 t2 e : TypeId} {f1 f2 : Field} (hs : P.underlying ts = some (.slice t)) (hb : P.bytesOf t = 32) (ht : P.underlying t = some (.struct #[f1, f2])) (hc : P.cellsOf t = 2) (o1 : f1.offset = 0) (o2 : f2.offset = 1) (g1 : f1.type = t1) (g2 : f2.type = t2)
    (h1 : P.underlying t1 = some (.int .u64)) (h2 : P.underlying t2 = some (.slice e)) (c1 : P.cellsOf t1 = 1) (c2 : P.cellsOf t2 = 1) (he : P.underlying e = some (.int .u8)) (hce : P.cellsOf e = 1) (hbe : P.bytesOf e = 1) :
    Reads P ts (fun xs => ∃ l : List Rc, xs = [.slice .none (some 2) (l.map Rc.av)] ∧ (∀ r ∈ l, Rc.ok r ∧ r.v.length ≤ 140737488351232) ∧ l.length * 32 ≤ 140737488351232) :=
  reads_sl (k := some 2) (f := Rc.av) (p := fun r => Rc.ok r ∧ r.v.length ≤ 140737488351232) hs hc (by decide) 32 hb (reads_rec ht hc o1 o2 g1 g2 h1 h2 c1 c2 he hce hbe) (fun y ⟨⟨r, hy, h1, h2⟩, _, _⟩ => ⟨r, by rw [hy]; rfl, h1, h2⟩)
end Go.Proofs.Ytpnkldjbiinnpaa.AM
