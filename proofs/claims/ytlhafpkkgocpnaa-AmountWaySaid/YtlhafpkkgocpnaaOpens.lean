import Derived.Test.YtlhafpkkgocpnaaWWords
import Derived.Deep.Slices
import Derived.ChangeArms
import Derived.Deep.Fields
import Derived.OpenShut
import Derived.SizedLaws
/- What comes in as data reads as a value of a kind: whole numbers, bools, strings, slices, structs. -/
namespace Go.Proofs.Ytlhafpkkgocpnaa.Opens
open Go.RowKit Go.Deep Go.Proofs.YtlhafpkkgocpnaaW.PrintWords

structure Opens {α : Type} (P : Program) (d : Kd α) (t : TypeId) (I : α → Prop) : Prop where
  of : ∀ {H : Type} {enc : TypeId × Value → H} {w : World} {base : Nat} {spare : Nat → Bool} {held : Bool} {fuel : Nat} {cs : List Value} {x : DataW H × List MemPlace},
    DataW.trod enc P w base spare held fuel t cs = some x → ∃ v, d.K w v cs ∧ I v

theorem Opens.imp {α : Type} {P : Program} {d : Kd α} {t : TypeId} {I J : α → Prop} (h : Opens P d t I) (hi : ∀ v, I v → J v) : Opens P d t J := ⟨fun ht => by
  obtain ⟨v, hk, hv⟩ := h.of ht
  exact ⟨v, hk, hi v hv⟩⟩
theorem int {P : Program} {t : TypeId} {k : IntKind} (ht : P.underlying t = some (.int k)) : Opens P (Kd.int k) t (fun x => (Lit.int k x).wf = true) := ⟨fun h => by
  obtain ⟨n, rfl, _, hw⟩ := DataW.trod_int ht h
  exact ⟨n, rfl, hw⟩⟩
theorem bool {P : Program} {t : TypeId} (ht : P.underlying t = some .bool) : Opens P Kd.bool t (fun _ => True) := ⟨fun h => by
  obtain ⟨n, rfl, _⟩ := DataW.trod_bool ht h
  exact ⟨n, rfl, trivial⟩⟩
theorem string {P : Program} {t : TypeId} (ht : P.underlying t = some .string) : Opens P Kd.string t (fun s => s.size ≤ maxLen) := ⟨fun h => by
  obtain ⟨s, rfl, _, hs⟩ := DataW.trod_string ht h
  exact ⟨s, rfl, hs⟩⟩
theorem iso {α β : Type} {P : Program} {d : Kd α} {t : TypeId} {I : α → Prop} (h : Opens P d t I) (f : β → α) (g : α → β) (hg : ∀ v, f (g v) = v) : Opens P (Kd.iso d f) t (fun v => I (f v)) := ⟨fun ht => by
  obtain ⟨v, hk, hv⟩ := h.of ht
  exact ⟨g v, by show d.K _ (f (g v)) _; rw [hg]; exact hk, by show I (f (g v)); rw [hg]; exact hv⟩⟩
theorem slice {α : Type} [Inhabited α] {P : Program} {d : Kd α} {t e : TypeId} {I : α → Prop} (ht : P.underlying t = some (.slice e)) (hc : P.cellsOf e = d.sz) (h : Opens P d e I) :
    Opens P (Kd.slice e d) t (fun xs => xs.length ≤ maxLen ∧ ∀ x ∈ xs, I x) := ⟨fun {H enc w base spare held fuel cs x} hx => by
  rcases open_slice ht hx with ⟨rfl, _⟩ | ⟨a, len, cap, m, n, D, Pl, rfl, hb, hl, hm, hmm, _, hel⟩
  · exact ⟨[], ⟨none, 0, rfl, Nat.le_refl _, Kd.C_nil d w⟩, by simp [maxLen], fun x hx => by cases hx⟩
  · have hlm : len ≤ m := by rw [hmm]; split <;> omega
    have each : ∀ i, i < len → ∃ v, I v ∧ ∃ cs', w.cells? base (a.add (i * d.sz)) d.sz = some cs' ∧ d.K w v cs' := by
      intro i hi
      obtain ⟨cs', h1, h2⟩ := hel i (by omega)
      obtain ⟨v, hk, hv⟩ := h.of h2
      exact ⟨v, hv, cs', by rw [← hc]; exact h1, hk⟩
    obtain ⟨f, hf⟩ := choose_lt each
    refine ⟨(List.range len).map f, ⟨some a, cap, by simp, by simpa using hl, ?_⟩, by simpa using Nat.le_trans hl hm, ?_⟩
    · refine ⟨rfl, by have : len ≤ maxLen := Nat.le_trans hl hm; unfold maxLen at this; simp; omega, fun _ => ⟨a, rfl, fun j p hj => ?_⟩⟩
      rw [List.getElem?_map, Option.map_eq_some_iff] at hj
      obtain ⟨j', hj', rfl⟩ := hj
      have hjl : j < len := by
        have := List.getElem?_eq_some_iff.1 hj'
        obtain ⟨h1, _⟩ := this
        simpa using h1
      have : j' = j := by
        rw [List.getElem?_range hjl] at hj'
        exact (Option.some.inj hj').symm
      subst this
      obtain ⟨_, cs', hcs, hk⟩ := hf j' hjl
      obtain ⟨_, hlen, hcell⟩ := World.cells?_some hcs
      refine ⟨cs', hlen, hk, fun i u hu => ?_⟩
      have hi : i < d.sz := by
        have := (List.getElem?_eq_some_iff.1 hu).1
        omega
      rw [← hu, ← hcell i hi, Go.Deep.add_add]
    · intro x hx
      rw [List.mem_map] at hx
      obtain ⟨i, hi, rfl⟩ := hx
      exact (hf i (List.mem_range.1 hi)).1⟩

structure OpensF {α : Type} (P : Program) (d : Kd α) (fs : List Field) (off : Nat) (I : α → Prop) : Prop where
  of : ∀ {H : Type} {enc : TypeId × Value → H} {w : World} {base : Nat} {spare : Nat → Bool} {held : Bool} {fuel : Nat} {cs : List Value}, cs.length = off + d.sz →
    (∀ (i : Nat) (f : Field), fs[i]? = some f → ∃ y, DataW.trod enc P w base spare held fuel f.type ((cs.drop f.offset).take (P.cellsOf f.type)) = some y) → ∃ v, d.K w v (cs.drop off) ∧ I v
theorem OpensF.one {α : Type} {P : Program} {d : Kd α} {f : Field} {off : Nat} {I : α → Prop} (h : Opens P d f.type I) (ho : f.offset = off) (hc : P.cellsOf f.type = d.sz) : OpensF P d [f] off I := ⟨fun hl hf => by
  obtain ⟨y, hy⟩ := hf 0 f rfl
  rw [ho, hc, List.take_of_length_le (by simp; omega)] at hy
  exact h.of hy⟩
theorem OpensF.cons {α β : Type} {P : Program} {a : Kd α} {b : Kd β} {f : Field} {fs : List Field} {off : Nat} {I : α → Prop} {J : β → Prop} (h : Opens P a f.type I) (ho : f.offset = off) (hc : P.cellsOf f.type = a.sz)
    (hr : OpensF P b fs (off + a.sz) J) : OpensF P (Kd.pair a b) (f :: fs) off (fun v => I v.1 ∧ J v.2) := ⟨fun {H enc w base spare held fuel cs} hl hf => by
  have hsz : (Kd.pair a b).sz = a.sz + b.sz := rfl
  obtain ⟨y, hy⟩ := hf 0 f rfl
  rw [ho, hc] at hy
  obtain ⟨v, hk, hv⟩ := h.of hy
  obtain ⟨u, hk2, hu⟩ := hr.of (cs := cs) (by rw [hl, hsz, Nat.add_assoc]) (fun i f' hi => hf (i + 1) f' hi)
  refine ⟨(v, u), ⟨_, _, ?_, hk, hk2⟩, hv, hu⟩
  rw [← List.drop_drop, List.take_append_drop]⟩
theorem struct {α : Type} {P : Program} {d : Kd α} {t : TypeId} {fs : List Field} {I : α → Prop} (ht : P.underlying t = some (.struct fs.toArray)) (hc : P.cellsOf t = d.sz) (h : OpensF P d fs 0 I) : Opens P d t I := ⟨fun hx => by
  obtain ⟨xs, n, _, _, hlen, hxl, hf⟩ := DataW.trod_struct ht hx
  have := h.of (cs := _) (by rw [Nat.zero_add, ← hc]; exact hlen) (fun i f hi => by
    have hi' : fs.toArray[i]? = some f := by simpa using hi
    have hlt : i < xs.length := by
      rw [hxl]
      have := (List.getElem?_eq_some_iff.1 hi).1
      simpa using this
    exact ⟨xs[i], by rw [hf i f hi', List.getElem?_eq_getElem hlt]⟩)
  simpa using this⟩
/-- a slice that came in -/
theorem row {α : Type} {P : Program} {d : Kd α} {t e : TypeId} {I : List α → Prop} (h : Opens P (Kd.slice e d) t I)
    {H : Type} {enc : TypeId × Value → H} {w : World} {base : Nat} {spare : Nat → Bool} {held : Bool} {a : Option Addr} {len cap : Nat} {x : DataW H} {p : List MemPlace}
    (ht : DataW.Trod enc P w base spare held t (.slice a len cap) x p) : ∃ xs : List α, len = xs.length ∧ xs.length ≤ cap ∧ Kd.C d w a xs.length xs ∧ I xs := by
  obtain ⟨fuel, hf⟩ := ht
  obtain ⟨xs, ⟨A, c, hcs, hc, hC⟩, hI⟩ := h.of hf
  have e : (Value.slice a len cap).cells.toList = [Value.slice a len cap] := by simp [Value.cells]
  rw [e] at hcs
  injection hcs with h1 _
  injection h1 with e1 e2 e3
  subst e1 e2 e3
  exact ⟨xs, rfl, hc, hC, hI⟩
/-- what a slice that came in takes -/
theorem sized {H : Type} {enc : TypeId × Value → H} {P : Program} {W : World} {base : Nat} {spare : Nat → Bool} {held : Bool} {t e : TypeId} {a : Option Addr} {len cap : Nat} {d : DataW H} {ps : List MemPlace} {ts : List TypeId} {ds : List (DataW H)} {j B : Nat}
    (hsz : (DataW.weightsEach P ts ds).all (· ≤ reachBytes) = true) (ht : ts[j]? = some t) (hd : ds[j]? = some d) (hu : P.underlying t = some (.slice e)) (hB : P.bytesOf e = B)
    (h : DataW.Trod enc P W base spare held t (.slice a len cap) d ps) : len * B ≤ 140737488351232 := by
  obtain ⟨fuel, hf⟩ := h
  rcases open_slice hu hf with ⟨hcs, _⟩ | ⟨x, l, c, m, n, D, Pl, hcs, _, hl, hm, hmm, hx, _⟩
  · simp [Value.cells] at hcs
    obtain ⟨rfl, rfl, rfl⟩ := hcs
    simp
  · simp [Value.cells] at hcs
    obtain ⟨rfl, rfl, rfl⟩ := hcs
    obtain ⟨hx, _⟩ := Prod.mk.inj hx
    subst hx
    have z := sized_slice hsz ht hd hu
    rw [hB] at z
    refine Nat.le_trans (Nat.mul_le_mul_right _ ?_) z
    simp
end Go.Proofs.Ytlhafpkkgocpnaa.Opens
