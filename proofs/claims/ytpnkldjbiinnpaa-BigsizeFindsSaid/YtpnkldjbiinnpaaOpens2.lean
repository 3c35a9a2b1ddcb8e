import Derived.Test.YtpnkldjbiinnpaaRows
import Derived.Test.YtpnkldjbiinnpaaWWords
import Derived.Deep.Slices
import Derived.ChangeArms
import Derived.Deep.Fields
import Derived.OpenShut
import Derived.SizedLaws
/- What comes in as data reads as a value of a kind: whole numbers, bools, strings, slices, structs. With what it holds at least (bulk), and what the reach says of it. -/
namespace Go.Proofs.Ytpnkldjbiinnpaa.Opens2
open Go.RowKit Go.Deep Go.Proofs.YtpnkldjbiinnpaaW.PrintWords

theorem one_le {H : Type} (d : DataW H) : 1 ≤ Rows.uptoBulk d := by
  cases d with
  | lit l => cases l <;> simp [Rows.uptoBulk]
  | nil => simp [Rows.uptoBulk]
  | ptr d => simp [Rows.uptoBulk]
  | slice elems spare => simp [Rows.uptoBulk]
  | agg parts => simp [Rows.uptoBulk]
  | iface t d => simp [Rows.uptoBulk]
  | map entries => simp [Rows.uptoBulk]
  | held h => simp [Rows.uptoBulk]
theorem weights_mem_all {H : Type} {P : Program} {e : TypeId} {d : DataW H} {n : Nat} (hn : n ∈ d.weights P e) : ∀ {l : List (DataW H)}, d ∈ l → n ∈ DataW.weightsAll P e l
  | y :: l, h => by
    simp only [DataW.weightsAll, List.mem_append]
    rcases List.mem_cons.1 h with rfl | h
    · exact Or.inl hn
    · exact Or.inr (weights_mem_all hn h)
theorem sum_le {H : Type} {α : Type} (m : α → Nat) (f : Nat → α) (D : Nat → DataW H) : ∀ (l : List Nat), (∀ i ∈ l, m (f i) ≤ Rows.uptoBulk (D i)) → ((l.map f).map m).sum ≤ Rows.uptoBulkAll (l.map D)
  | [], _ => by simp [Rows.uptoBulkAll]
  | i :: l, h => by
    simp only [List.map_cons, List.sum_cons, Rows.uptoBulkAll]
    have := h i List.mem_cons_self
    have := sum_le m f D l (fun j hj => h j (List.mem_cons_of_mem _ hj))
    omega

structure Opens {α : Type} (P : Program) (d : Kd α) (t : TypeId) (I : α → Prop) (m : α → Nat) (W : α → Prop) : Prop where
  of : ∀ {H : Type} {enc : TypeId × Value → H} {w : World} {base : Nat} {spare : Nat → Bool} {held : Bool} {fuel : Nat} {cs : List Value} {x : DataW H × List MemPlace},
    DataW.trod enc P w base spare held fuel t cs = some x → ∃ v, d.K w v cs ∧ I v ∧ m v ≤ Rows.uptoBulk x.1 ∧ ((∀ n ∈ x.1.weights P t, n ≤ reachBytes) → W v)

theorem Opens.imp {α : Type} {P : Program} {d : Kd α} {t : TypeId} {I J : α → Prop} {m m' : α → Nat} {W W' : α → Prop} (h : Opens P d t I m W) (hi : ∀ v, I v → J v) (hm : ∀ v, I v → m' v ≤ m v) (hW : ∀ v, I v → W v → W' v) : Opens P d t J m' W' := ⟨fun ht => by
  obtain ⟨v, hk, hv, hb, hw⟩ := h.of ht
  exact ⟨v, hk, hi v hv, Nat.le_trans (hm v hv) hb, fun h => hW v hv (hw h)⟩⟩
theorem int {P : Program} {t : TypeId} {k : IntKind} (ht : P.underlying t = some (.int k)) : Opens P (Kd.int k) t (fun x => (Lit.int k x).wf = true) (fun _ => 1) (fun _ => True) := ⟨fun h => by
  obtain ⟨n, rfl, _, hw⟩ := DataW.trod_int ht h
  exact ⟨n, rfl, hw, one_le _, fun _ => trivial⟩⟩
theorem bool {P : Program} {t : TypeId} (ht : P.underlying t = some .bool) : Opens P Kd.bool t (fun _ => True) (fun _ => 1) (fun _ => True) := ⟨fun h => by
  obtain ⟨n, rfl, _⟩ := DataW.trod_bool ht h
  exact ⟨n, rfl, trivial, one_le _, fun _ => trivial⟩⟩
theorem string {P : Program} {t : TypeId} (ht : P.underlying t = some .string) : Opens P Kd.string t (fun s => s.size ≤ maxLen) (fun s => s.size + 1) (fun s => s.size ≤ reachBytes) := ⟨fun h => by
  obtain ⟨s, rfl, rfl, hs⟩ := DataW.trod_string ht h
  exact ⟨s, rfl, hs, by simp [Rows.uptoBulk], fun h => h _ (by simp [DataW.weights])⟩⟩
theorem iso {α β : Type} {P : Program} {d : Kd α} {t : TypeId} {I : α → Prop} {m : α → Nat} {W : α → Prop} (h : Opens P d t I m W) (f : β → α) (g : α → β) (hg : ∀ v, f (g v) = v) : Opens P (Kd.iso d f) t (fun v => I (f v)) (fun v => m (f v)) (fun v => W (f v)) := ⟨fun ht => by
  obtain ⟨v, hk, hv, hm, hW⟩ := h.of ht
  exact ⟨g v, by show d.K _ (f (g v)) _; rw [hg]; exact hk, by show I (f (g v)); rw [hg]; exact hv, by show m (f (g v)) ≤ _; rw [hg]; exact hm, by show _ → W (f (g v)); rw [hg]; exact hW⟩⟩
theorem slice {α : Type} [Inhabited α] {P : Program} {d : Kd α} {t e : TypeId} {I : α → Prop} {m : α → Nat} {W : α → Prop} (ht : P.underlying t = some (.slice e)) (hc : P.cellsOf e = d.sz) (h : Opens P d e I m W) :
    Opens P (Kd.slice e d) t (fun xs => xs.length ≤ maxLen ∧ ∀ x ∈ xs, I x) (fun xs => (xs.map m).sum + 1) (fun xs => xs.length * P.bytesOf e ≤ reachBytes ∧ ∀ x ∈ xs, W x) := ⟨fun {H enc w base spare held fuel cs x} hx => by
  rcases open_slice ht hx with ⟨rfl, rfl⟩ | ⟨a, len, cap, k, n, D, Pl, rfl, hb, hl, hm, hmm, rfl, hel⟩
  · exact ⟨[], ⟨none, 0, rfl, Nat.le_refl _, Kd.C_nil d w⟩, ⟨by simp [maxLen], fun x hx => by cases hx⟩, one_le _, fun _ => ⟨by simp, fun x hx => by cases hx⟩⟩
  · have hlm : len ≤ k := by rw [hmm]; split <;> omega
    have each : ∀ i, i < len → ∃ v, I v ∧ m v ≤ Rows.uptoBulk (D i) ∧ ((∀ n ∈ (D i).weights P e, n ≤ reachBytes) → W v) ∧ ∃ cs', w.cells? base (a.add (i * d.sz)) d.sz = some cs' ∧ d.K w v cs' := by
      intro i hi
      obtain ⟨cs', h1, h2⟩ := hel i (by omega)
      obtain ⟨v, hk, hv, hv2, hv3⟩ := h.of h2
      exact ⟨v, hv, hv2, hv3, cs', by rw [← hc]; exact h1, hk⟩
    obtain ⟨f, hf⟩ := choose_lt each
    refine ⟨(List.range len).map f, ⟨some a, cap, by simp, by simpa using hl, ?_⟩, ⟨by simpa using Nat.le_trans hl hm, ?_⟩, ?_, ?_⟩
    · refine ⟨rfl, by have : len ≤ maxLen := Nat.le_trans hl hm; unfold maxLen at this; simp; omega, fun _ => ⟨a, rfl, fun j p hj => ?_⟩⟩
      rw [List.getElem?_map, Option.map_eq_some_iff] at hj
      obtain ⟨j', hj', rfl⟩ := hj
      have hjl : j < len := by
        have := List.getElem?_eq_some_iff.1 hj'
        obtain ⟨h1, _⟩ := this
        simpa using h1
      have : j' = j := by
        rw [List.getElem?_range hjl] at hj'
        exact (Option.some.inj hj').symm
      subst this
      obtain ⟨_, _, _, cs', hcs, hk⟩ := hf j' hjl
      obtain ⟨_, hlen, hcell⟩ := World.cells?_some hcs
      refine ⟨cs', hlen, hk, fun i u hu => ?_⟩
      have hi : i < d.sz := by
        have := (List.getElem?_eq_some_iff.1 hu).1
        omega
      rw [← hu, ← hcell i hi, Go.Deep.add_add]
    · intro x hx
      rw [List.mem_map] at hx
      obtain ⟨i, hi, rfl⟩ := hx
      exact (hf i (List.mem_range.1 hi)).1
    · have := sum_le m f D (List.range len) (fun i hi => (hf i (List.mem_range.1 hi)).2.1)
      simp only [Rows.uptoBulk]
      omega
    · intro hw
      refine ⟨?_, fun x hx => ?_⟩
      · have := hw ((len + (k - len)) * P.bytesOf e) (by simp [DataW.weights, ht])
        rw [List.length_map, List.length_range]
        exact Nat.le_trans (Nat.mul_le_mul_right _ (by omega)) this
      · rw [List.mem_map] at hx
        obtain ⟨i, hi, rfl⟩ := hx
        refine (hf i (List.mem_range.1 hi)).2.2.1 (fun n hn => hw n ?_)
        simp only [DataW.weights, ht, List.mem_cons, List.mem_append]
        exact Or.inr (Or.inl (weights_mem_all hn (List.mem_map_of_mem hi)))⟩

structure OpensF {α : Type} (P : Program) (d : Kd α) (fs : List Field) (off : Nat) (I : α → Prop) (m : α → Nat) (W : α → Prop) : Prop where
  of : ∀ {H : Type} {enc : TypeId × Value → H} {w : World} {base : Nat} {spare : Nat → Bool} {held : Bool} {fuel : Nat} {cs : List Value} (xs : List (DataW H × List MemPlace)), cs.length = off + d.sz → xs.length = fs.length →
    (∀ (i : Nat) (f : Field), fs[i]? = some f → DataW.trod enc P w base spare held fuel f.type ((cs.drop f.offset).take (P.cellsOf f.type)) = xs[i]?) →
    ∃ v, d.K w v (cs.drop off) ∧ I v ∧ m v ≤ Rows.uptoBulkAll (xs.map (·.1)) ∧ ((∀ n ∈ DataW.weightsEach P (fs.map (·.type)) (xs.map (·.1)), n ≤ reachBytes) → W v)
theorem OpensF.one {α : Type} {P : Program} {d : Kd α} {f : Field} {off : Nat} {I : α → Prop} {m : α → Nat} {W : α → Prop} (h : Opens P d f.type I m W) (ho : f.offset = off) (hc : P.cellsOf f.type = d.sz) : OpensF P d [f] off I m W := ⟨fun xs hl hx hf => by
  match xs, hx with
  | [y], _ =>
    have hy := hf 0 f rfl
    rw [ho, hc, List.take_of_length_le (by simp; omega)] at hy
    obtain ⟨v, h1, h2, h3, h4⟩ := h.of hy
    refine ⟨v, h1, h2, by simpa [Rows.uptoBulkAll] using h3, fun hw => h4 (fun n hn => hw n ?_)⟩
    simp [DataW.weightsEach]
    exact hn⟩
theorem OpensF.cons {α β : Type} {P : Program} {a : Kd α} {b : Kd β} {f : Field} {fs : List Field} {off : Nat} {I : α → Prop} {J : β → Prop} {m : α → Nat} {m' : β → Nat} {W : α → Prop} {W' : β → Prop} (h : Opens P a f.type I m W) (ho : f.offset = off) (hc : P.cellsOf f.type = a.sz)
    (hr : OpensF P b fs (off + a.sz) J m' W') : OpensF P (Kd.pair a b) (f :: fs) off (fun v => I v.1 ∧ J v.2) (fun v => m v.1 + m' v.2) (fun v => W v.1 ∧ W' v.2) := ⟨fun {H enc w base spare held fuel cs} xs hl hx hf => by
  have hsz : (Kd.pair a b).sz = a.sz + b.sz := rfl
  match xs, hx with
  | y :: ys, hx =>
    have hy := hf 0 f rfl
    rw [ho, hc] at hy
    obtain ⟨v, hk, hv, hm, hW⟩ := h.of hy
    obtain ⟨u, hk2, hu, hm2, hW2⟩ := hr.of (cs := cs) ys (by rw [hl, hsz, Nat.add_assoc]) (by simpa using hx) (fun i f' hi => hf (i + 1) f' hi)
    refine ⟨(v, u), ⟨_, _, ?_, hk, hk2⟩, ⟨hv, hu⟩, ?_, ?_⟩
    · rw [← List.drop_drop, List.take_append_drop]
    · simp only [List.map_cons, Rows.uptoBulkAll]; omega
    · intro hw
      simp only [List.map_cons, DataW.weightsEach, List.mem_append] at hw
      exact ⟨hW (fun n hn => hw n (Or.inl hn)), hW2 (fun n hn => hw n (Or.inr hn))⟩⟩
theorem struct {α : Type} {P : Program} {d : Kd α} {t : TypeId} {fs : List Field} {I : α → Prop} {m : α → Nat} {W : α → Prop} (ht : P.underlying t = some (.struct fs.toArray)) (hc : P.cellsOf t = d.sz) (h : OpensF P d fs 0 I m W) : Opens P d t I (fun v => m v + 1) W := ⟨fun hx => by
  obtain ⟨xs, n, _, rfl, hlen, hxl, hf⟩ := DataW.trod_struct ht hx
  obtain ⟨v, h1, h2, h3, h4⟩ := h.of (cs := _) xs (by rw [Nat.zero_add, ← hc]; exact hlen) (by simpa using hxl) (fun i f hi => hf i f (by simpa using hi))
  refine ⟨v, by simpa using h1, h2, by simp only [Rows.uptoBulk]; omega, fun hw => h4 (fun n hn => hw n ?_)⟩
  simp only [DataW.weights, ht]
  exact hn⟩
/-- a slice that came in -/
theorem row {α : Type} {P : Program} {d : Kd α} {t e : TypeId} {I : List α → Prop} {m : List α → Nat} {Wt : List α → Prop} (h : Opens P (Kd.slice e d) t I m Wt)
    {H : Type} {enc : TypeId × Value → H} {w : World} {base : Nat} {spare : Nat → Bool} {held : Bool} {a : Option Addr} {len cap : Nat} {x : DataW H} {p : List MemPlace}
    (ht : DataW.Trod enc P w base spare held t (.slice a len cap) x p) : ∃ xs : List α, len = xs.length ∧ xs.length ≤ cap ∧ Kd.C d w a xs.length xs ∧ I xs ∧ m xs ≤ Rows.uptoBulk x ∧ ((∀ n ∈ x.weights P t, n ≤ reachBytes) → Wt xs) := by
  obtain ⟨fuel, hf⟩ := ht
  obtain ⟨xs, ⟨A, c, hcs, hc, hC⟩, hI, hm, hW⟩ := h.of hf
  have e : (Value.slice a len cap).cells.toList = [Value.slice a len cap] := by simp [Value.cells]
  rw [e] at hcs
  injection hcs with h1 _
  injection h1 with e1 e2 e3
  subst e1 e2 e3
  exact ⟨xs, rfl, hc, hC, hI, hm, hW⟩
/-- any value that came in -/
theorem val {α : Type} {P : Program} {d : Kd α} {t : TypeId} {I : α → Prop} {m : α → Nat} {Wt : α → Prop} (h : Opens P d t I m Wt)
    {H : Type} {enc : TypeId × Value → H} {w : World} {base : Nat} {spare : Nat → Bool} {held : Bool} {v : Value} {x : DataW H} {p : List MemPlace}
    (ht : DataW.Trod enc P w base spare held t v x p) : ∃ y : α, d.K w y v.cells.toList ∧ I y ∧ m y ≤ Rows.uptoBulk x ∧ ((∀ n ∈ x.weights P t, n ≤ reachBytes) → Wt y) := by
  obtain ⟨fuel, hf⟩ := ht
  exact h.of hf
/-- what the reach says of one argument -/
theorem reach {H : Type} {P : Program} {ts : List TypeId} {ds : List (DataW H)} {j : Nat} {t : TypeId} {d : DataW H} (hsz : (DataW.weightsEach P ts ds).all (· ≤ reachBytes) = true) (ht : ts[j]? = some t) (hd : ds[j]? = some d) : ∀ n ∈ d.weights P t, n ≤ reachBytes := fun n hn => by
  simpa using List.all_eq_true.1 hsz n (DataW.weights_mem_each ht hd n hn)
/-- what the bound says of one argument -/
theorem bulk {H : Type} {ds : List (DataW H)} (hk : Rows.uptoSmall H ds = true) {j : Nat} {d : DataW H} (hd : ds[j]? = some d) : Rows.uptoBulk d ≤ 1048576 := by
  have hb : Rows.uptoBulkAll ds ≤ 1048576 := by simpa [Rows.uptoSmall] using hk
  refine Nat.le_trans ?_ hb
  clear hk hb
  induction ds generalizing j with
  | nil => simp at hd
  | cons x r ih =>
    simp only [Rows.uptoBulkAll]
    cases j with
    | zero => simp at hd; subst hd; omega
    | succ j => have := ih (j := j) (by simpa using hd); omega
end Go.Proofs.Ytpnkldjbiinnpaa.Opens2
