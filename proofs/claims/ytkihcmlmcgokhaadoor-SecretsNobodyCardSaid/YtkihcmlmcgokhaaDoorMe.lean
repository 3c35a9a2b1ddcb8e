import Derived.Test.YtkihcmlmcgokhaaDoorMd
import Derived.Test.YtkihcmlmcgokhaaDoorCards
import Derived.Lib.LaidTab
import Derived.Stop.LaidErr
/- What comes in: a digest, numbers, a list of digests; what the row's list gives: the two tables. -/
namespace Go.Proofs.YtkihcmlmcgokhaaDoor.AM
open Go
set_option linter.unusedSimpArgs false
set_option linter.unusedVariables false
theorem oc_slice {S : St} {xs : List AV} {a : Option Addr} {n c : Nat} (h : VL S xs (Value.slice a n c).cells.toList) : VL S xs [.slice a n c] := h
theorem oc_agg {S : St} {xs : List AV} {c : Array Value} (h : VL S xs (Value.agg c).cells.toList) : VL S [.agg xs] [.agg c] := VL_cons (by simp only [V]; exact ⟨c, rfl, h⟩) VL_nil
theorem okWide_array {P : Program} {w : World} {r : Reach} {base : Nat} {t : TypeId} {v : Value} {n : Nat} {e : TypeId} (ht : P.underlying t = some (.array n e)) (h : Value.okWide P w r base t v) : ∃ cs, v = .agg cs ∧ cs.size = P.cellsOf t := by
  simp only [Value.okWide, ht] at h
  obtain ⟨cs, h1, h2, _⟩ := h
  exact ⟨cs, h1, h2⟩
theorem wf_b {x : Int} (h : (Lit.int .u8 x).wf = true) : 0 ≤ x ∧ x ≤ 255 := by
  simp [Lit.wf, IntKind.min, IntKind.max, IntKind.bits, IntKind.signed] at h
  omega
theorem sec_bytes : ∀ {ys : List (List AV)}, (∀ y ∈ ys, (∃ x, y = [u8 x] ∧ (Lit.int .u8 x).wf = true) ∧ y.length = 1) → ∃ l : List Int, ys.flatten = l.map u8 ∧ l.length = ys.length ∧ Bytes l
  | [], _ => ⟨[], rfl, rfl, by intro c hc; cases hc⟩
  | y :: ys, h => by
    obtain ⟨l, h1, h2, h3⟩ := sec_bytes fun z hz => h z (List.mem_cons_of_mem _ hz)
    obtain ⟨⟨x, rfl, hx⟩, _⟩ := h y List.mem_cons_self
    refine ⟨x :: l, by rw [List.flatten_cons, h1]; rfl, by simp [h2], ?_⟩
    intro c hc
    rcases List.mem_cons.1 hc with rfl | hc
    · exact wf_b hx
    · exact h3 c hc
theorem reads_sec {P : Program} {t e : TypeId} (ht : P.underlying t = some (.array 32 e)) (hc : P.cellsOf t = 32 * P.cellsOf e) (he : P.underlying e = some (.int .u8)) (hc1 : P.cellsOf e = 1) : Reads P t (fun xs => ∃ l : List Int, xs = l.map u8 ∧ Sec l) :=
  (Reads.array ht hc (Reads.int he)).imp fun xs ⟨ys, h1, h2, h3⟩ => by
    obtain ⟨l, g1, g2, g3⟩ := sec_bytes fun y hy => ⟨(h3 y hy).1, by rw [(h3 y hy).2, hc1]⟩
    exact ⟨l, by rw [h1, g1], ⟨by omega, g3⟩⟩
theorem els_of {I : List AV → Prop} {α : Type} {k : Option Nat} {f : α → AV} {p : α → Prop} (hI : ∀ y, I y ∧ y.length = kz k ∧ oneL y = true → ∃ x, mkEl k y = f x ∧ p x) : ∀ {ys : List (List AV)}, (∀ y ∈ ys, I y ∧ y.length = kz k ∧ oneL y = true) → ∃ l : List α, ys.map (mkEl k) = l.map f ∧ l.length = ys.length ∧ ∀ x ∈ l, p x := by
  intro ys
  induction ys with
  | nil => intro _; exact ⟨[], rfl, rfl, by intro c hc; cases hc⟩
  | cons y ys ih =>
    intro h
    obtain ⟨l, h1, h2, h3⟩ := ih fun z hz => h z (List.mem_cons_of_mem _ hz)
    obtain ⟨x, hx, px⟩ := hI y (h y List.mem_cons_self)
    refine ⟨x :: l, by rw [List.map_cons, List.map_cons, h1, hx], by simp [h2], ?_⟩
    intro c hc
    rcases List.mem_cons.1 hc with rfl | hc
    · exact px
    · exact h3 c hc
/-- A list of digests. -/
theorem reads_secs {P : Program} {t e b : TypeId} (ht : P.underlying t = some (.slice e)) (hc : P.cellsOf e = 32) (hb : P.bytesOf e = 32) (he : P.underlying e = some (.array 32 b)) (hbu : P.underlying b = some (.int .u8)) (hc1 : P.cellsOf b = 1) :
    Reads P t (fun xs => ∃ l : List (List Int), xs = [.slice .none (some 32) (l.map fun s => .agg (s.map u8))] ∧ (∀ s ∈ l, Sec s) ∧ l.length * 32 ≤ 140737488351232) :=
  (Reads.slice (k := some 32) ht hc (by decide) (reads_sec he (by rw [hc, hc1]) hbu hc1)).imp fun xs ⟨ys, h1, h2, h3⟩ => by
    obtain ⟨l, g1, g2, g3⟩ := els_of (I := fun xs => ∃ l : List Int, xs = l.map u8 ∧ Sec l) (k := some 32) (f := fun s : List Int => .agg (s.map u8)) (p := Sec) (fun y hy => by
      obtain ⟨⟨s, hs, p⟩, _, _⟩ := hy
      exact ⟨s, by rw [hs]; rfl, p⟩) h3
    refine ⟨l, by rw [h1, g1], g3, ?_⟩
    rw [g2, ← hb]
    exact h2
theorem sec_st {s : List Int} (hs : Sec s) (r : List Value) : (AV.agg (s.map u8) :: r.map AV.sc).map strip = AV.agg (s.map u8) :: r.map AV.sc := by
  have h1 := (dg_of hs.len).st
  have h2 : (r.map AV.sc).map strip = r.map AV.sc := by rw [List.map_map]; rfl
  rw [List.map_cons, h2]
  simp only [strip, h1]
theorem sec_cl {s : List Int} (hs : Sec s) (r : List Value) : closedL (AV.agg (s.map u8) :: r.map AV.sc) = true :=
  args1 (dg_of hs.len) _ (by induction r with | nil => rfl | cons x r ih => simpa only [List.map_cons, closedL, namL, nam, Bool.true_and] using ih)
theorem call_sec {f : Nat} {F : AFn} {s : List Int} (r : List Value) {v : Value} (hs : Sec s) (hx : T.ext f = none) (hf : T.fn f = some F) (hp : F.pure = true) (hl : (AV.agg (s.map u8) :: r.map AV.sc).length = F.np) (hr : prun T F (AV.agg (s.map u8) :: r.map AV.sc) = some (.sc v)) :
    ag T f (AV.agg (s.map u8) :: r.map AV.sc) [] = some (.sc v, []) := call_sc hx hf hp hl (sec_st hs r) (sec_cl hs r) hr
/-- The tables as the row lists them. -/
theorem tab_imm {P : Program} {W : World} {name : String} {k : IntKind} {zs : List Int} {g : Nat} (h : Lib.TabIs P W name k zs) (hg : P.globalNamed name = some g) (j : Nat) (v : Value) (hv : (zs.map (Value.int k))[j]? = some v) : memImm W g j = some v := by
  rw [List.getElem?_map] at hv
  cases hz : zs[j]? with
  | none => rw [hz] at hv; cases hv
  | some z =>
    rw [hz] at hv
    cases hv
    obtain ⟨hj, hz2⟩ := List.getElem?_eq_some_iff.1 hz
    have := h.cell hg j hj
    unfold memImm
    rw [this]
    simp [Value.oneCell', List.getD, hz]
def tab32 : List Int := [0, 1, 28, 2, 29, 14, 24, 3, 30, 22, 20, 15, 25, 17, 4, 8, 31, 27, 13, 23, 21, 19, 16, 7, 26, 12, 18, 6, 11, 5, 10, 9]
def tab64 : List Int := [0, 1, 56, 2, 57, 49, 28, 3, 61, 58, 42, 50, 38, 29, 17, 4, 62, 47, 59, 36, 45, 43, 51, 22, 53, 39, 33, 30, 24, 18, 12, 5, 63, 55, 48, 27, 60, 41, 37, 16, 46, 35, 44, 21, 52, 32, 23, 11, 54, 26, 40, 15, 34, 20, 31, 10, 25, 14, 19, 9, 13, 8, 7, 6]
def laid2 : List (String × DataW Unit) := [("math/bits.deBruijn32tab", Rows.laid_math_bits_deBruijn32tab), ("math/bits.deBruijn64tab", Rows.laid_math_bits_deBruijn64tab)]
theorem g0 : Tryd.prog.globalNamed "math/bits.deBruijn32tab" = some 0 := by kernel_rfl
theorem g1 : Tryd.prog.globalNamed "math/bits.deBruijn64tab" = some 1 := by kernel_rfl
theorem glob_of {W : World} (h : laidMetH Tryd.prog laid2 W) : GlobOK gl (memImm W) := by
  have h0 : laidMet Tryd.prog (("math/bits.deBruijn32tab", Lib.tabData .u8 tab32) :: [("math/bits.deBruijn64tab", Lib.tabData .u8 tab64)]) W := h
  have t0 := Lib.tabIs_of_head (t := 22) (e := 5) (n := 32) g0 (by kernel_rfl) Tryd.underlying22 Tryd.underlying5 (by kernel_rfl) (by kernel_rfl) h0
  have t1 := Lib.tabIs_of_head (t := 80) (e := 5) (n := 64) g1 (by kernel_rfl) Tryd.underlying80 Tryd.underlying5 (by kernel_rfl) (by kernel_rfl) (laidMet.tail h0)
  intro g l hl j v hv
  unfold gl at hl
  split at hl
  · rename_i e
    cases hl
    rw [e]
    exact tab_imm t0 g0 j v hv
  · split at hl
    · rename_i e
      cases hl
      rw [e]
      exact tab_imm t1 g1 j v hv
    · cases hl
def withCells (l : List Value) (h : Array Obj) (i : Nat) : Array Obj := h.modify i fun
  | .cells _ t frozen => .cells l.toArray t frozen
  | o => o
/-- A WORLD FOR THE WITNESSES: the settled one, the two tables as their text lays them. -/
noncomputable def laidWorld (os : Os) : World :=
  { World.holding Tryd.prog os ⟨#[], #[], []⟩ with heap := withCells (tab64.map (Value.int .u8)) (withCells (tab32.map (Value.int .u8)) (World.holding Tryd.prog os ⟨#[], #[], []⟩).heap 0) 1 }
end Go.Proofs.YtkihcmlmcgokhaaDoor.AM
