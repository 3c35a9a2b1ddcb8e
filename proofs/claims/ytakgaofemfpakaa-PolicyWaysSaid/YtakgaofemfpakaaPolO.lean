import Derived.Test.YtakgaofemfpakaaPolN
set_option maxRecDepth 100000
set_option linter.unusedSimpArgs false
set_option linter.unusedVariables false
namespace Go.Proofs.Ytakgaofemfpakaa.AM
open Go
abbrev hopZ : List AV := [(.int .i64 0), (.int .i64 0), (.int .i64 0), (.int .u8 0), (.int .u8 0), (.int .u8 0), (.int .u8 0), (.int .u8 0), (.int .u8 0), (.int .u8 0), (.int .u8 0), (.int .u8 0), (.int .u8 0), (.int .u8 0), (.int .u8 0), (.int .u8 0), (.int .u8 0), (.int .u8 0), (.int .u8 0), (.int .u8 0), (.int .u8 0), (.int .u8 0), (.int .u8 0), (.int .u8 0), (.int .u8 0), (.int .u8 0), (.int .u8 0), (.int .u8 0), (.int .u8 0), (.int .u8 0), (.int .u8 0), (.int .u8 0), (.int .u8 0), (.int .u8 0), (.int .u8 0), (.int .i64 0), (.int .u8 0), (.int .u8 0), (.int .u8 0), (.int .u8 0), (.int .u8 0), (.int .u8 0), (.int .u8 0), (.int .u8 0), (.int .u8 0), (.int .u8 0), (.int .u8 0), (.int .u8 0), (.int .u8 0), (.int .u8 0), (.int .u8 0), (.int .u8 0), (.int .u8 0), (.int .u8 0), (.int .u8 0), (.int .u8 0), (.int .u8 0), (.int .u8 0), (.int .u8 0), (.int .u8 0), (.int .u8 0), (.int .u8 0), (.int .u8 0), (.int .u8 0), (.int .u8 0), (.int .u8 0), (.int .u8 0), (.int .u8 0), (.int .i64 0), (.int .u8 0), (.int .u8 0), (.int .u8 0), (.int .u8 0), (.int .u8 0), (.int .u8 0), (.int .u8 0), (.int .u8 0), (.int .u8 0), (.int .u8 0), (.int .u8 0), (.int .u8 0), (.int .u8 0), (.int .u8 0), (.int .u8 0), (.int .u8 0), (.int .u8 0), (.int .u8 0), (.int .u8 0), (.int .u8 0), (.int .u8 0), (.int .u8 0), (.int .u8 0), (.int .u8 0), (.int .u8 0), (.int .u8 0), (.int .u8 0), (.int .u8 0), (.int .u8 0), (.int .u8 0), (.int .u8 0), (.int .u8 0)]
abbrev hopX (a x : Int) : List AV := [i64 1, i64 a, i64 x, (.int .u8 0), (.int .u8 0), (.int .u8 0), (.int .u8 0), (.int .u8 0), (.int .u8 0), (.int .u8 0), (.int .u8 0), (.int .u8 0), (.int .u8 0), (.int .u8 0), (.int .u8 0), (.int .u8 0), (.int .u8 0), (.int .u8 0), (.int .u8 0), (.int .u8 0), (.int .u8 0), (.int .u8 0), (.int .u8 0), (.int .u8 0), (.int .u8 0), (.int .u8 0), (.int .u8 0), (.int .u8 0), (.int .u8 0), (.int .u8 0), (.int .u8 0), (.int .u8 0), (.int .u8 0), (.int .u8 0), (.int .u8 0), (.int .i64 0), (.int .u8 0), (.int .u8 0), (.int .u8 0), (.int .u8 0), (.int .u8 0), (.int .u8 0), (.int .u8 0), (.int .u8 0), (.int .u8 0), (.int .u8 0), (.int .u8 0), (.int .u8 0), (.int .u8 0), (.int .u8 0), (.int .u8 0), (.int .u8 0), (.int .u8 0), (.int .u8 0), (.int .u8 0), (.int .u8 0), (.int .u8 0), (.int .u8 0), (.int .u8 0), (.int .u8 0), (.int .u8 0), (.int .u8 0), (.int .u8 0), (.int .u8 0), (.int .u8 0), (.int .u8 0), (.int .u8 0), (.int .u8 0), (.int .i64 0), (.int .u8 0), (.int .u8 0), (.int .u8 0), (.int .u8 0), (.int .u8 0), (.int .u8 0), (.int .u8 0), (.int .u8 0), (.int .u8 0), (.int .u8 0), (.int .u8 0), (.int .u8 0), (.int .u8 0), (.int .u8 0), (.int .u8 0), (.int .u8 0), (.int .u8 0), (.int .u8 0), (.int .u8 0), (.int .u8 0), (.int .u8 0), (.int .u8 0), (.int .u8 0), (.int .u8 0), (.int .u8 0), (.int .u8 0), (.int .u8 0), (.int .u8 0), (.int .u8 0), (.int .u8 0), (.int .u8 0), (.int .u8 0)]
theorem hopX_ok (a x : Int) : HopOK (hopX a x) 1 a x 0 := ⟨rfl, rfl, rfl, rfl, rfl, rfl, rfl, rfl⟩
def R5.f2 (x : R5) : F2 := ⟨x.b, x.r⟩
theorem fees_ok {l : List R5} (h : ∀ x ∈ l, R5.ok x) : ∀ x ∈ l.map R5.f2, F2.ok x := by
  intro x hx
  obtain ⟨y, hy, rfl⟩ := List.mem_map.1 hx
  exact ⟨(h y hy).1, (h y hy).2.1⟩
theorem getR5 {l : List R5} {i : Nat} (h : i < l.length) : (l.map R5.av)[i]? = some (rulesA l[i].b l[i].r l[i].d l[i].g l[i].f) := by rw [List.getElem?_map, List.getElem?_eq_getElem h]; rfl
/-- the plain law: what a node of the way says -/
theorem node_says {a x n y b r d g f t : Int} (hm : mayR b r d g f = true) (hin : inS b r a = (n, 0)) (ha : 1 ≤ a) (hn : 0 ≤ n) (hx0 : 0 ≤ x) (hy : y = x + d) (hy1 : y ≤ 2147483647) (ht0 : 0 ≤ t) (ht1 : t ≤ 2147483647) :
    firstS (fwdL 1 a x b r d g f n y t) = if f < y - t then 6 else if x - t ≤ g then 5 else 0 := by
  have hm2 := (mayR_iff _ _ _ _ _).1 hm
  have w1 : IntKind.i64.wrap (y - t) = y - t := IntWalk.i64_in _ ⟨by omega, by omega⟩
  have w2 : IntKind.i64.wrap (t + g) = t + g := IntWalk.i64_in _ ⟨by omega, by omega⟩
  have w3 : IntKind.i64.wrap (y - d) = y - d := IntWalk.i64_in _ ⟨by omega, by omega⟩
  have c1 : witS y 0 2147483647 = true := by simp [witS]; omega
  have c2 : witS t 0 2147483647 = true := by simp [witS]; omega
  have c3 : decide (n < 0) = false := decide_eq_false (by omega)
  have c4 : decide (y - d < x) = false := decide_eq_false (by omega)
  have c5 : decide (a < 1) = false := decide_eq_false (by omega)
  simp only [fwdL, qBase, List.cons_append, List.nil_append, firstS_cons, firstS, w1, w2, w3, hm, c1, c2, c3, c4, c5, hin, decide_true, Bool.not_true, Bool.or_false, Bool.false_or, Bool.not_false, decide_eq_true_eq, Int.lt_irrefl, decide_false, Bool.false_eq_true, if_false, show ((0 : Int) < 1) = True by decide]
  split
  · rfl
  · by_cases h : x ≤ t + g
    · rw [if_pos h, if_pos (by omega)]
    · rw [if_neg h, if_neg (by omega)]
end Go.Proofs.Ytakgaofemfpakaa.AM
