import Derived.Laws.Strings
import Derived.Tactics
/- `<=`, `>`, `>=` of strings, spelled by 'less' alone. -/
namespace Go.Proofs.Ytpnkldjbiinnpaa
open Go
theorem bytes_leq : ∀ (a b : List UInt8), (Op.bytesLess a b || a == b) = !(Op.bytesLess b a)
  | [], [] => by simp [Op.bytesLess]
  | [], b :: y => by simp [Op.bytesLess]
  | a :: x, [] => by simp [Op.bytesLess]
  | a :: x, b :: y => by
    have ih := bytes_leq x y
    simp only [Op.bytesLess]
    by_cases h : a = b
    · subst h
      have e : decide (a < a) = false := by simp
      rw [e]
      simp only [beq_self_eq_true, Bool.false_or, Bool.true_and]
      rw [← ih]
      congr 1
      by_cases hxy : x = y <;> simp [hxy]
    · have hne : (a == b) = false := by simpa using h
      have hne2 : (b == a) = false := by simpa using fun z : b = a => h z.symm
      have hl : (a :: x == b :: y) = false := by simp [h]
      rw [hne, hne2, hl]
      simp only [Bool.false_and, Bool.or_false]
      by_cases hab : a < b
      · have : ¬ b < a := by rw [UInt8.lt_iff_toNat_lt] at *; omega
        simp [hab, this]
      · have : b < a := by
          rw [UInt8.lt_iff_toNat_lt] at *
          have : a.toNat ≠ b.toNat := fun z => h (UInt8.toNat_inj.1 z)
          omega
        simp [hab, this]
@[go_sem] theorem str_leq (t : TypeId) (a b : ByteArray) : binOp .leq t (.string a) (.string b) = pure (.bool (!(Op.bytesLess b.toList a.toList))) := by rw [← bytes_leq]; simp [binOp, Op.stringOp]
@[go_sem] theorem str_gtr (t : TypeId) (a b : ByteArray) : binOp .gtr t (.string a) (.string b) = pure (.bool (Op.bytesLess b.toList a.toList)) := by
  have : Op.bytesLess b.toList a.toList = !(Op.bytesLess a.toList b.toList || a.toList == b.toList) := by rw [bytes_leq]; simp
  rw [this]; simp [binOp, Op.stringOp]
@[go_sem] theorem str_geq (t : TypeId) (a b : ByteArray) : binOp .geq t (.string a) (.string b) = pure (.bool (!(Op.bytesLess a.toList b.toList))) := by simp [binOp, Op.stringOp]
end Go.Proofs.Ytpnkldjbiinnpaa
