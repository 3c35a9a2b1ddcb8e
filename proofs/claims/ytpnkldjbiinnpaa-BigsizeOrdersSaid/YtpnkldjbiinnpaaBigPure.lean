import Derived.Test.YtpnkldjbiinnpaaBigPlain
import Derived.Test.YtpnkldjbiinnpaaPD1
/- The plain laws of lives, BigsizeNumbers and BigsizeReads. -/
namespace Go.Proofs.Ytpnkldjbiinnpaa.Pure
open Go.RowKit Go.Proofs.Ytpnkldjbiinnpaa.PC Go.Proofs.Ytpnkldjbiinnpaa.PD Go.Proofs.YtpnkldjbiinnpaaW.PrintWords Go.Proofs.YtpnkldjbiinnpaaW.PrintLast
set_option linter.unusedVariables false
set_option linter.unusedSimpArgs false
theorem bytes_of {l : List Int} (h : ∀ x ∈ l, (Lit.int .u8 x).wf = true) : Bytes l := fun c hc => (U8_iff c).1 (h c hc)
theorem read_f (l : List Int) (h : Bytes l) (hl : l.length ≤ 9223372036854775807) : bigsize_Read.f l = some (readS l) := by
  unfold bigsize_Read.f; rw [if_pos ⟨h, hl⟩]
theorem put_f (l : List Int) (x : Int) (h : 0 ≤ x) (hl : l.length ≤ 140737488355000) : bigsize_Put.f l x = some (l ++ numS x) := by
  unfold bigsize_Put.f; rw [if_pos ⟨h, hl⟩]
theorem lives_f : tollhouselaw01_lives.f = some true := by
  unfold tollhouselaw01_lives.f
  rw [read_f _ (by intro c hc; simp at hc; omega) (by decide), read_f _ (by intro c hc; simp at hc; omega) (by decide), put_f _ _ (by omega) (by decide)]
  decide +kernel
theorem lives : tollhouselaw01_lives.Pure := lives_f
theorem BigsizeReads : tollhouselaw01_BigsizeReads.Pure := by
  intro l hm hs hb
  have hby := bytes_of hb
  refine ⟨20, ?_⟩
  unfold tollhouselaw01_BigsizeReads.f
  rw [Option.bind_some, if_pos (by simp; omega), Option.bind_some, List.nil_append, read_f l hby (by omega), Option.bind_some, refread_f l hby (by omega) 0, Option.bind_some, lives_f, Option.bind_some, if_pos rfl, if_pos rfl, if_pos rfl, if_pos rfl]
  simp
theorem BigsizeNumbers : tollhouselaw01_BigsizeNumbers.Pure := by
  intro x l t hx hm hs hb hm2 hs2 hb2
  obtain ⟨x0, x1⟩ := (U64_iff x).1 hx
  have hby := bytes_of hb
  have hbt := bytes_of hb2
  have hn := numS_len x
  have hz := sizeS_le x
  refine ⟨10, ?_⟩
  unfold tollhouselaw01_BigsizeNumbers.f
  rw [Option.bind_some, if_pos (by simp; omega), Option.bind_some, List.nil_append, put_f l x x0 (by omega), Option.bind_some, num_f x x0 0, Option.bind_some, lives_f, Option.bind_some, if_pos rfl,
    if_pos (by rw [strOfNums_size, strOfNums_size]; omega), if_pos (by rw [str_append]), if_pos rfl, size_f x x0, Option.bind_some, if_pos hn.symm, Option.bind_some, if_pos (by simp; omega), Option.bind_some, List.nil_append, if_pos (by omega),
    read_f _ (bytes_append (numS_bytes x x0) hbt) (by rw [List.length_append]; omega), Option.bind_some, readS_num x x0 x1 t, if_pos rfl, if_pos rfl]
  simp
end Go.Proofs.Ytpnkldjbiinnpaa.Pure
