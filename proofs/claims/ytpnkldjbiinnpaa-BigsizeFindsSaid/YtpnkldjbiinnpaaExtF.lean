import Derived.Test.YtpnkldjbiinnpaaPE0
import Derived.Test.YtpnkldjbiinnpaaExtB
import Derived.Outline
import Derived.Shelf.RegionOpenPlain
/- bigsize.Find by a contract. -/
namespace Go.Proofs.Ytpnkldjbiinnpaa.PE
open Go.RowKit Go.Proofs.YtpnkldjbiinnpaaW.PrintWords Go.Proofs.YtpnkldjbiinnpaaW.PrintLast Go.Proofs.YtpnkldjbiinnpaaW.PrintMore
set_option linter.unusedVariables false
set_option linter.unusedSimpArgs false
set_option maxHeartbeats 4000000 in
set_option maxRecDepth 100000 in
theorem find_asked (x t : Int) (A : Option Addr) (n c B : Nat) (w : World) (hB : w.cell? ⟨B, 0, none⟩ = some (.int .u64 t)) :
    Calls Try.prog 27 (#[.agg #[.int .u64 x, .slice A n c]] ++ #[.pointer (some ⟨B, 0, none⟩)]) w fun e w' => e = .returned (.bool (x == t)) ∧ Below w.heap.size w w' := by
  have hlt := World.block_lt_of_cell? w _ hB
  have hB' : (w.alloc (.cells #[.int .u64 x, .slice A n c] 38)).cell? ⟨B, 0, none⟩ = some (.int .u64 t) := by rw [← hB]; exact World.cell?_alloc_old _ _ _ (by show B ≠ w.heap.size; have : B < w.heap.size := hlt; omega)
  go_enter Try.func27, Try.ntmps27
  go_wp2
  go_ret
  exact ⟨rfl, below_alloc (Below.refl _ _) _⟩
/-- the first place of a type, or -1 -/
def IsFirst (l : List S38) (t r : Int) : Prop := (r = -1 ∧ ∀ i : Nat, i < l.length → (rd_T38 l i).f0 ≠ t) ∨ (0 ≤ r ∧ r < (l.length : Int)) ∧ (rd_T38 l r).f0 = t ∧ ∀ i : Nat, (i : Int) < r → (rd_T38 l i).f0 ≠ t
theorem first_unique {l : List S38} {t r s : Int} (h : IsFirst l t r) (g : IsFirst l t s) : r = s := by
  rcases h with ⟨rfl, h⟩ | ⟨h0, h1, h2⟩ <;> rcases g with ⟨rfl, g⟩ | ⟨g0, g1, g2⟩
  · rfl
  · exact absurd (by rw [Int.toNat_of_nonneg g0.1]; exact g1) (h s.toNat (by omega))
  · exact absurd (by rw [Int.toNat_of_nonneg h0.1]; exact h1) (g r.toNat (by omega))
  · by_cases a : r < s
    · exact absurd (by rw [Int.toNat_of_nonneg h0.1]; exact h1) (g2 r.toNat (by omega))
    · by_cases b : s < r
      · exact absurd (by rw [Int.toNat_of_nonneg g0.1]; exact g1) (h2 s.toNat (by omega))
      · omega
theorem first_exists (l : List S38) (t : Int) : ∃ r, IsFirst l t r := by
  have key : ∀ n : Nat, n ≤ l.length → (∀ i : Nat, i < n → (rd_T38 l i).f0 ≠ t) ∨ ∃ k : Nat, k < n ∧ (rd_T38 l k).f0 = t ∧ ∀ i : Nat, i < k → (rd_T38 l i).f0 ≠ t := by
    intro n
    induction n with
    | zero => intro _; exact .inl fun i hi => absurd hi (Nat.not_lt_zero _)
    | succ n ih =>
      intro hn
      rcases ih (by omega) with h | ⟨k, hk, h⟩
      · by_cases he : (rd_T38 l (n : Int)).f0 = t
        · exact .inr ⟨n, by omega, he, h⟩
        · refine .inl fun i hi => ?_
          by_cases e : i = n
          · subst e; exact he
          · exact h i (by omega)
      · exact .inr ⟨k, by omega, h⟩
  rcases key l.length (Nat.le_refl _) with h | ⟨k, hk, h1, h2⟩
  · exact ⟨-1, .inl ⟨rfl, h⟩⟩
  · exact ⟨k, .inr ⟨⟨by omega, by omega⟩, h1, fun i hi => h2 i (by omega)⟩⟩
def First (l : List S38) (t : Int) (w : World) (e : Ending) (w' : World) : Prop :=
  ∃ r : Int, e = .returned (.int .i64 r) ∧ Below w.heap.size w w' ∧ IsFirst l t r
set_option maxHeartbeats 4000000 in
set_option maxRecDepth 100000 in
theorem find_index (A0 : Option Addr) (c0 : Nat) (l0 : List S38) (t : Int) (B : Nat) (w : World) (hr0 : Kd.C k38 w A0 l0.length l0) (hc0 : l0.length ≤ c0) (hl : l0.length ≤ 9223372036854775807) (hB : w.cell? ⟨B, 0, none⟩ = some (.int .u64 t)) :
    Calls Try.prog 26 #[.slice A0 l0.length c0, .func (.func 27) #[] #[.pointer (some ⟨B, 0, none⟩)]] w (First l0 t w) := by
  have HR0 := Aside0.mk hr0
  have HBC := Aside0.mk hB
  clear hr0 hB
  have eg := enters_of (P := Try.prog) Try.func27 (by kernel_rfl) rfl
  go_enter Try.func26, Try.ntmps26
  go_wp2
  go_loopg [5, 8] l0.length (fun kx s5 s8 wr => ∃ (j : Nat), s8 = .int .i64 j ∧ j + kx = l0.length ∧ Aside0 (Below w.heap.size w wr) ∧ Aside0 (∀ i : Nat, i < j → (rd_T38 l0 i).f0 ≠ t))
  case atStart => exact ⟨0, rfl, by omega, ⟨Below.refl _ _⟩, ⟨fun i hi => absurd hi (Nat.not_lt_zero _)⟩⟩
  case round =>
    obtain ⟨j, rfl, hj, HB, HN⟩ := hrel
    by_cases hlt : j < l0.length
    · have hd : decide ((j : Int) < (l0.length : Int)) = true := decide_eq_true (by omega)
      obtain ⟨ad, A1, c1, rfl, hx0, hx1, hl1, hi1⟩ := at_T38 HR0.out (j : Int) (by omega) (by omega)
      replace hx0 := (HB.out.cell (World.block_lt_of_cell? w _ hx0)).trans hx0
      replace hx1 := (HB.out.cell (World.block_lt_of_cell? w _ hx1)).trans hx1
      rw [Int.toNat_natCast] at hx0 hx1
      clear hi1 hl1
      have hc := find_asked (rd_T38 l0 (j : Int)).f0 t A1 (rd_T38 l0 (j : Int)).f1.length c1 B wr (pw_cell_below HB.out HBC.out)
      by_cases he : (rd_T38 l0 (j : Int)).f0 = t
      · rw [beq_iff_eq.mpr he] at hc
        have HE := Aside0.mk he
        clear he
        have p0 : (0 : Int) ≤ j := by omega
        have p1 : (j : Int) < l0.length := by omega
        go_wp2_with (go_at_call 27; refine hc.mono ?_; rintro e w' ⟨rfl, hb'⟩; have HB2 := Aside0.mk (hb'); clear hb')
        go_ret
        exact ⟨j, rfl, HB.out.trans (HB2.out.mono HB.out.size), .inr ⟨⟨by omega, by omega⟩, HE.out, fun i hi => HN.out i (by omega)⟩⟩
      · rw [beq_eq_false_iff_ne.mpr he] at hc
        have HE := Aside0.mk he
        clear he
        have p0 : (0 : Int) ≤ j := by omega
        have p1 : (j : Int) < l0.length := by omega
        go_wp2_with (go_at_call 27; refine hc.mono ?_; rintro e w' ⟨rfl, hb'⟩; have HB2 := Aside0.mk (hb'); clear hb')
        go_roundg (l0.length - (j + 1))
        case measure => omega
        case rel =>
          refine ⟨j + 1, by go_num, by omega, ⟨HB.out.trans (HB2.out.mono HB.out.size)⟩, ⟨fun i hi => ?_⟩⟩
          by_cases hij : i = j
          · subst hij; exact HE.out
          · exact HN.out i (by omega)
    · obtain rfl : j = l0.length := by omega
      have hd : decide ((l0.length : Int) < (l0.length : Int)) = false := decide_eq_false (by omega)
      go_wp2
      go_ret
      exact ⟨-1, rfl, HB.out, .inl ⟨rfl, HN.out⟩⟩
def findS (l : List S38) (t : Int) : List Int × Bool := match l.find? (fun r => r.f0 == t) with | none => ([], false) | some r => (r.f1, true)
def bigsize_Find.f (l : List S38) (t : Int) : Option (List Int × Bool) := if l.length ≤ 9223372036854775807 ∧ ∀ r ∈ l, r.f1.length < 140737488355328 then some (findS l t) else none
theorem find_none {l : List S38} {t : Int} (h : ∀ i : Nat, i < l.length → (rd_T38 l i).f0 ≠ t) : findS l t = ([], false) := by
  have : l.find? (fun r => r.f0 == t) = none := by
    rw [List.find?_eq_none]
    intro x hx
    obtain ⟨i, hi, rfl⟩ := List.getElem_of_mem hx
    have := h i hi
    unfold rd_T38 at this
    rw [Int.toNat_natCast, List.getD_eq_getElem?_getD, List.getElem?_eq_getElem hi] at this
    simpa using this
  unfold findS
  rw [this]
theorem find_some {l : List S38} {t : Int} {k : Nat} (hk : k < l.length) (he : (rd_T38 l k).f0 = t) (h : ∀ i : Nat, i < k → (rd_T38 l i).f0 ≠ t) : findS l t = ((rd_T38 l k).f1, true) ∧ rd_T38 l k ∈ l := by
  have hg : ∀ i : Nat, (hi : i < l.length) → rd_T38 l (i : Int) = l[i] := fun i hi => by
    unfold rd_T38
    rw [Int.toNat_natCast, List.getD_eq_getElem?_getD, List.getElem?_eq_getElem hi]; rfl
  have : l.find? (fun r => r.f0 == t) = some (rd_T38 l k) := by
    rw [List.find?_eq_some_iff_getElem]
    refine ⟨by simpa using he, k, hk, (hg k hk).symm, fun j hj => ?_⟩
    have := h j hj
    rw [hg j (by omega)] at this
    simpa using this
  unfold findS
  rw [this]
  exact ⟨rfl, by rw [hg k hk]; exact List.getElem_mem hk⟩
set_option maxHeartbeats 4000000 in
set_option maxRecDepth 100000 in
theorem bigsize_Find.calls (A0 : Option Addr) (c0 : Nat) (l0 : List S38) (t : Int) (r1 : List Int) (r2 : Bool) (w : World) (hr0 : Kd.C k38 w A0 l0.length l0) (hc0 : l0.length ≤ c0) (h : bigsize_Find.f l0 t = some (r1, r2)) :
    Calls Try.prog 17 #[.slice A0 l0.length c0, .int .u64 t] w fun e w' => ∃ v0_ : Value, e = .returned (.tuple #[v0_, .bool r2]) ∧ Kd.R (Kd.int .u8) 5 w' w.heap.size (fun _ => True) v0_ r1 ∧ Below w.heap.size w w' := by
  unfold bigsize_Find.f at h
  split at h
  · rename_i hok
    have hS := Option.some.inj h
    have HR0 := Aside0.mk hr0
    have HC0 := Aside0.mk hc0
    have hB0 : (w.alloc (.cells #[.int .u64 t] 22)).cell? ⟨w.heap.size, 0, none⟩ = some (.int .u64 t) := by simp
    obtain ⟨r, hr⟩ := first_exists l0 t
    have HI := Aside0.mk (find_index A0 c0 l0 t w.heap.size (w.alloc (.cells #[.int .u64 t] 22)) (Kd.C_alloc hr0 _) hc0 hok.1 hB0)
    have HS := Aside0.mk hS
    have HF := Aside0.mk hr
    have HOK := Aside0.mk hok
    clear hr0 hc0 h hS hok hB0
    rcases hr with ⟨rfl, hn⟩ | ⟨⟨p0, p1⟩, he, hn⟩
    · have e := find_none hn
      rw [HS.out] at e
      obtain ⟨rfl, rfl⟩ := Prod.mk.inj e
      clear hn e
      go_enter Try.func17, Try.ntmps17
      go_wp2_with (go_at_call 26; refine HI.out.mono ?_; rintro e w' ⟨r, rfl, hb, hr⟩; have HB := Aside0.mk (below_step (below_alloc (Below.refl w.heap.size w) _) hb); obtain rfl := first_unique hr HF.out; clear hb hr)
      go_ret2
      exact ⟨_, rfl, Kd.R_nil _ _ _ _ _, HB.out⟩
    · have e : findS l0 t = ((rd_T38 l0 r).f1, true) ∧ rd_T38 l0 r ∈ l0 := by
        have z := find_some (l := l0) (t := t) (k := r.toNat) (by omega) (by rw [Int.toNat_of_nonneg p0]; exact he) (fun i hi => hn i (by omega))
        rwa [Int.toNat_of_nonneg p0] at z
      obtain ⟨e, hmem⟩ := e
      rw [HS.out] at e
      obtain ⟨rfl, rfl⟩ := Prod.mk.inj e
      have hlen := HOK.out.2 _ hmem
      clear hn e he hmem
      have p2 : decide (r < 0) = false := decide_eq_false (by omega)
      obtain ⟨ad, A1, c1, rfl, hx0, hx1, hl1, hi1⟩ := at_T38 HR0.out r p0 p1
      have HI1 := Aside0.mk hi1
      clear hi1
      go_enter Try.func17, Try.ntmps17
      go_wp2_with (first | (go_at_call 26; refine HI.out.mono ?_; rintro e w' ⟨r', rfl, hb, hr⟩; have HB := Aside0.mk (below_step (below_alloc (Below.refl w.heap.size w) _) hb); obtain rfl := first_unique hr HF.out; have hx0' := (HB.out.cell (World.block_lt_of_cell? w _ hx0)).trans hx0; have hx1' := (HB.out.cell (World.block_lt_of_cell? w _ hx1)).trans hx1; clear hb hr) | (go_at_call 24; refine (PC.clone_calls A1 c1 _ _ (Kd.C_below HI1.out HB.out) hlen).mono ?_; rintro e w2 ⟨v1, rfl, ho1, hb⟩; have HO := Aside0.mk (Kd.R_lower ho1 (below_size HB.out)); have HB2 := Aside0.mk (below_step HB.out hb); clear hb ho1))
      go_ret2
      exact ⟨_, rfl, HO.out, HB2.out⟩
  · cases h
end Go.Proofs.Ytpnkldjbiinnpaa.PE
