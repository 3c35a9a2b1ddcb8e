import Derived.Test.YtpnkldjbiinnpaaExtR
import Derived.Outline
import Derived.Lib.SliceRun
import Derived.Shelf.RegionOpenPlain
/- slices.Clone, slices.Grow and bigsize.Put by contracts. -/
namespace Go.Proofs.Ytpnkldjbiinnpaa.PC
open Go.RowKit Go.Proofs.YtpnkldjbiinnpaaW.PrintWords Go.Proofs.YtpnkldjbiinnpaaW.PrintLast Go.Proofs.YtpnkldjbiinnpaaW.PrintMore
set_option linter.unusedVariables false
set_option linter.unusedSimpArgs false

/-- the whole of an own row's block -/
theorem own_full {w : World} {base g n cap : Nat} {xs : List Value} (h : w.ownsRow base 5 1 (.slice (some ⟨g, 0, none⟩) n cap) n xs) :
    n ≤ cap ∧ cap ≤ maxLen ∧ xs.length = n ∧ ∃ cur : List Value, cur.length = cap ∧ cur.take n = xs ∧ w.ownsRow base 5 1 (.slice (some ⟨g, 0, none⟩) cap cap) cap cur := by
  obtain ⟨h1, h2⟩ := h
  rcases h2 with ⟨h2, _⟩ | ⟨g', cap', cur, he, hb, hh, hl, hm, hs, ht⟩
  · cases h2
  · injection he with e1 e2 e3
    injection e1 with e1
    injection e1 with e1
    subst e1 e3
    refine ⟨hl, hm, by omega, cur.toList, by simpa using hs, by simpa using ht, by simpa using hs, Or.inr ⟨g, cap, cur, rfl, hb, hh, Nat.le_refl _, hm, hs, ?_⟩⟩
    rw [List.take_of_length_le]
    simp [hs]
theorem own_cut {w : World} {base n m : Nat} {v : Value} {ys : List Value} (h : w.ownsRow base 5 1 v n ys) (hm : m ≤ n) (hn : 0 < n) :
    ∃ g cap, v = .slice (some ⟨g, 0, none⟩) n cap ∧ n ≤ cap ∧ cap ≤ maxLen ∧ w.ownsRow base 5 1 (.slice (some ⟨g, 0, none⟩) m cap) m (ys.take m) := by
  obtain ⟨h1, h2⟩ := h
  rcases h2 with ⟨_, h2⟩ | ⟨g', cap', cur, he, hb, hh, hl, hmm, hs, ht⟩
  · omega
  · refine ⟨g', cap', he, hl, hmm, by rw [List.length_take]; omega, Or.inr ⟨g', cap', cur, rfl, hb, hh, by omega, hmm, hs, ?_⟩⟩
    rw [← ht, List.take_take]
    congr 1
    omega
theorem zeros_at {P : Program} {ops : Array Oper} {rest : List Oper} {o : Oper} {a : Act} {Q : Exit → Act → World → Prop} {W w1 : World} {v v1 : Value} {kx : IntKind} {n : Int} {t ti : TypeId} (s x : Operand) (hgd : o.guard = none)
    (ho : o.op = .call { callee := .builtin .append, args := #[s, x], argTypes := #[t, ti] }) (hs : a.eval s = v) (hx : a.eval x = .int kx n) (hrun : (Builtin.append_ #[t, ti] o.type #[v, .int kx n]).run P W = .ok v1 w1)
    (h : wpList P ops Q rest (a.put o.dst v1) w1) : wpList P ops Q (o :: rest) a W := by
  refine wpList_plain hgd fun K hK => ?_
  unfold Oper.wp execOp
  simp only [ho, resolve, invoke, builtin, Sem.run_bind, Sem.run_pure, Result.andThen_ok, List.map_toArray, List.map_cons, List.map_nil, hs, hx, hrun]
  exact hK _ _ h
/-- a row that was grown in room -/
def Grew (w : World) (base : Nat) (n : Nat) (xs : List Value) (e : Ending) (w' : World) : Prop := ∃ v', e = .returned v' ∧ w'.ownsRow base 5 1 v' n xs ∧ Below base w w'

theorem info5' : (Try.prog.info? 5).map (fun i => (i.zero, i.size, i.bytes)) = some (some (.int .u8 0), 1, 1) := by kernel_rfl
set_option maxHeartbeats 4000000 in
set_option maxRecDepth 100000 in
theorem grow_some (g n cap : Nat) (xs : List Value) (k : Int) (w : World) (base : Nat) (h : w.ownsRow base 5 1 (.slice (some ⟨g, 0, none⟩) n cap) n xs) (hk : 0 ≤ k) (hk9 : k ≤ 9) (hn : n ≤ 140737488355000) (hb : base ≤ w.heap.size) :
    Calls Try.prog 23 #[.slice (some ⟨g, 0, none⟩) n cap, .int .i64 k] w (Grew w base n xs) := by
  obtain ⟨i0, hi, hz0, hz1, hz2⟩ := info_parts info5'
  obtain ⟨hnc, hcm, hxl, cur, hcl, hct, hfull⟩ := own_full h
  have HOwn := Aside0.mk h
  clear h
  have hkn : decide (k < 0) = false := decide_eq_false (by omega)
  unfold maxLen at hcm
  by_cases hroom : k ≤ (cap : Int) - n
  · have hd : decide (0 < k - ((cap : Int) - n)) = false := decide_eq_false (by omega)
    clear hfull hct hcl
    go_enter Try.func23, Try.ntmps23
    go_wp2
    go_ret
    exact ⟨_, rfl, HOwn.out, Below.refl _ _⟩
  · have hd : decide (0 < k - ((cap : Int) - n)) = true := decide_eq_true (by omega)
    obtain ⟨m, hm⟩ : ∃ m : Nat, k - ((cap : Int) - n) = (m : Int) := ⟨(k - ((cap : Int) - n)).toNat, by omega⟩
    have hcm2 : cap + m ≤ 140737488355009 := by omega
    obtain ⟨v1, w1, hrun, hown1, hg1, hat1⟩ := run_append_zeros (P := Try.prog) w base 23 3 23 5 i0 (.int .u8 0) 1 1 Try.underlying23 Try.underlying3 hi hz0 hz1 hz2 rfl (by decide) (by decide) (.slice (some ⟨g, 0, none⟩) cap cap) cap cur hfull .i64 m
      (Kd.reps_one (R := fun (_ : Int) cs => cs = [.int .u8 0]) (Kd.reps_zeros (z0 := (0 : Int)) (z := (Value.int .u8 0)) (size := 1) rfl (by decide) rfl m) (by decide) (fun _ _ hp u hu => by rw [hp] at hu; rw [List.mem_singleton.1 hu]; rfl)) (by omega) hb
    obtain ⟨g2, cap2, rfl, hn2, hc2, hcut⟩ := own_cut hown1 (show n ≤ cap + m by omega) (by omega)
    have HC := Aside0.mk hcut
    have HG := Aside0.mk hg1
    have HCT := Aside0.mk (show (cur ++ (Builtin.zeroCells (Value.int .u8 0).cells m).toList).take n = xs by rw [List.take_append_of_le_length (by omega)]; exact hct)
    have HBg := Aside0.mk (hfull.lt g rfl).1
    unfold maxLen at hc2
    have hnm : (n : Int) ≤ cap2 := by omega
    clear hat1 hg1 hcut hown1 hfull hct
    have hnn : decide ((n : Int) ≤ cap2) = true := decide_eq_true hnm
    have HRun := Aside0.mk hrun
    clear hrun
    go_enter Try.func23, Try.ntmps23
    go_wp2_with ((with_reducible refine gate_builtin (b := .append) (xs := #[.tmp 20, .tmp 21]) rfl ?_); at_builtin; go_loud (refine zeros_at (v := .slice (some ⟨g, 0, none⟩) cap cap) (kx := .i64) (n := (m : Int)) (t := 23) (ti := 3) (.tmp 20) (.tmp 21) rfl rfl rfl rfl HRun.out ?_))
    go_ret
    refine ⟨_, rfl, ?_, (Below.refl _ _).grown HG.out hb (fun k hk => ?_)⟩
    · have z := HC.out
      rw [HCT.out] at z
      exact z
    · have e : g = k := by simpa [Value.ownBlock] using hk
      exact e ▸ HBg.out
set_option maxHeartbeats 4000000 in
set_option maxRecDepth 100000 in
theorem grow_none (k : Int) (w : World) (base : Nat) (hk : 0 ≤ k) (hk9 : k ≤ 9) (hb : base ≤ w.heap.size) :
    Calls Try.prog 23 #[.slice none 0 0, .int .i64 k] w (Grew w base 0 []) := by
  obtain ⟨i0, hi, hz0, hz1, hz2⟩ := info_parts info5'
  have hkn : decide (k < 0) = false := decide_eq_false (by omega)
  by_cases hroom : k = 0
  · subst hroom
    go_enter Try.func23, Try.ntmps23
    go_wp2
    go_ret
    exact ⟨_, rfl, ⟨rfl, Or.inl ⟨rfl, rfl⟩⟩, Below.refl _ _⟩
  · have hd : decide (0 < k) = true := decide_eq_true (by omega)
    obtain ⟨m, rfl⟩ := Int.eq_ofNat_of_zero_le hk
    obtain ⟨v1, w1, hrun, hown1, hg1, hat1⟩ := run_append_zeros (P := Try.prog) w base 23 3 23 5 i0 (.int .u8 0) 1 1 Try.underlying23 Try.underlying3 hi hz0 hz1 hz2 rfl (by decide) (by decide) (.slice none 0 0) 0 [] (own_nil _ _ _ _) .i64 m
      (Kd.reps_one (R := fun (_ : Int) cs => cs = [.int .u8 0]) (Kd.reps_zeros (z0 := (0 : Int)) (z := (Value.int .u8 0)) (size := 1) rfl (by decide) rfl m) (by decide) (fun _ _ hp u hu => by rw [hp] at hu; rw [List.mem_singleton.1 hu]; rfl)) (by omega) hb
    obtain ⟨g2, cap2, rfl, hn2, hc2, hcut⟩ := own_cut hown1 (show 0 ≤ 0 + m by omega) (by omega)
    have HC := Aside0.mk hcut
    have HG := Aside0.mk hg1
    have HRun := Aside0.mk hrun
    clear hat1 hg1 hcut hown1 hrun
    go_enter Try.func23, Try.ntmps23
    go_wp2_with ((with_reducible refine gate_builtin (b := .append) (xs := #[.tmp 20, .tmp 21]) rfl ?_); at_builtin; go_loud (refine zeros_at (v := .slice none 0 0) (kx := .i64) (n := (m : Int)) (t := 23) (ti := 3) (.tmp 20) (.tmp 21) rfl rfl rfl rfl HRun.out ?_))
    go_ret
    refine ⟨_, rfl, ?_, (Below.refl _ _).grown HG.out hb (fun k hk => ?_)⟩
    · have z := HC.out
      simpa using z
    · simp [Value.ownBlock] at hk
theorem grow_any (v : Value) (n : Nat) (xs : List Value) (k : Int) (w : World) (base : Nat) (h : w.ownsRow base 5 1 v n xs) (hk : 0 ≤ k) (hk9 : k ≤ 9) (hn : n ≤ 140737488355000) (hb : base ≤ w.heap.size) :
    Calls Try.prog 23 #[v, .int .i64 k] w (Grew w base n xs) := by
  have h' := h
  obtain ⟨h1, h2⟩ := h'
  rcases h2 with ⟨rfl, rfl⟩ | ⟨g, cap, cur, rfl, _⟩
  · obtain rfl : xs = [] := List.eq_nil_of_length_eq_zero (by omega)
    exact grow_none k w base hk hk9 hb
  · exact grow_some g n cap xs k w base h hk hk9 hn hb
set_option maxHeartbeats 4000000 in
set_option maxRecDepth 100000 in
theorem clone_calls (A0 : Option Addr) (c0 : Nat) (l0 : List Int) (w : World) (hr0 : Kd.C (Kd.int .u8) w A0 l0.length l0) (hlen : l0.length < 140737488355328) :
    Calls Try.prog 24 #[.slice A0 l0.length c0] w fun e w' => ∃ v0_ : Value, e = .returned v0_ ∧ Kd.R (Kd.int .u8) 5 w' w.heap.size (fun _ => True) v0_ l0 ∧ Below w.heap.size w w' := by
  have HR0 := Aside0.mk hr0
  have HB := Aside0.mk (Below.refl w.heap.size w)
  clear hr0
  cases A0 with
  | none =>
    have hl : l0 = [] := by
      cases l0 with
      | nil => rfl
      | cons x r =>
        obtain ⟨ad, e, _⟩ := HR0.out.2.2 (by simp)
        cases e
    subst hl
    have he := fun (u : World) => Lib.run_eql_slice_nil (P := Try.prog) u 23 5 none 0 c0 0 0 Try.underlying23
    go_enter Try.func24, Try.ntmps24
    go_wp2
    go_ret
    exact ⟨_, rfl, Kd.R_nil _ _ _ _ _, HB.out⟩
  | some A =>
    have he := fun (u : World) => Lib.run_eql_slice_nil (P := Try.prog) u 23 5 (some A) l0.length c0 0 0 Try.underlying23
    go_enter Try.func24, Try.ntmps24
    go_wp2_with (first | ((with_reducible refine gate_dst (N := 5) rfl ?_); refine Kd.R_lit (Kd.int .u8) _ 5 ?hg (N := 5) ?hd (xs := ([] : List Int)) (inner := []) (ok := fun _ => True) (okp := fun _ => True) ?hr ?hp (fun _ hk => hk) trivial (Below.refl _ _) (Nat.le_refl _) (by simp) ?_; (case hd => rfl); (case hg => rfl); (case hr => first | (go_simp; done) | (go_simp; rfl)); (case hp => exact (Reps.none _ _)); intro v191 w7 ho8 hb hg_ hnew_; clear hg_ hnew_; have HO192 := Aside0.mk ho8; have HB2 := Aside0.mk hb; clear HB ho8 hb) | ((with_reducible refine gate_builtin (b := .append) (xs := #[.tmp 5, .tmp 6]) rfl ?_); at_builtin; refine Kd.R_append_rows (Kd.int .u8) (w0 := w) w.heap.size rfl (.tmp 5) (.tmp 6) 23 5 (.int .u8 0) 1 rfl Try.underlying23 info5' rfl (by decide) (by omega) v191 [] l0 _ _ _ (fun _ => True) (fun _ => False) rfl rfl ?aO ?aR (fun _ _ h => h) (fun _ h => h.elim) ?aF ?aB ?aS ?aL ?_; (case aR => exact (Kd.C_below HR0.out HB2.out)); (case aB => exact HB2.out); (case aF => exact (fun _ _ => trivial)); (case aO => exact HO192.out); (case aS => exact HB2.out.size); (case aL => simp; omega); intro v194 w9 ho hb hg hat; have HB3 := Aside0.mk hb; have HO195 := Aside0.mk ho; clear HB2 HO192 ho hb hg hat))
    go_ret
    exact ⟨_, rfl, HO195.out, HB3.out⟩
/-- the bytes behind the first one -/
def tailS : Nat → Int → List Int
  | 0, _ => []
  | j + 1, x => (x / 256 ^ j % 256) :: tailS j x
/-- a number's bytes -/
def numS (x : Int) : List Int := if x < 253 then [x] else if x ≤ 65535 then 253 :: tailS 2 x else if x ≤ 4294967295 then 254 :: tailS 4 x else 255 :: tailS 8 x
def firstS (x : Int) : Int := if x < 253 then 0 else if x ≤ 65535 then 253 else if x ≤ 4294967295 then 254 else 255
def widthS (x : Int) : Nat := if x < 253 then 0 else if x ≤ 65535 then 2 else if x ≤ 4294967295 then 4 else 8
theorem width_f (x : Int) : bigsize_width.f x = some (firstS x, (widthS x : Int)) := by
  unfold bigsize_width.f firstS widthS
  split
  · rfl
  · split
    · rfl
    · split <;> rfl
theorem numS_eq (x : Int) (h : ¬ x < 253) : numS x = firstS x :: tailS (widthS x) x := by
  unfold numS firstS widthS
  rw [if_neg h, if_neg h, if_neg h]
  split
  · rfl
  · split <;> rfl
theorem sizeS_le (x : Int) : 0 ≤ sizeS x ∧ sizeS x ≤ 9 := by
  unfold sizeS
  split
  · omega
  · split
    · omega
    · split <;> omega
theorem own_drewN {w : World} {base n : Nat} {v : Value} {xs : List Value} (h : w.ownsRow base 5 1 v n xs) (k : Nat) : (w.drewN k).ownsRow base 5 1 v n xs := pw_own_below h (pw_below_drewN (Below.refl _ _) k)
/-- an own row of bytes -/
theorem R_inner {w : World} {base : Nat} {ok : Nat → Prop} {v : Value} {xs : List Int} (h : Kd.R (Kd.int .u8) 5 w base ok v xs) : ∃ inner, w.ownsRow base 5 1 v xs.length inner ∧ Reps (fun x cs => cs = [.int .u8 x]) 1 xs inner := by
  obtain ⟨_, inner, ho, hr⟩ := h
  exact ⟨inner, ho, hr.imp_ (fun _ _ hp => hp)⟩
theorem R_of_inner {w : World} {base : Nat} {v : Value} {xs : List Int} {inner : List Value} (h : w.ownsRow base 5 1 v xs.length inner) (hr : Reps (fun x cs => cs = [.int .u8 x]) 1 xs inner) : Kd.R (Kd.int .u8) 5 w base (fun _ => True) v xs :=
  ⟨fun _ _ => trivial, inner, h, hr.imp_ (fun _ _ hp => hp)⟩
set_option maxHeartbeats 8000000 in
set_option maxRecDepth 100000 in
theorem put_low (A0 : Option Addr) (c0 : Nat) (l0 : List Int) (x : Int) (w : World) (hr0 : Kd.C (Kd.int .u8) w A0 l0.length l0) (hlen : l0.length ≤ 140737488355000) (h0 : 0 ≤ x) (h1 : x < 253) :
    Calls Try.prog 11 #[.slice A0 l0.length c0, .int .u64 x] w fun e w' => ∃ v0_ : Value, e = .returned v0_ ∧ Kd.R (Kd.int .u8) 5 w' w.heap.size (fun _ => True) v0_ (l0 ++ [x]) ∧ Below w.heap.size w w' := by
  have HR0 := Aside0.mk hr0
  have HB := Aside0.mk (Below.refl w.heap.size w)
  have HS := Aside0.mk (size_f x h0)
  have HW := Aside0.mk (width_f x)
  have hfw : firstS x = 0 ∧ widthS x = 0 := by unfold firstS widthS; rw [if_pos h1, if_pos h1]; exact ⟨rfl, rfl⟩
  rw [hfw.1, hfw.2] at HW
  have hs1 : sizeS x = 1 := by unfold sizeS; rw [if_pos h1]
  rw [hs1] at HS
  clear hr0 hfw hs1
  go_enter Try.func11, Try.ntmps11
  go_wp2_with (first | (go_at_call 24; refine (clone_calls A0 c0 l0 _ HR0.out (by omega)).mono ?_; rintro e wn_ ⟨v1, rfl, ho1, hb⟩; have HO1 := Aside0.mk ho1; have HB_ := Aside0.mk (below_step (by repeat (first | (with_reducible first | exact HB.out | apply below_alloc | apply pw_below_drewN | apply below_drew1) | exact HB.out)) hb); clear HB; have HB := HB_; clear HB_ hb; clear ho1; obtain ⟨inner, hin, hrep⟩ := R_inner HO1.out; have HIN := Aside0.mk hin; have HREP := Aside0.mk hrep; clear hin hrep HO1) | (go_at_call 14; refine (bigsize_Size.calls x _ _ HS.out).mono ?_; rintro e wn_ ⟨rfl, ⟨nd, rfl⟩⟩) | (go_at_call 23; refine (grow_any v1 l0.length inner 1 _ w.heap.size (own_drewN HIN.out _) (by omega) (by omega) (by omega) (below_size (by repeat (first | (with_reducible first | exact HB.out | apply below_alloc | apply pw_below_drewN | apply below_drew1) | exact HB.out)))).mono ?_; rintro e wn_ ⟨v3, rfl, ho3, hb⟩; have HO3 := Aside0.mk (R_of_inner ho3 HREP.out); have HB_ := Aside0.mk (((by repeat (first | (with_reducible first | exact HB.out | apply below_alloc | apply pw_below_drewN | apply below_drew1) | exact HB.out)) : Below w.heap.size w _).trans hb); clear HB; have HB := HB_; clear HB_ hb ho3 HIN HREP) | (go_at_call 25; refine (bigsize_width.calls x _ _ _ HW.out).mono ?_; rintro e wn_ ⟨rfl, ⟨nd4, rfl⟩⟩) | ((with_reducible refine gate_builtin (b := .append) (xs := #[.tmp 20, .tmp 23]) rfl ?_); at_builtin; refine Kd.R_append (Kd.int .u8) (w0 := w) w.heap.size rfl (.tmp 20) (.tmp 23) 23 5 (.int .u8 0) 1 rfl Try.underlying23 info5' rfl (by decide) (by omega) v3 l0 x [.int .u8 x] (fun _ => True) (fun _ => False) rfl rfl ?aP (fun _ hk => hk.elim) ?aF ?aO ?aB ?aS ?aL ?_; (case aP => exact rfl); (case aB => exact (by repeat (first | (with_reducible first | exact HB.out | apply below_alloc | apply pw_below_drewN | apply below_drew1) | exact HB.out))); (case aF => exact (fun _ _ => trivial)); (case aO => exact (by (with_reducible repeat (first | apply Kd.R_alloc | apply Kd.R_drewN | apply Kd.R_drew)); exact HO3.out)); (case aS => exact (below_size (by repeat (first | (with_reducible first | exact HB.out | apply below_alloc | apply pw_below_drewN | apply below_drew1) | exact HB.out)))); (case aL => (simp; omega)); intro v5 wn_ ho hb hg hat; have HO_ := Aside0.mk ho; have HB_ := Aside0.mk hb; clear HB HO3; have HO5 := HO_; have HB := HB_; clear HO_ HB_ ho hb hg hat))
  go_ret
  exact ⟨_, rfl, (by (with_reducible repeat (first | apply Kd.R_alloc | apply Kd.R_drewN | apply Kd.R_drew)); exact HO5.out), (by repeat (first | (with_reducible first | exact HB.out | apply below_alloc | apply pw_below_drewN | apply below_drew1) | exact HB.out))⟩
theorem tailS_len (n : Nat) (x : Int) : (tailS n x).length = n := by
  induction n with
  | zero => rfl
  | succ n ih => unfold tailS; rw [List.length_cons, ih]
set_option maxHeartbeats 8000000 in
set_option maxRecDepth 100000 in
theorem put_high (A0 : Option Addr) (c0 : Nat) (l0 : List Int) (x : Int) (w : World) (hr0 : Kd.C (Kd.int .u8) w A0 l0.length l0) (hlen : l0.length ≤ 140737488355000) (h0 : 253 ≤ x) :
    Calls Try.prog 11 #[.slice A0 l0.length c0, .int .u64 x] w fun e w' => ∃ v0_ : Value, e = .returned v0_ ∧ Kd.R (Kd.int .u8) 5 w' w.heap.size (fun _ => True) v0_ (l0 ++ numS x) ∧ Below w.heap.size w w' := by
  have HR0 := Aside0.mk hr0
  have HB := Aside0.mk (Below.refl w.heap.size w)
  have hsz := sizeS_le x
  have HN := Aside0.mk (numS_eq x (by omega))
  have hwn : 2 ≤ widthS x ∧ widthS x ≤ 8 := by unfold widthS; rw [if_neg (by omega)]; split; (· omega); split <;> omega
  have HS := Aside0.mk (size_f x (by omega))
  have HW := Aside0.mk (width_f x)
  obtain ⟨z, hz⟩ : ∃ z, sizeS x = z := ⟨_, rfl⟩
  obtain ⟨f, hf⟩ : ∃ f, firstS x = f := ⟨_, rfl⟩
  obtain ⟨n, hn⟩ : ∃ n, widthS x = n := ⟨_, rfl⟩
  rw [hz] at HS hsz
  rw [hf, hn] at HW HN
  rw [hn] at hwn
  obtain ⟨z0, z9⟩ := hsz
  obtain ⟨n2, n8⟩ := hwn
  have hn0 : ((n : Int) == 0) = false := by rw [beq_eq_false_iff_ne]; omega
  clear hr0 hz hf hn
  go_enter Try.func11, Try.ntmps11
  go_wp2_with (first | (go_at_call 24; refine (clone_calls A0 c0 l0 _ HR0.out (by omega)).mono ?_; rintro e wn_ ⟨v1, rfl, ho1, hb⟩; have HO1 := Aside0.mk ho1; have HB_ := Aside0.mk (below_step (by repeat (first | (with_reducible first | exact HB.out | apply below_alloc | apply pw_below_drewN | apply below_drew1) | exact HB.out)) hb); clear HB; have HB := HB_; clear HB_ hb; clear ho1; obtain ⟨inner, hin, hrep⟩ := R_inner HO1.out; have HIN := Aside0.mk hin; have HREP := Aside0.mk hrep; clear hin hrep HO1) | (go_at_call 14; refine (bigsize_Size.calls x _ _ HS.out).mono ?_; rintro e wn_ ⟨rfl, ⟨nd, rfl⟩⟩) | (go_at_call 23; refine (grow_any v1 l0.length inner z _ w.heap.size (own_drewN HIN.out _) z0 z9 (by omega) (below_size (by repeat (first | (with_reducible first | exact HB.out | apply below_alloc | apply pw_below_drewN | apply below_drew1) | exact HB.out)))).mono ?_; rintro e wn_ ⟨v3, rfl, ho3, hb⟩; have HO3 := Aside0.mk (R_of_inner ho3 HREP.out); have HB_ := Aside0.mk (((by repeat (first | (with_reducible first | exact HB.out | apply below_alloc | apply pw_below_drewN | apply below_drew1) | exact HB.out)) : Below w.heap.size w _).trans hb); clear HB; have HB := HB_; clear HB_ hb ho3 HIN HREP) | (go_at_call 25; refine (bigsize_width.calls x _ _ _ HW.out).mono ?_; rintro e wn_ ⟨rfl, ⟨nd4, rfl⟩⟩) | ((with_reducible refine gate_builtin (b := .append) (xs := #[.tmp 25, .tmp 27]) rfl ?_); at_builtin; refine Kd.R_append (Kd.int .u8) (w0 := w) w.heap.size rfl (.tmp 25) (.tmp 27) 23 5 (.int .u8 0) 1 rfl Try.underlying23 info5' rfl (by decide) (by omega) v3 l0 f [.int .u8 f] (fun _ => True) (fun _ => False) rfl rfl ?aP (fun _ hk => hk.elim) ?aF ?aO ?aB ?aS ?aL ?_; (case aP => exact rfl); (case aB => exact (by repeat (first | (with_reducible first | exact HB.out | apply below_alloc | apply pw_below_drewN | apply below_drew1) | exact HB.out))); (case aF => exact (fun _ _ => trivial)); (case aO => exact (by (with_reducible repeat (first | apply Kd.R_alloc | apply Kd.R_drewN | apply Kd.R_drew)); exact HO3.out)); (case aS => exact (below_size (by repeat (first | (with_reducible first | exact HB.out | apply below_alloc | apply pw_below_drewN | apply below_drew1) | exact HB.out)))); (case aL => (simp; omega)); intro v5 wn_ ho hb hg hat; have HO_ := Aside0.mk ho; have HB_ := Aside0.mk hb; clear HB HO3; have HO5 := HO_; have HB := HB_; clear HO_ HB_ ho hb hg hat))
  go_loopw [5, 7] (fun v5 s7 wr => ∃ (j : Nat) (cur : List Int), s7 = .int .i64 ((j : Int) - 1) ∧ j ≤ n ∧ Aside0 (cur ++ tailS j x = l0 ++ numS x) ∧ Aside0 (Kd.R (Kd.int .u8) 5 wr w.heap.size (fun _ => True) v5 cur) ∧ Aside0 (Below w.heap.size w wr)) (fun _ s7 _ => (intOf s7 + 1).toNat)
  case atStart => exact ⟨n, l0 ++ [f], rfl, Nat.le_refl _, ⟨by rw [HN.out]; simp⟩, ⟨(by (with_reducible repeat (first | apply Kd.R_alloc | apply Kd.R_drewN | apply Kd.R_drew)); exact HO5.out)⟩, ⟨(by repeat (first | (with_reducible first | exact HB.out | apply below_alloc | apply pw_below_drewN | apply below_drew1) | exact HB.out))⟩⟩
  case round =>
    clear HB HO5
    obtain ⟨j, cur, rfl, hj, HT, HO5, HB⟩ := hrel
    cases j with
    | zero =>
      have hd : decide ((0 : Int) ≤ -1) = false := by decide
      go_wp2
      go_ret
      refine ⟨_, rfl, ?_, (by repeat (first | (with_reducible first | exact HB.out | apply below_alloc | apply pw_below_drewN | apply below_drew1) | exact HB.out))⟩
      have e : cur = l0 ++ numS x := by rw [← HT.out]; simp [tailS]
      rw [← e]
      exact (by (with_reducible repeat (first | apply Kd.R_alloc | apply Kd.R_drewN | apply Kd.R_drew)); exact HO5.out)
    | succ j =>
      have hcur : cur.length ≤ 140737488355100 := by
        have e := congrArg List.length HT.out
        have hnl := congrArg List.length HN.out
        rw [List.length_append, List.length_append, tailS_len] at e
        rw [List.length_cons, tailS_len] at hnl
        omega
      have hd : decide ((0 : Int) ≤ j) = true := decide_eq_true (by omega)
      go_wp2_with (first | ((with_reducible refine gate_builtin (b := .append) (xs := #[.tmp 35, .tmp 41]) rfl ?_); at_builtin; refine Kd.R_append (Kd.int .u8) (w0 := w) w.heap.size rfl (.tmp 35) (.tmp 41) 23 5 (.int .u8 0) 1 rfl Try.underlying23 info5' rfl (by decide) (by omega) u5 cur (x / 2 ^ (8 * j) % 256) [.int .u8 (x / 2 ^ (8 * j) % 256)] (fun _ => True) (fun _ => False) rfl rfl ?aP (fun _ hk => hk.elim) ?aF ?aO ?aB ?aS ?aL ?_; (case aP => exact rfl); (case aB => exact (by repeat (first | (with_reducible first | exact HB.out | apply below_alloc | apply pw_below_drewN | apply below_drew1) | exact HB.out))); (case aF => exact (fun _ _ => trivial)); (case aO => exact (by (with_reducible repeat (first | apply Kd.R_alloc | apply Kd.R_drewN | apply Kd.R_drew)); exact HO5.out)); (case aS => exact (below_size (by repeat (first | (with_reducible first | exact HB.out | apply below_alloc | apply pw_below_drewN | apply below_drew1) | exact HB.out)))); (case aL => (have := hcur; simp; omega)); intro v6 wn_ ho hb hg hat; have HO_ := Aside0.mk ho; have HB_ := Aside0.mk hb; clear HB HO5; have HO6 := HO_; have HB := HB_; clear HO_ HB_ ho hb hg hat))
      go_roundw
      case rel =>
        refine ⟨j, cur ++ [x / 2 ^ (8 * j) % 256], by go_num, by omega, ⟨?_⟩, ⟨(by (with_reducible repeat (first | apply Kd.R_alloc | apply Kd.R_drewN | apply Kd.R_drew)); exact HO6.out)⟩, ⟨(by repeat (first | (with_reducible first | exact HB.out | apply below_alloc | apply pw_below_drewN | apply below_drew1) | exact HB.out))⟩⟩
        rw [← HT.out, List.append_assoc]
        congr 1
        rw [tailS, show (2 : Int) ^ (8 * j) = 256 ^ j by rw [Int.pow_mul]; rfl]
        rfl
      case measure => simp [intOf] <;> omega
/-- a number's bytes are bytes -/
def bigsize_Put.f (l : List Int) (x : Int) : Option (List Int) := if 0 ≤ x ∧ l.length ≤ 140737488355000 then some (l ++ numS x) else none
theorem bigsize_Put.calls (A0 : Option Addr) (c0 : Nat) (l0 : List Int) (a1 : Int) (r : List Int) (w : World) (hr0 : Kd.C (Kd.int .u8) w A0 l0.length l0) (_hc0 : l0.length ≤ c0) (h : bigsize_Put.f l0 a1 = some r) :
    Calls Try.prog 11 #[.slice A0 l0.length c0, .int .u64 a1] w fun e w' => ∃ v0_ : Value, e = .returned (v0_) ∧ Kd.R (Kd.int .u8) 5 w' w.heap.size (fun _ => True) v0_ r ∧ Below w.heap.size w w' := by
  unfold bigsize_Put.f at h
  split at h
  · rename_i hb
    obtain rfl := Option.some.inj h
    by_cases h1 : a1 < 253
    · have e : numS a1 = [a1] := by unfold numS; rw [if_pos h1]
      rw [e]
      exact put_low A0 c0 l0 a1 w hr0 hb.2 hb.1 h1
    · exact put_high A0 c0 l0 a1 w hr0 hb.2 (by omega)
  · cases h
end Go.Proofs.Ytpnkldjbiinnpaa.PC
