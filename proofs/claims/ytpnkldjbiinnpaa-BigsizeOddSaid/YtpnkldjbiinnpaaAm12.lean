import Derived.Test.YtpnkldjbiinnpaaAm11
import Derived.Laws.IdiomStrings
/- Each operation of the model does what the plain machine's does: all of them. -/
namespace Go.Proofs.Ytpnkldjbiinnpaa.AM
open Go Go.RowKit
set_option linter.unusedVariables false
set_option linter.unusedSimpArgs false
theorem byteEls_eq : ∀ {els : List AV} {l : List Int}, byteEls els = some l → els = l.map fun n => .int .u8 n
  | [], l, h => by simp only [byteEls] at h; cases h; rfl
  | x :: r, l, h => by
    unfold byteEls at h
    split at h
    · rename_i heq; cases heq
    · rename_i n r' heq
      cases heq
      simp only [Option.map_eq_some_iff] at h
      obtain ⟨l', h1, rfl⟩ := h
      rw [byteEls_eq h1]
      rfl
    · cases h
theorem flat_ints : ∀ (l : List Int), flat (l.map fun n => AV.int .u8 n) = l.map fun n => AV.int .u8 n
  | [] => rfl
  | n :: l => by
    have := flat_ints l
    simp only [flat, List.map_cons, List.flatten_cons, elCells] at *
    rw [this]
    rfl
theorem VL_ints {S : St} : ∀ {l : List Int} {us : List Value}, VL S (l.map fun n => AV.int .u8 n) us → us = l.map (Value.int .u8)
  | [], us, h => by simpa [VL] using h
  | n :: l, us, h => by
    simp only [List.map_cons, VL] at h
    obtain ⟨u, ws, rfl, h1, h2⟩ := h
    simp only [V] at h1
    rw [h1, VL_ints h2]
    rfl
theorem flat_take {k : Option Nat} : ∀ {els : List AV} (n : Nat), (∀ x ∈ els, shp k x) → flat (els.take n) = (flat els).take (n * kz k)
  | [], n, _ => by simp [flat]
  | x :: els, 0, _ => by simp [flat]
  | x :: els, n + 1, hs => by
    have ih := flat_take (els := els) n fun y hy => hs y (by simp [hy])
    have hx := shp_len (hs x (by simp))
    simp only [flat, List.take_succ_cons, List.map_cons, List.flatten_cons] at *
    rw [ih, Nat.succ_mul, Nat.add_comm (n * kz k), ← hx, List.take_length_add_append]
section
variable {P : Program} {E : Env0} {o : Oper} {C : Cl} {e : Env} {h h' : Heap} {v : AV} {S : St} {B : Nat} {W : World} {a : Act}
theorem ex_convStr {s d el : TypeId} {x : Operand} (hop : o.op = .convert s d x) (hs : P.underlying s = some (.slice el)) (hel : P.underlying el = some (.int .u8)) (hd : P.underlying d = some .string) {x' : Opd} (h1 : compO E x = some x') (hx : aop C (.convStr x') e h = some (v, h')) (r : Rel S h B W) (he : EnvR S e a E.nt) (hg : GlobOK E.gl S.imm) : h' = h ∧ ExR P o a S v W := by
  have hv := evO_V he hg h1
  simp only [aop] at hx
  split at hx
  · cases hx
  · rename_i v' hns
    simp only [Option.bind_eq_some_iff, Option.map_eq_some_iff, Prod.mk.injEq] at hx
    obtain ⟨els, hels, l, hl, rfl, rfl⟩ := hx
    obtain ⟨us, hE, hvl, _, _⟩ := els_ok (P := P) r hv hels
    have hus : us = l.map (Value.int .u8) := by
      have := byteEls_eq hl
      subst this
      exact VL_ints (by rw [← flat_ints]; exact hvl)
    obtain ⟨hlen, ⟨ao, cap, hev, hat⟩ | ⟨q, hev, _⟩⟩ := hE
    · refine ⟨rfl, .string (strOfNums l), ?_, V_sc _⟩
      have hl' : els.length = l.length := by rw [byteEls_eq hl, List.length_map]
      suffices hc : (convert s d (a.eval x)).run P W = .ok (.string (strOfNums l)) W by simp [execOp, hop, hc]
      rw [hev]
      rcases hat with h0 | ⟨b, o', rfl, hat⟩
      · have : l = [] := List.eq_nil_of_length_eq_zero (by omega)
        subst this
        rw [run_convert_bytes_string W s d el ao _ cap hs hel hd, h0]
        cases ao with
        | none => rfl
        | some ad => simp [Conv.bytesToString, loadCells, loadCellsFrom]; rfl
      · refine run_convert_bytes_arg W s el hs hel b o' els.length cap l hl'.symm (fun i hi => ?_) d hd
        have hi' : i < l.length := by omega
        refine hat i _ ?_
        rw [hus, List.getElem?_map, List.getElem?_eq_getElem hi']
        simp [List.getD, List.getElem?_eq_getElem hi']
    · exfalso
      -- a string is no slice
      cases hev' : evO e x' <;> rw [hev'] at hv hels <;> simp only [V] at hv
      case sc w =>
        rw [hev] at hv
        subst hv
        exact hns q hev'
      case slice own k els' =>
        obtain ⟨ao, cap, q1, _⟩ := hv
        rw [hev] at q1; cases q1
      case ms id off k len =>
        obtain ⟨b, N, cap, _, _, _, _, q1⟩ := hv
        rw [hev] at q1; cases q1
      all_goals simp [elemsOf] at hels
theorem ex_convBytes {s d el : TypeId} {x : Operand} (hop : o.op = .convert s d x) (hs : P.underlying s = some .string) (hd : P.underlying d = some (.slice el)) (hel : P.underlying el = some (.int .u8)) {x' : Opd} (h1 : compO E x = some x') (hx : aop C (.convBytes x') e h = some (v, h')) (r : Rel S h B W) (he : EnvR S e a E.nt) (hg : GlobOK E.gl S.imm) : ExOK P o a S h' v B W := by
  simp only [aop] at hx
  split at hx
  · rename_i q hp
    split at hx
    · cases hx
      have e1 := eval_sc (evO_V he hg h1) hp
      have hrun := run_bytes_of_string (P := P) W s d el q hs hd hel
      have rr := r.newRow none q.size
      have hget : (h ++ [AObj.row none q.size])[h.length]? = some (.row none q.size) := by simp
      have rd : Rel S (h ++ [AObj.row none q.size]) B W.drew := ⟨rr.imm, fun i x hx => by
        have := rr.obj i x hx
        cases x with
        | cells cs => exact this
        | row k n => exact this
        | map es => exact this, rr.inj, rr.new, rr.lt, rr.base, rr.sb⟩
      have hgc := grownCap_ge W q.size 0 el
      have hgm : grownCap W q.size 0 el ≤ maxLen := grownCap_le_maxLen _ _ _ _ (by unfold maxLen; omega)
      generalize grownCap W q.size 0 el = gc at *
      have hbr : bytesRow q gc = (q.data.map fun b => Value.int .u8 b.toNat) ++ Array.replicate (gc - q.size) (.int .u8 0) := rfl
      have hsz : (bytesRow q gc).size = gc := by
        rw [hbr]
        simp only [Array.size_append, Array.size_map, Array.size_replicate]
        show q.size + _ = _
        omega
      have hone : ∀ u ∈ (bytesRow q gc).toList, u.oneCell' = true := by
        rw [hbr]
        intro u hu
        simp only [Array.toList_append, Array.toList_map, Array.toList_replicate, List.mem_append, List.mem_map, List.mem_replicate] at hu
        rcases hu with ⟨b, _, rfl⟩ | ⟨_, rfl⟩ <;> rfl
      obtain ⟨r2, ex⟩ := rd.rowNew hget (r.new _ _ (Nat.le_refl _)) (bytesRow q gc) el ((bytesRow q gc).size, (bytesRow q gc).size + 1) (fun o u _ hu => hone u (Array.mem_toList_iff.2 (Array.mem_of_getElem? hu))) (by rw [hsz]; simpa [kz] using hgc) (fun o ho => by simp; omega)
      refine ⟨_, .slice (some ⟨W.heap.size, 0, none⟩) q.size gc, _, _, by simp only [execOp, hop, e1, Sem.run_bind, hrun, Result.andThen_ok, Sem.run_pure], .inl rfl, ex, r2, ?_, ((Below.refl B W).drew).alloc r.base _⟩
      have hsl : (strEls q).length = q.size := by simp [strEls]
      have hsz0 : W.drew.heap.size = W.heap.size := rfl
      simp only [V]
      refine ⟨_, gc, by rw [hsl], by rw [hsl]; exact hgc, ⟨hgm, .inr ⟨W.heap.size, gc, ?_, ?_, rfl, by simp [kz]⟩⟩, .inr ⟨W.heap.size, 0, rfl, ?_⟩⟩
      · simp only [addRow, hsz0, hsl]; rw [if_pos ⟨trivial, trivial⟩]
      · simp only [addRow, hsz0, if_true, hsz]
      · have hfl : flat (strEls q) = strEls q := (flat_single _ (by
          intro x hx c
          simp only [strEls, List.mem_map] at hx
          obtain ⟨b, _, rfl⟩ := hx
          exact fun hh => by cases hh)).1
        refine VE_of_flat (us := q.data.toList.map fun b => .int .u8 b.toNat) (fun x hx => ?_) (by rw [hfl]; exact VL.map _ _ _ fun b _ => V_sc _) fun j u hj => ?_
        · simp only [strEls, List.mem_map] at hx
          obtain ⟨b, _, rfl⟩ := hx
          rfl
        · have hj0 := (List.getElem?_eq_some_iff.1 hj).1
          have hj0' : j < q.size := by simpa using hj0
          simp only [addRow, hsz0, Nat.zero_add, kz, Option.getD_none, Nat.mul_one]
          rw [if_pos ⟨trivial, hj0'⟩, hbr, Array.getElem?_append_left (by simpa using hj0')]
          simpa using hj
    · cases hx
  · cases hx
theorem ex_copy {ts : Array TypeId} {d s : Operand} (hop : o.op = .call { callee := .builtin .copy, args := #[d, s], argTypes := ts }) {t el : TypeId} (h0 : ts[0]? = some t) (ht : P.underlying t = some (.slice el)) {k : Option Nat} {i : TypeInfo} (hi : P.info? el = some i) (hs : i.size = kz k) {d' s' : Opd} (hcd : compO E d = some d') (hcs : compO E s = some s')
    (hx : aop C (.copy k d' s') e h = some (v, h')) (r : Rel S h B W) (he : EnvR S e a E.nt) (hg : GlobOK E.gl S.imm) : ExOK P o a S h' v B W := by
  simp only [aop, Option.bind_eq_some_iff] at hx
  obtain ⟨new, hnew, hx⟩ := hx
  obtain ⟨ws, hE, hvn, hon, hsn⟩ := els_ok (P := P) r (evO_V he hg hcs) hnew
  have hv := evO_V he hg hcd
  split at hx
  · rename_i id off k' len hdv
    split at hx
    · rename_i hkk
      subst hkk
      simp only [Option.map_eq_some_iff, Prod.mk.injEq] at hx
      obtain ⟨h2, hst, rfl, rfl⟩ := hx
      rw [hdv] at hv
      simp only [V] at hv
      obtain ⟨b, N, cap, q1, q2, q3, q4, q5⟩ := hv
      simp only [storeB, Option.bind_eq_some_iff] at hst
      obtain ⟨cs, hbx, hst⟩ := hst
      split at hst
      · rename_i hle
        cases hst
        have hb0 := (box_rel r hbx).1
        have hfm : (new.take len).flatMap elCells = flat (new.take len) := by rw [flat, List.flatMap_def]
        have hvt : VL S ((new.take len).flatMap elCells) (ws.take (len * kz k')) := by
          rw [hfm, flat_take len hsn]
          exact VL.take hvn _
        obtain ⟨s1, s2, s3⟩ := run_store_box (P := P) hb0 q1 r hvt (fun u hu => hon u (List.mem_of_mem_take hu)) hle
        have hf := run_firsts hE (min new.length len) (Nat.min_le_left _ _) (W' := W) (fun _ => rfl)
        have htake : ws.take (min new.length len * kz k') = ws.take (len * kz k') := by
          rcases Nat.le_total new.length len with hc | hc
          · rw [Nat.min_eq_left hc, List.take_of_length_le (by rw [hE.1]; exact Nat.le_refl _), List.take_of_length_le (by rw [hE.1]; exact Nat.mul_le_mul_right _ hc)]
          · rw [Nat.min_eq_right hc]
        rw [htake] at hf
        refine ⟨_, .int .i64 (min new.length len : Nat), _, S, ?_, .inl rfl, Ext.refl S, s2, V_sc _, s3⟩
        have hlen := run_lenOf hE W
        simp only [execOp, hop, resolve, invoke, builtin, Builtin.copy_, List.getElem?_toArray, List.map_toArray, List.map_cons, List.map_nil, List.getElem?_cons_zero, List.getElem?_cons_succ, h0, Sem.run_bind, run_underlying' ht, Result.andThen_ok, q5, hlen, run_sizeOf' hi, hs, Sem.run_pure, goInt]
        rw [show Nat.min new.length len = min new.length len from rfl, hf]
        simp only [Result.andThen_ok, s1]
      · cases hst
    · cases hx
  · cases hx
end
end Go.Proofs.Ytpnkldjbiinnpaa.AM
