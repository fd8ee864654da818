/- copy into a row of the call's own. -/
import Derived.Test.YtlkggeaibgaohaaGreatDoorSimWB
namespace Go.Proofs.YtlkggeaibgaohaaGreatDoor.Sim
open Go Go.RowKit

/-- How many elements are copied. -/
def copyN {α : Type} (ys : List α) (len : Nat) : Nat := Nat.min ys.length len
def copied {α : Type} (zs ys : List α) (lo len : Nat) : List α := zs.take lo ++ (ys.take (copyN ys len) ++ zs.drop (lo + copyN ys len))

def copyE (G : Pg) (st : St) (dT : TypeId) (d s : AV) : Option (Comp Eff) :=
  match d, elemOf G dT with
  | .view id e1 lo len, some (_, T, _) => match find st.heap id with
    | some (.row e2 xs) => cond (Ty.eqb e1 e2) (match Ty.cast (a := .slice e2) (.slice T) xs with
      | some (zs : List T.den) => match srcVals st.heap T s with
        | some ys => some (just (.imm (.int .i64) (copyN ys len : Int), (id, .row T (copied zs ys lo len)) :: st.heap, st.nx))
        | none => none
      | none => none) none
    | _ => none
  | _, _ => none

/-- The same objects, in another list. -/
theorem HeapOk.same {fr : Frm} {m : Nat → Option Nat × Nat} {st st' : St} {w : World} (H : HeapOk fr m st w) (hf : ∀ k, find st'.heap k = find st.heap k) (hn : st'.nx = st.nx) :
    HeapOk fr m st' w ∧ (cx fr m st w).Le (cx fr m st' w) := by
  refine H.step (B := fun _ => False) (Turns.of_below (Below.refl _ _) _) (fun b hB => hB.elim) (fun _ _ => rfl) (by rw [hn]; exact Nat.le_refl _) ?_ ?_ ?_
  · intro id o b h hb
    rw [hf] at h
    exact .inr ⟨id, o, h, hb⟩
  · intro _ id o h
    rw [hf] at h
    exact .inl ⟨h, fun _ _ h => h⟩
  · intro i j o o' b h1 h2
    rw [hf] at h1 h2
    exact H.inj i j o o' b h1 h2

theorem run_copy_some {P : Program} {w : World} {dT sT ty e : TypeId} {i : TypeInfo} (ht : P.underlying dT = some (.slice e)) (hi : P.info? e = some i) {b off dLen dCap : Nat} {arr : Array Value} {t : TypeId} {x : Value} {n : Nat} {news : List Value}
    (hs : SrcIs P i.size x n news w) (hl : news.length = n * i.size) (h1 : ∀ v ∈ news, v.oneCell' = true) (hg : w.heap[b]? = some (.cells arr t (0, 0))) (hfit : off + Nat.min n dLen * i.size ≤ arr.size) :
    (Builtin.copy_ #[dT, sT] ty #[.slice (some ⟨b, off, none⟩) dLen dCap, x]).run P w =
      .ok (goInt (Nat.min n dLen)) (w.setRow b (arr.toList.take off ++ news.take (Nat.min n dLen * i.size) ++ arr.toList.drop (off + Nat.min n dLen * i.size)).toArray) := by
  have hk : Nat.min n dLen ≤ n := Nat.min_le_left _ _
  have hc := hs.part _ hk
  have hkl : (news.take (Nat.min n dLen * i.size)).length = Nat.min n dLen * i.size := by
    rw [List.length_take, hl]
    exact Nat.min_eq_left (Nat.mul_le_mul_right _ hk)
  have hst := run_storeCells_at P b off t (news.take (Nat.min n dLen * i.size)) 0 arr w hg (by rw [hkl]; simpa using hfit) (fun v hv => h1 v (List.mem_of_mem_take hv))
  simp only [Nat.add_zero, hkl] at hst
  simp [Builtin.copy_, run_underlying ht, sizeOf, typeInfo, hi, hs.len, hc, hst]

theorem RowIs.takeN {O : Nat → Prop} {w : World} {e : Ty} {cells : List Value} {zs : List e.den} (h : RowIs O w e cells zs) {n : Nat} (hn : n ≤ zs.length) : RowIs O w e (cells.take (n * e.size)) (zs.take n) := by
  refine ⟨?_, fun i hi => ?_⟩
  · rw [List.length_take, List.length_take, h.1, Nat.min_eq_left hn]
    exact Nat.min_eq_left (Nat.mul_le_mul_right _ hn)
  · rw [List.length_take, Nat.min_eq_left hn] at hi
    have : (i + 1) * e.size ≤ n * e.size := Nat.mul_le_mul_right _ hi
    rw [Nat.succ_mul] at this
    have hseg := take_seg cells 0 (n * e.size) (i * e.size) e.size this
    rw [List.drop_zero, Nat.zero_add] at hseg
    rw [hseg, List.getElem_take]
    exact h.2 i (by omega)
theorem RowIs.dropN {O : Nat → Prop} {w : World} {e : Ty} {cells : List Value} {zs : List e.den} (h : RowIs O w e cells zs) {n : Nat} (hn : n ≤ zs.length) : RowIs O w e (cells.drop (n * e.size)) (zs.drop n) := by
  refine ⟨?_, fun i hi => ?_⟩
  · rw [List.length_drop, List.length_drop, h.1, Nat.sub_mul]
  · rw [List.length_drop] at hi
    rw [List.drop_drop, ← Nat.add_mul, List.getElem_drop]
    exact h.2 (n + i) (by omega)

theorem copied_length {α : Type} (zs ys : List α) (lo len : Nat) (h : lo + len ≤ zs.length) : (copied zs ys lo len).length = zs.length := by
  have h1 : copyN ys len ≤ len := Nat.min_le_right _ _
  have h2 : copyN ys len ≤ ys.length := Nat.min_le_left _ _
  simp only [copied, List.length_append, List.length_take, List.length_drop]
  omega

theorem run_copy_none {P : Program} {w : World} {dT sT ty e : TypeId} {i : TypeInfo} (ht : P.underlying dT = some (.slice e)) (hi : P.info? e = some i) {base : Option Addr} {dLen dCap : Nat} {x : Value} {n : Nat} {news : List Value}
    (hs : SrcIs P i.size x n news w) (h0 : Nat.min n dLen = 0) :
    (Builtin.copy_ #[dT, sT] ty #[.slice base dLen dCap, x]).run P w = .ok (goInt 0) w := by
  have hc := hs.part 0 (Nat.zero_le _)
  simp only [Nat.zero_mul, List.take_zero] at hc
  cases base with
  | none => simp [Builtin.copy_, run_underlying ht, sizeOf, typeInfo, hi, hs.len, h0, hc]
  | some a => simp [Builtin.copy_, run_underlying ht, sizeOf, typeInfo, hi, hs.len, h0, hc, storeCells]

theorem copied_zero {α : Type} (zs ys : List α) (lo len : Nat) (h : copyN ys len = 0) : copied zs ys lo len = zs := by
  simp [copied, h]

theorem copyE_sound (G : Pg) {fr : Frm} {m : Nat → Option Nat × Nat} {st : St} {w : World} (H : HeapOk fr m st w) {dT sT ty : TypeId} {d s : AV} {cp : Comp Eff} (h : copyE G st dT d s = some cp) {u : cp.X}
    {vd vs : Value} (hd : AVR (cx fr m st w) d [vd]) (hs : AVR (cx fr m st w) s [vs]) :
    ∃ v w', (Builtin.copy_ #[dT, sT] ty #[vd, vs]).run G.P w = .ok v w' ∧ EffOk fr m st w (cp.out u) v w' := by
  unfold copyE at h
  split at h
  · rename_i id e1 lo len e T by' he
    obtain ⟨ht, i, z, hi, hz, hzs, his, hT, hby, hib, hTb, _⟩ := elemOf_some he
    cases hf : find st.heap id with
    | none => rw [hf] at h; cases h
    | some o =>
      rw [hf] at h
      cases o with
      | cells _ => cases h
      | row e2 xs =>
        simp only at h
        cases hc : Ty.eqb e1 e2 with
        | false => rw [hc] at h; cases h
        | true =>
          rw [hc] at h
          have := Ty.eqb_eq hc
          subst this
          simp only [cond_true] at h
          cases hcast : Ty.cast (a := .slice e1) (.slice T) xs with
          | none => rw [hcast] at h; cases h
          | some zs =>
            rw [hcast] at h
            simp only at h
            obtain ⟨eT, hzx⟩ := Ty.cast_some hcast
            cases eT
            have hzx' : zs = xs := hzx
            subst hzx'
            cases hys : srcVals st.heap e1 s with
            | none => rw [hys] at h; cases h
            | some ys =>
              rw [hys] at h
              simp only [Option.some.injEq] at h
              subst h
              obtain ⟨news, hsrc, hnl, h1, hnr⟩ := srcVals_sound (P := G.P) H hys hs hT
              have hnews : RowIs (cx fr m st w).O w e1 news ys := ⟨hnl, hnr⟩
              obtain ⟨hidn, hsz, hml, hb47, hor⟩ := H.obj id _ hf
              obtain ⟨hid, hlm, _, hv⟩ := hd
              have hln : lo + len ≤ zs.length := by
                have e1 : zs.length = (m id).2 := hml
                have e2 : lo + len ≤ (m id).2 := hlm
                omega
              have hkl : copyN ys len ≤ len := Nat.min_le_right _ _
              have hky : copyN ys len ≤ ys.length := Nat.min_le_left _ _
              have hcl : copyN ys len = Nat.min ys.length len := rfl
              have hpos : zs.length * 1 ≤ zs.length * e1.bytes ∨ e1.bytes = 0 := by
                rcases Nat.eq_zero_or_pos e1.bytes with h | h
                · exact .inr h
                · exact .inl (Nat.mul_le_mul_left _ h)
              rw [← his] at hsrc
              have none_case : ∀ base cap, vd = .slice base len cap → copyN ys len = 0 → ∃ v w', (Builtin.copy_ #[dT, sT] ty #[vd, vs]).run G.P w = .ok v w' ∧
                  EffOk fr m st w (.imm (.int .i64) (copyN ys len : Int), (id, .row e1 (copied zs ys lo len)) :: st.heap, st.nx) v w' := by
                intro base cap hvd h0
                subst hvd
                refine ⟨_, _, run_copy_none ht hi hsrc h0, m, ?_⟩
                have hsame := H.same (st' := st.upd (.imm (.int .i64) (copyN ys len : Int), (id, .row e1 (copied zs ys lo len)) :: st.heap, st.nx)) (fun k => by
                  show find ((id, OB.row e1 (copied zs ys lo len)) :: st.heap) k = _
                  rw [find_cons, copied_zero _ _ _ _ h0]
                  by_cases e : id = k
                  · rw [if_pos e, ← e, hf]
                  · rw [if_neg e]) rfl
                refine ⟨hsame.1, hsame.2, ?_⟩
                show AVR _ (.imm (.int .i64) ((copyN ys len : Nat) : Int)) [.int .i64 0]
                rw [h0]
                exact int_imm _ ⟨by decide, by decide⟩
              rcases hv with ⟨_, ⟨base, rfl⟩, hlo, hlen⟩ | ⟨b, cap, ty', n, base, hb, rfl, hlc, hcm, hsh, hfit, hbase⟩
              · exact none_case base 0 (by rw [hlen]) (by rw [hcl, hlen]; exact Nat.min_zero _)
              · by_cases h0 : copyN ys len = 0
                · exact none_case base cap rfl h0
                · have hcp : cap ≠ 0 := by omega
                  have hbase' : base = some ⟨b, lo * e1.size, none⟩ := hbase.resolve_left hcp
                  subst hbase'
                  rcases hor with ⟨h0', _⟩ | ⟨b', arr, ty2, hb', hh, hfit2, hrep⟩
                  · have := h0'.symm.trans hb; cases this
                  have e0 : some b = some b' := hb.symm.trans hb'
                  cases e0
                  have hh' : w.heap[b]? = some (.cells arr ty2 (0, 0)) := hh
                  have hNz : (lo + copyN ys len) * e1.size ≤ zs.length * e1.size := Nat.mul_le_mul_right _ (by omega)
                  have hNz' := hNz
                  rw [Nat.add_mul] at hNz'
                  have hfit3 : lo * e1.size + Nat.min ys.length len * i.size ≤ arr.size := by rw [his, ← hcl]; omega
                  have hr := run_copy_some (sT := sT) (ty := ty) (dLen := len) (dCap := cap) ht hi hsrc (by rw [his]; exact hnl) h1 hh' hfit3
                  rw [his, ← hcl] at hr
                  have hlarr : arr.toList.length = arr.size := Array.length_toList
                  have hnt : (news.take (copyN ys len * e1.size)).length = copyN ys len * e1.size := by
                    rw [List.length_take, hnl]
                    exact Nat.min_eq_left (Nat.mul_le_mul_right _ hky)
                  have harr : (arr.toList.take (lo * e1.size) ++ news.take (copyN ys len * e1.size) ++ arr.toList.drop (lo * e1.size + copyN ys len * e1.size)).toArray.size = arr.size := by
                    simp only [List.size_toArray, List.length_append, hnt, List.length_take, List.length_drop, hlarr]; omega
                  refine ⟨_, _, hr, ?_⟩
                  have hold : RowIs (cx fr m st w).O w e1 (arr.toList.take (zs.length * e1.size)) zs := by
                    refine ⟨by rw [List.length_take, hlarr]; exact Nat.min_eq_left hfit2, fun j hj => ?_⟩
                    have hj2 : (j + 1) * e1.size ≤ zs.length * e1.size := Nat.mul_le_mul_right _ hj
                    rw [Nat.succ_mul] at hj2
                    have hseg := take_seg arr.toList 0 (zs.length * e1.size) (j * e1.size) e1.size hj2
                    rw [List.drop_zero, Nat.zero_add] at hseg
                    rw [hseg]
                    exact hrep j hj
                  have hnew : RowIs (cx fr m st w).O w e1 ((arr.toList.take (zs.length * e1.size)).take (lo * e1.size) ++ (news.take (copyN ys len * e1.size) ++ (arr.toList.take (zs.length * e1.size)).drop ((lo + copyN ys len) * e1.size)))
                      (copied zs ys lo len) := (hold.takeN (by omega)).append ((hnews.takeN hky).append (hold.dropN (by omega)))
                  have hcell : ((arr.toList.take (lo * e1.size) ++ news.take (copyN ys len * e1.size) ++ arr.toList.drop (lo * e1.size + copyN ys len * e1.size))).take ((copied zs ys lo len).length * e1.size) =
                      (arr.toList.take (zs.length * e1.size)).take (lo * e1.size) ++ (news.take (copyN ys len * e1.size) ++ (arr.toList.take (zs.length * e1.size)).drop ((lo + copyN ys len) * e1.size)) := by
                    rw [copied_length _ _ _ _ hln, List.take_take, Nat.min_eq_left (by omega : lo * e1.size ≤ zs.length * e1.size), List.append_assoc, List.take_append, List.take_append, List.length_take, hlarr, hnt,
                      List.take_take, Nat.min_eq_right (by omega : lo * e1.size ≤ zs.length * e1.size), Nat.min_eq_left (by omega : lo * e1.size ≤ arr.size), List.take_of_length_le (by rw [hnt]; omega : (news.take (copyN ys len * e1.size)).length ≤ _), List.drop_take, Nat.add_mul]
                    congr 3
                    omega
                  obtain ⟨w1, w2⟩ := H.write (o' := .row e1 (copied zs ys lo len)) hf hb (Turns.setRow hh' harr) (fun hle => by
                    refine ⟨hsz, by rw [copied_length _ _ _ _ hln]; exact hml, by rw [copied_length _ _ _ _ hln]; exact hb47, .inr ⟨b, _, ty2, hb, setRow_heap w b arr _ ty2 (0, 0) hh', by rw [copied_length _ _ _ _ hln, harr]; exact hfit2, ?_⟩⟩
                    intro j hj
                    exact ((hnew.move hle.moves).take (l := _) (by simpa using hcell)) j hj)
                  refine ⟨m, w1, w2, ?_⟩
                  refine int_imm _ ⟨?_, ?_⟩
                  · rw [kMin_eq]; simp only [kMin]; omega
                  · rw [kMax_eq]; simp only [kMax]
                    have : cap ≤ 9223372036854775807 := by simpa [maxLen] using hcm
                    omega
  · cases h

end Go.Proofs.YtlkggeaibgaohaaGreatDoor.Sim
