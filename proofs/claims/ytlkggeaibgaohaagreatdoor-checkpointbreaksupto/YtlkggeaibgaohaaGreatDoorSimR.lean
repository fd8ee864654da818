/- append. -/
import Derived.Test.YtlkggeaibgaohaaGreatDoorSimQ
namespace Go.Proofs.YtlkggeaibgaohaaGreatDoor.Sim
open Go Go.RowKit

/-- What is appended: so many elements, and their cells, in every world with this memory. -/
structure SrcIs (P : Program) (sz : Nat) (x : Value) (n : Nat) (news : List Value) (w : World) : Prop where
  len : ∀ w' : World, (Builtin.lenOf x).run P w' = .ok n w'
  cells : ∀ w' : World, w'.heap = w.heap → (Builtin.firstCells sz n x).run P w' = .ok news.toArray w'
  part : ∀ k, k ≤ n → (Builtin.firstCells sz k x).run P w = .ok (news.take (k * sz)).toArray w

theorem cell_heap {w w' : World} (h : w'.heap = w.heap) (a : Addr) : w'.cell? a = w.cell? a := by simp [World.cell?, h]

/-- The first m elements of what is appended. -/
theorem SrcIs.slice {P : Program} {w : World} {base : Option Addr} {cap sz n : Nat} {news : List Value} (hl : news.length = n * sz) (h : n = 0 ∨ ∃ b off, base = some ⟨b, off, none⟩ ∧ ∀ j v, news[j]? = some v → w.cell? ⟨b, off + j, none⟩ = some v) (_ : 0 < sz)
    : SrcIs P sz (.slice base n cap) n news w := by
  have main : ∀ (k : Nat), k ≤ n → ∀ w' : World, w'.heap = w.heap → (Builtin.firstCells sz k (.slice base n cap)).run P w' = .ok (news.take (k * sz)).toArray w' := by
    intro k hk w' hw'
    have hkl : (news.take (k * sz)).length = k * sz := by
      rw [List.length_take, hl]
      exact Nat.min_eq_left (Nat.mul_le_mul_right _ hk)
    cases base with
    | none =>
      rcases h with h0 | ⟨b, off, e, _⟩
      · subst h0
        have hk0 : k = 0 := by omega
        subst hk0
        simp only [Nat.zero_mul, List.take_zero]
        rfl
      · cases e
    | some a =>
      have hld := run_loadCells_list (P := P) w' a (news.take (k * sz)) fun j v hj => ?_
      · rw [hkl] at hld
        exact hld
      rcases h with h0 | ⟨b, off, e, hc⟩
      · subst h0
        have hk0 : k = 0 := by omega
        subst hk0
        simp at hj
      · cases e
        rw [add_addr, cell_heap hw']
        have hjl := (List.getElem?_eq_some_iff.1 hj).1
        rw [hkl] at hjl
        rw [List.getElem?_take_of_lt hjl] at hj
        exact hc j v hj
  refine ⟨fun _ => rfl, fun w' hw' => ?_, fun k hk => main k hk w rfl⟩
  have := main n (Nat.le_refl _) w' hw'
  rw [← hl, List.take_length] at this
  exact this

/-- The elements that are appended. -/
def srcVals (hp : List (Nat × OB)) (e : Ty) (x : AV) : Option (List e.den) :=
  match x with
  | .view id e1 lo len => match find hp id with
    | some (.row e' xs) => cond (Ty.eqb e1 e') (Ty.cast (a := .slice e') (.slice e) ((xs.drop lo).take len)) none
    | _ => none
  | .imm .str s => Ty.cast (a := .slice (.int .u8)) (.slice e) (s.data.toList.map fun b => (b.toNat : Int))
  | a => a.get [] (.slice e)

theorem take_seg (l : List Value) (a n : Nat) (k m : Nat) (h : k + m ≤ n) : (((l.drop a).take n).drop k).take m = (l.drop (a + k)).take m := by
  apply List.ext_getElem?
  intro j
  by_cases hj : j < m
  · rw [List.getElem?_take_of_lt hj, List.getElem?_take_of_lt hj, List.getElem?_drop, List.getElem?_drop, List.getElem?_take_of_lt (by omega), List.getElem?_drop, Nat.add_assoc]
  · rw [List.getElem?_eq_none (by rw [List.length_take]; omega), List.getElem?_eq_none (by rw [List.length_take]; omega)]

theorem srcVals_sound {P : Program} {fr : Frm} {m : Nat → Option Nat × Nat} {st : St} {w : World} (H : HeapOk fr m st w) {e : Ty} {x : AV} {ys : List e.den} (h : srcVals st.heap e x = some ys) {vx : Value}
    (hx : AVR (cx fr m st w) x [vx]) (hsz : 0 < e.size) :
    ∃ news, SrcIs P e.size vx ys.length news w ∧ news.length = ys.length * e.size ∧ (∀ v ∈ news, v.oneCell' = true) ∧
      ∀ i (hi : i < ys.length), Rep (cx fr m st w).O w e ((news.drop (i * e.size)).take e.size) ys[i] := by
  have imm : (∃ T z, x = .imm T z ∧ castW (.slice e) z = some ys) ∨ (x = .const (.slice none 0 0) ∧ ys = []) → ∃ news, SrcIs P e.size vx ys.length news w ∧ news.length = ys.length * e.size ∧ (∀ v ∈ news, v.oneCell' = true) ∧
      ∀ i (hi : i < ys.length), Rep (cx fr m st w).O w e ((news.drop (i * e.size)).take e.size) ys[i] := by
    rintro (⟨T, z, rfl, hc⟩ | ⟨rfl, rfl⟩)
    · obtain ⟨cs, hr, hv⟩ := castW_sound hc hx
      cases hr with
      | slice base len cap cells hlen hcap hmax hsz' hb hat hrep =>
        have hv' : vx = .slice base len cap := hv
        subst hv'
        have hnl : ((List.range len).flatMap cells).length = len * e.size := length_flatMap_range cells e.size len fun i hi => (hrep i (by omega)).length
        refine ⟨(List.range len).flatMap cells, ?_, by rw [hnl, hlen], ?_, ?_⟩
        · rw [hlen]
          refine SrcIs.slice hnl ?_ hsz
          rcases hat with h0 | ⟨b, off, hbase, hO, hcc⟩
          · exact .inl h0
          · refine .inr ⟨b, off, hbase, fun j v hj => ?_⟩
            have hjl : j < len * e.size := by rw [← hnl]; exact (List.getElem?_eq_some_iff.1 hj).1
            have hq : j / e.size < len := Nat.div_lt_of_lt_mul (by rwa [Nat.mul_comm] at hjl)
            have hr := Nat.mod_lt j hsz
            have hjj : j = (j / e.size) * e.size + j % e.size := by rw [Nat.mul_comm]; exact (Nat.div_add_mod j e.size).symm
            have h1 := hcc (j / e.size) hq (j % e.size) hr
            rw [Nat.add_assoc, ← hjj] at h1
            show w.cell? _ = _
            have h1' : w.cell? ⟨b, off + j, none⟩ = (cells (j / e.size))[j % e.size]? := h1
            rw [h1']
            have h2 := chunk_at cells e.size len (fun i hi => (hrep i (by omega)).length) (j / e.size) hq
            rw [← h2, List.getElem?_take_of_lt hr, List.getElem?_drop, ← hjj, hj]
        · intro v hv
          obtain ⟨i, hi, hv⟩ := List.mem_flatMap.1 hv
          exact oneCell_of_cell (hrep i (by rw [hlen]; simpa using hi)) v hv
        · intro i hi
          rw [chunk_at cells e.size len (fun j hj => (hrep j (by omega)).length) i (by omega)]
          exact hrep i hi
    · obtain rfl : vx = .slice none 0 0 := hx
      exact ⟨[], SrcIs.slice (by simp) (.inl rfl) hsz, by simp, (fun v hv => by cases hv), fun i hi => absurd hi (Nat.not_lt_zero i)⟩
  unfold srcVals at h
  split at h
  · rename_i id e1 lo len
    cases hf : find st.heap id with
    | none => rw [hf] at h; cases h
    | some o =>
      rw [hf] at h
      cases o with
      | cells _ => cases h
      | row e' xs =>
        simp only at h
        cases he : Ty.eqb e1 e' with
        | false => rw [he] at h; cases h
        | true =>
          rw [he] at h
          have := Ty.eqb_eq he
          subst this
          simp only [cond_true] at h
          obtain ⟨e2, rfl⟩ := Ty.cast_some h
          cases e2
          obtain ⟨_, _, hlen, _, hor⟩ := H.obj id _ hf
          obtain ⟨hid, hln, _, hv⟩ := hx
          have hln' : lo + len ≤ xs.length := by
            have h1 : xs.length = (m id).2 := hlen
            have h2 : lo + len ≤ (m id).2 := hln
            omega
          have hyl : ((xs.drop lo).take len).length = len := by rw [List.length_take, List.length_drop]; omega
          rcases hv with ⟨h0, ⟨base0, rfl⟩, rfl, rfl⟩ | ⟨b, cap, ty, nn, base, hb, rfl, hcap, hmax, hshape, hin, hbase⟩
          · have e0 : List.take 0 (List.drop 0 xs) = [] := rfl
            rw [e0]
            exact ⟨[], SrcIs.slice (by simp) (.inl rfl) hsz, by simp, (fun v hv => by cases hv), fun i hi => absurd hi (Nat.not_lt_zero i)⟩
          · rcases hor with ⟨h0, _⟩ | ⟨b', arr, ty', hb', hh, hfit, hrep⟩
            · have h1 := h0.symm.trans hb; cases h1
            have e0 : some b = some b' := hb.symm.trans hb'
            cases e0
            have hh' : w.heap[b]? = some (.cells arr ty' (0, 0)) := hh
            have hle : (lo + len) * e.size ≤ arr.size := Nat.le_trans (Nat.mul_le_mul_right _ hln') hfit
            rw [Nat.add_mul] at hle
            have hnl : ((arr.toList.drop (lo * e.size)).take (len * e.size)).length = len * e.size := by
              rw [List.length_take, List.length_drop, Array.length_toList]; omega
            have hseg : ∀ i, i < len → (((arr.toList.drop (lo * e.size)).take (len * e.size)).drop (i * e.size)).take e.size = (arr.toList.drop ((lo + i) * e.size)).take e.size := fun i hi => by
              have : (i + 1) * e.size ≤ len * e.size := Nat.mul_le_mul_right _ hi
              rw [Nat.succ_mul] at this
              rw [take_seg _ _ _ _ _ this, Nat.add_mul]
            refine ⟨(arr.toList.drop (lo * e.size)).take (len * e.size), ?_, by rw [hnl, hyl], ?_, ?_⟩
            · rw [hyl]
              refine SrcIs.slice hnl ?_ hsz
              rcases Nat.eq_zero_or_pos len with h0 | hp0
              · exact .inl h0
              · rcases hbase with hc0 | rfl
                · omega
                · refine .inr ⟨b, lo * e.size, rfl, fun j v hj => ?_⟩
                  have hjl : j < len * e.size := by rw [← hnl]; exact (List.getElem?_eq_some_iff.1 hj).1
                  rw [List.getElem?_take_of_lt hjl, List.getElem?_drop, Array.getElem?_toList] at hj
                  rw [cell_of_arr hh', hj]
            · intro v hv
              obtain ⟨j, hj, rfl⟩ := List.mem_iff_getElem.1 hv
              have hjl : j < len * e.size := by omega
              have hq : j / e.size < len := Nat.div_lt_of_lt_mul (by rwa [Nat.mul_comm] at hjl)
              have hr := Nat.mod_lt j hsz
              have hjj : j = (j / e.size) * e.size + j % e.size := by rw [Nat.mul_comm]; exact (Nat.div_add_mod j e.size).symm
              have h1 := oneCell_of_cell (hrep (lo + j / e.size) (by omega))
              rw [← hseg _ hq] at h1
              refine h1 _ (List.mem_of_getElem? (i := j % e.size) ?_)
              rw [List.getElem?_take_of_lt hr, List.getElem?_drop, ← hjj, List.getElem?_eq_getElem hj]
            · intro i hi
              have hi' : i < len := by rw [hyl] at hi; exact hi
              rw [hseg i hi']
              have := hrep (lo + i) (by omega)
              simp only [List.getElem_take, List.getElem_drop]
              exact this
  · rename_i s
    obtain ⟨e2, rfl⟩ := Ty.cast_some h
    cases e2
    obtain ⟨rfl, hs⟩ := imm_str hx
    refine ⟨s.data.toList.map fun b => .int .u8 b.toNat, ⟨fun _ => by rw [List.length_map, Array.length_toList]; rfl, fun w' _ => ?_, fun k hk => by
      simp only [Builtin.firstCells, Sem.run_pure]
      congr 1
      apply Array.ext'
      simp [Ty.size, List.map_take, ByteArray.data_extract]⟩, by simp [Ty.size], ?_, ?_⟩
    · have : s.extract 0 (List.map (fun b => (b.toNat : Int)) s.data.toList).length = s := by
        rw [List.length_map, Array.length_toList]
        exact ByteArray.extract_zero_size
      simp only [Builtin.firstCells, this, Sem.run_pure]
      congr 1
      apply Array.ext'
      simp
    · intro v hv
      obtain ⟨b, _, rfl⟩ := List.mem_map.1 hv
      rfl
    · intro i hi
      have hi' : i < s.data.toList.length := by simpa using hi
      have e1 : ((s.data.toList.map fun b => Value.int .u8 b.toNat).drop (i * Ty.size (.int .u8))).take (Ty.size (.int .u8)) = [.int .u8 (s.data.toList[i]).toNat] := by
        show ((s.data.toList.map fun b => Value.int .u8 b.toNat).drop (i * 1)).take 1 = _
        rw [Nat.mul_one, List.take_one, List.head?_drop, List.getElem?_map, List.getElem?_eq_getElem hi']
        rfl
      rw [e1]
      simp only [List.getElem_map]
      refine .int ?_
      rw [inKind_iff]
      simp only [kMin, kMax]
      have := UInt8.toNat_lt (s.data.toList[i])
      omega
  · rename_i hview hstr
    cases x <;> try (cases h; done)
    case imm T z => exact imm (.inl ⟨T, z, rfl, h⟩)
    case const v =>
      refine imm (.inr ?_)
      simp only [AV.get, leafGet] at h
      split at h
      · rename_i hh; cases hh
      · rename_i hc
        simp only [AV.const.injEq] at hc
        cases hb : Nat.blt 0 e.size with
        | false => rw [hb] at h; cases h
        | true =>
          rw [hb] at h
          simp only [cond_true, Option.some.injEq] at h
          exact ⟨by rw [hc], h.symm⟩
      · rename_i hh; cases hh
      · cases h

end Go.Proofs.YtlkggeaibgaohaaGreatDoor.Sim
