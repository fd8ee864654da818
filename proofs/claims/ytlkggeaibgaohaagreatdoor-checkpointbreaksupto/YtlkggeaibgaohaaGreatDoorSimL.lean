/- Slice literals; closures; the least and the greatest; the list of all operations that turn nothing. -/
import Derived.Test.YtlkggeaibgaohaaGreatDoorSimK
namespace Go.Proofs.YtlkggeaibgaohaaGreatDoor.Sim
open Go Go.RowKit

/-- A struct's zero value, cell by cell. -/
def zeroAgg (G : Pg) (t : TypeId) : Option (Comp AV) :=
  match G.ty t with
  | some T => match T.fields, zeroL 60 T with
    | some _, some cs => match constList cs with
      | some l => cond (zeroIs G.P t T) (some (just (.agg l))) none
      | none => none
    | _, _ => none
  | none => none
theorem zeroAgg_sound (G : Pg) {c : Cx} {t : TypeId} {cp : Comp AV} (h : zeroAgg G t = some cp) {u : cp.X} (w : World) :
    ∃ v, (Instr.build t #[]).run G.P w = .ok v w ∧ AVR c (cp.out u) [v] := by
  unfold zeroAgg at h
  split at h
  · rename_i T hT
    split at h
    · rename_i b cs hb hcs
      split at h
      · rename_i l hl
        cases hz : zeroIs G.P t T with
        | false => rw [hz] at h; cases h
        | true =>
          rw [hz] at h
          simp only [cond_true, Option.some.injEq] at h
          subst h
          obtain ⟨fs, hund, hok⟩ := G.und_fields hT hb
          have hmap : (fs.mapM fun f => do pure (f.offset, ← sizeOf f.type) : Sem (Array (Nat × Nat))).run G.P w = .ok (fs.map fun f => (f.offset, ((G.ty f.type).map Ty.size).getD 0)) w := by
            refine run_mapM_array fun f hf => ?_
            obtain ⟨j, hj, he⟩ := Array.mem_iff_getElem.1 hf
            obtain ⟨s, hs, _⟩ := fieldsOk_all hok j f (by simp [hj, he])
            simp [hs, G.run_sizeOf hs]
          unfold zeroIs at hz
          cases hi : G.P.info? t with
          | none => rw [hi] at hz; cases hz
          | some i =>
            rw [hi] at hz
            simp only at hz
            cases hzv : i.zero with
            | none => rw [hzv] at hz; cases hz
            | some v =>
              rw [hzv, hcs] at hz
              have hzc := zeqL_eq hz
              have hz0 : (zeroValue t).run G.P w = .ok v w := by
                simp only [zeroValue, typeInfo, Sem.run_bind, run_program, hi, Result.andThen, Sem.run_pure, hzv]
              refine ⟨.agg v.cells, ?_, v.cells, rfl, ?_⟩
              · simp only [Instr.build, Sem.run_bind, hz0, Result.andThen, run_underlying hund, hmap, Sem.run_pure]
                rfl
              · rw [hzc]; exact constList_sound c hl
      · cases h
    · cases h
  · cases h

theorem own_lt {fr : Frm} {m : Nat → Option Nat × Nat} {st : St} {w : World} (H : HeapOk fr m st w) {b : Nat} (h : own fr.F m st.heap b) : b < w.heap.size := by
  rcases h with h | ⟨id, o, hf, hb⟩
  · exact Nat.lt_of_lt_of_le (H.fsub b h) H.since.size
  · exact (H.obj id o hf).2.lt hb

/-- The elements of a slice literal, in their order. -/
def litVals (e : Ty) : List (Nat × AV) → Nat → Option (List e.den)
  | [], _ => some []
  | (k, v) :: r, i => cond (Nat.beq k i) (match v.get [] e with
    | none => none
    | some x => match litVals e r (i + 1) with
      | none => none
      | some xs => some (x :: xs)) none

theorem litVals_spec {e : Ty} : ∀ {ps : List (Nat × AV)} {i : Nat} {xs : List e.den}, litVals e ps i = some xs →
    xs.length = ps.length ∧ (∀ j, j < ps.length → ∃ v, ps[j]? = some (i + j, v) ∧ ∃ x, xs[j]? = some x ∧ v.get [] e = some x)
  | [], i, xs, h => by simp only [litVals, Option.some.injEq] at h; subst h; exact ⟨rfl, fun j hj => absurd hj (Nat.not_lt_zero j)⟩
  | (k, v) :: r, i, xs, h => by
    simp only [litVals] at h
    cases hk : Nat.beq k i with
    | false => rw [hk] at h; cases h
    | true =>
      rw [hk] at h
      have := Nat.eq_of_beq_eq_true hk
      subst this
      simp only [cond_true] at h
      cases h1 : v.get [] e with
      | none => rw [h1] at h; cases h
      | some x =>
        rw [h1] at h
        simp only at h
        cases h2 : litVals e r (k + 1) with
        | none => rw [h2] at h; cases h
        | some ys =>
          rw [h2] at h
          simp only [Option.some.injEq] at h
          subst h
          obtain ⟨e1, e2⟩ := litVals_spec h2
          refine ⟨by simp [e1], fun j hj => ?_⟩
          cases j with
          | zero => exact ⟨v, rfl, x, rfl, h1⟩
          | succ j =>
            obtain ⟨u, u1, y, u2, u3⟩ := e2 j (by simpa using hj)
            exact ⟨u, by rw [List.getElem?_cons_succ, u1, show k + (j + 1) = k + 1 + j by omega], y, by simpa using u2, u3⟩

def litAV (G : Pg) (t : TypeId) (n : Nat) (ps : List (Nat × AV)) : Option (Comp AV) :=
  match G.ty t with
  | some (.slice e) => cond (Nat.beq ps.length n && Nat.blt 0 e.size && Nat.ble (n * e.size) 16777216 && Nat.ble (n * e.bytes) 140737488355328 && (match G.P.underlying t with
      | some (.slice u) => zeroIs G.P u e
      | _ => false)) (match litVals e ps 0 with
    | some xs => some (just (.imm (.tslice e) xs))
    | none => none) none
  | _ => none

theorem Moves_alloc {O : Nat → Prop} {w : World} (o : Obj) : Moves O w O (w.alloc o) := fun b off v hO hc =>
  ⟨hO, by rw [← hc]; exact World.cell?_alloc_lt w o _ (World.block_lt_of_cell? w ⟨b, off, none⟩ hc)⟩

theorem litAV_sound (G : Pg) {fr : Frm} {m : Nat → Option Nat × Nat} {st : St} {a : Act} {w : World} (hF : Fits fr m st a w) {t : TypeId} {n : Nat} {parts : Array (Nat × Operand)} {ps : List (Nat × AV)} {cp : Comp AV}
    (hp : partsEv fr.gl st parts.toList = some ps) (h : litAV G t n ps = some cp) {u : cp.X} :
    ∃ v w', (Instr.buildSlice t n (parts.map fun x => (x.1, a.eval x.2))).run G.P w = .ok v w' ∧ Below w.heap.size w w' ∧ AVR (cx fr m st w') (cp.out u) [v] := by
  unfold litAV at h
  cases hT : G.ty t with
  | none => rw [hT] at h; cases h
  | some T =>
  rw [hT] at h
  cases T <;> try (cases h; done)
  rename_i e
  simp only at h
  obtain ⟨uu, hund, hty⟩ := G.und_slice hT
  rw [hund] at h
  simp only at h
  cases hc : (Nat.beq ps.length n && Nat.blt 0 e.size && Nat.ble (n * e.size) 16777216 && Nat.ble (n * e.bytes) 140737488355328 && zeroIs G.P uu e) with
  | false => rw [hc] at h; cases h
  | true =>
  rw [hc] at h
  simp only [cond_true] at h
  simp only [Bool.and_eq_true] at hc
  obtain ⟨⟨⟨⟨c1, c2⟩, c3⟩, c4⟩, hzero⟩ := hc
  have c1 := Nat.eq_of_beq_eq_true c1
  have c2 : 0 < e.size := Nat.lt_of_succ_le (Nat.le_of_ble_eq_true c2)
  have c3 := Nat.le_of_ble_eq_true c3
  have c4 := Nat.le_of_ble_eq_true c4
  cases hx : litVals e ps 0 with
  | none => rw [hx] at h; cases h
  | some xs =>
  rw [hx] at h
  simp only [Option.some.injEq] at h
  subst h
  obtain ⟨hxl, hxs⟩ := litVals_spec hx
  obtain ⟨hkeys, hfind⟩ := partsEv_sound hF hp
  have hnd : (ps.map (·.1)).Nodup := by
    have : ps.map (·.1) = List.range ps.length := by
      apply List.ext_getElem?
      intro j
      by_cases hj : j < ps.length
      · obtain ⟨v, hv, _⟩ := hxs j hj
        rw [List.getElem?_map, hv, List.getElem?_range hj]
        simp
      · rw [List.getElem?_eq_none (by simpa using hj), List.getElem?_eq_none (by simpa using hj)]
    rw [this]
    exact List.nodup_range
  have hpl : parts.toList.length = n := by
    have := congrArg List.length hkeys
    simp only [List.length_map] at this
    omega
  have hval := G.isVal hty
  -- each part
  have hpart : ∀ x ∈ parts.toList, x.1 < n ∧ ∃ y, xs[x.1]? = some y ∧ Rep (cx fr m st w).O w e (a.eval x.2).cells.toList y := by
    intro x hx0
    have hm : x.1 ∈ ps.map (·.1) := by rw [hkeys]; exact List.mem_map_of_mem hx0
    obtain ⟨z, hz, he⟩ := List.mem_map.1 hm
    obtain ⟨j, hj, hjz⟩ := List.mem_iff_getElem.1 hz
    obtain ⟨v, hv, y, hy, hg⟩ := hxs j hj
    rw [List.getElem?_eq_getElem hj, hjz, Nat.zero_add] at hv
    simp only [Option.some.injEq] at hv
    subst hv
    simp only at he
    subst he
    have hf := find_of_mem hnd hz
    obtain ⟨x', hx', hav⟩ := hfind _ _ hf
    have hnd' : (parts.toList.map (·.1)).Nodup := by rw [← hkeys]; exact hnd
    have e1 := find_of_mem hnd' hx0
    have e2 := find_of_mem hnd' hx'
    simp only at e2
    rw [e1] at e2
    cases e2
    exact ⟨by omega, y, hy, (AV.get_sound (Lends.none _) hg hav).cells hval⟩
  obtain ⟨z, hz, hzr⟩ := zeroIs_sound hzero (cx fr m st w).O w
  have hzl : z.cells.size = e.size := by simpa using hzr.length
  have hA : ((Array.range (n * e.size)).map fun i => z.cells[i % z.cells.size]!).size = n * e.size := by simp
  have hle : ∀ k, k < n → k * e.size + e.size ≤ n * e.size := fun k hk => by
    have : (k + 1) * e.size ≤ n * e.size := Nat.mul_le_mul_right _ hk
    rwa [Nat.succ_mul] at this
  obtain ⟨B, hB, hBs, hin, hout⟩ := fill_spec (fun i => some (i * e.size, e.size)) (by
      intro i j o s o' s' hne h1 h2
      simp only [Option.some.injEq, Prod.mk.injEq] at h1 h2
      obtain ⟨rfl, rfl⟩ := h1
      obtain ⟨rfl, _⟩ := h2
      rcases Nat.lt_or_gt_of_ne hne with hlt | hlt
      · left
        have : (i + 1) * e.size ≤ j * e.size := Nat.mul_le_mul_right _ hlt
        rwa [Nat.succ_mul] at this
      · right
        have : (j + 1) * e.size ≤ i * e.size := Nat.mul_le_mul_right _ hlt
        rw [Nat.succ_mul] at this
        omega)
    (parts.map fun x => (x.1, a.eval x.2)).toList ((Array.range (n * e.size)).map fun i => z.cells[i % z.cells.size]!)
    (by
      have : (parts.map fun x => (x.1, a.eval x.2)).toList.map (·.1) = ps.map (·.1) := by rw [hkeys]; simp
      rw [this]; exact hnd)
    (by
      intro y hy
      simp only [Array.toList_map, List.mem_map] at hy
      obtain ⟨p, hp0, rfl⟩ := hy
      obtain ⟨h1, y, h2, h3⟩ := hpart p hp0
      have hl := h3.length
      simp only [Array.length_toList] at hl
      refine ⟨p.1 * e.size, by simp only [hl], ?_⟩
      rw [hA, hl]
      exact hle _ h1)
  have hnotO : ¬ own fr.F m st.heap w.heap.size := fun hO => absurd (own_lt hF.heap hO) (Nat.lt_irrefl _)
  refine ⟨.slice (some ⟨w.heap.size, 0, none⟩) n n, w.alloc (.cells B uu), ?_, (Below.refl _ _).alloc (Nat.le_refl _) _, ?_⟩
  · simp only [Instr.buildSlice, Sem.run_bind, run_underlying hund, Result.andThen, G.run_sizeOf hty]
    rw [if_neg (by simpa using c3)]
    by_cases hn0 : n * e.size = 0
    · have hps : parts.toList = [] := List.eq_nil_of_length_eq_zero (by
        rcases Nat.mul_eq_zero.1 hn0 with h0 | h0
        · omega
        · omega)
      have hB' : B = #[] := Array.eq_empty_of_size_eq_zero (by rw [hBs, hA, hn0])
      have e0 : parts = #[] := by apply Array.ext'; simpa using hps
      subst e0
      subst hB'
      simp [hn0, Instr.fill, newRow]
      have : ∀ (f : Nat → Value), Array.map f (Array.range 0) = #[] := fun f => Array.eq_empty_of_size_eq_zero (by simp)
      rw [this]
    · simp only [if_neg hn0, Sem.run_bind, hz, Result.andThen, Sem.run_pure, hB, newRow, run_newObj]
      rfl
  · have hcells : ∀ i, i < n → ∃ y, xs[i]? = some y ∧ Rep (cx fr m st w).O w e ((B.toList.drop (i * e.size)).take e.size) y := by
      intro i hi
      obtain ⟨p, hp0⟩ : ∃ p, parts.toList[i]? = some p := ⟨_, List.getElem?_eq_getElem (by omega)⟩
      have hk : p.1 = i := by
        have h1 : (parts.toList.map (·.1))[i]? = some p.1 := by rw [List.getElem?_map, hp0]; rfl
        rw [← hkeys, List.getElem?_map] at h1
        obtain ⟨v, hv, _⟩ := hxs i (by omega)
        rw [hv] at h1
        simpa using h1.symm
      have hmem : p ∈ parts.toList := List.mem_of_getElem? hp0
      obtain ⟨_, y, h2, h3⟩ := hpart p hmem
      rw [hk] at h2
      have hl := h3.length
      refine ⟨y, h2, ?_⟩
      rw [seg_ext (r := (a.eval p.2).cells.toList) hl fun j hj => ?_]
      · exact h3
      · have := hin (p.1, a.eval p.2) (by simp only [Array.toList_map, List.mem_map]; exact ⟨p, hmem, rfl⟩) _ _ rfl j hj
        rw [hk] at this
        simpa using this
    have hnm : n ≤ maxLen := by
      have h1 : n * 1 ≤ n * e.size := Nat.mul_le_mul_left _ c2
      unfold maxLen
      omega
    refine ValRep.ofLeaf rfl (.tslice (.slice _ n n (fun i => (B.toList.drop (i * e.size)).take e.size) (by omega) (Nat.le_refl _) hnm c2 (by omega) (.inr ⟨w.heap.size, 0, rfl, hnotO, ?_⟩) ?_))
    · intro i hi j hj
      have h1 : (w.alloc (.cells B uu)).cell? ⟨w.heap.size, 0 + i * e.size + j, none⟩ = B[0 + i * e.size + j]? := World.cell?_alloc_new w B uu _
      show (w.alloc (.cells B uu)).cell? _ = _
      rw [h1, Nat.zero_add, List.getElem?_take_of_lt hj, List.getElem?_drop, Array.getElem?_toList]
    · intro i hi
      obtain ⟨y, h1, h2⟩ := hcells i (by omega)
      have : xs[i] = y := by
        have := List.getElem?_eq_getElem hi
        rw [h1] at this
        exact (Option.some.inj this).symm
      rw [this]
      exact h2.move (Moves_alloc _)

end Go.Proofs.YtlkggeaibgaohaaGreatDoor.Sim
