/- New variables, stores. -/
import Derived.Test.YtlkggeaibgaohaaGreatDoorSimO
import Derived.Laws.CopyRow
namespace Go.Proofs.YtlkggeaibgaohaaGreatDoor.Sim
open Go Go.RowKit

/-- What an operation that turns objects leaves: its value, the objects, the number above them. -/
abbrev Eff := AV × List (Nat × OB) × Nat
def St.upd (st : St) (e : Eff) : St := { st with heap := e.2.1, nx := e.2.2 }

/-- The object of a new variable of type T that holds a datum. -/
def varOf (T : Ty) (l : Option AV) (xs : Option AV) : Option OB :=
  match T, l, xs with
  | .arr _ e, _, some (.imm (.arr _ e') ys) => match Ty.cast (a := .slice e') (.slice e) ys with
    | some (zs : List e.den) => cond (Nat.blt 0 e.size && Nat.ble (zs.length * e.bytes) 140737488355328) (some (.row e zs)) none
    | none => none
  | _, some l, _ => some (.cells l)
  | _, _, _ => none

def ptrTo (n : Nat) : OB → AV
  | .cells _ => .ptr n 0
  | .row e _ => .aptr n e

def newVarE (st : St) (o : OB) : Eff := (ptrTo st.nx o, (st.nx, o) :: st.heap, st.nx + 1)

theorem run_newVar {P : Program} (t : TypeId) (v : Value) (w : World) : (newVar t v).run P w = .ok ⟨w.heap.size, 0, none⟩ (w.alloc (.cells v.cells t)) := rfl

/-- The variable's object, out of the value that goes into it. -/
def boxOf (a : AV) : Option OB :=
  match a with
  | .imm (.arr n e) xs => cond (Nat.blt 0 e.size && Nat.ble (n * e.bytes) 140737488355328) (some (.row e xs)) none
  | a => match a.cells with
    | some l => some (.cells l)
    | none => none

theorem chunk_at (cells : Nat → List Value) (sz : Nat) : ∀ n, (∀ j, j < n → (cells j).length = sz) → ∀ i, i < n → ((((List.range n).flatMap cells).drop (i * sz)).take sz) = cells i
  | 0, _, i, hi => absurd hi (Nat.not_lt_zero i)
  | n + 1, h, i, hi => by
    have ln : ((List.range n).flatMap cells).length = n * sz := length_flatMap_range cells sz n fun j hj => h j (by omega)
    rw [List.range_succ, List.flatMap_append]
    simp only [List.flatMap_cons, List.flatMap_nil, List.append_nil]
    by_cases hin : i = n
    · subst hin
      rw [← ln, List.drop_left, ← h i (by omega), List.take_length]
    · have hle : (i + 1) * sz ≤ n * sz := Nat.mul_le_mul_right _ (by omega)
      rw [Nat.succ_mul] at hle
      rw [drop_take_left _ _ _ _ (by omega)]
      exact chunk_at cells sz n (fun j hj => h j (by omega)) i (by omega)

theorem OBR.ofBox {c d : Cx} (hle : c.Le d) {a : AV} {o : OB} (h : boxOf a = some o) {v : Value} (hv : AVR c a [v]) {b : Nat} {ty : TypeId} (hh : d.w.heap[b]? = some (.cells v.cells ty (0, 0))) :
    ∃ ln, OBR d (some b, ln) o := by
  have plain : (match a.cells with | some l => some (OB.cells l) | none => none) = some o → ∃ ln, OBR d (some b, ln) o := fun h => by
    cases hc : a.cells with
    | none => rw [hc] at h; cases h
    | some l =>
      rw [hc] at h
      simp only [Option.some.injEq] at h
      subst h
      exact ⟨0, b, v.cells, ty, rfl, hh, (AV.cells_sound hc hv).1.move hle⟩
  cases a <;> try (exact plain h)
  rename_i T x
  cases T <;> try (exact plain h)
  rename_i n e
  simp only [boxOf] at h
  cases hc : (Nat.blt 0 e.size && Nat.ble (n * e.bytes) 140737488355328) with
  | false => rw [hc] at h; cases h
  | true =>
    rw [hc] at h
    simp only [cond_true, Option.some.injEq] at h
    subst h
    rw [Bool.and_eq_true] at hc
    have c1 : 0 < e.size := Nat.lt_of_succ_le (Nat.le_of_ble_eq_true hc.1)
    have c2 := Nat.le_of_ble_eq_true hc.2
    obtain ⟨cs, hr, hvv⟩ := hv
    have hvv' : v = .agg cs.toArray := hvv
    subst hvv'
    cases hr with
    | arr cells hn h =>
      have hlen : ((List.range n).flatMap cells).length = n * e.size := length_flatMap_range cells e.size n fun i hi => (h i (by omega)).length
      refine ⟨List.length x, c1, rfl, by rw [hn]; omega, .inr ⟨b, _, ty, rfl, hh, ?_, ?_⟩⟩
      · show List.length x * e.size ≤ ((List.range n).flatMap cells).toArray.size
        rw [List.size_toArray, hlen, hn]
        exact Nat.le_refl _
      · intro i hi
        have hcell : ((((List.range n).flatMap cells).toArray.toList.drop (i * e.size)).take e.size) = cells i :=
          chunk_at cells e.size n (fun j hj => (h j (by omega)).length) i (by omega)
        show Rep d.O d.w e ((((List.range n).flatMap cells).toArray.toList.drop (i * e.size)).take e.size) _
        rw [hcell]
        exact (h i hi).move hle.moves

def boxE (st : St) (a : AV) : Option (Comp Eff) :=
  match boxOf a with
  | some o => some (just (newVarE st o))
  | none => none

/-- What is to be shown of an operation that turns objects. -/
def EffOk (fr : Frm) (m : Nat → Option Nat × Nat) (st : St) (w : World) (e : Eff) (v : Value) (w' : World) : Prop :=
  ∃ m', HeapOk fr m' (st.upd e) w' ∧ (cx fr m st w).Le (cx fr m' (st.upd e) w') ∧ AVR (cx fr m' (st.upd e) w') e.1 [v]

theorem newVar_ok {fr : Frm} {m : Nat → Option Nat × Nat} {st : St} {w : World} (H : HeapOk fr m st w) {a : AV} {o : OB} (h : boxOf a = some o) {v : Value} (hv : AVR (cx fr m st w) a [v]) (t : TypeId) :
    EffOk fr m st w (newVarE st o) (.pointer (some ⟨w.heap.size, 0, none⟩)) (w.alloc (.cells v.cells t)) := by
  have hb : Below w.heap.size w (w.alloc (.cells v.cells t)) := (Below.refl _ _).alloc (Nat.le_refl _) _
  have hh : (w.alloc (.cells v.cells t)).heap[w.heap.size]? = some (.cells v.cells t (0, 0)) := heap_alloc_new w _
  obtain ⟨ln, hln⟩ : ∃ ln, ∀ {d : Cx}, (cx fr m st w).Le d → d.w = w.alloc (.cells v.cells t) → OBR d (some w.heap.size, ln) o := by
    -- the length hangs on the value alone
    refine ⟨match o with | .cells _ => 0 | .row _ xs => xs.length, fun {d} hle hw => ?_⟩
    obtain ⟨ln, hl⟩ := OBR.ofBox hle h hv (b := w.heap.size) (ty := t) (by rw [hw]; exact hh)
    cases o with
    | cells l => exact hl
    | row e xs =>
      obtain ⟨h1, h2, h3⟩ := hl
      exact ⟨h1, rfl, h3⟩
  obtain ⟨k1, k2⟩ := H.new hb (p := (some w.heap.size, ln)) (o := o) (fun b hb' => by cases hb'; exact Nat.le_refl _) (fun hle => hln hle rfl)
  refine ⟨_, k1, k2, ?_⟩
  have un : upd m st.nx (some w.heap.size, ln) st.nx = (some w.heap.size, ln) := by unfold upd; rw [if_pos rfl]
  cases o with
  | cells l => exact ⟨Nat.lt_succ_self _, w.heap.size, by show (upd m st.nx _ st.nx).1 = _; rw [un], rfl⟩
  | row e xs => exact ⟨Nat.lt_succ_self _, w.heap.size, by show (upd m st.nx _ st.nx).1 = _; rw [un], rfl⟩

/-- The zero value of a type, as an abstract value. -/
def zeroAV (G : Pg) (t : TypeId) : Option AV :=
  match G.ty t with
  | some T => cond (zeroIs G.P t T) (some (.imm T T.dflt)) none
  | none => match G.P.info? t with
    | some i => match i.zero with
      | some v => cond (leafDesc (G.P.underlying t)) (some (.const v)) none
      | none => none
    | none => none

theorem zeroAV_sound (G : Pg) {t : TypeId} {a : AV} (h : zeroAV G t = some a) (c : Cx) (w : World) : ∃ v, (zeroValue t).run G.P w = .ok v w ∧ ∃ v', AVR c a [v'] ∧ v'.cells = v.cells := by
  unfold zeroAV at h
  cases hT : G.ty t with
  | some T =>
    rw [hT] at h
    simp only at h
    cases hz : zeroIs G.P t T with
    | false => rw [hz] at h; cases h
    | true =>
      rw [hz] at h
      simp only [cond_true, Option.some.injEq] at h
      subst h
      obtain ⟨v, hv, hr⟩ := zeroIs_sound hz c.O c.w
      obtain ⟨v2, hv2, _⟩ := zeroIs_sound hz c.O c.w (P := G.P)
      have hrun : ∀ w, (zeroValue t).run G.P w = .ok v w := fun w => by
        obtain ⟨i, hi, _⟩ := G.info hT
        simp only [zeroValue, typeInfo, Sem.run_bind, run_program, hi, Result.andThen, Sem.run_pure] at hv ⊢
        cases hzz : i.zero with
        | none => rw [hzz] at hv; simp at hv
        | some u => rw [hzz] at hv; simpa using hv
      refine ⟨v, hrun w, _, hr.valLeaf, ?_⟩
      have hval := G.isVal hT
      cases ha : T.isAgg with
      | true => simp [Value.cells]
      | false =>
        have h1 := Ty.isVal_size hval ha
        obtain ⟨u, hu⟩ := hr.leaf h1
        simp only [Bool.false_eq_true, if_false, hu, List.headD_cons]
        have hlf : T.isLeaf = true := by unfold Ty.isVal at hval; rw [ha, Bool.or_false] at hval; exact hval
        rw [hu] at hr
        have : u.cells = #[u] := by
          cases T <;> simp only [Ty.isLeaf, reduceCtorEq] at hlf <;> cases hr <;> rfl
        rw [this]
        apply Array.ext'
        rw [hu]
  | none =>
    rw [hT] at h
    simp only at h
    cases hi : G.P.info? t with
    | none => rw [hi] at h; cases h
    | some i =>
      rw [hi] at h
      simp only at h
      cases hz : i.zero with
      | none => rw [hz] at h; cases h
      | some v =>
        rw [hz] at h
        simp only at h
        cases hl : leafDesc (G.P.underlying t) with
        | false => rw [hl] at h; cases h
        | true =>
          rw [hl] at h
          simp only [cond_true, Option.some.injEq] at h
          subst h
          exact ⟨v, by simp [zeroValue, typeInfo, hi, hz], v, rfl, rfl⟩

theorem boxE_sound (G : Pg) {fr : Frm} {m : Nat → Option Nat × Nat} {st : St} {w : World} (H : HeapOk fr m st w) {a : AV} {cp : Comp Eff} (h : boxE st a = some cp) {u : cp.X} {v : Value} (hv : AVR (cx fr m st w) a [v]) (t : TypeId) :
    ∃ r w', (Instr.box t v).run G.P w = .ok r w' ∧ EffOk fr m st w (cp.out u) r w' := by
  unfold boxE at h
  cases hb : boxOf a with
  | none => rw [hb] at h; cases h
  | some o =>
    rw [hb] at h
    simp only [Option.some.injEq] at h
    subst h
    exact ⟨_, _, by simp only [Instr.box, Sem.run_bind, run_newVar, Result.andThen, Sem.run_pure], newVar_ok H hb hv t⟩

def allocE (G : Pg) (st : St) (t : TypeId) : Option (Comp Eff) :=
  match zeroAV G t with
  | some a => boxE st a
  | none => none

theorem allocE_sound (G : Pg) {fr : Frm} {m : Nat → Option Nat × Nat} {st : St} {w : World} (H : HeapOk fr m st w) {t : TypeId} {cp : Comp Eff} (h : allocE G st t = some cp) {u : cp.X} :
    ∃ r w', (Instr.alloc t true (.tuple #[])).run G.P w = .ok r w' ∧ EffOk fr m st w (cp.out u) r w' := by
  unfold allocE at h
  cases hz : zeroAV G t with
  | none => rw [hz] at h; cases h
  | some a =>
    rw [hz] at h
    simp only [boxE] at h
    obtain ⟨v, hv, v', hav, hc⟩ := zeroAV_sound G hz (cx fr m st w) w
    cases hb : boxOf a with
    | none => rw [hb] at h; cases h
    | some o =>
      rw [hb] at h
      simp only [Option.some.injEq] at h
      subst h
      have := newVar_ok H hb hav t
      rw [hc] at this
      exact ⟨_, _, by simp only [Instr.alloc, Sem.run_bind, hv, Result.andThen, run_newVar, Sem.run_pure], this⟩

end Go.Proofs.YtlkggeaibgaohaaGreatDoor.Sim
