/- Operations that turn nothing: the run of each, and what it gives. -/
import Derived.Test.YtlkggeaibgaohaaGreatDoorSimC
namespace Go.Proofs.YtlkggeaibgaohaaGreatDoor.Sim
open Go Go.RowKit

/-- A result that hangs on a partial computation of tree data. -/
structure Comp (α : Type) where
  X : Type
  dflt : X
  c : Option X
  out : X → α
def just {α : Type} (a : α) : Comp α := ⟨Unit, (), some (), fun _ => a⟩
def need {α : Type} (b : Bool) (a : α) : Comp α := ⟨Unit, (), cond b (some ()) none, fun _ => a⟩

/-- The operation's run gives a value at once, or by a call. -/
def Runs (P : Program) (o : Oper) (a : Act) (w : World) (R : Value → World → Prop) : Prop :=
  (∃ v w', (execOp a.eval o).run P w = .ok (.value v) w' ∧ R v w') ∨
  (∃ f args w', (execOp a.eval o).run P w = .ok (.enter f args) w' ∧ Calls P f args w' fun e w'' => ∃ v, e = .returned v ∧ R v w'')

theorem Runs.wp {P : Program} {o : Oper} {a : Act} {w : World} {R : Value → World → Prop} {next : Act → World → Prop} {Q : Exit → Act → World → Prop}
    (h : Runs P o a w R) (hn : ∀ v w', R v w' → next (a.put o.dst v) w') : o.wp P a w next Q := by
  unfold Oper.wp
  rcases h with ⟨v, w', hr, hR⟩ | ⟨f, args, w', hr, hc⟩
  · rw [hr]; exact hn v w' hR
  · rw [hr]
    refine hc.mono fun e w'' he => ?_
    obtain ⟨v, rfl, hR⟩ := he
    exact hn v w'' hR

theorem Runs.mono {P : Program} {o : Oper} {a : Act} {w : World} {R R' : Value → World → Prop} (h : Runs P o a w R) (hn : ∀ v w', R v w' → R' v w') : Runs P o a w R' := by
  rcases h with ⟨v, w', hr, hR⟩ | ⟨f, args, w', hr, hc⟩
  · exact .inl ⟨v, w', hr, hn _ _ hR⟩
  · exact .inr ⟨f, args, w', hr, hc.mono fun e w'' ⟨v, he, hR⟩ => ⟨v, he, hn _ _ hR⟩⟩

theorem Runs.of_run {P : Program} {o : Oper} {a : Act} {w w' : World} {v : Value} {R : Value → World → Prop} (hr : (execOp a.eval o).run P w = .ok (.value v) w') (hR : R v w') : Runs P o a w R :=
  .inl ⟨v, w', hr, hR⟩

/- Types -/

/-- Types of values: numbers, bools, texts, slices, and aggregates. -/
def Ty.isVal (t : Ty) : Bool := t.isLeaf || t.isAgg
def fieldsOk (ty : Nat → Option Ty) : List Field → Nat → Ty → Bool
  | [], _, .unit => true
  | [f], off, b => b.isVal && Nat.beq f.offset off && (match ty f.type with | some t => Ty.eqb t b | none => false)
  | f :: g :: fs, off, .pair a b => Nat.beq f.offset off && (match ty f.type with | some t => Ty.eqb t a | none => false) && fieldsOk ty (g :: fs) (off + a.size) b
  | _, _, _ => false

def undCheck (ty : Nat → Option Ty) : Ty → TypeDesc → Bool
  | .int k, .int l => Nat.beq (kindNo k) (kindNo l)
  | .bool, .bool => true
  | .str, .string => true
  | .slice e, .slice u => (match ty u with | some e' => Ty.eqb e' e | none => false)
  | .arr n e, .array l u => Nat.beq n l && (match ty u with | some e' => Ty.eqb e' e | none => false)
  | .struct b, .struct fs => fieldsOk ty fs.toList 0 b
  | .named r, .struct fs => fieldsOk ty fs.toList 0 (Ty.body r)
  | _, _ => false

def tyCheck (P : Program) (ty : Nat → Option Ty) (t : Nat) (T : Ty) : Bool :=
  (match P.info? t with | some i => Nat.beq i.size T.size && Nat.ble T.bytes i.bytes | none => false) &&
  (match P.underlying t with | some d => undCheck ty T d | none => false)

/-- What of a program the interpreter is handed: its types; what its package variables hold. -/
structure Pg where
  P : Program
  ty : Nat → Option Ty
  gl : Nat → Option (Σ t : Ty, t.den)
  tyOk : ∀ t T, ty t = some T → tyCheck P ty t T = true
  mixed : P.follows .mixedOrders = true

theorem Pg.info (G : Pg) {t : Nat} {T : Ty} (h : G.ty t = some T) : ∃ i, G.P.info? t = some i ∧ i.size = T.size ∧ T.bytes ≤ i.bytes := by
  have := G.tyOk t T h
  unfold tyCheck at this
  rw [Bool.and_eq_true] at this
  have h1 := this.1
  cases hi : G.P.info? t with
  | none => rw [hi] at h1; cases h1
  | some i =>
    rw [hi] at h1
    simp only [Bool.and_eq_true] at h1
    exact ⟨i, rfl, Nat.eq_of_beq_eq_true h1.1, Nat.le_of_ble_eq_true h1.2⟩

theorem Pg.und (G : Pg) {t : Nat} {T : Ty} (h : G.ty t = some T) : ∃ d, G.P.underlying t = some d ∧ undCheck G.ty T d = true := by
  have := G.tyOk t T h
  unfold tyCheck at this
  rw [Bool.and_eq_true] at this
  have h2 := this.2
  cases hd : G.P.underlying t with
  | none => rw [hd] at h2; cases h2
  | some d => rw [hd] at h2; exact ⟨d, rfl, h2⟩

theorem Pg.und_int (G : Pg) {t : Nat} {k : IntKind} (h : G.ty t = some (.int k)) : G.P.underlying t = some (.int k) := by
  obtain ⟨d, hd, hc⟩ := G.und h
  cases d <;> simp only [undCheck, Bool.false_eq_true] at hc
  rw [hd, kindNo_inj hc]
theorem Pg.und_bool (G : Pg) {t : Nat} (h : G.ty t = some .bool) : G.P.underlying t = some .bool := by
  obtain ⟨d, hd, hc⟩ := G.und h
  cases d <;> simp only [undCheck, Bool.false_eq_true] at hc
  exact hd
theorem Pg.und_str (G : Pg) {t : Nat} (h : G.ty t = some .str) : G.P.underlying t = some .string := by
  obtain ⟨d, hd, hc⟩ := G.und h
  cases d <;> simp only [undCheck, Bool.false_eq_true] at hc
  exact hd
theorem Pg.und_slice (G : Pg) {t : Nat} {e : Ty} (h : G.ty t = some (.slice e)) : ∃ u, G.P.underlying t = some (.slice u) ∧ G.ty u = some e := by
  obtain ⟨d, hd, hc⟩ := G.und h
  cases d <;> simp only [undCheck, Bool.false_eq_true] at hc
  rename_i u
  cases hu : G.ty u with
  | none => rw [hu] at hc; cases hc
  | some e' => rw [hu] at hc; exact ⟨u, hd, by rw [hu, Ty.eqb_eq hc]⟩
theorem Pg.und_arr (G : Pg) {t n : Nat} {e : Ty} (h : G.ty t = some (.arr n e)) : ∃ u, G.P.underlying t = some (.array n u) ∧ G.ty u = some e := by
  obtain ⟨d, hd, hc⟩ := G.und h
  cases d <;> simp only [undCheck, Bool.false_eq_true, Bool.and_eq_true] at hc
  rename_i l u
  obtain ⟨h1, h2⟩ := hc
  have := Nat.eq_of_beq_eq_true h1
  subst this
  cases hu : G.ty u with
  | none => rw [hu] at h2; cases h2
  | some e' => rw [hu] at h2; exact ⟨u, hd, by rw [hu, Ty.eqb_eq h2]⟩

/-- The fields of a struct type. -/
def Ty.fields : Ty → Option Ty
  | .struct b => some b
  | .named r => some (Ty.body r)
  | _ => none
theorem Pg.und_fields (G : Pg) {t : Nat} {T b : Ty} (h : G.ty t = some T) (hb : T.fields = some b) : ∃ fs, G.P.underlying t = some (.struct fs) ∧ fieldsOk G.ty fs.toList 0 b = true := by
  obtain ⟨d, hd, hc⟩ := G.und h
  cases T <;> simp only [Ty.fields, Option.some.injEq, reduceCtorEq] at hb
  all_goals
    subst hb
    cases d <;> simp only [undCheck, Bool.false_eq_true] at hc
    exact ⟨_, hd, hc⟩

theorem Pg.und_some (G : Pg) {t : Nat} {T : Ty} (h : G.ty t = some T) : ∃ d, G.P.underlying t = some d := by
  obtain ⟨d, hd, _⟩ := G.und h
  exact ⟨d, hd⟩

theorem Pg.run_isAgg (G : Pg) {t : Nat} {T : Ty} (h : G.ty t = some T) (w : World) : (isAgg t).run G.P w = .ok T.isAgg w := by
  obtain ⟨d, hd, hu⟩ := G.und h
  simp only [isAgg, Sem.run_bind, run_underlying hd, Result.andThen]
  cases T <;> cases d <;> simp only [undCheck, Bool.false_eq_true] at hu <;> rfl

theorem Pg.run_sizeOf (G : Pg) {t : Nat} {T : Ty} (h : G.ty t = some T) (w : World) : (sizeOf t).run G.P w = .ok T.size w := by
  obtain ⟨i, hi, hs, _⟩ := G.info h
  simp [sizeOf, typeInfo, hi, hs]

theorem Pg.run_loadVar (G : Pg) {t : Nat} {T : Ty} (h : G.ty t = some T) {w : World} {b off : Nat} {cs : List Value} (hs : cs.length = T.size)
    (hleaf : T.isAgg = false → T.size = 1) (hc : ∀ j, j < T.size → w.cell? ⟨b, off + j, none⟩ = cs[j]?) :
    (loadVar t ⟨b, off, none⟩).run G.P w = .ok (if T.isAgg then .agg cs.toArray else cs.headD undef) w := by
  have hadd : ∀ j, (⟨b, off, none⟩ : Addr).add j = ⟨b, off + j, none⟩ := fun j => by
    unfold Addr.add
    split
    · rename_i h0; subst h0; rfl
    · rfl
  simp only [loadVar, Sem.run_bind, G.run_isAgg h, Result.andThen]
  cases ha : T.isAgg with
  | true =>
    simp only [Sem.run_bind, G.run_sizeOf h, Result.andThen, if_true]
    rw [← hs, run_loadCells_list w _ cs (fun j v hj => by
      rw [hadd, hc j (by rw [← hs]; exact (List.getElem?_eq_some_iff.1 hj).1), hj])]
    rfl
  | false =>
    have h1 := hleaf ha
    have h0 := hc 0 (by omega)
    rw [h1] at hs
    match cs, hs with
    | [v], _ =>
      simp only [Nat.add_zero, List.getElem?_cons_zero] at h0
      simp [h0]

end Go.Proofs.YtlkggeaibgaohaaGreatDoor.Sim
