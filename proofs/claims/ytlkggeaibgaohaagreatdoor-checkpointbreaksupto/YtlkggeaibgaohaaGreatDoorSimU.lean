/- Shapes: the data of a state apart from its form; a state as one of a given form. -/
import Derived.Test.YtlkggeaibgaohaaGreatDoorSimT
namespace Go.Proofs.YtlkggeaibgaohaaGreatDoor.Sim
open Go Go.RowKit

/-- Tuples of data. -/
@[reducible] def denT : List Ty → Type
  | [] => Unit
  | t :: r => t.den × denT r

@[reducible] def tysA : AV → List Ty → List Ty
  | .imm t _, ts => t :: ts
  | .iptr t _, ts => t :: ts
  | .agg l, ts => tysA l ts
  | .tup l, ts => tysA l ts
  | .fn _ l, ts => tysA l ts
  | .cons h r, ts => tysA h (tysA r ts)
  | _, ts => ts
@[reducible] def tysH : List (Nat × OB) → List Ty → List Ty
  | [], ts => ts
  | (_, .cells l) :: r, ts => tysA l (tysH r ts)
  | (_, .row e _) :: r, ts => .slice e :: tysH r ts

/-- The form with data. -/
def fillA (hp : List (Nat × OB)) : (s : AV) → (ts : List Ty) → denT (tysA s ts) → AV × denT ts
  | .imm t _, _, x => (.imm t x.1, x.2)
  | .iptr t _, _, x => (.iptr t x.1, x.2)
  | .agg l, ts, x => (.agg (fillA hp l ts x).1, (fillA hp l ts x).2)
  | .tup l, ts, x => (.tup (fillA hp l ts x).1, (fillA hp l ts x).2)
  | .fn f l, ts, x => (.fn f (fillA hp l ts x).1, (fillA hp l ts x).2)
  | .cons h r, ts, x => (.cons (fillA hp h (tysA r ts) x).1 (fillA hp r ts (fillA hp h (tysA r ts) x).2).1, (fillA hp r ts (fillA hp h (tysA r ts) x).2).2)
  | .const v, _, x => (.const v, x)
  | .ptr i o, _, x => (.ptr i o, x)
  | .eptr i e k p, _, x => (.eptr i e k p, x)
  | .view i e _ _, _, x => match find hp i with
    | some (.row _ xs) => (.view i e 0 xs.length, x)
    | _ => (.view i e 0 0, x)
  | .aptr i e, _, x => (.aptr i e, x)
  | .nil, _, x => (.nil, x)
def fillH (hp : List (Nat × OB)) : (l : List (Nat × OB)) → (ts : List Ty) → denT (tysH l ts) → List (Nat × OB) × denT ts
  | [], _, x => ([], x)
  | (i, .cells l) :: r, ts, x => ((i, .cells (fillA hp l (tysH r ts) x).1) :: (fillH hp r ts (fillA hp l (tysH r ts) x).2).1, (fillH hp r ts (fillA hp l (tysH r ts) x).2).2)
  | (i, .row e _) :: r, ts, x => ((i, .row e x.1) :: (fillH hp r ts x.2).1, (fillH hp r ts x.2).2)

/-- A form of states: of a list of abstract values and of objects. -/
structure Shp where
  avs : AV
  heap : List (Nat × OB)
  nx : Nat
@[reducible] def Shp.X (S : Shp) : Type := denT (tysH S.heap (tysA S.avs []))
def Shp.heapOf (S : Shp) (x : S.X) : List (Nat × OB) := (fillH (fillH [] S.heap _ x).1 S.heap _ x).1
def Shp.avsOf (S : Shp) (x : S.X) : AV := (fillA (S.heapOf x) S.avs [] (fillH [] S.heap _ x).2).1

/- Taking a state apart -/

def constEq : Value → Value → Bool
  | .slice none 0 0, .slice none 0 0 => true
  | .pointer none, .pointer none => true
  | .tuple a, .tuple b => Nat.beq a.size 0 && Nat.beq b.size 0
  | _, _ => false
theorem constEq_eq {u v : Value} (h : constEq u v = true) : u = v := by
  unfold constEq at h
  split at h
  · rfl
  · rfl
  · rename_i a b
    rw [Bool.and_eq_true] at h
    rw [Array.eq_empty_of_size_eq_zero (Nat.eq_of_beq_eq_true h.1), Array.eq_empty_of_size_eq_zero (Nat.eq_of_beq_eq_true h.2)]
  · cases h

/-- Is j among the objects that are kept? -/
def inR (j : Nat) : List (Nat × Nat) → Bool
  | [] => false
  | (_, k) :: r => cond (Nat.beq j k) true (inR j r)
def injR : List (Nat × Nat) → Bool
  | [] => true
  | (_, j) :: r => cond (inR j r) false (injR r)
def bindId (ρ : List (Nat × Nat)) (i j : Nat) : Option (List (Nat × Nat)) :=
  match find ρ i with
  | some _ => some ρ
  | none => some ((i, j) :: ρ)
/-- Which objects stand for those of the form. -/
def mA : AV → AV → List (Nat × Nat) → Option (List (Nat × Nat))
  | .ptr i _, .ptr j _, ρ => bindId ρ i j
  | .aptr i _, .aptr j _, ρ => bindId ρ i j
  | .view i _ _ _, .view j _ _ _, ρ => bindId ρ i j
  | .agg l, .agg l', ρ => mA l l' ρ
  | .tup l, .tup l', ρ => mA l l' ρ
  | .fn _ l, .fn _ l', ρ => mA l l' ρ
  | .cons h r, .cons h' r', ρ => match mA h h' ρ with
    | some ρ' => mA r r' ρ'
    | none => none
  | _, _, ρ => some ρ
def mH (hp : List (Nat × OB)) : List (Nat × OB) → List (Nat × Nat) → Option (List (Nat × Nat))
  | [], ρ => some ρ
  | (i, o) :: r, ρ => match find ρ i with
    | none => none
    | some j => match o, find hp j with
      | .cells l, some (.cells l') => match mA l l' ρ with
        | some ρ' => mH hp r ρ'
        | none => none
      | _, _ => mH hp r ρ
/-- The objects that are not kept: what lies in them may be lent for good. -/
def lend (ρ : List (Nat × Nat)) : List (Nat × OB) → List (Nat × OB)
  | [] => []
  | (k, o) :: r => cond (inR k ρ) (lend ρ r) ((k, o) :: lend ρ r)

def bound (nx : Nat) (ρ : List (Nat × Nat)) (i j : Nat) : Bool :=
  match find ρ i with
  | some k => cond (Nat.blt i nx) (Nat.beq j k) false
  | none => false

/-- The data of what has the form. -/
def gA (nx : Nat) (ρ : List (Nat × Nat)) (hp : List (Nat × OB)) : (s a : AV) → (ts : List Ty) → denT ts → Option (denT (tysA s ts))
  | .imm t _, a, _, y => match a.get hp t with
    | some x => some (x, y)
    | none => none
  | .iptr t _, .iptr t' x, _, y => match Ty.cast t x with
    | some x => some (x, y)
    | none => none
  | .iptr t _, .ptr id 0, _, y => match find hp id with
    | some (.cells l) => cond (Nat.blt 0 t.size) (match mkCells hp 100 t l with
      | some (x, .nil) => some (x, y)
      | _ => none) none
    | _ => none
  | .agg l, .agg l', ts, y => gA nx ρ hp l l' ts y
  | .tup l, .tup l', ts, y => gA nx ρ hp l l' ts y
  | .fn f l, .fn f' l', ts, y => cond (Nat.beq f f') (gA nx ρ hp l l' ts y) none
  | .cons h r, .cons h' r', ts, y => match gA nx ρ hp r r' ts y with
    | some z => gA nx ρ hp h h' (tysA r ts) z
    | none => none
  | .const v, .const v', _, y => cond (constEq v v') (some y) none
  | .ptr i o, .ptr j o', _, y => cond (bound nx ρ i j && Nat.beq o o') (some y) none
  | .aptr i e, .aptr j e', _, y => cond (bound nx ρ i j && Ty.eqb e e') (some y) none
  | .view i e _ _, .view j e' lo _, _, y => cond (bound nx ρ i j && (Ty.eqb e e' && Nat.beq lo 0)) (some y) none
  | .nil, .nil, _, y => some y
  | _, _, _, _ => none
def gH (nx : Nat) (ρ : List (Nat × Nat)) (all hp : List (Nat × OB)) : (l : List (Nat × OB)) → (ts : List Ty) → denT ts → Option (denT (tysH l ts))
  | [], _, y => some y
  | (i, .cells l) :: r, ts, y => match gH nx ρ all hp r ts y with
    | none => none
    | some z => match find ρ i with
      | none => none
      | some j => match find all j with
        | some (.cells l') => cond (Nat.blt i nx) (gA nx ρ hp l l' (tysH r ts) z) none
        | _ => none
  | (i, .row e _) :: r, ts, y => match gH nx ρ all hp r ts y with
    | none => none
    | some z => match find ρ i with
      | none => none
      | some j => match find all j with
        | some (.row e' xs) => cond (Nat.blt i nx) (match Ty.cast (a := .slice e') (.slice e) xs with
          | some xs => some (xs, z)
          | none => none) none
        | _ => none

/-- The slices of whole rows are such. -/
def obA (sh all : List (Nat × OB)) : AV → AV → Bool
  | .view i _ _ _, .view j _ _ len => match find sh i, find all j with
    | some (.row _ _), some (.row _ xs) => Nat.beq len xs.length
    | _, _ => false
  | .agg l, .agg l' => obA sh all l l'
  | .tup l, .tup l' => obA sh all l l'
  | .fn _ l, .fn _ l' => obA sh all l l'
  | .cons h r, .cons h' r' => cond (obA sh all h h') (obA sh all r r') false
  | _, _ => true
def obH (ρ : List (Nat × Nat)) (sh all : List (Nat × OB)) : List (Nat × OB) → Bool
  | [] => true
  | (i, .cells l) :: r => match find ρ i with
    | none => false
    | some j => match find all j with
      | some (.cells l') => cond (obA sh all l l') (obH ρ sh all r) false
      | _ => false
  | (_, .row _ _) :: r => obH ρ sh all r

/-- The call's first objects stand for themselves. -/
def anch (base : Nat) : List (Nat × Nat) → Bool
  | [] => true
  | (i, j) :: r => cond (Nat.ble base i || Nat.beq i j) (anch base r) false
theorem anch_sound {base i j : Nat} : ∀ {ρ : List (Nat × Nat)}, anch base ρ = true → find ρ i = some j → i < base → i = j
  | (k, l) :: r, h, hf, hi => by
    simp only [anch] at h
    cases hc : (Nat.ble base k || Nat.beq k l) with
    | false => rw [hc] at h; cases h
    | true =>
      rw [hc] at h
      simp only [cond_true] at h
      rw [find_cons] at hf
      by_cases e : k = i
      · rw [if_pos e] at hf
        cases hf
        subst e
        rw [Bool.or_eq_true] at hc
        rcases hc with hc | hc
        · have := Nat.le_of_ble_eq_true hc; omega
        · exact Nat.eq_of_beq_eq_true hc
      · rw [if_neg e] at hf; exact anch_sound h hf hi

/-- The call's first objects, bound to themselves. -/
def idR (base : Nat) : List (Nat × OB) → List (Nat × Nat)
  | [] => []
  | (i, _) :: r => cond (Nat.blt i base) ((i, i) :: idR base r) (idR base r)
/-- A list of abstract values and objects, as of a given form; 'keepAll': what is not kept is not lent. -/
def capture (base : Nat) (keepAll : Bool) (hp : List (Nat × OB)) (S : Shp) (a : AV) : Option (List (Nat × Nat) × Bool × S.X) :=
  match mA S.avs a (idR base S.heap) with
  | none => none
  | some ρ0 => match mH hp S.heap ρ0 with
    | none => none
    | some ρ => cond (injR ρ && (anch base ρ && Nat.ble base S.nx)) (match gA S.nx ρ (cond keepAll [] (lend ρ hp)) S.avs a [] () with
      | none => none
      | some y => match gH S.nx ρ hp (cond keepAll [] (lend ρ hp)) S.heap _ y with
        | none => none
        | some x => some (ρ, cond (obA S.heap hp S.avs a) (obH ρ S.heap hp S.heap) false, x)) none

theorem inR_of_find {i j : Nat} : ∀ {ρ : List (Nat × Nat)}, find ρ i = some j → inR j ρ = true
  | (k, l) :: r, h => by
    rw [find_cons] at h
    simp only [inR]
    by_cases e : k = i
    · rw [if_pos e] at h; cases h; simp
    · rw [if_neg e] at h
      cases hb : Nat.beq j l with
      | true => rfl
      | false => exact inR_of_find h
theorem injR_sound {i i' j : Nat} : ∀ {ρ : List (Nat × Nat)}, injR ρ = true → find ρ i = some j → find ρ i' = some j → i = i'
  | (k, l) :: r, hi, h, h' => by
    simp only [injR] at hi
    cases hr : inR l r with
    | true => rw [hr] at hi; cases hi
    | false =>
      rw [hr] at hi
      simp only [cond_false] at hi
      rw [find_cons] at h h'
      by_cases e : k = i
      · rw [if_pos e] at h
        by_cases e' : k = i'
        · exact e.symm.trans e'
        · rw [if_neg e'] at h'
          cases h
          rw [inR_of_find h'] at hr; cases hr
      · rw [if_neg e] at h
        by_cases e' : k = i'
        · rw [if_pos e'] at h'
          cases h'
          rw [inR_of_find h] at hr; cases hr
        · rw [if_neg e'] at h'
          exact injR_sound hi h h'
theorem find_lend {ρ : List (Nat × Nat)} {k : Nat} {o : OB} : ∀ {l : List (Nat × OB)}, find (lend ρ l) k = some o → inR k ρ = false ∧ find l k = some o
  | (j, o') :: r, h => by
    simp only [lend] at h
    cases hj : inR j ρ with
    | true =>
      rw [hj] at h
      simp only [cond_true] at h
      obtain ⟨h1, h2⟩ := find_lend h
      refine ⟨h1, ?_⟩
      rw [find_cons, if_neg]
      · exact h2
      · intro e; subst e; rw [hj] at h1; cases h1
    | false =>
      rw [hj] at h
      simp only [cond_false] at h
      rw [find_cons] at h ⊢
      by_cases e : j = k
      · rw [if_pos e] at h ⊢; subst e; exact ⟨hj, h⟩
      · rw [if_neg e] at h ⊢; exact find_lend h

/-- The objects' places, where they have other numbers. -/
def renM (base : Nat) (ρ : List (Nat × Nat)) (m : Nat → Option Nat × Nat) : Nat → Option Nat × Nat := fun i => if i < base then m i else match find ρ i with
  | some j => m j
  | none => (none, 0)
theorem renM_eq {base : Nat} {ρ : List (Nat × Nat)} (h : anch base ρ = true) (m : Nat → Option Nat × Nat) {i j : Nat} (hf : find ρ i = some j) : renM base ρ m i = m j := by
  unfold renM
  by_cases hi : i < base
  · rw [if_pos hi, anch_sound h hf hi]
  · rw [if_neg hi, hf]

theorem bound_spec {nx : Nat} {ρ : List (Nat × Nat)} {i j : Nat} (h : bound nx ρ i j = true) : i < nx ∧ find ρ i = some j := by
  unfold bound at h
  cases hf : find ρ i with
  | none => rw [hf] at h; cases h
  | some k =>
    rw [hf] at h
    simp only at h
    cases hb : Nat.blt i nx with
    | false => rw [hb] at h; cases h
    | true =>
      rw [hb] at h
      have := Nat.eq_of_beq_eq_true h
      subst this
      exact ⟨Nat.lt_of_succ_le (Nat.le_of_ble_eq_true hb), rfl⟩

end Go.Proofs.YtlkggeaibgaohaaGreatDoor.Sim
