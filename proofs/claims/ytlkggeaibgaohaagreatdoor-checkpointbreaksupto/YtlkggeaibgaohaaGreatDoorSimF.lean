/- Operations that read memory, and addresses. -/
import Derived.Test.YtlkggeaibgaohaaGreatDoorSimE
namespace Go.Proofs.YtlkggeaibgaohaaGreatDoor.Sim
open Go Go.RowKit

theorem drop_take_left (l r : List Value) (d n : Nat) (h : d + n ≤ l.length) : ((l ++ r).drop d).take n = (l.drop d).take n := by
  rw [List.drop_append_of_le_length (by omega), List.take_append_of_le_length (by simp only [List.length_drop]; omega)]

theorem drop_add_append (l r : List Value) (d : Nat) : (l ++ r).drop (l.length + d) = r.drop d := by
  rw [← List.drop_drop, List.drop_left]

/-- The part of a datum lies in the part of its cells. -/
theorem Rep.part {O : Nat → Prop} {w : World} : ∀ {t : Ty} {cs : List Value} {x : t.den} {p : List Stp} {s : Ty} {y : s.den}, Rep O w t cs x → Ty.get t x p = some ⟨s, y⟩ →
    ∃ d, Ty.sub t p = some (d, s) ∧ d + s.size ≤ t.size ∧ Rep O w s ((cs.drop d).take s.size) y := by
  have here : ∀ {t : Ty} {cs : List Value} {x : t.den} {s : Ty} {y : s.den}, Rep O w t cs x → (some ⟨t, x⟩ : Option (Σ s : Ty, s.den)) = some ⟨s, y⟩ →
      ∃ d, (some (0, t) : Option (Nat × Ty)) = some (d, s) ∧ d + s.size ≤ t.size ∧ Rep O w s ((cs.drop d).take s.size) y := by
    intro t cs x s y hr hg
    simp only [Option.some.injEq, Sigma.mk.injEq] at hg
    obtain ⟨rfl, hg⟩ := hg
    have := eq_of_heq hg
    subst this
    refine ⟨0, rfl, by omega, ?_⟩
    have hl := hr.length
    rw [List.drop_zero, List.take_of_length_le (by omega)]
    exact hr
  intro t
  induction t with
  | pair a b iha ihb =>
    intro cs x p s y hr hg
    cases p with
    | nil => exact here hr (by simpa only [Ty.get] using hg)
    | cons c p =>
      cases hr with
      | pair r1 r2 =>
        have l1 := r1.length
        cases c with
        | fst =>
          obtain ⟨d, h1, h2, h3⟩ := iha r1 (by simpa only [Ty.get] using hg)
          refine ⟨d, by simpa only [Ty.sub] using h1, by simp only [Ty.size]; omega, ?_⟩
          rw [drop_take_left _ _ _ _ (by omega)]
          exact h3
        | snd =>
          obtain ⟨d, h1, h2, h3⟩ := ihb r2 (by simpa only [Ty.get] using hg)
          refine ⟨a.size + d, by simp only [Ty.sub, h1, Option.map_some], by simp only [Ty.size]; omega, ?_⟩
          rw [← l1, drop_add_append]
          exact h3
        | fld => simp [Ty.get] at hg
  | struct b ih =>
    intro cs x p s y hr hg
    cases p with
    | nil => exact here hr (by simpa only [Ty.get] using hg)
    | cons c p =>
      cases hr with
      | struct hr =>
        cases c with
        | fld =>
          obtain ⟨d, h1, h2, h3⟩ := ih hr (by simpa only [Ty.get] using hg)
          exact ⟨d, by simpa only [Ty.sub] using h1, by simpa only [Ty.size] using h2, h3⟩
        | fst => simp [Ty.get] at hg
        | snd => simp [Ty.get] at hg
  | _ =>
    intro cs x p s y hr hg
    cases p with
    | nil => exact here hr (by simpa only [Ty.get] using hg)
    | cons c p => simp [Ty.get] at hg

theorem Ty.get_of_sub : ∀ {t : Ty} {p : List Stp} {d : Nat} {s : Ty}, Ty.sub t p = some (d, s) → ∀ x : t.den, ∃ y, Ty.get t x p = some ⟨s, y⟩ := by
  have here : ∀ {t : Ty} {d : Nat} {s : Ty}, (some (0, t) : Option (Nat × Ty)) = some (d, s) → ∀ x : t.den, ∃ y, (some ⟨t, x⟩ : Option (Σ s : Ty, s.den)) = some ⟨s, y⟩ := by
    intro t d s h x
    simp only [Option.some.injEq, Prod.mk.injEq] at h
    obtain ⟨_, rfl⟩ := h
    exact ⟨x, rfl⟩
  intro t
  induction t with
  | pair a b iha ihb =>
    intro p d s h x
    cases p with
    | nil => simp only [Ty.get]; exact here (by simpa only [Ty.sub] using h) x
    | cons c p =>
      cases c with
      | fst => simp only [Ty.get]; exact iha (by simpa only [Ty.sub] using h) x.1
      | snd =>
        simp only [Ty.sub] at h
        cases hb : Ty.sub b p with
        | none => rw [hb] at h; cases h
        | some q =>
          rw [hb] at h
          simp only [Option.map_some, Option.some.injEq, Prod.mk.injEq] at h
          obtain ⟨_, rfl⟩ := h
          simp only [Ty.get]
          exact ihb (d := q.1) hb x.2
      | fld => simp [Ty.sub] at h
  | struct b ih =>
    intro p d s h x
    cases p with
    | nil => simp only [Ty.get]; exact here (by simpa only [Ty.sub] using h) x
    | cons c p =>
      cases c with
      | fld => simp only [Ty.get]; exact ih (by simpa only [Ty.sub] using h) x
      | fst => simp [Ty.sub] at h
      | snd => simp [Ty.sub] at h
  | _ =>
    intro p d s h x
    cases p with
    | nil => simp only [Ty.get]; exact here (by simpa only [Ty.sub] using h) x
    | cons c p => simp [Ty.sub] at h

/-- Field k of a struct's datum. -/
def fieldOf : (T : Ty) → T.den → Nat → Option (Σ s : Ty, s.den)
  | .struct b, x, k => match fieldPath b k with
    | some p => Ty.get b x p
    | none => none
  | .named r, x, k => match fieldPath (Ty.body r) k with
    | some p => Ty.get (Ty.body r) (unroll r x) p
    | none => none
  | _, _, _ => none
/-- Where field k of a struct lies in it, and its type. -/
def fieldSub (T : Ty) (k : Nat) : Option (Nat × Ty) :=
  match T.fields with
  | some b => match fieldPath b k with
    | some p => Ty.sub b p
    | none => none
  | none => none

theorem Rep.fieldsOf {O : Nat → Prop} {w : World} {T b : Ty} {cs : List Value} {x : T.den} (h : Rep O w T cs x) (hb : T.fields = some b) : ∃ y : b.den, Rep O w b cs y := by
  cases T <;> simp only [Ty.fields, Option.some.injEq, reduceCtorEq] at hb
  · subst hb; cases h with | struct h => exact ⟨_, h⟩
  · subst hb; cases h with | named h => exact ⟨_, h⟩

theorem fieldOf_sound {O : Nat → Prop} {w : World} {T : Ty} {cs : List Value} {x : T.den} {k : Nat} {s : Ty} {y : s.den} (h : Rep O w T cs x) (hf : fieldOf T x k = some ⟨s, y⟩) :
    ∃ d, fieldSub T k = some (d, s) ∧ d + s.size ≤ T.size ∧ Rep O w s ((cs.drop d).take s.size) y := by
  cases T <;> simp only [fieldOf, reduceCtorEq] at hf
  · rename_i b
    cases hp : fieldPath b k with
    | none => rw [hp] at hf; cases hf
    | some p =>
      rw [hp] at hf
      cases h with
      | struct h =>
        obtain ⟨d, h1, h2, h3⟩ := Rep.part h hf
        exact ⟨d, by simp only [fieldSub, Ty.fields, hp]; exact h1, h2, h3⟩
  · rename_i r
    cases hp : fieldPath (Ty.body r) k with
    | none => rw [hp] at hf; cases hf
    | some p =>
      rw [hp] at hf
      cases h with
      | named h =>
        obtain ⟨d, h1, h2, h3⟩ := Rep.part h hf
        exact ⟨d, by simp only [fieldSub, Ty.fields, hp]; exact h1, by rw [← Ty.size_body]; exact h2, h3⟩

theorem fieldsOk_sub {ty : Nat → Option Ty} : ∀ {b : Ty} {fs : List Field} {off k d : Nat} {p : List Stp} {s : Ty}, fieldsOk ty fs off b = true → fieldPath b k = some p → Ty.sub b p = some (d, s) →
    ∃ f, fs[k]? = some f ∧ f.offset = off + d ∧ ty f.type = some s := by
  have eqOf : ∀ {o : Option Ty} {t : Ty}, (match o with | some u => Ty.eqb u t | none => false) = true → o = some t := by
    intro o t h
    cases o with
    | none => cases h
    | some u => rw [Ty.eqb_eq h]
  have single : ∀ {b : Ty} {fs : List Field} {off k d : Nat} {p : List Stp} {s : Ty}, b.isPair = false → fieldsOk ty fs off b = true → fieldPath b k = some p → Ty.sub b p = some (d, s) →
      ∃ f, fs[k]? = some f ∧ f.offset = off + d ∧ ty f.type = some s := by
    intro b fs off k d p s hb h hp hs
    have hk : k = 0 ∧ p = [] := by
      cases b <;> simp only [Ty.isPair, reduceCtorEq] at hb <;> cases k <;> simp only [fieldPath, Option.some.injEq, reduceCtorEq] at hp <;> exact ⟨rfl, hp.symm⟩
    obtain ⟨rfl, rfl⟩ := hk
    have hs' : some (0, b) = some (d, s) := by rw [← hs]; cases b <;> rfl
    simp only [Option.some.injEq, Prod.mk.injEq] at hs'
    obtain ⟨rfl, rfl⟩ := hs'
    match fs, h with
    | [], h => cases b <;> simp [fieldsOk] at h; simp [fieldPath] at hp
    | [f], h =>
      simp only [fieldsOk, Bool.and_eq_true] at h
      exact ⟨f, rfl, by rw [Nat.eq_of_beq_eq_true h.1.2]; rfl, eqOf h.2⟩
    | f :: g :: fs, h => cases b <;> simp [fieldsOk] at h; simp [Ty.isPair] at hb
  intro b
  induction b with
  | pair a c _ ihc =>
    intro fs off k d p s h hp hs
    match fs, h with
    | [], h => simp [fieldsOk] at h
    | [f], h => simp [fieldsOk, Ty.isVal, Ty.isLeaf, Ty.isAgg] at h
    | f :: g :: fs, h =>
      simp only [fieldsOk, Bool.and_eq_true] at h
      obtain ⟨⟨h1, h2⟩, h3⟩ := h
      cases k with
      | zero =>
        simp only [fieldPath, Option.some.injEq] at hp
        subst hp
        have hs' : some (0, a) = some (d, s) := by rw [← hs]; simp only [Ty.sub]
        simp only [Option.some.injEq, Prod.mk.injEq] at hs'
        obtain ⟨rfl, rfl⟩ := hs'
        exact ⟨f, rfl, by rw [Nat.eq_of_beq_eq_true h1]; rfl, eqOf h2⟩
      | succ k =>
        simp only [fieldPath] at hp
        cases hq : fieldPath c k with
        | none => rw [hq] at hp; cases hp
        | some q =>
          rw [hq] at hp
          simp only [Option.map_some, Option.some.injEq] at hp
          subst hp
          simp only [Ty.sub] at hs
          cases hr : Ty.sub c q with
          | none => rw [hr] at hs; cases hs
          | some r =>
            rw [hr] at hs
            simp only [Option.map_some, Option.some.injEq, Prod.mk.injEq] at hs
            obtain ⟨rfl, rfl⟩ := hs
            obtain ⟨f', e1, e2, e3⟩ := ihc h3 hq hr
            exact ⟨f', by simpa using e1, by omega, e3⟩
  | _ => intro fs off k d p s h hp hs; exact single rfl h hp hs

/-- What the program's table says of a field. -/
theorem Pg.fieldAt (G : Pg) {t : Nat} {T : Ty} (h : G.ty t = some T) {k d : Nat} {s : Ty} (hf : fieldSub T k = some (d, s)) :
    ∃ fs f, G.P.underlying t = some (.struct fs) ∧ fs[k]? = some f ∧ f.offset = d ∧ G.ty f.type = some s := by
  unfold fieldSub at hf
  cases hb : T.fields with
  | none => rw [hb] at hf; cases hf
  | some b =>
    rw [hb] at hf
    simp only at hf
    cases hp : fieldPath b k with
    | none => rw [hp] at hf; cases hf
    | some p =>
      rw [hp] at hf
      obtain ⟨fs, h1, h2⟩ := G.und_fields h hb
      obtain ⟨f, e1, e2, e3⟩ := fieldsOk_sub h2 hp hf
      exact ⟨fs, f, h1, by simpa using e1, by omega, e3⟩

/-- The cells of an object from a number on; the first ones of them. -/
def AV.drop : Nat → AV → Option AV
  | 0, l => some l
  | n + 1, .cons _ t => AV.drop n t
  | _ + 1, _ => none
def AV.take : Nat → AV → Option AV
  | 0, _ => some .nil
  | n + 1, .cons h t => match AV.take n t with
    | some r => some (.cons h r)
    | none => none
  | _ + 1, _ => none
def AV.nth (n : Nat) (l : AV) : Option AV := match AV.drop n l with
  | some (.cons h _) => some h
  | _ => none

theorem AV.drop_sound {c : Cx} : ∀ {n : Nat} {l r : AV} {vs : List Value}, AV.drop n l = some r → AVR c l vs → AVR c r (vs.drop n) ∧ n ≤ vs.length
  | 0, l, r, vs, h, hv => by simp only [AV.drop, Option.some.injEq] at h; subst h; exact ⟨hv, Nat.zero_le _⟩
  | n + 1, l, r, vs, h, hv => by
    cases l <;> simp only [AV.drop, reduceCtorEq] at h
    match vs, hv with
    | v :: vs, ⟨_, h2⟩ =>
      obtain ⟨e1, e2⟩ := AV.drop_sound h h2
      exact ⟨e1, by simp only [List.length_cons]; omega⟩
theorem AV.take_sound {c : Cx} : ∀ {n : Nat} {l r : AV} {vs : List Value}, AV.take n l = some r → AVR c l vs → AVR c r (vs.take n) ∧ n ≤ vs.length
  | 0, l, r, vs, h, hv => by simp only [AV.take, Option.some.injEq] at h; subst h; exact ⟨trivial, Nat.zero_le _⟩
  | n + 1, l, r, vs, h, hv => by
    cases l <;> simp only [AV.take, reduceCtorEq] at h
    rename_i a b
    match vs, hv with
    | v :: vs, ⟨h1, h2⟩ =>
      cases hq : AV.take n b with
      | none => rw [hq] at h; cases h
      | some q =>
        rw [hq] at h
        simp only [Option.some.injEq] at h
        subst h
        obtain ⟨e1, e2⟩ := AV.take_sound hq h2
        exact ⟨⟨h1, e1⟩, by simp only [List.length_cons]; omega⟩
theorem AV.nth_sound {c : Cx} {n : Nat} {l a : AV} {vs : List Value} (h : AV.nth n l = some a) (hv : AVR c l vs) : ∃ v, vs[n]? = some v ∧ AVR c a [v] := by
  unfold AV.nth at h
  cases hd : AV.drop n l with
  | none => rw [hd] at h; cases h
  | some r =>
    rw [hd] at h
    cases r <;> simp only [Option.some.injEq, reduceCtorEq] at h
    subst h
    obtain ⟨h1, _⟩ := AV.drop_sound hd hv
    cases hq : vs.drop n with
    | nil => rw [hq] at h1; cases h1
    | cons v r =>
      rw [hq] at h1
      refine ⟨v, ?_, h1.1⟩
      have : (vs.drop n)[0]? = some v := by rw [hq]; rfl
      simpa [List.getElem?_drop] using this

end Go.Proofs.YtlkggeaibgaohaaGreatDoor.Sim
