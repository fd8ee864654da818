/- What was taken apart and put together again fits. -/
import Derived.Test.YtlkggeaibgaohaaGreatDoorSimU
namespace Go.Proofs.YtlkggeaibgaohaaGreatDoor.Sim
open Go Go.RowKit

theorem gA_sound {c d : Cx} {nx : Nat} {ρ : List (Nat × Nat)} {lh sh all hp' : List (Nat × OB)} (hL : Lends c lh d.O) (hnx : d.nx = nx) (hm : ∀ i j, find ρ i = some j → d.m i = c.m j) (hw : d.w = c.w)
    (hrow : ∀ i j e e' ys xs, find ρ i = some j → find sh i = some (.row e' ys) → find all j = some (.row e xs) → find hp' i = some (.row e xs)) :
    ∀ {s a : AV} {ts : List Ty} {y : denT ts} {z : denT (tysA s ts)}, gA nx ρ lh s a ts y = some z → obA sh all s a = true →
      (fillA hp' s ts z).2 = y ∧ ∀ vs, AVR c a vs → AVR d (fillA hp' s ts z).1 vs := by
  intro s
  induction s with
  | imm t x0 =>
    intro a ts y z h hob; clear hob
    have h' : (match a.get lh t with | some x => some (x, y) | none => none) = some z := by cases a <;> exact h
    cases hg : a.get lh t with
    | none => rw [hg] at h'; cases h'
    | some x =>
      rw [hg] at h'
      simp only [Option.some.injEq] at h'
      subst h'
      refine ⟨rfl, fun vs hv => ?_⟩
      cases vs with
      | nil =>
        cases a <;> first | exact hv.elim | skip
        simp [AV.get, leafGet] at hg
      | cons v vs =>
        cases vs with
        | nil =>
          have := AV.get_sound hL hg hv
          show ValRep d.O d.w t v x
          rw [hw]
          exact this
        | cons u us =>
          cases a <;> first | exact hv.elim | skip
          simp [AV.get, leafGet] at hg
  | iptr t x0 =>
    intro a ts y z h hob; clear hob
    cases a <;> try (cases h; done)
    case iptr t' x =>
      simp only [gA] at h
      cases hc : Ty.cast t x with
      | none => rw [hc] at h; cases h
      | some x' =>
        rw [hc] at h
        simp only [Option.some.injEq] at h
        subst h
        obtain ⟨e, rfl⟩ := Ty.cast_some hc
        subst e
        refine ⟨rfl, fun vs hv => ?_⟩
        match vs, hv with
        | [v], ⟨b, off, cs, hv, hO, hr, hs, hcc⟩ =>
          exact ⟨b, off, cs, hv, fun k => hO (hL.sub b k), by rw [hw]; exact hr.move (Moves.sub _ hL.sub), hs, fun j hj => by rw [hw]; exact hcc j hj⟩
    case ptr id off =>
      cases off with
      | succ n => cases h
      | zero =>
        simp only [gA] at h
        cases hf : find lh id with
        | none => rw [hf] at h; cases h
        | some o =>
          rw [hf] at h
          cases o with
          | row _ _ => cases h
          | cells l =>
            simp only at h
            cases hb : Nat.blt 0 t.size with
            | false => rw [hb] at h; cases h
            | true =>
              rw [hb] at h
              simp only [cond_true] at h
              cases hk : mkCells lh 100 t l with
              | none => rw [hk] at h; cases h
              | some p =>
                obtain ⟨x, r⟩ := p
                rw [hk] at h
                cases r <;> try (cases h; done)
                simp only [Option.some.injEq] at h
                subst h
                refine ⟨rfl, fun vs hv => ?_⟩
                match vs, hv with
                | [v], ⟨hid, b, hbm, hv⟩ =>
                  obtain ⟨b', arr, ty, hb', hh, hl⟩ := hL.obj id _ hf
                  have e0 : some b = some b' := hbm.symm.trans hb'
                  cases e0
                  obtain ⟨cs, ds, e1, hr, hd⟩ := mkCells_sound hL 100 hk hl
                  match ds, hd with
                  | [], _ =>
                    rw [List.append_nil] at e1
                    refine ⟨b, 0, cs, hv, hL.out id _ b hf hbm, by rw [hw]; exact hr, Nat.lt_of_succ_le (Nat.le_of_ble_eq_true hb), fun j hj => ?_⟩
                    rw [hw, cell_of_arr hh, Nat.zero_add, ← Array.getElem?_toList, e1]
  | const v =>
    intro a ts y z h hob; clear hob
    cases a <;> try (cases h; done)
    rename_i v'
    simp only [gA] at h
    cases hc : constEq v v' with
    | false => rw [hc] at h; cases h
    | true =>
      rw [hc] at h
      simp only [cond_true, Option.some.injEq] at h
      subst h
      have := constEq_eq hc
      subst this
      refine ⟨rfl, fun vs hv => ?_⟩
      match vs, hv with
      | [u], hv => exact hv
  | ptr i o =>
    intro a ts y z h hob; clear hob
    cases a <;> try (cases h; done)
    rename_i j o'
    simp only [gA] at h
    cases hc : (bound nx ρ i j && Nat.beq o o') with
    | false => rw [hc] at h; cases h
    | true =>
      rw [hc] at h
      simp only [cond_true, Option.some.injEq] at h
      subst h
      rw [Bool.and_eq_true] at hc
      have := Nat.eq_of_beq_eq_true hc.2
      subst this
      obtain ⟨b1, b2⟩ := bound_spec hc.1
      refine ⟨rfl, fun vs hv => ?_⟩
      match vs, hv with
      | [u], ⟨hid, b, hb, hv⟩ => exact ⟨by rw [hnx]; exact b1, b, by rw [hm i j b2]; exact hb, hv⟩
  | eptr i e k p => intro a ts y z h hob; clear hob; cases a <;> cases h
  | view i e lo0 len0 =>
    intro a ts y z h ho
    cases a <;> try (cases h; done)
    rename_i j e' lo len
    simp only [gA] at h
    cases hc : (bound nx ρ i j && (Ty.eqb e e' && Nat.beq lo 0)) with
    | false => rw [hc] at h; cases h
    | true =>
      rw [hc] at h
      simp only [cond_true, Option.some.injEq] at h
      rw [Bool.and_eq_true, Bool.and_eq_true] at hc
      have q1 := Ty.eqb_eq hc.2.1
      have q2 := Nat.eq_of_beq_eq_true hc.2.2
      subst q1; subst q2
      obtain ⟨b1, b2⟩ := bound_spec hc.1
      simp only [obA] at ho
      cases h1 : find sh i with
      | none => rw [h1] at ho; cases ho
      | some os =>
        rw [h1] at ho
        cases os with
        | cells _ => cases ho
        | row e1 ys =>
          cases h2 : find all j with
          | none => rw [h2] at ho; cases ho
          | some oa =>
            rw [h2] at ho
            cases oa with
            | cells _ => cases ho
            | row e2 xs =>
              simp only at ho
              have hlen := Nat.eq_of_beq_eq_true ho
              have h3 := hrow i j e2 e1 ys xs b2 h1 h2
              have hfill : fillA hp' (.view i e lo0 len0) ts z = (.view i e 0 xs.length, z) := by
                simp only [fillA, h3]
              rw [hfill]
              refine ⟨h.symm, fun vs hv => ?_⟩
              match vs, hv with
              | [u], ⟨hid, hln, hsz, hor⟩ =>
                refine ⟨by rw [hnx]; exact b1, by rw [hm i j b2]; rw [← hlen]; exact hln, hsz, ?_⟩
                rcases hor with ⟨k1, k2, k3, k4⟩ | ⟨b, cap, ty, n, base, k1, k2, k3, k4, k5, k6, k7⟩
                · exact .inl ⟨by rw [hm i j b2]; exact k1, k2, rfl, by rw [← hlen]; exact k4⟩
                · exact .inr ⟨b, cap, ty, n, base, by rw [hm i j b2]; exact k1, by rw [← hlen]; exact k2, by rw [← hlen]; exact k3, k4, by rw [hw]; exact k5, k6, k7⟩
  | aptr i e =>
    intro a ts y z h hob; clear hob
    cases a <;> try (cases h; done)
    rename_i j e'
    simp only [gA] at h
    cases hc : (bound nx ρ i j && Ty.eqb e e') with
    | false => rw [hc] at h; cases h
    | true =>
      rw [hc] at h
      simp only [cond_true, Option.some.injEq] at h
      subst h
      rw [Bool.and_eq_true] at hc
      obtain ⟨b1, b2⟩ := bound_spec hc.1
      refine ⟨rfl, fun vs hv => ?_⟩
      match vs, hv with
      | [u], ⟨hid, b, hb, hv⟩ => exact ⟨by rw [hnx]; exact b1, b, by rw [hm i j b2]; exact hb, hv⟩
  | agg l ih =>
    intro a ts y z h ho
    cases a <;> try (cases h; done)
    obtain ⟨h1, h2⟩ := ih (by simpa only [gA] using h) (by simpa only [obA] using ho)
    refine ⟨h1, fun vs hv => ?_⟩
    match vs, hv with
    | [u], ⟨cs, hv, hc⟩ => exact ⟨cs, hv, h2 _ hc⟩
  | tup l ih =>
    intro a ts y z h ho
    cases a <;> try (cases h; done)
    obtain ⟨h1, h2⟩ := ih (by simpa only [gA] using h) (by simpa only [obA] using ho)
    refine ⟨h1, fun vs hv => ?_⟩
    match vs, hv with
    | [u], ⟨cs, hv, hc⟩ => exact ⟨cs, hv, h2 _ hc⟩
  | fn f l ih =>
    intro a ts y z h ho
    cases a <;> try (cases h; done)
    rename_i f' l'
    simp only [gA] at h
    cases hf : Nat.beq f f' with
    | false => rw [hf] at h; cases h
    | true =>
      rw [hf] at h
      have := Nat.eq_of_beq_eq_true hf
      subst this
      obtain ⟨h1, h2⟩ := ih h (by simpa only [obA] using ho)
      refine ⟨h1, fun vs hv => ?_⟩
      match vs, hv with
      | [u], ⟨cs, hv, hc⟩ => exact ⟨cs, hv, h2 _ hc⟩
  | nil =>
    intro a ts y z h hob; clear hob
    cases a <;> try (cases h; done)
    simp only [gA, Option.some.injEq] at h
    subst h
    exact ⟨rfl, fun vs hv => by match vs, hv with | [], _ => trivial⟩
  | cons s1 s2 ih1 ih2 =>
    intro a ts y z h ho
    cases a <;> try (cases h; done)
    rename_i a1 a2
    simp only [gA] at h
    simp only [obA] at ho
    cases ho1 : obA sh all s1 a1 with
    | false => rw [ho1] at ho; cases ho
    | true =>
      rw [ho1] at ho
      simp only [cond_true] at ho
      cases h1 : gA nx ρ lh s2 a2 ts y with
      | none => rw [h1] at h; cases h
      | some z1 =>
        rw [h1] at h
        simp only at h
        obtain ⟨k1, k2⟩ := ih1 h ho1
        obtain ⟨l1, l2⟩ := ih2 h1 ho
        refine ⟨?_, fun vs hv => ?_⟩
        · show (fillA hp' s2 ts (fillA hp' s1 (tysA s2 ts) z).2).2 = y
          rw [k1]; exact l1
        · match vs, hv with
          | v :: vs, ⟨hv1, hv2⟩ =>
            refine ⟨k2 _ hv1, ?_⟩
            show AVR d (fillA hp' s2 ts (fillA hp' s1 (tysA s2 ts) z).2).1 vs
            rw [k1]; exact l2 _ hv2

/-- The rows of a filled heap. -/
theorem fillH_row {nx : Nat} {ρ : List (Nat × Nat)} {lh all hp' : List (Nat × OB)} (hfill : ∀ {s a : AV} {ts : List Ty} {y : denT ts} {z : denT (tysA s ts)}, gA nx ρ lh s a ts y = some z → (fillA hp' s ts z).2 = y) :
    ∀ {l : List (Nat × OB)} {ts : List Ty} {y : denT ts} {x : denT (tysH l ts)}, gH nx ρ all lh l ts y = some x →
      (fillH hp' l ts x).2 = y ∧ ∀ i j e e' ys xs, find ρ i = some j → find l i = some (.row e' ys) → find all j = some (.row e xs) → find (fillH hp' l ts x).1 i = some (.row e xs)
  | [], ts, y, x, h => by
    simp only [gH, Option.some.injEq] at h
    subst h
    exact ⟨rfl, fun i j e e' ys xs _ h _ => by simp [find] at h⟩
  | (k, .cells l0) :: r, ts, y, x, h => by
    simp only [gH] at h
    cases h1 : gH nx ρ all lh r ts y with
    | none => rw [h1] at h; cases h
    | some z =>
      rw [h1] at h
      simp only at h
      obtain ⟨k1, k2⟩ := fillH_row hfill h1
      cases hj : find ρ k with
      | none => rw [hj] at h; cases h
      | some j =>
        rw [hj] at h
        simp only at h
        cases ha : find all j with
        | none => rw [ha] at h; cases h
        | some o =>
          rw [ha] at h
          cases o with
          | row _ _ => cases h
          | cells l' =>
            simp only at h
            cases hb : Nat.blt k nx with
            | false => rw [hb] at h; cases h
            | true =>
              rw [hb] at h
              simp only [cond_true] at h
              have e1 := hfill h
              refine ⟨?_, fun i j e e' ys xs p1 p2 p3 => ?_⟩
              · show (fillH hp' r ts (fillA hp' l0 (tysH r ts) x).2).2 = y
                rw [e1]; exact k1
              · show find ((k, _) :: (fillH hp' r ts (fillA hp' l0 (tysH r ts) x).2).1) i = _
                rw [e1]
                rw [find_cons] at p2 ⊢
                by_cases hk : k = i
                · rw [if_pos hk] at p2; cases p2
                · rw [if_neg hk] at p2 ⊢; exact k2 i j e e' ys xs p1 p2 p3
  | (k, .row e0 ys0) :: r, ts, y, x, h => by
    simp only [gH] at h
    cases h1 : gH nx ρ all lh r ts y with
    | none => rw [h1] at h; cases h
    | some z =>
      rw [h1] at h
      simp only at h
      obtain ⟨k1, k2⟩ := fillH_row hfill h1
      cases hj : find ρ k with
      | none => rw [hj] at h; cases h
      | some j0 =>
        rw [hj] at h
        simp only at h
        cases ha : find all j0 with
        | none => rw [ha] at h; cases h
        | some o =>
          rw [ha] at h
          cases o with
          | cells _ => cases h
          | row e1 xs1 =>
            simp only at h
            cases hb : Nat.blt k nx with
            | false => rw [hb] at h; cases h
            | true =>
              rw [hb] at h
              simp only [cond_true] at h
              cases hc : Ty.cast (a := .slice e1) (.slice e0) xs1 with
              | none => rw [hc] at h; cases h
              | some xs2 =>
                rw [hc] at h
                simp only [Option.some.injEq] at h
                subst h
                obtain ⟨e2, rfl⟩ := Ty.cast_some hc
                cases e2
                refine ⟨k1, fun i j e e' ys xs p1 p2 p3 => ?_⟩
                show find ((k, .row e0 _) :: (fillH hp' r ts z).1) i = _
                rw [find_cons] at p2 ⊢
                by_cases hk : k = i
                · rw [if_pos hk]
                  subst hk
                  rw [hj] at p1
                  cases p1
                  rw [ha] at p3
                  cases p3
                  rfl
                · rw [if_neg hk] at p2 ⊢; exact k2 i j e e' ys xs p1 p2 p3

/-- The objects of a filled heap. -/
theorem fillH_obj {V : AV → AV → Prop} {nx : Nat} {ρ : List (Nat × Nat)} {lh sh all hp' : List (Nat × OB)}
    (hfill : ∀ {s a : AV} {ts : List Ty} {y : denT ts} {z : denT (tysA s ts)}, gA nx ρ lh s a ts y = some z → (fillA hp' s ts z).2 = y)
    (hval : ∀ {s a : AV} {ts : List Ty} {y : denT ts} {z : denT (tysA s ts)}, gA nx ρ lh s a ts y = some z → obA sh all s a = true → V a (fillA hp' s ts z).1) :
    ∀ {l : List (Nat × OB)} {ts : List Ty} {y : denT ts} {x : denT (tysH l ts)}, gH nx ρ all lh l ts y = some x → obH ρ sh all l = true →
      ∀ i o, find (fillH hp' l ts x).1 i = some o → i < nx ∧ ∃ j oa, find ρ i = some j ∧ find all j = some oa ∧
        ((∃ l1 l2, o = .cells l1 ∧ oa = .cells l2 ∧ V l2 l1) ∨ ∃ e xs, o = .row e xs ∧ oa = .row e xs)
  | [], ts, y, x, h, _, i, o, hf => by simp [fillH, find] at hf
  | (k, .cells l0) :: r, ts, y, x, h, ho, i, o, hf => by
    simp only [gH] at h
    cases h1 : gH nx ρ all lh r ts y with
    | none => rw [h1] at h; cases h
    | some z =>
      rw [h1] at h
      simp only at h
      simp only [obH] at ho
      cases hj : find ρ k with
      | none => rw [hj] at h; cases h
      | some j =>
        rw [hj] at h ho
        simp only at h ho
        cases ha : find all j with
        | none => rw [ha] at h; cases h
        | some oa =>
          rw [ha] at h ho
          cases oa with
          | row _ _ => cases h
          | cells l' =>
            simp only at h ho
            cases hb : Nat.blt k nx with
            | false => rw [hb] at h; cases h
            | true =>
              rw [hb] at h
              simp only [cond_true] at h
              cases hob : obA sh all l0 l' with
              | false => rw [hob] at ho; cases ho
              | true =>
                rw [hob] at ho
                simp only [cond_true] at ho
                have e1 := hfill h
                have hf' : find ((k, .cells (fillA hp' l0 (tysH r ts) x).1) :: (fillH hp' r ts (fillA hp' l0 (tysH r ts) x).2).1) i = some o := hf
                rw [e1, find_cons] at hf'
                by_cases hk : k = i
                · rw [if_pos hk] at hf'
                  cases hf'
                  subst hk
                  exact ⟨Nat.lt_of_succ_le (Nat.le_of_ble_eq_true hb), j, _, hj, ha, .inl ⟨_, l', rfl, rfl, hval h hob⟩⟩
                · rw [if_neg hk] at hf'
                  exact fillH_obj hfill hval h1 ho i o hf'
  | (k, .row e0 ys0) :: r, ts, y, x, h, ho, i, o, hf => by
    simp only [gH] at h
    cases h1 : gH nx ρ all lh r ts y with
    | none => rw [h1] at h; cases h
    | some z =>
      rw [h1] at h
      simp only at h
      simp only [obH] at ho
      cases hj : find ρ k with
      | none => rw [hj] at h; cases h
      | some j0 =>
        rw [hj] at h
        simp only at h
        cases ha : find all j0 with
        | none => rw [ha] at h; cases h
        | some oa =>
          rw [ha] at h
          cases oa with
          | cells _ => cases h
          | row e1 xs1 =>
            simp only at h
            cases hb : Nat.blt k nx with
            | false => rw [hb] at h; cases h
            | true =>
              rw [hb] at h
              simp only [cond_true] at h
              cases hc : Ty.cast (a := .slice e1) (.slice e0) xs1 with
              | none => rw [hc] at h; cases h
              | some xs2 =>
                rw [hc] at h
                simp only [Option.some.injEq] at h
                subst h
                obtain ⟨e2, rfl⟩ := Ty.cast_some hc
                cases e2
                have hf' : find ((k, .row e0 xs1) :: (fillH hp' r ts z).1) i = some o := hf
                rw [find_cons] at hf'
                by_cases hk : k = i
                · rw [if_pos hk] at hf'
                  cases hf'
                  subst hk
                  exact ⟨Nat.lt_of_succ_le (Nat.le_of_ble_eq_true hb), j0, _, hj, ha, .inr ⟨e0, xs1, rfl, rfl⟩⟩
                · rw [if_neg hk] at hf'
                  exact fillH_obj hfill hval h1 ho i o hf'

theorem gA_snd {nx : Nat} {ρ : List (Nat × Nat)} {lh : List (Nat × OB)} (hp' : List (Nat × OB)) :
    ∀ {s a : AV} {ts : List Ty} {y : denT ts} {z : denT (tysA s ts)}, gA nx ρ lh s a ts y = some z → (fillA hp' s ts z).2 = y := by
  intro s
  induction s with
  | imm t x0 =>
    intro a ts y z h
    have h' : (match a.get lh t with | some x => some (x, y) | none => none) = some z := by cases a <;> exact h
    cases hg : a.get lh t with
    | none => rw [hg] at h'; cases h'
    | some x => rw [hg] at h'; simp only [Option.some.injEq] at h'; subst h'; rfl
  | iptr t x0 =>
    intro a ts y z h
    cases a <;> try (cases h; done)
    case iptr t' x =>
      simp only [gA] at h
      cases hc : Ty.cast t x with
      | none => rw [hc] at h; cases h
      | some x' => rw [hc] at h; simp only [Option.some.injEq] at h; subst h; rfl
    case ptr id off =>
      cases off with
      | succ n => cases h
      | zero =>
        simp only [gA] at h
        split at h
        · cases hb : Nat.blt 0 t.size with
          | false => rw [hb] at h; cases h
          | true =>
            rw [hb] at h
            simp only [cond_true] at h
            split at h
            · simp only [Option.some.injEq] at h; subst h; rfl
            · cases h
        · cases h
  | const v =>
    intro a ts y z h
    cases a <;> try (cases h; done)
    simp only [gA] at h
    simp only [cond] at h
    split at h
    · simp only [Option.some.injEq] at h; exact h.symm
    · cases h
  | ptr i o =>
    intro a ts y z h
    cases a <;> try (cases h; done)
    simp only [gA, cond] at h
    split at h
    · simp only [Option.some.injEq] at h; exact h.symm
    · cases h
  | eptr i e k p => intro a ts y z h; cases a <;> cases h
  | view i e lo0 len0 =>
    intro a ts y z h
    cases a <;> try (cases h; done)
    simp only [gA, cond] at h
    split at h
    · simp only [Option.some.injEq] at h
      subst h
      simp only [fillA]
      split <;> rfl
    · cases h
  | aptr i e =>
    intro a ts y z h
    cases a <;> try (cases h; done)
    simp only [gA, cond] at h
    split at h
    · simp only [Option.some.injEq] at h; exact h.symm
    · cases h
  | agg l ih =>
    intro a ts y z h
    cases a <;> try (cases h; done)
    exact ih (by simpa only [gA] using h)
  | tup l ih =>
    intro a ts y z h
    cases a <;> try (cases h; done)
    exact ih (by simpa only [gA] using h)
  | fn f l ih =>
    intro a ts y z h
    cases a <;> try (cases h; done)
    simp only [gA, cond] at h
    split at h
    · exact ih h
    · cases h
  | nil =>
    intro a ts y z h
    cases a <;> try (cases h; done)
    simp only [gA, Option.some.injEq] at h
    exact h.symm
  | cons s1 s2 ih1 ih2 =>
    intro a ts y z h
    cases a <;> try (cases h; done)
    rename_i a1 a2
    simp only [gA] at h
    cases h1 : gA nx ρ lh s2 a2 ts y with
    | none => rw [h1] at h; cases h
    | some z1 =>
      rw [h1] at h
      show (fillA hp' s2 ts (fillA hp' s1 (tysA s2 ts) z).2).2 = y
      rw [ih1 h]; exact ih2 h1

theorem AVR.sub {c d : Cx} (hO : ∀ b, d.O b → c.O b) (hw : d.w = c.w) {a : AV} {vs : List Value} (hf : idFree a = true) (h : AVR c a vs) : AVR d a vs := AVR.free hO hw hf h

/-- What is captured, in any two settings of the kind. -/
theorem capture_core {base : Nat} {keepAll : Bool} {hp : List (Nat × OB)} {S : Shp} {a : AV} {ρ : List (Nat × Nat)} {x : S.X} (h : capture base keepAll hp S a = some (ρ, true, x)) :
    injR ρ = true ∧ anch base ρ = true ∧ base ≤ S.nx ∧ (∀ i o, find (S.heapOf x) i = some o → i < S.nx ∧ ∃ j oa, find ρ i = some j ∧ find hp j = some oa) ∧
    ∀ c d : Cx, Lends c (cond keepAll [] (lend ρ hp)) d.O → d.nx = S.nx → (∀ i j, find ρ i = some j → d.m i = c.m j) → d.w = c.w →
      (∀ vs, AVR c a vs → AVR d (S.avsOf x) vs) ∧ ∀ i o j oa, find (S.heapOf x) i = some o → find ρ i = some j → find hp j = some oa → OBR c (c.m j) oa → OBR d (d.m i) o := by
  unfold capture at h
  cases h0 : mA S.avs a (idR base S.heap) with
  | none => rw [h0] at h; cases h
  | some ρ0 =>
    rw [h0] at h
    simp only at h
    cases h1 : mH hp S.heap ρ0 with
    | none => rw [h1] at h; cases h
    | some ρ' =>
      rw [h1] at h
      simp only at h
      cases hi : (injR ρ' && (anch base ρ' && Nat.ble base S.nx)) with
      | false => rw [hi] at h; cases h
      | true =>
        rw [hi] at h
        simp only [cond_true] at h
        rw [Bool.and_eq_true, Bool.and_eq_true] at hi
        cases hy : gA S.nx ρ' (cond keepAll [] (lend ρ' hp)) S.avs a [] () with
        | none => rw [hy] at h; cases h
        | some y =>
          rw [hy] at h
          simp only at h
          cases hx : gH S.nx ρ' hp (cond keepAll [] (lend ρ' hp)) S.heap _ y with
          | none => rw [hx] at h; cases h
          | some x' =>
            rw [hx] at h
            simp only [Option.some.injEq, Prod.mk.injEq] at h
            obtain ⟨rfl, hob, rfl⟩ := h
            cases hoa : obA S.heap hp S.avs a with
            | false => rw [hoa] at hob; cases hob
            | true =>
              rw [hoa] at hob
              simp only [cond_true] at hob
              obtain ⟨r1, r2⟩ := fillH_row (hp' := []) (gA_snd []) hx
              obtain ⟨s1, s2⟩ := fillH_row (hp' := (fillH [] S.heap _ x').1) (gA_snd _) hx
              refine ⟨hi.1, hi.2.1, Nat.le_of_ble_eq_true hi.2.2, fun i o hf => ?_, fun c d hL hnx hm hw => ⟨fun vs hv => ?_, fun i o j oa hf q1 q2 ho => ?_⟩⟩
              · obtain ⟨q1, j, oa, q2, q3, _⟩ := fillH_obj (V := fun _ _ => True) (hp' := (fillH [] S.heap _ x').1) (gA_snd _) (fun _ _ => trivial) hx hob i o hf
                exact ⟨q1, j, oa, q2, q3⟩
              · have := (gA_sound (c := c) (d := d) hL hnx hm hw s2 hy hoa).2 vs hv
                unfold Shp.avsOf
                rw [r1]
                exact this
              · obtain ⟨_, j', oa', q2', q3', q4⟩ := fillH_obj (V := fun l2 l1 => ∀ vs, AVR c l2 vs → AVR d l1 vs) (hp' := (fillH [] S.heap _ x').1) (gA_snd _)
                  (fun hg ho => (gA_sound (c := c) (d := d) hL hnx hm hw r2 hg ho).2) hx hob i o hf
                rw [q1] at q2'
                cases q2'
                rw [q2] at q3'
                cases q3'
                rw [hm i j q1]
                rcases q4 with ⟨l1, l2, rfl, rfl, hV⟩ | ⟨e, xs, rfl, rfl⟩
                · obtain ⟨b, arr, ty, p1, p2, p3⟩ := ho
                  exact ⟨b, arr, ty, p1, by rw [hw]; exact p2, hV _ p3⟩
                · obtain ⟨p1, p2, p3, p4⟩ := ho
                  refine ⟨p1, p2, p3, ?_⟩
                  rcases p4 with p4 | ⟨b, arr, ty, p4, p5, p6, p7⟩
                  · exact .inl p4
                  · exact .inr ⟨b, arr, ty, p4, by rw [hw]; exact p5, p6, fun i hi => by rw [hw]; exact (p7 i hi).move (Moves.sub _ hL.sub)⟩

/-- What is captured fits, as it did; what is not kept is nobody's. -/
theorem capture_sound {fr : Frm} {m : Nat → Option Nat × Nat} {st : St} {w : World} (H : HeapOk fr m st w) {S : Shp} {a : AV} {ρ : List (Nat × Nat)} {x : S.X} (h : capture fr.base false st.heap S a = some (ρ, true, x)) :
    ∃ m', ∀ st' : St, st'.heap = S.heapOf x → st'.nx = S.nx → HeapOk fr m' st' w ∧ (∀ b, own fr.F m' st'.heap b → own fr.F m st.heap b) ∧ ∀ vs, AVR (cx fr m st w) a vs → AVR (cx fr m' st' w) (S.avsOf x) vs := by
  obtain ⟨hi, han, hbase, dom0, core⟩ := capture_core h
  refine ⟨renM fr.base ρ m, fun st' hheap hnx => ?_⟩
  have ren : ∀ i j, find ρ i = some j → renM fr.base ρ m i = m j := fun i j hf => renM_eq han m hf
  have dom : ∀ i o, find st'.heap i = some o → i < S.nx ∧ ∃ j oa, find ρ i = some j ∧ find st.heap j = some oa := fun i o hf => dom0 i o (by rw [← hheap]; exact hf)
  have hown : ∀ b, own fr.F (renM fr.base ρ m) st'.heap b → own fr.F m st.heap b := by
    rintro b (hb | ⟨id, o, hf, hb⟩)
    · exact .inl hb
    · obtain ⟨_, j, oa, q1, q2⟩ := dom id o hf
      rw [ren id j q1] at hb
      exact .inr ⟨j, oa, q2, hb⟩
  have hL : Lends (cx fr m st w) (lend ρ st.heap) (cx fr (renM fr.base ρ m) st' w).O := by
    refine ⟨hown, fun id o hf => (H.obj id o (find_lend hf).2).2, fun id o b hf hb ho => ?_⟩
    obtain ⟨k1, k2⟩ := find_lend hf
    rcases ho with ho | ⟨i, o', hf', hb'⟩
    · exact (H.apart id o b k2 hb).1 ho
    · obtain ⟨_, j, oa, q1, q2⟩ := dom i o' hf'
      rw [ren i j q1] at hb'
      have := H.inj j id oa o b q2 k2 hb' hb
      subst this
      rw [inR_of_find q1] at k1
      cases k1
  obtain ⟨c1, c2⟩ := core (cx fr m st w) (cx fr (renM fr.base ρ m) st' w) hL hnx ren rfl
  refine ⟨⟨?_, ?_, ?_, H.since, H.fsub, fun g t x hg => AVR.free (c := cx fr m st w) (d := cx fr (renM fr.base ρ m) st' w) hown rfl rfl (H.glob g t x hg), ?_, by rw [hnx]; exact hbase⟩, hown, c1⟩
  · intro i o hf
    obtain ⟨q0, j, oa, q1, q2⟩ := dom i o hf
    exact ⟨by rw [hnx]; exact q0, c2 i o j oa (by rw [← hheap]; exact hf) q1 q2 (H.obj j oa q2).2⟩
  · intro i i' o o' b hf hf' hb hb'
    obtain ⟨_, j, oa, q1, q2⟩ := dom i o hf
    obtain ⟨_, j', oa', q1', q2'⟩ := dom i' o' hf'
    rw [ren i j q1] at hb
    rw [ren i' j' q1'] at hb'
    have := H.inj j j' oa oa' b q2 q2' hb hb'
    subst this
    exact injR_sound hi q1 q1'
  · intro i o b hf hb
    obtain ⟨_, j, oa, q1, q2⟩ := dom i o hf
    rw [ren i j q1] at hb
    exact H.apart j oa b q2 hb
  · intro i hi
    unfold renM
    rw [if_pos hi]
    exact H.anchor i hi

end Go.Proofs.YtlkggeaibgaohaaGreatDoor.Sim
