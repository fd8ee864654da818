/- What an operation turns; regions whose order is drawn. -/
import Derived.Test.YtlkggeaibgaohaaGreatDoorSimYA
import Derived.Test.YtlkggeaibgaohaaGreatDoorSimZA
import Derived.Orders
namespace Go.Proofs.YtlkggeaibgaohaaGreatDoor.Sim
open Go Go.RowKit
universe u

def pickTch (st : St) (a : AV) : List Sig → List Nat
  | [] => []
  | s :: r => match capture 0 true st.heap s.ins a with
    | some (ρ, _, _) => ρ.map (·.2)
    | none => pickTch st a r
def refId : AV → List Nat
  | .ptr id _ => [id]
  | .eptr id _ _ _ => [id]
  | .view id _ _ _ => [id]
  | .aptr id _ => [id]
  | _ => []
theorem refId_norm (a : AV) : refId (norm a) = refId a := by
  cases a <;> try rfl
  rename_i T x
  cases T <;> rfl
def refOf (E : Env) (st : St) (x : Operand) : List Nat := match ev E.G.gl st x with
  | some a => refId a
  | none => []
/-- The objects that an operation may turn. -/
def touch (E : Env) (st : St) (op : Op) : List Nat := match op with
  | .store _ a _ => refOf E st a
  | .slice _ x _ _ (some _) => refOf E st x
  | .call ⟨.builtin .append, args, _⟩ => match args.toList with
    | s :: _ => refOf E st s
    | _ => []
  | .call ⟨.builtin .copy, args, _⟩ => match args.toList with
    | s :: _ => refOf E st s
    | _ => []
  | .call ⟨.value f, args, _⟩ => match ev E.G.gl st f, evs E.G.gl st args.toList with
    | some (.fn g caps), some aa => pickTch st (aa.append caps) (E.es g)
    | _, _ => []
  | _ => []

/-- The objects with numbers that are not listed are as they were. -/
def Keeps (st : St) (l : List Nat) (e : Eff) : Prop := st.nx ≤ e.2.2 ∧ ∀ id, id < st.nx → memN id l = false → find e.2.1 id = find st.heap id
theorem Keeps.new {st : St} {l : List Nat} {a : AV} {o : OB} : Keeps st l (a, (st.nx, o) :: st.heap, st.nx + 1) :=
  ⟨Nat.le_succ _, fun id hi _ => by show find ((st.nx, o) :: st.heap) id = _; rw [find_cons, if_neg (by omega)]⟩
theorem Keeps.write {st : St} {id : Nat} {a : AV} {o : OB} : Keeps st [id] (a, (id, o) :: st.heap, st.nx) :=
  ⟨Nat.le_refl _, fun k hi hm => by
    show find ((id, o) :: st.heap) k = _
    rw [find_cons, if_neg (fun e => by subst e; simp [memN] at hm)]⟩
theorem Keeps.swap {st : St} {id : Nat} {a : AV} {o : OB} : Keeps st [id] (a, (st.nx, o) :: erase id st.heap, st.nx + 1) :=
  ⟨Nat.le_succ _, fun k hi hm => by
    show find ((st.nx, o) :: erase id st.heap) k = _
    rw [find_cons, if_neg (by omega), find_erase, if_neg (fun e => by subst e; simp [memN] at hm)]⟩
theorem Keeps.same {st : St} {l : List Nat} {a : AV} : Keeps st l (a, st.heap, st.nx) := ⟨Nat.le_refl _, fun _ _ _ => rfl⟩

theorem find_renH_some {r : Nat → Nat} {k : Nat} {o' : OB} : ∀ {l : List (Nat × OB)}, find (renH r l) k = some o' → ∃ i, r i = k
  | (i, o) :: l, h => by
    simp only [renH] at h
    rw [find_cons] at h
    by_cases e : r i = k
    · exact ⟨i, e⟩
    · rw [if_neg e] at h; exact find_renH_some h
theorem find_lend_eq {ρ : List (Nat × Nat)} {k : Nat} (hk : inR k ρ = false) : ∀ {l : List (Nat × OB)}, find (lend ρ l) k = find l k
  | [] => rfl
  | (j, o) :: r => by
    simp only [lend]
    cases hj : inR j ρ with
    | true =>
      simp only [cond_true]
      rw [find_cons, if_neg (fun e => by rw [e, hk] at hj; cases hj)]
      exact find_lend_eq hk
    | false =>
      simp only [cond_false]
      rw [find_cons, find_cons, find_lend_eq hk]
theorem inR_of_memN {k : Nat} : ∀ {ρ : List (Nat × Nat)}, memN k (ρ.map (·.2)) = false → inR k ρ = false
  | [], _ => rfl
  | (i, j) :: r, h => by
    simp only [List.map_cons, memN] at h
    simp only [inR]
    cases hb : Nat.beq k j with
    | true => rw [hb] at h; cases h
    | false => rw [hb] at h; exact inR_of_memN h
theorem pickSig_touch {st : St} {a : AV} : ∀ {l : List Sig} {cp : Comp Eff}, pickSig st a l = some cp → ∀ u, Keeps st (pickTch st a l) (cp.out u)
  | [], cp, h, u => by cases h
  | s :: l, cp, h, u => by
    simp only [pickSig] at h
    simp only [pickTch]
    cases hc : capture 0 true st.heap s.ins a with
    | none => rw [hc] at h; simp only at h ⊢; exact pickSig_touch h u
    | some q =>
      obtain ⟨ρ, ob, x⟩ := q
      rw [hc] at h
      simp only at h ⊢
      cases hb : (allIn ρ s.ins.nx && inHeap st.heap ρ) with
      | false => rw [hb] at h; cases h
      | true =>
        rw [hb] at h
        simp only [cond_true, Option.some.injEq] at h
        subst h
        rw [Bool.and_eq_true] at hb
        refine ⟨Nat.le_add_right _ _, fun id hi hm => ?_⟩
        have hr := inR_of_memN hm
        show find (renH (shift ρ s.ins.nx st.nx) (s.out.heapOf u) ++ lend ρ st.heap) id = _
        rw [find_append]
        cases hf : find (renH (shift ρ s.ins.nx st.nx) (s.out.heapOf u)) id with
        | none => exact find_lend_eq hr
        | some o =>
          exfalso
          obtain ⟨i, hi2⟩ := find_renH_some hf
          unfold shift at hi2
          cases hlt : Nat.blt i s.ins.nx with
          | false => rw [hlt] at hi2; simp only [cond_false] at hi2; omega
          | true =>
            rw [hlt] at hi2
            simp only [cond_true] at hi2
            have hlt' : i < s.ins.nx := by simpa [Nat.blt_eq] using hlt
            obtain ⟨j, hj⟩ := allIn_sound hb.1 hlt'
            rw [hj] at hi2
            simp only at hi2
            subst hi2
            rw [inR_of_find hj] at hr
            cases hr

theorem cond_some {α : Type u} {b : Bool} {x : Option α} {y : α} (h : cond b x none = some y) : b = true ∧ x = some y := by
  cases b with
  | false => cases h
  | true => exact ⟨rfl, h⟩
theorem sliceAV_id {G : Pg} {hp : List (Nat × OB)} {t : TypeId} {a : AV} {lo hi mx : Option AV} {cp : Comp AV} (h : sliceAV G hp t a lo hi mx = some cp) {u : cp.X} {id : Nat} {e : Ty} {p n : Nat}
    (hv : cp.out u = .view id e p n) : memN id (refId a) = true := by
  unfold sliceAV at h
  split at h
  · rename_i l hh m _ _ _
    cases a with
    | imm T xs =>
      cases T with
      | slice e1 =>
        simp only at h
        split at h
        · obtain ⟨_, h⟩ := cond_some h
          split at h <;>
          · simp only [Option.some.injEq] at h; subst h; cases hv
        · cases h
      | str =>
        simp only at h
        split at h
        · simp only [Option.some.injEq] at h; subst h; cases hv
        · cases h
      | _ => cases h
    | view id' e1 p1 len =>
      simp only at h
      split at h
      · obtain ⟨_, h⟩ := cond_some h
        simp only [Option.some.injEq] at h
        subst h
        cases hv
        simp [refId, memN]
      · cases h
    | aptr id' e1 =>
      simp only at h
      split at h
      · split at h
        · obtain ⟨_, h⟩ := cond_some h
          simp only [Option.some.injEq] at h
          subst h
          cases hv
          simp [refId, memN]
        · cases h
      · cases h
    | _ => cases h
  · cases h
theorem fz_keeps {st : St} {l : List Nat} {a : AV} (h : ∀ id e p n, a = .view id e p n → memN id l = true) : Keeps st l (fz st a) := by
  unfold fz
  split
  · rename_i id e p n
    have hm := h id e p n rfl
    split
    · split
      · refine ⟨Nat.le_refl _, fun k hk hn => ?_⟩
        show find (erase id st.heap) k = _
        rw [find_erase, if_neg (fun e => by subst e; rw [hm] at hn; cases hn)]
      · exact Keeps.same
    · exact Keeps.same
  · exact Keeps.same

theorem effOp_touch {E : Env} {st : St} {dst : Option Nat} {op : Op} {cp : Comp Eff} (h : effOp E st dst op = some cp) (u : cp.X) : Keeps st (touch E st op) (cp.out u) := by
  have hbox : ∀ {a : AV} {cp : Comp Eff} (u : cp.X) (l : List Nat), boxE st a = some cp → Keeps st l (cp.out u) := fun {a cp} u l h => by
    unfold boxE at h
    split at h
    · simp only [Option.some.injEq] at h; subst h; exact Keeps.new
    · cases h
  unfold effOp at h
  split at h
  · unfold allocE at h
    split at h
    · exact hbox u _ h
    · cases h
  · obtain ⟨a, h1, h2⟩ := ow1_some h
    exact hbox u _ h2
  · rename_i t x y
    obtain ⟨a, b, h1, h2, h3⟩ := ow2_some h
    simp only [touch, refOf, h1]
    cases a with
    | ptr id off =>
      simp only [storeE] at h3
      split at h3
      · obtain ⟨_, h3⟩ := cond_some h3
        split at h3
        · simp only [Option.some.injEq] at h3; subst h3; exact Keeps.write
        · cases h3
      · cases h3
    | eptr id e i p =>
      simp only [storeE] at h3
      split at h3
      · obtain ⟨_, h3⟩ := cond_some h3
        split at h3
        · split at h3
          · simp only [Option.some.injEq] at h3; subst h3; exact Keeps.write
          · cases h3
        · cases h3
      · cases h3
    | _ => cases h3
  · obtain ⟨a, b, h1, h2, h3⟩ := ow2_some h
    unfold makeE at h3
    split at h3
    · obtain ⟨_, h3⟩ := cond_some h3
      simp only [Option.some.injEq] at h3
      subst h3
      exact Keeps.new
    · cases h3
  · rename_i t x lo hi mx
    split at h
    · obtain ⟨a, h1, h2⟩ := ow1_some h
      simp only [touch, refOf, h1]
      unfold sliceFzE at h2
      split at h2
      · rename_i cp' hn mn hs _ _
        simp only [Option.some.injEq] at h2
        subst h2
        refine fz_keeps fun id e p n hv => ?_
        have := sliceAV_id hs hv
        rwa [refId_norm] at this
      · cases h2
    · cases h
  · rename_i args ts
    split at h
    · rename_i s x t tx e1 e2
      obtain ⟨a, b, h1, h2, h3⟩ := ow2_some h
      simp only [touch, e1, refOf, h1]
      unfold appendE at h3
      split at h3
      · obtain ⟨_, h3⟩ := cond_some h3
        split at h3
        · split at h3
          · split at h3
            · obtain ⟨_, h3⟩ := cond_some h3
              split at h3
              · simp only [Option.some.injEq] at h3; subst h3; exact Keeps.swap
              · cases h3
            · cases h3
          · simp only [Option.some.injEq] at h3; subst h3; exact Keeps.new
          · split at h3
            · cases hb : ownOf E dst with
              | true => rw [hb] at h3; simp only [cond_true, Option.some.injEq] at h3; subst h3; exact Keeps.new
              | false => rw [hb] at h3; simp only [cond_false, Option.some.injEq] at h3; subst h3; exact Keeps.same
            · cases h3
          · cases h3
        · cases h3
      · cases h3
    · cases h
  · rename_i args ts
    split at h
    · rename_i s x t tx e1 e2
      obtain ⟨a, b, h1, h2, h3⟩ := ow2_some h
      simp only [touch, e1, refOf, h1]
      unfold copyE at h3
      split at h3
      · split at h3
        · obtain ⟨_, h3⟩ := cond_some h3
          split at h3
          · split at h3
            · simp only [Option.some.injEq] at h3; subst h3; exact Keeps.write
            · cases h3
          · cases h3
        · cases h3
      · cases h3
    · cases h
  · rename_i f args ts
    split at h
    · rename_i g caps aa h1 h2
      simp only [touch, h1, h2]
      exact pickSig_touch h u
    · cases h
  · cases h

end Go.Proofs.YtlkggeaibgaohaaGreatDoor.Sim
