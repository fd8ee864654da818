/- Code: variables that nobody writes any more; loops; branches that join. -/
import Derived.Test.YtlkggeaibgaohaaGreatDoorSimY
import Derived.LoopN
import Derived.Tactics
namespace Go.Proofs.YtlkggeaibgaohaaGreatDoor.Sim
open Go Go.RowKit

inductive Ex where
  | normal
  | exit (id : Nat)
  | ret

/-- What a temporary is to be at the head of a loop: of another form; nothing; an empty row of the call's own. -/
inductive Over where
  | shape (a : AV)
  | drop
  | row (e : Ty)

/-- What is told of a function: by region the variables that nobody writes behind it; by block what temporaries are at the head of its loop; which branches do not join. -/
structure Hnt where
  frz : Nat → List (Nat × Ty)
  over : Nat → List (Nat × Over)
  dup : Nat → Bool
  peel : Nat → Bool
  drp : Nat → List (Nat × Over)

/- Variables that nobody writes any more -/

def freeze1 (st : St) (t : Nat) (T : Ty) : Option St :=
  match find st.env t with
  | some (some (.ptr id 0)) => match find st.heap id with
    | some (.cells l) => cond (Nat.blt 0 T.size) (match mkCells [] 100 T l with
      | some (x, .nil) => some { st with env := (t, some (.iptr T x)) :: st.env, heap := erase id st.heap }
      | _ => none) none
    | _ => none
  | some (some (.view id e lo len)) => match find st.heap id with
    | some o => match AV.get [(id, o)] T (.view id e lo len) with
      | some x => some { st with env := (t, some (.imm T x)) :: st.env, heap := erase id st.heap }
      | none => none
    | none => none
  | _ => none
def freeze : List (Nat × Ty) → St → Option St
  | [], st => some st
  | (t, T) :: r, st => match freeze1 st t T with
    | some st' => freeze r st'
    | none => freeze r st

theorem look_env {st : St} (h : st.loc = []) (t : Nat) : st.look t = match find st.env t with | some (some a) => some (.av a) | _ => none := by
  simp only [St.look, h, find]
  cases find st.env t with
  | none => rfl
  | some o => cases o <;> rfl

/-- Another environment, over objects that are as they were or fewer. -/
theorem Fits.reEnv {fr : Frm} {m m' : Nat → Option Nat × Nat} {st st' : St} {a : Act} {w : World} (h : Fits fr m st a w) (hl : st'.loc = []) (hH : HeapOk fr m' st' w)
    (he : ∀ t x, find st'.env t = some (some x) → AVR (cx fr m' st' w) x [a.tmps.getD t undef]) : Fits fr m' st' a w := by
  refine ⟨h.size, h.defers, ?_, ?_, hH⟩
  · intro t ev hf
    rw [look_env hl] at hf
    cases hq : find st'.env t with
    | none => rw [hq] at hf; cases hf
    | some o =>
      rw [hq] at hf
      cases o with
      | none => cases hf
      | some x =>
        simp only [Option.some.injEq] at hf
        subst hf
        exact he t x hq
  · intro t u want x hf
    rw [hl] at hf
    simp [find] at hf

theorem freeze1_sound {fr : Frm} {m : Nat → Option Nat × Nat} {st st' : St} {a : Act} {w : World} (hF : Fits fr m st a w) (hl : st.loc = []) {t : Nat} {T : Ty} (h : freeze1 st t T = some st') :
    Fits fr m st' a w ∧ st'.loc = [] ∧ Ext (fun _ => False) st st' := by
  have envAt : ∀ u x, find st.env u = some (some x) → AVR (cx fr m st w) x [a.tmps.getD u undef] := fun u x hu => hF.env u (.av x) (by rw [look_env hl, hu])
  have build : ∀ {id : Nat} {o : OB} {y : AV}, (∃ a0, find st.env t = some (some a0) ∧ idFree a0 = false) → find st.heap id = some o →
      AVR (cx fr m { st with env := (t, some y) :: st.env, heap := erase id st.heap } w) y [a.tmps.getD t undef] →
      Fits fr m { st with env := (t, some y) :: st.env, heap := erase id st.heap } a w ∧ ({ st with env := (t, some y) :: st.env, heap := erase id st.heap } : St).loc = [] ∧
        Ext (fun _ => False) st { st with env := (t, some y) :: st.env, heap := erase id st.heap } := by
    intro id o y ⟨a0, h0, hid⟩ hf hy
    obtain ⟨k1, k2, k3, k4⟩ := hF.heap.erase id (st' := { st with env := (t, some y) :: st.env, heap := erase id st.heap }) rfl rfl
    refine ⟨hF.reEnv hl k1 fun u x hu => ?_, hl, fun u v _ hfree hlook => ?_⟩
    · have hu' : find ((t, some y) :: st.env) u = some (some x) := hu
      rw [find_cons] at hu'
      by_cases e : t = u
      · rw [if_pos e] at hu'
        cases hu'
        subst e
        exact hy
      · rw [if_neg e] at hu'
        exact AVR.move k2 (envAt u x hu')
    · rw [look_env hl] at hlook
      rw [look_env (st := { st with env := (t, some y) :: st.env, heap := erase id st.heap }) hl]
      show (match find ((t, some y) :: st.env) u with | some (some a) => some (EV.av a) | _ => none) = _
      rw [find_cons]
      by_cases e : t = u
      · subst e
        rw [h0] at hlook
        simp only [Option.some.injEq, EV.av.injEq] at hlook
        subst hlook
        rw [hid] at hfree
        cases hfree
      · rw [if_neg e]; exact hlook
  unfold freeze1 at h
  split at h
  · rename_i id henv
    have hp := envAt t _ henv
    cases hf : find st.heap id with
    | none => rw [hf] at h; cases h
    | some o =>
      rw [hf] at h
      cases o with
      | row _ _ => cases h
      | cells l =>
        simp only at h
        cases hb : Nat.blt 0 T.size with
        | false => rw [hb] at h; cases h
        | true =>
          rw [hb] at h
          simp only [cond_true] at h
          split at h
          · rename_i x hk
            simp only [Option.some.injEq] at h
            subst h
            refine build ⟨_, henv, rfl⟩ hf ?_
            obtain ⟨k1, k2, k3, k4⟩ := hF.heap.erase id (st' := { st with env := (t, some (.iptr T x)) :: st.env, heap := erase id st.heap }) rfl rfl
            obtain ⟨hid, b, hbm, hv⟩ := hp
            obtain ⟨b', arr, ty, hb', hh, hlc⟩ := (hF.heap.obj id _ hf).2
            have e0 : some b = some b' := hbm.symm.trans hb'
            cases e0
            obtain ⟨cs, ds, e1, hr, hd⟩ := mkCells_sound (Lends.none (cx fr m st w)) 100 hk hlc
            match ds, hd with
            | [], _ =>
              rw [List.append_nil] at e1
              refine ⟨b, 0, cs, hv, k3 _ b hf hbm, hr.move (Moves.sub _ k4), Nat.lt_of_succ_le (Nat.le_of_ble_eq_true hb), fun j hj => ?_⟩
              show w.cell? _ = _
              have hh' : w.heap[b]? = some (.cells arr ty (0, 0)) := hh
              rw [cell_of_arr hh', Nat.zero_add, ← Array.getElem?_toList, e1]
          · cases h
  · rename_i id e lo len henv
    have hp := envAt t _ henv
    cases hf : find st.heap id with
    | none => rw [hf] at h; cases h
    | some o =>
      rw [hf] at h
      simp only at h
      cases hg : AV.get [(id, o)] T (.view id e lo len) with
      | none => rw [hg] at h; cases h
      | some x =>
        rw [hg] at h
        simp only [Option.some.injEq] at h
        subst h
        refine build ⟨_, henv, rfl⟩ hf ?_
        obtain ⟨k1, k2, k3, k4⟩ := hF.heap.erase id (st' := { st with env := (t, some (.imm T x)) :: st.env, heap := erase id st.heap }) rfl rfl
        have one : ∀ k o', find [(id, o)] k = some o' → k = id ∧ o' = o := fun k o' hk => by
          rw [find_cons] at hk
          by_cases e : id = k
          · rw [if_pos e] at hk; cases hk; exact ⟨e.symm, rfl⟩
          · rw [if_neg e] at hk; simp [find] at hk
        have hL : Lends (cx fr m st w) [(id, o)] (cx fr m { st with env := (t, some (.imm T x)) :: st.env, heap := erase id st.heap } w).O :=
          ⟨k4, fun k o' hk => by obtain ⟨rfl, rfl⟩ := one k o' hk; exact (hF.heap.obj k o' hf).2, fun k o' b hk hb => by obtain ⟨rfl, rfl⟩ := one k o' hk; exact k3 o' b hf hb⟩
        exact AV.get_sound hL hg hp
  · cases h

theorem freeze_sound {fr : Frm} {m : Nat → Option Nat × Nat} {a : Act} {w : World} : ∀ {l : List (Nat × Ty)} {st st' : St}, Fits fr m st a w → st.loc = [] → freeze l st = some st' →
    Fits fr m st' a w ∧ st'.loc = [] ∧ Ext (fun _ => False) st st'
  | [], st, st', hF, hl, h => by simp only [freeze, Option.some.injEq] at h; subst h; exact ⟨hF, hl, Ext.refl _ _⟩
  | (t, T) :: r, st, st', hF, hl, h => by
    simp only [freeze] at h
    cases h1 : freeze1 st t T with
    | none => rw [h1] at h; exact freeze_sound hF hl h
    | some st1 =>
      rw [h1] at h
      obtain ⟨k1, k2, k3⟩ := freeze1_sound hF hl h1
      obtain ⟨j1, j2, j3⟩ := freeze_sound k1 k2 h
      exact ⟨j1, j2, (k3.trans j3).mono fun t h => h.elim id id⟩

/- Rows of the call's own at the head of a loop -/

def promote1 (st : St) (t : Nat) (e : Ty) : Option St :=
  match find st.env t with
  | some (some (.const (.slice none 0 0))) => cond (Nat.blt 0 e.size) (some { st with env := (t, some (.view st.nx e 0 0)) :: st.env, heap := (st.nx, .row e []) :: st.heap, nx := st.nx + 1 }) none
  | some (some (.view _ _ _ _)) => some st
  | _ => none
def promote : List (Nat × Over) → St → Option St
  | [], st => some st
  | (t, .row e) :: r, st => match promote1 st t e with
    | some st' => promote r st'
    | none => none
  | _ :: r, st => promote r st

theorem promote1_sound {fr : Frm} {m : Nat → Option Nat × Nat} {st st' : St} {a : Act} {w : World} (hF : Fits fr m st a w) (hl : st.loc = []) {t : Nat} {e : Ty} (h : promote1 st t e = some st') :
    ∃ m', Fits fr m' st' a w ∧ st'.loc = [] ∧ Ext (fun u => u = t) st st' := by
  have envAt : ∀ u x, find st.env u = some (some x) → AVR (cx fr m st w) x [a.tmps.getD u undef] := fun u x hu => hF.env u (.av x) (by rw [look_env hl, hu])
  unfold promote1 at h
  split at h
  · rename_i henv
    cases hb : Nat.blt 0 e.size with
    | false => rw [hb] at h; cases h
    | true =>
      rw [hb] at h
      simp only [cond_true, Option.some.injEq] at h
      subst h
      have hsz : 0 < e.size := Nat.lt_of_succ_le (Nat.le_of_ble_eq_true hb)
      obtain ⟨k1, k2⟩ := hF.heap.new (Below.refl _ w) (p := (none, 0)) (o := .row e []) (fun b hb => by cases hb) (fun _ => ⟨hsz, rfl, by simp, .inl ⟨rfl, rfl⟩⟩)
      have k1' : HeapOk fr (upd m st.nx (none, 0)) { st with env := (t, some (.view st.nx e 0 0)) :: st.env, heap := (st.nx, .row e []) :: st.heap, nx := st.nx + 1 } w := k1.of rfl rfl
      refine ⟨_, hF.reEnv hl k1' fun u x hu => ?_, hl, fun u v hn hfree hlook => ?_⟩
      · have hu' : find ((t, some (.view st.nx e 0 0)) :: st.env) u = some (some x) := hu
        rw [find_cons] at hu'
        by_cases e' : t = u
        · rw [if_pos e'] at hu'
          cases hu'
          subst e'
          have hv : a.tmps.getD t undef = .slice none 0 0 := envAt t _ henv
          rw [hv]
          refine ⟨Nat.lt_succ_self _, Nat.zero_le _, hsz, .inl ⟨?_, ⟨none, rfl⟩, rfl, rfl⟩⟩
          show (upd m st.nx (none, 0) st.nx).1 = none
          rw [upd_self]
        · rw [if_neg e'] at hu'
          exact AVR.move k2 (envAt u x hu')
      · rw [look_env hl] at hlook
        rw [look_env (st := { st with env := (t, some (.view st.nx e 0 0)) :: st.env, heap := (st.nx, .row e []) :: st.heap, nx := st.nx + 1 }) hl]
        show (match find ((t, some (.view st.nx e 0 0)) :: st.env) u with | some (some a) => some (EV.av a) | _ => none) = _
        rw [find_cons, if_neg (fun e => hn e.symm)]
        exact hlook
  · simp only [Option.some.injEq] at h; subst h; exact ⟨m, hF, hl, Ext.refl _ _⟩
  · cases h

def rowsOf : List (Nat × Over) → Nat → Prop
  | [], _ => False
  | (t, .row _) :: r, u => u = t ∨ rowsOf r u
  | _ :: r, u => rowsOf r u

theorem promote_sound {fr : Frm} {a : Act} {w : World} : ∀ {l : List (Nat × Over)} {m : Nat → Option Nat × Nat} {st st' : St}, Fits fr m st a w → st.loc = [] → promote l st = some st' →
    ∃ m', Fits fr m' st' a w ∧ st'.loc = [] ∧ Ext (rowsOf l) st st'
  | [], m, st, st', hF, hl, h => by simp only [promote, Option.some.injEq] at h; subst h; exact ⟨m, hF, hl, Ext.refl _ _⟩
  | (t, .row e) :: r, m, st, st', hF, hl, h => by
    simp only [promote] at h
    cases h1 : promote1 st t e with
    | none => rw [h1] at h; cases h
    | some st1 =>
      rw [h1] at h
      obtain ⟨m1, k1, k2, k3⟩ := promote1_sound hF hl h1
      obtain ⟨m2, j1, j2, j3⟩ := promote_sound k1 k2 h
      exact ⟨m2, j1, j2, k3.trans j3⟩
  | (t, .shape s) :: r, m, st, st', hF, hl, h => promote_sound (l := r) hF hl h
  | (t, .drop) :: r, m, st, st', hF, hl, h => promote_sound (l := r) hF hl h

end Go.Proofs.YtlkggeaibgaohaaGreatDoor.Sim
