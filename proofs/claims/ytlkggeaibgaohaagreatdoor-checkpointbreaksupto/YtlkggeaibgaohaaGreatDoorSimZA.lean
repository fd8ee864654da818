/- The interpreter of code. -/
import Derived.Test.YtlkggeaibgaohaaGreatDoorSimZ
namespace Go.Proofs.YtlkggeaibgaohaaGreatDoor.Sim
open Go Go.RowKit

def memN (t : Nat) : List Nat → Bool
  | [] => false
  | k :: r => cond (Nat.beq t k) true (memN t r)
theorem memN_cons {t k : Nat} {r : List Nat} : memN t (k :: r) = true ↔ t = k ∨ memN t r = true := by
  simp only [memN]
  cases hb : Nat.beq t k with
  | true => exact ⟨fun _ => .inl (Nat.eq_of_beq_eq_true hb), fun _ => rfl⟩
  | false => exact ⟨fun h => .inr h, fun h => by
      rcases h with rfl | h
      · simp at hb
      · exact h⟩

/-- What code may write. -/
def dstsL : List Oper → List Nat → List Nat
  | [], l => l
  | o :: r, l => match o.dst with
    | some d => d :: dstsL r l
    | none => dstsL r l
def rowsL : List (Nat × Over) → List Nat → List Nat
  | [], l => l
  | (t, .row _) :: r, l => t :: rowsL r l
  | _ :: r, l => rowsL r l
def writes (H : Hnt) : Code → Nat → List Nat → List Nat
  | .region _ ops _, _, l => dstsL ops.toList l
  | .seq x y, b, l => writes H x b (writes H y b l)
  | .cond _ x y, b, l => writes H x b (writes H y b l)
  | .block id c, _, l => writes H c id l
  | .loop c, b, l => rowsL (H.over b) (writes H c b l)
  | _, _, l => l
def wrP (H : Hnt) : Code → Nat → Nat → Prop
  | .region _ ops _, _, t => dsts ops.toList t
  | .seq x y, b, t => wrP H x b t ∨ wrP H y b t
  | .cond _ x y, b, t => wrP H x b t ∨ wrP H y b t
  | .block id c, _, t => wrP H c id t
  | .loop c, b, t => rowsOf (H.over b) t ∨ wrP H c b t
  | _, _, _ => False
theorem dstsL_iff {t : Nat} {l : List Nat} : ∀ {ops : List Oper}, memN t (dstsL ops l) = true ↔ dsts ops t ∨ memN t l = true
  | [] => by simp [dstsL, dsts]
  | o :: r => by
    simp only [dstsL, dsts]
    cases o.dst with
    | none => simp [dstsL_iff (ops := r)]
    | some d => simp only [memN_cons, dstsL_iff (ops := r), Option.some.injEq, or_assoc]; constructor <;> (rintro (h | h); exact .inl h.symm; exact .inr h)
theorem rowsL_iff {t : Nat} {l : List Nat} : ∀ {r : List (Nat × Over)}, memN t (rowsL r l) = true ↔ rowsOf r t ∨ memN t l = true
  | [] => by simp [rowsL, rowsOf]
  | (k, .row e) :: r => by simp only [rowsL, rowsOf, memN_cons, rowsL_iff (r := r), or_assoc]
  | (k, .shape s) :: r => rowsL_iff (r := r)
  | (k, .drop) :: r => rowsL_iff (r := r)
theorem writes_iff {H : Hnt} {t : Nat} : ∀ {c : Code} {b : Nat} {l : List Nat}, memN t (writes H c b l) = true ↔ wrP H c b t ∨ memN t l = true := by
  intro c
  induction c with
  | region id ops d => intro b l; exact dstsL_iff
  | seq x y ih1 ih2 => intro b l; simp only [writes, wrP, ih1, ih2, or_assoc]
  | cond c x y ih1 ih2 => intro b l; simp only [writes, wrP, ih1, ih2, or_assoc]
  | block id c ih => intro b l; exact ih
  | loop c ih => intro b l; simp only [writes, wrP, rowsL_iff, ih, or_assoc]
  | _ => intro b l; simp [writes, wrP]

/- Heads: the form of the states at the head of a loop, or where branches join -/

structure Head where
  ts : List Nat
  shp : Shp
  keep : List (Nat × Option AV)
def zipE : List Nat → AV → List (Nat × Option AV) → List (Nat × Option AV)
  | t :: ts, .cons a r, k => (t, some a) :: zipE ts r k
  | _, _, k => k
def Head.st (L : Head) (x : L.shp.X) : St := ⟨[], zipE L.ts (L.shp.avsOf x) L.keep, L.shp.heapOf x, L.shp.nx⟩
def gather (env : List (Nat × Option AV)) : List Nat → Option AV
  | [] => some .nil
  | t :: ts => match find env t with
    | some (some a) => match gather env ts with
      | some r => some (.cons a r)
      | none => none
    | _ => none
def keepL (W : List Nat) : List (Nat × Option AV) → List (Nat × Option AV)
  | [] => []
  | (t, none) :: r => (t, none) :: keepL W r
  | (t, some a) :: r => cond (memN t W) (keepL W r) ((t, cond (idFree a) (some a) none) :: keepL W r)
def okTs (W : List Nat) (env : List (Nat × Option AV)) : List Nat → Bool
  | [] => true
  | t :: r => cond (memN t W) (okTs W env r) (match find env t with
    | some (some a) => cond (idFree a) false (okTs W env r)
    | _ => okTs W env r)
/-- The data of a state that has the head's form. -/
def Head.take (base : Nat) (L : Head) (st : St) : Option (Bool × L.shp.X) :=
  match gather st.env L.ts with
  | some a => match capture base false st.heap L.shp a with
    | some (_, ob, x) => some (ob, x)
    | none => none
  | none => none

def joinAV : AV → AV → Option AV
  | .imm t x, .imm u y => cond (Ty.eqb t u) (some (.imm t x)) (match t, u with
    | .tslice e, .slice e' => cond (Ty.eqb e e') (some (.imm (.slice e') [])) none
    | .slice e, .tslice e' => cond (Ty.eqb e e') (some (.imm (.slice e) [])) none
    | _, _ => none)
  | .imm t x, .const (.slice none 0 0) => some (.imm t x)
  | .const (.slice none 0 0), .imm t x => some (.imm t x)
  | .const u, .const v => cond (constEq u v) (some (.const u)) none
  | .view i e lo l, .view j e' _ _ => cond (Ty.eqb e e') (cond (Nat.beq i j) (some (.view i e lo l)) (some (.imm (.slice e) []))) none
  | .view _ e _ _, .const (.slice none 0 0) => some (.imm (.slice e) [])
  | .const (.slice none 0 0), .view _ e _ _ => some (.imm (.slice e) [])
  | .view _ e _ _, .imm _ _ => some (.imm (.slice e) [])
  | .imm _ _, .view _ e _ _ => some (.imm (.slice e) [])
  | .ptr i o, .ptr j o' => cond (Nat.beq i j && Nat.beq o o') (some (.ptr i o)) none
  | .aptr i e, .aptr j e' => cond (Nat.beq i j && Ty.eqb e e') (some (.aptr i e)) none
  | .iptr t x, .iptr t' _ => cond (Ty.eqb t t') (some (.iptr t x)) none
  | .agg l, .agg l' => match joinAV l l' with
    | some r => some (.agg r)
    | none => none
  | .tup l, .tup l' => match joinAV l l' with
    | some r => some (.tup r)
    | none => none
  | .fn f l, .fn f' l' => cond (Nat.beq f f') (match joinAV l l' with
    | some r => some (.fn f r)
    | none => none) none
  | .nil, .nil => some .nil
  | .cons h t, .cons h' t' => match joinAV h h', joinAV t t' with
    | some a, some b => some (.cons a b)
    | _, _ => none
  | _, _ => none
def joinOB : OB → OB → Option OB
  | .cells l, .cells l' => match joinAV l l' with
    | some r => some (.cells r)
    | none => none
  | .row e xs, .row e' _ => cond (Ty.eqb e e') (some (.row e xs)) none
  | _, _ => none

def overOf (t : Nat) : List (Nat × Over) → Option Over
  | [] => none
  | (k, o) :: r => cond (Nat.beq t k) (some o) (overOf t r)
/-- What is captured of the temporaries that are known: those that are written, and those that name objects. -/
def pickT (W : List Nat) (ov : List (Nat × Over)) (ea eb : List (Nat × Option AV)) : List (Nat × Option AV) → List Nat → List (Nat × AV)
  | [], _ => []
  | (_, none) :: r, seen => pickT W ov ea eb r seen
  | (t, some a0) :: r, seen => cond (memN t seen) (pickT W ov ea eb r seen) (cond (cond (memN t W) true (!idFree a0))
      (match find ea t, find eb t with
        | some (some a), some (some b) => match overOf t ov with
          | some .drop => pickT W ov ea eb r (t :: seen)
          | some (.shape s) => (t, s) :: pickT W ov ea eb r (t :: seen)
          | _ => match joinAV a b with
            | some s => (t, s) :: pickT W ov ea eb r (t :: seen)
            | none => pickT W ov ea eb r (t :: seen)
        | _, _ => pickT W ov ea eb r (t :: seen))
      (pickT W ov ea eb r (t :: seen)))
/-- Temporaries that both branches write and that were not known before. -/
def pickW (ov : List (Nat × Over)) (ea eb : List (Nat × Option AV)) : List Nat → List (Nat × AV) → List (Nat × AV)
  | [], l => l
  | t :: r, l => cond (memN t (l.map (·.1))) (pickW ov ea eb r l) (match overOf t ov with
    | some .drop => pickW ov ea eb r l
    | _ => match find ea t, find eb t with
      | some (some a), some (some b) => match joinAV a b with
        | some s => pickW ov ea eb r ((t, s) :: l)
        | none => pickW ov ea eb r l
      | _, _ => pickW ov ea eb r l)
def idsA : AV → List Nat → List Nat
  | .ptr i _, l => i :: l
  | .eptr i _ _ _, l => i :: l
  | .view i _ _ _, l => i :: l
  | .aptr i _, l => i :: l
  | .agg a, l => idsA a l
  | .tup a, l => idsA a l
  | .fn _ a, l => idsA a l
  | .cons h t, l => idsA h (idsA t l)
  | _, l => l
/-- The objects that are reached. -/
def reach (ha hb : List (Nat × OB)) : Nat → List Nat → List Nat → List (Nat × OB)
  | 0, _, _ => []
  | _, [], _ => []
  | n + 1, i :: todo, done => cond (memN i done) (reach ha hb n todo done) (match find ha i, find hb i with
    | some a, some b => match joinOB a b with
      | some (.cells l) => (i, .cells l) :: reach ha hb n (todo ++ idsA l []) (i :: done)
      | some o => (i, o) :: reach ha hb n todo (i :: done)
      | none => reach ha hb n todo (i :: done)
    | _, _ => reach ha hb n todo (i :: done))
def avsL : List (Nat × AV) → AV
  | [] => .nil
  | (_, a) :: r => .cons a (avsL r)
def mkHead (W : List Nat) (ov : List (Nat × Over)) (more : Bool) (st sa sb : St) : Head :=
  let ps := cond more (pickW ov sa.env sb.env W (pickT W ov sa.env sb.env st.env [])) (pickT W ov sa.env sb.env st.env [])
  ⟨ps.map (·.1), ⟨avsL ps, reach sa.heap sb.heap 200 (idsA (avsL ps) []) [], cond (Nat.ble sa.nx sb.nx) sb.nx sa.nx⟩, keepL W st.env⟩

theorem gather_sound {c : Cx} {env : List (Nat × Option AV)} {g : Nat → Value} (henv : ∀ t x, find env t = some (some x) → AVR c x [g t]) : ∀ {ts : List Nat} {a : AV}, gather env ts = some a → AVR c a (ts.map g)
  | [], a, h => by simp only [gather, Option.some.injEq] at h; subst h; trivial
  | t :: ts, a, h => by
    simp only [gather] at h
    split at h
    · rename_i x hx
      cases hr : gather env ts with
      | none => rw [hr] at h; cases h
      | some r =>
        rw [hr] at h
        simp only [Option.some.injEq] at h
        subst h
        exact ⟨henv t x hx, gather_sound henv hr⟩
    · cases h
theorem zipE_sound {c : Cx} {g : Nat → Value} {k : List (Nat × Option AV)} {t : Nat} {x : AV} : ∀ {ts : List Nat} {a : AV}, AVR c a (ts.map g) → find (zipE ts a k) t = some (some x) → AVR c x [g t] ∨ find k t = some (some x)
  | [], a, _, h => by cases a <;> exact .inr h
  | u :: ts, a, hv, h => by
    cases a <;> try (exact .inr h)
    rename_i y r
    obtain ⟨h1, h2⟩ := hv
    have h' : find ((u, some y) :: zipE ts r k) t = some (some x) := h
    rw [find_cons] at h'
    by_cases e : u = t
    · rw [if_pos e] at h'
      cases h'
      subst e
      exact .inl h1
    · rw [if_neg e] at h'
      exact zipE_sound h2 h'
theorem zipE_out {k : List (Nat × Option AV)} {t : Nat} : ∀ {ts : List Nat} {a : AV}, memN t ts = false → find (zipE ts a k) t = find k t
  | [], a, _ => by cases a <;> rfl
  | u :: ts, a, h => by
    cases a <;> try rfl
    rename_i y r
    simp only [memN] at h
    cases hb : Nat.beq t u with
    | true => rw [hb] at h; cases h
    | false =>
      rw [hb] at h
      show find ((u, some y) :: zipE ts r k) t = _
      rw [find_cons, if_neg (fun e => by subst e; simp at hb)]
      exact zipE_out h
theorem keepL_find {W : List Nat} {t : Nat} {x : AV} : ∀ {env : List (Nat × Option AV)}, find (keepL W env) t = some (some x) → memN t W = false ∧ idFree x = true ∧ find env t = some (some x)
  | [], h => by simp [keepL, find] at h
  | (k, none) :: r, h => by
    simp only [keepL] at h
    rw [find_cons] at h ⊢
    by_cases e : k = t
    · rw [if_pos e] at h; cases h
    · rw [if_neg e] at h ⊢; exact keepL_find h
  | (k, some a) :: r, h => by
    simp only [keepL] at h
    cases hm : memN k W with
    | true =>
      rw [hm] at h
      simp only [cond_true] at h
      obtain ⟨h1, h2, h3⟩ := keepL_find h
      refine ⟨h1, h2, ?_⟩
      rw [find_cons, if_neg (fun e => by subst e; rw [hm] at h1; cases h1)]
      exact h3
    | false =>
      rw [hm] at h
      simp only [cond_false] at h
      rw [find_cons] at h ⊢
      by_cases e : k = t
      · rw [if_pos e] at h ⊢
        subst e
        cases hf : idFree a with
        | false => rw [hf] at h; cases h
        | true => rw [hf] at h; simp only [cond_true, Option.some.injEq] at h; subst h; exact ⟨hm, hf, rfl⟩
      · rw [if_neg e] at h ⊢; exact keepL_find h
theorem keepL_of {W : List Nat} {t : Nat} {x : AV} (hn : memN t W = false) (hx : idFree x = true) : ∀ {env : List (Nat × Option AV)}, find env t = some (some x) → find (keepL W env) t = some (some x)
  | (k, none) :: r, h => by
    simp only [keepL]
    rw [find_cons] at h ⊢
    by_cases e : k = t
    · rw [if_pos e] at h; cases h
    · rw [if_neg e] at h ⊢; exact keepL_of hn hx h
  | (k, some a) :: r, h => by
    simp only [keepL]
    rw [find_cons] at h
    by_cases e : k = t
    · rw [if_pos e] at h
      simp only [Option.some.injEq] at h
      subst h; subst e
      rw [hn]
      simp only [cond_false]
      rw [find_cons, if_pos rfl, hx]
      rfl
    · rw [if_neg e] at h
      cases hm : memN k W with
      | true => exact keepL_of hn hx h
      | false =>
        simp only [cond_false]
        rw [find_cons, if_neg e]
        exact keepL_of hn hx h
theorem okTs_sound {W : List Nat} {env : List (Nat × Option AV)} {t : Nat} {x : AV} (hn : memN t W = false) (hx : idFree x = true) (he : find env t = some (some x)) : ∀ {ts : List Nat}, okTs W env ts = true → memN t ts = false
  | [], _ => rfl
  | u :: ts, h => by
    simp only [okTs] at h
    simp only [memN]
    cases hb : Nat.beq t u with
    | true =>
      have := Nat.eq_of_beq_eq_true hb
      subst this
      rw [hn, he] at h
      simp only [cond_false, hx, cond_true] at h
      cases h
    | false =>
      cases hm : memN u W with
      | true => rw [hm] at h; exact okTs_sound hn hx he h
      | false =>
        rw [hm] at h
        simp only [cond_false] at h
        split at h
        · rename_i a ha
          cases hf : idFree a with
          | true => rw [hf] at h; cases h
          | false => rw [hf] at h; exact okTs_sound hn hx he h
        · exact okTs_sound hn hx he h

/-- A state is one of the head's form. -/
theorem Head.take_sound {fr : Frm} {m : Nat → Option Nat × Nat} {st : St} {a : Act} {w : World} (hF : Fits fr m st a w) (hl : st.loc = []) {L : Head} {x : L.shp.X} (h : L.take fr.base st = some (true, x))
    (hk : ∀ t v, find L.keep t = some (some v) → idFree v = true ∧ find st.env t = some (some v)) : ∃ m', Fits fr m' (L.st x) a w := by
  unfold Head.take at h
  cases hg : gather st.env L.ts with
  | none => rw [hg] at h; cases h
  | some av =>
    rw [hg] at h
    simp only at h
    cases hc : capture fr.base false st.heap L.shp av with
    | none => rw [hc] at h; cases h
    | some q =>
      obtain ⟨ρ, ob, x'⟩ := q
      rw [hc] at h
      simp only [Option.some.injEq, Prod.mk.injEq] at h
      obtain ⟨rfl, rfl⟩ := h
      obtain ⟨m', hm⟩ := capture_sound hF.heap hc
      obtain ⟨k1, k2, k3⟩ := hm (L.st x') rfl rfl
      have envAt : ∀ u x, find st.env u = some (some x) → AVR (cx fr m st w) x [a.tmps.getD u undef] := fun u x hu => hF.env u (.av x) (by rw [look_env hl, hu])
      refine ⟨m', hF.reEnv (st' := L.st x') rfl k1 fun t v hv => ?_⟩
      rcases zipE_sound (k3 _ (gather_sound envAt hg)) hv with h1 | h1
      · exact h1
      · obtain ⟨q1, q2⟩ := hk t v h1
        exact AVR.free (c := cx fr m st w) (d := cx fr m' (L.st x') w) k2 rfl q1 (envAt t v q2)

end Go.Proofs.YtlkggeaibgaohaaGreatDoor.Sim
