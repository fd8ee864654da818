/- Calls of functions that only compute; all operations that turn nothing. -/
import Derived.Test.YtlkggeaibgaohaaGreatDoorSimL
namespace Go.Proofs.YtlkggeaibgaohaaGreatDoor.Sim
open Go Go.RowKit

/-- What a function that only computes gives, for arguments that fit. -/
def idFree : AV → Bool
  | .imm _ _ => true
  | .const _ => true
  | .iptr _ _ => true
  | .agg l => idFree l
  | .tup l => idFree l
  | .fn _ l => idFree l
  | .nil => true
  | .cons h t => idFree h && idFree t
  | _ => false
/-- Types whose data need no memory. -/
def Ty.isFlat : Ty → Bool
  | .int _ => true
  | .bool => true
  | .str => true
  | .unit => true
  | .pair a b => a.isFlat && b.isFlat
  | .struct b => b.isFlat
  | .arr _ e => e.isFlat
  | _ => false
/-- Values that need no memory. -/
def flatA : AV → Bool
  | .imm t _ => t.isFlat
  | .const _ => true
  | .agg l => flatA l
  | .tup l => flatA l
  | .fn _ l => flatA l
  | .nil => true
  | .cons h t => flatA h && flatA t
  | _ => false
structure PSpec where
  modes : List (Option Ty)
  X : Type
  dflt : X
  outA : X → AV
  flat : Bool
  run : AV → Option (Option X)
  free : ∀ x, idFree (outA x) = true
  flatOk : flat = true → ∀ x, flatA (outA x) = true
def noIds : Nat → Option Nat × Nat := fun _ => (none, 0)
/-- A setting without objects of one's own. -/
def bare (O : Nat → Prop) (w : World) : Cx := ⟨O, noIds, 0, w⟩

def GlobOk (gl : Nat → Option (Σ t : Ty, t.den)) (O : Nat → Prop) (w : World) : Prop :=
  ∀ g t x, gl g = some ⟨t, x⟩ → AVR (bare O w) (.iptr t x) [.pointer (some ⟨g, 0, none⟩)]

def Enters (P : Program) (g : FuncId) : Prop := ∃ fn, P.funcs[g]? = some fn ∧ (fn.name == "runtime.NumGoroutine") = false ∧ fn.body.isNone = false

/-- The specification holds of the program's function g. -/
structure PSound (G : Pg) (g : FuncId) (s : PSpec) : Prop where
  enters : Enters G.P g
  calls : ∀ (args : AV) (y : s.X), s.run args = some (some y) → ∀ (O : Nat → Prop) (w : World) (vals : List Value), (∀ b, O b → b < w.heap.size) → GlobOk G.gl O w →
    AVR (bare O w) args vals → Calls G.P g vals.toArray w fun e w' => ∃ v, e = .returned v ∧ Below w.heap.size w w' ∧ AVR (bare O w') (s.outA y) [v]

theorem AVR.free {c d : Cx} (hO : ∀ b, d.O b → c.O b) (hw : d.w = c.w) : ∀ {a : AV} {vs : List Value}, idFree a = true → AVR c a vs → AVR d a vs := by
  have mv : Moves c.O c.w d.O d.w := by rw [hw]; exact Moves.sub _ hO
  intro a
  induction a with
  | imm t x => intro vs _ h; match vs, h with | [v], h => exact ValRep.move mv h
  | const u => intro vs _ h; match vs, h with | [v], h => exact h
  | iptr t x =>
    intro vs _ h
    match vs, h with
    | [v], ⟨b, off, cs, hv, hOb, hr, hs, hc⟩ => exact ⟨b, off, cs, hv, fun k => hOb (hO b k), hr.move mv, hs, fun j hj => by rw [hw]; exact hc j hj⟩
  | ptr _ _ => intro vs h; cases h
  | eptr _ _ _ _ => intro vs h; cases h
  | view _ _ _ _ => intro vs h; cases h
  | aptr _ _ => intro vs h; cases h
  | agg l ih => intro vs hf h; match vs, h with | [v], ⟨cs, hv, hc⟩ => exact ⟨cs, hv, ih hf hc⟩
  | tup l ih => intro vs hf h; match vs, h with | [v], ⟨cs, hv, hc⟩ => exact ⟨cs, hv, ih hf hc⟩
  | fn f l ih => intro vs hf h; match vs, h with | [v], ⟨cs, hv, hc⟩ => exact ⟨cs, hv, ih hf hc⟩
  | nil => intro vs _ h; match vs, h with | [], _ => trivial
  | cons x y ihx ihy =>
    intro vs hf h
    simp only [idFree, Bool.and_eq_true] at hf
    match vs, h with
    | v :: vs, ⟨h1, h2⟩ => exact ⟨ihx hf.1 h1, ihy hf.2 h2⟩

theorem Rep.flat {O O' : Nat → Prop} {w w' : World} {t : Ty} {cs : List Value} {x : t.den} (h : Rep O w t cs x) : t.isFlat = true → Rep O' w' t cs x := by
  induction h with
  | int h => intro _; exact .int h
  | bool b => intro _; exact .bool b
  | str h => intro _; exact .str h
  | unit => intro _; exact .unit
  | pair _ _ ih1 ih2 => intro hf; simp only [Ty.isFlat, Bool.and_eq_true] at hf; exact .pair (ih1 hf.1) (ih2 hf.2)
  | struct _ ih => intro hf; exact .struct (ih hf)
  | slice => intro hf; cases hf
  | tslice _ _ => intro hf; cases hf
  | arr cells hn _ ih => intro hf; exact .arr cells hn fun i hi => ih i hi hf
  | named _ _ => intro hf; cases hf
theorem AVR.flat {c d : Cx} : ∀ {a : AV} {vs : List Value}, flatA a = true → AVR c a vs → AVR d a vs := by
  intro a
  induction a with
  | imm t x =>
    intro vs hf h
    match vs, h with
    | [v], ⟨cs, hr, hv⟩ => exact ⟨cs, hr.flat hf, hv⟩
  | const u =>
    intro vs _ h
    match vs, h with
    | [v], h => exact h
  | agg l ih =>
    intro vs hf h
    match vs, h with
    | [v], ⟨cs, hv, hl⟩ => exact ⟨cs, hv, ih hf hl⟩
  | tup l ih =>
    intro vs hf h
    match vs, h with
    | [v], ⟨cs, hv, hl⟩ => exact ⟨cs, hv, ih hf hl⟩
  | fn f l ih =>
    intro vs hf h
    match vs, h with
    | [v], ⟨cs, hv, hl⟩ => exact ⟨cs, hv, ih hf hl⟩
  | nil =>
    intro vs _ h
    match vs, h with
    | [], _ => trivial
  | cons a l ih1 ih2 =>
    intro vs hf h
    rw [flatA, Bool.and_eq_true] at hf
    match vs, h with
    | v :: vs, ⟨h1, h2⟩ => exact ⟨ih1 hf.1 h1, ih2 hf.2 h2⟩
  | _ => intro vs hf _; cases hf

/-- Arguments as a specification wants them: as data, or as they are. -/
def conv (hp : List (Nat × OB)) : List (Option Ty) → AV → Option AV
  | [], .nil => some .nil
  | some t :: ms, .cons a r => match a.get hp t with
    | none => none
    | some x => match conv hp ms r with
      | none => none
      | some l => some (.cons (.imm t x) l)
  | none :: ms, .cons a r => match conv hp ms r with
    | none => none
    | some l => some (.cons a l)
  | _, _ => none

theorem conv_sound {c : Cx} {hp : List (Nat × OB)} {O : Nat → Prop} (hL : Lends c hp O) : ∀ {ms : List (Option Ty)} {a l : AV} {vs : List Value}, conv hp ms a = some l → idFree l = true → AVR c a vs →
    AVR (bare O c.w) l vs
  | [], a, l, vs, h, _, hv => by
    cases a <;> simp only [conv, Option.some.injEq, reduceCtorEq] at h
    subst h
    match vs, hv with
    | [], _ => trivial
  | some t :: ms, a, l, vs, h, hf, hv => by
    cases a <;> simp only [conv, reduceCtorEq] at h
    rename_i a r
    cases h1 : a.get hp t with
    | none => rw [h1] at h; cases h
    | some x =>
      rw [h1] at h
      simp only at h
      cases h2 : conv hp ms r with
      | none => rw [h2] at h; cases h
      | some l' =>
        rw [h2] at h
        simp only [Option.some.injEq] at h
        subst h
        simp only [idFree, Bool.true_and] at hf
        match vs, hv with
        | v :: vs, ⟨k1, k2⟩ => exact ⟨AV.get_sound hL h1 k1, conv_sound hL h2 hf k2⟩
  | none :: ms, a, l, vs, h, hf, hv => by
    cases a <;> simp only [conv, reduceCtorEq] at h
    rename_i a r
    cases h2 : conv hp ms r with
    | none => rw [h2] at h; cases h
    | some l' =>
      rw [h2] at h
      simp only [Option.some.injEq] at h
      subst h
      simp only [idFree, Bool.and_eq_true] at hf
      match vs, hv with
      | v :: vs, ⟨k1, k2⟩ => exact ⟨AVR.free (d := bare O c.w) hL.sub rfl hf.1 k1, conv_sound hL h2 hf.2 k2⟩

def AV.append : AV → AV → AV
  | .cons h t, r => .cons h (AV.append t r)
  | _, r => r
def isList : AV → Bool
  | .nil => true
  | .cons _ t => isList t
  | _ => false
theorem AV.append_list {c : Cx} : ∀ {l r : AV} {vs us : List Value}, isList l = true → AVR c l vs → AVR c r us → AVR c (l.append r) (vs ++ us) := by
  intro l
  induction l with
  | nil => intro r vs us _ h k; match vs, h with | [], _ => exact k
  | cons x y _ ih =>
    intro r vs us hl h k
    match vs, h with
    | v :: vs, ⟨h1, h2⟩ => exact ⟨h1, ih hl h2 k⟩
  | _ => intro r vs us hl; cases hl
theorem isList_evs {gl : Nat → Option (Σ t : Ty, t.den)} {st : St} : ∀ {l : List Operand} {a : AV}, evs gl st l = some a → isList a = true
  | [], a, h => by simp only [evs, Option.some.injEq] at h; subst h; rfl
  | x :: r, a, h => by
    simp only [evs] at h
    cases h1 : ev gl st x with
    | none => rw [h1] at h; cases h
    | some y =>
      rw [h1] at h
      cases h2 : evs gl st r with
      | none => rw [h2] at h; cases h
      | some l =>
        rw [h2] at h
        simp only [Option.some.injEq] at h
        subst h
        show isList l = true
        exact isList_evs h2

def compOf (s : PSpec) (r : Option s.X) : Comp AV := ⟨s.X, s.dflt, r, s.outA⟩

def callAV (sp : Nat → Option PSpec) (hp : List (Nat × OB)) (f args : AV) : Option (Comp AV) :=
  match f with
  | .fn g caps => match sp g with
    | some s => match conv [] s.modes (args.append caps) with
      | some l => cond (idFree l) (match s.run l with
        | some r => some (compOf s r)
        | none => none) none
      | none => match conv hp s.modes (args.append caps) with
        | some l => cond (idFree l && s.flat) (match s.run l with
          | some r => some (compOf s r)
          | none => none) none
        | none => none
    | none => none
  | _ => none

theorem run_call_enter {P : Program} {o : Oper} {a : Act} {w : World} {f : Operand} {args : Array Operand} {ts : Array TypeId} {g : FuncId} {cs : Array Value} (ho : o.op = .call ⟨.value f, args, ts⟩)
    (hf : a.eval f = .func (.func g) #[] cs) (he : Enters P g) : (execOp a.eval o).run P w = .ok (.enter g (args.map a.eval ++ cs)) w := by
  obtain ⟨fn, h1, h2, h3⟩ := he
  simp only [execOp, ho, resolve, Sem.run_bind, Sem.run_pure, Result.andThen, hf, Deferred.ofValue, invoke, callFunc, run_program, h1, h2, h3, Bool.false_eq_true, if_false, Array.empty_append]

theorem HeapOk.globOk {fr : Frm} {m : Nat → Option Nat × Nat} {st : St} {w : World} (H : HeapOk fr m st w) {O : Nat → Prop} (hO : ∀ b, O b → own fr.F m st.heap b) : GlobOk fr.gl O w :=
  fun g t x hg => AVR.free (c := cx fr m st w) (d := bare O w) hO rfl rfl (H.glob g t x hg)

theorem callAV_sound (G : Pg) {sp : Nat → Option PSpec} (hsp : ∀ g s, sp g = some s → PSound G g s) {fr : Frm} {m : Nat → Option Nat × Nat} {st : St} {a : Act} {w : World} (hgl : fr.gl = G.gl) (hF : Fits fr m st a w)
    {o : Oper} {f : Operand} {args : Array Operand} {ts : Array TypeId} (ho : o.op = .call ⟨.value f, args, ts⟩) {fa aa : AV} (hf : ev fr.gl st f = some fa) (ha : evs fr.gl st args.toList = some aa) {cp : Comp AV}
    (h : callAV sp st.heap fa aa = some cp) {u : cp.X} (hu : cp.c = some u) : Runs G.P o a w fun v w' => Below w.heap.size w w' ∧ AVR (cx fr m st w') (cp.out u) [v] := by
  cases fa <;> try (cases h; done)
  rename_i g caps
  simp only [callAV] at h
  cases hs : sp g with
  | none => rw [hs] at h; cases h
  | some s =>
  rw [hs] at h
  simp only at h
  have S := hsp g s hs
  obtain ⟨cs, hfv, hcaps⟩ := ev_sound hF hf
  have hargs := evs_sound hF ha
  have hall : AVR (cx fr m st w) (aa.append caps) (args.toList.map a.eval ++ cs.toList) := AV.append_list (isList_evs ha) hargs hcaps
  have harr : (args.toList.map a.eval ++ cs.toList).toArray = args.map a.eval ++ cs := by apply Array.ext'; simp
  have fin : ∀ {O : Nat → Prop} {l : AV} {y : s.X}, (∀ b, O b → own fr.F m st.heap b) → AVR (bare O w) l (args.toList.map a.eval ++ cs.toList) → s.run l = some (some y) →
      (∀ w' v, Below w.heap.size w w' → AVR (bare O w') (s.outA y) [v] → AVR (cx fr m st w') (s.outA y) [v]) →
      Runs G.P o a w fun v w' => Below w.heap.size w w' ∧ AVR (cx fr m st w') (s.outA y) [v] := by
    intro O l y hO hl hr hback
    refine .inr ⟨g, args.map a.eval ++ cs, w, run_call_enter ho hfv S.enters, ?_⟩
    rw [← harr]
    refine (S.calls l y hr O w _ (fun b hb => own_lt hF.heap (hO b hb)) (by rw [← hgl]; exact hF.heap.globOk hO) hl).mono fun e w' ⟨v, he, hb, hv⟩ => ⟨v, he, hb, hback w' v hb hv⟩
  cases h1 : conv [] s.modes (aa.append caps) with
  | some l =>
    rw [h1] at h
    simp only at h
    cases hid : idFree l with
    | false => rw [hid] at h; cases h
    | true =>
      rw [hid] at h
      simp only [cond_true] at h
      cases hr : s.run l with
      | none => rw [hr] at h; cases h
      | some r =>
        rw [hr] at h
        simp only [Option.some.injEq] at h
        subst h
        have hu' : r = some u := hu
        have hr' : s.run l = some (some u) := by rw [hr]; exact congrArg some hu'
        exact fin (O := own fr.F m st.heap) (fun _ h => h) (conv_sound (Lends.none (cx fr m st w)) h1 hid hall) hr' fun w' v _ hv =>
          AVR.free (c := bare (own fr.F m st.heap) w') (d := cx fr m st w') (fun _ h => h) rfl (s.free _) hv
  | none =>
    rw [h1] at h
    simp only at h
    cases h2 : conv st.heap s.modes (aa.append caps) with
    | none => rw [h2] at h; cases h
    | some l =>
      rw [h2] at h
      simp only at h
      cases hid : (idFree l && s.flat) with
      | false => rw [hid] at h; cases h
      | true =>
        rw [hid] at h
        simp only [cond_true] at h
        rw [Bool.and_eq_true] at hid
        cases hr : s.run l with
        | none => rw [hr] at h; cases h
        | some r =>
          rw [hr] at h
          simp only [Option.some.injEq] at h
          subst h
          have hu' : r = some u := hu
          have hr' : s.run l = some (some u) := by rw [hr]; exact congrArg some hu'
          have hL : Lends (cx fr m st w) st.heap fr.F := ⟨fun b hb => .inl hb, fun id o' hf' => (hF.heap.obj id o' hf').2, fun id o' b hf' hb => (hF.heap.apart id o' b hf' hb).1⟩
          exact fin (O := fr.F) (fun b hb => .inl hb) (conv_sound hL h2 hid.1 hall) hr' fun w' v _ hv => AVR.flat (s.flatOk hid.2 _) hv

end Go.Proofs.YtlkggeaibgaohaaGreatDoor.Sim
