/- The operations that turn objects; one operation of a region; a region in order. -/
import Derived.Test.YtlkggeaibgaohaaGreatDoorSimWC
namespace Go.Proofs.YtlkggeaibgaohaaGreatDoor.Sim
open Go Go.RowKit

/-- What the interpreter is handed: the program; what is known of its functions; which appends give rows of the call's own. -/
structure Env where
  G : Pg
  sp : Nat → Option PSpec
  es : Nat → List Sig
  own : Nat → Bool

structure Env.Ok (E : Env) : Prop where
  sp : ∀ g s, E.sp g = some s → PSound E.G g s
  es : ∀ g s, s ∈ E.es g → ESound E.G g s

def ow1 (gl : Nat → Option (Σ t : Ty, t.den)) (st : St) (x : Operand) (f : AV → Option (Comp Eff)) : Option (Comp Eff) :=
  match ev gl st x with
  | some a => f a
  | none => none
def ow2 (gl : Nat → Option (Σ t : Ty, t.den)) (st : St) (x y : Operand) (f : AV → AV → Option (Comp Eff)) : Option (Comp Eff) :=
  match ev gl st x with
  | some a => match ev gl st y with
    | some b => f a b
    | none => none
  | none => none
theorem ow1_some {gl : Nat → Option (Σ t : Ty, t.den)} {st : St} {x : Operand} {f : AV → Option (Comp Eff)} {cp : Comp Eff} (h : ow1 gl st x f = some cp) : ∃ a, ev gl st x = some a ∧ f a = some cp := by
  unfold ow1 at h
  cases hx : ev gl st x with
  | none => rw [hx] at h; cases h
  | some a => rw [hx] at h; exact ⟨a, rfl, h⟩
theorem ow2_some {gl : Nat → Option (Σ t : Ty, t.den)} {st : St} {x y : Operand} {f : AV → AV → Option (Comp Eff)} {cp : Comp Eff} (h : ow2 gl st x y f = some cp) :
    ∃ a b, ev gl st x = some a ∧ ev gl st y = some b ∧ f a b = some cp := by
  unfold ow2 at h
  cases hx : ev gl st x with
  | none => rw [hx] at h; cases h
  | some a =>
    rw [hx] at h
    cases hy : ev gl st y with
    | none => rw [hy] at h; cases h
    | some b => rw [hy] at h; exact ⟨a, b, rfl, rfl, h⟩

def ownOf (E : Env) : Option Nat → Bool
  | some d => E.own d
  | none => true

def effOp (E : Env) (st : St) (dst : Option Nat) (op : Op) : Option (Comp Eff) :=
  match op with
  | .alloc t => allocE E.G st t
  | .box _ x => ow1 E.G.gl st x (boxE st)
  | .store t a v => ow2 E.G.gl st a v (storeE E.G st t)
  | .makeSlice t l c => ow2 E.G.gl st l c (makeE E.G st t)
  | .slice t x lo hi (some mx) => match evO E.G.gl st lo, evO E.G.gl st hi, evO E.G.gl st (some mx) with
    | some l, some h, some m => ow1 E.G.gl st x fun a => sliceFzE E.G st t (norm a) l h m
    | _, _, _ => none
  | .call ⟨.builtin .append, args, ts⟩ => match args.toList, ts.toList with
    | [s, x], [t, tx] => ow2 E.G.gl st s x (appendE E.G st (ownOf E dst) t tx)
    | _, _ => none
  | .call ⟨.builtin .copy, args, ts⟩ => match args.toList, ts.toList with
    | [s, x], [t, _] => ow2 E.G.gl st s x (copyE E.G st t)
    | _, _ => none
  | .call ⟨.value f, args, _⟩ => match ev E.G.gl st f, evs E.G.gl st args.toList with
    | some (.fn g caps), some aa => pickSig st (aa.append caps) (E.es g)
    | _, _ => none
  | _ => none

def RunsE (P : Program) (o : Oper) (a : Act) (w : World) (R : Value → World → Prop) : Prop :=
  Runs P o a w R ∨ ∃ w', (execOp a.eval o).run P w = .ok .skip w' ∧ R undef w'

theorem RunsE.wp {P : Program} {o : Oper} {a : Act} {w : World} {R : Value → World → Prop} {next : Act → World → Prop} {Q : Exit → Act → World → Prop}
    (h : RunsE P o a w R) (hn : ∀ v w', R v w' → next (a.put o.dst v) w') : o.wp P a w next Q := by
  rcases h with h | ⟨w', hr, hR⟩
  · exact h.wp hn
  · unfold Oper.wp
    rw [hr]
    exact hn _ _ hR

theorem pickSig_sound {G : Pg} {g : FuncId} {fr : Frm} {m : Nat → Option Nat × Nat} {st : St} {w : World} (hgl : fr.gl = G.gl) (H : HeapOk fr m st w) {a : AV} {vals : List Value} (ha : AVR (cx fr m st w) a vals) :
    ∀ {l : List Sig} {cp : Comp Eff}, (∀ s ∈ l, ESound G g s) → pickSig st a l = some cp → ∀ {u : cp.X}, cp.c = some u →
      Enters G.P g ∧ Calls G.P g vals.toArray w fun e w' => ∃ v, e = .returned v ∧ EffOk fr m st w (cp.out u) v w'
  | [], cp, _, h, u, _ => by cases h
  | s :: l, cp, hl, h, u, hu => by
    simp only [pickSig] at h
    cases hc : capture 0 true st.heap s.ins a with
    | none => rw [hc] at h; exact pickSig_sound hgl H ha (fun s hs => hl s (List.mem_cons_of_mem _ hs)) h hu
    | some q =>
      obtain ⟨ρ, ob, x⟩ := q
      rw [hc] at h
      simp only at h
      cases hk : (allIn ρ s.ins.nx && inHeap st.heap ρ) with
      | false => rw [hk] at h; cases h
      | true =>
        rw [hk] at h
        simp only [cond_true, Option.some.injEq] at h
        subst h
        rw [Bool.and_eq_true] at hk
        have S := hl s (List.mem_cons_self ..)
        cases ob with
        | false => cases hu
        | true =>
          have hr : s.run x = some u := hu
          exact ⟨S.enters, sig_sound G S hgl H ha hc hk.1 hk.2 hr⟩

theorem effOp_sound {E : Env} (hE : E.Ok) {fr : Frm} {m : Nat → Option Nat × Nat} {st : St} {a : Act} {w : World} (hgl : fr.gl = E.G.gl) (hF : Fits fr m st a w)
    {o : Oper} {dst : Option Nat} {cp : Comp Eff} (h : effOp E st dst o.op = some cp) {u : cp.X} (hu : cp.c = some u) : RunsE E.G.P o a w fun v w' => EffOk fr m st w (cp.out u) v w' := by
  generalize ho : o.op = op at h
  unfold effOp at h
  rw [← hgl] at h
  split at h
  · rename_i t
    obtain ⟨r, w', hr, he⟩ := allocE_sound E.G hF.heap h (u := u)
    exact .inl (Runs.of_run (v := r) (w' := w') (by simp only [execOp, ho, Sem.run_bind, hr, Result.andThen]; rfl) he)
  · rename_i t x
    obtain ⟨av, h1, h2⟩ := ow1_some h
    obtain ⟨r, w', hr, he⟩ := boxE_sound E.G hF.heap h2 (u := u) (ev_sound hF h1) t
    exact .inl (Runs.of_run (v := r) (w' := w') (by simp only [execOp, ho, Sem.run_bind, hr, Result.andThen]; rfl) he)
  · rename_i t x y
    obtain ⟨av, bv, h1, h2, h3⟩ := ow2_some h
    obtain ⟨w', hr, he⟩ := storeE_sound E.G hF.heap h3 (u := u) (ev_sound hF h1) (ev_sound hF h2)
    exact .inr ⟨w', by simp only [execOp, ho, Sem.run_bind, hr, Result.andThen]; rfl, he⟩
  · rename_i t l c
    obtain ⟨av, bv, h1, h2, h3⟩ := ow2_some h
    obtain ⟨v, w', hr, he⟩ := makeE_sound E.G hF.heap h3 hu (ev_sound hF h1) (ev_sound hF h2)
    exact .inl (Runs.of_run (v := v) (w' := w') (by simp only [execOp, ho, Sem.run_bind, hr, Result.andThen]; rfl) he)
  · rename_i t x lo hi mx
    split at h
    · rename_i l hh mm h1 h2 h3
      obtain ⟨av, q1, q2⟩ := ow1_some h
      obtain ⟨s1, _⟩ := evO_sound hF h1
      obtain ⟨s2, _⟩ := evO_sound hF h2
      obtain ⟨s3, _⟩ := evO_sound hF h3
      obtain ⟨v, hr, he⟩ := sliceFzE_sound E.G hF.heap q2 hu (norm_sound (ev_sound hF q1)) s1 s2 s3
      exact .inl (Runs.of_run (v := v) (by simp only [execOp, ho, Sem.run_bind, hr, Result.andThen]; rfl) he)
    · cases h
  · rename_i args ts
    split at h
    · rename_i s x t tx e1 e2
      obtain ⟨av, bv, h1, h2, h3⟩ := ow2_some h
      have a1 : args = #[s, x] := by apply Array.ext'; simpa using e1
      have a2 : ts = #[t, tx] := by apply Array.ext'; simpa using e2
      subst a1; subst a2
      obtain ⟨v, w', hr, he⟩ := appendE_sound E.G hF.heap (ty := o.type) h3 hu (ev_sound hF h1) (ev_sound hF h2)
      exact .inl (Runs.of_run (v := v) (run_call_builtin ho _ (fun cs => rfl) (by simpa using hr)) he)
    · cases h
  · rename_i args ts
    split at h
    · rename_i s x t tx e1 e2
      obtain ⟨av, bv, h1, h2, h3⟩ := ow2_some h
      have a1 : args = #[s, x] := by apply Array.ext'; simpa using e1
      have a2 : ts = #[t, tx] := by apply Array.ext'; simpa using e2
      subst a1; subst a2
      obtain ⟨v, w', hr, he⟩ := copyE_sound E.G hF.heap (sT := tx) (ty := o.type) h3 (u := u) (ev_sound hF h1) (ev_sound hF h2)
      exact .inl (Runs.of_run (v := v) (run_call_builtin ho _ (fun cs => rfl) (by simpa using hr)) he)
    · cases h
  · rename_i f args ts
    split at h
    · rename_i g caps aa h1 h2
      obtain ⟨cs, hfv, hcaps⟩ := ev_sound hF h1
      have hargs := evs_sound hF h2
      have hall : AVR (cx fr m st w) (aa.append caps) (args.toList.map a.eval ++ cs.toList) := AV.append_list (isList_evs h2) hargs hcaps
      have harr : (args.toList.map a.eval ++ cs.toList).toArray = args.map a.eval ++ cs := by apply Array.ext'; simp
      obtain ⟨h3, h4⟩ := pickSig_sound hgl hF.heap hall (hE.es g) h hu
      rw [harr] at h4
      exact .inl (.inr ⟨g, args.map a.eval ++ cs, w, run_call_enter ho hfv h3, h4⟩)
    · cases h
  · cases h

/- One operation of a region -/

def putDst (st : St) : Option Nat → EV → St
  | some d, e => st.set d e
  | none, _ => st
def dstOk (nt : Nat) (st : St) : Option Nat → Bool
  | none => true
  | some d => cond (Nat.blt d nt) (match find st.loc d with | none => true | some _ => false) false

/-- Which guards hold where this one does; whether it does. -/
def ctxG : Nat → St → Nat → Bool → Option (List (Nat × Bool) × Bool)
  | 0, _, _, _ => none
  | n + 1, st, t, want => match find st.loc t with
    | some (.av (.imm .bool g)) => some ([(t, want)], cond want g (!g))
    | some (.when t' w' (.imm .bool g)) => match ctxG n st t' w' with
      | some (l, b) => some ((t, want) :: l, cond b (cond want g (!g)) false)
      | none => none
    | _ => none
def memG (t : Nat) (b : Bool) : List (Nat × Bool) → Bool
  | [] => false
  | (u, c) :: r => cond (Nat.beq t u && (b == c)) true (memG t b r)
def giveL (l : List (Nat × Bool)) : List (Nat × EV) → List (Nat × EV)
  | [] => []
  | (k, .av a) :: r => (k, .av a) :: giveL l r
  | (k, .when t w a) :: r => cond (memG t w l) ((k, .av a) :: giveL l r) ((k, .when t w a) :: giveL l r)
def St.given (st : St) (l : List (Nat × Bool)) : St := { st with loc := giveL l st.loc }

def dstOf (ops : Array Oper) (j : Nat) : Option Nat := (ops[j]?).bind (·.dst)

/-- 'pb': no more than the form of what comes is asked. -/
def bindC {α R : Type} (pb : Bool) (cp : Comp α) (K : α → Option R) : Option R := cond pb (K (cp.out cp.dflt)) (Option.bind cp.c fun u => K (cp.out u))
def split {R : Type} (pb b : Bool) (x y : Option R) : Option R := cond pb (match x with | some r => some r | none => y) (cond b x y)

/-- What a guarded computation gives: a call is asked only where the guard holds. -/
def optU {X : Type} (c : Option X) (b : Bool) (d : X) : Option X := match c with
  | some u => some u
  | none => cond b none (some d)
def isCall : Op → Bool
  | .call ⟨.value _, _, _⟩ => true
  | _ => false
def gC {X : Type} (call : Bool) (c : Option X) (b : Bool) (d : X) : Option X := cond call (cond b c (some d)) (optU c b d)
theorem gC_true {X : Type} {call : Bool} {c : Option X} {d u : X} (h : gC call c true d = some u) : c = some u := by
  cases call with
  | true => exact h
  | false =>
    cases c with
    | none => cases h
    | some x => exact h

def stepOp {R : Type} (E : Env) (nt : Nat) (pb : Bool) (ops : Array Oper) (st : St) (o : Oper) (K : St → Option R) : Option R :=
  cond (dstOk nt st o.dst) (match o.guard with
    | none => match pureOp E.G E.sp st o.op with
      | some cp => bindC pb cp fun a => K (putDst st o.dst (.av a))
      | none => match effOp E st o.dst o.op with
        | some cp => bindC pb cp fun e => K (putDst (st.upd e) o.dst (.av e.1))
        | none => none
    | some (j, want) => match dstOf ops j with
      | some t => match ctxG 8 st t want with
        | some (l, b) => match pureOp E.G E.sp (st.given l) o.op with
          | some cp => bindC pb ⟨cp.X, cp.dflt, gC (isCall o.op) cp.c b cp.dflt, cp.out⟩ fun a => K (putDst st o.dst (.when t want a))
          | none => match effOp E (st.given l) o.dst o.op with
            | some cp => split pb b (bindC pb cp fun e => K (putDst ((st.given l).upd e) o.dst (.av e.1))) (K (putDst st o.dst (.when t want (.const undef))))
            | none => none
        | none => none
      | none => none) none

/-- What nobody writes, and what names no object, is known as it was. -/
def Ext (W : Nat → Prop) (st st' : St) : Prop := ∀ t a, ¬ W t → idFree a = true → st.look t = some (.av a) → st'.look t = some (.av a)
theorem Ext.refl (W : Nat → Prop) (st : St) : Ext W st st := fun _ _ _ _ h => h
theorem Ext.trans {W W' : Nat → Prop} {a b c : St} (h : Ext W a b) (k : Ext W' b c) : Ext (fun t => W t ∨ W' t) a c :=
  fun t v hn hf hl => k t v (fun h => hn (.inr h)) hf (h t v (fun h => hn (.inl h)) hf hl)
theorem Ext.mono {W W' : Nat → Prop} {a b : St} (h : Ext W a b) (k : ∀ t, W t → W' t) : Ext W' a b := fun t v hn hf hl => h t v (fun h => hn (k t h)) hf hl

theorem giveL_find {l : List (Nat × Bool)} {t : Nat} {e : EV} : ∀ {loc : List (Nat × EV)}, find (giveL l loc) t = some e →
    find loc t = some e ∨ ∃ u want a, e = .av a ∧ memG u want l = true ∧ find loc t = some (.when u want a)
  | (k, .av a) :: r, h => by
    simp only [giveL] at h
    rw [find_cons] at h ⊢
    by_cases e' : k = t
    · rw [if_pos e'] at h ⊢; exact .inl h
    · rw [if_neg e'] at h ⊢; exact giveL_find h
  | (k, .when u want a) :: r, h => by
    simp only [giveL] at h
    cases hm : memG u want l with
    | true =>
      rw [hm] at h
      simp only [cond_true] at h
      rw [find_cons] at h ⊢
      by_cases e' : k = t
      · rw [if_pos e'] at h ⊢
        exact .inr ⟨u, want, a, (Option.some.inj h).symm, hm, rfl⟩
      · rw [if_neg e'] at h ⊢; exact giveL_find h
    | false =>
      rw [hm] at h
      simp only [cond_false] at h
      rw [find_cons] at h ⊢
      by_cases e' : k = t
      · rw [if_pos e'] at h ⊢; exact .inl h
      · rw [if_neg e'] at h ⊢; exact giveL_find h
theorem giveL_none {l : List (Nat × Bool)} {t : Nat} : ∀ {loc : List (Nat × EV)}, (find (giveL l loc) t).isSome = (find loc t).isSome
  | [] => rfl
  | (k, .av a) :: r => by
    simp only [giveL]
    rw [find_cons, find_cons]
    by_cases e' : k = t
    · rw [if_pos e', if_pos e']
    · rw [if_neg e', if_neg e']; exact giveL_none
  | (k, .when u want a) :: r => by
    simp only [giveL]
    cases memG u want l <;>
    · simp only [cond_true, cond_false]
      rw [find_cons, find_cons]
      by_cases e' : k = t
      · simp only [if_pos e', Option.isSome_some]
      · rw [if_neg e', if_neg e']; exact giveL_none

theorem memG_mem {t : Nat} {b : Bool} : ∀ {l : List (Nat × Bool)}, memG t b l = true → (t, b) ∈ l
  | (u, c) :: r, h => by
    simp only [memG] at h
    cases hb : (Nat.beq t u && (b == c)) with
    | true =>
      rw [Bool.and_eq_true] at hb
      have h1 := Nat.eq_of_beq_eq_true hb.1
      have h2 := eq_of_beq hb.2
      subst h1; subst h2
      exact List.mem_cons_self ..
    | false => rw [hb] at h; exact List.mem_cons_of_mem _ (memG_mem h)

theorem Fits.given {fr : Frm} {m : Nat → Option Nat × Nat} {st : St} {a : Act} {w : World} (h : Fits fr m st a w) {l : List (Nat × Bool)} (hl : ∀ p ∈ l, a.tmps.getD p.1 undef = .bool p.2) : Fits fr m (st.given l) a w := by
  refine ⟨h.size, h.defers, ?_, ?_, h.heap.of rfl rfl⟩
  · intro t ev hf
    have look : (∃ e, find (giveL l st.loc) t = some e ∧ e = ev) ∨ (find (giveL l st.loc) t = none ∧ (match find st.env t with | some (some a) => some (EV.av a) | _ => none) = some ev) := by
      simp only [St.look, St.given] at hf
      cases hq : find (giveL l st.loc) t with
      | none => rw [hq] at hf; exact .inr ⟨rfl, hf⟩
      | some e => rw [hq] at hf; exact .inl ⟨e, rfl, Option.some.inj hf⟩
    rcases look with ⟨e, h1, rfl⟩ | ⟨h1, h2⟩
    · rcases giveL_find h1 with h3 | ⟨u, want, x, rfl, h4, h5⟩
      · have := h.env t e (by simp only [St.look, h3])
        cases e with
        | av x => exact this
        | when u want x => exact this
      · have := h.env t (.when u want x) (by simp only [St.look, h5])
        exact this.1 (hl _ (memG_mem h4))
    · have hn : find st.loc t = none := by
        have := giveL_none (l := l) (t := t) (loc := st.loc)
        rw [h1] at this
        cases hq : find st.loc t with
        | none => rfl
        | some _ => rw [hq] at this; cases this
      have := h.env t ev (by simp only [St.look, hn]; exact h2)
      cases ev with
      | av x => exact this
      | when u want x => exact this
  · intro t u want x hf
    have h1 : find (giveL l st.loc) t = some (.when u want x) := hf
    rcases giveL_find h1 with h3 | ⟨u', want', x', he, _, _⟩
    · have := h.hang t u want x h3
      show (find (giveL l st.loc) u).isSome = true
      rw [giveL_none]
      exact this
    · cases he

theorem Ext.given {st : St} {l : List (Nat × Bool)} (W : Nat → Prop) : Ext W st (st.given l) := by
  intro t a _ _ h
  simp only [St.look, St.given] at h ⊢
  cases hq : find st.loc t with
  | none =>
    have := giveL_none (l := l) (t := t) (loc := st.loc)
    rw [hq] at this
    rw [hq] at h
    cases hq2 : find (giveL l st.loc) t with
    | none => exact h
    | some _ => rw [hq2] at this; cases this
  | some e =>
    rw [hq] at h
    simp only [Option.some.injEq] at h
    subst h
    cases hq2 : find (giveL l st.loc) t with
    | none =>
      have := giveL_none (l := l) (t := t) (loc := st.loc)
      rw [hq, hq2] at this
      cases this
    | some e' =>
      rcases giveL_find hq2 with h3 | ⟨u, want, x, rfl, _, h5⟩
      · rw [hq] at h3; cases h3; rfl
      · rw [hq] at h5; cases h5

theorem ctxG_sound {fr : Frm} {m : Nat → Option Nat × Nat} {st : St} {a : Act} {w : World} (h : Fits fr m st a w) : ∀ {n t : Nat} {want : Bool} {l : List (Nat × Bool)} {b : Bool}, ctxG n st t want = some (l, b) →
    (b = true → ∀ p ∈ l, a.tmps.getD p.1 undef = .bool p.2) ∧ (b = true → a.tmps.getD t undef = .bool want) ∧ (b = false → a.tmps.getD t undef ≠ .bool want) ∧ (find st.loc t).isSome = true
  | 0, _, _, _, _, hc => by cases hc
  | n + 1, t, want, l, b, hc => by
    simp only [ctxG] at hc
    cases hq : find st.loc t with
    | none => rw [hq] at hc; cases hc
    | some e =>
      rw [hq] at hc
      cases e with
      | av x =>
        cases x <;> try (cases hc; done)
        rename_i T g
        cases T <;> try (cases hc; done)
        simp only [Option.some.injEq, Prod.mk.injEq] at hc
        obtain ⟨rfl, rfl⟩ := hc
        have hv : a.tmps.getD t undef = .bool g := imm_bool (h.env t (.av (.imm .bool g)) (by simp only [St.look, hq]))
        refine ⟨fun hb p hp => ?_, fun hb => ?_, fun hb => ?_, rfl⟩
        · simp only [List.mem_singleton] at hp
          subst hp
          rw [hv]
          cases want <;> cases g <;> first | rfl | (simp at hb)
        · rw [hv]
          cases want <;> cases g <;> first | rfl | (simp at hb)
        · rw [hv]
          cases want <;> cases g <;> first | (simp at hb; done) | (intro hh; cases hh)
      | when t' w' x =>
        cases x <;> try (cases hc; done)
        rename_i T g
        cases T <;> try (cases hc; done)
        simp only at hc
        cases hr : ctxG n st t' w' with
        | none => rw [hr] at hc; cases hc
        | some q =>
          obtain ⟨l', b'⟩ := q
          rw [hr] at hc
          simp only [Option.some.injEq, Prod.mk.injEq] at hc
          obtain ⟨rfl, rfl⟩ := hc
          obtain ⟨i1, i2, i3, i4⟩ := ctxG_sound h hr
          have hev := h.env t (.when t' w' (.imm .bool g)) (by simp only [St.look, hq])
          cases b' with
          | false =>
            have hu := hev.2 (i3 rfl)
            refine ⟨fun hb => by simp at hb, fun hb => by simp at hb, fun _ => ?_, rfl⟩
            rw [hu]
            intro hh
            cases hh
          | true =>
            have hv : a.tmps.getD t undef = .bool g := imm_bool (hev.1 (i2 rfl))
            refine ⟨fun hb p hp => ?_, fun hb => ?_, fun hb => ?_, rfl⟩
            · rcases List.mem_cons.1 hp with rfl | hp
              · rw [hv]
                cases want <;> cases g <;> first | rfl | (simp at hb)
              · exact i1 rfl p hp
            · rw [hv]
              cases want <;> cases g <;> first | rfl | (simp at hb)
            · rw [hv]
              cases want <;> cases g <;> first | (simp at hb; done) | (intro hh; cases hh)

end Go.Proofs.YtlkggeaibgaohaaGreatDoor.Sim
