/- All operations that turn nothing. -/
import Derived.Test.YtlkggeaibgaohaaGreatDoorSimM
namespace Go.Proofs.YtlkggeaibgaohaaGreatDoor.Sim
open Go Go.RowKit

/-- An operand's value where a guard is known to have been met. -/
def evG (gl : Nat → Option (Σ t : Ty, t.den)) (st : St) (c : Operand) (want : Bool) (x : Operand) : Option AV :=
  match x with
  | .tmp u => match st.look u with
    | some (.av a) => some a
    | some (.when t w a) => match c with
      | .tmp t' => cond (Nat.beq t t' && (w == want)) (some a) none
      | _ => none
    | none => none
  | x => ev gl st x

theorem evG_sound {fr : Frm} {m : Nat → Option Nat × Nat} {st : St} {a : Act} {w : World} (h : Fits fr m st a w) {c x : Operand} {want : Bool} {v : AV} (he : evG fr.gl st c want x = some v)
    (hc : a.eval c = .bool want) : AVR (cx fr m st w) v [a.eval x] := by
  cases x with
  | tmp u =>
    simp only [evG] at he
    cases hl : st.look u with
    | none => rw [hl] at he; cases he
    | some e =>
      rw [hl] at he
      have hE := h.env u e hl
      cases e with
      | av y => simp only [Option.some.injEq] at he; subst he; exact hE
      | when t w' y =>
        simp only at he
        cases c <;> simp only [reduceCtorEq] at he
        rename_i t'
        cases hb : (Nat.beq t t' && (w' == want)) with
        | false => rw [hb] at he; cases he
        | true =>
          rw [hb] at he
          simp only [cond_true, Option.some.injEq] at he
          subst he
          rw [Bool.and_eq_true] at hb
          have h1 := Nat.eq_of_beq_eq_true hb.1
          have h2 := eq_of_beq hb.2
          subst h1; subst h2
          exact hE.1 hc
  | const u => exact ev_sound h he
  | global g => exact ev_sound h he
  | func f => exact ev_sound h he

def pickAV (gl : Nat → Option (Σ t : Ty, t.den)) (st : St) (c a b : Operand) : Option (Comp AV) :=
  match ev gl st c with
  | some (.imm .bool p) => match evG gl st c true a, evG gl st c false b with
    | some x, some y => match x.get [] .bool, y.get [] .bool with
      | some x, some y => some (just (.imm .bool (cond p x y)))
      | _, _ => none
    | some x, none => cond p (some (just x)) none
    | none, some y => cond p none (some (just y))
    | none, none => none
  | _ => none

theorem pickAV_sound {P : Program} {fr : Frm} {m : Nat → Option Nat × Nat} {st : St} {a : Act} {w : World} (h : Fits fr m st a w) {c x y : Operand} {cp : Comp AV} (hp : pickAV fr.gl st c x y = some cp) {u : cp.X} :
    ∃ v, (do pure (.value (if ← asBool (a.eval c) then a.eval x else a.eval y)) : Sem Next).run P w = .ok (.value v) w ∧ AVR (cx fr m st w) (cp.out u) [v] := by
  unfold pickAV at hp
  cases hc : ev fr.gl st c with
  | none => rw [hc] at hp; cases hp
  | some ca =>
    rw [hc] at hp
    cases ca <;> try (cases hp; done)
    rename_i T p
    cases T <;> try (cases hp; done)
    have e1 := imm_bool (ev_sound h hc)
    simp only at hp
    have run : ∀ b : Bool, a.eval c = .bool b → (do pure (.value (if ← asBool (a.eval c) then a.eval x else a.eval y)) : Sem Next).run P w = .ok (.value (if b then a.eval x else a.eval y)) w := fun b hb => by
      rw [hb]; simp [asBool]
    have bools : ∀ {v : AV} {q : Bool} {val : Value}, v.get [] .bool = some q → AVR (cx fr m st w) v [val] → val = .bool q := fun hg hv => by
      obtain ⟨cs, hr, hh⟩ := AV.get_sound (Lends.none _) hg hv
      cases hr with
      | bool => exact hh
    cases hx : evG fr.gl st c true x with
    | some vx =>
      cases hy : evG fr.gl st c false y with
      | some vy =>
        rw [hx, hy] at hp
        simp only at hp
        cases hgx : vx.get [] .bool with
        | none => rw [hgx] at hp; cases hp
        | some qx =>
          cases hgy : vy.get [] .bool with
          | none => rw [hgx, hgy] at hp; cases hp
          | some qy =>
            rw [hgx, hgy] at hp
            simp only [Option.some.injEq] at hp
            subst hp
            refine ⟨_, run p e1, ?_⟩
            show AVR _ (.imm .bool (cond p qx qy)) _
            cases p with
            | true =>
              have := bools hgx (evG_sound h hx e1)
              simp only [if_true, cond_true]
              rw [this]
              exact bool_imm _ _
            | false =>
              have := bools hgy (evG_sound h hy e1)
              simp only [Bool.false_eq_true, if_false, cond_false]
              rw [this]
              exact bool_imm _ _
      | none =>
        rw [hx, hy] at hp
        cases p with
        | true =>
          simp only [cond_true, Option.some.injEq] at hp
          subst hp
          exact ⟨_, run true e1, evG_sound h hx e1⟩
        | false => cases hp
    | none =>
      cases hy : evG fr.gl st c false y with
      | some vy =>
        rw [hx, hy] at hp
        cases p with
        | false =>
          simp only [cond_false, Option.some.injEq] at hp
          subst hp
          exact ⟨_, run false e1, evG_sound h hy e1⟩
        | true => cases hp
      | none => rw [hx, hy] at hp; cases hp

def minV (l : Int) : List Int → Int
  | [] => l
  | x :: r => minV (if x < l then x else l) r
def maxV (l : Int) : List Int → Int
  | [] => l
  | x :: r => maxV (if x > l then x else l) r
/-- The numbers of one kind that a list of values is. -/
def ints (k : IntKind) : AV → Option (List Int)
  | .nil => some []
  | .cons (.imm (.int l) x) r => cond (Nat.beq (kindNo k) (kindNo l)) (match ints k r with
    | some xs => some (x :: xs)
    | none => none) none
  | _ => none
def mmAV (b : Builtin) (l : AV) : Option (Comp AV) :=
  match l with
  | .cons (.imm (.int k) x) r => match ints k r, b with
    | some xs, .min => some (just (.imm (.int k) (minV x xs)))
    | some xs, .max => some (just (.imm (.int k) (maxV x xs)))
    | _, _ => none
  | _ => none

theorem ints_sound {c : Cx} {k : IntKind} : ∀ {l : AV} {xs : List Int} {vs : List Value}, ints k l = some xs → AVR c l vs → vs = xs.map (Value.int k) ∧ ∀ x ∈ xs, inKind k x := by
  intro l
  induction l with
  | nil => intro xs vs h hv; simp only [ints, Option.some.injEq] at h; subst h; match vs, hv with | [], _ => exact ⟨rfl, fun x hx => by cases hx⟩
  | cons a r _ ih =>
    intro xs vs h hv
    cases a <;> try (cases h; done)
    rename_i T x hdrop
    clear hdrop
    cases T <;> try (cases h; done)
    rename_i j
    simp only [ints] at h
    cases hk : Nat.beq (kindNo k) (kindNo j) with
    | false => rw [hk] at h; cases h
    | true =>
      rw [hk] at h
      have := kindNo_inj hk
      subst this
      simp only [cond_true] at h
      cases hr : ints k r with
      | none => rw [hr] at h; cases h
      | some ys =>
        rw [hr] at h
        simp only [Option.some.injEq] at h
        subst h
        match vs, hv with
        | v :: vs, ⟨h1, h2⟩ =>
          obtain ⟨rfl, hx⟩ := imm_int h1
          obtain ⟨rfl, hys⟩ := ih hr h2
          exact ⟨rfl, fun z hz => by
            rcases List.mem_cons.1 hz with rfl | hz
            · exact hx
            · exact hys z hz⟩
  | _ => intro xs vs h; cases h

theorem run_fold_min {P : Program} {k : IntKind} {w : World} : ∀ (xs : List Int) (x : Int), ((xs.map (Value.int k)).foldlM Builtin.min2 (.int k x) : Sem Value).run P w = .ok (.int k (minV x xs)) w
  | [], x => rfl
  | y :: xs, x => by
    simp only [List.map_cons, List.foldlM_cons, Sem.run_bind, Builtin.min2, Sem.run_pure, Result.andThen, minV]
    exact run_fold_min xs _
theorem run_fold_max {P : Program} {k : IntKind} {w : World} : ∀ (xs : List Int) (x : Int), ((xs.map (Value.int k)).foldlM Builtin.max2 (.int k x) : Sem Value).run P w = .ok (.int k (maxV x xs)) w
  | [], x => rfl
  | y :: xs, x => by
    simp only [List.map_cons, List.foldlM_cons, Sem.run_bind, Builtin.max2, Sem.run_pure, Result.andThen, maxV]
    exact run_fold_max xs _
theorem minV_in {k : IntKind} : ∀ {xs : List Int} {x : Int}, inKind k x → (∀ y ∈ xs, inKind k y) → inKind k (minV x xs)
  | [], x, h, _ => h
  | y :: xs, x, h, H => by
    simp only [minV]
    refine minV_in ?_ fun z hz => H z (List.mem_cons_of_mem _ hz)
    split
    · exact H y (List.mem_cons_self ..)
    · exact h
theorem maxV_in {k : IntKind} : ∀ {xs : List Int} {x : Int}, inKind k x → (∀ y ∈ xs, inKind k y) → inKind k (maxV x xs)
  | [], x, h, _ => h
  | y :: xs, x, h, H => by
    simp only [maxV]
    refine maxV_in ?_ fun z hz => H z (List.mem_cons_of_mem _ hz)
    split
    · exact H y (List.mem_cons_self ..)
    · exact h

theorem mmAV_sound {P : Program} {c : Cx} {b : Builtin} {l : AV} {cp : Comp AV} (h : mmAV b l = some cp) {u : cp.X} {vs : List Value} (hv : AVR c l vs) (ts : Array TypeId) (ty : TypeId) (cs : Array Bool) (w : World) :
    ∃ v, (Go.builtin b ts ty cs vs.toArray).run P w = .ok (.value v) w ∧ AVR c (cp.out u) [v] := by
  cases l <;> try (cases h; done)
  rename_i a r
  cases a <;> try (cases h; done)
  rename_i T x
  cases T <;> try (cases h; done)
  rename_i k
  simp only [mmAV] at h
  cases hr : ints k r with
  | none => rw [hr] at h; cases h
  | some xs =>
    rw [hr] at h
    match vs, hv with
    | v :: vs, ⟨h1, h2⟩ =>
      obtain ⟨rfl, hx⟩ := imm_int h1
      obtain ⟨rfl, hxs⟩ := ints_sound hr h2
      cases b <;> simp only [Option.some.injEq, reduceCtorEq] at h
      · subst h
        refine ⟨.int k (maxV x xs), ?_, int_imm c (maxV_in hx hxs)⟩
        have := run_fold_max (P := P) (k := k) (w := w) xs x
        simp only [Go.builtin, Builtin.max_, Sem.run_bind, this, Result.andThen, Sem.run_pure]
      · subst h
        refine ⟨.int k (minV x xs), ?_, int_imm c (minV_in hx hxs)⟩
        have := run_fold_min (P := P) (k := k) (w := w) xs x
        simp only [Go.builtin, Builtin.min_, Sem.run_bind, this, Result.andThen, Sem.run_pure]

def nilCheckAV (a : AV) : Option (Comp AV) :=
  match a with
  | .iptr t x => some (just (.iptr t x))
  | .ptr i o => some (just (.ptr i o))
  | .eptr i e n p => some (just (.eptr i e n p))
  | .aptr i e => some (just (.aptr i e))
  | .fn f l => some (just (.fn f l))
  | _ => none
theorem nilCheckAV_sound {P : Program} {c : Cx} {a : AV} {cp : Comp AV} (h : nilCheckAV a = some cp) {u : cp.X} {ρ : Operand → Value} {o : Oper} {x : Operand} (ho : o.op = .nilCheck x) (ha : AVR c a [ρ x]) (w : World) :
    ∃ v, (execOp ρ o).run P w = .ok (.value v) w ∧ AVR c (cp.out u) [v] := by
  cases a <;> simp only [nilCheckAV, Option.some.injEq, reduceCtorEq] at h
  all_goals subst h
  case iptr t y =>
    have hv := ha
    obtain ⟨b, off, cs, e, _⟩ := ha
    exact ⟨ρ x, by simp [execOp, ho, e], hv⟩
  case ptr i f =>
    have hv := ha
    obtain ⟨_, b, _, e⟩ := ha
    exact ⟨ρ x, by simp [execOp, ho, e], hv⟩
  case eptr i e n p =>
    have hv := ha
    obtain ⟨_, _, b, d, _, _, e⟩ := ha
    exact ⟨ρ x, by simp [execOp, ho, e], hv⟩
  case aptr i e =>
    have hv := ha
    obtain ⟨_, b, _, e⟩ := ha
    exact ⟨ρ x, by simp [execOp, ho, e], hv⟩
  case fn f l =>
    have hv := ha
    obtain ⟨cs, e, _⟩ := ha
    exact ⟨ρ x, by simp [execOp, ho, e], hv⟩

def ev1 (gl : Nat → Option (Σ t : Ty, t.den)) (st : St) (x : Operand) (f : AV → Option (Comp AV)) : Option (Comp AV) :=
  match ev gl st x with
  | some a => f a
  | none => none
def ev2 (gl : Nat → Option (Σ t : Ty, t.den)) (st : St) (x y : Operand) (f : AV → AV → Option (Comp AV)) : Option (Comp AV) :=
  match ev gl st x with
  | some a => match ev gl st y with
    | some b => f a b
    | none => none
  | none => none
/-- An operand that may be absent. -/
def evO (gl : Nat → Option (Σ t : Ty, t.den)) (st : St) : Option Operand → Option (Option AV)
  | none => some none
  | some x => match ev gl st x with
    | some a => some (some a)
    | none => none

/-- A slice whose capacity is its length, as a slice. -/
def norm : AV → AV
  | .imm (.tslice e) x => .imm (.slice e) x
  | a => a
theorem norm_sound {c : Cx} {a : AV} {v : Value} (h : AVR c a [v]) : AVR c (norm a) [v] := by
  cases a <;> try (exact h)
  rename_i T x
  cases T <;> try (exact h)
  exact castW_sound (a := .tslice _) (b := .slice _) (Ty.cast_self (a := .slice _) x) h

/-- A slice of an own row, or the address of one. -/
def isRef : AV → Bool
  | .view _ _ _ _ => true
  | .aptr _ _ => true
  | _ => false

def pureOp (G : Pg) (sp : Nat → Option PSpec) (st : St) (op : Op) : Option (Comp AV) :=
  match op with
  | .move x => ev1 G.gl st x fun a => some (just a)
  | .assign x => ev1 G.gl st x fun a => some (just a)
  | .pick c a b => pickAV G.gl st c a b
  | .load t x => ev1 G.gl st x (loadAV G st.heap t)
  | .fieldAddr t x k => ev1 G.gl st x (fieldAddrAV G t k)
  | .field t x k => ev1 G.gl st x (fieldAV G t k)
  | .indexAddr t x i => ev2 G.gl st x i fun a => indexAddrAV G st.heap t (norm a)
  | .index t x i => ev2 G.gl st x i (indexAV G t)
  | .extract x i => ev1 G.gl st x (extractAV i)
  | .nilCheck x => ev1 G.gl st x nilCheckAV
  | .binOp b t x y _ => ev2 G.gl st x y (binAV G b t)
  | .unOp b _ x => ev1 G.gl st x (unAV b)
  | .convert s d x => ev1 G.gl st x fun a => convAV G s d (norm a)
  | .build t ps => match partsEv G.gl st ps.toList with
    | some l => match l with
      | [] => match zeroAgg G t with
        | some cp => some cp
        | none => buildAV G t []
      | l => buildAV G t l
    | none => none
  | .buildSlice t n ps => match partsEv G.gl st ps.toList with
    | some l => litAV G t n l
    | none => none
  | .slice t x lo hi mx => match evO G.gl st lo, evO G.gl st hi, evO G.gl st mx with
    | some l, some h, some m => cond (mx.isSome && hi.isNone) none (ev1 G.gl st x fun a => cond (mx.isSome && isRef (norm a)) none (sliceAV G st.heap t (norm a) l h m))
    | _, _, _ => none
  | .makeFunc (.func f) first caps => cond (Nat.beq first.size 0) (match evs G.gl st caps.toList with
    | some l => some (just (.fn f l))
    | none => none) none
  | .call ⟨.builtin .len, args, ts⟩ => match args.toList, ts.toList with
    | [x], [t] => ev1 G.gl st x fun a => lenAV G t (norm a)
    | _, _ => none
  | .call ⟨.builtin .min, args, _⟩ => match evs G.gl st args.toList with
    | some l => mmAV .min l
    | none => none
  | .call ⟨.builtin .max, args, _⟩ => match evs G.gl st args.toList with
    | some l => mmAV .max l
    | none => none
  | .call ⟨.value f, args, _⟩ => match ev G.gl st f, evs G.gl st args.toList with
    | some fa, some aa => callAV sp st.heap fa aa
    | _, _ => none
  | _ => none

theorem ev1_some {gl : Nat → Option (Σ t : Ty, t.den)} {st : St} {x : Operand} {f : AV → Option (Comp AV)} {cp : Comp AV} (h : ev1 gl st x f = some cp) : ∃ a, ev gl st x = some a ∧ f a = some cp := by
  unfold ev1 at h
  cases hx : ev gl st x with
  | none => rw [hx] at h; cases h
  | some a => rw [hx] at h; exact ⟨a, rfl, h⟩
theorem ev2_some {gl : Nat → Option (Σ t : Ty, t.den)} {st : St} {x y : Operand} {f : AV → AV → Option (Comp AV)} {cp : Comp AV} (h : ev2 gl st x y f = some cp) :
    ∃ a b, ev gl st x = some a ∧ ev gl st y = some b ∧ f a b = some cp := by
  unfold ev2 at h
  cases hx : ev gl st x with
  | none => rw [hx] at h; cases h
  | some a =>
    rw [hx] at h
    cases hy : ev gl st y with
    | none => rw [hy] at h; cases h
    | some b => rw [hy] at h; exact ⟨a, b, rfl, rfl, h⟩
theorem evO_sound {fr : Frm} {m : Nat → Option Nat × Nat} {st : St} {a : Act} {w : World} (h : Fits fr m st a w) {x : Option Operand} {v : Option AV} (he : evO fr.gl st x = some v) :
    optAVR (cx fr m st w) v (x.map a.eval) ∧ (v = none ↔ x = none) := by
  cases x with
  | none => simp only [evO, Option.some.injEq] at he; subst he; exact ⟨trivial, by simp⟩
  | some y =>
    simp only [evO] at he
    cases hy : ev fr.gl st y with
    | none => rw [hy] at he; cases he
    | some b =>
      rw [hy] at he
      simp only [Option.some.injEq] at he
      subst he
      exact ⟨ev_sound h hy, by simp⟩

theorem pureOp_sound (G : Pg) {sp : Nat → Option PSpec} (hsp : ∀ g s, sp g = some s → PSound G g s) {fr : Frm} {m : Nat → Option Nat × Nat} {st : St} {a : Act} {w : World} (hgl : fr.gl = G.gl) (hF : Fits fr m st a w)
    {o : Oper} {cp : Comp AV} (h : pureOp G sp st o.op = some cp) {u : cp.X} (hu : cp.c = some u) : Runs G.P o a w fun v w' => Below w.heap.size w w' ∧ AVR (cx fr m st w') (cp.out u) [v] := by
  have quiet : ∀ {v : Value}, (execOp a.eval o).run G.P w = .ok (.value v) w → AVR (cx fr m st w) (cp.out u) [v] → Runs G.P o a w fun v w' => Below w.heap.size w w' ∧ AVR (cx fr m st w') (cp.out u) [v] :=
    fun hr hv => Runs.of_run hr ⟨Below.refl _ _, hv⟩
  generalize ho : o.op = op at h
  unfold pureOp at h
  rw [← hgl] at h
  split at h
  · obtain ⟨x, h1, h2⟩ := ev1_some h
    simp only [Option.some.injEq] at h2; subst h2
    exact quiet (by simp only [execOp, ho]; rfl) (ev_sound hF h1)
  · obtain ⟨x, h1, h2⟩ := ev1_some h
    simp only [Option.some.injEq] at h2; subst h2
    exact quiet (by simp only [execOp, ho]; rfl) (ev_sound hF h1)
  · obtain ⟨v, hr, hv⟩ := pickAV_sound (P := G.P) hF h (u := u)
    exact quiet (by simp only [execOp, ho]; exact hr) hv
  · obtain ⟨x, h1, h2⟩ := ev1_some h
    obtain ⟨v, hr, hv⟩ := loadAV_sound G hF.heap h2 hu (ev_sound hF h1)
    exact quiet (v := v) (by simp only [execOp, ho, Sem.run_bind, hr, Result.andThen]; rfl) hv
  · obtain ⟨x, h1, h2⟩ := ev1_some h
    obtain ⟨v, hr, hv⟩ := fieldAddrAV_sound G h2 (u := u) (ev_sound hF h1)
    exact quiet (v := v) (by simp only [execOp, ho, Sem.run_bind, hr, Result.andThen]; rfl) hv
  · obtain ⟨x, h1, h2⟩ := ev1_some h
    obtain ⟨v, hr, hv⟩ := fieldAV_sound G h2 (u := u) (ev_sound hF h1) w
    exact quiet (v := v) (by simp only [execOp, ho, Sem.run_bind, hr, Result.andThen]; rfl) hv
  · obtain ⟨x, y, h1, h2, h3⟩ := ev2_some h
    obtain ⟨v, hr, hv⟩ := indexAddrAV_sound G hF.heap h3 hu (norm_sound (ev_sound hF h1)) (ev_sound hF h2)
    exact quiet (v := v) (by simp only [execOp, ho, Sem.run_bind, hr, Result.andThen]; rfl) hv
  · obtain ⟨x, y, h1, h2, h3⟩ := ev2_some h
    obtain ⟨v, hr, hv⟩ := indexAV_sound G h3 hu (ev_sound hF h1) (ev_sound hF h2) w
    exact quiet (v := v) (by simp only [execOp, ho, Sem.run_bind, hr, Result.andThen]; rfl) hv
  · obtain ⟨x, h1, h2⟩ := ev1_some h
    obtain ⟨v, hr, hv⟩ := extractAV_sound (P := G.P) h2 (u := u) (ev_sound hF h1) w
    exact quiet (v := v) (by simp only [execOp, ho, Sem.run_bind, hr, Result.andThen]; rfl) hv
  · obtain ⟨x, h1, h2⟩ := ev1_some h
    obtain ⟨v, hr, hv⟩ := nilCheckAV_sound (P := G.P) h2 (u := u) ho (ev_sound hF h1) w
    exact quiet hr hv
  · obtain ⟨x, y, h1, h2, h3⟩ := ev2_some h
    obtain ⟨v, hr, hv⟩ := binAV_sound G h3 hu (ev_sound hF h1) (ev_sound hF h2) _ _ w
    exact quiet (v := v) (by simp only [execOp, ho]; rw [Sem.run_bind, hr]; rfl) hv
  · obtain ⟨x, h1, h2⟩ := ev1_some h
    obtain ⟨v, hr, hv⟩ := unAV_sound (P := G.P) h2 (u := u) (ev_sound hF h1) w
    exact quiet (v := v) (by simp only [execOp, ho, Sem.run_bind, hr, Result.andThen]; rfl) hv
  · obtain ⟨x, h1, h2⟩ := ev1_some h
    obtain ⟨v, hr, hv⟩ := convAV_sound G h2 (u := u) (norm_sound (ev_sound hF h1))
    have hr' : (convert _ _ _).run G.P w = .ok v w := hr
    exact quiet (v := v) (by simp only [execOp, ho, Sem.run_bind, hr', Result.andThen]; rfl) hv
  · rename_i t ps
    cases hp : partsEv fr.gl st ps.toList with
    | none => rw [hp] at h; cases h
    | some l =>
      rw [hp] at h
      have plain : buildAV G t l = some cp → Runs G.P o a w fun v w' => Below w.heap.size w w' ∧ AVR (cx fr m st w') (cp.out u) [v] := fun h => by
        obtain ⟨v, hr, hv⟩ := buildAV_sound G hF hp h (u := u)
        exact quiet (v := v) (by simp only [execOp, ho, Sem.run_bind, hr, Result.andThen]; rfl) hv
      cases l with
      | cons x l => exact plain h
      | nil =>
        simp only at h
        cases hz : zeroAgg G t with
        | none => rw [hz] at h; exact plain h
        | some cp' =>
          rw [hz] at h
          simp only [Option.some.injEq] at h
          subst h
          have hps : ps = #[] := by
            have h1 := (partsEv_sound hF hp).1
            apply Array.ext'
            cases hq : ps.toList with
            | nil => rfl
            | cons x r => rw [hq] at h1; cases h1
          subst hps
          obtain ⟨v, hr, hv⟩ := zeroAgg_sound (c := cx fr m st w) G hz (u := u) w
          exact quiet (v := v) (by simp only [execOp, ho, Sem.run_bind, List.map_toArray, List.map_nil, hr, Result.andThen]; rfl) hv
  · rename_i t n ps
    cases hp : partsEv fr.gl st ps.toList with
    | none => rw [hp] at h; cases h
    | some l =>
      rw [hp] at h
      obtain ⟨v, w', hr, hb, hv⟩ := litAV_sound G hF hp h (u := u)
      exact Runs.of_run (v := v) (by simp only [execOp, ho, Sem.run_bind, hr, Result.andThen]; rfl) ⟨hb, hv⟩
  · rename_i t x lo hi mx
    cases h1 : evO fr.gl st lo with
    | none => rw [h1] at h; cases h
    | some l =>
    cases h2 : evO fr.gl st hi with
    | none => rw [h1, h2] at h; cases h
    | some hh =>
    cases h3 : evO fr.gl st mx with
    | none => rw [h1, h2, h3] at h; cases h
    | some mm =>
    rw [h1, h2, h3] at h
    simp only at h
    cases hc : (mx.isSome && hi.isNone) with
    | true => rw [hc] at h; cases h
    | false =>
      rw [hc] at h
      simp only [cond_false] at h
      obtain ⟨y, q1, q2'⟩ := ev1_some h
      have q2 : sliceAV G st.heap t (norm y) l hh mm = some cp := by
        cases hz : (mx.isSome && isRef (norm y)) with
        | true => rw [hz] at q2'; cases q2'
        | false => rw [hz] at q2'; exact q2'
      obtain ⟨s1, _⟩ := evO_sound hF h1
      obtain ⟨s2, n2⟩ := evO_sound hF h2
      obtain ⟨s3, n3⟩ := evO_sound hF h3
      obtain ⟨v, hr, hv⟩ := sliceAV_sound G hF.heap q2 (by
        intro hm hn
        have e1 : mx ≠ none := fun e => hm (n3.2 e)
        have e2 : hi = none := n2.1 hn
        rw [e2] at hc
        cases mx with
        | none => exact e1 rfl
        | some _ => simp at hc) hu (norm_sound (ev_sound hF q1)) s1 s2 s3
      exact quiet (v := v) (by simp only [execOp, ho, Sem.run_bind, hr, Result.andThen]; rfl) hv
  · rename_i f first caps
    cases hc : Nat.beq first.size 0 with
    | false => rw [hc] at h; cases h
    | true =>
      rw [hc] at h
      simp only [cond_true] at h
      cases he : evs fr.gl st caps.toList with
      | none => rw [he] at h; cases h
      | some l =>
        rw [he] at h
        simp only [Option.some.injEq] at h
        subst h
        have e0 : first = #[] := Array.eq_empty_of_size_eq_zero (Nat.eq_of_beq_eq_true hc)
        subst e0
        refine quiet (v := .func (.func f) #[] (caps.map a.eval)) (by simp [execOp, ho, Instr.makeFunc]) ⟨_, rfl, ?_⟩
        have := evs_sound hF he
        simpa using this
  · rename_i args ts
    split at h
    · rename_i x t e1 e2
      obtain ⟨y, h1, h2⟩ := ev1_some h
      have a1 : args = #[x] := by apply Array.ext'; simpa using e1
      have a2 : ts = #[t] := by apply Array.ext'; simpa using e2
      subst a1; subst a2
      obtain ⟨v, hr, hv⟩ := lenAV_sound G (ty := o.type) h2 (u := u) (norm_sound (ev_sound hF h1)) w
      exact quiet (v := v) (run_call_builtin ho _ (fun cs => rfl) (by simpa using hr)) hv
    · cases h
  · rename_i args ts
    cases he : evs fr.gl st args.toList with
    | none => rw [he] at h; cases h
    | some l =>
      rw [he] at h
      have hl := evs_sound hF he
      have harr : (args.toList.map a.eval).toArray = args.map a.eval := by apply Array.ext'; simp
      obtain ⟨v, hr, hv⟩ := mmAV_sound (P := G.P) h (u := u) hl ts o.type (args.map fun | .const _ => true | _ => false) w
      rw [harr] at hr
      exact quiet (v := v) (by simp only [execOp, ho, resolve, Sem.run_bind, Sem.run_pure, Result.andThen, invoke]; exact hr) hv
  · rename_i args ts
    cases he : evs fr.gl st args.toList with
    | none => rw [he] at h; cases h
    | some l =>
      rw [he] at h
      have hl := evs_sound hF he
      have harr : (args.toList.map a.eval).toArray = args.map a.eval := by apply Array.ext'; simp
      obtain ⟨v, hr, hv⟩ := mmAV_sound (P := G.P) h (u := u) hl ts o.type (args.map fun | .const _ => true | _ => false) w
      rw [harr] at hr
      exact quiet (v := v) (by simp only [execOp, ho, resolve, Sem.run_bind, Sem.run_pure, Result.andThen, invoke]; exact hr) hv
  · rename_i f args ts
    cases h1 : ev fr.gl st f with
    | none => rw [h1] at h; cases h
    | some fa =>
      cases h2 : evs fr.gl st args.toList with
      | none => rw [h1, h2] at h; cases h
      | some aa =>
        rw [h1, h2] at h
        exact callAV_sound G hsp hgl hF ho h1 h2 h hu
  · cases h

end Go.Proofs.YtlkggeaibgaohaaGreatDoor.Sim
