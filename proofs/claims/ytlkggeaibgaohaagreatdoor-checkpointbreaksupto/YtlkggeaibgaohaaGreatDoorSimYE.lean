/- Regions whose order is drawn: any order gives what the text's order gives. -/
import Derived.Test.YtlkggeaibgaohaaGreatDoorSimYC
namespace Go.Proofs.YtlkggeaibgaohaaGreatDoor.Sim
open Go Go.RowKit

/-- One operation, in the order of the text. -/
inductive StepR (E : Env) (nt : Nat) (ops : Array Oper) (T : List (Nat × List Nat)) (hd : Nat → Option (List Nat)) (n0 i : Nat) (st : St) (o : Oper) : St → Prop
  | pure (h0 : dstOk nt st o.dst = true) (hT : find T i = none) (hg : o.guard = none) {cp : Comp AV} (hp : pureOp E.G E.sp (st.hide (hd i) n0) o.op = some cp) {u : cp.X} (hu : cp.c = some u) :
      StepR E nt ops T hd n0 i st o (putDst st o.dst (.av (cp.out u)))
  | guarded (h0 : dstOk nt st o.dst = true) (hT : find T i = none) {j : Nat} {want : Bool} (hg : o.guard = some (j, want)) {t : Nat} (ht : dstOf ops j = some t) {l : List (Nat × Bool)} {b : Bool}
      (hc : ctxG 8 st t want = some (l, b)) {cp : Comp AV} (hp : pureOp E.G E.sp ((st.given l).hide (hd i) n0) o.op = some cp) {u : cp.X} (hu : gC (isCall o.op) cp.c b cp.dflt = some u) :
      StepR E nt ops T hd n0 i st o (putDst st o.dst (.when t want (cp.out u)))
  | eff (h0 : dstOk nt st o.dst = true) {tl : List Nat} (hT : find T i = some tl) (hg : o.guard = none) (hp : pureOp E.G E.sp st o.op = none) {cp : Comp Eff} (he : effOp E st o.dst o.op = some cp)
      (ht : subL tl (touch E st o.op) = true) {u : cp.X} (hu : cp.c = some u) : StepR E nt ops T hd n0 i st o (putDst (st.upd (cp.out u)) o.dst (.av (cp.out u).1))

theorem stepD_inv {E : Env} {nt : Nat} {ops : Array Oper} {T : List (Nat × List Nat)} {hd : Nat → Option (List Nat)} {n0 i : Nat} {st : St} {o : Oper} {R : Type} {K : St → Option R} {r : R}
    (h : stepD E nt false ops T hd n0 i st o K = some r) : ∃ st', StepR E nt ops T hd n0 i st o st' ∧ K st' = some r := by
  unfold stepD at h
  obtain ⟨h0, h⟩ := cond_some h
  cases hT : find T i with
  | none =>
    rw [hT] at h
    simp only at h
    cases hg : o.guard with
    | none =>
      rw [hg] at h
      simp only at h
      cases hp : pureOp E.G E.sp (st.hide (hd i) n0) o.op with
      | none => rw [hp] at h; cases h
      | some cp =>
        rw [hp] at h
        simp only [bindC, cond_false] at h
        cases hu : cp.c with
        | none => rw [hu] at h; cases h
        | some u => rw [hu] at h; exact ⟨_, .pure h0 hT hg hp hu, h⟩
    | some jw =>
      obtain ⟨j, want⟩ := jw
      rw [hg] at h
      simp only at h
      cases ht : dstOf ops j with
      | none => rw [ht] at h; cases h
      | some t =>
        rw [ht] at h
        simp only at h
        cases hc : ctxG 8 st t want with
        | none => rw [hc] at h; cases h
        | some q =>
          obtain ⟨l, b⟩ := q
          rw [hc] at h
          simp only at h
          cases hp : pureOp E.G E.sp ((st.given l).hide (hd i) n0) o.op with
          | none => rw [hp] at h; cases h
          | some cp =>
            rw [hp] at h
            simp only [bindC, cond_false] at h
            cases hu : gC (isCall o.op) cp.c b cp.dflt with
            | none => rw [hu] at h; cases h
            | some u => rw [hu] at h; exact ⟨_, .guarded h0 hT hg ht hc hp hu, h⟩
  | some tl =>
    rw [hT] at h
    simp only at h
    cases hg : o.guard with
    | some _ => rw [hg] at h; cases h
    | none =>
      rw [hg] at h
      simp only at h
      cases hp : pureOp E.G E.sp st o.op with
      | some _ => rw [hp] at h; cases h
      | none =>
        rw [hp] at h
        simp only at h
        cases he : effOp E st o.dst o.op with
        | none => rw [he] at h; cases h
        | some cp =>
          rw [he] at h
          simp only at h
          obtain ⟨ht, h⟩ := cond_some h
          simp only [bindC, cond_false] at h
          cases hu : cp.c with
          | none => rw [hu] at h; cases h
          | some u => rw [hu] at h; exact ⟨_, .eff h0 hT hg hp he ht hu, h⟩

/-- The states in the order of the text. -/
theorem opsD_inv {E : Env} {nt : Nat} {ops : Array Oper} {T : List (Nat × List Nat)} {hd : Nat → Option (List Nat)} {n0 : Nat} {R : Type} {K : St → Option R} {r : R} :
    ∀ {l : List Oper} {i : Nat} {st : St}, opsD E nt false ops T hd n0 l i st K = some r →
      ∃ c : Nat → St, c i = st ∧ (∀ k o, l[k]? = some o → StepR E nt ops T hd n0 (i + k) (c (i + k)) o (c (i + k + 1))) ∧ K (c (i + l.length)) = some r
  | [], i, st, h => ⟨fun _ => st, rfl, fun k o hk => by simp at hk, h⟩
  | o :: l, i, st, h => by
    simp only [opsD] at h
    obtain ⟨st', h1, h2⟩ := stepD_inv h
    obtain ⟨c, c1, c2, c3⟩ := opsD_inv h2
    refine ⟨fun k => if k = i then st else c k, if_pos rfl, fun k o' hk => ?_, ?_⟩
    · cases k with
      | zero =>
        simp only [List.getElem?_cons_zero, Option.some.injEq] at hk
        subst hk
        simp only [Nat.add_zero, if_true]
        rw [if_neg (by omega), c1]
        exact h1
      | succ k =>
        rw [List.getElem?_cons_succ] at hk
        have := c2 k o' hk
        dsimp only
        rw [if_neg (by omega), if_neg (by omega), show i + (k + 1) = i + 1 + k by omega]
        exact this
    · rw [List.length_cons]
      show K (if i + (l.length + 1) = i then st else c (i + (l.length + 1))) = some r
      rw [if_neg (by omega), show i + (l.length + 1) = i + 1 + l.length by omega]
      exact c3

/- The same step in another state -/

def St1 (E : Env) (nt : Nat) (ops : Array Oper) (st : St) (o : Oper) (st' : St) : Prop := ∃ K : St → Option Unit, (∀ s, K s = some () → s = st') ∧ stepOp E nt false ops st o K = some ()
open Classical in
noncomputable def only (st' : St) : St → Option Unit := fun s => if s = st' then some () else none
theorem only_self (s : St) : only s s = some () := by simp [only]
theorem only_eq {s t : St} (h : only t s = some ()) : s = t := by
  unfold only at h
  split at h
  · assumption
  · cases h

theorem find_giveL {l : List (Nat × Bool)} {t : Nat} : ∀ {loc : List (Nat × EV)}, find (giveL l loc) t = match find loc t with
    | some (.when u w a) => some (cond (memG u w l) (.av a) (.when u w a))
    | x => x
  | [] => rfl
  | (k, .av a) :: r => by
    simp only [giveL]
    rw [find_cons, find_cons]
    by_cases e : k = t
    · rw [if_pos e, if_pos e]
    · rw [if_neg e, if_neg e, find_giveL]
  | (k, .when u w a) :: r => by
    simp only [giveL]
    cases hm : memG u w l <;>
    · simp only [cond_true, cond_false]
      rw [find_cons, find_cons]
      by_cases e : k = t
      · rw [if_pos e, if_pos e]; simp only [hm, cond_true, cond_false]
      · rw [if_neg e, if_neg e, find_giveL]
theorem look_congr {st st' : St} {t : Nat} (h1 : find st'.loc t = find st.loc t) (h2 : st'.env = st.env) : st'.look t = st.look t := by
  unfold St.look
  rw [h1, h2]
theorem look_given_congr {st st' : St} {t : Nat} {l : List (Nat × Bool)} (h1 : find st'.loc t = find st.loc t) (h2 : st'.env = st.env) : (st'.given l).look t = (st.given l).look t := by
  refine look_congr ?_ h2
  show find (giveL l st'.loc) t = find (giveL l st.loc) t
  rw [find_giveL, find_giveL, h1]
def Hangs (st : St) : Prop := ∀ t u w x, find st.loc t = some (.when u w x) → (find st.loc u).isSome = true
theorem ctxG_congr {st st' : St} (H : ∀ u, (find st.loc u).isSome = true → (find st'.loc u).isSome = true → find st'.loc u = find st.loc u) (h1 : Hangs st) (h2 : Hangs st') :
    ∀ {n t : Nat} {want : Bool}, (find st.loc t).isSome = true → (find st'.loc t).isSome = true → ctxG n st' t want = ctxG n st t want
  | 0, _, _, _, _ => rfl
  | n + 1, t, want, k1, k2 => by
    simp only [ctxG]
    rw [H t k1 k2]
    cases hf : find st.loc t with
    | none => rfl
    | some e =>
      cases e with
      | av x =>
        cases x <;> try rfl
        rename_i T g
        cases T <;> rfl
      | when u w x =>
        have e1 := h1 t u w x hf
        have e2 := h2 t u w x (by rw [H t k1 k2]; exact hf)
        have e3 := ctxG_congr H h1 h2 (n := n) (want := w) e1 e2
        cases x <;> try rfl
        rename_i T g
        cases T <;> try rfl
        simp only [e3]

/-- What agrees where operation o begins. -/
structure Agree (ops : Array Oper) (o : Oper) (st S : St) : Prop where
  env : S.env = st.env
  loc : ∀ t, .tmp t ∈ o.op.operands → find S.loc t = find st.loc t
  both : ∀ u, (find st.loc u).isSome = true → (find S.loc u).isSome = true → find S.loc u = find st.loc u
  gd : ∀ j w t, o.guard = some (j, w) → dstOf ops j = some t → (find S.loc t).isSome = true
  h1 : Hangs st
  h2 : Hangs S

theorem step_pure {E : Env} {nt : Nat} {ops : Array Oper} {T : List (Nat × List Nat)} {hd : Nat → Option (List Nat)} {n0 i : Nat} {st S st' : St} {o : Oper} (h : StepR E nt ops T hd n0 i st o st') (hT : find T i = none)
    (hA : Agree ops o st S) (hok : dstOk nt S o.dst = true) (hs : Sub (st.hide (hd i) n0).heap S.heap) : ∃ ev, st' = putDst st o.dst ev ∧ St1 E nt ops S o (putDst S o.dst ev) := by
  cases h with
  | pure h0 _ hg hp hu =>
    rename_i cp u
    refine ⟨_, rfl, only (putDst S o.dst (.av (cp.out u))), fun s h => only_eq h, ?_⟩
    have hp' := pureOp_mono hp (st' := S) (fun x hx t e => by
      subst e
      rw [look_congr (hA.loc t hx) hA.env]
      cases hd i <;> rfl) hs
    unfold stepOp
    simp only [hok, cond_true, hg, hp', bindC, cond_false, hu, Option.bind_some]
    exact only_self _
  | guarded h0 _ hg ht hc hp hu =>
    rename_i j want t l b cp u
    refine ⟨_, rfl, only (putDst S o.dst (.when t want (cp.out u))), fun s h => only_eq h, ?_⟩
    have k1 : (find st.loc t).isSome = true := by
      unfold ctxG at hc
      cases hf : find st.loc t with
      | none => rw [hf] at hc; cases hc
      | some _ => rfl
    have hc' : ctxG 8 S t want = some (l, b) := (ctxG_congr hA.both hA.h1 hA.h2 k1 (hA.gd j want t hg ht)).trans hc
    have hp' := pureOp_mono hp (st' := S.given l) (fun x hx t e => by
      subst e
      rw [look_given_congr (hA.loc t hx) hA.env]
      cases hd i <;> rfl) (by
        intro k o' hf
        refine hs k o' ?_
        revert hf
        cases hd i <;> exact fun h => h)
    unfold stepOp
    simp only [hok, cond_true, hg, ht, hc', hp', bindC, cond_false, hu, Option.bind_some]
    exact only_self _
  | eff _ hT' => rw [hT] at hT'; cases hT'
theorem step_eff {E : Env} {nt : Nat} {ops : Array Oper} {T : List (Nat × List Nat)} {hd : Nat → Option (List Nat)} {n0 i : Nat} {st S st' : St} {o : Oper} (h : StepR E nt ops T hd n0 i st o st') {tl : List Nat} (hT : find T i = some tl)
    (hA : Agree ops o st S) (hok : dstOk nt S o.dst = true) (hh : S.heap = st.heap) (hn : S.nx = st.nx) : ∃ e ev, st' = putDst (st.upd e) o.dst ev ∧ St1 E nt ops S o (putDst (S.upd e) o.dst ev) ∧ Keeps st tl e := by
  cases h with
  | pure _ hT' => rw [hT] at hT'; cases hT'
  | guarded _ hT' => rw [hT] at hT'; cases hT'
  | eff h0 hT' hg hp he ht hu =>
    rename_i tl' cp u
    rw [hT] at hT'
    cases hT'
    have hal : ∀ x ∈ o.op.operands, Alike st S x := fun x hx t e => by
      subst e
      exact look_congr (hA.loc t hx) hA.env
    have hk := effOp_touch he u
    refine ⟨_, _, rfl, ⟨only (putDst (S.upd (cp.out u)) o.dst (.av (cp.out u).1)), fun s h => only_eq h, ?_⟩, hk.1, fun id hi hm => hk.2 id hi (subL_mem ht hm)⟩
    have hp' := pureOp_none hp hal hh
    have he' := (effOp_congr (E := E) (dst := o.dst) hal hh hn).trans he
    unfold stepOp
    simp only [hok, cond_true, hg, hp', he', bindC, cond_false, hu, Option.bind_some]
    exact only_self _

theorem StepR.dst {E : Env} {nt : Nat} {ops : Array Oper} {T : List (Nat × List Nat)} {hd : Nat → Option (List Nat)} {n0 i : Nat} {st st' : St} {o : Oper} (h : StepR E nt ops T hd n0 i st o st') :
    dstOk nt st o.dst = true ∧ st'.env = st.env ∧ ∃ ev, (∀ t, find st'.loc t = if o.dst = some t then some ev else find st.loc t) ∧ (∀ u w x, ev = .when u w x → (find st.loc u).isSome = true) := by
  have put : ∀ (s : St) (ev : EV), s.loc = st.loc → ∀ t, find (putDst s o.dst ev).loc t = if o.dst = some t then some ev else find st.loc t := by
    intro s ev e t
    cases ho : o.dst with
    | none => simp only [putDst, e, reduceCtorEq, if_false]
    | some d =>
      show find ((d, ev) :: s.loc) t = _
      rw [find_cons, e]
      by_cases e' : d = t
      · rw [if_pos e', if_pos (by rw [e'])]
      · rw [if_neg e', if_neg (fun h => e' (Option.some.inj h))]
  have putE : ∀ (s : St) (ev : EV), (putDst s o.dst ev).env = s.env := fun s ev => by cases o.dst <;> rfl
  cases h with
  | pure h0 => exact ⟨h0, putE _ _, _, put st _ rfl, fun u w x e => by cases e⟩
  | guarded h0 _ _ ht hc _ _ =>
    refine ⟨h0, putE _ _, _, put st _ rfl, fun u w x e => ?_⟩
    cases e
    unfold ctxG at hc
    split at hc
    · rename_i hf; rw [hf]; rfl
    · rename_i hf; rw [hf]; rfl
    · cases hc
  | eff h0 =>
    rename_i cp _ _ _ u _
    exact ⟨h0, putE _ _, _, put (st.upd _) _ rfl, fun u w x e => by cases e⟩
theorem StepR.keep {E : Env} {nt : Nat} {ops : Array Oper} {T : List (Nat × List Nat)} {hd : Nat → Option (List Nat)} {n0 i : Nat} {st st' : St} {o : Oper} (h : StepR E nt ops T hd n0 i st o st') :
    st.nx ≤ st'.nx ∧ (find T i = none → st'.heap = st.heap ∧ st'.nx = st.nx) ∧ ∀ tl, find T i = some tl → ∀ id, id < st.nx → memN id tl = false → find st'.heap id = find st.heap id := by
  have put : ∀ (s : St) (ev : EV), (putDst s o.dst ev).heap = s.heap ∧ (putDst s o.dst ev).nx = s.nx := fun s ev => by cases o.dst <;> exact ⟨rfl, rfl⟩
  cases h with
  | pure _ hT =>
    rw [(put _ _).1, (put _ _).2]
    exact ⟨Nat.le_refl _, fun _ => ⟨rfl, rfl⟩, fun _ h => by rw [hT] at h; cases h⟩
  | guarded _ hT =>
    rw [(put _ _).1, (put _ _).2]
    exact ⟨Nat.le_refl _, fun _ => ⟨rfl, rfl⟩, fun _ h => by rw [hT] at h; cases h⟩
  | eff _ hT _ _ he ht _ =>
    rw [(put _ _).1, (put _ _).2]
    have hk := effOp_touch he (by assumption)
    refine ⟨hk.1, (fun h => by rw [hT] at h; cases h), fun tl h id hi hm => ?_⟩
    rw [hT] at h
    cases h
    exact hk.2 id hi (subL_mem ht hm)

end Go.Proofs.YtlkggeaibgaohaaGreatDoor.Sim
