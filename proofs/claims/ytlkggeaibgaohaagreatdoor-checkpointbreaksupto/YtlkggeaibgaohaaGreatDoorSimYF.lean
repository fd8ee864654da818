/- Regions whose order is drawn: the proof. -/
import Derived.Test.YtlkggeaibgaohaaGreatDoorSimYE
namespace Go.Proofs.YtlkggeaibgaohaaGreatDoor.Sim
open Go Go.RowKit

structure Can (E : Env) (nt : Nat) (ops : Array Oper) (T : List (Nat × List Nat)) (A : List Nat) (st0 : St) (c : Nat → St) : Prop where
  h0 : c 0 = st0
  l0 : st0.loc = []
  step : ∀ i o, ops[i]? = some o → StepR E nt ops T (fun i => hidden A i T) st0.nx i (c i) o (c (i + 1))
  ok : drawOk ops.toList A T = true

section
variable {E : Env} {nt : Nat} {ops : Array Oper} {T : List (Nat × List Nat)} {A : List Nat} {st0 : St} {c : Nat → St}

theorem ops_some {i : Nat} (h : i < ops.size) : ∃ o, ops[i]? = some o := ⟨ops[i], Array.getElem?_eq_getElem h⟩
theorem ops_lt {i : Nat} {o : Oper} (h : ops[i]? = some o) : i < ops.size := (Array.getElem?_eq_some_iff.1 h).1
theorem dstOf_some {i t : Nat} {o : Oper} (h : ops[i]? = some o) : dstOf ops i = some t ↔ o.dst = some t := by
  simp [dstOf, h]
theorem dstOf_lt {i t : Nat} (h : dstOf ops i = some t) : i < ops.size := by
  unfold dstOf at h
  cases ho : ops[i]? with
  | none => rw [ho] at h; cases h
  | some o => exact ops_lt ho

namespace Can
variable (C : Can E nt ops T A st0 c)
include C

theorem env : ∀ i, i ≤ ops.size → (c i).env = st0.env
  | 0, _ => by rw [C.h0]
  | i + 1, h => by
    obtain ⟨o, ho⟩ := ops_some (ops := ops) (i := i) (by omega)
    rw [(C.step i o ho).dst.2.1]
    exact env i (by omega)
theorem locOf {t : Nat} : ∀ i, i ≤ ops.size → ((find (c i).loc t).isSome = true ↔ ∃ j, j < i ∧ dstOf ops j = some t)
  | 0, _ => by rw [C.h0, C.l0]; simp [find]
  | i + 1, h => by
    obtain ⟨o, ho⟩ := ops_some (ops := ops) (i := i) (by omega)
    obtain ⟨_, _, ev, hl, _⟩ := (C.step i o ho).dst
    rw [hl t]
    have ih := locOf (t := t) i (by omega)
    by_cases hd : o.dst = some t
    · rw [if_pos hd]
      exact ⟨fun _ => ⟨i, by omega, (dstOf_some ho).2 hd⟩, fun _ => rfl⟩
    · rw [if_neg hd, ih]
      constructor
      · rintro ⟨j, h1, h2⟩; exact ⟨j, by omega, h2⟩
      · rintro ⟨j, h1, h2⟩
        by_cases hji : j = i
        · subst hji; exact absurd ((dstOf_some ho).1 h2) hd
        · exact ⟨j, by omega, h2⟩
theorem locStep {t i : Nat} {e : EV} (hi : i < ops.size) (h : find (c i).loc t = some e) : find (c (i + 1)).loc t = some e := by
  obtain ⟨o, ho⟩ := ops_some (ops := ops) hi
  obtain ⟨hd, _, ev, hl, _⟩ := (C.step i o ho).dst
  rw [hl t, if_neg, h]
  intro hdt
  rw [hdt] at hd
  rw [(dstOk_some hd).2] at h
  cases h
theorem locMono {t i : Nat} {e : EV} : ∀ k, i + k ≤ ops.size → find (c i).loc t = some e → find (c (i + k)).loc t = some e
  | 0, _, h => h
  | k + 1, hk, h => C.locStep (i := i + k) (by omega) (locMono k (by omega) h)
theorem locMono' {t i j : Nat} {e : EV} (hij : i ≤ j) (hj : j ≤ ops.size) (h : find (c i).loc t = some e) : find (c j).loc t = some e := by
  have := C.locMono (i := i) (j - i) (by omega) h
  rwa [show i + (j - i) = j by omega] at this
theorem hang : ∀ i, i ≤ ops.size → Hangs (c i)
  | 0, _ => by intro t u w x h; rw [C.h0, C.l0] at h; simp [find] at h
  | i + 1, h => by
    intro t u w x hf
    obtain ⟨o, ho⟩ := ops_some (ops := ops) (i := i) (by omega)
    obtain ⟨_, _, ev, hl, hw⟩ := (C.step i o ho).dst
    have hsome : ∀ u, (find (c i).loc u).isSome = true → (find (c (i + 1)).loc u).isSome = true := fun u hu => by
      obtain ⟨y, hy⟩ := Option.isSome_iff_exists.1 hu
      rw [C.locStep (by omega) hy]; rfl
    rw [hl t] at hf
    by_cases hd : o.dst = some t
    · rw [if_pos hd] at hf
      cases hf
      exact hsome u (hw u w x rfl)
    · rw [if_neg hd] at hf
      exact hsome u (hang i (by omega) t u w x hf)
theorem heapSame {i : Nat} : ∀ k, i + k ≤ ops.size → (∀ e, i ≤ e → e < i + k → find T e = none) → (c (i + k)).heap = (c i).heap ∧ (c (i + k)).nx = (c i).nx
  | 0, _, _ => ⟨rfl, rfl⟩
  | k + 1, h, hT => by
    obtain ⟨o, ho⟩ := ops_some (ops := ops) (i := i + k) (by omega)
    obtain ⟨_, h2, _⟩ := (C.step (i + k) o ho).keep
    obtain ⟨k1, k2⟩ := heapSame k (by omega) fun e h1 h2 => hT e h1 (by omega)
    obtain ⟨q1, q2⟩ := h2 (hT (i + k) (by omega) (by omega))
    exact ⟨q1.trans k1, q2.trans k2⟩
theorem nxMono {i : Nat} : ∀ k, i + k ≤ ops.size → (c i).nx ≤ (c (i + k)).nx
  | 0, _ => Nat.le_refl _
  | k + 1, h => by
    obtain ⟨o, ho⟩ := ops_some (ops := ops) (i := i + k) (by omega)
    exact Nat.le_trans (nxMono k (by omega)) (C.step (i + k) o ho).keep.1
theorem heapKeep {i id : Nat} (hid : id < (c i).nx) : ∀ k, i + k ≤ ops.size → (∀ e tl, i ≤ e → e < i + k → find T e = some tl → memN id tl = false) → find (c (i + k)).heap id = find (c i).heap id
  | 0, _, _ => rfl
  | k + 1, h, hT => by
    obtain ⟨o, ho⟩ := ops_some (ops := ops) (i := i + k) (by omega)
    obtain ⟨_, h2, h3⟩ := (C.step (i + k) o ho).keep
    have ih := heapKeep hid k (by omega) fun e tl h1 h2 => hT e tl h1 (by omega)
    have hn := C.nxMono (i := i) k (by omega)
    cases hf : find T (i + k) with
    | none => rw [show i + (k + 1) = i + k + 1 by omega, (h2 hf).1, ih]
    | some tl => rw [show i + (k + 1) = i + k + 1 by omega, h3 tl hf id (by omega) (hT (i + k) tl (by omega) (by omega) hf), ih]

/- Order -/

theorem oks : ancOk A ops.toList 0 = true ∧ readsOk A ops.toList ops.toList 0 = true ∧ chainOk A T T = true := by
  have h := C.ok
  unfold drawOk at h
  cases h1 : ancOk A ops.toList 0 with
  | false => rw [h1] at h; cases h
  | true =>
    rw [h1] at h
    cases h2 : readsOk A ops.toList ops.toList 0 with
    | false => rw [h2] at h; cases h
    | true => rw [h2] at h; exact ⟨rfl, rfl, h⟩
theorem edge {i : Nat} {o : Oper} (ho : ops[i]? = some o) {e : Edge} (he : e ∈ o.after) (hb : bindsA e = true) : e.on < i := by
  have := (ancOk_at C.oks.1 (k := i) (o := o) (by simpa using ho)).1
  rw [Nat.zero_add] at this
  exact edgesLt_mem this (by simpa using he) hb
theorem anc {i j : Nat} {o : Oper} (ho : ops[i]? = some o) (h : Nat.testBit (nthN A i) j = true) : ∃ e ∈ o.after, bindsA e = true ∧ (j = e.on ∨ Nat.testBit (nthN A e.on) j = true) := by
  have := (ancOk_at C.oks.1 (k := i) (o := o) (by simpa using ho)).2
  rw [Nat.zero_add] at this
  rw [this] at h
  obtain ⟨e, h1, h2⟩ := maskE_bit h
  exact ⟨e, by simpa using h1, h2⟩
theorem ancLt : ∀ {i j : Nat}, i < ops.size → Nat.testBit (nthN A i) j = true → j < i := by
  intro i
  induction i using Nat.strongRecOn with
  | ind i ih =>
    intro j hi h
    obtain ⟨o, ho⟩ := ops_some (ops := ops) hi
    obtain ⟨e, he, hb, hj⟩ := C.anc ho h
    have hlt := C.edge ho he hb
    rcases hj with rfl | hj
    · exact hlt
    · have := ih e.on hlt (by omega) hj
      omega
theorem reads {i j t : Nat} {o : Oper} (ho : ops[i]? = some o) (ht : .tmp t ∈ o.op.operands) (hd : dstOf ops j = some t) (hne : j ≠ i) :
    (j < i → Nat.testBit (nthN A i) j = true) ∧ (i < j → Nat.testBit (nthN A j) i = true) := by
  have h1 := (readsOk_at C.oks.2.1 (k := i) (o := o) (by simpa using ho)).1
  rw [Nat.zero_add] at h1
  have h2 := readL_at h1 (t := t) (by simpa using ht)
  obtain ⟨o', ho'⟩ := ops_some (ops := ops) (dstOf_lt hd)
  have h3 := readT_at h2 (k := j) (o := o') (by simpa using ho') ((dstOf_some ho').1 hd)
  rw [Nat.zero_add] at h3
  unfold ordered at h3
  have hb : Nat.beq i j = false := by
    cases hb : Nat.beq i j with
    | false => rfl
    | true => exact absurd (Nat.eq_of_beq_eq_true hb).symm hne
  rw [hb, cond_false] at h3
  constructor
  · intro hlt
    have : Nat.blt j i = true := by simpa [Nat.blt_eq] using hlt
    rw [this] at h3; exact h3
  · intro hlt
    have : Nat.blt j i = false := by
      cases hb : Nat.blt j i with
      | false => rfl
      | true => have : j < i := by simpa [Nat.blt_eq] using hb
                omega
    rw [this] at h3; exact h3
theorem guardA {i j : Nat} {w : Bool} {o : Oper} (ho : ops[i]? = some o) (hg : o.guard = some (j, w)) : Nat.testBit (nthN A i) j = true := by
  have h1 := (readsOk_at C.oks.2.1 (k := i) (o := o) (by simpa using ho)).2 j w hg
  rwa [Nat.zero_add] at h1
theorem chain {e f : Nat} {l l' : List Nat} (he : find T e = some l) (hf : find T f = some l') (hlt : e < f) : Nat.testBit (nthN A f) e = true :=
  chain1_at (chainOk_at C.oks.2.2 (mem_of_find hf)) (mem_of_find he) hlt

end Can

/- A state on the way -/

def L (listed : Array Bool) (j : Nat) : Prop := listed.getD j false = true
/-- Whoever comes before operation i has been. -/
def Before (ops : Array Oper) (listed : Array Bool) (i : Nat) : Prop := ∀ o, ops[i]? = some o → ∀ e ∈ o.after, bindsA e = true → L listed e.on

structure Inv (ops : Array Oper) (T : List (Nat × List Nat)) (c : Nat → St) (listed : Array Bool) (S : St) : Prop where
  size : listed.size = ops.size
  env : S.env = (c 0).env
  closed : ∀ i, L listed i → Before ops listed i
  loc : ∀ t x, find S.loc t = some x → find (c ops.size).loc t = some x
  locOf : ∀ t, (find S.loc t).isSome = true ↔ ∃ j, L listed j ∧ dstOf ops j = some t
  heap : ∃ p, p ≤ ops.size ∧ (∀ e tl, find T e = some tl → (L listed e ↔ e < p)) ∧ S.heap = (c p).heap ∧ S.nx = (c p).nx

theorem anc_listed (C : Can E nt ops T A st0 c) {listed : Array Bool} (hcl : ∀ i, L listed i → Before ops listed i) : ∀ {i j : Nat}, i < ops.size → Before ops listed i → Nat.testBit (nthN A i) j = true → L listed j := by
  intro i
  induction i using Nat.strongRecOn with
  | ind i ih =>
    intro j hi hb h
    obtain ⟨o, ho⟩ := ops_some (ops := ops) hi
    obtain ⟨e, he, hbe, hj⟩ := C.anc ho h
    have hlt := C.edge ho he hbe
    have hl := hb o ho e he hbe
    rcases hj with rfl | hj
    · exact hl
    · exact ih e.on hlt (by omega) (hcl _ hl) hj

theorem getD_L {listed : Array Bool} {i j : Nat} (hi : i < listed.size) : L (listed.setIfInBounds i true) j ↔ j = i ∨ L listed j := by
  unfold L
  by_cases h : i = j
  · subst h
    simp [hi]
  · rw [getD_set_ne false h]
    constructor
    · exact .inr
    · rintro (h' | h')
      · exact absurd h'.symm h
      · exact h'

theorem inv_step (C : Can E nt ops T A st0 c) {listed : Array Bool} {S : St} (I : Inv ops T c listed S) (hS : Hangs S) {i : Nat} {o : Oper} (ho : ops[i]? = some o) (hun : ¬ L listed i) (hb : Before ops listed i) :
    ∃ S', St1 E nt ops S o S' ∧ Inv ops T c (listed.setIfInBounds i true) S' := by
  have hi := ops_lt ho
  have his : i < listed.size := by rw [I.size]; exact hi
  have hanc : ∀ {j}, Nat.testBit (nthN A i) j = true → L listed j := fun h => anc_listed C I.closed hi hb h
  have hnot : ∀ {j}, j < ops.size → L listed j → Nat.testBit (nthN A j) i = false := fun {j} hj hl => by
    cases h : Nat.testBit (nthN A j) i with
    | false => rfl
    | true => exact absurd (anc_listed C I.closed hj (I.closed j hl) h) hun
  -- what the temporaries hold
  have hfin : ∀ u x y, find (c i).loc u = some x → find S.loc u = some y → y = x := fun u x y h1 h2 => by
    have e1 := C.locMono' (Nat.le_of_lt hi) (Nat.le_refl _) h1
    have e2 := I.loc u y h2
    rw [e1] at e2
    exact (Option.some.inj e2).symm
  have hA : Agree ops o (c i) S := by
    refine ⟨by rw [I.env, C.env i (Nat.le_of_lt hi), C.h0], fun t ht => ?_, fun u h1 h2 => ?_, fun j w t hg hd => ?_, C.hang i (Nat.le_of_lt hi), hS⟩
    · cases h1 : find (c i).loc t with
      | some x =>
        obtain ⟨j, hj, hd⟩ := (C.locOf i (Nat.le_of_lt hi)).1 (by rw [h1]; rfl)
        have hl := hanc ((C.reads ho ht hd (by omega)).1 hj)
        have hs := (I.locOf t).2 ⟨j, hl, hd⟩
        obtain ⟨y, hy⟩ := Option.isSome_iff_exists.1 hs
        rw [hy, hfin t x y h1 hy]
      | none =>
        cases h2 : find S.loc t with
        | none => rfl
        | some y =>
          exfalso
          obtain ⟨j, hl, hd⟩ := (I.locOf t).1 (by rw [h2]; rfl)
          have hji : j ≠ i := fun e => hun (e ▸ hl)
          have hjn := dstOf_lt hd
          rcases Nat.lt_or_ge j i with h | h
          · have := (C.locOf (t := t) i (Nat.le_of_lt hi)).2 ⟨j, h, hd⟩
            rw [h1] at this; cases this
          · have h3 := (C.reads ho ht hd hji).2 (by omega)
            rw [hnot hjn hl] at h3
            cases h3
    · obtain ⟨x, hx⟩ := Option.isSome_iff_exists.1 h1
      obtain ⟨y, hy⟩ := Option.isSome_iff_exists.1 h2
      rw [hx, hy, hfin u x y hx hy]
    · exact (I.locOf t).2 ⟨j, hanc (C.guardA ho hg), hd⟩
  obtain ⟨hdok, hE', ev, hl', hw'⟩ := (C.step i o ho).dst
  have hok : dstOk nt S o.dst = true := by
    cases hd : o.dst with
    | none => rfl
    | some d =>
      rw [hd] at hdok
      obtain ⟨k1, k2⟩ := dstOk_some hdok
      have : find S.loc d = none := by
        cases h2 : find S.loc d with
        | none => rfl
        | some y =>
          exfalso
          obtain ⟨j, hl, hdj⟩ := (I.locOf d).1 (by rw [h2]; rfl)
          have hji : j ≠ i := fun e => hun (e ▸ hl)
          have hjn := dstOf_lt hdj
          rcases Nat.lt_or_ge j i with h | h
          · have := (C.locOf (t := d) i (Nat.le_of_lt hi)).2 ⟨j, h, hdj⟩
            rw [k2] at this; cases this
          · obtain ⟨o', ho'⟩ := ops_some (ops := ops) hjn
            have hd' := (C.step j o' ho').dst.1
            rw [(dstOf_some ho').1 hdj] at hd'
            have h5 := (dstOk_some hd').2
            have h6 := (C.locOf (t := d) j (Nat.le_of_lt hjn)).2 ⟨i, by omega, (dstOf_some ho).2 hd⟩
            rw [h5] at h6; cases h6
      have hb : Nat.blt d nt = true := by simpa [Nat.blt_eq] using k1
      show (bif Nat.blt d nt then (match find S.loc d with | none => true | some _ => false) else false) = true
      rw [hb, this]; rfl
  obtain ⟨p, hp, hpe, hph, hpn⟩ := I.heap
  -- what is left of the invariant, whatever the objects are
  have rest : ∀ (S' : St) (ev' : EV), c (i + 1) = putDst (c i) o.dst ev' ∨ (∃ e, c (i + 1) = putDst ((c i).upd e) o.dst ev') → S'.env = S.env → (∀ t, find S'.loc t = if o.dst = some t then some ev' else find S.loc t) →
      (∃ p, p ≤ ops.size ∧ (∀ e tl, find T e = some tl → (L (listed.setIfInBounds i true) e ↔ e < p)) ∧ S'.heap = (c p).heap ∧ S'.nx = (c p).nx) → Inv ops T c (listed.setIfInBounds i true) S' := by
    intro S' ev' hc' he hl hh
    refine ⟨by simp [I.size], he.trans I.env, fun k hk => ?_, fun t x hx => ?_, fun t => ?_, hh⟩
    · rcases (getD_L his).1 hk with rfl | hk
      · exact fun o' ho' e h1 h2 => (getD_L his).2 (.inr (hb o' ho' e h1 h2))
      · exact fun o' ho' e h1 h2 => (getD_L his).2 (.inr (I.closed k hk o' ho' e h1 h2))
    · rw [hl t] at hx
      by_cases hd : o.dst = some t
      · rw [if_pos hd] at hx
        cases hx
        refine C.locMono' (i := i + 1) (by omega) (Nat.le_refl _) ?_
        rcases hc' with h | ⟨e, h⟩ <;> rw [h, hd] <;> exact (find_cons ..).trans (if_pos rfl)
      · rw [if_neg hd] at hx
        exact I.loc t x hx
    · rw [hl t]
      by_cases hd : o.dst = some t
      · rw [if_pos hd]
        exact ⟨fun _ => ⟨i, (getD_L his).2 (.inl rfl), (dstOf_some ho).2 hd⟩, fun _ => rfl⟩
      · rw [if_neg hd, I.locOf t]
        constructor
        · rintro ⟨j, h1, h2⟩; exact ⟨j, (getD_L his).2 (.inr h1), h2⟩
        · rintro ⟨j, h1, h2⟩
          rcases (getD_L his).1 h1 with rfl | h1
          · exact absurd ((dstOf_some ho).1 h2) hd
          · exact ⟨j, h1, h2⟩
  have hput : ∀ (s : St) (ev' : EV), s.loc = S.loc → ∀ t, find (putDst s o.dst ev').loc t = if o.dst = some t then some ev' else find S.loc t := by
    intro s ev' e t
    cases hod : o.dst with
    | none => simp only [putDst, e, reduceCtorEq, if_false]
    | some d =>
      show find ((d, ev') :: s.loc) t = _
      rw [find_cons, e]
      by_cases e' : d = t
      · rw [if_pos e', if_pos (by rw [e'])]
      · rw [if_neg e', if_neg (fun h => e' (Option.some.inj h))]
  have hputE : ∀ (s : St) (ev' : EV), (putDst s o.dst ev').env = s.env ∧ (putDst s o.dst ev').heap = s.heap ∧ (putDst s o.dst ev').nx = s.nx := fun s ev' => by cases o.dst <;> exact ⟨rfl, rfl, rfl⟩
  cases hT : find T i with
  | none =>
    -- the objects that it reads are those of the text's order
    have betw : ∀ e tl, find T e = some tl → ((p ≤ e ∧ e < i) ∨ (i ≤ e ∧ e < p)) → ∃ hl, hidden A i T = some hl ∧ ∀ x, memN x hl = false → memN x tl = false := by
      intro e tl he hcase
      have hei : e ≠ i := fun h => by rw [h, hT] at he; cases he
      refine hidden_at hei ?_ ?_ (mem_of_find he)
      · cases h : Nat.testBit (nthN A i) e with
        | false => rfl
        | true =>
          exfalso
          have h1 := C.ancLt hi h
          have h2 := (hpe e tl he).1 (hanc h)
          rcases hcase with h3 | h3 <;> omega
      · rcases hcase with ⟨h3, h4⟩ | ⟨h3, h4⟩
        · cases h : Nat.testBit (nthN A e) i with
          | false => rfl
          | true => have := C.ancLt (i := e) (by omega) h; omega
        · exact hnot (by omega) ((hpe e tl he).2 h4)
    have hsub : Sub ((c i).hide (hidden A i T) st0.nx).heap S.heap := by
      intro id x hx
      rw [hph]
      cases hh : hidden A i T with
      | none =>
        rw [hh] at hx
        have none' : ∀ e, ((p ≤ e ∧ e < i) ∨ (i ≤ e ∧ e < p)) → find T e = none := fun e he => by
          cases hf : find T e with
          | none => rfl
          | some tl =>
            obtain ⟨hl, h1, _⟩ := betw e tl hf he
            rw [hh] at h1; cases h1
        have hsame : (c p).heap = (c i).heap := by
          rcases Nat.le_total p i with h | h
          · have := (C.heapSame (i := p) (i - p) (by omega) fun e h1 h2 => none' e (.inl ⟨h1, by omega⟩)).1
            rw [show p + (i - p) = i by omega] at this
            exact this.symm
          · have := (C.heapSame (i := i) (p - i) (by omega) fun e h1 h2 => none' e (.inr ⟨h1, by omega⟩)).1
            rwa [show i + (p - i) = p by omega] at this
        rw [hsame]
        exact hx
      | some hl =>
        rw [hh] at hx
        obtain ⟨k1, k2, k3⟩ := find_hideH hx
        have hm : ∀ e tl, find T e = some tl → ((p ≤ e ∧ e < i) ∨ (i ≤ e ∧ e < p)) → memN id tl = false := fun e tl he hc => by
          obtain ⟨hl', h1, h2⟩ := betw e tl he hc
          rw [hh] at h1
          cases h1
          exact h2 id k2
        have hnx : ∀ k, k ≤ ops.size → st0.nx ≤ (c k).nx := fun k hk => by
          have := C.nxMono (i := 0) k (by omega)
          rwa [Nat.zero_add, C.h0] at this
        rcases Nat.le_total p i with h | h
        · have := C.heapKeep (i := p) (id := id) (by have := hnx p hp; omega) (i - p) (by omega) fun e tl h1 h2 h3 => hm e tl h3 (.inl ⟨h1, by omega⟩)
          rw [show p + (i - p) = i by omega] at this
          rw [← this]; exact k3
        · have := C.heapKeep (i := i) (id := id) (by have := hnx i (by omega); omega) (p - i) (by omega) fun e tl h1 h2 h3 => hm e tl h3 (.inr ⟨h1, by omega⟩)
          rw [show i + (p - i) = p by omega] at this
          rw [this]; exact k3
    obtain ⟨ev', h1, h2⟩ := step_pure (C.step i o ho) hT hA hok hsub
    refine ⟨_, h2, rest _ ev' (.inl h1) (hputE S ev').1 (hput S ev' rfl) ⟨p, hp, fun e tl he => ?_, (hputE S ev').2.1.trans hph, (hputE S ev').2.2.trans hpn⟩⟩
    rw [getD_L his, ← hpe e tl he]
    constructor
    · rintro (rfl | h)
      · rw [hT] at he; cases he
      · exact h
    · exact .inr
  | some tl =>
    have hpi : p ≤ i := by
      rcases Nat.lt_or_ge i p with h | h
      · exact absurd ((hpe i tl hT).2 h) hun
      · exact h
    have none' : ∀ e, p ≤ e → e < i → find T e = none := fun e h1 h2 => by
      cases hf : find T e with
      | none => rfl
      | some tl' =>
        exfalso
        have := (hpe e tl' hf).1 (hanc (C.chain hf hT h2))
        omega
    obtain ⟨q1, q2⟩ := C.heapSame (i := p) (i - p) (by omega) fun e h1 h2 => none' e h1 (by omega)
    rw [show p + (i - p) = i by omega] at q1 q2
    obtain ⟨e, ev', h1, h2, hk⟩ := step_eff (C.step i o ho) hT hA hok (hph.trans q1.symm) (hpn.trans q2.symm)
    have hci : (c (i + 1)).heap = e.2.1 ∧ (c (i + 1)).nx = e.2.2 := by
      rw [h1]
      exact ⟨(hputE ((c i).upd e) ev').2.1, (hputE ((c i).upd e) ev').2.2⟩
    refine ⟨_, h2, rest _ ev' (.inr ⟨e, h1⟩) (hputE (S.upd e) ev').1 (hput (S.upd e) ev' rfl)
      ⟨i + 1, by omega, fun f tf hf => ?_, (hputE (S.upd e) ev').2.1.trans hci.1.symm, (hputE (S.upd e) ev').2.2.trans hci.2.symm⟩⟩
    rw [getD_L his]
    constructor
    · rintro (rfl | h)
      · omega
      · rcases Nat.lt_or_ge f (i + 1) with h' | h'
        · exact h'
        · exfalso
          have := (hpe f tf hf).1 h
          omega
    · intro hlt
      by_cases hfi : f = i
      · exact .inl hfi
      · exact .inr (hanc (C.chain hf hT (by omega)))

end
end Go.Proofs.YtlkggeaibgaohaaGreatDoor.Sim
