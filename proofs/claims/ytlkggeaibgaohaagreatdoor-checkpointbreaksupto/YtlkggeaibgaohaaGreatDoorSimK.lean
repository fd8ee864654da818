/- Zero values; structs and slices that are built. -/
import Derived.Test.YtlkggeaibgaohaaGreatDoorSimJ
namespace Go.Proofs.YtlkggeaibgaohaaGreatDoor.Sim
open Go Go.RowKit

/-- The cells of a type's zero value. -/
def zeroL : Nat → Ty → Option (List Value)
  | 0, _ => none
  | n + 1, t => match t with
    | .int k => some [.int k 0]
    | .bool => some [.bool false]
    | .str => some [.string ByteArray.empty]
    | .unit => some []
    | .pair a b => match zeroL n a with
      | none => none
      | some x => match zeroL n b with
        | none => none
        | some y => some (x ++ y)
    | .struct b => zeroL n b
    | .slice e => cond (Nat.blt 0 e.size) (some [.slice none 0 0]) none
    | .tslice _ => none
    | .arr l e => match zeroL n e with
      | none => none
      | some x => some ((List.range l).flatMap fun _ => x)
    | .named r => zeroL n (Ty.body r)

theorem zeroL_rep (O : Nat → Prop) (w : World) : ∀ {n : Nat} {t : Ty} {cs : List Value}, zeroL n t = some cs → Rep O w t cs t.dflt := by
  intro n
  induction n with
  | zero => intro t cs h; cases h
  | succ n ih =>
    intro t cs h
    cases t with
    | int k =>
      simp only [zeroL, Option.some.injEq] at h; subst h
      exact .int (by rw [inKind_iff]; cases k <;> simp [kMin, kMax])
    | bool => simp only [zeroL, Option.some.injEq] at h; subst h; exact .bool false
    | str => simp only [zeroL, Option.some.injEq] at h; subst h; exact .str (by simp)
    | unit => simp only [zeroL, Option.some.injEq] at h; subst h; exact .unit
    | pair a b =>
      simp only [zeroL] at h
      cases h1 : zeroL n a with
      | none => rw [h1] at h; cases h
      | some x =>
        cases h2 : zeroL n b with
        | none => rw [h1, h2] at h; cases h
        | some y =>
          rw [h1, h2] at h
          simp only [Option.some.injEq] at h
          subst h
          exact .pair (ih h1) (ih h2)
    | struct b => exact .struct (ih h)
    | slice e =>
      simp only [zeroL] at h
      cases hb : Nat.blt 0 e.size with
      | false => rw [hb] at h; cases h
      | true =>
        rw [hb] at h
        simp only [cond_true, Option.some.injEq] at h
        subst h
        exact .slice none 0 0 (fun _ => []) rfl (Nat.le_refl _) (Nat.zero_le _) (Nat.lt_of_succ_le (Nat.le_of_ble_eq_true hb)) (by omega) (.inl rfl) (fun i hi => absurd hi (Nat.not_lt_zero i))
    | tslice e => cases h
    | arr l e =>
      simp only [zeroL] at h
      cases h1 : zeroL n e with
      | none => rw [h1] at h; cases h
      | some x =>
        rw [h1] at h
        simp only [Option.some.injEq] at h
        subst h
        exact .arr (fun _ => x) (by simp [Ty.dflt]) (fun i hi => by simpa [Ty.dflt] using ih h1)
    | named r =>
      have := ih (t := Ty.body r) h
      refine .named ?_
      cases r <;> exact this

def zeq : Value → Value → Bool
  | .int k a, .int l b => Nat.beq (kindNo k) (kindNo l) && decide (a = b)
  | .bool a, .bool b => a == b
  | .string s, .string t => Nat.beq s.size 0 && Nat.beq t.size 0
  | .slice none 0 0, .slice none 0 0 => true
  | _, _ => false
def zeqL : List Value → List Value → Bool
  | [], [] => true
  | a :: l, b :: r => zeq a b && zeqL l r
  | _, _ => false
theorem zeq_eq {a b : Value} (h : zeq a b = true) : a = b := by
  unfold zeq at h
  split at h
  · rw [Bool.and_eq_true] at h
    rw [kindNo_inj h.1, of_decide_eq_true h.2]
  · rw [eq_of_beq h]
  · rename_i s t
    rw [Bool.and_eq_true] at h
    have h1 := Nat.eq_of_beq_eq_true h.1
    have h2 := Nat.eq_of_beq_eq_true h.2
    have e : ∀ s : ByteArray, s.size = 0 → s = ⟨#[]⟩ := fun s hs => by
      cases s with
      | mk d => rw [Array.eq_empty_of_size_eq_zero (show d.size = 0 from hs)]
    rw [e s h1, e t h2]
  · rfl
  · cases h
theorem zeqL_eq : ∀ {l r : List Value}, zeqL l r = true → l = r
  | [], [], _ => rfl
  | [], _ :: _, h => by cases h
  | _ :: _, [], h => by cases h
  | a :: l, b :: r, h => by
    simp only [zeqL, Bool.and_eq_true] at h
    rw [zeq_eq h.1, zeqL_eq h.2]

/-- The program's own zero value of a type is the zero datum's. -/
def zeroIs (P : Program) (t : TypeId) (T : Ty) : Bool :=
  match P.info? t with
  | some i => match i.zero, zeroL 60 T with
    | some v, some cs => zeqL v.cells.toList cs
    | _, _ => false
  | none => false
theorem zeroIs_sound {P : Program} {t : TypeId} {T : Ty} (h : zeroIs P t T = true) (O : Nat → Prop) (w : World) : ∃ v, (zeroValue t).run P w = .ok v w ∧ Rep O w T v.cells.toList T.dflt := by
  unfold zeroIs at h
  cases hi : P.info? t with
  | none => rw [hi] at h; cases h
  | some i =>
    rw [hi] at h
    simp only at h
    cases hz : i.zero with
    | none => rw [hz] at h; cases h
    | some v =>
      cases hl : zeroL 60 T with
      | none => rw [hz, hl] at h; cases h
      | some cs =>
        rw [hz, hl] at h
        refine ⟨v, by simp [zeroValue, typeInfo, hi, hz], ?_⟩
        rw [zeqL_eq h]
        exact zeroL_rep O w hl

/- Filling -/

theorem put_seg : ∀ (l : List Value) (off s : Nat) (A : Array Value), (l.zipIdx s).foldl (fun cs (x : Value × Nat) => cs.setIfInBounds (off + x.2) x.1) A = (l.zipIdx s).foldl (fun cs x => cs.setIfInBounds (off + x.2) x.1) A ∧
    ((l.zipIdx s).foldl (fun cs (x : Value × Nat) => cs.setIfInBounds (off + x.2) x.1) A).size = A.size ∧
    ∀ k, ((l.zipIdx s).foldl (fun cs (x : Value × Nat) => cs.setIfInBounds (off + x.2) x.1) A)[k]? = if off + s ≤ k ∧ k < off + s + l.length ∧ k < A.size then l[k - (off + s)]? else A[k]?
  | [], off, s, A => by
    refine ⟨rfl, rfl, fun k => ?_⟩
    simp only [List.zipIdx_nil, List.foldl_nil, List.length_nil]
    rw [if_neg (by omega)]
  | v :: l, off, s, A => by
    obtain ⟨_, h2, h3⟩ := put_seg l off (s + 1) (A.setIfInBounds (off + s) v)
    simp only [List.zipIdx_cons, List.foldl_cons]
    refine ⟨trivial, by rw [h2]; simp, fun k => ?_⟩
    rw [h3 k]
    simp only [Array.size_setIfInBounds, Array.getElem?_setIfInBounds, List.length_cons]
    by_cases hk : off + s = k
    · subst hk
      rw [if_neg (by omega)]
      by_cases hs : off + s < A.size
      · rw [if_pos rfl, if_pos hs, if_pos (by omega), Nat.sub_self]; rfl
      · rw [if_pos rfl, if_neg hs, if_neg (by omega), Array.getElem?_eq_none (by omega)]
    · rw [if_neg hk]
      by_cases hc : off + (s + 1) ≤ k ∧ k < off + (s + 1) + l.length ∧ k < A.size
      · rw [if_pos hc, if_pos (by omega)]
        have : k - (off + s) = (k - (off + (s + 1))) + 1 := by omega
        rw [this, List.getElem?_cons_succ]
      · rw [if_neg hc, if_neg (by omega)]

theorem put_cells (cells A : Array Value) (off : Nat) (hfit : off + cells.size ≤ A.size) :
    (cells.zipIdx.foldl (fun cs (x : Value × Nat) => cs.setIfInBounds (off + x.2) x.1) A).size = A.size ∧
    ∀ k, (cells.zipIdx.foldl (fun cs (x : Value × Nat) => cs.setIfInBounds (off + x.2) x.1) A)[k]? = if off ≤ k ∧ k < off + cells.size then cells[k - off]? else A[k]? := by
  obtain ⟨_, h2, h3⟩ := put_seg cells.toList off 0 A
  have e : cells.zipIdx.foldl (fun cs (x : Value × Nat) => cs.setIfInBounds (off + x.2) x.1) A = (cells.toList.zipIdx 0).foldl (fun cs (x : Value × Nat) => cs.setIfInBounds (off + x.2) x.1) A := by
    rw [← Array.foldl_toList]
    simp
  rw [e]
  refine ⟨h2, fun k => ?_⟩
  rw [h3 k]
  simp only [Nat.add_zero, Array.length_toList, Array.getElem?_toList]
  by_cases h : off ≤ k ∧ k < off + cells.size
  · rw [if_pos h, if_pos (by omega)]
  · rw [if_neg h, if_neg (by omega)]

theorem fill_spec (place : Nat → Option (Nat × Nat)) (hdis : ∀ i j o s o' s', i ≠ j → place i = some (o, s) → place j = some (o', s') → o + s ≤ o' ∨ o' + s' ≤ o) :
    ∀ (parts : List (Nat × Value)) (A : Array Value), (parts.map (·.1)).Nodup → (∀ x ∈ parts, ∃ o, place x.1 = some (o, x.2.cells.size) ∧ o + x.2.cells.size ≤ A.size) →
    ∃ B, Instr.fill place A parts = some B ∧ B.size = A.size ∧ (∀ x ∈ parts, ∀ o s, place x.1 = some (o, s) → ∀ j, j < s → B[o + j]? = x.2.cells[j]?) ∧
      (∀ k, (∀ x ∈ parts, ∀ o s, place x.1 = some (o, s) → ¬ (o ≤ k ∧ k < o + s)) → B[k]? = A[k]?)
  | [], A, _, _ => ⟨A, rfl, rfl, (fun x hx => by cases hx), fun _ _ => rfl⟩
  | (i, v) :: rest, A, hnd, hfit => by
    obtain ⟨o, hp, hle⟩ := hfit (i, v) (List.mem_cons_self ..)
    simp only at hp hle
    obtain ⟨h1, h2⟩ := put_cells v.cells A o hle
    simp only [List.map_cons, List.nodup_cons] at hnd
    obtain ⟨B, hB, hsz, hin, hout⟩ := fill_spec place hdis rest _ hnd.2 (fun x hx => by
      obtain ⟨o', hp', hle'⟩ := hfit x (List.mem_cons_of_mem _ hx)
      exact ⟨o', hp', by rw [h1]; exact hle'⟩)
    refine ⟨B, ?_, by rw [hsz, h1], ?_, ?_⟩
    · simp only [Instr.fill, hp]
      rw [if_neg (by simp; omega)]
      exact hB
    · intro x hx o' s' hp' j hj
      rcases List.mem_cons.1 hx with rfl | hx
      · rw [hp] at hp'
        simp only [Option.some.injEq, Prod.mk.injEq] at hp'
        obtain ⟨rfl, rfl⟩ := hp'
        rw [hout (o + j) (fun y hy o2 s2 hp2 hc => by
          have hne : i ≠ y.1 := fun e => hnd.1 (by rw [e]; exact List.mem_map_of_mem hy)
          have := hdis i y.1 o _ o2 s2 hne hp hp2
          omega)]
        rw [h2, if_pos (by omega), Nat.add_sub_cancel_left]
      · exact hin x hx o' s' hp' j hj
    · intro k hk
      rw [hout k (fun y hy => hk y (List.mem_cons_of_mem _ hy)), h2]
      have := hk (i, v) (List.mem_cons_self ..) o _ hp
      rw [if_neg this]

/- Structs -/

/-- The numbers of the parts grow. -/
def growing : List (Nat × AV) → Nat → Bool
  | [], _ => true
  | (k, _) :: r, lo => Nat.ble lo k && growing r (k + 1)

def buildT (ps : List (Nat × AV)) : (b : Ty) → Nat → Option b.den
  | .pair a c, k => match (match find ps k with
      | some v => v.get [] a
      | none => some a.dflt) with
    | none => none
    | some x => match buildT ps c (k + 1) with
      | none => none
      | some y => some (x, y)
  | .unit, _ => some ()
  | t, k => match find ps k with
    | some v => v.get [] t
    | none => some t.dflt

def partsEv (gl : Nat → Option (Σ t : Ty, t.den)) (st : St) : List (Nat × Operand) → Option (List (Nat × AV))
  | [] => some []
  | (k, x) :: r => match ev gl st x with
    | none => none
    | some a => match partsEv gl st r with
      | none => none
      | some l => some ((k, a) :: l)

theorem ValRep.cells {O : Nat → Prop} {w : World} {t : Ty} {v : Value} {x : t.den} (h : ValRep O w t v x) (hv : t.isVal = true) : Rep O w t v.cells.toList x := by
  obtain ⟨cs, hr, rfl⟩ := h
  cases ha : t.isAgg with
  | true => simpa [Value.cells] using hr
  | false =>
    obtain ⟨u, rfl⟩ := hr.leaf (Ty.isVal_size hv ha)
    simp only [Bool.false_eq_true, if_false, List.headD_cons]
    have hlf : t.isLeaf = true := by unfold Ty.isVal at hv; rw [ha, Bool.or_false] at hv; exact hv
    have : u.cells.toList = [u] := by
      cases t <;> simp only [Ty.isLeaf, reduceCtorEq] at hlf <;> cases hr <;> rfl
    rw [this]
    exact hr

theorem buildT_sound {O : Nat → Prop} {w : World} {ty : Nat → Option Ty} {ps : List (Nat × AV)} {L Z : List Value} :
    ∀ {b : Ty} {fs : List Field} {off k : Nat} {x : b.den}, fieldsOk ty fs off b = true → buildT ps b k = some x →
      (∀ j f s, fs[j]? = some f → ty f.type = some s →
        (∀ v y, find ps (k + j) = some v → v.get [] s = some y → Rep O w s ((L.drop f.offset).take s.size) y) ∧
        (find ps (k + j) = none → (L.drop f.offset).take s.size = (Z.drop f.offset).take s.size)) →
      Rep O w b ((Z.drop off).take b.size) b.dflt → Rep O w b ((L.drop off).take b.size) x := by
  have eqOf : ∀ {o : Option Ty} {t : Ty}, (match o with | some u => Ty.eqb u t | none => false) = true → o = some t := by
    intro o t h
    cases o with
    | none => cases h
    | some u => rw [Ty.eqb_eq h]
  have one : ∀ {b : Ty} {fs : List Field} {off k : Nat} {x : b.den}, b.isPair = false → fieldsOk ty fs off b = true → (match find ps k with | some v => v.get [] b | none => some b.dflt) = some x → (b = .unit → False) →
      (∀ j f s, fs[j]? = some f → ty f.type = some s →
        (∀ v y, find ps (k + j) = some v → v.get [] s = some y → Rep O w s ((L.drop f.offset).take s.size) y) ∧
        (find ps (k + j) = none → (L.drop f.offset).take s.size = (Z.drop f.offset).take s.size)) →
      Rep O w b ((Z.drop off).take b.size) b.dflt → Rep O w b ((L.drop off).take b.size) x := by
    intro b fs off k x hb h hx hu H hz
    match fs, h with
    | [], h => cases b <;> simp [fieldsOk] at h; exact absurd rfl hu
    | [f], h =>
      simp only [fieldsOk, Bool.and_eq_true] at h
      have ho := Nat.eq_of_beq_eq_true h.1.2
      obtain ⟨h1, h2⟩ := H 0 f b rfl (eqOf h.2)
      rw [ho] at h1 h2
      cases hf : find ps k with
      | none =>
        rw [hf] at hx
        simp only [Option.some.injEq] at hx
        subst hx
        rw [h2 (by simpa using hf)]
        exact hz
      | some v => rw [hf] at hx; exact h1 v x (by simpa using hf) hx
    | f :: g :: fs, h => cases b <;> simp [fieldsOk] at h; simp [Ty.isPair] at hb
  intro b
  induction b with
  | pair a c _ ihc =>
    intro fs off k x h hx H hz
    match fs, h with
    | [], h => simp [fieldsOk] at h
    | [f], h => simp [fieldsOk, Ty.isVal, Ty.isLeaf, Ty.isAgg] at h
    | f :: g :: fs, h =>
      simp only [fieldsOk, Bool.and_eq_true] at h
      obtain ⟨⟨h1, h2⟩, h3⟩ := h
      have ho := Nat.eq_of_beq_eq_true h1
      simp only [buildT] at hx
      cases hp : (match find ps k with
          | some v => v.get [] a
          | none => some a.dflt) with
      | none => rw [hp] at hx; cases hx
      | some y =>
        rw [hp] at hx
        simp only at hx
        cases hq : buildT ps c (k + 1) with
        | none => rw [hq] at hx; cases hx
        | some z =>
          rw [hq] at hx
          simp only [Option.some.injEq] at hx
          subst hx
          have split : ∀ M : List Value, (M.drop off).take (Ty.pair a c).size = (M.drop off).take a.size ++ (M.drop (off + a.size)).take c.size := fun M => by
            show (M.drop off).take (a.size + c.size) = _
            rw [List.take_add, List.drop_drop]
          rw [split] at hz ⊢
          have hz' : Rep O w a ((Z.drop off).take a.size) a.dflt ∧ Rep O w c ((Z.drop (off + a.size)).take c.size) c.dflt := by
            have hlen := hz.length
            generalize hcs : (Z.drop off).take a.size ++ (Z.drop (off + a.size)).take c.size = cs at hz
            have hla : ((Z.drop off).take a.size).length ≤ a.size := List.length_take_le _ _
            have hlc : ((Z.drop (off + a.size)).take c.size).length ≤ c.size := List.length_take_le _ _
            rw [List.length_append] at hlen
            simp only [Ty.size] at hlen
            cases hz with
            | pair r1 r2 =>
              have l1 := r1.length
              obtain ⟨e1, e2⟩ := List.append_inj hcs (by omega)
              rw [e1, e2]
              exact ⟨r1, r2⟩
          refine .pair ?_ (ihc h3 hq (fun j f' s hj ht => ?_) hz'.2)
          · obtain ⟨q1, q2⟩ := H 0 f a rfl (eqOf h2)
            rw [ho] at q1 q2
            cases hf : find ps k with
            | none =>
              rw [hf] at hp
              simp only [Option.some.injEq] at hp
              subst hp
              rw [q2 (by simpa using hf)]
              exact hz'.1
            | some v => rw [hf] at hp; exact q1 v y (by simpa using hf) hp
          · have := H (j + 1) f' s (by simpa using hj) ht
            rwa [show k + (j + 1) = k + 1 + j by omega] at this
  | unit =>
    intro fs off k x _ _ _ _
    simp only [Ty.size, List.take_zero]
    exact .unit
  | _ => intro fs off k x h hx H hz; exact one rfl h hx (fun e => by cases e) H hz

theorem buildT_get {ty : Nat → Option Ty} {ps : List (Nat × AV)} : ∀ {b : Ty} {fs : List Field} {off k : Nat} {x : b.den}, fieldsOk ty fs off b = true → buildT ps b k = some x →
    ∀ (j : Nat) (f : Field) s v, fs[j]? = some f → ty f.type = some s → find ps (k + j) = some v → ∃ y, v.get [] s = some y := by
  have eqOf : ∀ {o : Option Ty} {t : Ty}, (match o with | some u => Ty.eqb u t | none => false) = true → o = some t := by
    intro o t h
    cases o with
    | none => cases h
    | some u => rw [Ty.eqb_eq h]
  have one : ∀ {b : Ty} {fs : List Field} {off k : Nat} {x : b.den}, b.isPair = false → fieldsOk ty fs off b = true → (match find ps k with | some v => v.get [] b | none => some b.dflt) = some x →
      ∀ j f s v, fs[j]? = some f → ty f.type = some s → find ps (k + j) = some v → ∃ y, v.get [] s = some y := by
    intro b fs off k x hb h hx j f s v hj ht hf
    match fs, h with
    | [], _ => simp at hj
    | [f'], h =>
      have hj0 : j = 0 := by
        cases j with
        | zero => rfl
        | succ j => simp at hj
      subst hj0
      simp only [List.getElem?_cons_zero, Option.some.injEq] at hj
      subst hj
      simp only [fieldsOk, Bool.and_eq_true] at h
      have := eqOf h.2
      rw [this] at ht
      cases ht
      rw [Nat.add_zero] at hf
      rw [hf] at hx
      exact ⟨x, hx⟩
    | f' :: g :: fs, h => cases b <;> simp [fieldsOk] at h; simp [Ty.isPair] at hb
  intro b
  induction b with
  | pair a c _ ihc =>
    intro fs off k x h hx j f s v hj ht hf
    match fs, h with
    | [], h => simp [fieldsOk] at h
    | [f'], h => simp [fieldsOk, Ty.isVal, Ty.isLeaf, Ty.isAgg] at h
    | f' :: g :: fs, h =>
      simp only [fieldsOk, Bool.and_eq_true] at h
      obtain ⟨⟨h1, h2⟩, h3⟩ := h
      simp only [buildT] at hx
      cases hp : (match find ps k with
          | some v => v.get [] a
          | none => some a.dflt) with
      | none => rw [hp] at hx; cases hx
      | some y =>
        rw [hp] at hx
        simp only at hx
        cases hq : buildT ps c (k + 1) with
        | none => rw [hq] at hx; cases hx
        | some z =>
          cases j with
          | zero =>
            simp only [List.getElem?_cons_zero, Option.some.injEq] at hj
            subst hj
            have := eqOf h2
            rw [this] at ht
            cases ht
            rw [Nat.add_zero] at hf
            rw [hf] at hp
            exact ⟨y, hp⟩
          | succ j => exact ihc h3 hq j f s v (by simpa using hj) ht (by rwa [show k + (j + 1) = k + 1 + j by omega] at hf)
  | unit =>
    intro fs off k x h _ j f s v hj ht hf
    match fs, h with
    | [], _ => simp at hj
    | [f'], h => simp [fieldsOk, Ty.isVal, Ty.isLeaf, Ty.isAgg] at h
    | f' :: g :: fs, h => simp [fieldsOk] at h
  | _ => intro fs off k x h hx; exact one rfl h hx

def buildAV (G : Pg) (t : TypeId) (ps : List (Nat × AV)) : Option (Comp AV) :=
  match G.ty t with
  | some T => cond (growing ps 0 && zeroIs G.P t T && ps.all fun x => (fieldSub T x.1).isSome) (match T with
    | .struct b => match buildT ps b 0 with
      | some x => some (just (.imm (.struct b) x))
      | none => none
    | .named r => match buildT ps (Ty.body r) 0 with
      | some x => some (just (.imm (.named r) (reroll r x)))
      | none => none
    | _ => none) none
  | none => none

theorem run_mapM_list {P : Program} {α β : Type} {g : α → Sem β} {w : World} {h : α → β} : ∀ {l : List α}, (∀ x ∈ l, (g x).run P w = .ok (h x) w) → (l.mapM g).run P w = .ok (l.map h) w
  | [], _ => rfl
  | x :: l, H => by
    have ih := run_mapM_list (l := l) fun y hy => H y (List.mem_cons_of_mem _ hy)
    simp only [List.mapM_cons, Sem.run_bind, H x (List.mem_cons_self ..), ih, Result.andThen, Sem.run_pure, List.map_cons]
theorem run_mapM_array {P : Program} {α β : Type} {g : α → Sem β} {w : World} {h : α → β} {l : Array α} (H : ∀ x ∈ l, (g x).run P w = .ok (h x) w) : (l.mapM g).run P w = .ok (l.map h) w := by
  rw [Array.mapM_eq_mapM_toList]
  have := run_mapM_list (P := P) (w := w) (g := g) (h := h) (l := l.toList) fun x hx => H x (by simpa using hx)
  simp only [Sem.run_map, this, Result.andThen]
  congr 1
  apply Array.ext'
  simp

theorem fieldsOk_all {ty : Nat → Option Ty} : ∀ {b : Ty} {fs : List Field} {off : Nat}, fieldsOk ty fs off b = true → ∀ (j : Nat) (f : Field), fs[j]? = some f → ∃ s, ty f.type = some s ∧ off ≤ f.offset ∧ f.offset + s.size ≤ off + b.size ∧
    ∀ (j' : Nat) (f' : Field), fs[j']? = some f' → j < j' → f.offset + s.size ≤ f'.offset := by
  have eqOf : ∀ {o : Option Ty} {t : Ty}, (match o with | some u => Ty.eqb u t | none => false) = true → o = some t := by
    intro o t h
    cases o with
    | none => cases h
    | some u => rw [Ty.eqb_eq h]
  have one : ∀ {b : Ty} {fs : List Field} {off : Nat}, b.isPair = false → fieldsOk ty fs off b = true → ∀ (j : Nat) (f : Field), fs[j]? = some f → ∃ s, ty f.type = some s ∧ off ≤ f.offset ∧ f.offset + s.size ≤ off + b.size ∧
      ∀ (j' : Nat) (f' : Field), fs[j']? = some f' → j < j' → f.offset + s.size ≤ f'.offset := by
    intro b fs off hb h j f hj
    match fs, h with
    | [], _ => simp at hj
    | [g], h =>
      have hj0 : j = 0 := by
        cases j with
        | zero => rfl
        | succ j => simp at hj
      subst hj0
      simp only [List.getElem?_cons_zero, Option.some.injEq] at hj
      subst hj
      simp only [fieldsOk, Bool.and_eq_true] at h
      have ho := Nat.eq_of_beq_eq_true h.1.2
      exact ⟨b, eqOf h.2, by omega, by omega, fun j' f' h1 h2 => by
        cases j' with
        | zero => omega
        | succ j' => simp at h1⟩
    | f' :: g :: fs, h => cases b <;> simp [fieldsOk] at h; simp [Ty.isPair] at hb
  intro b
  induction b with
  | pair a c _ ihc =>
    intro fs off h j f hj
    match fs, h with
    | [], h => simp [fieldsOk] at h
    | [f'], h => simp [fieldsOk, Ty.isVal, Ty.isLeaf, Ty.isAgg] at h
    | f' :: g :: fs, h =>
      simp only [fieldsOk, Bool.and_eq_true] at h
      obtain ⟨⟨h1, h2⟩, h3⟩ := h
      have ho := Nat.eq_of_beq_eq_true h1
      simp only [Ty.size]
      cases j with
      | zero =>
        simp only [List.getElem?_cons_zero, Option.some.injEq] at hj
        subst hj
        refine ⟨a, eqOf h2, by omega, by omega, fun j' f2 hj' hlt => ?_⟩
        cases j' with
        | zero => omega
        | succ j' =>
          obtain ⟨s2, _, e2, _⟩ := ihc h3 j' f2 (by simpa using hj')
          omega
      | succ j =>
        obtain ⟨s, e1, e2, e3, e4⟩ := ihc h3 j f (by simpa using hj)
        refine ⟨s, e1, by omega, by omega, fun j' f2 hj' hlt => ?_⟩
        cases j' with
        | zero => omega
        | succ j' => exact e4 j' f2 (by simpa using hj') (by omega)
  | _ => intro fs off h; exact one rfl h

theorem growing_nodup : ∀ {l : List (Nat × AV)} {lo : Nat}, growing l lo = true → (l.map (·.1)).Nodup ∧ ∀ x ∈ l, lo ≤ x.1
  | [], _, _ => ⟨List.nodup_nil, fun x hx => by cases hx⟩
  | (k, a) :: r, lo, h => by
    simp only [growing, Bool.and_eq_true] at h
    obtain ⟨h1, h2⟩ := h
    have h1 := Nat.le_of_ble_eq_true h1
    obtain ⟨e1, e2⟩ := growing_nodup h2
    refine ⟨?_, fun x hx => ?_⟩
    · simp only [List.map_cons, List.nodup_cons]
      refine ⟨fun hm => ?_, e1⟩
      obtain ⟨y, hy, he⟩ := List.mem_map.1 hm
      have := e2 y hy
      omega
    · rcases List.mem_cons.1 hx with rfl | hx
      · exact h1
      · have := e2 x hx; omega

theorem find_of_mem {α : Type} : ∀ {l : List (Nat × α)} {x : Nat × α}, (l.map (·.1)).Nodup → x ∈ l → find l x.1 = some x.2
  | (k, a) :: r, x, hn, hx => by
    simp only [List.map_cons, List.nodup_cons] at hn
    rw [find_cons]
    rcases List.mem_cons.1 hx with rfl | hx
    · simp
    · rw [if_neg (fun e => hn.1 (by rw [e]; exact List.mem_map_of_mem hx))]
      exact find_of_mem hn.2 hx
theorem mem_of_find {α : Type} : ∀ {l : List (Nat × α)} {k : Nat} {a : α}, find l k = some a → (k, a) ∈ l
  | (j, b) :: r, k, a, h => by
    rw [find_cons] at h
    by_cases e : j = k
    · rw [if_pos e] at h; cases h; subst e; exact List.mem_cons_self ..
    · rw [if_neg e] at h; exact List.mem_cons_of_mem _ (mem_of_find h)

/-- The parts of a literal, with the values that the operands have. -/
theorem partsEv_sound {fr : Frm} {m : Nat → Option Nat × Nat} {st : St} {a : Act} {w : World} (h : Fits fr m st a w) : ∀ {l : List (Nat × Operand)} {ps : List (Nat × AV)}, partsEv fr.gl st l = some ps →
    ps.map (·.1) = l.map (·.1) ∧ ∀ k v, find ps k = some v → ∃ x, (k, x) ∈ l ∧ AVR (cx fr m st w) v [a.eval x]
  | [], ps, he => by simp only [partsEv, Option.some.injEq] at he; subst he; exact ⟨rfl, fun k v hf => by simp [find] at hf⟩
  | (k, x) :: r, ps, he => by
    simp only [partsEv] at he
    cases h1 : ev fr.gl st x with
    | none => rw [h1] at he; cases he
    | some y =>
      rw [h1] at he
      cases h2 : partsEv fr.gl st r with
      | none => rw [h2] at he; cases he
      | some l =>
        rw [h2] at he
        simp only [Option.some.injEq] at he
        subst he
        obtain ⟨e1, e2⟩ := partsEv_sound h h2
        refine ⟨by simp [e1], fun j v hf => ?_⟩
        rw [find_cons] at hf
        by_cases e : k = j
        · rw [if_pos e] at hf; cases hf; subst e; exact ⟨x, List.mem_cons_self .., ev_sound h h1⟩
        · rw [if_neg e] at hf
          obtain ⟨z, hz, hv⟩ := e2 j v hf
          exact ⟨z, List.mem_cons_of_mem _ hz, hv⟩

theorem seg_ext {L : List Value} {off n : Nat} {r : List Value} (hr : r.length = n) (h : ∀ j, j < n → L[off + j]? = r[j]?) : (L.drop off).take n = r := by
  apply List.ext_getElem?
  intro j
  by_cases hj : j < n
  · rw [List.getElem?_take_of_lt hj, List.getElem?_drop, h j hj]
  · rw [List.getElem?_eq_none (by rw [List.length_take]; omega), List.getElem?_eq_none (by omega)]

theorem buildAV_sound (G : Pg) {fr : Frm} {m : Nat → Option Nat × Nat} {st : St} {a : Act} {w : World} (hF : Fits fr m st a w) {t : TypeId} {parts : Array (Nat × Operand)} {ps : List (Nat × AV)} {cp : Comp AV}
    (hp : partsEv fr.gl st parts.toList = some ps) (h : buildAV G t ps = some cp) {u : cp.X} :
    ∃ v, (Instr.build t (parts.map fun x => (x.1, a.eval x.2))).run G.P w = .ok v w ∧ AVR (cx fr m st w) (cp.out u) [v] := by
  unfold buildAV at h
  cases hT : G.ty t with
  | none => rw [hT] at h; cases h
  | some T =>
  rw [hT] at h
  simp only at h
  cases hc : (growing ps 0 && zeroIs G.P t T && ps.all fun x => (fieldSub T x.1).isSome) with
  | false => rw [hc] at h; cases h
  | true =>
  rw [hc] at h
  simp only [cond_true] at h
  rw [Bool.and_eq_true, Bool.and_eq_true] at hc
  obtain ⟨⟨hgrow, hzero⟩, hall⟩ := hc
  obtain ⟨hnd, _⟩ := growing_nodup hgrow
  obtain ⟨hkeys, hfind⟩ := partsEv_sound hF hp
  -- the parts' values
  have hpart : ∀ x ∈ parts.toList, ∃ v, find ps x.1 = some v ∧ AVR (cx fr m st w) v [a.eval x.2] := by
    intro x hx
    have hm : x.1 ∈ ps.map (·.1) := by rw [hkeys]; exact List.mem_map_of_mem hx
    obtain ⟨y, hy, he⟩ := List.mem_map.1 hm
    have hfy := find_of_mem hnd hy
    rw [he] at hfy
    obtain ⟨x', hx', hv⟩ := hfind _ _ hfy
    have hnd' : (parts.toList.map (·.1)).Nodup := by rw [← hkeys]; exact hnd
    have e1 := find_of_mem hnd' hx
    have e2 := find_of_mem hnd' hx'
    simp only at e2
    rw [e1] at e2
    cases e2
    exact ⟨_, hfy, hv⟩
  have core : ∀ (b : Ty) (x : b.den), T.fields = some b → buildT ps b 0 = some x → ∃ B : Array Value, (Instr.build t (parts.map fun x => (x.1, a.eval x.2))).run G.P w = .ok (.agg B) w ∧ Rep (cx fr m st w).O w b B.toList x := by
    intro b x hb hx
    obtain ⟨fs, hund, hok⟩ := G.und_fields hT hb
    obtain ⟨z, hz, hzr⟩ := zeroIs_sound hzero (cx fr m st w).O w
    have hzb : Rep (cx fr m st w).O w b z.cells.toList b.dflt := by
      cases T <;> simp only [Ty.fields, Option.some.injEq, reduceCtorEq] at hb
      · subst hb; cases hzr with | struct r => exact r
      · subst hb
        rename_i r
        cases hzr with
        | named hr => cases r <;> exact hr
    have hzlen : z.cells.size = b.size := by have := hzb.length; simpa using this
    have hfa := fieldsOk_all hok
    let hp' : Field → Nat × Nat := fun f => (f.offset, ((G.ty f.type).map Ty.size).getD 0)
    have hmap : (fs.mapM fun f => do pure (f.offset, ← sizeOf f.type) : Sem (Array (Nat × Nat))).run G.P w = .ok (fs.map hp') w := by
      refine run_mapM_array fun f hf => ?_
      obtain ⟨j, hj, he⟩ := Array.mem_iff_getElem.1 hf
      obtain ⟨s, hs, _⟩ := hfa j f (by simp [hj, he])
      simp [hp', hs, G.run_sizeOf hs]
    have hplace : ∀ (i o s : Nat), (fs.map hp')[i]? = some (o, s) → ∃ (f : Field) (S : Ty), fs.toList[i]? = some f ∧ G.ty f.type = some S ∧ f.offset = o ∧ S.size = s := by
      intro i o s hi
      rw [Array.getElem?_map] at hi
      cases hfi : fs[i]? with
      | none => rw [hfi] at hi; cases hi
      | some f =>
        rw [hfi] at hi
        obtain ⟨S, hS, _⟩ := hfa i f (by simpa using hfi)
        simp only [Option.map_some, Option.some.injEq, hp', hS, Option.getD_some, Prod.mk.injEq] at hi
        exact ⟨f, S, by simpa using hfi, hS, hi.1, hi.2⟩
    have hdis : ∀ (i j o s o' s' : Nat), i ≠ j → (fs.map hp')[i]? = some (o, s) → (fs.map hp')[j]? = some (o', s') → o + s ≤ o' ∨ o' + s' ≤ o := by
      intro i j o s o' s' hne hi hj
      obtain ⟨f, S, f1, f2, rfl, rfl⟩ := hplace i o s hi
      obtain ⟨g, S', g1, g2, rfl, rfl⟩ := hplace j o' s' hj
      obtain ⟨S1, q1, _, _, q4⟩ := hfa i f f1
      obtain ⟨S2, p1, _, _, p4⟩ := hfa j g g1
      rw [f2] at q1; cases q1
      rw [g2] at p1; cases p1
      rcases Nat.lt_or_gt_of_ne hne with hlt | hlt
      · exact .inl (q4 j g g1 hlt)
      · exact .inr (p4 i f f1 hlt)
    have hvals : ∀ x ∈ parts.toList, ∃ (f : Field) (S : Ty) (v : AV) (y : S.den), fs.toList[x.1]? = some f ∧ G.ty f.type = some S ∧ find ps x.1 = some v ∧ v.get [] S = some y ∧ Rep (cx fr m st w).O w S (a.eval x.2).cells.toList y ∧ f.offset + S.size ≤ b.size := by
      intro p hp0
      obtain ⟨v, hv, hav⟩ := hpart p hp0
      have hsub : (fieldSub T p.1).isSome = true := by
        have := List.all_eq_true.1 hall (p.1, v) (mem_of_find hv)
        exact this
      obtain ⟨q, hq⟩ := Option.isSome_iff_exists.1 hsub
      obtain ⟨fs', f, e1, e2, e3, e4⟩ := G.fieldAt hT (d := q.1) (s := q.2) hq
      rw [hund] at e1
      cases e1
      have hj : fs.toList[p.1]? = some f := by simpa using e2
      obtain ⟨y, hy⟩ := buildT_get hok hx p.1 f q.2 v hj e4 (by rw [Nat.zero_add]; exact hv)
      obtain ⟨S, hS, _, hfit, _⟩ := hfa p.1 f hj
      rw [e4] at hS; cases hS
      exact ⟨f, q.2, v, y, hj, e4, hv, hy, (AV.get_sound (Lends.none _) hy hav).cells (G.isVal e4), by omega⟩
    obtain ⟨B, hB, hBs, hin, hout⟩ := fill_spec (fun i => (fs.map hp')[i]?) hdis (parts.map fun x => (x.1, a.eval x.2)).toList z.cells
      (by
        have : (parts.map fun x => (x.1, a.eval x.2)).toList.map (·.1) = ps.map (·.1) := by rw [hkeys]; simp
        rw [this]; exact hnd)
      (by
        intro y hy
        simp only [Array.toList_map, List.mem_map] at hy
        obtain ⟨p, hp0, rfl⟩ := hy
        obtain ⟨f, S, v, y, h1, h2, h3, h4, h5, h6⟩ := hvals p hp0
        refine ⟨f.offset, ?_, ?_⟩
        · have hl := h5.length
          have : fs[p.1]? = some f := by simpa using h1
          simp only [Array.getElem?_map, this, Option.map_some, hp', h2, Option.getD_some]
          simp only [Array.length_toList] at hl
          rw [hl]
        · have hl := h5.length
          simp only [Array.length_toList] at hl
          simp only
          omega)
    have hlenB : B.toList.length = b.size := by simp [hBs, hzlen]
    refine ⟨B, ?_, ?_⟩
    · simp only [Instr.build, Sem.run_bind, hz, Result.andThen, run_underlying hund, hmap, hB, Sem.run_pure]
    · have := buildT_sound (O := (cx fr m st w).O) (w := w) (ps := ps) (L := B.toList) (Z := z.cells.toList) hok hx (fun j f s hj ht => by
        rw [Nat.zero_add]
        have hpl : (fs.map hp')[j]? = some (f.offset, s.size) := by
          have : fs[j]? = some f := by simpa using hj
          simp only [Array.getElem?_map, this, Option.map_some, hp', ht, Option.getD_some]
        obtain ⟨S, hS, _, hfit, _⟩ := hfa j f hj
        rw [ht] at hS; cases hS
        refine ⟨fun v y hv hy => ?_, fun hn => ?_⟩
        · obtain ⟨x', hx', hav⟩ := hfind _ _ hv
          have hr := (AV.get_sound (Lends.none _) hy hav).cells (G.isVal ht)
          have hl := hr.length
          rw [seg_ext (r := (a.eval x').cells.toList) hl fun i hi => ?_]
          · exact hr
          · have := hin (j, a.eval x') (by simp only [Array.toList_map, List.mem_map]; exact ⟨(j, x'), hx', rfl⟩) _ _ hpl i hi
            simpa using this
        · refine seg_ext (by rw [List.length_take, List.length_drop]; simp only [Array.length_toList]; omega) fun i hi => ?_
          rw [List.getElem?_take_of_lt hi, List.getElem?_drop]
          have := hout (f.offset + i) (fun y hy o s' hp2 hc => by
            simp only [Array.toList_map, List.mem_map] at hy
            obtain ⟨p, hp0, rfl⟩ := hy
            obtain ⟨v, hv, _⟩ := hpart p hp0
            have hne : j ≠ p.1 := fun e => by rw [e] at hn; rw [hn] at hv; cases hv
            have := hdis j p.1 _ _ o s' hne hpl hp2
            omega)
          simpa using this) (by rw [List.drop_zero, List.take_of_length_le (by rw [hzb.length]; exact Nat.le_refl _)]; exact hzb)
      rwa [List.drop_zero, List.take_of_length_le (by omega)] at this
  cases T <;> try (cases h; done)
  case struct b =>
    simp only at h
    cases hx : buildT ps b 0 with
    | none => rw [hx] at h; cases h
    | some x =>
      rw [hx] at h
      simp only [Option.some.injEq] at h
      subst h
      obtain ⟨B, hB, hr⟩ := core b x rfl hx
      exact ⟨_, hB, B.toList, .struct hr, by simp [Ty.isAgg]⟩
  case named r =>
    simp only at h
    cases hx : buildT ps (Ty.body r) 0 with
    | none => rw [hx] at h; cases h
    | some x =>
      rw [hx] at h
      simp only [Option.some.injEq] at h
      subst h
      obtain ⟨B, hB, hr⟩ := core (Ty.body r) x rfl hx
      exact ⟨_, hB, B.toList, .named (by rw [unroll_reroll]; exact hr), by simp [Ty.isAgg]⟩

end Go.Proofs.YtlkggeaibgaohaaGreatDoor.Sim
