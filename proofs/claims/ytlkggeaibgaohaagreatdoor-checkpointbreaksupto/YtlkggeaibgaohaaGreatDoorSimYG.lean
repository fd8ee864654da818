/- Regions whose order is drawn: the whole of one. -/
import Derived.Test.YtlkggeaibgaohaaGreatDoorSimYF
namespace Go.Proofs.YtlkggeaibgaohaaGreatDoor.Sim
open Go Go.RowKit

theorem HeapOk.ofEq {fr : Frm} {m : Nat → Option Nat × Nat} {st st' : St} {w : World} (h : HeapOk fr m st w) (e1 : st'.heap = st.heap) (e2 : st'.nx = st.nx) : HeapOk fr m st' w := h.of e1 e2
/-- The same temporaries and objects, in other lists. -/
theorem Fits.ofFind {fr : Frm} {m : Nat → Option Nat × Nat} {st st' : St} {a : Act} {w : World} (h : Fits fr m st a w) (h1 : ∀ t, find st'.loc t = find st.loc t) (h2 : st'.env = st.env) (h3 : st'.heap = st.heap) (h4 : st'.nx = st.nx) :
    Fits fr m st' a w where
  size := h.size
  defers := h.defers
  env := fun t ev hl => by
    have e : cx fr m st' w = cx fr m st w := by unfold cx; rw [h3, h4]
    rw [e]
    exact h.env t ev (by rw [← look_congr (h1 t) h2]; exact hl)
  hang := fun t u want x hf => by
    rw [h1] at hf ⊢
    exact h.hang t u want x hf
  heap := h.heap.ofEq h3 h4

theorem Fits.hangs {fr : Frm} {m : Nat → Option Nat × Nat} {st : St} {a : Act} {w : World} (h : Fits fr m st a w) : Hangs st := fun t u w x hf => h.hang t u w x hf

section
variable {E : Env} {ops : Array Oper} {T : List (Nat × List Nat)} {A : List Nat} {st0 : St} {c : Nat → St} {fr : Frm}

theorem mem_ready_L {listed : Array Bool} (hs : listed.size = ops.size) {i : Nat} : i ∈ Region.ready .any ops listed ↔ ¬ L listed i ∧ ∃ o, ops[i]? = some o ∧ Before ops listed i := by
  rw [mem_ready]
  constructor
  · rintro ⟨h0, o, ho, h⟩
    have hi : i < listed.size := by rw [hs]; exact ops_lt ho
    refine ⟨fun hl => ?_, o, ho, fun o' ho' e he hb => ?_⟩
    · unfold L at hl
      rw [Array.getD_eq_getD_getElem?, Array.getElem?_eq_getElem hi] at h0 hl
      simp only [Option.getD_some] at h0 hl
      rw [h0] at hl; cases hl
    · rw [ho] at ho'
      cases ho'
      exact h e he (by rw [bindsA_eq]; exact hb)
  · rintro ⟨h0, o, ho, h⟩
    have hi : i < listed.size := by rw [hs]; exact ops_lt ho
    refine ⟨?_, o, ho, fun e he hb => h o ho e he (by rw [← bindsA_eq]; exact hb)⟩
    unfold L at h0
    rw [Array.getD_eq_getD_getElem?, Array.getElem?_eq_getElem hi] at h0 ⊢
    simpa using h0

theorem all_listed (C : Can E fr.nt ops T A st0 c) {listed : Array Bool} (hs : listed.size = ops.size) (hr : Region.ready .any ops listed = []) : ∀ i, i < ops.size → L listed i := by
  intro i
  induction i using Nat.strongRecOn with
  | ind i ih =>
    intro hi
    obtain ⟨o, ho⟩ := ops_some (ops := ops) hi
    by_cases hl : L listed i
    · exact hl
    · exfalso
      have : i ∈ Region.ready .any ops listed := (mem_ready_L hs).2 ⟨hl, o, ho, fun o' ho' e he hb => by
        have hlt := C.edge ho' he hb
        exact ih e.on hlt (by omega)⟩
      rw [hr] at this
      cases this

theorem inv_end (C : Can E fr.nt ops T A st0 c) {listed : Array Bool} {S : St} (I : Inv ops T c listed S) (hall : ∀ i, i < ops.size → L listed i) {m : Nat → Option Nat × Nat} {a : Act} {w : World} (hF : Fits fr m S a w) :
    Fits fr m (c ops.size) a w := by
  obtain ⟨p, hp, hpe, hph, hpn⟩ := I.heap
  obtain ⟨q1, q2⟩ := C.heapSame (i := p) (ops.size - p) (by omega) fun e h1 h2 => by
    cases hf : find T e with
    | none => rfl
    | some tl =>
      have := (hpe e tl hf).1 (hall e (by omega))
      omega
  rw [show p + (ops.size - p) = ops.size by omega] at q1 q2
  refine hF.ofFind (fun t => ?_) ?_ (q1.trans hph.symm) (q2.trans hpn.symm)
  · cases h1 : find (c ops.size).loc t with
    | some x =>
      obtain ⟨j, hj, hd⟩ := (C.locOf ops.size (Nat.le_refl _)).1 (by rw [h1]; rfl)
      obtain ⟨y, hy⟩ := Option.isSome_iff_exists.1 ((I.locOf t).2 ⟨j, hall j hj, hd⟩)
      have := I.loc t y hy
      rw [h1] at this
      rw [hy, this]
    | none =>
      cases h2 : find S.loc t with
      | none => rfl
      | some y => have := I.loc t y h2; rw [h1] at this; cases this
  · rw [I.env, C.env _ (Nat.le_refl _), C.h0]

theorem draw_any (hE : E.Ok) (hgl : fr.gl = E.G.gl) (C : Can E fr.nt ops T A st0 c) {Q : Exit → Act → World → Prop} (hK : ∀ m a w, Fits fr m (c ops.size) a w → Q .normal a w) :
    ∀ (fuel : Nat) {listed : Array Bool} {S : St} {m : Nat → Option Nat × Nat} {a : Act} {w : World} {un : List Nat}, Inv ops T c listed S → Fits fr m S a w → (∀ j, j < ops.size → ¬ L listed j → j ∈ un) → un.length ≤ fuel →
      wpAny E.G.P .any ops Q fuel listed a w := by
  intro fuel
  induction fuel with
  | zero =>
    intro listed S m a w un I hF hun hlen
    have hnil : un = [] := List.eq_nil_of_length_eq_zero (by omega)
    have hall : ∀ i, i < ops.size → L listed i := fun i hi => by
      by_cases h : L listed i
      · exact h
      · have := hun i hi h; rw [hnil] at this; cases this
    refine ⟨?_, hK m a w (inv_end C I hall hF)⟩
    cases hr : Region.ready .any ops listed with
    | nil => rfl
    | cons i r =>
      exfalso
      have : i ∈ Region.ready .any ops listed := by rw [hr]; exact List.mem_cons_self ..
      obtain ⟨h1, o, ho, _⟩ := (mem_ready_L I.size).1 this
      exact h1 (hall i (ops_lt ho))
  | succ fuel ih =>
    intro listed S m a w un I hF hun hlen
    refine ⟨fun hr => hK m a w (inv_end C I (all_listed C I.size hr) hF), fun i hi => ?_⟩
    obtain ⟨h1, o, ho, hb⟩ := (mem_ready_L I.size).1 hi
    obtain ⟨S', ⟨K, hK1, hK2⟩, I'⟩ := inv_step C I hF.hangs ho h1 hb
    unfold wpOp
    rw [ho]
    refine stepOp_sound hE hgl hF hK2 (Q := Q) fun m' st' a' w' hF' _ hk => ?_
    have := hK1 st' hk
    subst this
    refine ih (un := un.erase i) I' hF' (fun j hj hjl => ?_) ?_
    · have hsz : i < listed.size := by rw [I.size]; exact ops_lt ho
      have hne : j ≠ i := fun e => hjl ((getD_L hsz).2 (.inl e))
      have hnl : ¬ L listed j := fun h => hjl ((getD_L hsz).2 (.inr h))
      exact (List.mem_erase_of_ne hne).2 (hun j hj hnl)
    · have : i ∈ un := hun i (ops_lt ho) h1
      rw [List.length_erase_of_mem this]
      omega

end

/-- What no operation of the list writes is known as it was. -/
theorem Can.ext {E : Env} {nt : Nat} {ops : Array Oper} {T : List (Nat × List Nat)} {A : List Nat} {st0 : St} {c : Nat → St} (C : Can E nt ops T A st0 c) : Ext (dsts ops.toList) st0 (c ops.size) := by
  have hmem : ∀ {l : List Oper} {t : Nat} {o : Oper}, o ∈ l → o.dst = some t → dsts l t := by
    intro l
    induction l with
    | nil => intro t o h; cases h
    | cons x l ih =>
      intro t o h hd
      rcases List.mem_cons.1 h with rfl | h
      · exact .inl hd
      · exact .inr (ih h hd)
  intro t x hn _ hl
  rw [← hl]
  refine look_congr ?_ (C.env _ (Nat.le_refl _))
  rw [C.l0]
  cases h1 : find (c ops.size).loc t with
  | none => rfl
  | some y =>
    exfalso
    obtain ⟨j, hj, hd⟩ := (C.locOf ops.size (Nat.le_refl _)).1 (by rw [h1]; rfl)
    obtain ⟨o, ho⟩ := ops_some (ops := ops) hj
    exact hn (hmem (by simpa using Array.mem_of_getElem? ho) ((dstOf_some ho).1 hd))

theorem drawK_sound {E : Env} (hE : E.Ok) {fr : Frm} (hgl : fr.gl = E.G.gl) {ops : Array Oper} {R : Type} {r : R} {Q : Exit → Act → World → Prop} {m : Nat → Option Nat × Nat} {st : St} {a : Act} {w : World} {K : St → Option R}
    (hF : Fits fr m st a w) (hl : st.loc = []) (h : drawK E fr.nt false ops st K = some r) (hK : ∀ m' st' a' w', Fits fr m' st' a' w' → Ext (dsts ops.toList) st st' → K st' = some r → Q .normal a' w') :
    wpAny E.G.P .any ops Q ops.size (Array.replicate ops.size false) a w := by
  unfold drawK at h
  cases hT : tchL E fr.nt ops ops.toList 0 st with
  | none => rw [hT] at h; cases h
  | some T =>
    rw [hT] at h
    simp only at h
    obtain ⟨hok, h⟩ := cond_some h
    obtain ⟨c, c1, c2, c3⟩ := opsD_inv h
    simp only [Nat.zero_add, Array.length_toList] at c2 c3
    have C : Can E fr.nt ops T (ancs ops.toList []) st c := ⟨c1, hl, fun i o ho => c2 i o (by simpa using ho), hok⟩
    have hnone : ∀ j, ¬ L (Array.replicate ops.size false) j := fun j => by
      unfold L
      simp only [Array.getD_eq_getD_getElem?, Array.getElem?_replicate]
      split <;> simp
    refine draw_any hE hgl C (fun m' a' w' hF' => hK m' _ a' w' hF' C.ext c3) ops.size (S := st) (un := List.range ops.size) ⟨by simp, by rw [c1], fun i hi => absurd hi (hnone i), fun t x hx => ?_, fun t => ?_, 0, Nat.zero_le _, fun e tl _ => ?_, by rw [c1], by rw [c1]⟩
      hF (fun j hj _ => List.mem_range.2 hj) (by simp)
    · rw [hl] at hx; simp [find] at hx
    · rw [hl]
      simp only [find, Option.isSome_none, Bool.false_eq_true, false_iff]
      rintro ⟨j, hj, _⟩
      exact hnone j hj
    · exact ⟨fun h => absurd h (hnone e), fun h => absurd h (Nat.not_lt_zero _)⟩

end Go.Proofs.YtlkggeaibgaohaaGreatDoor.Sim
