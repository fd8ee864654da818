/- The interpreter of code, and that it is right. -/
import Derived.Test.YtlkggeaibgaohaaGreatDoorSimZA
import Derived.Test.YtlkggeaibgaohaaGreatDoorSimYG
namespace Go.Proofs.YtlkggeaibgaohaaGreatDoor.Sim
open Go Go.RowKit

def loopN {X R : Type} : Nat → (X → Option (X ⊕ R)) → X → Option R
  | 0, _, _ => none
  | n + 1, f, x => match f x with
    | none => none
    | some (.inl y) => loopN n f y
    | some (.inr r) => some r
open Classical in
/-- The loop of f from x on, if it ends. -/
noncomputable def loopW {X R : Type} (f : X → Option (X ⊕ R)) (x : X) : Option R :=
  if h : ∃ n r, loopN n f x = some r then some (Classical.choose (Classical.choose_spec h)) else none
theorem loopW_some {X R : Type} {f : X → Option (X ⊕ R)} {x : X} {r : R} (h : loopW f x = some r) : ∃ n, loopN n f x = some r := by
  unfold loopW at h
  split at h
  · rename_i hh
    simp only [Option.some.injEq] at h
    subst h
    exact ⟨_, Classical.choose_spec (Classical.choose_spec hh)⟩
  · cases h
theorem loopN_det {X R : Type} {f : X → Option (X ⊕ R)} : ∀ {n k : Nat} {x : X} {r s : R}, loopN n f x = some r → loopN k f x = some s → r = s
  | 0, _, _, _, _, h, _ => by cases h
  | n + 1, 0, _, _, _, _, h => by cases h
  | n + 1, k + 1, x, r, s, h, h' => by
    simp only [loopN] at h h'
    cases hf : f x with
    | none => rw [hf] at h; cases h
    | some q =>
      rw [hf] at h h'
      cases q with
      | inl y => exact loopN_det h h'
      | inr z => cases h; cases h'; rfl
theorem loopW_of {X R : Type} {f : X → Option (X ⊕ R)} {x : X} {n : Nat} {r : R} (h : loopN n f x = some r) : loopW f x = some r := by
  unfold loopW
  have hh : ∃ n r, loopN n f x = some r := ⟨n, r, h⟩
  rw [dif_pos hh]
  exact congrArg some (loopN_det (Classical.choose_spec (Classical.choose_spec hh)) h)

attribute [irreducible] loopW

def joinR {X R : Type} (o : Option (X ⊕ R)) (k : X → Option R) : Option R :=
  match o with
  | none => none
  | some (.inl x) => k x
  | some (.inr r) => some r

/-- At a head: the data of the state; elsewhere: what follows. -/
def backK {R : Type} (base : Nat) (L : Head) (K : Ex → St → Option R) : Ex → St → Option (L.shp.X ⊕ R)
  | .normal, s => match L.take base s with
    | some (ob, x) => cond ob (some (.inl x)) none
    | none => none
  | .exit id, s => Option.map Sum.inr (K (.exit id) s)
  | .ret, s => Option.map Sum.inr (K .ret s)
def outK {R : Type} (K : Ex → St → Option R) : Ex → St → Option R
  | .normal, _ => none
  | e, s => K e s
def fallK : Ex → St → Option St
  | .normal, s => some s
  | _, _ => none
def withTake {X R : Type} (o : Option (Bool × X)) (k : Bool → X → Option R) : Option R :=
  match o with
  | none => none
  | some (b, x) => k b x

theorem backK_normal {R : Type} {base : Nat} {L : Head} {K : Ex → St → Option R} {s : St} {q : L.shp.X ⊕ R} (h : backK base L K .normal s = some q) : ∃ x, L.take base s = some (true, x) ∧ q = .inl x := by
  simp only [backK] at h
  cases ht : L.take base s with
  | none => rw [ht] at h; cases h
  | some p =>
    obtain ⟨ob, x⟩ := p
    rw [ht] at h
    cases ob with
    | false => cases h
    | true => simp only [cond_true, Option.some.injEq] at h; exact ⟨x, rfl, h.symm⟩
theorem backK_other {R : Type} {base : Nat} {L : Head} {K : Ex → St → Option R} {e : Ex} {s : St} {q : L.shp.X ⊕ R} (he : e ≠ .normal) (h : backK base L K e s = some q) : ∃ r, K e s = some r ∧ q = .inr r := by
  cases e with
  | normal => exact absurd rfl he
  | exit id =>
    simp only [backK] at h
    cases hk : K (.exit id) s with
    | none => rw [hk] at h; cases h
    | some r => rw [hk] at h; exact ⟨r, rfl, (Option.some.inj h).symm⟩
  | ret =>
    simp only [backK] at h
    cases hk : K .ret s with
    | none => rw [hk] at h; cases h
    | some r => rw [hk] at h; exact ⟨r, rfl, (Option.some.inj h).symm⟩

def isDup (H : Hnt) : Operand → Bool
  | .tmp t => H.dup t
  | _ => false

/-- A loop, round by round from a head on. -/
noncomputable def loopI (H : Hnt) (base : Nat) (c : Code) (b : Nat) (pb : Bool) (R : Type) (f : Bool → (R : Type) → St → (Ex → St → Option R) → Option R) (st : St) (K : Ex → St → Option R) : Option R :=
  match promote (H.over b) st with
    | none => none
    | some st1 =>
      let L := mkHead (writes H (.loop c) b []) (H.over b) false st1 st1 st1
      cond (okTs (writes H (.loop c) b []) st1.env L.ts) (withTake (L.take base st1) fun ob x0 => match pb with
          | true => f true R (L.st x0) (outK K)
          | false => cond ob (loopW (fun x => f false (L.shp.X ⊕ R) (L.st x) (backK base L K)) x0) none) none

def dropAt (H : Hnt) : Operand → List (Nat × Over)
  | .tmp t => H.drp t
  | _ => []
noncomputable def interp (E : Env) (H : Hnt) (nt base : Nat) : Code → Nat → Bool → (R : Type) → St → (Ex → St → Option R) → Option R
  | .skip, _, _, _, st, K => K .normal st
  | .region id ops false, _, pb, _, st, K => opsK E nt pb ops ops.toList st fun st' => match freeze (H.frz id) st'.close with
    | some st2 => K .normal st2
    | none => none
  | .region id ops true, _, pb, _, st, K => drawK E nt pb ops st fun st' => match freeze (H.frz id) st'.close with
    | some st2 => K .normal st2
    | none => none
  | .seq x y, b, pb, R, st, K => interp E H nt base x b pb R st fun e st' => match e with
    | .normal => interp E H nt base y b pb R st' K
    | e => K e st'
  | .cond c x y, b, pb, R, st, K => match ev E.G.gl st c with
    | some (.imm .bool q) => match pb with
      | true => match interp E H nt base x b true R st K with
        | some r => some r
        | none => interp E H nt base y b true R st K
      | false => match interp E H nt base x b true St st fallK, interp E H nt base y b true St st fallK, isDup H c with
        | some sa, some sb, false =>
          let L := mkHead (writes H x b (writes H y b [])) (dropAt H c) true st sa sb
          cond (okTs (writes H x b (writes H y b [])) st.env L.ts)
            (joinR (cond q
              (interp E H nt base x b false (L.shp.X ⊕ R) st (backK base L K))
              (interp E H nt base y b false (L.shp.X ⊕ R) st (backK base L K))) fun x => K .normal (L.st x)) none
        | _, _, _ => cond q (interp E H nt base x b false R st K) (interp E H nt base y b false R st K)
    | _ => none
  | .block id c, _, pb, R, st, K => interp E H nt base c id pb R st fun e st' => match e with
    | .exit k => cond (Nat.beq k id) (match freeze (H.frz (1000000 + id)) st' with
      | some st2 => K .normal st2
      | none => none) (K (.exit k) st')
    | e => K e st'
  | .loop c, b, pb, R, st, K => match H.peel b with
    | true => interp E H nt base c b pb R st fun e st' => match e with
      | .normal => loopI H base c b pb R (fun pb R => interp E H nt base c b pb R) st' K
      | e => K e st'
    | false => loopI H base c b pb R (fun pb R => interp E H nt base c b pb R) st K
  | .exit id, _, _, _, st, K => K (.exit id) st
  | .ret, _, _, _, st, K => K .ret st
  | _, _, _, _, _, _ => none

def Ex.to : Ex → Exit
  | .normal => .normal
  | .exit id => .exit id
  | .ret => .ret

theorem wp_loop_peel {P : Program} {Q : Exit → Act → World → Prop} {a : Act} {w : World} {c : Code} (h : c.wp P (Exit.then (fun a w => ∃ n, Code.rounds P c Q n a w) Q) a w) : (Code.loop c).wp P Q a w := by
  intro b k cs
  have key : ∀ n a w, Code.rounds P c Q n a w →
      ∃ e a' w', Q e a' w' ∧ Arrives P (lone (b.at a (.code c :: .inLoop c :: k)) cs w) b k cs e a' w' := by
    intro n
    induction n with
    | zero => intro a w h; exact h.elim
    | succ n ih =>
      intro a w h
      obtain ⟨e, a₁, w₁, hq, harr⟩ := h b (.inLoop c :: k) cs
      cases e with
      | normal =>
        obtain ⟨e₂, a₂, w₂, hq₂, harr₂⟩ := ih a₁ w₁ hq
        exact ⟨e₂, a₂, w₂, hq₂, .of_steps (Steps.trans harr (.one step_inLoop)) harr₂⟩
      | exit id => exact ⟨_, a₁, w₁, hq, .pass (x := .inLoop c) rfl (fun _ _ => .inl (by simp)) harr⟩
      | goto l => exact ⟨_, a₁, w₁, hq, .pass (x := .inLoop c) rfl (fun _ _ => .inl (by simp)) harr⟩
      | ret => exact ⟨_, a₁, w₁, hq, .pass (x := .inLoop c) rfl (fun _ _ => .inl (by simp)) harr⟩
      | panic ch => exact ⟨_, a₁, w₁, hq, .pass (x := .inLoop c) rfl (fun _ _ => .inl (by simp)) harr⟩
      | outgrown => exact ⟨_, a₁, w₁, hq, .pass (x := .inLoop c) rfl (fun _ _ => .inl (by simp)) harr⟩
  have first : ∃ e a' w', Q e a' w' ∧ Arrives P (lone (b.at a (.code c :: .inLoop c :: k)) cs w) b k cs e a' w' := by
    obtain ⟨e, a₁, w₁, hq, harr⟩ := h b (.inLoop c :: k) cs
    cases e with
    | normal =>
      obtain ⟨n, hn⟩ := hq
      obtain ⟨e₂, a₂, w₂, hq₂, harr₂⟩ := key n a₁ w₁ hn
      exact ⟨e₂, a₂, w₂, hq₂, .of_steps (Steps.trans harr (.one step_inLoop)) harr₂⟩
    | exit id => exact ⟨_, a₁, w₁, hq, .pass (x := .inLoop c) rfl (fun _ _ => .inl (by simp)) harr⟩
    | goto l => exact ⟨_, a₁, w₁, hq, .pass (x := .inLoop c) rfl (fun _ _ => .inl (by simp)) harr⟩
    | ret => exact ⟨_, a₁, w₁, hq, .pass (x := .inLoop c) rfl (fun _ _ => .inl (by simp)) harr⟩
    | panic ch => exact ⟨_, a₁, w₁, hq, .pass (x := .inLoop c) rfl (fun _ _ => .inl (by simp)) harr⟩
    | outgrown => exact ⟨_, a₁, w₁, hq, .pass (x := .inLoop c) rfl (fun _ _ => .inl (by simp)) harr⟩
  obtain ⟨e, a', w', hq, harr⟩ := first
  exact ⟨e, a', w', hq, .of_steps (.one step_loop) harr⟩

theorem loopI_sound {P : Program} {fr : Frm} {H : Hnt} {c : Code} {b : Nat} {f : Bool → (R : Type) → St → (Ex → St → Option R) → Option R}
    (ihf : ∀ {R : Type} {r : R} {K : Ex → St → Option R} {m : Nat → Option Nat × Nat} {st : St} {a : Act} {w : World} {Q : Exit → Act → World → Prop}, Fits fr m st a w → st.loc = [] → f false R st K = some r →
      (∀ e m' st' a' w', Fits fr m' st' a' w' → st'.loc = [] → Ext (wrP H c b) st st' → K e st' = some r → Q e.to a' w') → c.wp P Q a w)
    {R : Type} {r : R} {K : Ex → St → Option R} {m : Nat → Option Nat × Nat} {st : St} {a : Act} {w : World} {Q : Exit → Act → World → Prop} (hF : Fits fr m st a w) (hl : st.loc = []) (h : loopI H fr.base c b false R f st K = some r)
    (hK : ∀ e m' st' a' w', Fits fr m' st' a' w' → st'.loc = [] → Ext (wrP H (.loop c) b) st st' → K e st' = some r → Q e.to a' w') : ∃ n, Code.rounds P c Q n a w := by
  unfold loopI at h
  cases hp : promote (H.over b) st with
  | none => rw [hp] at h; cases h
  | some st1 =>
    rw [hp] at h
    simp only at h
    obtain ⟨m1, hF1, hl1, hx1⟩ := promote_sound hF hl hp
    generalize hW : writes H (.loop c) b [] = W at h
    have hWi : ∀ t, memN t W = true ↔ wrP H (.loop c) b t := fun t => by
      rw [← hW, writes_iff]
      simp [memN]
    generalize hL : mkHead W (H.over b) false st1 st1 st1 = L at h
    have hkeep : L.keep = keepL W st1.env := by rw [← hL]; rfl
    cases hok : okTs W st1.env L.ts with
    | false => rw [hok] at h; cases h
    | true =>
      rw [hok] at h
      simp only [cond_true] at h
      cases ht : L.take fr.base st1 with
      | none => rw [ht] at h; cases h
      | some p =>
        obtain ⟨ob, x0⟩ := p
        rw [ht] at h
        simp only [withTake] at h
        cases ob with
        | false => cases h
        | true =>
          simp only [cond_true] at h
          obtain ⟨n, hn⟩ := loopW_some h
          obtain ⟨m2, hF2⟩ := Head.take_sound hF1 hl1 ht fun t v hv => by
            rw [hkeep] at hv
            obtain ⟨k1, k2, k3⟩ := keepL_find hv
            exact ⟨k2, k3⟩
          refine ⟨n, ?_⟩
          -- what is known at every head
          have known : ∀ x t v, ¬ wrP H (.loop c) b t → idFree v = true → st.look t = some (.av v) → (L.st x).look t = some (.av v) := fun x t v hnw hf hlook => by
            have h1 := hx1 t v (fun hr => hnw (.inl hr)) hf hlook
            rw [look_env hl1] at h1
            rw [look_env rfl]
            have hnW : memN t W = false := by
              cases hm : memN t W with
              | false => rfl
              | true => exact absurd ((hWi t).1 hm) hnw
            cases hq : find st1.env t with
            | none => rw [hq] at h1; cases h1
            | some o =>
              rw [hq] at h1
              cases o with
              | none => cases h1
              | some z =>
                simp only [Option.some.injEq, EV.av.injEq] at h1
                subst h1
                show (match find (zipE L.ts (L.shp.avsOf x) L.keep) t with | some (some a) => some (EV.av a) | _ => none) = _
                rw [zipE_out (okTs_sound hnW hf hq hok), hkeep, keepL_of hnW hf hq]
          clear h ht hF hF1
          induction n generalizing x0 m2 a w with
          | zero => cases hn
          | succ n ihn =>
            simp only [loopN] at hn
            generalize hB : f false (L.shp.X ⊕ R) (L.st x0) (backK fr.base L K) = o at hn
            cases o with
            | none => cases hn
            | some q2 =>
              show c.wp P (Exit.then (Code.rounds P c Q n) Q) a w
              refine ihf hF2 rfl hB fun e m' st' a' w' hF' hl' hx hk => ?_
              have other : e ≠ .normal → K e st' = some r := fun he => by
                obtain ⟨r', h1, rfl⟩ := backK_other he hk
                have hn' : some r' = some r := hn
                rw [← hn']
                exact h1
              have ext : Ext (wrP H (.loop c) b) st st' := fun t v hnw hf hlook => hx t v (fun h => hnw (.inr h)) hf (known x0 t v hnw hf hlook)
              cases e with
              | normal =>
                    obtain ⟨x', ht, rfl⟩ := backK_normal hk
                    obtain ⟨m3, hF3⟩ := Head.take_sound hF' hl' ht fun t v hv => by
                      rw [hkeep] at hv
                      obtain ⟨k1, k2, k3⟩ := keepL_find hv
                      refine ⟨k2, ?_⟩
                      have hnw : ¬ wrP H (.loop c) b t := fun hh => by
                        rw [(hWi t).2 hh] at k1
                        cases k1
                      have h0 : (L.st x0).look t = some (.av v) := by
                        rw [look_env rfl]
                        show (match find (zipE L.ts (L.shp.avsOf x0) L.keep) t with | some (some a) => some (EV.av a) | _ => none) = _
                        rw [zipE_out (okTs_sound k1 k2 k3 hok), hkeep, keepL_of k1 k2 k3]
                      have := hx t v (fun h => hnw (.inr h)) k2 h0
                      rw [look_env hl'] at this
                      cases hq : find st'.env t with
                      | none => rw [hq] at this; cases this
                      | some o =>
                        rw [hq] at this
                        cases o with
                        | none => cases this
                        | some z => simp only [Option.some.injEq, EV.av.injEq] at this; subst this; rfl
                    exact ihn x' hn m3 hF3
              | exit id => exact hK (.exit id) m' st' a' w' hF' hl' ext (other (by simp))
              | ret => exact hK .ret m' st' a' w' hF' hl' ext (other (by simp))

theorem close_ext (W : Nat → Prop) (st : St) (h : st.loc = [] ∨ True) : Ext W st st.close := by
  intro t a _ _ hl
  simp only [St.look] at hl
  simp only [St.look, St.close, find, find_settle]
  cases hq : find st.loc t with
  | none => rw [hq] at hl; exact hl
  | some e =>
    rw [hq] at hl
    simp only [Option.some.injEq] at hl
    subst hl
    rfl

theorem interp_sound {E : Env} (hE : E.Ok) {H : Hnt} {fr : Frm} (hgl : fr.gl = E.G.gl) : ∀ (c : Code) {b : Nat} {R : Type} {r : R} {K : Ex → St → Option R} {m : Nat → Option Nat × Nat} {st : St} {a : Act} {w : World}
    {Q : Exit → Act → World → Prop}, Fits fr m st a w → st.loc = [] → interp E H fr.nt fr.base c b false R st K = some r →
    (∀ e m' st' a' w', Fits fr m' st' a' w' → st'.loc = [] → Ext (wrP H c b) st st' → K e st' = some r → Q e.to a' w') → c.wp E.G.P Q a w := by
  intro c
  induction c with
  | skip =>
    intro b R r K m st a w Q hF hl h hK
    exact wp_skip (hK .normal m st a w hF hl (Ext.refl _ _) h)
  | region id ops d =>
    intro b R r K m st a w Q hF hl h hK
    cases d with
    | true =>
      simp only [interp] at h
      have hFd : Fits fr m st a { w with drawn := w.drawn + 1 } := hF.grow (Below.refl _ _).drew
      refine wp_region_any E.G.mixed (drawK_sound hE hgl hFd hl h fun m' st' a' w' hF' hx hk => ?_)
      cases hfz : freeze (H.frz id) st'.close with
      | none => rw [hfz] at hk; cases hk
      | some st2 =>
        rw [hfz] at hk
        obtain ⟨k1, k2, k3⟩ := freeze_sound hF'.close rfl hfz
        refine hK .normal m' st2 a' w' k1 k2 ?_ hk
        exact ((hx.trans (close_ext (fun _ => False) st' (.inr trivial))).trans k3).mono fun t ht => by
          rcases ht with (h1 | h1) | h1
          · exact h1
          · exact h1.elim
          · exact h1.elim
    | false =>
      simp only [interp] at h
      refine wp_region_list (opsK_sound hE hgl hF h fun m' st' a' w' hF' hx hk => ?_)
      cases hfz : freeze (H.frz id) st'.close with
      | none => rw [hfz] at hk; cases hk
      | some st2 =>
        rw [hfz] at hk
        obtain ⟨k1, k2, k3⟩ := freeze_sound hF'.close rfl hfz
        refine hK .normal m' st2 a' w' k1 k2 ?_ hk
        exact ((hx.trans (close_ext (fun _ => False) st' (.inr trivial))).trans k3).mono fun t ht => by
          rcases ht with (h1 | h1) | h1
          · exact h1
          · exact h1.elim
          · exact h1.elim
  | seq x y ih1 ih2 =>
    intro b R r K m st a w Q hF hl h hK
    simp only [interp] at h
    refine wp_seq (ih1 hF hl h fun e m' st' a' w' hF' hl' hx hk => ?_)
    cases e with
    | normal => exact ih2 hF' hl' hk fun e2 m2 st2 a2 w2 hF2 hl2 hx2 hk2 => hK e2 m2 st2 a2 w2 hF2 hl2 (hx.trans hx2) hk2
    | exit id => exact hK (.exit id) m' st' a' w' hF' hl' (hx.mono fun t h => .inl h) hk
    | ret => exact hK .ret m' st' a' w' hF' hl' (hx.mono fun t h => .inl h) hk
  | cond c x y ih1 ih2 =>
    intro b R r K m st a w Q hF hl h hK
    simp only [interp] at h
    cases hc : ev E.G.gl st c with
    | none => rw [hc] at h; cases h
    | some ca =>
      rw [hc] at h
      cases ca <;> try (cases h; done)
      rename_i T q
      cases T <;> try (cases h; done)
      have hcb : a.eval c = .bool q := imm_bool (ev_sound hF (by rw [hgl]; exact hc))
      simp only at h
      refine wp_cond hcb ?_
      have dupCase : cond q (interp E H fr.nt fr.base x b false R st K) (interp E H fr.nt fr.base y b false R st K) = some r → (if q = true then x else y).wp E.G.P Q a w := fun h => by
        cases q with
        | true => exact ih1 hF hl h fun e m' st' a' w' hF' hl' hx hk => hK e m' st' a' w' hF' hl' (hx.mono fun t h => .inl h) hk
        | false => exact ih2 hF hl h fun e m' st' a' w' hF' hl' hx hk => hK e m' st' a' w' hF' hl' (hx.mono fun t h => .inr h) hk
      split at h
      · rename_i sa sb _ _ _
        generalize hW : writes H x b (writes H y b []) = W at h
        have hWi : ∀ t, memN t W = true ↔ wrP H x b t ∨ wrP H y b t := fun t => by
          rw [← hW, writes_iff, writes_iff]
          simp [memN]
        generalize hL : mkHead W (dropAt H c) true st sa sb = L at h
        have hkeep : L.keep = keepL W st.env := by rw [← hL]; rfl
        cases hok : okTs W st.env L.ts with
        | false => rw [hok] at h; cases h
        | true =>
          rw [hok] at h
          simp only [cond_true] at h
          -- what a branch gives
          have branch : ∀ (z : Code), (∀ {b : Nat} {R : Type} {r : R} {K : Ex → St → Option R} {m : Nat → Option Nat × Nat} {st : St} {a : Act} {w : World} {Q : Exit → Act → World → Prop}, Fits fr m st a w → st.loc = [] →
                interp E H fr.nt fr.base z b false R st K = some r → (∀ e m' st' a' w', Fits fr m' st' a' w' → st'.loc = [] → Ext (wrP H z b) st st' → K e st' = some r → Q e.to a' w') → z.wp E.G.P Q a w) →
              (∀ t, wrP H z b t → wrP H x b t ∨ wrP H y b t) →
              joinR (interp E H fr.nt fr.base z b false (L.shp.X ⊕ R) st (backK fr.base L K)) (fun x => K .normal (L.st x)) = some r → z.wp E.G.P Q a w := by
            intro z ihz hz hj
            generalize hB : interp E H fr.nt fr.base z b false (L.shp.X ⊕ R) st (backK fr.base L K) = o at hj
            cases o with
            | none => cases hj
            | some q2 =>
              refine ihz hF hl hB fun e m' st' a' w' hF' hl' hx hk => ?_
              have other : e ≠ .normal → K e st' = some r := fun he => by
                obtain ⟨r', h1, rfl⟩ := backK_other he hk
                have hj' : some r' = some r := hj
                rw [← hj']
                exact h1
              cases e with
              | normal =>
                obtain ⟨x', ht, rfl⟩ := backK_normal hk
                have hj' : K .normal (L.st x') = some r := hj
                obtain ⟨m2, hF2⟩ := Head.take_sound hF' hl' ht fun t v hv => by
                  rw [hkeep] at hv
                  obtain ⟨k1, k2, k3⟩ := keepL_find hv
                  refine ⟨k2, ?_⟩
                  have hnw : ¬ wrP H z b t := fun hh => by
                    rw [(hWi t).2 (hz t hh)] at k1
                    cases k1
                  have := hx t v hnw k2 (by rw [look_env hl, k3])
                  rw [look_env hl'] at this
                  cases hq : find st'.env t with
                  | none => rw [hq] at this; cases this
                  | some o =>
                    rw [hq] at this
                    cases o with
                    | none => cases this
                    | some z => simp only [Option.some.injEq, EV.av.injEq] at this; subst this; rfl
                refine hK .normal m2 (L.st x') a' w' hF2 rfl (fun t v hn hf hlook => ?_) hj'
                rw [look_env hl] at hlook
                rw [look_env rfl]
                have hnW : memN t W = false := by
                  cases hm : memN t W with
                  | false => rfl
                  | true => exact absurd ((hWi t).1 hm) hn
                cases hq : find st.env t with
                | none => rw [hq] at hlook; cases hlook
                | some o =>
                  rw [hq] at hlook
                  cases o with
                  | none => cases hlook
                  | some z =>
                    simp only [Option.some.injEq, EV.av.injEq] at hlook
                    subst hlook
                    show (match find (zipE L.ts (L.shp.avsOf x') L.keep) t with | some (some a) => some (EV.av a) | _ => none) = _
                    rw [zipE_out (okTs_sound hnW hf hq hok), hkeep, keepL_of hnW hf hq]
              | exit id => exact hK (.exit id) m' st' a' w' hF' hl' (hx.mono hz) (other (by simp))
              | ret => exact hK .ret m' st' a' w' hF' hl' (hx.mono hz) (other (by simp))
          cases q with
          | true => exact branch x (fun {_ _ _ _ _ _ _ _ _} => ih1) (fun t h => .inl h) h
          | false => exact branch y (fun {_ _ _ _ _ _ _ _ _} => ih2) (fun t h => .inr h) h
      · exact dupCase h
  | block id c ih =>
    intro b R r K m st a w Q hF hl h hK
    simp only [interp] at h
    refine wp_block (ih hF hl h fun e m' st' a' w' hF' hl' hx hk => ?_)
    cases e with
    | normal => exact hK .normal m' st' a' w' hF' hl' hx hk
    | ret => exact hK .ret m' st' a' w' hF' hl' hx hk
    | exit k =>
      simp only at hk
      show (if k = id then Q .normal a' w' else Q (.exit k) a' w')
      cases hb : Nat.beq k id with
      | true =>
        rw [hb] at hk
        rw [if_pos (Nat.eq_of_beq_eq_true hb)]
        simp only [cond_true] at hk
        cases hfz : freeze (H.frz (1000000 + id)) st' with
        | none => rw [hfz] at hk; cases hk
        | some st2 =>
          rw [hfz] at hk
          obtain ⟨k1, k2, k3⟩ := freeze_sound hF' hl' hfz
          exact hK .normal m' st2 a' w' k1 k2 ((hx.trans k3).mono fun t ht => ht.elim (fun h => h) (fun h => h.elim)) hk
      | false =>
        rw [hb] at hk
        rw [if_neg (fun e => by subst e; simp at hb)]
        exact hK (.exit k) m' st' a' w' hF' hl' hx hk
  | loop c ih =>
    intro b R r K m st a w Q hF hl h hK
    simp only [interp] at h
    cases hp : H.peel b with
    | false =>
      rw [hp] at h
      simp only at h
      obtain ⟨n, hn⟩ := loopI_sound (fun hF hl h hK => ih hF hl h hK) hF hl h hK
      exact wp_loop_rounds n hn
    | true =>
      rw [hp] at h
      simp only at h
      refine wp_loop_peel (ih hF hl h fun e m' st' a' w' hF' hl' hx hk => ?_)
      cases e with
      | normal =>
        exact loopI_sound (fun hF hl h hK => ih hF hl h hK) hF' hl' hk fun e2 m2 st2 a2 w2 hF2 hl2 hx2 hk2 => hK e2 m2 st2 a2 w2 hF2 hl2 ((hx.trans hx2).mono fun t ht => by
          rcases ht with h | h
          · exact .inr h
          · exact h) hk2
      | exit id => exact hK (.exit id) m' st' a' w' hF' hl' (hx.mono fun t h => .inr h) hk
      | ret => exact hK .ret m' st' a' w' hF' hl' (hx.mono fun t h => .inr h) hk
  | exit id =>
    intro b R r K m st a w Q hF hl h hK
    exact wp_exit (hK (.exit id) m st a w hF hl (Ext.refl _ _) h)
  | ret =>
    intro b R r K m st a w Q hF hl h hK
    exact wp_ret (hK .ret m st a w hF hl (Ext.refl _ _) h)
  | rangeFunc => intro b R r K m st a w Q hF hl h hK; cases h
  | scope => intro b R r K m st a w Q hF hl h hK; cases h
  | label => intro b R r K m st a w Q hF hl h hK; cases h
  | goto => intro b R r K m st a w Q hF hl h hK; cases h
  | refuse => intro b R r K m st a w Q hF hl h hK; cases h

end Go.Proofs.YtlkggeaibgaohaaGreatDoor.Sim
