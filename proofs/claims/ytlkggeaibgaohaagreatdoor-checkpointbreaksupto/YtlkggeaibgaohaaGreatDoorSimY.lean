/- One operation; a region in order. -/
import Derived.Test.YtlkggeaibgaohaaGreatDoorSimX
namespace Go.Proofs.YtlkggeaibgaohaaGreatDoor.Sim
open Go Go.RowKit

theorem dstOk_some {nt : Nat} {st : St} {d : Nat} (h : dstOk nt st (some d) = true) : d < nt ∧ find st.loc d = none := by
  simp only [dstOk] at h
  cases hb : Nat.blt d nt with
  | false => rw [hb] at h; cases h
  | true =>
    rw [hb] at h
    simp only [cond_true] at h
    refine ⟨Nat.lt_of_succ_le (Nat.le_of_ble_eq_true hb), ?_⟩
    cases hf : find st.loc d with
    | none => rfl
    | some _ => rw [hf] at h; cases h

theorem Fits.putDst {fr : Frm} {m : Nat → Option Nat × Nat} {st : St} {a : Act} {w : World} (h : Fits fr m st a w) {dst : Option Nat} {ev : EV} {v : Value} (hd : dstOk fr.nt st dst = true)
    (hv : EVR (cx fr m st w) (a.put dst v).tmps ev v) (hw : ∀ u want x, ev = .when u want x → (find st.loc u).isSome = true) : Fits fr m (putDst st dst ev) (a.put dst v) w := by
  cases dst with
  | none => exact h
  | some d =>
    obtain ⟨h1, h2⟩ := dstOk_some hd
    exact h.put h1 h2 hv hw

theorem Ext.putDst (st : St) (dst : Option Nat) (ev : EV) : Ext (fun t => dst = some t) st (putDst st dst ev) := by
  intro t a hn _ hl
  cases dst with
  | none => exact hl
  | some d =>
    show (st.set d ev).look t = _
    rw [St.look_set, if_neg (fun e => hn (by rw [e]))]
    exact hl

theorem dstOk_given {nt : Nat} {st : St} {l : List (Nat × Bool)} {dst : Option Nat} (h : dstOk nt st dst = true) : dstOk nt (st.given l) dst = true := by
  cases dst with
  | none => rfl
  | some d =>
    obtain ⟨h1, h2⟩ := dstOk_some h
    simp only [dstOk, St.given]
    have := giveL_none (l := l) (t := d) (loc := st.loc)
    rw [h2] at this
    cases hf : find (giveL l st.loc) d with
    | some _ => rw [hf] at this; cases this
    | none => rw [show Nat.blt d nt = true from by simpa [Nat.blt_eq] using h1]; rfl

theorem wanted_iff {ops : Array Oper} {o : Oper} {a : Act} {j t : Nat} {want : Bool} (hg : o.guard = some (j, want)) (ht : dstOf ops j = some t) :
    Region.wanted o (yielded ops a.tmps) = true ↔ a.tmps.getD t undef = .bool want := by
  have hd : (ops[j]?).bind (fun x => x.dst) = some t := ht
  simp only [Region.wanted, hg, yielded, hd, Option.bind_some, Array.getD_eq_getD_getElem?]
  cases hv : a.tmps[t]? with
  | none => simp [undef]
  | some v =>
    simp only [Option.getD_some]
    cases v <;> simp

theorem stepOp_sound {E : Env} (hE : E.Ok) {fr : Frm} {m : Nat → Option Nat × Nat} {st : St} {a : Act} {w : World} (hgl : fr.gl = E.G.gl) (hF : Fits fr m st a w) {ops : Array Oper} {o : Oper} {R : Type} {K : St → Option R} {r : R}
    (h : stepOp E fr.nt false ops st o K = some r) {Q : Exit → Act → World → Prop} {next : Act → World → Prop}
    (hK : ∀ m' st' a' w', Fits fr m' st' a' w' → Ext (fun t => o.dst = some t) st st' → K st' = some r → next a' w') :
    if Region.wanted o (yielded ops a.tmps) then o.wp E.G.P a w next Q ∨ (o.asks E.G.P a w ∧ LetsOut Q) else next (a.put o.dst undef) w := by
  unfold stepOp at h
  cases hd : dstOk fr.nt st o.dst with
  | false => rw [hd] at h; cases h
  | true =>
    rw [hd] at h
    simp only [cond_true] at h
    cases hg : o.guard with
    | none =>
      rw [hg] at h
      simp only at h
      have hw : Region.wanted o (yielded ops a.tmps) = true := by simp [Region.wanted, hg]
      rw [if_pos hw]
      refine .inl ?_
      cases hp : pureOp E.G E.sp st o.op with
      | some cp =>
        rw [hp] at h
        simp only [bindC, cond_false] at h
        cases hc : cp.c with
        | none => rw [hc] at h; cases h
        | some u =>
          rw [hc] at h
          simp only [Option.bind_some] at h
          refine (pureOp_sound E.G hE.sp hgl hF hp hc).wp fun v w' ⟨hb, hv⟩ => ?_
          exact hK m _ _ _ ((hF.grow hb).putDst (ev := .av (cp.out u)) hd hv (fun u want x e => by cases e)) (Ext.putDst _ _ _) h
      | none =>
        rw [hp] at h
        simp only at h
        cases he : effOp E st o.dst o.op with
        | none => rw [he] at h; cases h
        | some cp =>
          rw [he] at h
          simp only [bindC, cond_false] at h
          cases hc : cp.c with
          | none => rw [hc] at h; cases h
          | some u =>
            rw [hc] at h
            simp only [Option.bind_some] at h
            refine (effOp_sound hE hgl hF he hc).wp fun v w' ⟨m', h1, h2, h3⟩ => ?_
            have hF' : Fits fr m' (st.upd (cp.out u)) a w' := hF.moveEnv h2 rfl rfl h1
            refine hK m' _ _ _ (hF'.putDst (ev := .av (cp.out u).1) (by cases ho : o.dst <;> (rw [ho] at hd; exact hd)) h3 (fun u want x e => by cases e)) ?_ h
            exact fun t v hn hf hl => Ext.putDst (st.upd (cp.out u)) o.dst _ t v hn hf hl
    | some jw =>
      obtain ⟨j, want⟩ := jw
      rw [hg] at h
      simp only at h
      cases ht : dstOf ops j with
      | none => rw [ht] at h; cases h
      | some t =>
        rw [ht] at h
        simp only at h
        cases hcx : ctxG 8 st t want with
        | none => rw [hcx] at h; cases h
        | some q =>
          obtain ⟨l, b⟩ := q
          rw [hcx] at h
          simp only at h
          obtain ⟨c1, c2, c3, c4⟩ := ctxG_sound hF hcx
          have hwi := wanted_iff (a := a) hg ht
          have hne : ∀ d, o.dst = some d → d ≠ t := fun d hod e => by
            rw [hod] at hd
            obtain ⟨_, hq⟩ := dstOk_some hd
            rw [e] at hq
            rw [hq] at c4
            cases c4
          have keepT : ∀ v, (a.put o.dst v).tmps.getD t undef = a.tmps.getD t undef := fun v => by
            cases ho : o.dst with
            | none => rfl
            | some d =>
              have h1 := hd
              rw [ho] at h1
              rw [getD_put a d t v (by rw [hF.size]; exact (dstOk_some h1).1), if_neg (hne d ho)]
          cases hp : pureOp E.G E.sp (st.given l) o.op with
          | some cp =>
            rw [hp] at h
            simp only [bindC, cond_false] at h
            cases hgc : gC (isCall o.op) cp.c b cp.dflt with
            | none => rw [hgc] at h; cases h
            | some u =>
              rw [hgc] at h
              simp only [Option.bind_some] at h
              cases b with
              | true =>
                have hc := gC_true hgc
                rw [if_pos (hwi.2 (c2 rfl))]
                refine .inl ?_
                refine (pureOp_sound E.G hE.sp hgl (hF.given (c1 rfl)) hp hc).wp fun v w' ⟨hb, hv⟩ => ?_
                refine hK m _ _ _ ((hF.grow hb).putDst (ev := .when t want (cp.out u)) hd ⟨fun _ => hv, fun hn => ?_⟩ (fun u want' x e => by cases e; exact c4)) (Ext.putDst _ _ _) h
                rw [keepT] at hn
                exact absurd (c2 rfl) hn
              | false =>
                have hnw : ¬ Region.wanted o (yielded ops a.tmps) = true := fun hh => c3 rfl (hwi.1 hh)
                rw [if_neg hnw]
                refine hK m _ _ _ (hF.putDst (ev := .when t want (cp.out u)) hd ⟨fun hh => ?_, fun _ => rfl⟩ (fun u want' x e => by cases e; exact c4)) (Ext.putDst _ _ _) h
                rw [keepT] at hh
                exact absurd hh (c3 rfl)
          | none =>
            rw [hp] at h
            simp only at h
            cases he : effOp E (st.given l) o.dst o.op with
            | none => rw [he] at h; cases h
            | some cp =>
              rw [he] at h
              simp only [split, bindC, cond_false] at h
              cases b with
              | true =>
                simp only [cond_true] at h
                cases hc : cp.c with
                | none => rw [hc] at h; cases h
                | some u =>
                  rw [hc] at h
                  simp only [Option.bind_some] at h
                  rw [if_pos (hwi.2 (c2 rfl))]
                  refine .inl ?_
                  have hFg := hF.given (c1 rfl)
                  refine (effOp_sound hE hgl hFg he hc).wp fun v w' ⟨m', h1, h2, h3⟩ => ?_
                  have hF' : Fits fr m' ((st.given l).upd (cp.out u)) a w' := hFg.moveEnv h2 rfl rfl h1
                  have hdg := dstOk_given (l := l) hd
                  refine hK m' _ _ _ (hF'.putDst (ev := .av (cp.out u).1) (by cases ho : o.dst <;> (rw [ho] at hdg; exact hdg)) h3 (fun u want x e => by cases e)) ?_ h
                  intro t v hn hf hl
                  exact Ext.putDst ((st.given l).upd (cp.out u)) o.dst _ t v hn hf (Ext.given (fun t => o.dst = some t) t v hn hf hl)
              | false =>
                simp only [cond_false] at h
                have hnw : ¬ Region.wanted o (yielded ops a.tmps) = true := fun hh => c3 rfl (hwi.1 hh)
                rw [if_neg hnw]
                refine hK m _ _ _ (hF.putDst (ev := .when t want (.const undef)) hd ⟨fun hh => ?_, fun _ => rfl⟩ (fun u want' x e => by cases e; exact c4)) (Ext.putDst _ _ _) h
                rw [keepT] at hh
                exact absurd hh (c3 rfl)

/-- The operations of a region, in the order of the text. -/
def opsK {R : Type} (E : Env) (nt : Nat) (pb : Bool) (ops : Array Oper) : List Oper → St → (St → Option R) → Option R
  | [], st, K => K st
  | o :: l, st, K => stepOp E nt pb ops st o fun st' => opsK E nt pb ops l st' K

def dsts : List Oper → Nat → Prop
  | [], _ => False
  | o :: l, t => o.dst = some t ∨ dsts l t

theorem opsK_sound {E : Env} (hE : E.Ok) {fr : Frm} (hgl : fr.gl = E.G.gl) {ops : Array Oper} {R : Type} {r : R} {Q : Exit → Act → World → Prop} :
    ∀ {l : List Oper} {m : Nat → Option Nat × Nat} {st : St} {a : Act} {w : World} {K : St → Option R}, Fits fr m st a w → opsK E fr.nt false ops l st K = some r →
      (∀ m' st' a' w', Fits fr m' st' a' w' → Ext (dsts l) st st' → K st' = some r → Q .normal a' w') → wpList E.G.P ops Q l a w
  | [], m, st, a, w, K, hF, h, hK => hK m st a w hF (Ext.refl _ _) h
  | o :: l, m, st, a, w, K, hF, h, hK => by
    simp only [opsK] at h
    have := stepOp_sound hE hgl hF h (Q := Q) (next := wpList E.G.P ops Q l) fun m' st' a' w' hF' hx h' =>
      opsK_sound hE hgl hF' h' fun m2 st2 a2 w2 hF2 hx2 h2 => hK m2 st2 a2 w2 hF2 (hx.trans hx2) h2
    exact this

end Go.Proofs.YtlkggeaibgaohaaGreatDoor.Sim
