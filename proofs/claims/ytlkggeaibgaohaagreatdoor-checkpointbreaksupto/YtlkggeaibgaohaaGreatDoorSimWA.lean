/- Slices with a third index of rows of the call's own: full slices, and the row given up. -/
import Derived.Test.YtlkggeaibgaohaaGreatDoorSimW
namespace Go.Proofs.YtlkggeaibgaohaaGreatDoor.Sim
open Go Go.RowKit

theorem andThen_ok {α β : Type} {x : Result α} {f : α → World → Result β} {b : β} {w' : World} (h : x.andThen f = .ok b w') : ∃ a w, x = .ok a w ∧ f a w = .ok b w' := by
  cases x with
  | ok a w => exact ⟨a, w, rfl, h⟩
  | halt e w => cases h

theorem sliceBound_ok {P : Program} {k : IntKind} {n : Int} {y r : Nat} {code : BoundsCode} {w w' : World} (h : (Instr.sliceBound (.int k n) y code).run P w = .ok r w') : r = n.toNat := by
  simp only [Instr.sliceBound, asIntOf, Sem.run_bind, Sem.run_pure, Result.andThen] at h
  split at h
  · simp only [Sem.run_pure, Result.ok.injEq] at h; exact h.1.symm
  · simp [boundsPanic, runtimePanic] at h
    split at h
    · split at h <;> cases h
    · cases h

theorem sliceBounds_full {P : Program} {b : Bool} {len cap l h mm : Nat} {vl : Option Value} {k k' : IntKind} {n : Int} {w w' : World}
    (hr : (Instr.sliceBounds b len cap vl (some (.int k n)) (some (.int k' n))).run P w = .ok (l, h, mm) w') : h = mm := by
  simp only [Instr.sliceBounds, Sem.run_bind] at hr
  obtain ⟨a1, w1, h1, hr⟩ := andThen_ok hr
  obtain ⟨a2, w2, h2, hr⟩ := andThen_ok hr
  cases vl with
  | none =>
    simp only [Sem.run_bind, Sem.run_pure, Result.andThen, Result.ok.injEq, Prod.mk.injEq] at hr
    obtain ⟨⟨_, rfl, rfl⟩, _⟩ := hr
    rw [sliceBound_ok h1, sliceBound_ok h2]
  | some v =>
    simp only [Sem.run_bind] at hr
    obtain ⟨a3, w3, h3, hr⟩ := andThen_ok hr
    simp only [Sem.run_pure, Result.ok.injEq, Prod.mk.injEq] at hr
    obtain ⟨⟨_, rfl, rfl⟩, _⟩ := hr
    rw [sliceBound_ok h1, sliceBound_ok h2]

theorem sliceAt_full {P : Program} {t : TypeId} {va : Value} {vl : Option Value} {k k' : IntKind} {n : Int} {w w' : World} {base : Option Addr} {len cap : Nat}
    (hr : (Instr.sliceAt t va vl (some (.int k n)) (some (.int k' n))).run P w = .ok (.slice base len cap) w') : len = cap := by
  simp only [Instr.sliceAt, Sem.run_bind] at hr
  obtain ⟨d, w1, h1, hr⟩ := andThen_ok hr
  split at hr
  · simp only [Sem.run_bind] at hr
    obtain ⟨a, w2, h2, hr⟩ := andThen_ok hr
    obtain ⟨⟨l, h, mm⟩, w3, h3, hr⟩ := andThen_ok hr
    obtain ⟨sz, w4, h4, hr⟩ := andThen_ok hr
    simp only [Sem.run_pure, Result.ok.injEq, Value.slice.injEq] at hr
    obtain ⟨⟨_, rfl, rfl⟩, _⟩ := hr
    rw [sliceBounds_full h3]
  · simp only [Instr.slice, Sem.run_bind] at hr
    obtain ⟨d2, w2, h2, hr⟩ := andThen_ok hr
    split at hr
    · simp only [Option.isSome, if_true] at hr
      simp at hr
    · simp only [Sem.run_bind] at hr
      obtain ⟨⟨l, h, mm⟩, w3, h3, hr⟩ := andThen_ok hr
      obtain ⟨sz, w4, h4, hr⟩ := andThen_ok hr
      simp only [Sem.run_pure, Result.ok.injEq, Value.slice.injEq] at hr
      obtain ⟨⟨_, rfl, rfl⟩, _⟩ := hr
      rw [sliceBounds_full h3]
    · simp only [Sem.run_bind] at hr
      obtain ⟨a, w3, h3, hr⟩ := andThen_ok hr
      obtain ⟨d3, w4, h4, hr⟩ := andThen_ok hr
      split at hr
      · simp only [Sem.run_bind] at hr
        obtain ⟨⟨l, h, mm⟩, w5, h5, hr⟩ := andThen_ok hr
        obtain ⟨sz, w6, h6, hr⟩ := andThen_ok hr
        simp only [Sem.run_pure, Result.ok.injEq, Value.slice.injEq] at hr
        obtain ⟨⟨_, rfl, rfl⟩, _⟩ := hr
        rw [sliceBounds_full h5]
      · simp [stuck] at hr
    · simp [stuck] at hr

theorem HeapOk.erase {fr : Frm} {m : Nat → Option Nat × Nat} {st : St} {w : World} (H : HeapOk fr m st w) (id : Nat) {st' : St} (h1 : st'.heap = erase id st.heap) (h2 : st'.nx = st.nx) :
    HeapOk fr m st' w ∧ (cx fr m st w).Le (cx fr m st' w) ∧ (∀ o b, find st.heap id = some o → (m id).1 = some b → ¬ own fr.F m st'.heap b) ∧ ∀ b, own fr.F m st'.heap b → own fr.F m st.heap b := by
  have sub : ∀ k o, find st'.heap k = some o → k ≠ id ∧ find st.heap k = some o := fun k o hf => by
    rw [h1, find_erase] at hf
    by_cases e : k = id
    · rw [if_pos e] at hf; cases hf
    · rw [if_neg e] at hf; exact ⟨e, hf⟩
  have hown : ∀ b, own fr.F m st'.heap b → own fr.F m st.heap b := by
    rintro b (hb | ⟨k, o, hf, hb⟩)
    · exact .inl hb
    · exact .inr ⟨k, o, (sub k o hf).2, hb⟩
  have hle : (cx fr m st w).Le (cx fr m st' w) := ⟨fun _ _ => rfl, by show st.nx ≤ st'.nx; rw [h2]; exact Nat.le_refl _, Moves.sub _ hown, fun _ _ h => h⟩
  refine ⟨⟨?_, ?_, ?_, H.since, H.fsub, fun g t x hg => AVR.move hle (H.glob g t x hg), H.anchor, by rw [h2]; exact H.above⟩, hle, ?_, hown⟩
  · intro k o hf
    obtain ⟨p1, p2⟩ := H.obj k o (sub k o hf).2
    exact ⟨by rw [h2]; exact p1, OBR.move hle p2 fun _ _ => rfl⟩
  · intro i j o o' b hi hj hb hb'
    exact H.inj i j o o' b (sub i o hi).2 (sub j o' hj).2 hb hb'
  · intro i o b hi hb
    exact H.apart i o b (sub i o hi).2 hb
  · rintro o b hf hb (hF | ⟨k, o', hk, hb'⟩)
    · exact (H.apart id o b hf hb).1 hF
    · obtain ⟨q1, q2⟩ := sub k o' hk
      exact q1 (H.inj k id o' o b q2 hf hb' hb)

def fz (st : St) (a : AV) : Eff :=
  match a with
  | .view id e p n => match find st.heap id with
    | some o => match AV.get [(id, o)] (.slice e) (.view id e p n) with
      | some x => (.imm (.tslice e) x, erase id st.heap, st.nx)
      | none => (.view id e p n, st.heap, st.nx)
    | none => (.view id e p n, st.heap, st.nx)
  | a => (a, st.heap, st.nx)

def sliceFzE (G : Pg) (st : St) (t : TypeId) (a : AV) (l h m : Option AV) : Option (Comp Eff) :=
  match sliceAV G st.heap t a l h m, optInt h, optInt m with
  | some cp, some (some hn), some (some mn) => some ⟨cp.X, cp.dflt, cond (decide (hn = mn)) cp.c none, fun u => fz st (cp.out u)⟩
  | _, _, _ => none

theorem sliceFzE_sound (G : Pg) {fr : Frm} {m : Nat → Option Nat × Nat} {st : St} {w : World} (H : HeapOk fr m st w) {t : TypeId} {a : AV} {lo hi mx : Option AV} {cp : Comp Eff}
    (h : sliceFzE G st t a lo hi mx = some cp) {u : cp.X} (hu : cp.c = some u) {va : Value} {vl vh vm : Option Value} (ha : AVR (cx fr m st w) a [va])
    (hl : optAVR (cx fr m st w) lo vl) (hh : optAVR (cx fr m st w) hi vh) (hm : optAVR (cx fr m st w) mx vm) :
    ∃ v, (Instr.sliceAt t va vl vh vm).run G.P w = .ok v w ∧ EffOk fr m st w (cp.out u) v w := by
  unfold sliceFzE at h
  split at h
  · rename_i cp0 hn mn h1 h2 h3
    simp only [Option.some.injEq] at h
    subst h
    simp only at hu
    cases hd : decide (hn = mn) with
    | false => rw [hd] at hu; cases hu
    | true =>
      rw [hd] at hu
      have hu' : cp0.c = some u := hu
      have e := of_decide_eq_true hd
      subst e
      obtain ⟨v, hr, hv⟩ := sliceAV_sound G H h1 (fun _ e => by rw [e] at h2; cases h2) (u := u) hu' ha hl hh hm
      refine ⟨v, hr, ?_⟩
      have ih := optInt_is h2 hh
      have im := optInt_is h3 hm
      have plain : EffOk fr m st w (cp0.out u, st.heap, st.nx) v w := ⟨m, H, Cx.Le.refl _, hv⟩
      show EffOk fr m st w (fz st (cp0.out u)) v w
      generalize cp0.out u = av at hv plain
      unfold fz
      split
      · rename_i id e p n
        cases hf : find st.heap id with
        | none => exact plain
        | some o =>
          simp only
          cases hg : AV.get [(id, o)] (.slice e) (.view id e p n) with
          | none => exact plain
          | some x =>
            obtain ⟨k1, k2, k3, k4⟩ := H.erase id (st' := st.upd (.imm (.tslice e) x, erase id st.heap, st.nx)) rfl rfl
            have one : ∀ k o', find [(id, o)] k = some o' → k = id ∧ o' = o := fun k o' hk => by
              rw [find_cons] at hk
              by_cases e : id = k
              · rw [if_pos e] at hk; cases hk; exact ⟨e.symm, rfl⟩
              · rw [if_neg e] at hk; simp [find] at hk
            have hL : Lends (cx fr m st w) [(id, o)] (cx fr m (st.upd (.imm (.tslice e) x, erase id st.heap, st.nx)) w).O :=
              ⟨k4, fun k o' hk => by obtain ⟨rfl, rfl⟩ := one k o' hk; exact (H.obj k o' hf).2, fun k o' b hk hb => by obtain ⟨rfl, rfl⟩ := one k o' hk; exact k3 o' b hf hb⟩
            obtain ⟨cs, hrep, hvv⟩ := AV.get_sound hL hg hv
            cases hrep with
            | slice base len cap cells hlen hcap hmax hsz hb hat hrep =>
              have hvv' : v = .slice base len cap := hvv
              subst hvv'
              cases ih with
              | some e1 =>
                cases im with
                | some e2 =>
                  subst e1; subst e2
                  have := sliceAt_full hr
                  subst this
                  exact ⟨m, k1, k2, _, .tslice (.slice base len len cells hlen hcap hmax hsz hb hat hrep), rfl⟩
      · exact plain
  · cases h

end Go.Proofs.YtlkggeaibgaohaaGreatDoor.Sim
