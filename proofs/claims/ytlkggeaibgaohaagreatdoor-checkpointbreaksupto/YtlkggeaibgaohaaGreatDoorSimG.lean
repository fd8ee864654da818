/- Loads, fields, elements: what they give. -/
import Derived.Test.YtlkggeaibgaohaaGreatDoorSimF
namespace Go.Proofs.YtlkggeaibgaohaaGreatDoor.Sim
open Go Go.RowKit

theorem add_addr (b off j : Nat) : (⟨b, off, none⟩ : Addr).add j = ⟨b, off + j, none⟩ := by
  unfold Addr.add
  split
  · rename_i h0; subst h0; rfl
  · rfl

theorem chunks (l : List Value) (sz : Nat) : ∀ n, ((List.range n).flatMap fun i => (l.drop (i * sz)).take sz) = l.take (n * sz)
  | 0 => by simp
  | n + 1 => by
    rw [List.range_succ, List.flatMap_append, chunks l sz n]
    simp only [List.flatMap_cons, List.flatMap_nil, List.append_nil]
    rw [Nat.succ_mul, List.take_add]

def leafDesc : Option TypeDesc → Bool
  | some (.pointer _) => true
  | some (.func _ _ _) => true
  | some (.map _ _) => true
  | some (.interface _) => true
  | some (.slice _) => true
  | _ => false

theorem run_isAgg_leaf {P : Program} {t : TypeId} (h : leafDesc (P.underlying t) = true) (w : World) : (isAgg t).run P w = .ok false w := by
  cases hd : P.underlying t with
  | none => rw [hd] at h; cases h
  | some d =>
    rw [hd] at h
    simp only [isAgg, Sem.run_bind, run_underlying hd, Result.andThen]
    cases d <;> first | rfl | (simp [leafDesc] at h)

def loadAV (G : Pg) (hp : List (Nat × OB)) (t : TypeId) (a : AV) : Option (Comp AV) :=
  match G.ty t with
  | some T => match a with
    | .iptr _ x => match Ty.cast T x with
      | some y => some (just (.imm T y))
      | none => none
    | .ptr id off => match find hp id with
      | some (.cells l) => cond T.isAgg
          (match AV.drop off l with
            | some r => match AV.take T.size r with
              | some sub => some (just (match (AV.agg sub).get [] T with
                | some x => .imm T x
                | none => .agg sub))
              | none => none
            | none => none)
          (cond T.isLeaf (match AV.nth off l with
            | some x => some (just x)
            | none => none) none)
      | _ => none
    | .eptr id e i p => match find hp id with
      | some (.row e' xs) => cond (Ty.eqb e e') (match Ty.get e' (xs.getD i e'.dflt) p with
          | some s => match Ty.cast T s.2 with
            | some y => some (just (.imm T y))
            | none => none
          | none => none) none
      | _ => none
    | .aptr id _ => match find hp id with
      | some (.row e' xs) => match T with
        | .arr n e'' => match Ty.cast (a := .slice e') (.slice e'') xs with
          | some y => some (need (Nat.beq (List.length y) n) (.imm (.arr n e'') y))
          | none => none
        | _ => none
      | _ => none
    | _ => none
  | none => match a with
    | .ptr id off => cond (leafDesc (G.P.underlying t)) (match find hp id with
      | some (.cells l) => match AV.nth off l with
        | some x => some (just x)
        | none => none
      | _ => none) none
    | _ => none

theorem Rep.valLeaf {O : Nat → Prop} {w : World} {t : Ty} {cs : List Value} {x : t.den} (h : Rep O w t cs x) : ValRep O w t (if t.isAgg then .agg cs.toArray else cs.headD undef) x := ⟨cs, h, rfl⟩

theorem size_of_nonagg {O : Nat → Prop} {w : World} {t : Ty} {cs : List Value} {x : t.den} (_ : Rep O w t cs x) (hl : t.isLeaf = true ∨ t.isAgg = true) : t.isAgg = false → t.size = 1 := fun ha => by
  rcases hl with hl | hl
  · exact (Ty.leaf_size hl).1
  · rw [hl] at ha; cases ha

theorem Pg.isVal (G : Pg) {t : Nat} {T : Ty} (h : G.ty t = some T) : T.isVal = true := by
  obtain ⟨d, hd, hc⟩ := G.und h
  cases T <;> first | rfl | (cases d <;> simp [undCheck] at hc)
theorem Ty.isVal_size {t : Ty} (h : t.isVal = true) (ha : t.isAgg = false) : t.size = 1 := by
  unfold Ty.isVal at h
  rw [ha, Bool.or_false] at h
  exact (Ty.leaf_size h).1

theorem loadAV_sound (G : Pg) {fr : Frm} {m : Nat → Option Nat × Nat} {st : St} {w : World} (H : HeapOk fr m st w) {t : TypeId} {a : AV} {cp : Comp AV}
    (h : loadAV G st.heap t a = some cp) {u : cp.X} (hu : cp.c = some u) {va : Value} (ha : AVR (cx fr m st w) a [va]) :
    ∃ v, (Instr.loadAt t va).run G.P w = .ok v w ∧ AVR (cx fr m st w) (cp.out u) [v] := by
  unfold loadAV at h
  cases hT : G.ty t with
  | some T =>
    rw [hT] at h
    simp only at h
    have hval := G.isVal hT
    cases a with
    | iptr S x =>
      simp only at h
      cases hc : Ty.cast T x with
      | none => rw [hc] at h; cases h
      | some y =>
        rw [hc] at h
        simp only [Option.some.injEq] at h
        subst h
        obtain ⟨e, rfl⟩ := Ty.cast_some hc
        subst e
        obtain ⟨b, off, cs, rfl, hO, hr, hs, hcell⟩ := ha
        refine ⟨_, ?_, hr.valLeaf⟩
        simp only [Instr.loadAt, Sem.run_bind, Instr.sureAddr, Sem.run_pure, Result.andThen]
        exact G.run_loadVar hT hr.length (fun h0 => Ty.isVal_size hval h0) hcell
    | ptr id off =>
      simp only at h
      obtain ⟨hid, b, hb, rfl⟩ := ha
      cases hf : find st.heap id with
      | none => rw [hf] at h; cases h
      | some o =>
        rw [hf] at h
        cases o with
        | row _ _ => cases h
        | cells l =>
          simp only at h
          obtain ⟨_, b', arr, ty, hb', hh, hl⟩ := H.obj id _ hf
          have e0 : some b = some b' := hb.symm.trans hb'
          cases e0
          have hh' : w.heap[b]? = some (.cells arr ty (0, 0)) := hh
          cases hag : T.isAgg with
          | true =>
            rw [hag] at h
            simp only [cond_true] at h
            cases hd : AV.drop off l with
            | none => rw [hd] at h; cases h
            | some r =>
              rw [hd] at h
              simp only at h
              cases ht : AV.take T.size r with
              | none => rw [ht] at h; cases h
              | some sub =>
                rw [ht] at h
                simp only [Option.some.injEq] at h
                subst h
                obtain ⟨h1, h2⟩ := AV.drop_sound hd hl
                obtain ⟨h3, h4⟩ := AV.take_sound ht h1
                have hv : AVR (cx fr m st w) (.agg sub) [.agg ((arr.toList.drop off).take T.size).toArray] := ⟨_, rfl, by simpa using h3⟩
                refine ⟨.agg ((arr.toList.drop off).take T.size).toArray, ?_, ?_⟩
                · simp only [Instr.loadAt, Sem.run_bind, Instr.sureAddr, Sem.run_pure, Result.andThen]
                  rw [G.run_loadVar hT (cs := (arr.toList.drop off).take T.size) (by rw [List.length_take]; omega) (fun h0 => by rw [hag] at h0; cases h0)
                    (fun j hj => by rw [cell_of_arr hh', List.getElem?_take_of_lt hj, List.getElem?_drop, Array.getElem?_toList])]
                  rw [hag]; rfl
                · show AVR _ (match (AV.agg sub).get [] T with | some x => .imm T x | none => .agg sub) _
                  cases hg : (AV.agg sub).get [] T with
                  | none => exact hv
                  | some x => exact AV.get_sound (Lends.none _) hg hv
          | false =>
            rw [hag] at h
            simp only [cond_false] at h
            cases hlf : T.isLeaf with
            | false => rw [hlf] at h; cases h
            | true =>
              rw [hlf] at h
              simp only [cond_true] at h
              cases hn : AV.nth off l with
              | none => rw [hn] at h; cases h
              | some x =>
                rw [hn] at h
                simp only [Option.some.injEq] at h
                subst h
                obtain ⟨v, hv, hx⟩ := AV.nth_sound hn hl
                refine ⟨v, ?_, hx⟩
                have h1 := (Ty.leaf_size hlf).1
                simp only [Instr.loadAt, Sem.run_bind, Instr.sureAddr, Sem.run_pure, Result.andThen]
                rw [G.run_loadVar hT (cs := [v]) (by rw [h1]; rfl) (fun _ => h1)
                  (fun j hj => by
                    obtain rfl : j = 0 := by omega
                    rw [cell_of_arr hh', Nat.add_zero, List.getElem?_cons_zero, ← Array.getElem?_toList]; exact hv)]
                rw [hag]; rfl
    | eptr id e i p =>
      simp only at h
      obtain ⟨hid, hi, b, d, hb, hd, rfl⟩ := ha
      cases hf : find st.heap id with
      | none => rw [hf] at h; cases h
      | some o =>
        rw [hf] at h
        cases o with
        | cells _ => cases h
        | row e' xs =>
          simp only at h
          cases he : Ty.eqb e e' with
          | false => rw [he] at h; cases h
          | true =>
            rw [he] at h
            have := Ty.eqb_eq he
            subst this
            simp only [cond_true] at h
            obtain ⟨_, hsz, hlen, _, hor⟩ := H.obj id _ hf
            rcases hor with ⟨h0, _⟩ | ⟨b', arr, ty, hb', hh, hfit, hrep⟩
            · have h1 := h0.symm.trans hb; cases h1
            have e0 : some b = some b' := hb.symm.trans hb'
            cases e0
            have hh' : w.heap[b]? = some (.cells arr ty (0, 0)) := hh
            have hil : i < xs.length := by rw [hlen]; exact hi
            have hx : xs.getD i e.dflt = xs[i] := by simp [List.getD, List.getElem?_eq_getElem hil]
            rw [hx] at h
            cases hg : Ty.get e xs[i] p with
            | none => rw [hg] at h; cases h
            | some s =>
              rw [hg] at h
              simp only at h
              cases hc : Ty.cast T s.2 with
              | none => rw [hc] at h; cases h
              | some y =>
                rw [hc] at h
                simp only [Option.some.injEq] at h
                subst h
                obtain ⟨s1, s2⟩ := s
                obtain ⟨e2, rfl⟩ := Ty.cast_some hc
                subst e2
                obtain ⟨d', hs', hle, hr⟩ := Rep.part (hrep i hil) hg
                rw [hs'] at hd
                simp only [Option.map_some, Option.some.injEq] at hd
                subst hd
                refine ⟨_, ?_, hr.valLeaf⟩
                simp only [Instr.loadAt, Sem.run_bind, Instr.sureAddr, Sem.run_pure, Result.andThen]
                exact G.run_loadVar hT hr.length (fun h0 => Ty.isVal_size hval h0) (fun j hj => by
                  have hj' : j < s1.size := hj
                  have hk : d' + j < e.size := by omega
                  rw [cell_of_arr hh', List.getElem?_take_of_lt hj, List.getElem?_drop, List.getElem?_take_of_lt hk, List.getElem?_drop, Array.getElem?_toList, Nat.add_assoc])
    | aptr id e0 =>
      simp only at h
      obtain ⟨hid, b, hb, rfl⟩ := ha
      cases hf : find st.heap id with
      | none => rw [hf] at h; cases h
      | some o =>
        rw [hf] at h
        cases o with
        | cells _ => cases h
        | row e' xs =>
          cases T <;> simp only [reduceCtorEq] at h
          rename_i n e''
          cases hc : Ty.cast (a := .slice e') (.slice e'') xs with
          | none => rw [hc] at h; cases h
          | some y =>
            rw [hc] at h
            simp only [Option.some.injEq] at h
            subst h
            obtain ⟨e2, rfl⟩ := Ty.cast_some hc
            cases e2
            have hn : xs.length = n := Nat.eq_of_beq_eq_true (need_some hu)
            obtain ⟨_, hsz, hlen, _, hor⟩ := H.obj id _ hf
            rcases hor with ⟨h0, _⟩ | ⟨b', arr, ty, hb', hh, hfit, hrep⟩
            · have h1 := h0.symm.trans hb; cases h1
            have e0 : some b = some b' := hb.symm.trans hb'
            cases e0
            have hh' : w.heap[b]? = some (.cells arr ty (0, 0)) := hh
            have hr : Rep (cx fr m st w).O w (.arr n e') ((List.range n).flatMap fun i => (arr.toList.drop (i * e'.size)).take e'.size) xs := .arr _ hn hrep
            refine ⟨_, ?_, hr.valLeaf⟩
            simp only [Instr.loadAt, Sem.run_bind, Instr.sureAddr, Sem.run_pure, Result.andThen]
            refine G.run_loadVar hT hr.length (fun h0 => by cases h0) (fun j hj => ?_)
            have hj' : j < n * e'.size := hj
            rw [chunks, cell_of_arr hh', List.getElem?_take_of_lt hj', Array.getElem?_toList, Nat.zero_add]
    | _ => cases h
  | none =>
    rw [hT] at h
    cases a <;> simp only [reduceCtorEq] at h
    rename_i id off
    obtain ⟨hid, b, hb, rfl⟩ := ha
    cases hld : leafDesc (G.P.underlying t) with
    | false => rw [hld] at h; cases h
    | true =>
      rw [hld] at h
      simp only [cond_true] at h
      cases hf : find st.heap id with
      | none => rw [hf] at h; cases h
      | some o =>
        rw [hf] at h
        cases o with
        | row _ _ => cases h
        | cells l =>
          simp only at h
          obtain ⟨_, b', arr, ty, hb', hh, hl⟩ := H.obj id _ hf
          have e0 : some b = some b' := hb.symm.trans hb'
          cases e0
          have hh' : w.heap[b]? = some (.cells arr ty (0, 0)) := hh
          cases hn : AV.nth off l with
          | none => rw [hn] at h; cases h
          | some x =>
            rw [hn] at h
            simp only [Option.some.injEq] at h
            subst h
            obtain ⟨v, hv, hx⟩ := AV.nth_sound hn hl
            refine ⟨v, ?_, hx⟩
            have hc : w.cell? ⟨b, off, none⟩ = some v := by rw [cell_of_arr hh', ← Array.getElem?_toList]; exact hv
            simp [Instr.loadAt, Instr.sureAddr, loadVar, run_isAgg_leaf hld, hc]

end Go.Proofs.YtlkggeaibgaohaaGreatDoor.Sim
