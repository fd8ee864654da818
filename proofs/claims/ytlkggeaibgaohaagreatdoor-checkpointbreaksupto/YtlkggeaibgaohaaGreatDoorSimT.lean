/- append, joined. -/
import Derived.Test.YtlkggeaibgaohaaGreatDoorSimS
import Derived.Deep.Upon
namespace Go.Proofs.YtlkggeaibgaohaaGreatDoor.Sim
open Go Go.RowKit

theorem firstCells_none_run {P : Program} {sz cap : Nat} (base : Option Addr) (w : World) : (Builtin.firstCells sz 0 (.slice base 0 cap)).run P w = .ok #[] w := by
  cases base <;> simp [Builtin.firstCells, loadCells, loadCellsFrom]

/-- A new row beside the objects. -/
theorem own_new {fr : Frm} {m : Nat → Option Nat × Nat} {st : St} {w w' : World} (H : HeapOk fr m st w) {T : Ty} {zs : List T.den} {v' : Value} {p : Option Nat × Nat}
    (hb : Below w.heap.size w w') (hp : ∀ b, p.1 = some b → w.heap.size ≤ b) (ho : ∀ d : Cx, d.w = w' → Moves (own fr.F m st.heap) w d.O d.w → OBR d p (.row T zs))
    (hv : ∀ d : Cx, ∀ id, d.w = w' → id < d.nx → d.m id = p → AVR d (.view id T 0 zs.length) [v']) :
    EffOk fr m st w (.view st.nx T 0 zs.length, (st.nx, .row T zs) :: st.heap, st.nx + 1) v' w' := by
  obtain ⟨k1, k2⟩ := H.new hb (p := p) (o := .row T zs) hp (fun hle => ho _ rfl hle.moves)
  exact ⟨_, k1, k2, hv _ _ rfl (Nat.lt_succ_self _) (upd_self m st.nx p)⟩

theorem appendE_sound (G : Pg) {fr : Frm} {m : Nat → Option Nat × Nat} {st : St} {w : World} (H : HeapOk fr m st w) {own : Bool} {t tx ty : TypeId} {s x : AV} {cp : Comp Eff} (h : appendE G st own t tx s x = some cp) {u : cp.X}
    (hu : cp.c = some u) {vs vx : Value} (hs : AVR (cx fr m st w) s [vs]) (hx : AVR (cx fr m st w) x [vx]) :
    ∃ v w', (Builtin.append_ #[t, tx] ty #[vs, vx]).run G.P w = .ok v w' ∧ EffOk fr m st w (cp.out u) v w' := by
  unfold appendE at h
  cases he : elemOf G t with
  | none => rw [he] at h; cases h
  | some q =>
    obtain ⟨e, T, by'⟩ := q
    rw [he] at h
    simp only at h
    obtain ⟨ht, i, z, hi, hz, hzs, his, hT, hby, hib, hTb, _⟩ := elemOf_some he
    cases hk : tyKind G.P tx with
    | false => rw [hk] at h; cases h
    | true =>
      rw [hk] at h
      simp only [cond_true] at h
      cases hys : srcVals st.heap T x with
      | none => rw [hys] at h; cases h
      | some ys =>
        rw [hys] at h
        simp only at h
        obtain ⟨news, hsrc, hnl, h1, hnr⟩ := srcVals_sound (P := G.P) H hys hx hT
        have hnews : RowIs (cx fr m st w).O w T news ys := ⟨hnl, hnr⟩
        rw [← his] at hsrc
        have hS := hsrc.src hk (by rw [his]; exact hnl) h1
        have bnd : ∀ {n : Nat}, Nat.ble (n * by') 140737488355328 = true → n * T.bytes ≤ 2 ^ 47 := fun {n} hn => by
          have := Nat.le_of_ble_eq_true hn
          exact Nat.le_trans (Nat.mul_le_mul_left _ hTb) this
        split at h
        · -- an own row
          rename_i id e1 lo len
          cases hf : find st.heap id with
          | none => rw [hf] at h; cases h
          | some o =>
            rw [hf] at h
            cases o with
            | cells _ => cases h
            | row e2 xs =>
              simp only at h
              cases hc : (Ty.eqb e1 e2 && Nat.beq lo 0) with
              | false => rw [hc] at h; cases h
              | true =>
                rw [hc] at h
                simp only [cond_true] at h
                rw [Bool.and_eq_true] at hc
                have q1 := Ty.eqb_eq hc.1
                have q2 := Nat.eq_of_beq_eq_true hc.2
                subst q1; subst q2
                cases hcast : Ty.cast (a := .slice e1) (.slice T) xs with
                | none => rw [hcast] at h; cases h
                | some zs =>
                  rw [hcast] at h
                  simp only [Option.some.injEq] at h
                  obtain ⟨eT, hzx⟩ := Ty.cast_some hcast
                  cases eT
                  have hzx' : zs = xs := hzx
                  subst hzx'
                  subst h
                  cases hn : (Nat.beq len (List.length zs) && Nat.ble ((List.length zs + ys.length) * by') 140737488355328) with
                  | false => simp only [hn] at hu; cases hu
                  | true =>
                    rw [Bool.and_eq_true] at hn
                    have hlen := Nat.eq_of_beq_eq_true hn.1
                    have hbd := hn.2
                    obtain ⟨hidn, hsz, hml, hb47, hor⟩ := H.obj id _ hf
                    obtain ⟨hid, hlm, _, hv⟩ := hs
                    rcases hv with ⟨h0, ⟨base, rfl⟩, _, hl0⟩ | ⟨b, cap, ty', nn, base, hb, rfl, hlc, hcm, hshape, hin, hbase⟩
                    · -- no row yet
                      subst hl0
                      have hzn : zs = [] := List.eq_nil_of_length_eq_zero hlen.symm
                      subst hzn
                      obtain ⟨v', w', hr, hA⟩ := run_appended (w := w) (ty := ty) (base := base) (len := 0) (cap := 0) (olds := []) ht hi hz hzs (by omega) hS (Nat.le_refl _) (by simp) (fun _ => .inl rfl)
                        (firstCells_none_run base _) (by rw [hib]; simpa using Nat.le_of_ble_eq_true hbd)
                      rw [his] at hA
                      refine ⟨v', w', hr, ?_⟩
                      obtain ⟨p, hp, ho, hav⟩ := appended_row (xs := ([] : List T.den)) hA ⟨by simp, fun i hi => absurd hi (Nat.not_lt_zero i)⟩ hnews rfl rfl hT (by simpa using bnd hbd) (Nat.le_refl _) (Nat.zero_le _)
                        (fun _ _ _ _ _ _ h0 => absurd h0 (Nat.not_lt_zero _))
                      rcases hp with ⟨hp1, hp2⟩ | ⟨b, _, _, hc0, _⟩
                      · obtain ⟨k1, k2⟩ := H.swap hf (p := p) (o' := .row T ([] ++ ys)) (Turns.of_below hp1 _) (fun b hb => .inl (hp2 b hb)) (fun hle => ho _ rfl hle.moves)
                        exact ⟨_, k1, k2, hav _ _ rfl (Nat.lt_succ_self _) (upd_self m st.nx p)⟩
                      · exact absurd hc0.1 (Nat.not_lt_zero _)
                    · rcases hor with ⟨h0, _⟩ | ⟨b', arr, ty2, hb', hh, hfit, hrep⟩
                      · have h1 := h0.symm.trans hb; cases h1
                      have e0 : some b = some b' := hb.symm.trans hb'
                      cases e0
                      have hh' : w.heap[b]? = some (.cells arr ty2 (0, 0)) := hh
                      have hxr : RowIs (cx fr m st w).O w T (arr.toList.take (zs.length * T.size)) zs := by
                        refine ⟨by rw [List.length_take, Array.length_toList]; exact Nat.min_eq_left hfit, fun j hj => ?_⟩
                        have : (j + 1) * T.size ≤ zs.length * T.size := Nat.mul_le_mul_right _ hj
                        rw [Nat.succ_mul] at this
                        have hseg := take_seg arr.toList 0 (zs.length * T.size) (j * T.size) T.size this
                        rw [List.drop_zero, Nat.zero_add] at hseg
                        rw [hseg]
                        exact hrep j hj
                      have hshape' : arr.size = nn := by
                        simp only [cx, World.shape?, hh', Option.some.injEq, Prod.mk.injEq] at hshape
                        exact hshape.2
                      rw [Nat.zero_add] at hin
                      have hbs : cap = 0 ∨ base = some ⟨b, 0, none⟩ := by rw [Nat.zero_mul] at hbase; exact hbase
                      obtain ⟨v', w', hr, hA⟩ := run_appended (w := w) (ty := ty) (base := base) (len := len) (cap := cap) (olds := arr.toList.take (len * i.size)) ht hi hz hzs (by omega) hS hlc
                        (by rw [List.length_take, Array.length_toList, his]; exact Nat.min_eq_left (by rw [hlen]; exact hfit))
                        (fun _ => by
                          rcases Nat.eq_zero_or_pos cap with hc0 | hc0
                          · exact .inl hc0
                          · rcases hbs with hb0 | hb0
                            · omega
                            · exact .inr ⟨b, arr, ty2, hc0, hb0, hh', by rw [his, hshape']; exact hin⟩)
                        (by
                          rcases hbs with hb0 | hb0
                          · have : len = 0 := by omega
                            subst this
                            rw [firstCells_none_run]
                            simp
                          · rw [hb0, Builtin.firstCells]
                            have hll : (arr.toList.take (len * i.size)).length = len * i.size := by
                              rw [List.length_take, Array.length_toList, his]; exact Nat.min_eq_left (by rw [hlen]; exact hfit)
                            have := run_loadCells_list (P := G.P) w.drew ⟨b, 0, none⟩ (arr.toList.take (len * i.size)) (fun j v hj => by
                              rw [add_addr, Nat.zero_add]
                              show w.cell? _ = _
                              rw [cell_of_arr hh', ← Array.getElem?_toList]
                              have hjl := (List.getElem?_eq_some_iff.1 hj).1
                              rw [hll] at hjl
                              rwa [List.getElem?_take_of_lt hjl] at hj)
                            rw [hll] at this
                            exact this)
                        (by rw [hib, hlen]; exact Nat.le_of_ble_eq_true hbd)
                      rw [his] at hA
                      refine ⟨v', w', hr, ?_⟩
                      rw [hlen] at hA hlc
                      obtain ⟨p, hp, ho, hav⟩ := appended_row (xs := (zs : List T.den)) hA hxr hnews rfl rfl hT (by rw [List.length_append]; exact bnd hbd) hlc hcm
                        (fun _ b2 arr2 ty3 hb2 hh2 hc0 => by
                          rcases hbs with hb0 | hb0
                          · omega
                          · rw [hb0] at hb2
                            cases hb2
                            rw [hh'] at hh2
                            cases hh2
                            rfl)
                      have hTurns : Turns (fun k => (m id).1 = some k) w w' ∧ ∀ b, p.1 = some b → w.heap.size ≤ b ∨ (m id).1 = some b := by
                        rcases hp with ⟨hp1, hp2⟩ | ⟨b2, hb2, hpb, hc0, hTn⟩
                        · exact ⟨Turns.of_below hp1 _, fun b hb => .inl (hp2 b hb)⟩
                        · have : b2 = b := by
                            rcases hbs with hb0 | hb0
                            · omega
                            · rw [hb0] at hb2; cases hb2; rfl
                          subst this
                          refine ⟨?_, fun k hk => by rw [hpb] at hk; cases hk; exact .inr hb⟩
                          have hbm : (m id).1 = some b2 := hb
                          have hiff : (fun k => (m id).1 = some k) = fun k => k = b2 := by
                            funext k
                            rw [hbm]
                            simp only [Option.some.injEq, eq_iff_iff]
                            exact ⟨fun h => h.symm, fun h => h.symm⟩
                          rw [hiff]
                          exact hTn
                      obtain ⟨k1, k2⟩ := H.swap hf (p := p) (o' := .row T (zs ++ ys)) hTurns.1 hTurns.2 (fun hle => ho _ rfl hle.moves)
                      exact ⟨_, k1, k2, hav _ _ rfl (Nat.lt_succ_self _) (upd_self m st.nx p)⟩
        · -- nil
          simp only [Option.some.injEq] at h
          subst h
          obtain rfl : vs = .slice none 0 0 := hs
          cases hn : Nat.ble (ys.length * by') 140737488355328 with
          | false => simp only [hn] at hu; cases hu
          | true =>
            obtain ⟨v', w', hr, hA⟩ := run_appended (w := w) (ty := ty) (base := none) (len := 0) (cap := 0) (olds := []) ht hi hz hzs (by omega) hS (Nat.le_refl _) (by simp) (fun _ => .inl rfl)
              (firstCells_none_run none _) (by rw [hib]; simpa using Nat.le_of_ble_eq_true hn)
            rw [his] at hA
            refine ⟨v', w', hr, ?_⟩
            obtain ⟨p, hp, ho, hav⟩ := appended_row (xs := ([] : List T.den)) hA ⟨by simp, fun i hi => absurd hi (Nat.not_lt_zero i)⟩ hnews rfl rfl hT (by simpa using bnd hn) (Nat.le_refl _) (Nat.zero_le _)
              (fun _ _ _ _ _ _ h0 => absurd h0 (Nat.not_lt_zero _))
            rcases hp with ⟨hp1, hp2⟩ | ⟨b, _, _, hc0, _⟩
            · exact own_new H hp1 hp2 ho hav
            · exact absurd hc0.1 (Nat.not_lt_zero _)
        · -- a slice that is full
          rename_i e1 xs
          cases hcast : Ty.cast (a := .slice e1) (.slice T) xs with
          | none => rw [hcast] at h; cases h
          | some zs =>
            rw [hcast] at h
            simp only at h
            obtain ⟨eT, hzx⟩ := Ty.cast_some hcast
            cases eT
            have hzx' : zs = xs := hzx
            subst hzx'
            obtain ⟨cs, hr0, hv0⟩ := hs
            cases hr0 with
            | @tslice _ _ base len hr0 =>
              have hv0' : vs = .slice base len len := hv0
              subst hv0'
              cases hr0 with
              | slice _ _ _ cells hlen hcap hmax hsz' hb' hat hrep =>
                have holds : (cx fr m st w).w = w := rfl
                have hxr : RowIs (cx fr m st w).O w T ((List.range len).flatMap cells) zs := by
                  refine ⟨by rw [length_flatMap_range cells T.size len fun i hi => (hrep i (by omega)).length, hlen], fun j hj => ?_⟩
                  rw [chunk_at cells T.size len (fun i hi => (hrep i (by omega)).length) j (by omega)]
                  exact hrep j hj
                have hnl2 : ((List.range len).flatMap cells).length = len * T.size := length_flatMap_range cells T.size len fun i hi => (hrep i (by omega)).length
                have hold : (Builtin.firstCells i.size len (.slice base len len)).run G.P w.drew = .ok ((List.range len).flatMap cells).toArray w.drew := by
                  rw [his]
                  have hsl : SrcIs G.P T.size (.slice base len len) len ((List.range len).flatMap cells) w := by
                    refine SrcIs.slice hnl2 ?_ hT
                    rcases hat with h0 | ⟨b, off, hbase, hO, hcc⟩
                    · exact .inl h0
                    · refine .inr ⟨b, off, hbase, fun j v hj => ?_⟩
                      have hjl : j < len * T.size := by rw [← hnl2]; exact (List.getElem?_eq_some_iff.1 hj).1
                      have hq : j / T.size < len := Nat.div_lt_of_lt_mul (by rwa [Nat.mul_comm] at hjl)
                      have hr := Nat.mod_lt j hT
                      have hjj : j = (j / T.size) * T.size + j % T.size := by rw [Nat.mul_comm]; exact (Nat.div_add_mod j T.size).symm
                      have h1 := hcc (j / T.size) hq (j % T.size) hr
                      rw [Nat.add_assoc, ← hjj] at h1
                      have h1' : w.cell? ⟨b, off + j, none⟩ = (cells (j / T.size))[j % T.size]? := h1
                      rw [h1']
                      have h2 := chunk_at cells T.size len (fun i hi => (hrep i (by omega)).length) (j / T.size) hq
                      rw [← h2, List.getElem?_take_of_lt hr, List.getElem?_drop, ← hjj, hj]
                  exact hsl.cells w.drew rfl
                have app : ∀ (hn0 : len = 0 ∨ 0 < ys.length), Nat.ble ((List.length zs + ys.length) * by') 140737488355328 = true →
                    ∃ v' w', (Builtin.append_ #[t, tx] ty #[.slice base len len, vx]).run G.P w = .ok v' w' ∧ Appended e T.size base len len ys.length ((List.range len).flatMap cells) news w v' w' := by
                  intro hn0 hbd
                  obtain ⟨v', w', hr, hA⟩ := run_appended (w := w) (ty := ty) (base := base) (len := len) (cap := len) (olds := (List.range len).flatMap cells) ht hi hz hzs (by omega) hS (Nat.le_refl _) (by rw [his]; exact hnl2)
                    (fun hle => .inl (by omega)) hold (by rw [hib, ← hlen]; exact Nat.le_of_ble_eq_true hbd)
                  rw [his] at hA
                  exact ⟨v', w', hr, hA⟩
                cases own with
                | true =>
                  simp only [cond_true, Option.some.injEq] at h
                  subst h
                  cases hn : ((Nat.beq (List.length zs) 0 || Nat.blt 0 ys.length) && Nat.ble ((List.length zs + ys.length) * by') 140737488355328) with
                  | false => simp only [hn] at hu; cases hu
                  | true =>
                    rw [Bool.and_eq_true, Bool.or_eq_true] at hn
                    have hn0 : len = 0 ∨ 0 < ys.length := hn.1.imp (fun h => by rw [← hlen]; exact Nat.eq_of_beq_eq_true h) (fun h => Nat.lt_of_succ_le (Nat.le_of_ble_eq_true h))
                    obtain ⟨v', w', hr, hA⟩ := app hn0 hn.2
                    refine ⟨v', w', hr, ?_⟩
                    obtain ⟨p, hp, ho, hav⟩ := appended_row (xs := (zs : List T.den)) hA hxr hnews hlen rfl hT (by rw [List.length_append]; exact bnd hn.2) (Nat.le_refl _) hmax
                      (fun hle b arr ty2 hb2 hh2 hc0 => by omega)
                    rcases hp with ⟨hp1, hp2⟩ | ⟨b, hb1, hb2, hc0, hT2⟩
                    · exact own_new H hp1 hp2 ho hav
                    · omega
                | false =>
                  simp only [cond_false, Option.some.injEq] at h
                  subst h
                  cases hn : Nat.ble ((List.length zs + ys.length) * by') 140737488355328 with
                  | false => simp only [hn] at hu; cases hu
                  | true =>
                    have hO : ∀ b, w.heap.size ≤ b → ¬ own fr.F m st.heap b := fun b hb ho => by
                      have := own_lt H ho
                      omega
                    have hbT : (len + ys.length) * T.bytes ≤ 2 ^ 47 := by rw [← hlen]; exact bnd hn
                    by_cases hn0 : len = 0 ∨ 0 < ys.length
                    · obtain ⟨v', w', hr, hA⟩ := app hn0 hn
                      refine ⟨v', w', hr, ?_⟩
                      cases hA with
                      | stay h0 hn1 =>
                        have e1 : zs = [] := List.eq_nil_of_length_eq_zero (by omega)
                        have e2 : ys = [] := List.eq_nil_of_length_eq_zero hn1
                        refine ⟨m, H, Cx.Le.refl _, _, .slice base len len cells ?_ (Nat.le_refl _) hmax hT (by omega) (.inl h0) ?_, rfl⟩
                        · rw [e1, e2, h0]; rfl
                        · intro i hi
                          rw [e1, e2] at hi
                          exact absurd hi (Nat.not_lt_zero _)
                      | room h0 _ _ hle _ => omega
                      | @grow cap' arr hn1 hle hmax' hsa hta =>
                        have hB : Below w.heap.size w (w.drew.alloc (.cells arr e)) := ((Below.refl _ _).drew).alloc (Nat.le_refl _) _
                        have hle' := Le_of_below (fr := fr) (m := m) (st := st) hB
                        have hh' : (w.drew.alloc (.cells arr e)).heap[w.heap.size]? = some (.cells arr e (0, 0)) := heap_alloc_new w.drew _
                        have hz := RowIs.append hxr hnews
                        have hzl : (zs ++ ys).length = len + ys.length := by rw [List.length_append, hlen]
                        refine ⟨m, H.grow hB, hle', _, .slice (some ⟨w.heap.size, 0, none⟩) (len + ys.length) cap' (fun i => (arr.toList.drop (i * T.size)).take T.size) hzl hle hmax' hT hbT
                          (.inr ⟨_, 0, rfl, hO _ (Nat.le_refl _), fun i hi j hj => ?_⟩) ?_, rfl⟩
                        · show (w.drew.alloc (.cells arr e)).cell? _ = _
                          rw [cell_of_arr hh', Nat.zero_add, List.getElem?_take_of_lt hj, List.getElem?_drop, Array.getElem?_toList]
                        · intro i hi
                          exact ((hz.move hle'.moves).take (by rw [hzl, hta]) i hi)
                    · have hl0 : ys.length = 0 := by omega
                      have e2 : ys = [] := List.eq_nil_of_length_eq_zero hl0
                      have e3 : news = [] := List.eq_nil_of_length_eq_zero (by rw [hnl, hl0, Nat.zero_mul])
                      subst e3
                      rw [hl0] at hS
                      refine ⟨_, _, run_append_nothing w t tx ty e i ht hi base len len (Nat.le_refl _) vx hS, m, H, Cx.Le.refl _, _, .slice base len len cells ?_ (Nat.le_refl _) hmax hT hb' hat ?_, rfl⟩
                      · rw [e2, List.append_nil]; exact hlen
                      · intro i hi
                        have hi2 : i < zs.length := by rw [e2, List.append_nil] at hi; exact hi
                        have : (zs ++ ys)[i] = zs[i] := List.getElem_append_left hi2
                        rw [this]
                        exact hrep i hi2
        · cases h

end Go.Proofs.YtlkggeaibgaohaaGreatDoor.Sim
