/- make of slices. -/
import Derived.Test.YtlkggeaibgaohaaGreatDoorSimWA
namespace Go.Proofs.YtlkggeaibgaohaaGreatDoor.Sim
open Go Go.RowKit

def makeE (G : Pg) (st : St) (t : TypeId) (l c : AV) : Option (Comp Eff) :=
  match elemOf G t, l, c with
  | some (e, T, by'), .imm (.int _) (l : Int), .imm (.int _) (c : Int) => cond (zeroIs G.P e T)
      (some ⟨Unit, (), cond (decide (0 ≤ l) && (decide (l ≤ c) && decide (c * by' ≤ 140737488355328))) (some ()) none,
        fun _ => (.view st.nx T 0 (List.replicate l.toNat T.dflt).length, (st.nx, .row T (List.replicate l.toNat T.dflt)) :: st.heap, st.nx + 1)⟩) none
  | _, _, _ => none

theorem made_chunk (z : Array Value) (sz n i : Nat) (hz : z.size = sz) (hsz : 0 < sz) (hi : (i + 1) * sz ≤ n) : ((madeCells z n).toList.drop (i * sz)).take sz = z.toList := by
  apply List.ext_getElem?
  intro j
  rw [Nat.succ_mul] at hi
  by_cases hj : j < sz
  · rw [List.getElem?_take_of_lt hj, List.getElem?_drop]
    have e : (i * sz + j) % sz = j := by rw [Nat.add_comm, Nat.add_mul_mod_self_right, Nat.mod_eq_of_lt hj]
    have hlt : i * sz + j < n := by omega
    simp only [madeCells, Array.toList_map, Array.toList_range, List.getElem?_map, List.getElem?_range hlt, Option.map_some, hz, e]
    rw [getElem!_pos z j (by omega), Array.getElem?_toList, Array.getElem?_eq_getElem (by omega)]
  · rw [List.getElem?_eq_none (by rw [List.length_take]; omega), List.getElem?_eq_none (by rw [Array.length_toList]; omega)]

theorem makeE_sound (G : Pg) {fr : Frm} {m : Nat → Option Nat × Nat} {st : St} {w : World} (H : HeapOk fr m st w) {t : TypeId} {l c : AV} {cp : Comp Eff} (h : makeE G st t l c = some cp) {u : cp.X} (hu : cp.c = some u)
    {vl vc : Value} (hl : AVR (cx fr m st w) l [vl]) (hc : AVR (cx fr m st w) c [vc]) : ∃ v w', (Instr.makeSlice t vl vc).run G.P w = .ok v w' ∧ EffOk fr m st w (cp.out u) v w' := by
  unfold makeE at h
  split at h
  · rename_i e T by' kl l kc c he
    cases hz0 : zeroIs G.P e T with
    | false => rw [hz0] at h; cases h
    | true =>
      rw [hz0] at h
      simp only [cond_true, Option.some.injEq] at h
      subst h
      simp only at hu
      cases hb : (decide (0 ≤ l) && (decide (l ≤ c) && decide (c * by' ≤ 140737488355328))) with
      | false => rw [hb] at hu; cases hu
      | true =>
        simp only [Bool.and_eq_true, decide_eq_true_eq] at hb
        obtain ⟨b1, b2, b3⟩ := hb
        obtain ⟨ht, i, z, hi, hz, hzs, his, hT, hby, hib, hTb, hGe⟩ := elemOf_some he
        obtain ⟨rfl, _⟩ := imm_int hl
        obtain ⟨rfl, hck⟩ := imm_int hc
        have hcby : c ≤ c * by' := by
          have : c * 1 ≤ c * (by' : Int) := Int.mul_le_mul_of_nonneg_left (by omega) (by omega)
          omega
        have hr := run_make (P := G.P) w t e i z ht hi hz kl kc l c b1 b2 (by rw [hib, Int.mul_comm]; omega) (by omega)
        refine ⟨_, _, hr, ?_⟩
        have hB : Below w.heap.size w (w.alloc (.cells (madeCells z.cells (c.toNat * i.size)) e)) := (Below.refl _ _).alloc (Nat.le_refl _) _
        have hh : (w.alloc (.cells (madeCells z.cells (c.toNat * i.size)) e)).heap[w.heap.size]? = some (.cells (madeCells z.cells (c.toNat * i.size)) e (0, 0)) := heap_alloc_new w _
        have hms : (madeCells z.cells (c.toNat * i.size)).size = c.toNat * T.size := by rw [size_madeCells, his]
        have hzr : ∀ (O : Nat → Prop) (w : World), Rep O w T z.cells.toList T.dflt := fun O w => by
          obtain ⟨v, hv, hrep⟩ := zeroIs_sound hz0 O w
          have : v = z := by
            simp only [zeroValue, typeInfo, Sem.run_bind, run_program, hi, Result.andThen, Sem.run_pure, hz] at hv
            simpa using hv.symm
          subst this
          exact hrep
        have hlc : l.toNat * T.size ≤ c.toNat * T.size := Nat.mul_le_mul_right _ (by omega)
        have hcn : (c.toNat : Int) = c := by omega
        have hbb : c.toNat * by' ≤ 140737488355328 := by
          have : ((c.toNat * by' : Nat) : Int) ≤ 140737488355328 := by rw [Int.natCast_mul, hcn]; exact b3
          omega
        refine own_new H (p := (some w.heap.size, l.toNat)) hB (fun b hb => by cases hb; exact Nat.le_refl _) (fun d hw hm => ?_) (fun d id hw hid hm => ?_)
        · refine ⟨hT, by simp, ?_, .inr ⟨w.heap.size, _, e, rfl, by rw [hw]; exact hh, ?_, fun j hj => ?_⟩⟩
          · rw [List.length_replicate]
            have h1 : l.toNat * T.bytes ≤ c.toNat * by' := Nat.mul_le_mul (by omega) hTb
            omega
          · rw [List.length_replicate, hms]; exact hlc
          · rw [List.length_replicate] at hj
            have hj2 : (j + 1) * T.size ≤ c.toNat * i.size := by rw [his]; exact Nat.le_trans (Nat.mul_le_mul_right _ (by omega : j + 1 ≤ l.toNat)) hlc
            rw [made_chunk z.cells T.size _ j (by rw [hzs, his]) hT hj2, List.getElem_replicate]
            exact hzr _ _
        · refine ⟨hid, by rw [hm]; simp, hT, .inr ⟨w.heap.size, c.toNat, e, (madeCells z.cells (c.toNat * i.size)).size, _, by rw [hm], by rw [List.length_replicate], by rw [List.length_replicate]; omega, ?_, ?_, ?_, .inr ?_⟩⟩
          · simp only [maxLen]
            have : c.toNat ≤ c.toNat * by' := Nat.le_mul_of_pos_right _ hby
            omega
          · rw [hw]
            unfold World.shape?
            rw [hh]
          · rw [hms, Nat.zero_add]; exact Nat.le_refl _
          · rw [Nat.zero_mul]
  · cases h

end Go.Proofs.YtlkggeaibgaohaaGreatDoor.Sim
