/- append: the run, and what it leaves. -/
import Derived.Test.YtlkggeaibgaohaaGreatDoorSimR
import Derived.Deep.AppendSrc
namespace Go.Proofs.YtlkggeaibgaohaaGreatDoor.Sim
open Go Go.RowKit

def tyKind (P : Program) (tx : TypeId) : Bool :=
  match P.underlying tx with
  | some (.slice _) => true
  | some .string => true
  | _ => false

theorem SrcIs.src {P : Program} {sz n : Nat} {x : Value} {news : List Value} {w : World} (h : SrcIs P sz x n news w) {tx : TypeId} (hk : tyKind P tx = true) (hl : news.length = n * sz)
    (h1 : ∀ v ∈ news, v.oneCell' = true) : Src P sz tx x n news w := by
  refine ⟨?_, h.len, h.cells w rfl, h.cells w.drew rfl, hl, h1⟩
  unfold tyKind at hk
  split at hk
  · rename_i e he; exact .inl ⟨e, he⟩
  · rename_i he; exact .inr he
  · cases hk

/-- What an append onto an own slice, or onto one without room, leaves. -/
inductive Appended (e : TypeId) (sz : Nat) (base : Option Addr) (len cap n : Nat) (olds news : List Value) (w : World) : Value → World → Prop where
  | stay (h0 : cap = 0) (hn : n = 0) : Appended e sz base len cap n olds news w (.slice base len cap) w
  | room {b : Nat} {arr : Array Value} {ty : TypeId} (h0 : 0 < cap) (hb : base = some ⟨b, 0, none⟩) (hh : w.heap[b]? = some (.cells arr ty (0, 0))) (hle : len + n ≤ cap) (hfit : cap * sz ≤ arr.size) :
      Appended e sz base len cap n olds news w (.slice base (len + n) cap) (w.setRow b (arr.toList.take (len * sz) ++ news ++ arr.toList.drop (len * sz + news.length)).toArray)
  | grow {cap' : Nat} {arr : Array Value} (hn : 0 < n) (hle : len + n ≤ cap') (hmax : cap' ≤ maxLen) (hs : arr.size = cap' * sz) (ht : arr.toList.take ((len + n) * sz) = olds ++ news) :
      Appended e sz base len cap n olds news w (.slice (some ⟨w.heap.size, 0, none⟩) (len + n) cap') (w.drew.alloc (.cells arr e))

theorem run_appended {P : Program} {w : World} {t tx ty e : TypeId} {i : TypeInfo} {z : Value} (ht : P.underlying t = some (.slice e)) (hi : P.info? e = some i) (hz : i.zero = some z) (hzs : z.cells.size = i.size)
    (hby : 0 < i.bytes) {base : Option Addr} {len cap n : Nat} {x : Value} {olds news : List Value} (hs : Src P i.size tx x n news w)
    (hlc : len ≤ cap) (hol : olds.length = len * i.size)
    (hbase : len + n ≤ cap → cap = 0 ∨ ∃ b arr ty, 0 < cap ∧ base = some ⟨b, 0, none⟩ ∧ w.heap[b]? = some (.cells arr ty (0, 0)) ∧ cap * i.size ≤ arr.size)
    (hold : (Builtin.firstCells i.size len (.slice base len cap)).run P w.drew = .ok olds.toArray w.drew)
    (hb : (len + n) * i.bytes ≤ 140737488355328) :
    ∃ v' w', (Builtin.append_ #[t, tx] ty #[.slice base len cap, x]).run P w = .ok v' w' ∧ Appended e i.size base len cap n olds news w v' w' := by
  have hnl := hs.newsLen
  have hln : len + n ≤ (len + n) * i.bytes := Nat.le_mul_of_pos_right _ hby
  by_cases hroom : len + n ≤ cap
  · rcases hbase hroom with h0 | ⟨b, arr, ty', hcp, rfl, hh, hfit⟩
    · have hn : n = 0 := by omega
      have hl0 : len = 0 := by omega
      subst hn; subst hl0; subst h0
      refine ⟨_, _, ?_, .stay rfl rfl⟩
      have hnews : news = [] := List.eq_nil_of_length_eq_zero (by omega)
      subst hnews
      rcases hs.kind with ⟨e', hk⟩ | hk <;> cases base <;> simp [Builtin.append_, run_underlying ht, run_underlying hk, sizeOf, typeInfo, hi, hs.len, hs.cells, storeCells]
    · refine ⟨_, _, ?_, .room hcp rfl hh hroom hfit⟩
      have hst := run_storeCells_at P b (len * i.size) ty' news 0 arr w hh (by
        have h1 : (len + n) * i.size ≤ cap * i.size := Nat.mul_le_mul_right _ hroom
        rw [Nat.add_mul] at h1
        omega) hs.one
      simp only [Nat.add_zero] at hst
      rcases hs.kind with ⟨e', hk⟩ | hk <;> simp [Builtin.append_, run_underlying ht, run_underlying hk, sizeOf, typeInfo, hi, hs.len, hroom, hs.cells, add_addr, hst]
  · have hm : len + n ≤ maxLen := by simp only [maxLen]; omega
    have hr := run_append_grow_src (P := P) w t tx ty e i z ht hi hz base len cap olds hold x n news hs (by omega) (by omega) (growslice_fits (by omega) hb)
    refine ⟨_, _, hr, ?_⟩
    have hge := grownCap_ge w (len + n) cap e
    have hl : (olds ++ news).length = (len + n) * i.size := by rw [List.length_append, hol, hnl, Nat.add_mul]
    refine .grow (by omega) hge (grownCap_le_maxLen w _ _ e hm) ?_ ?_
    · simp only [Array.size_append, List.size_toArray, size_zeroCells, hzs, hl, ← Nat.add_mul]
      congr 1
      omega
    · simp only [Array.toList_append]
      rw [← hl]
      exact List.take_left

/-- Cells that hold the elements of a list, one behind the other. -/
def RowIs (O : Nat → Prop) (w : World) (e : Ty) (cells : List Value) (zs : List e.den) : Prop :=
  cells.length = zs.length * e.size ∧ ∀ i (h : i < zs.length), Rep O w e ((cells.drop (i * e.size)).take e.size) zs[i]

theorem RowIs.append {O : Nat → Prop} {w : World} {e : Ty} {cs ds : List Value} {xs ys : List e.den} (h : RowIs O w e cs xs) (k : RowIs O w e ds ys) : RowIs O w e (cs ++ ds) (xs ++ ys) := by
  refine ⟨by rw [List.length_append, List.length_append, h.1, k.1, Nat.add_mul], fun i hi => ?_⟩
  by_cases hx : i < xs.length
  · have : (i + 1) * e.size ≤ xs.length * e.size := Nat.mul_le_mul_right _ hx
    rw [Nat.succ_mul] at this
    rw [List.getElem_append_left hx, List.drop_append_of_le_length (by rw [h.1]; omega), List.take_append_of_le_length (by rw [List.length_drop, h.1]; omega)]
    exact h.2 i hx
  · have hx' : xs.length ≤ i := by omega
    have hy : i - xs.length < ys.length := by rw [List.length_append] at hi; omega
    rw [List.getElem_append_right hx']
    have e1 : i * e.size = cs.length + (i - xs.length) * e.size := by rw [h.1, ← Nat.add_mul]; congr 1; omega
    rw [e1, drop_add_append]
    exact k.2 _ hy

theorem RowIs.take {O : Nat → Prop} {w : World} {e : Ty} {cells : List Value} {zs : List e.den} (h : RowIs O w e cells zs) {l : List Value} (hl : l.take (zs.length * e.size) = cells) (i : Nat) (hi : i < zs.length) :
    Rep O w e ((l.drop (i * e.size)).take e.size) zs[i] := by
  have hk := h.2 i hi
  rw [← hl] at hk
  have : (i + 1) * e.size ≤ zs.length * e.size := Nat.mul_le_mul_right _ hi
  rw [Nat.succ_mul] at this
  have hseg := take_seg l 0 (zs.length * e.size) (i * e.size) e.size this
  rw [List.drop_zero, Nat.zero_add] at hseg
  rw [hseg] at hk
  exact hk

theorem RowIs.move {O O' : Nat → Prop} {w w' : World} (hm : Moves O w O' w') {e : Ty} {cells : List Value} {zs : List e.den} (h : RowIs O w e cells zs) : RowIs O' w' e cells zs :=
  ⟨h.1, fun i hi => (h.2 i hi).move hm⟩

/-- The element type of a slice type; its code; the bytes of one. -/
def elemOf (G : Pg) (t : TypeId) : Option (TypeId × Ty × Nat) :=
  match G.P.underlying t with
  | some (.slice e) => match G.ty e, G.P.info? e with
    | some T, some i => match i.zero with
      | some z => cond (Nat.beq z.cells.size i.size && (Nat.blt 0 T.size && Nat.blt 0 i.bytes)) (some (e, T, i.bytes)) none
      | none => none
    | _, _ => none
  | _ => none

theorem elemOf_some {G : Pg} {t e : TypeId} {T : Ty} {by' : Nat} (h : elemOf G t = some (e, T, by')) :
    G.P.underlying t = some (.slice e) ∧ ∃ i z, G.P.info? e = some i ∧ i.zero = some z ∧ z.cells.size = i.size ∧ i.size = T.size ∧ 0 < T.size ∧ 0 < by' ∧ i.bytes = by' ∧ T.bytes ≤ by' ∧ G.ty e = some T := by
  unfold elemOf at h
  split at h
  · rename_i e' he
    cases hT : G.ty e' with
    | none => rw [hT] at h; cases h
    | some T' =>
      cases hi : G.P.info? e' with
      | none => rw [hT, hi] at h; cases h
      | some i =>
        rw [hT, hi] at h
        simp only at h
        cases hz : i.zero with
        | none => rw [hz] at h; cases h
        | some z =>
          rw [hz] at h
          simp only at h
          cases hc : (Nat.beq z.cells.size i.size && (Nat.blt 0 T'.size && Nat.blt 0 i.bytes)) with
          | false => rw [hc] at h; cases h
          | true =>
            rw [hc] at h
            simp only [cond_true, Option.some.injEq, Prod.mk.injEq] at h
            obtain ⟨rfl, rfl, rfl⟩ := h
            rw [Bool.and_eq_true, Bool.and_eq_true] at hc
            obtain ⟨i', hi', h1, h2⟩ := G.info hT
            rw [hi] at hi'
            cases hi'
            exact ⟨he, i, z, hi, hz, Nat.eq_of_beq_eq_true hc.1, h1, Nat.lt_of_succ_le (Nat.le_of_ble_eq_true hc.2.1), Nat.lt_of_succ_le (Nat.le_of_ble_eq_true hc.2.2), rfl, h2, hT⟩
  · cases h

/-- append; 'own': the row that comes back is to be the call's own. -/
def appendE (G : Pg) (st : St) (own : Bool) (t tx : TypeId) (s x : AV) : Option (Comp Eff) :=
  match elemOf G t with
  | some (_, T, by') => cond (tyKind G.P tx) (match srcVals st.heap T x with
    | some ys => match s with
      | .view id e1 lo len => match find st.heap id with
        | some (.row e2 xs) => cond (Ty.eqb e1 e2 && Nat.beq lo 0) (match Ty.cast (a := .slice e2) (.slice T) xs with
          | some (zs : List T.den) => some ⟨Unit, (), cond (Nat.beq len zs.length && Nat.ble ((zs.length + ys.length) * by') 140737488355328) (some ()) none,
              fun _ => (.view st.nx T 0 (zs ++ ys).length, (st.nx, .row T (zs ++ ys)) :: erase id st.heap, st.nx + 1)⟩
          | none => none) none
        | _ => none
      | .const (.slice none 0 0) => some ⟨Unit, (), cond (Nat.ble (ys.length * by') 140737488355328) (some ()) none,
          fun _ => (.view st.nx T 0 ys.length, (st.nx, .row T ys) :: st.heap, st.nx + 1)⟩
      | .imm (.tslice e1) xs => match Ty.cast (a := .slice e1) (.slice T) xs with
        | some (zs : List T.den) => cond own
          (some ⟨Unit, (), cond ((Nat.beq zs.length 0 || Nat.blt 0 ys.length) && Nat.ble ((zs.length + ys.length) * by') 140737488355328) (some ()) none,
              fun _ => (.view st.nx T 0 (zs ++ ys).length, (st.nx, .row T (zs ++ ys)) :: st.heap, st.nx + 1)⟩)
          (some ⟨Unit, (), cond (Nat.ble ((zs.length + ys.length) * by') 140737488355328) (some ()) none,
              fun _ => (.imm (.slice T) (zs ++ ys), st.heap, st.nx)⟩)
        | none => none
      | _ => none
    | none => none) none
  | none => none

theorem upd_self (m : Nat → Option Nat × Nat) (n : Nat) (p : Option Nat × Nat) : upd m n p n = p := by unfold upd; rw [if_pos rfl]

/-- The new row's object, and the slice of it. -/
theorem appended_row {O : Nat → Prop} {w : World} {e : TypeId} {T : Ty} {base : Option Addr} {len cap n : Nat} {olds news : List Value} {v' : Value} {w' : World} {xs ys : List T.den}
    (h : Appended e T.size base len cap n olds news w v' w') (hx : RowIs O w T olds xs) (hy : RowIs O w T news ys) (hlx : xs.length = len) (hly : ys.length = n) (hsz : 0 < T.size) (hby : (xs ++ ys).length * T.bytes ≤ 2 ^ 47)
    (hlc : len ≤ cap) (hcm : cap ≤ maxLen) (holds : len + n ≤ cap → ∀ b arr ty, base = some ⟨b, 0, none⟩ → w.heap[b]? = some (.cells arr ty (0, 0)) → 0 < cap → arr.toList.take (len * T.size) = olds) :
    ∃ p : Option Nat × Nat, ((Below w.heap.size w w' ∧ ∀ b, p.1 = some b → w.heap.size ≤ b) ∨ ∃ b, base = some ⟨b, 0, none⟩ ∧ p.1 = some b ∧ (0 < cap ∧ len + n ≤ cap) ∧ Turns (fun k => k = b) w w') ∧
      (∀ d : Cx, d.w = w' → Moves O w d.O d.w → OBR d p (.row T (xs ++ ys))) ∧
      ∀ d : Cx, ∀ id, d.w = w' → id < d.nx → d.m id = p → AVR d (.view id T 0 (xs ++ ys).length) [v'] := by
  have hz := RowIs.append hx hy
  have hzl : (xs ++ ys).length = len + n := by rw [List.length_append, hlx, hly]
  cases h with
  | stay h0 hn =>
    have hl0 : len = 0 := by omega
    have hz0 : xs ++ ys = [] := List.eq_nil_of_length_eq_zero (by omega)
    refine ⟨(none, 0), .inl ⟨Below.refl _ _, fun b hb => by cases hb⟩, fun d _ _ => ⟨hsz, by rw [hz0]; rfl, hby, .inl ⟨rfl, hz0⟩⟩, fun d id hw hid hm => ?_⟩
    rw [hzl]
    exact ⟨hid, by rw [hm]; show 0 + (len + n) ≤ 0; omega, hsz, .inl ⟨by rw [hm], ⟨base, by rw [hl0, h0]⟩, rfl, by omega⟩⟩
  | @room b arr ty h0 hb hh hle hfit =>
    have hol := holds hle b arr ty hb hh h0
    have hln : len * T.size + news.length ≤ arr.size := by
      rw [hy.1, hly, ← Nat.add_mul]
      exact Nat.le_trans (Nat.mul_le_mul_right _ hle) hfit
    have hsize : (arr.toList.take (len * T.size) ++ news ++ arr.toList.drop (len * T.size + news.length)).toArray.size = arr.size := by
      simp only [List.size_toArray, List.length_append, List.length_take, List.length_drop, Array.length_toList]; omega
    have hh' := setRow_heap w b arr (arr.toList.take (len * T.size) ++ news ++ arr.toList.drop (len * T.size + news.length)).toArray ty (0, 0) hh
    refine ⟨(some b, len + n), .inr ⟨b, hb, rfl, ⟨h0, hle⟩, Turns.setRow hh hsize⟩, fun d hw hm => ?_, fun d id hw hid hm => ?_⟩
    · refine ⟨hsz, hzl, hby, .inr ⟨b, _, ty, rfl, by rw [hw]; exact hh', ?_, fun i hi => ?_⟩⟩
      · rw [hsize, hzl]
        exact Nat.le_trans (Nat.mul_le_mul_right _ hle) hfit
      · refine (hz.move hm).take ?_ i hi
        rw [hol, ← hz.1]
        exact List.take_left
    · rw [hzl]
      refine ⟨hid, by rw [hm]; show 0 + (len + n) ≤ len + n; omega, hsz, .inr ⟨b, cap, ty, arr.size, base, by rw [hm], rfl, hle, hcm, ?_, ?_, .inr ?_⟩⟩
      · rw [hw]
        unfold World.shape?
        rw [hh']
        simp only [hsize]
      · rw [Nat.zero_add]; exact hfit
      · rw [Nat.zero_mul]; exact hb
  | @grow cap' arr hn hle hmax hs ht =>
    have hh' : (w.drew.alloc (.cells arr e)).heap[w.heap.size]? = some (.cells arr e (0, 0)) := heap_alloc_new w.drew _
    refine ⟨(some w.heap.size, len + n), .inl ⟨?_, fun b hb => by cases hb; exact Nat.le_refl _⟩, fun d hw hm => ?_, fun d id hw hid hm => ?_⟩
    · exact ((Below.refl _ _).drew).alloc (Nat.le_refl _) _
    · refine ⟨hsz, hzl, hby, .inr ⟨_, arr, e, rfl, by rw [hw]; exact hh', ?_, fun i hi => ?_⟩⟩
      · rw [hs, hzl]
        exact Nat.mul_le_mul_right _ hle
      · refine (hz.move hm).take ?_ i hi
        rw [hzl, ht]
    · rw [hzl]
      refine ⟨hid, by rw [hm]; show 0 + (len + n) ≤ len + n; omega, hsz, .inr ⟨_, cap', e, arr.size, _, by rw [hm], rfl, hle, hmax, ?_, ?_, .inr ?_⟩⟩
      · rw [hw]
        unfold World.shape?
        rw [hh']
      · rw [Nat.zero_add, hs]; exact Nat.le_refl _
      · rw [Nat.zero_mul]

end Go.Proofs.YtlkggeaibgaohaaGreatDoor.Sim
