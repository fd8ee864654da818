/- Stores. -/
import Derived.Test.YtlkggeaibgaohaaGreatDoorSimP
namespace Go.Proofs.YtlkggeaibgaohaaGreatDoor.Sim
open Go Go.RowKit

theorem oneCell_of_cell {w : World} {O : Nat → Prop} {t : Ty} {cs : List Value} {x : t.den} (h : Rep O w t cs x) : ∀ v ∈ cs, v.oneCell' = true := by
  induction h with
  | int _ => intro v hv; simp only [List.mem_singleton] at hv; subst hv; rfl
  | bool _ => intro v hv; simp only [List.mem_singleton] at hv; subst hv; rfl
  | str _ => intro v hv; simp only [List.mem_singleton] at hv; subst hv; rfl
  | unit => intro v hv; cases hv
  | pair _ _ ih1 ih2 => intro v hv; rcases List.mem_append.1 hv with h | h; exact ih1 v h; exact ih2 v h
  | struct _ ih => exact ih
  | slice => intro v hv; simp only [List.mem_singleton] at hv; subst hv; rfl
  | tslice _ ih => exact ih
  | arr cells hn _ ih =>
    intro v hv
    obtain ⟨i, hi, hv⟩ := List.mem_flatMap.1 hv
    exact ih i (by rw [hn]; simpa using hi) v hv
  | named _ ih => exact ih

/-- Cells that may stand in memory: no aggregate, no tuple. -/
def oneCells : AV → Bool
  | .nil => true
  | .cons h t => (match h with
    | .imm T _ => T.isLeaf
    | .const v => v.oneCell'
    | .iptr _ _ => true
    | .ptr _ _ => true
    | .eptr _ _ _ _ => true
    | .view _ _ _ _ => true
    | .aptr _ _ => true
    | .fn _ _ => true
    | _ => false) && oneCells t
  | _ => false
theorem oneCells_sound {c : Cx} : ∀ {l : AV} {vs : List Value}, oneCells l = true → AVR c l vs → ∀ v ∈ vs, v.oneCell' = true := by
  intro l
  induction l with
  | nil => intro vs _ h; match vs, h with | [], _ => intro v hv; cases hv
  | cons a r iha ih =>
    clear iha
    intro vs ho h
    simp only [oneCells, Bool.and_eq_true] at ho
    match vs, h with
    | u :: us, ⟨h1, h2⟩ =>
      intro v hv
      rcases List.mem_cons.1 hv with rfl | hv
      · cases a <;> simp only [reduceCtorEq] at ho
        case imm T x =>
          obtain ⟨cs, hr, hh⟩ := h1
          obtain ⟨z, rfl⟩ := hr.leaf (Ty.leaf_size ho.1).1
          rw [(Ty.leaf_size ho.1).2] at hh
          simp only [Bool.false_eq_true, if_false, List.headD_cons] at hh
          subst hh
          exact oneCell_of_cell hr _ (List.mem_singleton.2 rfl)
        case const z =>
          have : v = z := h1
          rw [this]; exact ho.1
        case iptr => obtain ⟨b, off, cs, e, _⟩ := h1; rw [e]; rfl
        case ptr => obtain ⟨_, b, _, e⟩ := h1; rw [e]; rfl
        case eptr => obtain ⟨_, _, b, d, _, _, e⟩ := h1; rw [e]; rfl
        case view => obtain ⟨_, _, _, ⟨_, ⟨_, e⟩, _⟩ | ⟨b, cap, ty, n, base, _, e, _⟩⟩ := h1 <;> (rw [e]; rfl)
        case aptr => obtain ⟨_, b, _, e⟩ := h1; rw [e]; rfl
        case fn => obtain ⟨cs, e, _⟩ := h1; rw [e]; rfl
        all_goals (exact absurd ho.1 (by simp))
      · exact ih ho.2 h2 v hv
  | _ => intro vs ho; cases ho

/-- The list with other elements from a number on. -/
def AV.splice : Nat → AV → AV → Option AV
  | 0, .nil, l => some l
  | 0, .cons v r, .cons _ t => match AV.splice 0 r t with
    | some q => some (.cons v q)
    | none => none
  | n + 1, vs, .cons h t => match AV.splice n vs t with
    | some q => some (.cons h q)
    | none => none
  | _, _, _ => none

theorem AV.splice_sound {c : Cx} : ∀ {l vs q : AV} {n : Nat} {ls us : List Value}, AV.splice n vs l = some q → AVR c vs us → AVR c l ls →
    n + us.length ≤ ls.length ∧ AVR c q (ls.take n ++ us ++ ls.drop (n + us.length)) := by
  intro l
  induction l with
  | nil =>
    intro vs q n ls us h hv hl
    match ls, hl with
    | [], _ =>
      cases n with
      | zero =>
        cases vs <;> simp only [AV.splice, Option.some.injEq, reduceCtorEq] at h
        subst h
        match us, hv with
        | [], _ => exact ⟨by simp, trivial⟩
      | succ n => simp [AV.splice] at h
  | cons x r _ ih =>
    intro vs q n ls us h hv hl
    match ls, hl with
    | y :: ys, ⟨h1, h2⟩ =>
      cases n with
      | zero =>
        cases vs <;> simp only [AV.splice, Option.some.injEq, reduceCtorEq] at h
        · subst h
          match us, hv with
          | [], _ => exact ⟨by simp, h1, h2⟩
        · rename_i v vr
          cases hq : AV.splice 0 vr r with
          | none => rw [hq] at h; cases h
          | some q' =>
            rw [hq] at h
            simp only [Option.some.injEq] at h
            subst h
            match us, hv with
            | u :: us, ⟨k1, k2⟩ =>
              obtain ⟨e1, e2⟩ := ih hq k2 h2
              simp only [Nat.zero_add, List.take_zero, List.nil_append] at e1 e2
              refine ⟨by simp only [List.length_cons]; omega, k1, ?_⟩
              simp only [Nat.zero_add, List.length_cons, List.drop_succ_cons]
              exact e2
      | succ n =>
        simp only [AV.splice] at h
        cases hq : AV.splice n vs r with
        | none => rw [hq] at h; cases h
        | some q' =>
          rw [hq] at h
          simp only [Option.some.injEq] at h
          subst h
          obtain ⟨e1, e2⟩ := ih hq hv h2
          refine ⟨by simp only [List.length_cons]; omega, ?_⟩
          have : n + 1 + us.length = (n + us.length) + 1 := by omega
          rw [this]
          simp only [List.take_succ_cons, List.drop_succ_cons, List.cons_append]
          exact ⟨h1, e2⟩
  | _ =>
    intro vs q n ls us h hv hl
    cases n <;> cases vs <;> simp only [AV.splice, Option.some.injEq, reduceCtorEq] at h
    · subst h
      match us, hv with
      | [], _ => exact ⟨by simp, by simpa using hl⟩

def avLen : AV → Nat
  | .cons _ t => avLen t + 1
  | _ => 0
theorem avLen_sound {c : Cx} : ∀ {l : AV} {vs : List Value}, isList l = true → AVR c l vs → vs.length = avLen l := by
  intro l
  induction l with
  | nil => intro vs _ h; match vs, h with | [], _ => rfl
  | cons x r _ ih =>
    intro vs hl h
    match vs, h with
    | v :: vs, ⟨_, h2⟩ => simp only [List.length_cons, avLen]; rw [ih hl h2]
  | _ => intro vs hl; cases hl

def sizeIs (P : Program) (t : TypeId) (n : Nat) : Bool :=
  match P.info? t with
  | some i => Nat.beq i.size n
  | none => false

def storeE (G : Pg) (st : St) (t : TypeId) (a v : AV) : Option (Comp Eff) :=
  match a with
  | .ptr id off => match find st.heap id, v.cells with
    | some (.cells l), some vs => cond (oneCells vs && isList vs && sizeIs G.P t (avLen vs)) (match AV.splice off vs l with
      | some q => some (just (.const undef, (id, .cells q) :: st.heap, st.nx))
      | none => none) none
    | _, _ => none
  | .eptr id e i p => match find st.heap id, G.ty t with
    | some (.row e' xs), some T => cond (Ty.eqb e e') (match v.get [] T with
      | some y => match Ty.put e' (xs.getD i e'.dflt) p T y with
        | some z => some (just (.const undef, (id, .row e' (List.set xs i z)) :: st.heap, st.nx))
        | none => none
      | none => none) none
    | _, _ => none
  | _ => none

theorem Rep.putAt {O : Nat → Prop} {w : World} : ∀ {t : Ty} {cs : List Value} {x z : t.den} {p : List Stp} {s : Ty} {y : s.den} {us : List Value}, Rep O w t cs x → Ty.put t x p s y = some z → Rep O w s us y →
    ∃ d, Ty.sub t p = some (d, s) ∧ d + s.size ≤ t.size ∧ Rep O w t (cs.take d ++ us ++ cs.drop (d + s.size)) z := by
  have here : ∀ {t : Ty} {cs : List Value} {x z : t.den} {s : Ty} {y : s.den} {us : List Value}, Rep O w t cs x → Ty.cast t y = some z → Rep O w s us y →
      ∃ d, (some (0, t) : Option (Nat × Ty)) = some (d, s) ∧ d + s.size ≤ t.size ∧ Rep O w t (cs.take d ++ us ++ cs.drop (d + s.size)) z := by
    intro t cs x z s y us hr hc hu
    obtain ⟨e, rfl⟩ := Ty.cast_some hc
    subst e
    refine ⟨0, rfl, by omega, ?_⟩
    have hl := hr.length
    rw [List.take_zero, List.nil_append, List.drop_of_length_le (by omega), List.append_nil]
    exact hu
  intro t
  induction t with
  | pair a b iha ihb =>
    intro cs x z p s y us hr hp hu
    cases p with
    | nil => exact here hr (by simpa only [Ty.put] using hp) hu
    | cons c p =>
      cases hr with
      | pair r1 r2 =>
        have l1 := r1.length
        have l2 := r2.length
        have l3 := hu.length
        cases c with
        | fst =>
          simp only [Ty.put] at hp
          cases hq : Ty.put a _ p s y with
          | none => rw [hq] at hp; cases hp
          | some q =>
            rw [hq] at hp
            simp only [Option.map_some, Option.some.injEq] at hp
            subst hp
            obtain ⟨d, h1, h2, h3⟩ := iha r1 hq hu
            refine ⟨d, by simpa only [Ty.sub] using h1, by simp only [Ty.size]; omega, ?_⟩
            rw [List.take_append_of_le_length (by omega), List.drop_append_of_le_length (by omega), ← List.append_assoc]
            exact .pair h3 r2
        | snd =>
          simp only [Ty.put] at hp
          cases hq : Ty.put b _ p s y with
          | none => rw [hq] at hp; cases hp
          | some q =>
            rw [hq] at hp
            simp only [Option.map_some, Option.some.injEq] at hp
            subst hp
            obtain ⟨d, h1, h2, h3⟩ := ihb r2 hq hu
            refine ⟨a.size + d, by simp only [Ty.sub, h1, Option.map_some], by simp only [Ty.size]; omega, ?_⟩
            rw [← l1, List.take_append, List.take_of_length_le (by omega), Nat.add_sub_cancel_left, Nat.add_assoc, drop_add_append, List.append_assoc, List.append_assoc]
            refine .pair r1 ?_
            rw [← List.append_assoc]
            exact h3
        | fld => simp [Ty.put] at hp
  | struct b ih =>
    intro cs x z p s y us hr hp hu
    cases p with
    | nil => exact here hr (by simpa only [Ty.put] using hp) hu
    | cons c p =>
      cases hr with
      | struct hr =>
        cases c with
        | fld =>
          obtain ⟨d, h1, h2, h3⟩ := ih hr (by simpa only [Ty.put] using hp) hu
          exact ⟨d, by simpa only [Ty.sub] using h1, by simpa only [Ty.size] using h2, .struct h3⟩
        | fst => simp [Ty.put] at hp
        | snd => simp [Ty.put] at hp
  | _ =>
    intro cs x z p s y us hr hp hu
    cases p with
    | nil => exact here hr (by simpa only [Ty.put] using hp) hu
    | cons c p => simp [Ty.put] at hp

theorem splice_mid (P S R us : List Value) (d n : Nat) (hd : d + n ≤ S.length) :
    (P ++ (S ++ R)).take (P.length + d) ++ us ++ (P ++ (S ++ R)).drop (P.length + d + n) = P ++ ((S.take d ++ us ++ S.drop (d + n)) ++ R) := by
  rw [List.take_append, List.take_of_length_le (by omega), Nat.add_sub_cancel_left, List.take_append_of_le_length (by omega), Nat.add_assoc, drop_add_append, List.drop_append_of_le_length hd]
  simp only [List.append_assoc]

theorem seg_mid (P M R : List Value) : ((P ++ (M ++ R)).drop P.length).take M.length = M := by
  rw [List.drop_left, List.take_left]
theorem seg_left (P M R : List Value) (k n : Nat) (h : k + n ≤ P.length) : ((P ++ (M ++ R)).drop k).take n = (P.drop k).take n := drop_take_left _ _ _ _ h
theorem seg_right (P M R : List Value) (k n : Nat) (h : P.length + M.length ≤ k) : ((P ++ (M ++ R)).drop k).take n = (R.drop (k - (P.length + M.length))).take n := by
  have : k = P.length + (M.length + (k - (P.length + M.length))) := by omega
  conv => lhs; rw [this]
  rw [drop_add_append, drop_add_append]

/-- A part of an element is written: that element's cells, and those of the others. -/
theorem elem_cells (L us : List Value) (i sz d n : Nat) (hu : us.length = n) (hd : d + n ≤ sz) (hfit : i * sz + sz ≤ L.length) :
    ((L.take (i * sz + d) ++ us ++ L.drop (i * sz + d + n)).drop (i * sz)).take sz = ((L.drop (i * sz)).take sz).take d ++ us ++ ((L.drop (i * sz)).take sz).drop (d + n) ∧
    ∀ j, j ≠ i → ((L.take (i * sz + d) ++ us ++ L.drop (i * sz + d + n)).drop (j * sz)).take sz = (L.drop (j * sz)).take sz := by
  have hP : (L.take (i * sz)).length = i * sz := by rw [List.length_take]; omega
  have hS : ((L.drop (i * sz)).take sz).length = sz := by rw [List.length_take, List.length_drop]; omega
  have hL : L = L.take (i * sz) ++ ((L.drop (i * sz)).take sz ++ L.drop (i * sz + sz)) := by
    rw [← List.drop_drop, List.take_append_drop, List.take_append_drop]
  generalize L.take (i * sz) = P at *
  generalize (L.drop (i * sz)).take sz = S at *
  generalize L.drop (i * sz + sz) = R at *
  subst hL
  have e := splice_mid P S R us d n (by omega)
  rw [hP] at e
  rw [e]
  have hM : (S.take d ++ us ++ S.drop (d + n)).length = sz := by
    simp only [List.length_append, List.length_take, List.length_drop, hS, hu]; omega
  refine ⟨?_, fun j hj => ?_⟩
  · have := seg_mid P (S.take d ++ us ++ S.drop (d + n)) R
    rw [hP, hM] at this
    exact this
  · rcases Nat.lt_or_gt_of_ne hj with h | h
    · have : (j + 1) * sz ≤ i * sz := Nat.mul_le_mul_right _ h
      rw [Nat.succ_mul] at this
      rw [seg_left _ _ _ _ _ (by omega), seg_left _ _ _ _ _ (by omega)]
    · have : (i + 1) * sz ≤ j * sz := Nat.mul_le_mul_right _ h
      rw [Nat.succ_mul] at this
      rw [seg_right _ _ _ _ _ (by omega), seg_right _ _ _ _ _ (by omega), hM, hS]

theorem run_storeAt {P : Program} {t : TypeId} {b off : Nat} {arr : Array Value} {ty : TypeId} {w : World} {v : Value} (hg : w.heap[b]? = some (.cells arr ty (0, 0))) (hs : sizeIs P t v.cells.size = true)
    (hfit : off + v.cells.size ≤ arr.size) (h1 : ∀ x ∈ v.cells.toList, x.oneCell' = true) :
    (Instr.storeAt t (.pointer (some ⟨b, off, none⟩)) v).run P w = .ok () (w.setRow b (arr.toList.take off ++ v.cells.toList ++ arr.toList.drop (off + v.cells.size)).toArray) := by
  unfold sizeIs at hs
  cases hi : P.info? t with
  | none => rw [hi] at hs; cases hs
  | some i =>
    rw [hi] at hs
    have hsz := Nat.eq_of_beq_eq_true hs
    have := run_storeCells_at P b off ty v.cells.toList 0 arr w hg (by simpa using hfit) h1
    simp only [Nat.add_zero, Array.length_toList] at this
    simp [Instr.storeAt, Instr.sureAddr, storeVar, sizeOf, typeInfo, hi, hsz, this]

theorem Turns.setRow {w : World} {b : Nat} {arr arr' : Array Value} {ty : TypeId} (h : w.heap[b]? = some (.cells arr ty (0, 0))) (hs : arr'.size = arr.size) : Turns (fun k => k = b) w (w.setRow b arr') where
  os := rfl
  tape := rfl
  output := rfl
  size := by simp
  keep := fun k _ hk => setRow_other w b k arr' hk
  shape := fun k s hks => by
    by_cases e : k = b
    · subst e
      simp only [World.shape?, h, Option.some.injEq] at hks
      simp only [World.shape?, setRow_heap w k arr arr' ty (0, 0) h]
      rw [← hks, hs]
    · rw [← hks]
      simp only [World.shape?, setRow_other w b k arr' e]
  froz := fun k _ off => by
    by_cases e : k = b
    · subst e
      simp only [World.frozen?, h, setRow_heap w k arr arr' ty (0, 0) h]
    · simp only [World.frozen?, setRow_other w b k arr' e]

theorem storeE_sound (G : Pg) {fr : Frm} {m : Nat → Option Nat × Nat} {st : St} {w : World} (H : HeapOk fr m st w) {t : TypeId} {a v : AV} {cp : Comp Eff} (h : storeE G st t a v = some cp) {u : cp.X}
    {va vv : Value} (ha : AVR (cx fr m st w) a [va]) (hv : AVR (cx fr m st w) v [vv]) :
    ∃ w', (Instr.storeAt t va vv).run G.P w = .ok () w' ∧ EffOk fr m st w (cp.out u) undef w' := by
  cases a <;> try (cases h; done)
  case ptr id off =>
    simp only [storeE] at h
    cases hf : find st.heap id with
    | none => rw [hf] at h; cases h
    | some o =>
      rw [hf] at h
      cases o with
      | row _ _ => cases h
      | cells l =>
        cases hc : v.cells with
        | none => rw [hc] at h; cases h
        | some vs =>
          rw [hc] at h
          simp only at h
          cases hok : (oneCells vs && isList vs && sizeIs G.P t (avLen vs)) with
          | false => rw [hok] at h; cases h
          | true =>
            rw [hok] at h
            simp only [cond_true] at h
            rw [Bool.and_eq_true, Bool.and_eq_true] at hok
            obtain ⟨⟨k1, k2⟩, k3⟩ := hok
            cases hs : AV.splice off vs l with
            | none => rw [hs] at h; cases h
            | some q =>
              rw [hs] at h
              simp only [Option.some.injEq] at h
              subst h
              obtain ⟨hid, b, hb, rfl⟩ := ha
              obtain ⟨hlt, b', arr, ty, hb', hh, hl⟩ := H.obj id _ hf
              have e0 : some b = some b' := hb.symm.trans hb'
              cases e0
              have hh' : w.heap[b]? = some (.cells arr ty (0, 0)) := hh
              obtain ⟨hvs, _⟩ := AV.cells_sound hc hv
              obtain ⟨hfit, hq⟩ := AV.splice_sound hs hvs hl
              have hlen := avLen_sound k2 hvs
              simp only [Array.length_toList] at hfit hlen
              have harr : (arr.toList.take off ++ vv.cells.toList ++ arr.toList.drop (off + vv.cells.size)).toArray.size = arr.size := by
                simp only [List.size_toArray, List.length_append, List.length_take, List.length_drop, Array.length_toList]; omega
              refine ⟨_, run_storeAt hh' (by rw [hlen]; exact k3) hfit (oneCells_sound k1 hvs), ?_⟩
              obtain ⟨w1, w2⟩ := H.write (o' := .cells q) hf hb (Turns.setRow hh' harr) (fun hle => ⟨b, _, ty, hb, setRow_heap w b arr _ ty (0, 0) hh', by
                have := hq.move hle
                simpa using this⟩)
              exact ⟨m, w1, w2, rfl⟩
  case eptr id e i p =>
    simp only [storeE] at h
    cases hf : find st.heap id with
    | none => rw [hf] at h; cases h
    | some o =>
      rw [hf] at h
      cases o with
      | cells _ => cases h
      | row e' xs =>
        cases hT : G.ty t with
        | none => rw [hT] at h; cases h
        | some T =>
          rw [hT] at h
          simp only at h
          cases he : Ty.eqb e e' with
          | false => rw [he] at h; cases h
          | true =>
            rw [he] at h
            have := Ty.eqb_eq he
            subst this
            simp only [cond_true] at h
            cases hg : v.get [] T with
            | none => rw [hg] at h; cases h
            | some y =>
              rw [hg] at h
              simp only at h
              cases hz : Ty.put e (xs.getD i e.dflt) p T y with
              | none => rw [hz] at h; cases h
              | some z =>
                rw [hz] at h
                simp only [Option.some.injEq] at h
                subst h
                obtain ⟨hid, hi, b, d, hb, hd, rfl⟩ := ha
                obtain ⟨hlt, hsz, hlen, hby, hor⟩ := H.obj id _ hf
                rcases hor with ⟨h0, _⟩ | ⟨b', arr, ty, hb', hh, hfit, hrep⟩
                · have h1 := h0.symm.trans hb; cases h1
                have e0 : some b = some b' := hb.symm.trans hb'
                cases e0
                have hh' : w.heap[b]? = some (.cells arr ty (0, 0)) := hh
                have hil : i < xs.length := by rw [hlen]; exact hi
                have hx : xs.getD i e.dflt = xs[i] := by simp [List.getD, List.getElem?_eq_getElem hil]
                rw [hx] at hz
                have hval := G.isVal hT
                have hr := (AV.get_sound (Lends.none _) hg hv).cells hval
                obtain ⟨d', hs', hle', hput⟩ := Rep.putAt (hrep i hil) hz hr
                rw [hs'] at hd
                simp only [Option.map_some, Option.some.injEq] at hd
                subst hd
                have hvl : vv.cells.size = T.size := by simpa using hr.length
                have hseg : i * e.size + e.size ≤ xs.length * e.size := by
                  have : (i + 1) * e.size ≤ xs.length * e.size := Nat.mul_le_mul_right _ hil
                  rwa [Nat.succ_mul] at this
                have hsizeIs : sizeIs G.P t vv.cells.size = true := by
                  obtain ⟨inf, hinf, his, _⟩ := G.info hT
                  simp only [sizeIs, hinf]
                  rw [his, hvl]
                  simp
                have harr : (arr.toList.take (i * e.size + d') ++ vv.cells.toList ++ arr.toList.drop (i * e.size + d' + vv.cells.size)).toArray.size = arr.size := by
                  simp only [List.size_toArray, List.length_append, List.length_take, List.length_drop, Array.length_toList]; omega
                refine ⟨_, run_storeAt hh' hsizeIs (by omega) (oneCell_of_cell hr), ?_⟩
                obtain ⟨w1, w2⟩ := H.write (o' := .row e (List.set xs i z)) hf hb (Turns.setRow hh' harr) (fun hle => by
                  refine ⟨hsz, by rw [List.length_set]; exact hlen, by rw [List.length_set]; exact hby, .inr ⟨b, _, ty, hb, setRow_heap w b arr _ ty (0, 0) hh', by rw [List.length_set, harr]; exact hfit, ?_⟩⟩
                  intro j hj
                  rw [List.length_set] at hj
                  have hlarr : arr.toList.length = arr.size := Array.length_toList
                  rw [List.getElem_set]
                  have hvl' : vv.cells.toList.length = T.size := by simpa using hvl
                  obtain ⟨c1, c2⟩ := elem_cells arr.toList vv.cells.toList i e.size d' vv.cells.size (by simp) (by omega) (by rw [hlarr]; omega)
                  rw [← hvl] at hput
                  by_cases hij : i = j
                  · subst hij
                    rw [if_pos rfl, c1]
                    exact hput.move hle.moves
                  · rw [if_neg hij, c2 j (fun e => hij e.symm)]
                    exact (hrep j hj).move hle.moves)
                exact ⟨m, w1, w2, rfl⟩

end Go.Proofs.YtlkggeaibgaohaaGreatDoor.Sim
