/- Calls of functions that are handed objects. -/
import Derived.Test.YtlkggeaibgaohaaGreatDoorSimV
namespace Go.Proofs.YtlkggeaibgaohaaGreatDoor.Sim
open Go Go.RowKit

def dfltT : (l : List Ty) → denT l
  | [] => ()
  | t :: r => (t.dflt, dfltT r)

/-- What a function does: the form of what it is handed and of what it leaves; from the data of the one the data of the other. -/
structure Sig where
  ins : Shp
  out : Shp
  run : ins.X → Option out.X

/-- The specification holds of the program's function g. -/
structure ESound (G : Pg) (g : FuncId) (s : Sig) : Prop where
  enters : Enters G.P g
  calls : ∀ (x : s.ins.X) (y : s.out.X), s.run x = some y → ∀ (fr : Frm) (m : Nat → Option Nat × Nat) (st : St) (w : World) (vals : List Value), fr.gl = G.gl → fr.w0 = w → fr.base = s.ins.nx →
    st.heap = s.ins.heapOf x → st.nx = s.ins.nx → HeapOk fr m st w → AVR (cx fr m st w) (s.ins.avsOf x) vals →
    Calls G.P g vals.toArray w fun e w' => ∃ v, e = .returned v ∧ ∃ m' st', st'.heap = s.out.heapOf y ∧ st'.nx = s.out.nx ∧ HeapOk fr m' st' w' ∧ AVR (cx fr m' st' w') (s.out.avsOf y) [v]

def renA (r : Nat → Nat) : AV → AV
  | .ptr i o => .ptr (r i) o
  | .eptr i e k p => .eptr (r i) e k p
  | .view i e lo len => .view (r i) e lo len
  | .aptr i e => .aptr (r i) e
  | .agg l => .agg (renA r l)
  | .tup l => .tup (renA r l)
  | .fn f l => .fn f (renA r l)
  | .cons h t => .cons (renA r h) (renA r t)
  | a => a
def renO (r : Nat → Nat) : OB → OB
  | .cells l => .cells (renA r l)
  | .row e xs => .row e xs
def renH (r : Nat → Nat) : List (Nat × OB) → List (Nat × OB)
  | [] => []
  | (i, o) :: l => (r i, renO r o) :: renH r l

theorem renA_sound {c d : Cx} {r : Nat → Nat} (hr : ∀ i, i < c.nx → r i < d.nx ∧ d.m (r i) = c.m i) (hO : ∀ b, d.O b → c.O b) (hw : d.w = c.w) : ∀ {a : AV} {vs : List Value}, AVR c a vs → AVR d (renA r a) vs := by
  have mv : Moves c.O c.w d.O d.w := by rw [hw]; exact Moves.sub _ hO
  intro a
  induction a with
  | imm t x => intro vs h; match vs, h with | [v], h => exact ValRep.move mv h
  | const u => intro vs h; match vs, h with | [v], h => exact h
  | iptr t x =>
    intro vs h
    match vs, h with
    | [v], ⟨b, off, cs, hv, hOb, hr, hs, hc⟩ => exact ⟨b, off, cs, hv, fun k => hOb (hO b k), hr.move mv, hs, fun j hj => by rw [hw]; exact hc j hj⟩
  | ptr i o =>
    intro vs h
    match vs, h with
    | [v], ⟨hi, b, hb, hv⟩ => exact ⟨(hr i hi).1, b, by rw [(hr i hi).2]; exact hb, hv⟩
  | eptr i e k p =>
    intro vs h
    match vs, h with
    | [v], ⟨hi, hk, b, o, hb, ho, hv⟩ => exact ⟨(hr i hi).1, by rw [(hr i hi).2]; exact hk, b, o, by rw [(hr i hi).2]; exact hb, ho, hv⟩
  | view i e lo len =>
    intro vs h
    match vs, h with
    | [v], ⟨hi, hl, hs, hor⟩ =>
      refine ⟨(hr i hi).1, by rw [(hr i hi).2]; exact hl, hs, ?_⟩
      rcases hor with ⟨h1, h2⟩ | ⟨b, cap, ty, n, base, h1, h2, h3, h4, h5, h6⟩
      · exact .inl ⟨by rw [(hr i hi).2]; exact h1, h2⟩
      · exact .inr ⟨b, cap, ty, n, base, by rw [(hr i hi).2]; exact h1, h2, h3, h4, by rw [hw]; exact h5, h6⟩
  | aptr i e =>
    intro vs h
    match vs, h with
    | [v], ⟨hi, b, hb, hv⟩ => exact ⟨(hr i hi).1, b, by rw [(hr i hi).2]; exact hb, hv⟩
  | agg l ih => intro vs h; match vs, h with | [v], ⟨cs, hv, hc⟩ => exact ⟨cs, hv, ih hc⟩
  | tup l ih => intro vs h; match vs, h with | [v], ⟨cs, hv, hc⟩ => exact ⟨cs, hv, ih hc⟩
  | fn f l ih => intro vs h; match vs, h with | [v], ⟨cs, hv, hc⟩ => exact ⟨cs, hv, ih hc⟩
  | nil => intro vs h; match vs, h with | [], _ => trivial
  | cons x y ihx ihy => intro vs h; match vs, h with | v :: vs, ⟨h1, h2⟩ => exact ⟨ihx h1, ihy h2⟩

theorem find_append {α : Type} (k : Nat) : ∀ (l l' : List (Nat × α)), find (l ++ l') k = match find l k with | some o => some o | none => find l' k
  | [], _ => rfl
  | (i, o) :: l, l' => by
    rw [List.cons_append, find_cons, find_cons, find_append k l l']
    by_cases e : i = k
    · rw [if_pos e, if_pos e]
    · rw [if_neg e, if_neg e]

theorem find_renH {r : Nat → Nat} {k : Nat} {o' : OB} : ∀ {l : List (Nat × OB)}, (∀ i j oi oj, find l i = some oi → find l j = some oj → r i = r j → i = j) → find (renH r l) k = some o' →
    ∃ i o, find l i = some o ∧ r i = k ∧ o' = renO r o
  | (i, o) :: l, hinj, h => by
    simp only [renH] at h
    rw [find_cons] at h
    by_cases e : r i = k
    · rw [if_pos e] at h
      cases h
      exact ⟨i, o, by rw [find_cons, if_pos rfl], e, rfl⟩
    · rw [if_neg e] at h
      have tail : ∀ j oj, find l j = some oj → ∃ o', find ((i, o) :: l) j = some o' := fun j oj hj => by
        rw [find_cons]
        by_cases e' : i = j
        · exact ⟨o, if_pos e'⟩
        · exact ⟨oj, by rw [if_neg e']; exact hj⟩
      obtain ⟨j, oj, h1, h2, h3⟩ := find_renH (l := l) (fun j j' oj oj' hj hj' e' => by
        obtain ⟨q, hq⟩ := tail j oj hj
        obtain ⟨q', hq'⟩ := tail j' oj' hj'
        exact hinj j j' q q' hq hq' e') h
      refine ⟨j, oj, ?_, h2, h3⟩
      rw [find_cons, if_neg]
      · exact h1
      · intro e'
        subst e'
        exact e h2

def allIn (ρ : List (Nat × Nat)) : Nat → Bool
  | 0 => true
  | n + 1 => match find ρ n with
    | some _ => allIn ρ n
    | none => false
theorem allIn_sound {ρ : List (Nat × Nat)} : ∀ {n i : Nat}, allIn ρ n = true → i < n → ∃ j, find ρ i = some j
  | n + 1, i, h, hi => by
    simp only [allIn] at h
    cases hf : find ρ n with
    | none => rw [hf] at h; cases h
    | some j =>
      rw [hf] at h
      by_cases e : i = n
      · subst e; exact ⟨j, hf⟩
      · exact allIn_sound h (by omega)
def inHeap (hp : List (Nat × OB)) : List (Nat × Nat) → Bool
  | [] => true
  | (_, j) :: r => match find hp j with
    | some _ => inHeap hp r
    | none => false
theorem inHeap_sound {hp : List (Nat × OB)} {i j : Nat} : ∀ {ρ : List (Nat × Nat)}, inHeap hp ρ = true → find ρ i = some j → ∃ o, find hp j = some o
  | (k, l) :: r, h, hf => by
    simp only [inHeap] at h
    cases hl : find hp l with
    | none => rw [hl] at h; cases h
    | some o =>
      rw [hl] at h
      rw [find_cons] at hf
      by_cases e : k = i
      · rw [if_pos e] at hf; cases hf; exact ⟨o, hl⟩
      · rw [if_neg e] at hf; exact inHeap_sound h hf

def shift (ρ : List (Nat × Nat)) (n nx : Nat) (i : Nat) : Nat := cond (Nat.blt i n) (match find ρ i with | some j => j | none => 0) (nx + (i - n))

def pickSig (st : St) (a : AV) : List Sig → Option (Comp Eff)
  | [] => none
  | s :: r => match capture 0 true st.heap s.ins a with
    | some (ρ, ob, x) => cond (allIn ρ s.ins.nx && inHeap st.heap ρ) (some ⟨s.out.X, dfltT _, cond ob (s.run x) none,
        fun y => (renA (shift ρ s.ins.nx st.nx) (s.out.avsOf y), renH (shift ρ s.ins.nx st.nx) (s.out.heapOf y) ++ lend ρ st.heap, st.nx + (s.out.nx - s.ins.nx))⟩) none
    | none => pickSig st a r

theorem Since.trans {I I' : Nat → Prop} {a b c : World} (h : Since I a b) (k : Since I' b c) (hI : ∀ x, x < a.heap.size → I' x → I x) : Since I a c where
  os := k.os.trans h.os
  tape := k.tape.trans h.tape
  output := k.output.trans h.output
  size := Nat.le_trans h.size k.size
  kept := fun x hx hn => (k.kept x (Nat.lt_of_lt_of_le hx h.size) (fun hh => hn (hI x hx hh))).trans (h.kept x hx hn)
  shape := fun x s hs => k.shape x s (h.shape x s hs)
  froz := fun x hx hi off => by
    by_cases hI' : I' x
    · rw [k.froz x (Nat.lt_of_lt_of_le hx h.size) hI' off, h.froz x hx hi off]
    · rw [← h.froz x hx hi off]
      have := k.kept x (Nat.lt_of_lt_of_le hx h.size) hI'
      simp only [World.frozen?, this]

theorem Since.refl (I : Nat → Prop) (w : World) : Since I w w := ⟨rfl, rfl, rfl, Nat.le_refl _, fun _ _ _ => rfl, fun _ _ h => h, fun _ _ _ _ => rfl⟩

/-- A call that is handed objects. -/
theorem sig_sound (G : Pg) {g : FuncId} {s : Sig} (S : ESound G g s) {fr : Frm} {m : Nat → Option Nat × Nat} {st : St} {w : World} (hgl : fr.gl = G.gl) (H : HeapOk fr m st w) {a : AV} {vals : List Value}
    (ha : AVR (cx fr m st w) a vals) {ρ : List (Nat × Nat)} {x : s.ins.X} (h : capture 0 true st.heap s.ins a = some (ρ, true, x)) (h1 : allIn ρ s.ins.nx = true) (h2 : inHeap st.heap ρ = true) {y : s.out.X} (hy : s.run x = some y) :
    Calls G.P g vals.toArray w fun e w' => ∃ v, e = .returned v ∧ EffOk fr m st w
      (renA (shift ρ s.ins.nx st.nx) (s.out.avsOf y), renH (shift ρ s.ins.nx st.nx) (s.out.heapOf y) ++ lend ρ st.heap, st.nx + (s.out.nx - s.ins.nx)) v w' := by
  obtain ⟨hi, han, _, dom, core⟩ := capture_core h
  have ren : ∀ i j, find ρ i = some j → renM 0 ρ m i = m j := fun i j hf => renM_eq han m hf
  have hin : ∀ i j, find ρ i = some j → ∃ o, find st.heap j = some o := fun i j hf => inHeap_sound h2 hf
  let F' : Nat → Prop := fun b => fr.F b ∨ ∃ id o, find (lend ρ st.heap) id = some o ∧ (m id).1 = some b
  let I' : Nat → Prop := fun b => ∃ i j oa, find ρ i = some j ∧ find st.heap j = some oa ∧ (m j).1 = some b
  let fr' : Frm := { w0 := w, F := F', I := I', gl := fr.gl, nt := 0, base := s.ins.nx, m0 := renM 0 ρ m }
  let st' : St := { loc := [], env := [], heap := s.ins.heapOf x, nx := s.ins.nx }
  have hI : ∀ b, I' b → own fr.F m st.heap b ∧ b < w.heap.size := fun b ⟨i, j, oa, q1, q2, q3⟩ => ⟨.inr ⟨j, oa, q2, q3⟩, (H.obj j oa q2).2.lt q3⟩
  have hown : ∀ b, own F' (renM 0 ρ m) st'.heap b → own fr.F m st.heap b := by
    rintro b ((hb | ⟨id, o, hf, hb⟩) | ⟨id, o, hf, hb⟩)
    · exact .inl hb
    · exact .inr ⟨id, o, (find_lend hf).2, hb⟩
    · obtain ⟨_, j, oa, q1, q2⟩ := dom id o hf
      rw [ren id j q1] at hb
      exact .inr ⟨j, oa, q2, hb⟩
  have hF : ∀ b, F' b → b < w.heap.size := by
    rintro b (hb | ⟨id, o, hf, hb⟩)
    · exact Nat.lt_of_lt_of_le (H.fsub b hb) H.since.size
    · exact (H.obj id o (find_lend hf).2).2.lt hb
  have notF : ∀ j oa b, find st.heap j = some oa → inR j ρ = true → (m j).1 = some b → ¬ F' b := by
    rintro j oa b hj hr hb (hF | ⟨id, o, hf, hb'⟩)
    · exact (H.apart j oa b hj hb).1 hF
    · obtain ⟨k1, k2⟩ := find_lend hf
      have := H.inj j id oa o b hj k2 hb hb'
      subst this
      rw [hr] at k1
      cases k1
  obtain ⟨c1, c2⟩ := core (cx fr m st w) (cx fr' (renM 0 ρ m) st' w) ⟨hown, fun id o hf => by simp [find] at hf, fun id o b hf => by simp [find] at hf⟩ rfl ren rfl
  have H' : HeapOk fr' (renM 0 ρ m) st' w := by
    refine ⟨?_, ?_, ?_, Since.refl _ _, hF, fun g t x hg => AVR.free (c := cx fr m st w) (d := cx fr' (renM 0 ρ m) st' w) hown rfl rfl (H.glob g t x hg), fun _ _ => rfl, Nat.le_refl _⟩
    · intro i o hf
      obtain ⟨q0, j, oa, q1, q2⟩ := dom i o hf
      exact ⟨q0, c2 i o j oa hf q1 q2 (H.obj j oa q2).2⟩
    · intro i i' o o' b hf hf' hb hb'
      obtain ⟨_, j, oa, q1, q2⟩ := dom i o hf
      obtain ⟨_, j', oa', q1', q2'⟩ := dom i' o' hf'
      rw [ren i j q1] at hb
      rw [ren i' j' q1'] at hb'
      have := H.inj j j' oa oa' b q2 q2' hb hb'
      subst this
      exact injR_sound hi q1 q1'
    · intro i o b hf hb
      obtain ⟨_, j, oa, q1, q2⟩ := dom i o hf
      rw [ren i j q1] at hb
      exact ⟨notF j oa b q2 (inR_of_find q1) hb, .inr ⟨i, j, oa, q1, q2, hb⟩⟩
  refine (S.calls x y hy fr' (renM 0 ρ m) st' w vals hgl rfl rfl rfl rfl H' (c1 vals ha)).mono fun e w' ⟨v, he, m2, st2, e1, e2, H2, hv⟩ => ⟨v, he, ?_⟩
  have hab : s.ins.nx ≤ s.out.nx := by have := H2.above; rw [e2] at this; exact this
  let r := shift ρ s.ins.nx st.nx
  let m3 : Nat → Option Nat × Nat := fun i => if i < st.nx then m i else m2 (s.ins.nx + (i - st.nx))
  let st3 : St := st.upd (renA r (s.out.avsOf y), renH r (s.out.heapOf y) ++ lend ρ st.heap, st.nx + (s.out.nx - s.ins.nx))
  have st3h : st3.heap = renH r (s.out.heapOf y) ++ lend ρ st.heap := rfl
  have st3n : st3.nx = st.nx + (s.out.nx - s.ins.nx) := rfl
  have jlt : ∀ i j, find ρ i = some j → j < st.nx := fun i j hf => by obtain ⟨o, ho⟩ := hin i j hf; exact (H.obj j o ho).1
  have rlow : ∀ i, i < s.ins.nx → ∃ j, find ρ i = some j ∧ r i = j := fun i hlt => by
    obtain ⟨j, hj⟩ := allIn_sound h1 hlt
    refine ⟨j, hj, ?_⟩
    show cond (Nat.blt i s.ins.nx) _ _ = j
    rw [show Nat.blt i s.ins.nx = true from by simpa [Nat.blt_eq] using hlt, hj]
    rfl
  have rhigh : ∀ i, ¬ i < s.ins.nx → r i = st.nx + (i - s.ins.nx) := fun i hge => by
    show cond (Nat.blt i s.ins.nx) _ _ = _
    rw [show Nat.blt i s.ins.nx = false from by
      cases hb : Nat.blt i s.ins.nx with
      | false => rfl
      | true => exact absurd (Nat.lt_of_succ_le (Nat.le_of_ble_eq_true hb)) hge]
    rfl
  have rm : ∀ i, i < s.out.nx → r i < st3.nx ∧ m3 (r i) = m2 i := fun i hlt => by
    by_cases hi2 : i < s.ins.nx
    · obtain ⟨j, hj, hr⟩ := rlow i hi2
      have hjl := jlt i j hj
      refine ⟨by rw [hr, st3n]; omega, ?_⟩
      show (if r i < st.nx then m (r i) else _) = _
      rw [hr, if_pos hjl, ← ren i j hj]
      exact (H2.anchor i hi2).symm
    · rw [rhigh i hi2]
      refine ⟨by rw [st3n]; omega, ?_⟩
      show (if st.nx + (i - s.ins.nx) < st.nx then _ else m2 (s.ins.nx + (st.nx + (i - s.ins.nx) - st.nx))) = _
      rw [if_neg (by omega)]
      congr 1
      omega
  have rinj : ∀ i j, i < s.out.nx → j < s.out.nx → r i = r j → i = j := fun i j h3 h4 he => by
    by_cases k1 : i < s.ins.nx
    · obtain ⟨p, hp, hr⟩ := rlow i k1
      have hpl := jlt i p hp
      by_cases k2 : j < s.ins.nx
      · obtain ⟨q, hq, hr'⟩ := rlow j k2
        rw [hr, hr'] at he
        subst he
        exact injR_sound hi hp hq
      · rw [hr, rhigh j k2] at he; omega
    · by_cases k2 : j < s.ins.nx
      · obtain ⟨q, hq, hr'⟩ := rlow j k2
        have := jlt j q hq
        rw [hr', rhigh i k1] at he; omega
      · rw [rhigh i k1, rhigh j k2] at he; omega
  have out : ∀ k o, find st3.heap k = some o → (∃ i o', find (s.out.heapOf y) i = some o' ∧ i < s.out.nx ∧ r i = k ∧ o = renO r o') ∨ (find (lend ρ st.heap) k = some o) := fun k o hf => by
    rw [st3h, find_append] at hf
    cases hr : find (renH r (s.out.heapOf y)) k with
    | none => rw [hr] at hf; exact .inr hf
    | some o1 =>
      rw [hr] at hf
      simp only [Option.some.injEq] at hf
      subst hf
      have lt : ∀ i oi, find (s.out.heapOf y) i = some oi → i < s.out.nx := fun i oi hio => by
        have := (H2.obj i oi (by rw [e1]; exact hio)).1
        rw [e2] at this
        exact this
      obtain ⟨i, o', q1, q2, q3⟩ := find_renH (fun i j oi oj hio hjo he => rinj i j (lt i oi hio) (lt j oj hjo) he) hr
      exact .inl ⟨i, o', q1, lt i o' q1, q2, q3⟩
  have low : ∀ i, i < st.nx → m3 i = m i := fun i hlt => if_pos hlt
  have lendlt : ∀ k o, find (lend ρ st.heap) k = some o → k < st.nx ∧ find st.heap k = some o ∧ inR k ρ = false := fun k o hf => by
    obtain ⟨q1, q2⟩ := find_lend hf
    exact ⟨(H.obj k o q2).1, q2, q1⟩
  have hO : ∀ b, own fr.F m3 st3.heap b → own F' m2 st2.heap b := by
    rintro b (hb | ⟨k, o, hf, hb⟩)
    · exact .inl (.inl hb)
    · rcases out k o hf with ⟨i, o', q1, q2, q3, q4⟩ | hl
      · rw [← q3, (rm i q2).2] at hb
        exact .inr ⟨i, o', by rw [e1]; exact q1, hb⟩
      · obtain ⟨q1, q2, _⟩ := lendlt k o hl
        rw [low k q1] at hb
        exact .inl (.inr ⟨k, o, hl, hb⟩)
  have keptI : ∀ b, b < w.heap.size → ¬ I' b → w'.heap[b]? = w.heap[b]? := fun b hb hn => H2.since.kept b hb hn
  have hle : (cx fr m st w).Le (cx fr m3 st3 w') := by
    refine ⟨fun i hlt => low i hlt, Nat.le_add_right _ _, fun b off u hno hc => ?_, fun b sh hs => H2.since.shape b sh hs⟩
    have hlt : b < w.heap.size := World.block_lt_of_cell? w ⟨b, off, none⟩ hc
    have hnI : ¬ I' b := fun hI2 => hno (hI b hI2).1
    refine ⟨fun ho => ?_, ?_⟩
    · rcases hO b ho with (hb | ⟨id, o, hf, hb⟩) | ⟨i, o, hf, hb⟩
      · exact hno (.inl hb)
      · exact hno (.inr ⟨id, o, (find_lend hf).2, hb⟩)
      · rcases (H2.apart i o b hf hb).2 with h3 | h3
        · have : w.heap.size ≤ b := h3
          omega
        · exact hnI h3
    · rw [← hc]
      exact World.cell?_of_block (w := w) (keptI b hlt hnI)
  refine ⟨m3, ⟨?_, ?_, ?_, ?_, H.fsub, fun g t x hg => AVR.move hle (H.glob g t x hg), fun i hlt => (low i (Nat.lt_of_lt_of_le hlt H.above)).trans (H.anchor i hlt), Nat.le_trans H.above (Nat.le_add_right _ _)⟩, hle, ?_⟩
  · intro k o hf
    rcases out k o hf with ⟨i, o', q1, q2, q3, q4⟩ | hl
    · subst q3; subst q4
      refine ⟨(rm i q2).1, ?_⟩
      obtain ⟨p1, p2⟩ := H2.obj i o' (by rw [e1]; exact q1)
      rw [(rm i q2).2]
      cases o' with
      | cells l =>
        obtain ⟨b, arr, ty, z1, z2, z3⟩ := p2
        exact ⟨b, arr, ty, z1, z2, renA_sound (c := cx fr' m2 st2 w') (d := cx fr m3 st3 w') (fun i hlt => rm i (by rw [← e2]; exact hlt)) hO rfl z3⟩
      | row e xs =>
        obtain ⟨z1, z2, z3, z4⟩ := p2
        refine ⟨z1, z2, z3, ?_⟩
        rcases z4 with z4 | ⟨b, arr, ty, z4, z5, z6, z7⟩
        · exact .inl z4
        · exact .inr ⟨b, arr, ty, z4, z5, z6, fun i hi => (z7 i hi).move (Moves.sub _ hO)⟩
    · obtain ⟨q1, q2, q3⟩ := lendlt k o hl
      have ho := (H.obj k o q2).2
      refine ⟨by rw [st3n]; omega, ?_⟩
      rw [low k q1]
      refine OBR.move hle ho fun b hb => keptI b (ho.lt hb) ?_
      rintro ⟨i, j, oa, z1, z2, z3⟩
      have := H.inj j k oa o b z2 q2 z3 hb
      subst this
      rw [inR_of_find z1] at q3
      cases q3
  · intro k k' o o' b hf hf' hb hb'
    rcases out k o hf with ⟨i, oi, q1, q2, q3, q4⟩ | hl
    · subst q3
      rw [(rm i q2).2] at hb
      rcases out k' o' hf' with ⟨i', oi', p1, p2, p3, p4⟩ | hl'
      · subst p3
        rw [(rm i' p2).2] at hb'
        rw [H2.inj i i' oi oi' b (by rw [e1]; exact q1) (by rw [e1]; exact p1) hb hb']
      · obtain ⟨z1, z2, z3⟩ := lendlt k' o' hl'
        rw [low k' z1] at hb'
        exact absurd (Or.inr ⟨k', o', hl', hb'⟩) (H2.apart i oi b (by rw [e1]; exact q1) hb).1
    · obtain ⟨z1, z2, z3⟩ := lendlt k o hl
      rw [low k z1] at hb
      rcases out k' o' hf' with ⟨i', oi', p1, p2, p3, p4⟩ | hl'
      · subst p3
        rw [(rm i' p2).2] at hb'
        exact absurd (Or.inr ⟨k, o, hl, hb⟩) (H2.apart i' oi' b (by rw [e1]; exact p1) hb').1
      · obtain ⟨y1, y2, y3⟩ := lendlt k' o' hl'
        rw [low k' y1] at hb'
        exact H.inj k k' o o' b z2 y2 hb hb'
  · intro k o b hf hb
    rcases out k o hf with ⟨i, oi, q1, q2, q3, q4⟩ | hl
    · subst q3
      rw [(rm i q2).2] at hb
      obtain ⟨p1, p2⟩ := H2.apart i oi b (by rw [e1]; exact q1) hb
      refine ⟨fun hF => p1 (.inl hF), ?_⟩
      rcases p2 with p2 | ⟨i', j, oa, z1, z2, z3⟩
      · exact .inl (Nat.le_trans H.since.size p2)
      · exact (H.apart j oa b z2 z3).2
    · obtain ⟨z1, z2, z3⟩ := lendlt k o hl
      rw [low k z1] at hb
      exact H.apart k o b z2 hb
  · refine H.since.trans H2.since fun b hb hI2 => ?_
    obtain ⟨i, j, oa, z1, z2, z3⟩ := hI2
    rcases (H.apart j oa b z2 z3).2 with h3 | h3
    · omega
    · exact h3
  · exact renA_sound (c := cx fr' m2 st2 w') (d := cx fr m3 st3 w') (fun i hlt => rm i (by rw [← e2]; exact hlt)) hO rfl hv

end Go.Proofs.YtlkggeaibgaohaaGreatDoor.Sim
