/- How the objects change: a general step; new objects, stores, appends. -/
import Derived.Test.YtlkggeaibgaohaaGreatDoorSimN
namespace Go.Proofs.YtlkggeaibgaohaaGreatDoor.Sim
open Go Go.RowKit

theorem lt_of_shape {w : World} {b : Nat} {s : TypeId × Nat} (h : w.shape? b = some s) : b < w.heap.size := by
  unfold World.shape? at h
  rcases Nat.lt_or_ge b w.heap.size with h' | h'
  · exact h'
  · simp [Array.getElem?_eq_none h'] at h

/-- What a step of the world does, the blocks B of the call's own apart. -/
structure Turns (B : Nat → Prop) (w w' : World) : Prop where
  os : w'.os = w.os
  tape : w'.tape = w.tape
  output : w'.output = w.output
  size : w.heap.size ≤ w'.heap.size
  keep : ∀ b, b < w.heap.size → ¬ B b → w'.heap[b]? = w.heap[b]?
  shape : ∀ b s, w.shape? b = some s → w'.shape? b = some s
  froz : ∀ b, b < w.heap.size → ∀ off, w'.frozen? ⟨b, off, none⟩ = w.frozen? ⟨b, off, none⟩

theorem Turns.of_below {w w' : World} (h : Below w.heap.size w w') (B : Nat → Prop) : Turns B w w' where
  os := h.os
  tape := h.tape
  output := h.output
  size := h.size
  keep := fun b hb _ => h.block b hb
  shape := fun b s hs => by
    have hlt := lt_of_shape hs
    rw [← hs]
    unfold World.shape?
    rw [h.block b hlt]
  froz := fun b hb off => h.frozen (p := ⟨b, off, none⟩) hb

theorem HeapOk.step {fr : Frm} {m m' : Nat → Option Nat × Nat} {st st' : St} {w w' : World} (H : HeapOk fr m st w) {B : Nat → Prop} (hT : Turns B w w')
    (hB : ∀ b, B b → b < w.heap.size → ∃ id o, find st.heap id = some o ∧ (m id).1 = some b)
    (hm : ∀ i, i < st.nx → m' i = m i) (hnx : st.nx ≤ st'.nx)
    (hblk : ∀ id o b, find st'.heap id = some o → (m' id).1 = some b → w.heap.size ≤ b ∨ ∃ j o', find st.heap j = some o' ∧ (m j).1 = some b)
    (hnew : (cx fr m st w).Le (cx fr m' st' w') → ∀ id o, find st'.heap id = some o → (find st.heap id = some o ∧ ∀ b, (m id).1 = some b → ¬ B b) ∨ (id < st'.nx ∧ OBR (cx fr m' st' w') (m' id) o))
    (inj : ∀ i j o o' b, find st'.heap i = some o → find st'.heap j = some o' → (m' i).1 = some b → (m' j).1 = some b → i = j) :
    HeapOk fr m' st' w' ∧ (cx fr m st w).Le (cx fr m' st' w') := by
  have hle : (cx fr m st w).Le (cx fr m' st' w') := by
    refine ⟨hm, hnx, ?_, hT.shape⟩
    intro b off v hO hc
    have hlt : b < w.heap.size := World.block_lt_of_cell? w ⟨b, off, none⟩ hc
    have hnB : ¬ B b := fun hb => hO (.inr (hB b hb hlt))
    refine ⟨?_, ?_⟩
    · rintro (hF | ⟨id, o, hf, hb⟩)
      · exact hO (.inl hF)
      · rcases hblk id o b hf hb with h1 | h1
        · omega
        · exact hO (.inr h1)
    · rw [← hc]
      exact World.cell?_of_block (w := w) (hT.keep b hlt hnB)
  refine ⟨⟨?_, inj, ?_, ?_, H.fsub, fun g t x hg => AVR.move hle (H.glob g t x hg), fun i hi => (hm i (Nat.lt_of_lt_of_le hi H.above)).trans (H.anchor i hi), Nat.le_trans H.above hnx⟩, hle⟩
  · intro id o hf
    rcases hnew hle id o hf with ⟨h1, h2⟩ | h1
    · obtain ⟨k1, k2⟩ := H.obj id o h1
      refine ⟨Nat.lt_of_lt_of_le k1 hnx, ?_⟩
      rw [hm id k1]
      exact OBR.move hle k2 fun b hb => hT.keep b (k2.lt hb) (h2 b hb)
    · exact h1
  · intro id o b hf hb
    rcases hblk id o b hf hb with h1 | ⟨j, o', h1, h2⟩
    · refine ⟨fun hF => ?_, .inl (Nat.le_trans H.since.size h1)⟩
      have := H.fsub b hF
      have := H.since.size
      omega
    · exact H.apart j o' b h1 h2
  · refine ⟨hT.os.trans H.since.os, hT.tape.trans H.since.tape, hT.output.trans H.since.output, Nat.le_trans H.since.size hT.size, ?_, fun b s hs => hT.shape b s (H.since.shape b s hs), ?_⟩
    · intro b hb hI
      have hlt := Nat.lt_of_lt_of_le hb H.since.size
      rw [hT.keep b hlt fun hBb => ?_, H.since.kept b hb hI]
      obtain ⟨id, o, hf, hm⟩ := hB b hBb hlt
      rcases (H.apart id o b hf hm).2 with h1 | h1
      · omega
      · exact hI h1
    · intro b hb hI off
      rw [hT.froz b (Nat.lt_of_lt_of_le hb H.since.size) off, H.since.froz b hb hI off]

/-- The place of the object number n. -/
def upd (m : Nat → Option Nat × Nat) (n : Nat) (p : Option Nat × Nat) : Nat → Option Nat × Nat := fun i => if i = n then p else m i

/-- A new object. -/
theorem HeapOk.new {fr : Frm} {m : Nat → Option Nat × Nat} {st : St} {w w' : World} (H : HeapOk fr m st w) (hb : Below w.heap.size w w') {p : Option Nat × Nat} {o : OB} (hp : ∀ b, p.1 = some b → w.heap.size ≤ b)
    (ho : (cx fr m st w).Le (cx fr (upd m st.nx p) { st with heap := (st.nx, o) :: st.heap, nx := st.nx + 1 } w') → OBR (cx fr (upd m st.nx p) { st with heap := (st.nx, o) :: st.heap, nx := st.nx + 1 } w') p o) :
    HeapOk fr (upd m st.nx p) { st with heap := (st.nx, o) :: st.heap, nx := st.nx + 1 } w' ∧ (cx fr m st w).Le (cx fr (upd m st.nx p) { st with heap := (st.nx, o) :: st.heap, nx := st.nx + 1 } w') := by
  have um : ∀ i, i < st.nx → upd m st.nx p i = m i := fun i hi => by unfold upd; rw [if_neg (by omega)]
  have un : upd m st.nx p st.nx = p := by unfold upd; rw [if_pos rfl]
  have cases' : ∀ id o', find ((st.nx, o) :: st.heap) id = some o' → (id = st.nx ∧ o' = o) ∨ (find st.heap id = some o' ∧ id < st.nx) := fun id o' hf => by
    rw [find_cons] at hf
    by_cases e : st.nx = id
    · rw [if_pos e] at hf; cases hf; exact .inl ⟨e.symm, rfl⟩
    · rw [if_neg e] at hf; exact .inr ⟨hf, (H.obj id o' hf).1⟩
  refine H.step (B := fun _ => False) (Turns.of_below hb _) (fun b hB => hB.elim) um (Nat.le_succ _) ?_ ?_ ?_
  · intro id o' b hf hbk
    rcases cases' id o' hf with ⟨rfl, rfl⟩ | ⟨h1, h2⟩
    · rw [un] at hbk; exact .inl (hp b hbk)
    · rw [um id h2] at hbk; exact .inr ⟨id, o', h1, hbk⟩
  · intro hle id o' hf
    rcases cases' id o' hf with ⟨rfl, rfl⟩ | ⟨h1, h2⟩
    · rw [un]; exact .inr ⟨Nat.lt_succ_self _, ho hle⟩
    · exact .inl ⟨h1, fun _ _ h => h⟩
  · intro i j o1 o2 b h1 h2 b1 b2
    rcases cases' i o1 h1 with ⟨rfl, rfl⟩ | ⟨i1, i2⟩
    · rcases cases' j o2 h2 with ⟨rfl, rfl⟩ | ⟨j1, j2⟩
      · rfl
      · rw [un] at b1
        rw [um j j2] at b2
        have := hp b b1
        have := (H.obj j o2 j1).2.lt b2
        have : b < w.heap.size := this
        omega
    · rcases cases' j o2 h2 with ⟨rfl, rfl⟩ | ⟨j1, j2⟩
      · rw [un] at b2
        rw [um i i2] at b1
        have := hp b b2
        have := (H.obj i o1 i1).2.lt b1
        have : b < w.heap.size := this
        omega
      · rw [um i i2] at b1
        rw [um j j2] at b2
        exact H.inj i j o1 o2 b i1 j1 b1 b2

/-- An object is written. -/
theorem HeapOk.write {fr : Frm} {m : Nat → Option Nat × Nat} {st : St} {w w' : World} (H : HeapOk fr m st w) {id : Nat} {o o' : OB} {b : Nat} (hf : find st.heap id = some o) (hb : (m id).1 = some b)
    (hT : Turns (fun k => k = b) w w') (ho : (cx fr m st w).Le (cx fr m { st with heap := (id, o') :: st.heap } w') → OBR (cx fr m { st with heap := (id, o') :: st.heap } w') (m id) o') :
    HeapOk fr m { st with heap := (id, o') :: st.heap } w' ∧ (cx fr m st w).Le (cx fr m { st with heap := (id, o') :: st.heap } w') := by
  have cases' : ∀ i x, find ((id, o') :: st.heap) i = some x → ∃ y, find st.heap i = some y ∧ ((i = id ∧ x = o') ∨ (i ≠ id ∧ x = y)) := fun i x hx => by
    rw [find_cons] at hx
    by_cases e : id = i
    · rw [if_pos e] at hx; cases hx; subst e; exact ⟨o, hf, .inl ⟨rfl, rfl⟩⟩
    · rw [if_neg e] at hx; exact ⟨x, hx, .inr ⟨fun h => e h.symm, rfl⟩⟩
  refine H.step hT (fun k hk _ => ⟨id, o, hf, by rw [hk]; exact hb⟩) (fun _ _ => rfl) (Nat.le_refl _) ?_ ?_ ?_
  · intro i x k hx hk
    obtain ⟨y, hy, _⟩ := cases' i x hx
    exact .inr ⟨i, y, hy, hk⟩
  · intro hle i x hx
    obtain ⟨y, hy, ⟨rfl, rfl⟩ | ⟨h1, rfl⟩⟩ := cases' i x hx
    · exact .inr ⟨(H.obj i y hy).1, ho hle⟩
    · exact .inl ⟨hy, fun k hk e => h1 (H.inj i id x o b hy hf (by rw [← e]; exact hk) hb)⟩
  · intro i j x y k hx hy h1 h2
    obtain ⟨x', hx', _⟩ := cases' i x hx
    obtain ⟨y', hy', _⟩ := cases' j y hy
    exact H.inj i j x' y' k hx' hy' h1 h2

/-- Without an object. -/
def erase (id : Nat) : List (Nat × OB) → List (Nat × OB)
  | [] => []
  | (k, o) :: r => cond (Nat.beq k id) (erase id r) ((k, o) :: erase id r)
theorem find_erase (id k : Nat) : ∀ l : List (Nat × OB), find (erase id l) k = if k = id then none else find l k
  | [] => by simp [erase, find]
  | (j, o) :: r => by
    have ih := find_erase id k r
    simp only [erase]
    cases hb : Nat.beq j id with
    | true =>
      have := Nat.eq_of_beq_eq_true hb
      subst this
      simp only [cond_true]
      rw [ih, find_cons]
      by_cases e : k = j
      · rw [if_pos e, if_pos e]
      · rw [if_neg e, if_neg e, if_neg (fun h => e h.symm)]
    | false =>
      simp only [cond_false]
      rw [find_cons, find_cons, ih]
      by_cases e : j = k
      · subst e
        rw [if_pos rfl, if_pos rfl, if_neg]
        intro e
        subst e
        simp at hb
      · rw [if_neg e, if_neg e]

/-- An object gives way to a new one, which may lie in its block. -/
theorem HeapOk.swap {fr : Frm} {m : Nat → Option Nat × Nat} {st : St} {w w' : World} (H : HeapOk fr m st w) {id : Nat} {o o' : OB} (hf : find st.heap id = some o) {p : Option Nat × Nat}
    (hT : Turns (fun k => (m id).1 = some k) w w') (hp : ∀ b, p.1 = some b → w.heap.size ≤ b ∨ (m id).1 = some b)
    (ho : (cx fr m st w).Le (cx fr (upd m st.nx p) { st with heap := (st.nx, o') :: erase id st.heap, nx := st.nx + 1 } w') →
      OBR (cx fr (upd m st.nx p) { st with heap := (st.nx, o') :: erase id st.heap, nx := st.nx + 1 } w') p o') :
    HeapOk fr (upd m st.nx p) { st with heap := (st.nx, o') :: erase id st.heap, nx := st.nx + 1 } w' ∧
      (cx fr m st w).Le (cx fr (upd m st.nx p) { st with heap := (st.nx, o') :: erase id st.heap, nx := st.nx + 1 } w') := by
  have um : ∀ i, i < st.nx → upd m st.nx p i = m i := fun i hi => by unfold upd; rw [if_neg (by omega)]
  have un : upd m st.nx p st.nx = p := by unfold upd; rw [if_pos rfl]
  have cases' : ∀ i x, find ((st.nx, o') :: erase id st.heap) i = some x → (i = st.nx ∧ x = o') ∨ (find st.heap i = some x ∧ i < st.nx ∧ i ≠ id) := fun i x hx => by
    rw [find_cons] at hx
    by_cases e : st.nx = i
    · rw [if_pos e] at hx; cases hx; exact .inl ⟨e.symm, rfl⟩
    · rw [if_neg e, find_erase] at hx
      by_cases e2 : i = id
      · rw [if_pos e2] at hx; cases hx
      · rw [if_neg e2] at hx; exact .inr ⟨hx, (H.obj i x hx).1, e2⟩
  refine H.step hT (fun k hk _ => ⟨id, o, hf, hk⟩) um (Nat.le_succ _) ?_ ?_ ?_
  · intro i x k hx hk
    rcases cases' i x hx with ⟨rfl, rfl⟩ | ⟨h1, h2, h3⟩
    · rw [un] at hk
      rcases hp k hk with h | h
      · exact .inl h
      · exact .inr ⟨id, o, hf, h⟩
    · rw [um i h2] at hk; exact .inr ⟨i, x, h1, hk⟩
  · intro hle i x hx
    rcases cases' i x hx with ⟨rfl, rfl⟩ | ⟨h1, h2, h3⟩
    · rw [un]; exact .inr ⟨Nat.lt_succ_self _, ho hle⟩
    · exact .inl ⟨h1, fun k hk hB => h3 (H.inj i id x o k h1 hf hk hB)⟩
  · intro i j x y k hx hy h1 h2
    have old : ∀ i x, find st.heap i = some x → i ≠ id → (m i).1 = some k → p.1 = some k → False := fun i x hi hne hk hpk => by
      rcases hp k hpk with h | h
      · have := (H.obj i x hi).2.lt hk
        have : k < w.heap.size := this
        omega
      · exact hne (H.inj i id x o k hi hf hk h)
    rcases cases' i x hx with ⟨rfl, rfl⟩ | ⟨i1, i2, i3⟩
    · rcases cases' j y hy with ⟨rfl, rfl⟩ | ⟨j1, j2, j3⟩
      · rfl
      · rw [un] at h1; rw [um j j2] at h2; exact (old j y j1 j3 h2 h1).elim
    · rcases cases' j y hy with ⟨rfl, rfl⟩ | ⟨j1, j2, j3⟩
      · rw [un] at h2; rw [um i i2] at h1; exact (old i x i1 i3 h1 h2).elim
      · rw [um i i2] at h1; rw [um j j2] at h2; exact H.inj i j x y k i1 j1 h1 h2

/-- A heap's block is written over, cell by cell. -/
theorem Turns.cells {w : World} {b : Nat} {arr arr' : Array Value} {ty : TypeId} (h : w.heap[b]? = some (.cells arr ty (0, 0))) (hs : arr'.size = arr.size) :
    Turns (fun k => k = b) w { w with heap := w.heap.setIfInBounds b (.cells arr' ty (0, 0)) } where
  os := rfl
  tape := rfl
  output := rfl
  size := by simp
  keep := fun k _ hk => by
    show (w.heap.setIfInBounds b _)[k]? = _
    rw [Array.getElem?_setIfInBounds, if_neg (fun e => hk e.symm)]
  shape := fun k s hks => by
    by_cases e : b = k
    · subst e
      have hlt := lt_of_some h
      simp only [World.shape?, h, Option.some.injEq] at hks
      simp only [World.shape?, Array.getElem?_setIfInBounds, if_pos hlt, if_true]
      rw [← hks, hs]
    · rw [← hks]
      simp only [World.shape?, Array.getElem?_setIfInBounds, if_neg e]
  froz := fun k _ off => by
    by_cases e : b = k
    · subst e
      have hlt := lt_of_some h
      simp only [World.frozen?, h, Array.getElem?_setIfInBounds, if_pos hlt, if_true]
    · simp only [World.frozen?, Array.getElem?_setIfInBounds, if_neg e]

end Go.Proofs.YtlkggeaibgaohaaGreatDoor.Sim
