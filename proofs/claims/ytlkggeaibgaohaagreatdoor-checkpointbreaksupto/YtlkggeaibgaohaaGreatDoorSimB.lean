/- Abstract values, objects and states, and what it means that a frame and a world fit them. -/
import Derived.Test.YtlkggeaibgaohaaGreatDoorSimA
namespace Go.Proofs.YtlkggeaibgaohaaGreatDoor.Sim
open Go Go.RowKit

/-- Look up in an association list. -/
def find {α : Type} : List (Nat × α) → Nat → Option α
  | [], _ => none
  | (k, v) :: r, t => cond (Nat.beq k t) (some v) (find r t)

theorem find_cons {α : Type} (k : Nat) (v : α) (r : List (Nat × α)) (t : Nat) : find ((k, v) :: r) t = if k = t then some v else find r t := by
  by_cases h : k = t
  · subst h; simp [find]
  · have : Nat.beq k t = false := by
      cases hb : Nat.beq k t with
      | false => rfl
      | true => exact absurd (Nat.eq_of_beq_eq_true hb) h
    simp [find, this, h]

/-- Steps of a path into a type: the first of a pair, the second, into a struct. -/
inductive Stp where
  | fst
  | snd
  | fld
/-- The part of a type at a path: its first cell, and its type. -/
def Ty.sub : Ty → List Stp → Option (Nat × Ty)
  | t, [] => some (0, t)
  | .struct b, .fld :: p => Ty.sub b p
  | .pair a _, .fst :: p => Ty.sub a p
  | .pair a b, .snd :: p => (Ty.sub b p).map fun x => (a.size + x.1, x.2)
  | _, _ => none
/-- The part of a datum at a path. -/
def Ty.get : (t : Ty) → t.den → List Stp → Option (Σ s : Ty, s.den)
  | t, x, [] => some ⟨t, x⟩
  | .struct b, x, .fld :: p => Ty.get b x p
  | .pair a _, x, .fst :: p => Ty.get a x.1 p
  | .pair _ b, x, .snd :: p => Ty.get b x.2 p
  | _, _, _ => none
/-- The datum with another part at a path. -/
def Ty.put : (t : Ty) → t.den → List Stp → (s : Ty) → s.den → Option t.den
  | t, _, [], _, y => Ty.cast t y
  | .struct b, x, .fld :: p, s, y => Ty.put b x p s y
  | .pair a b, x, .fst :: p, s, y => (Ty.put a x.1 p s y).map fun z => ((z, x.2) : a.den × b.den)
  | .pair a b, x, .snd :: p, s, y => (Ty.put b x.2 p s y).map fun z => ((x.1, z) : a.den × b.den)
  | _, _, _, _, _ => none
def Ty.isPair : Ty → Bool
  | .pair _ _ => true
  | _ => false
/-- The path of field k, within the chain of a struct's fields. -/
def fieldPath : Ty → Nat → Option (List Stp)
  | .pair _ _, 0 => some [.fst]
  | .pair _ b, k + 1 => (fieldPath b k).map (Stp.snd :: ·)
  | .unit, _ => none
  | _, 0 => some []
  | _, _ => none

/-- Abstract values: trees that nobody writes; pointers to such; pointers and slices into objects that the call owns. 'nil' and 'cons' make lists of them. -/
inductive AV where
  | imm (t : Ty) (x : t.den)
  | const (v : Value)
  | iptr (t : Ty) (x : t.den)
  | ptr (id off : Nat)
  | eptr (id : Nat) (e : Ty) (i : Nat) (p : List Stp)
  | view (id : Nat) (e : Ty) (lo len : Nat)
  | aptr (id : Nat) (e : Ty)
  | agg (l : AV)
  | tup (l : AV)
  | fn (f : Nat) (caps : AV)
  | nil
  | cons (h t : AV)

/-- Objects that the call owns: a variable, cell by cell; a row of elements. -/
inductive OB where
  | cells (l : AV)
  | row (e : Ty) (xs : List e.den)

/-- The setting in which abstract values are read: the blocks apart, the block of each object, the number of objects, the world. -/
structure Cx where
  O : Nat → Prop
  m : Nat → Option Nat × Nat
  nx : Nat
  w : World

def AVR (c : Cx) : AV → List Value → Prop
  | .imm t x, [v] => ValRep c.O c.w t v x
  | .const u, [v] => v = u
  | .iptr t x, [v] => ∃ b off cs, v = .pointer (some ⟨b, off, none⟩) ∧ ¬ c.O b ∧ Rep c.O c.w t cs x ∧ 0 < t.size ∧ ∀ j, j < t.size → c.w.cell? ⟨b, off + j, none⟩ = cs[j]?
  | .ptr id off, [v] => id < c.nx ∧ ∃ b, (c.m id).1 = some b ∧ v = .pointer (some ⟨b, off, none⟩)
  | .eptr id e i p, [v] => id < c.nx ∧ i < (c.m id).2 ∧ ∃ b d, (c.m id).1 = some b ∧ (Ty.sub e p).map (·.1) = some d ∧ v = .pointer (some ⟨b, i * e.size + d, none⟩)
  | .view id e lo len, [v] => id < c.nx ∧ lo + len ≤ (c.m id).2 ∧ 0 < e.size ∧ (((c.m id).1 = none ∧ (∃ base, v = .slice base 0 0) ∧ lo = 0 ∧ len = 0) ∨
      ∃ b cap ty n base, (c.m id).1 = some b ∧ v = .slice base len cap ∧ len ≤ cap ∧ cap ≤ maxLen ∧ c.w.shape? b = some (ty, n) ∧ (lo + cap) * e.size ≤ n ∧
        (cap = 0 ∨ base = some ⟨b, lo * e.size, none⟩))
  | .aptr id _, [v] => id < c.nx ∧ ∃ b, (c.m id).1 = some b ∧ v = .pointer (some ⟨b, 0, none⟩)
  | .agg l, [v] => ∃ cs, v = .agg cs ∧ AVR c l cs.toList
  | .tup l, [v] => ∃ vs, v = .tuple vs ∧ AVR c l vs.toList
  | .fn f l, [v] => ∃ cs, v = .func (.func f) #[] cs ∧ AVR c l cs.toList
  | .nil, [] => True
  | .cons h t, v :: vs => AVR c h [v] ∧ AVR c t vs
  | _, _ => False

/-- Another setting, in which all that was read reads the same. -/
structure Cx.Le (c d : Cx) : Prop where
  m : ∀ i, i < c.nx → d.m i = c.m i
  nx : c.nx ≤ d.nx
  moves : Moves c.O c.w d.O d.w
  shape : ∀ b s, c.w.shape? b = some s → d.w.shape? b = some s

theorem Cx.Le.refl (c : Cx) : c.Le c := ⟨fun _ _ => rfl, Nat.le_refl _, Moves.refl _ _, fun _ _ h => h⟩
theorem Cx.Le.trans {c d e : Cx} (h : c.Le d) (k : d.Le e) : c.Le e :=
  ⟨fun i hi => (k.m i (Nat.lt_of_lt_of_le hi h.nx)).trans (h.m i hi), Nat.le_trans h.nx k.nx, h.moves.trans k.moves, fun b s hs => k.shape b s (h.shape b s hs)⟩

theorem AVR.move {c d : Cx} (hl : c.Le d) : ∀ {a : AV} {vs : List Value}, AVR c a vs → AVR d a vs := by
  intro a
  induction a with
  | imm t x =>
    intro vs h
    match vs, h with
    | [v], h => exact ValRep.move hl.moves h
  | const u =>
    intro vs h
    match vs, h with
    | [v], h => exact h
  | iptr t x =>
    intro vs h
    match vs, h with
    | [v], ⟨b, off, cs, hv, hO, hr, hs, hc⟩ =>
      have key : ∀ j, j < t.size → ¬ d.O b ∧ d.w.cell? ⟨b, off + j, none⟩ = cs[j]? := fun j hj => by
        have hlen := hr.length
        have hv := hc j hj
        rw [List.getElem?_eq_getElem (by omega)] at hv ⊢
        exact hl.moves b _ _ hO hv
      exact ⟨b, off, cs, hv, (key 0 hs).1, hr.move hl.moves, hs, fun j hj => (key j hj).2⟩
  | ptr id off =>
    intro vs h
    match vs, h with
    | [v], ⟨hi, b, hb, hv⟩ => exact ⟨Nat.lt_of_lt_of_le hi hl.nx, b, by rw [hl.m id hi]; exact hb, hv⟩
  | eptr id e i p =>
    intro vs h
    match vs, h with
    | [v], ⟨hi, hlt, b, o, hb, ho, hv⟩ => exact ⟨Nat.lt_of_lt_of_le hi hl.nx, (by rw [hl.m id hi]; exact hlt), b, o, (by rw [hl.m id hi]; exact hb), ho, hv⟩
  | view id e lo len =>
    intro vs h
    match vs, h with
    | [v], ⟨hi, hlen, hsz, hor⟩ =>
      have hlen' : lo + len ≤ (d.m id).2 := by rw [hl.m id hi]; exact hlen
      refine ⟨Nat.lt_of_lt_of_le hi hl.nx, hlen', hsz, ?_⟩
      rcases hor with ⟨h1, h2⟩ | ⟨b, cap, ty, n, base, hb, hv, h1, h2, h3, h4, h5⟩
      · exact Or.inl ⟨(by rw [hl.m id hi]; exact h1), h2⟩
      · exact Or.inr ⟨b, cap, ty, n, base, (by rw [hl.m id hi]; exact hb), hv, h1, h2, hl.shape _ _ h3, h4, h5⟩
  | aptr id e =>
    intro vs h
    match vs, h with
    | [v], ⟨hi, b, hb, hv⟩ => exact ⟨Nat.lt_of_lt_of_le hi hl.nx, b, by rw [hl.m id hi]; exact hb, hv⟩
  | agg l ih =>
    intro vs h
    match vs, h with
    | [v], ⟨cs, hv, hc⟩ => exact ⟨cs, hv, ih hc⟩
  | tup l ih =>
    intro vs h
    match vs, h with
    | [v], ⟨cs, hv, hc⟩ => exact ⟨cs, hv, ih hc⟩
  | fn f l ih =>
    intro vs h
    match vs, h with
    | [v], ⟨cs, hv, hc⟩ => exact ⟨cs, hv, ih hc⟩
  | nil =>
    intro vs h
    match vs, h with
    | [], _ => trivial
  | cons x y ihx ihy =>
    intro vs h
    match vs, h with
    | v :: vs, ⟨h1, h2⟩ => exact ⟨ihx h1, ihy h2⟩

/-- The block of an object holds it. -/
def OBR (c : Cx) (ob : Option Nat × Nat) : OB → Prop
  | .cells l => ∃ b arr ty, ob.1 = some b ∧ c.w.heap[b]? = some (.cells arr ty (0, 0)) ∧ AVR c l arr.toList
  | .row e xs => 0 < e.size ∧ xs.length = ob.2 ∧ xs.length * e.bytes ≤ 2 ^ 47 ∧ ((ob.1 = none ∧ xs = []) ∨ ∃ b arr ty, ob.1 = some b ∧ c.w.heap[b]? = some (.cells arr ty (0, 0)) ∧
      xs.length * e.size ≤ arr.size ∧ ∀ i (h : i < xs.length), Rep c.O c.w e ((arr.toList.drop (i * e.size)).take e.size) xs[i])

theorem OBR.move {c d : Cx} (hl : c.Le d) {ob : Option Nat × Nat} {o : OB} (h : OBR c ob o) (hb : ∀ b, ob.1 = some b → d.w.heap[b]? = c.w.heap[b]?) : OBR d ob o := by
  cases o with
  | cells l =>
    obtain ⟨b, arr, ty, e, hh, ha⟩ := h
    exact ⟨b, arr, ty, e, by rw [hb b e]; exact hh, ha.move hl⟩
  | row e xs =>
    obtain ⟨hs, hn0, hby, h⟩ := h
    refine ⟨hs, hn0, hby, ?_⟩
    rcases h with h | ⟨b, arr, ty, e1, hh, hn, hr⟩
    · exact .inl h
    · exact .inr ⟨b, arr, ty, e1, by rw [hb b e1]; exact hh, hn, fun i hi => (hr i hi).move hl.moves⟩

/-- What a temporary is known to hold: a value; a value if another temporary holds a given bool. -/
inductive EV where
  | av (a : AV)
  | when (t : Nat) (want : Bool) (a : AV)

/-- A state of the interpreter: what the temporaries hold, those that the present region has written apart ('loc'); the objects; a number above all objects' numbers. -/
structure St where
  loc : List (Nat × EV)
  env : List (Nat × Option AV)
  heap : List (Nat × OB)
  nx : Nat

def EVR (c : Cx) (tmps : Array Value) : EV → Value → Prop
  | .av a, v => AVR c a [v]
  | .when t want a, v => (tmps.getD t undef = .bool want → AVR c a [v]) ∧ (tmps.getD t undef ≠ .bool want → v = undef)

/-- What a temporary is known to hold. -/
def St.look (st : St) (t : Nat) : Option EV :=
  match find st.loc t with
  | some e => some e
  | none => match find st.env t with
    | some (some a) => some (.av a)
    | _ => none

/-- What is the same through a call: the world in which it began; the blocks that it must leave alone; those that were handed to it; the package variables; how many temporaries. -/
structure Frm where
  w0 : World
  F : Nat → Prop
  I : Nat → Prop
  gl : Nat → Option (Σ t : Ty, t.den)
  nt : Nat
  base : Nat
  m0 : Nat → Option Nat × Nat

def own (F : Nat → Prop) (m : Nat → Option Nat × Nat) (heap : List (Nat × OB)) (b : Nat) : Prop := F b ∨ ∃ id o, find heap id = some o ∧ (m id).1 = some b

def cx (fr : Frm) (m : Nat → Option Nat × Nat) (st : St) (w : World) : Cx := ⟨own fr.F m st.heap, m, st.nx, w⟩

/-- How a world has come from the one in which the call began. -/
structure Since (I : Nat → Prop) (w0 w : World) : Prop where
  os : w.os = w0.os
  tape : w.tape = w0.tape
  output : w.output = w0.output
  size : w0.heap.size ≤ w.heap.size
  kept : ∀ b, b < w0.heap.size → ¬ I b → w.heap[b]? = w0.heap[b]?
  shape : ∀ b s, w0.shape? b = some s → w.shape? b = some s
  froz : ∀ b, b < w0.heap.size → I b → ∀ off, w.frozen? ⟨b, off, none⟩ = w0.frozen? ⟨b, off, none⟩

structure HeapOk (fr : Frm) (m : Nat → Option Nat × Nat) (st : St) (w : World) : Prop where
  obj : ∀ id o, find st.heap id = some o → id < st.nx ∧ OBR (cx fr m st w) (m id) o
  inj : ∀ i j o o' b, find st.heap i = some o → find st.heap j = some o' → (m i).1 = some b → (m j).1 = some b → i = j
  apart : ∀ i o b, find st.heap i = some o → (m i).1 = some b → ¬ fr.F b ∧ (fr.w0.heap.size ≤ b ∨ fr.I b)
  since : Since fr.I fr.w0 w
  fsub : ∀ b, fr.F b → b < fr.w0.heap.size
  glob : ∀ g t x, fr.gl g = some ⟨t, x⟩ → AVR (cx fr m st w) (.iptr t x) [.pointer (some ⟨g, 0, none⟩)]
  anchor : ∀ i, i < fr.base → m i = fr.m0 i
  above : fr.base ≤ st.nx

/-- The frame's temporaries and the world fit the state. -/
structure Fits (fr : Frm) (m : Nat → Option Nat × Nat) (st : St) (a : Act) (w : World) : Prop where
  size : a.tmps.size = fr.nt
  defers : a.defers = []
  env : ∀ t ev, st.look t = some ev → EVR (cx fr m st w) a.tmps ev (a.tmps.getD t undef)
  hang : ∀ t u want x, find st.loc t = some (.when u want x) → (find st.loc u).isSome = true
  heap : HeapOk fr m st w

theorem Fits.moveEnv {fr : Frm} {m m' : Nat → Option Nat × Nat} {st st' : St} {a : Act} {w w' : World} (h : Fits fr m st a w) (hl : (cx fr m st w).Le (cx fr m' st' w'))
    (henv : st'.env = st.env) (hloc : st'.loc = st.loc) (hh : HeapOk fr m' st' w') : Fits fr m' st' a w' := by
  have hlook : ∀ t, st'.look t = st.look t := fun t => by simp only [St.look, henv, hloc]
  refine ⟨h.size, h.defers, ?_, ?_, hh⟩
  · intro t ev hf
    rw [hlook] at hf
    have := h.env t ev hf
    cases ev with
    | av x => exact AVR.move hl this
    | when u want x => exact ⟨fun hu => AVR.move hl (this.1 hu), this.2⟩
  · intro t u want x hf
    rw [hloc] at hf ⊢
    exact h.hang t u want x hf

/-- The world has grown: nothing that lay in it has turned. -/
theorem Le_of_below {fr : Frm} {m : Nat → Option Nat × Nat} {st : St} {w w' : World} (hb : Below w.heap.size w w') : (cx fr m st w).Le (cx fr m st w') := by
  refine ⟨fun _ _ => rfl, Nat.le_refl _, fun b off v hO hc => ⟨hO, ?_⟩, fun b s hs => ?_⟩
  · have hlt : b < w.heap.size := World.block_lt_of_cell? w ⟨b, off, none⟩ hc
    rw [← hc]
    exact hb.cell hlt
  · have hs' : w.shape? b = some s := hs
    have hlt : b < w.heap.size := by
      unfold World.shape? at hs'
      rcases Nat.lt_or_ge b w.heap.size with h | h
      · exact h
      · simp [Array.getElem?_eq_none h] at hs'
    show w'.shape? b = some s
    rw [← hs]
    show w'.shape? b = w.shape? b
    unfold World.shape?
    rw [hb.block b hlt]

theorem lt_of_some {w : World} {b : Nat} {o : Obj} (h : w.heap[b]? = some o) : b < w.heap.size := by
  rcases Nat.lt_or_ge b w.heap.size with h' | h'
  · exact h'
  · simp [Array.getElem?_eq_none h'] at h

theorem OBR.lt {c : Cx} {ob : Option Nat × Nat} {b : Nat} {o : OB} (h : OBR c ob o) (hb : ob.1 = some b) : b < c.w.heap.size := by
  cases o with
  | cells l =>
    obtain ⟨b', arr, ty, e, hh, _⟩ := h
    rw [hb] at e; cases e; exact lt_of_some hh
  | row e xs =>
    obtain ⟨_, _, _, h | ⟨b', arr, ty, e1, hh, _⟩⟩ := h
    · rw [hb] at h; cases h.1
    · rw [hb] at e1; cases e1; exact lt_of_some hh

theorem Since.grow {I : Nat → Prop} {w0 w w' : World} (h : Since I w0 w) (hb : Below w.heap.size w w') : Since I w0 w' where
  os := hb.os.trans h.os
  tape := hb.tape.trans h.tape
  output := hb.output.trans h.output
  size := Nat.le_trans h.size hb.size
  kept := fun b hlt hI => (hb.block b (Nat.lt_of_lt_of_le hlt h.size)).trans (h.kept b hlt hI)
  shape := fun b s hs => by
    have h1 := h.shape b s hs
    have hlt : b < w.heap.size := by
      unfold World.shape? at h1
      rcases Nat.lt_or_ge b w.heap.size with h' | h'
      · exact h'
      · simp [Array.getElem?_eq_none h'] at h1
    rw [← h1]
    simp only [World.shape?, hb.block b hlt]
  froz := fun b hlt hI off => (hb.frozen (p := ⟨b, off, none⟩) (Nat.lt_of_lt_of_le hlt h.size)).trans (h.froz b hlt hI off)

theorem HeapOk.grow {fr : Frm} {m : Nat → Option Nat × Nat} {st : St} {w w' : World} (h : HeapOk fr m st w) (hb : Below w.heap.size w w') : HeapOk fr m st w' where
  obj := fun id o hf => by
    obtain ⟨h1, h2⟩ := h.obj id o hf
    refine ⟨h1, OBR.move (Le_of_below hb) h2 fun b e => hb.block b (h2.lt e)⟩
  inj := h.inj
  apart := h.apart
  since := h.since.grow hb
  fsub := h.fsub
  glob := fun g t x hg => AVR.move (Le_of_below hb) (h.glob g t x hg)
  anchor := h.anchor
  above := h.above

theorem Fits.grow {fr : Frm} {m : Nat → Option Nat × Nat} {st : St} {a : Act} {w w' : World} (h : Fits fr m st a w) (hb : Below w.heap.size w w') : Fits fr m st a w' :=
  h.moveEnv (Le_of_below hb) rfl rfl (h.heap.grow hb)

/-- The temporary t now holds ev. -/
def St.set (st : St) (t : Nat) (ev : EV) : St := { st with loc := (t, ev) :: st.loc }
/-- A region ends: what it has written joins the rest. -/
def settle : List (Nat × EV) → List (Nat × Option AV) → List (Nat × Option AV)
  | [], env => env
  | (k, .av a) :: r, env => (k, some a) :: settle r env
  | (k, .when _ _ _) :: r, env => (k, none) :: settle r env
def St.close (st : St) : St := { st with loc := [], env := settle st.loc st.env }

theorem find_settle (env : List (Nat × Option AV)) (t : Nat) : ∀ loc : List (Nat × EV), find (settle loc env) t = match find loc t with
    | some (.av a) => some (some a)
    | some (.when _ _ _) => some none
    | none => find env t
  | [] => rfl
  | (k, .av a) :: r => by
    have ih := find_settle env t r
    simp only [settle, find_cons]
    by_cases h : k = t <;> simp [h, ih]
  | (k, .when _ _ _) :: r => by
    have ih := find_settle env t r
    simp only [settle, find_cons]
    by_cases h : k = t <;> simp [h, ih]

theorem St.look_close {st : St} {t : Nat} {ev : EV} (h : st.close.look t = some ev) : st.look t = some ev := by
  simp only [St.look, St.close, find, find_settle] at h ⊢
  cases hl : find st.loc t with
  | none => rw [hl] at h; exact h
  | some e =>
    rw [hl] at h
    cases e with
    | av x => exact h
    | when _ _ _ => simp at h

/-- Only the objects, and the number above them, are asked of a state here. -/
theorem HeapOk.of {fr : Frm} {m : Nat → Option Nat × Nat} {st st' : St} {w : World} (h : HeapOk fr m st w) (e1 : st'.heap = st.heap) (e2 : st'.nx = st.nx) : HeapOk fr m st' w := by
  cases st; cases st'; cases e1; cases e2
  exact ⟨h.obj, h.inj, h.apart, h.since, h.fsub, h.glob, h.anchor, h.above⟩

theorem Fits.close {fr : Frm} {m : Nat → Option Nat × Nat} {st : St} {a : Act} {w : World} (h : Fits fr m st a w) : Fits fr m st.close a w where
  size := h.size
  defers := h.defers
  env := fun t ev hf => h.env t ev (St.look_close hf)
  hang := fun t u want x hf => by simp [St.close, find] at hf
  heap := h.heap.of rfl rfl

theorem St.look_set (st : St) (d : Nat) (ev : EV) (t : Nat) : (st.set d ev).look t = if d = t then some ev else st.look t := by
  simp only [St.look, St.set, find_cons]
  by_cases h : d = t <;> simp [h]

theorem getD_put (a : Act) (d t : Nat) (v : Value) (hd : d < a.tmps.size) : (a.put (some d) v).tmps.getD t undef = if d = t then v else a.tmps.getD t undef := by
  simp only [Act.put, Array.getD_eq_getD_getElem?, Array.getElem?_setIfInBounds]
  by_cases h : d = t
  · subst h; simp [hd]
  · simp [h]

/-- An operation has written the temporary d, which its region had not written before. -/
theorem Fits.put {fr : Frm} {m : Nat → Option Nat × Nat} {st : St} {a : Act} {w : World} (h : Fits fr m st a w) {d : Nat} {ev : EV} {v : Value}
    (hd : d < fr.nt) (hn : find st.loc d = none) (hv : EVR (cx fr m st w) (a.put (some d) v).tmps ev v)
    (hw : ∀ u want x, ev = .when u want x → (find st.loc u).isSome = true) : Fits fr m (st.set d ev) (a.put (some d) v) w where
  size := by simp [Act.put, h.size]
  defers := by simp [Act.put, h.defers]
  env := by
    intro t ev' hf
    rw [St.look_set] at hf
    rw [getD_put a d t v (by rw [h.size]; exact hd)]
    by_cases hdt : d = t
    · simp only [hdt, if_true, Option.some.injEq] at hf ⊢
      subst hf; subst hdt
      exact hv
    · simp only [hdt, if_false] at hf ⊢
      have := h.env t ev' hf
      cases ev' with
      | av x => exact this
      | when u want x =>
        have hne : d ≠ u := by
          intro e
          subst e
          simp only [St.look] at hf
          cases hl : find st.loc t with
          | none =>
            rw [hl] at hf
            cases he : find st.env t with
            | none => simp [he] at hf
            | some o => cases o <;> simp [he] at hf
          | some e' =>
            rw [hl] at hf
            simp only [Option.some.injEq] at hf
            subst hf
            have := h.hang t d want x hl
            rw [hn] at this
            cases this
        show ((a.put (some d) v).tmps.getD u undef = .bool want → _) ∧ ((a.put (some d) v).tmps.getD u undef ≠ .bool want → _)
        rw [getD_put a d u v (by rw [h.size]; exact hd), if_neg hne]
        exact this
  hang := by
    intro t u want x hf
    simp only [St.set, find_cons] at hf ⊢
    by_cases hdt : d = t
    · simp only [hdt, if_true, Option.some.injEq] at hf
      have := hw u want x hf
      by_cases hdu : d = u <;> simp [hdu, this]
    · simp only [hdt, if_false] at hf
      have := h.hang t u want x hf
      by_cases hdu : d = u <;> simp [hdu, this]
  heap := h.heap.of rfl rfl

end Go.Proofs.YtlkggeaibgaohaaGreatDoor.Sim
