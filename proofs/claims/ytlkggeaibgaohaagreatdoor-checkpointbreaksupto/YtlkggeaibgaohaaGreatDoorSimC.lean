/- Operands, and the change between a struct's datum and its cells. -/
import Derived.Test.YtlkggeaibgaohaaGreatDoorSimB
namespace Go.Proofs.YtlkggeaibgaohaaGreatDoor.Sim
open Go Go.RowKit

def kMin : IntKind → Int
  | .i8 => -128 | .i16 => -32768 | .i32 => -2147483648 | .i64 => -9223372036854775808 | .u8 => 0 | .u16 => 0 | .u32 => 0 | .u64 => 0
def kMax : IntKind → Int
  | .i8 => 127 | .i16 => 32767 | .i32 => 2147483647 | .i64 => 9223372036854775807 | .u8 => 255 | .u16 => 65535 | .u32 => 4294967295 | .u64 => 18446744073709551615
theorem kMin_eq (k : IntKind) : k.min = kMin k := by cases k <;> rfl
theorem kMax_eq (k : IntKind) : k.max = kMax k := by cases k <;> rfl
theorem inKind_iff (k : IntKind) (n : Int) : inKind k n ↔ kMin k ≤ n ∧ n ≤ kMax k := by rw [← kMin_eq, ← kMax_eq]; rfl

/-- The abstract value of a constant. -/
def ofConst : Value → Option AV
  | .int k n => cond (decide (kMin k ≤ n) && decide (n ≤ kMax k)) (some (.imm (.int k) n)) none
  | .bool b => some (.imm .bool b)
  | .string s => cond (Nat.ble s.size 4294967296) (some (.imm .str s)) none
  | .func (.func f) first caps => cond (Nat.beq first.size 0 && Nat.beq caps.size 0) (some (.fn f .nil)) none
  | .tuple _ => none
  | v => some (.const v)

theorem ValRep.ofLeaf {O : Nat → Prop} {w : World} {t : Ty} {v : Value} {x : t.den} (ht : t.isAgg = false) (h : Rep O w t [v] x) : ValRep O w t v x :=
  ⟨[v], h, by rw [ht]; rfl⟩

theorem ofConst_sound (c : Cx) {v : Value} {a : AV} (h : ofConst v = some a) : AVR c a [v] := by
  cases v with
  | int k n =>
    simp only [ofConst] at h
    cases hb : (decide (kMin k ≤ n) && decide (n ≤ kMax k)) with
    | false => rw [hb] at h; cases h
    | true =>
      rw [hb] at h
      simp only [cond_true, Option.some.injEq] at h
      subst h
      simp only [Bool.and_eq_true, decide_eq_true_eq] at hb
      exact ValRep.ofLeaf rfl (.int ((inKind_iff k n).2 hb))
  | bool b => simp only [ofConst, Option.some.injEq] at h; subst h; exact ValRep.ofLeaf rfl (.bool b)
  | string s =>
    simp only [ofConst] at h
    cases hb : Nat.ble s.size 4294967296 with
    | false => rw [hb] at h; cases h
    | true =>
      rw [hb] at h
      simp only [cond_true, Option.some.injEq] at h
      subst h
      have := Nat.le_of_ble_eq_true hb
      exact ValRep.ofLeaf rfl (.str (by omega))
  | func fn first caps =>
    cases fn with
    | func f =>
      simp only [ofConst] at h
      cases hb : (Nat.beq first.size 0 && Nat.beq caps.size 0) with
      | false => rw [hb] at h; cases h
      | true =>
        rw [hb] at h
        simp only [cond_true, Option.some.injEq] at h
        subst h
        simp only [Bool.and_eq_true] at hb
        obtain ⟨h1, h2⟩ := hb
        have e1 : first = #[] := Array.eq_empty_of_size_eq_zero (Nat.eq_of_beq_eq_true h1)
        have e2 : caps = #[] := Array.eq_empty_of_size_eq_zero (Nat.eq_of_beq_eq_true h2)
        subst e1; subst e2
        exact ⟨#[], rfl, trivial⟩
    | _ => simp only [ofConst, Option.some.injEq] at h; subst h; rfl
  | tuple _ => simp [ofConst] at h
  | _ => simp only [ofConst, Option.some.injEq] at h; subst h; rfl

/-- The abstract value of an operand. -/
def ev (gl : Nat → Option (Σ t : Ty, t.den)) (st : St) : Operand → Option AV
  | .tmp t => match st.look t with
    | some (.av a) => some a
    | _ => none
  | .const v => ofConst v
  | .global g => (gl g).map fun s => .iptr s.1 s.2
  | .func f => some (.fn f .nil)

theorem ev_sound {fr : Frm} {m : Nat → Option Nat × Nat} {st : St} {a : Act} {w : World} (h : Fits fr m st a w) {x : Operand} {v : AV} (he : ev fr.gl st x = some v) :
    AVR (cx fr m st w) v [a.eval x] := by
  cases x with
  | tmp t =>
    simp only [ev] at he
    cases hl : st.look t with
    | none => rw [hl] at he; cases he
    | some e =>
      rw [hl] at he
      cases e with
      | av y => simp only [Option.some.injEq] at he; subst he; exact h.env t _ hl
      | when _ _ _ => cases he
  | const u => exact ofConst_sound _ he
  | global g =>
    simp only [ev] at he
    cases hg : fr.gl g with
    | none => rw [hg] at he; cases he
    | some s => rw [hg] at he; simp only [Option.map_some, Option.some.injEq] at he; subst he; exact h.heap.glob g s.1 s.2 hg
  | func f => simp only [ev, Option.some.injEq] at he; subst he; exact ⟨#[], rfl, trivial⟩

/-- The operands' values, as a list. -/
def evs (gl : Nat → Option (Σ t : Ty, t.den)) (st : St) : List Operand → Option AV
  | [] => some .nil
  | x :: r => match ev gl st x with
    | none => none
    | some a => match evs gl st r with
      | none => none
      | some l => some (.cons a l)
theorem evs_sound {fr : Frm} {m : Nat → Option Nat × Nat} {st : St} {a : Act} {w : World} (h : Fits fr m st a w) : ∀ {l : List Operand} {v : AV}, evs fr.gl st l = some v →
    AVR (cx fr m st w) v (l.map a.eval)
  | [], v, he => by simp only [evs, Option.some.injEq] at he; subst he; trivial
  | x :: r, v, he => by
    simp only [evs] at he
    cases h1 : ev fr.gl st x with
    | none => rw [h1] at he; cases he
    | some y =>
      rw [h1] at he
      cases h2 : evs fr.gl st r with
      | none => rw [h2] at he; cases he
      | some l =>
        rw [h2] at he
        simp only [Option.some.injEq] at he
        subst he
        exact ⟨ev_sound h h1, evs_sound h h2⟩

def Ty.isLeaf : Ty → Bool
  | .int _ => true
  | .bool => true
  | .str => true
  | .slice _ => true
  | .tslice _ => true
  | _ => false
theorem Ty.leaf_size {t : Ty} (h : t.isLeaf = true) : t.size = 1 ∧ t.isAgg = false := by
  cases t <;> first | (exact ⟨rfl, rfl⟩) | (simp [Ty.isLeaf] at h)

/-- The datum as one of another type: a slice whose capacity is its length is a slice, too. -/
def castW {a : Ty} (b : Ty) (x : a.den) : Option b.den :=
  match a, x with
  | .tslice e, x => match b with
    | .slice e' => Ty.cast (a := .slice e) (.slice e') x
    | b => Ty.cast (a := .tslice e) b x
  | _, x => Ty.cast b x
theorem castW_sound {O : Nat → Prop} {w : World} {a b : Ty} {v : Value} {x : a.den} {y : b.den} (h : castW b x = some y) (hv : ValRep O w a v x) : ValRep O w b v y := by
  have plain : ∀ {a : Ty} {x : a.den}, Ty.cast b x = some y → ValRep O w a v x → ValRep O w b v y := fun h hv => by
    obtain ⟨e, rfl⟩ := Ty.cast_some h
    subst e
    exact hv
  cases a <;> try (exact plain h hv)
  rename_i e
  cases b <;> try (exact plain h hv)
  rename_i e'
  have h' : Ty.cast (a := .slice e) (.slice e') x = some y := h
  obtain ⟨e2, rfl⟩ := Ty.cast_some h'
  cases e2
  obtain ⟨cs, hr, hh⟩ := hv
  cases hr with
  | tslice hr => exact ⟨_, hr, hh⟩

/-- The datum of a leaf. Slices of the rows in 'hp' may be read as trees. -/
def leafGet (hp : List (Nat × OB)) (t : Ty) : AV → Option t.den
  | .imm _ x => castW t x
  | .const (.slice none 0 0) => match t with
    | .slice e => cond (Nat.blt 0 e.size) (some []) none
    | .tslice e => cond (Nat.blt 0 e.size) (some []) none
    | _ => none
  | .view id e lo len => match find hp id with
    | some (.row e' xs) => cond (Ty.eqb e e') (Ty.cast (a := .slice e') t ((xs.drop lo).take len)) none
    | _ => none
  | _ => none

def leafStep (hp : List (Nat × OB)) (t : Ty) : AV → Option (t.den × AV)
  | .cons h r => match leafGet hp t h with
    | none => none
    | some x => some (x, r)
  | _ => none

/-- The datum of type t that the first of these cells hold, and the other cells. -/
def mkCells (hp : List (Nat × OB)) : Nat → (t : Ty) → AV → Option (t.den × AV)
  | 0, _, _ => none
  | n + 1, t, l => match t with
    | .unit => some ((), l)
    | .pair a b => match mkCells hp n a l with
      | none => none
      | some x => match mkCells hp n b x.2 with
        | none => none
        | some y => some ((x.1, y.1), y.2)
    | .struct b => mkCells hp n b l
    | .named r => match mkCells hp n (Ty.body r) l with
      | none => none
      | some x => some (reroll r x.1, x.2)
    | .arr _ _ => none
    | .int k => leafStep hp (.int k) l
    | .bool => leafStep hp .bool l
    | .str => leafStep hp .str l
    | .slice e => leafStep hp (.slice e) l
    | .tslice e => leafStep hp (.tslice e) l

/-- The datum of type t that a value is. -/
def AV.get (hp : List (Nat × OB)) (t : Ty) : AV → Option t.den
  | .agg l => cond t.isAgg (match mkCells hp 100 t l with
    | some (x, .nil) => some x
    | _ => none) none
  | a => leafGet hp t a

/-- The cells of a datum, ahead of other cells. -/
def flat : Nat → (t : Ty) → t.den → AV → Option AV
  | 0, _, _, _ => none
  | n + 1, t, x, l => match t, x with
    | .unit, _ => some l
    | .pair a b, x => match flat n b x.2 l with
      | none => none
      | some l' => flat n a x.1 l'
    | .struct b, x => flat n b x l
    | .named r, x => flat n (Ty.body r) (unroll r x) l
    | .arr _ _, _ => none
    | .int k, x => some (.cons (.imm (.int k) x) l)
    | .bool, x => some (.cons (.imm .bool x) l)
    | .str, x => some (.cons (.imm .str x) l)
    | .slice e, x => some (.cons (.imm (.slice e) x) l)
    | .tslice e, x => some (.cons (.imm (.tslice e) x) l)

def constList : List Value → Option AV
  | [] => some .nil
  | v :: r => match ofConst v, constList r with
    | some a, some l => some (.cons a l)
    | _, _ => none
/-- The cells of a value. -/
def AV.cells : AV → Option AV
  | .imm t x => cond t.isAgg (flat 100 t x .nil) (cond t.isLeaf (some (.cons (.imm t x) .nil)) none)
  | .agg l => some l
  | .const (.agg cs) => constList cs.toList
  | .tup _ => none
  | .nil => none
  | .cons _ _ => none
  | a => some (.cons a .nil)

theorem constList_sound (c : Cx) : ∀ {l : List Value} {a : AV}, constList l = some a → AVR c a l
  | [], a, h => by simp only [constList, Option.some.injEq] at h; subst h; trivial
  | v :: r, a, h => by
    simp only [constList] at h
    cases h1 : ofConst v with
    | none => rw [h1] at h; cases h
    | some x =>
      cases h2 : constList r with
      | none => rw [h1, h2] at h; cases h
      | some l =>
        rw [h1, h2] at h
        simp only [Option.some.injEq] at h
        subst h
        exact ⟨ofConst_sound c h1, constList_sound c h2⟩

/-- The objects hp lie as they say, outside the blocks O; and O is a part of the blocks apart. -/
structure Lends (c : Cx) (hp : List (Nat × OB)) (O : Nat → Prop) : Prop where
  sub : ∀ b, O b → c.O b
  obj : ∀ id o, find hp id = some o → OBR c (c.m id) o
  out : ∀ id o b, find hp id = some o → (c.m id).1 = some b → ¬ O b

theorem Lends.none (c : Cx) : Lends c [] c.O := ⟨fun _ h => h, fun _ _ h => by simp [find] at h, fun _ _ _ h => by simp [find] at h⟩

theorem Moves.sub {O O' : Nat → Prop} (w : World) (h : ∀ b, O' b → O b) : Moves O w O' w := fun b _ _ hb hc => ⟨fun k => hb (h b k), hc⟩

theorem Rep.leaf {O : Nat → Prop} {w : World} {t : Ty} {cs : List Value} {x : t.den} (h : Rep O w t cs x) (ht : t.size = 1) : ∃ v, cs = [v] := by
  have := h.length
  rw [ht] at this
  match cs, this with
  | [v], _ => exact ⟨v, rfl⟩

theorem cell_of_arr {w : World} {b : Nat} {arr : Array Value} {ty : TypeId} {fr : Nat × Nat} (h : w.heap[b]? = some (.cells arr ty fr)) (j : Nat) :
    w.cell? ⟨b, j, none⟩ = arr[j]? := by
  simp [World.cell?, h]

theorem leafGet_sound {c : Cx} {hp : List (Nat × OB)} {O : Nat → Prop} (hL : Lends c hp O) {t : Ty} {a : AV} {x : t.den} (hg : leafGet hp t a = some x) {vs : List Value}
    (h : AVR c a vs) : ∃ v, vs = [v] ∧ ValRep O c.w t v x := by
  cases a with
  | imm s y =>
    match vs, h with
    | [v], h =>
      exact ⟨v, rfl, castW_sound hg (ValRep.move (Moves.sub _ hL.sub) h)⟩
  | const u =>
    match vs, h with
    | [v], h =>
      have e : v = u := h
      subst e
      refine ⟨v, rfl, ?_⟩
      unfold leafGet at hg
      split at hg
      · rename_i heq; simp at heq
      · rename_i heq
        simp only [AV.const.injEq] at heq
        subst heq
        cases t with
        | slice e =>
          cases hb : Nat.blt 0 e.size with
          | false => simp [hb] at hg
          | true =>
            simp only [hb, cond_true, Option.some.injEq] at hg
            subst hg
            exact ValRep.ofLeaf rfl (.slice none 0 0 (fun _ => []) rfl (Nat.le_refl _) (Nat.zero_le _) (Nat.lt_of_succ_le (Nat.le_of_ble_eq_true hb)) (by omega) (.inl rfl) (fun i hi => absurd hi (Nat.not_lt_zero i)))
        | tslice e =>
          cases hb : Nat.blt 0 e.size with
          | false => simp [hb] at hg
          | true =>
            simp only [hb, cond_true, Option.some.injEq] at hg
            subst hg
            exact ValRep.ofLeaf rfl (.tslice (.slice none 0 0 (fun _ => []) rfl (Nat.le_refl _) (Nat.zero_le _) (Nat.lt_of_succ_le (Nat.le_of_ble_eq_true hb)) (by omega) (.inl rfl) (fun i hi => absurd hi (Nat.not_lt_zero i))))
        | _ => simp at hg
      · rename_i heq; simp at heq
      · simp at hg
  | view id e lo len =>
    match vs, h with
    | [v], ⟨hi, hlen, hsz, h⟩ =>
      refine ⟨v, rfl, ?_⟩
      simp only [leafGet] at hg
      cases hf : find hp id with
      | none => rw [hf] at hg; cases hg
      | some o =>
        rw [hf] at hg
        cases o with
        | cells l => cases hg
        | row e' xs =>
          simp only at hg
          cases he : Ty.eqb e e' with
          | false => rw [he] at hg; cases hg
          | true =>
            rw [he] at hg
            simp only [cond_true] at hg
            have := Ty.eqb_eq he
            subst this
            obtain ⟨ht, rfl⟩ := Ty.cast_some hg
            subst ht
            obtain ⟨_, hn, hby, hO⟩ := hL.obj id _ hf
            have hxl : ((xs.drop lo).take len).length = len := by simp only [List.length_take, List.length_drop]; omega
            rcases h with ⟨h1, ⟨base0, rfl⟩, rfl, rfl⟩ | ⟨b, cap, ty, n, base, hb, rfl, hcap, hmax, hshape, hin, hbase⟩
            · exact ValRep.ofLeaf rfl (.slice base0 0 0 (fun _ => []) (by simp) (Nat.le_refl _) (Nat.zero_le _) hsz (by omega) (.inl rfl) (fun i hi => by simp at hi))
            · rcases hO with ⟨h0, _⟩ | ⟨b', arr, ty', hb', hh, hfit, hrep⟩
              · rw [hb] at h0; cases h0
              · rw [hb] at hb'; cases hb'
                have hle : len * e.bytes ≤ xs.length * e.bytes := Nat.mul_le_mul_right _ (by omega)
                refine ValRep.ofLeaf rfl (.slice base len cap (fun i => (arr.toList.drop ((lo + i) * e.size)).take e.size) hxl hcap hmax hsz (by omega) ?_ ?_)
                · rcases Nat.eq_zero_or_pos len with h0 | hp0
                  · exact .inl h0
                  · rcases hbase with hc0 | hbase
                    · omega
                    · refine .inr ⟨b, lo * e.size, hbase, hL.out id _ b hf hb, fun i hi j hj => ?_⟩
                      rw [cell_of_arr hh, List.getElem?_take_of_lt hj, List.getElem?_drop, Nat.add_mul, Array.getElem?_toList]
                · intro i hi
                  have hi' : i < len := by rw [hxl] at hi; exact hi
                  have := (hrep (lo + i) (by omega)).move (Moves.sub c.w hL.sub)
                  simpa only [List.getElem_take, List.getElem_drop] using this
  | _ => simp [leafGet] at hg

theorem mkCells_sound {c : Cx} {hp : List (Nat × OB)} {O : Nat → Prop} (hL : Lends c hp O) : ∀ (n : Nat) {t : Ty} {l : AV} {x : t.den} {r : AV}, mkCells hp n t l = some (x, r) →
    ∀ {vs : List Value}, AVR c l vs → ∃ cs ds, vs = cs ++ ds ∧ Rep O c.w t cs x ∧ AVR c r ds := by
  intro n
  induction n with
  | zero => intro t l x r h; cases h
  | succ n ih =>
    intro t l x r h vs hv
    have leaf : ∀ (s : Ty) (y : s.den), s.isLeaf = true → leafStep hp s l = some (y, r) → ∃ cs ds, vs = cs ++ ds ∧ Rep O c.w s cs y ∧ AVR c r ds := by
      intro s y hs hq
      cases l with
      | cons a b =>
        simp only [leafStep] at hq
        cases hg : leafGet hp s a with
        | none => rw [hg] at hq; cases hq
        | some z =>
          rw [hg] at hq
          simp only [Option.some.injEq, Prod.mk.injEq] at hq
          obtain ⟨rfl, rfl⟩ := hq
          match vs, hv with
          | v :: vs, ⟨h1, h2⟩ =>
            obtain ⟨v', e, cs, hr, hv'⟩ := leafGet_sound hL hg h1
            cases e
            obtain ⟨u, hu⟩ := hr.leaf (Ty.leaf_size hs).1
            subst hu
            rw [(Ty.leaf_size hs).2] at hv'
            simp only [Bool.false_eq_true, if_false, List.headD_cons] at hv'
            subst hv'
            exact ⟨[v], vs, rfl, hr, h2⟩
      | _ => cases hq
    cases t with
    | unit => simp only [mkCells, Option.some.injEq, Prod.mk.injEq] at h; obtain ⟨_, rfl⟩ := h; exact ⟨[], vs, rfl, .unit, hv⟩
    | pair a b =>
      simp only [mkCells] at h
      cases h1 : mkCells hp n a l with
      | none => rw [h1] at h; cases h
      | some p =>
        rw [h1] at h
        simp only at h
        cases h2 : mkCells hp n b p.2 with
        | none => rw [h2] at h; cases h
        | some q =>
          rw [h2] at h
          simp only [Option.some.injEq, Prod.mk.injEq] at h
          obtain ⟨rfl, rfl⟩ := h
          obtain ⟨cs, ds, rfl, r1, a1⟩ := ih h1 hv
          obtain ⟨cs2, ds2, rfl, r2, a2⟩ := ih h2 a1
          exact ⟨cs ++ cs2, ds2, by rw [List.append_assoc], .pair r1 r2, a2⟩
    | struct b =>
      simp only [mkCells] at h
      obtain ⟨cs, ds, e, r1, a1⟩ := ih h hv
      exact ⟨cs, ds, e, .struct r1, a1⟩
    | named k =>
      simp only [mkCells] at h
      cases h1 : mkCells hp n (Ty.body k) l with
      | none => rw [h1] at h; cases h
      | some p =>
        rw [h1] at h
        simp only [Option.some.injEq, Prod.mk.injEq] at h
        obtain ⟨rfl, rfl⟩ := h
        obtain ⟨cs, ds, e, r1, a1⟩ := ih h1 hv
        exact ⟨cs, ds, e, .named (by rw [unroll_reroll]; exact r1), a1⟩
    | arr _ _ => simp [mkCells] at h
    | int k => exact leaf _ _ rfl h
    | bool => exact leaf _ _ rfl h
    | str => exact leaf _ _ rfl h
    | slice e => exact leaf _ _ rfl h
    | tslice e => exact leaf _ _ rfl h

theorem AVR.nil_inv {c : Cx} {vs : List Value} (h : AVR c .nil vs) : vs = [] := by
  cases vs with
  | nil => rfl
  | cons _ _ => cases h

theorem AV.get_sound {c : Cx} {hp : List (Nat × OB)} {O : Nat → Prop} (hL : Lends c hp O) {t : Ty} {a : AV} {x : t.den} (hg : a.get hp t = some x) {v : Value}
    (h : AVR c a [v]) : ValRep O c.w t v x := by
  have rest : leafGet hp t a = some x → ValRep O c.w t v x := fun h1 => by
    obtain ⟨v', e, hr⟩ := leafGet_sound hL h1 h
    cases e
    exact hr
  cases a with
  | agg l =>
    simp only [AV.get] at hg
    cases ha : t.isAgg with
    | false => rw [ha] at hg; cases hg
    | true =>
      rw [ha] at hg
      simp only [cond_true] at hg
      cases hm : mkCells hp 100 t l with
      | none => rw [hm] at hg; cases hg
      | some p =>
        rw [hm] at hg
        obtain ⟨y, r⟩ := p
        cases r with
        | nil =>
          simp only [Option.some.injEq] at hg
          subst hg
          obtain ⟨cs, rfl, hc⟩ := h
          obtain ⟨ds, es, e, hr, hn⟩ := mkCells_sound hL _ hm hc
          have := hn.nil_inv
          subst this
          rw [List.append_nil] at e
          exact ⟨ds, hr, by rw [ha, ← e]; simp⟩
        | _ => cases hg
  | _ => exact rest hg

theorem flat_sound {c : Cx} : ∀ (n : Nat) {t : Ty} {x : t.den} {l r : AV}, flat n t x l = some r → ∀ {cs ds : List Value}, Rep c.O c.w t cs x → AVR c l ds → AVR c r (cs ++ ds) := by
  intro n
  induction n with
  | zero => intro t x l r h; cases h
  | succ n ih =>
    intro t x l r h cs ds hr hl
    cases t with
    | unit => simp only [flat, Option.some.injEq] at h; subst h; cases hr; exact hl
    | pair a b =>
      simp only [flat] at h
      cases h1 : flat n b x.2 l with
      | none => rw [h1] at h; cases h
      | some l' =>
        rw [h1] at h
        simp only at h
        cases hr with
        | pair ra rb => rw [List.append_assoc]; exact ih h ra (ih h1 rb hl)
    | struct b => simp only [flat] at h; cases hr with | struct hr => exact ih h hr hl
    | named k => simp only [flat] at h; cases hr with | named hr => exact ih h hr hl
    | arr _ _ => simp [flat] at h
    | int k =>
      simp only [flat, Option.some.injEq] at h; subst h
      obtain ⟨v, rfl⟩ := hr.leaf rfl
      exact ⟨ValRep.ofLeaf rfl hr, hl⟩
    | bool =>
      simp only [flat, Option.some.injEq] at h; subst h
      obtain ⟨v, rfl⟩ := hr.leaf rfl
      exact ⟨ValRep.ofLeaf rfl hr, hl⟩
    | str =>
      simp only [flat, Option.some.injEq] at h; subst h
      obtain ⟨v, rfl⟩ := hr.leaf rfl
      exact ⟨ValRep.ofLeaf rfl hr, hl⟩
    | slice e =>
      simp only [flat, Option.some.injEq] at h; subst h
      obtain ⟨v, rfl⟩ := hr.leaf rfl
      exact ⟨ValRep.ofLeaf rfl hr, hl⟩
    | tslice e =>
      simp only [flat, Option.some.injEq] at h; subst h
      obtain ⟨v, rfl⟩ := hr.leaf rfl
      exact ⟨ValRep.ofLeaf rfl hr, hl⟩

theorem AV.cells_sound {c : Cx} {a l : AV} {v : Value} (h : a.cells = some l) (hv : AVR c a [v]) : AVR c l v.cells.toList ∧ (v.cells.toList ≠ [v] → ∃ cs, v = .agg cs) := by
  have tail : ∀ v : Value, v.cells.toList ≠ [v] → ∃ cs, v = .agg cs := fun v hn => by
    cases v <;> first | exact ⟨_, rfl⟩ | exact absurd rfl hn
  refine ⟨?_, tail v⟩
  have one : (∀ cs, v ≠ .agg cs) → v.cells.toList = [v] := fun hn => by
    cases v <;> first | rfl | exact absurd rfl (hn _)
  cases a with
  | imm t x =>
    simp only [AV.cells] at h
    obtain ⟨cs, hr, he⟩ := hv
    cases ha : t.isAgg with
    | true =>
      rw [ha] at h he
      simp only [cond_true, if_true] at h he
      subst he
      have := flat_sound 100 h hr (ds := []) trivial
      simpa [Value.cells] using this
    | false =>
      rw [ha] at h he
      simp only [cond_false, Bool.false_eq_true, if_false] at h he
      cases hlf : t.isLeaf with
      | false => rw [hlf] at h; cases h
      | true =>
      rw [hlf] at h
      simp only [cond_true, Option.some.injEq] at h
      subst h
      have hv : v.cells.toList = [v] := one fun cs' e => by
        subst e
        cases hr with
        | int _ => simp at he
        | bool _ => simp at he
        | str _ => simp at he
        | slice => simp at he
        | tslice _ => simp at he
        | _ => simp [Ty.isLeaf] at hlf
      rw [hv]
      exact ⟨⟨cs, hr, by rw [ha]; exact he⟩, trivial⟩
  | agg l' =>
    simp only [AV.cells, Option.some.injEq] at h; subst h
    obtain ⟨cs, rfl, hc⟩ := hv
    exact hc
  | const u =>
    have e : v = u := hv
    subst e
    cases v <;> simp only [AV.cells, Option.some.injEq] at h <;> first | (subst h; exact ⟨rfl, trivial⟩) | exact constList_sound c h
  | tup _ => cases h
  | nil => cases h
  | cons _ _ => cases h
  | iptr t x =>
    simp only [AV.cells, Option.some.injEq] at h; subst h
    rw [one (fun cs e => by obtain ⟨b, off, ds, hv, _⟩ := hv; rw [hv] at e; cases e)]
    exact ⟨hv, trivial⟩
  | ptr id off =>
    simp only [AV.cells, Option.some.injEq] at h; subst h
    rw [one (fun cs e => by obtain ⟨_, b, _, hv⟩ := hv; rw [hv] at e; cases e)]
    exact ⟨hv, trivial⟩
  | eptr id e i p =>
    simp only [AV.cells, Option.some.injEq] at h; subst h
    rw [one (fun cs e => by obtain ⟨_, _, b, d, _, _, hv⟩ := hv; rw [hv] at e; cases e)]
    exact ⟨hv, trivial⟩
  | view id e lo len =>
    simp only [AV.cells, Option.some.injEq] at h; subst h
    rw [one (fun cs e => by
      obtain ⟨_, _, _, ⟨_, ⟨_, hv⟩, _⟩ | ⟨b, cap, ty, n, base, _, hv, _⟩⟩ := hv <;> (rw [hv] at e; cases e))]
    exact ⟨hv, trivial⟩
  | aptr id e =>
    simp only [AV.cells, Option.some.injEq] at h; subst h
    rw [one (fun cs e => by obtain ⟨_, b, _, hv⟩ := hv; rw [hv] at e; cases e)]
    exact ⟨hv, trivial⟩
  | fn f l' =>
    simp only [AV.cells, Option.some.injEq] at h; subst h
    rw [one (fun cs e => by obtain ⟨ds, hv, _⟩ := hv; rw [hv] at e; cases e)]
    exact ⟨hv, trivial⟩

end Go.Proofs.YtlkggeaibgaohaaGreatDoor.Sim
