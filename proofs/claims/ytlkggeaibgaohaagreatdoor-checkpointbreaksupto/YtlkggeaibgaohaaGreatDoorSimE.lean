/- Operations on numbers, bools and texts. -/
import Derived.Test.YtlkggeaibgaohaaGreatDoorSimD
namespace Go.Proofs.YtlkggeaibgaohaaGreatDoor.Sim
open Go Go.RowKit

theorem inKind_wrap (k : IntKind) (n : Int) : inKind k (k.wrap n) := by
  rw [inKind_iff]
  cases k <;> simp only [IntKind.wrap, IntKind.signed, IntKind.bits, kMin, kMax, Bool.true_and, Bool.false_and, Bool.false_eq_true, if_false] <;> (try split) <;> simp_all <;> omega

theorem inKind_tmod {k : IntKind} {a b : Int} (ha : inKind k a) : inKind k (a.tmod b) := by
  rw [inKind_iff] at ha ⊢
  have h1 : (a.tmod b).natAbs ≤ a.natAbs := by
    rw [Int.natAbs_tmod]; exact Nat.mod_le _ _
  have h2 : 0 ≤ a → 0 ≤ a.tmod b := fun h => Int.tmod_nonneg _ h
  have h3 : a ≤ 0 → a.tmod b ≤ 0 := fun h => by
    have := Int.tmod_nonneg (a := -a) b (by omega)
    rw [Int.neg_tmod] at this
    omega
  cases k <;> simp only [kMin, kMax] at ha ⊢ <;> omega

theorem inKind_shr {k : IntKind} {a : Int} (ha : inKind k a) (n : Nat) : inKind k (a.fdiv (2 ^ n)) := by
  rw [inKind_iff] at ha ⊢
  have hp : (0 : Int) < 2 ^ n := Int.pow_pos (by omega)
  have e : a.fdiv (2 ^ n) = a / 2 ^ n := Int.fdiv_eq_ediv_of_nonneg a (by omega)
  rw [e]
  have h1 : 0 ≤ a → 0 ≤ a / 2 ^ n ∧ a / 2 ^ n ≤ a := fun h => ⟨Int.ediv_nonneg h (by omega), Int.ediv_le_self _ h⟩
  have h2 : a < 0 → a ≤ a / 2 ^ n ∧ a / 2 ^ n < 0 := fun h => by
    refine ⟨?_, Int.ediv_neg_of_neg_of_pos h hp⟩
    refine (Int.le_ediv_iff_mul_le hp).2 ?_
    have : a * 2 ^ n ≤ a * 1 := Int.mul_le_mul_of_nonpos_left (by omega) (by omega)
    omega
  cases k <;> simp only [kMin, kMax] at ha ⊢ <;> omega

/-- The bits of two numbers, joined. -/
def bitsV (op : BinOp) (k : IntKind) (x y : Int) : Int :=
  match op with
  | .and => k.wrap (BitVec.ofInt k.bits x &&& BitVec.ofInt k.bits y).toNat
  | .or => k.wrap (BitVec.ofInt k.bits x ||| BitVec.ofInt k.bits y).toNat
  | .xor => k.wrap (BitVec.ofInt k.bits x ^^^ BitVec.ofInt k.bits y).toNat
  | _ => k.wrap (BitVec.ofInt k.bits x &&& ~~~ BitVec.ofInt k.bits y).toNat
def shlV (k : IntKind) (x y : Int) : Int := k.wrap (x * 2 ^ (min y.toNat k.bits))
def shrV (k : IntKind) (x y : Int) : Int := x.fdiv (2 ^ (min y.toNat k.bits))
def eqS (x y : ByteArray) : Bool := x.toList == y.toList
def ltS (x y : ByteArray) : Bool := Op.bytesLess x.toList y.toList

def intBin (op : BinOp) (k : IntKind) (x y : Int) : Option (Comp AV) :=
  match op with
  | .add => some (just (.imm (.int k) (k.wrap (x + y))))
  | .sub => some (just (.imm (.int k) (k.wrap (x - y))))
  | .mul => some (just (.imm (.int k) (k.wrap (x * y))))
  | .quo => some (need (!decide (y = 0)) (.imm (.int k) (k.wrap (x.tdiv y))))
  | .rem => some (need (!decide (y = 0)) (.imm (.int k) (x.tmod y)))
  | .and => some (just (.imm (.int k) (bitsV .and k x y)))
  | .or => some (just (.imm (.int k) (bitsV .or k x y)))
  | .xor => some (just (.imm (.int k) (bitsV .xor k x y)))
  | .andNot => some (just (.imm (.int k) (bitsV .andNot k x y)))
  | .eql => some (just (.imm .bool (x == y)))
  | .neq => some (just (.imm .bool (x != y)))
  | .lss => some (just (.imm .bool (decide (x < y))))
  | .leq => some (just (.imm .bool (decide (x ≤ y))))
  | .gtr => some (just (.imm .bool (decide (x > y))))
  | .geq => some (just (.imm .bool (decide (x ≥ y))))
  | _ => none

def strBin (op : BinOp) (x y : ByteArray) : Option (Comp AV) :=
  match op with
  | .add => some (need (decide (x.size + y.size ≤ 4611686018427387904)) (.imm .str (x ++ y)))
  | .eql => some (just (.imm .bool (eqS x y)))
  | .neq => some (just (.imm .bool (!eqS x y)))
  | .lss => some (just (.imm .bool (ltS x y)))
  | .leq => some (just (.imm .bool (ltS x y || eqS x y)))
  | .gtr => some (just (.imm .bool (!(ltS x y || eqS x y))))
  | .geq => some (just (.imm .bool (!ltS x y)))
  | _ => none

/-- Two values of one type, of numbers, bools and texts alone, compared. -/
def Ty.beq : (t : Ty) → t.den → t.den → Option Bool
  | .int _, x, y => some (x == y)
  | .bool, x, y => some (x == y)
  | .str, x, y => some (eqS x y)
  | .unit, _, _ => some true
  | .pair a b, x, y => match Ty.beq a x.1 y.1, Ty.beq b x.2 y.2 with
    | some p, some q => some (p && q)
    | _, _ => none
  | .struct b, x, y => Ty.beq b x y
  | _, _, _ => none

def binAV (G : Pg) (op : BinOp) (t : TypeId) (a b : AV) : Option (Comp AV) :=
  match a, b with
  | .imm (.int k) x, .imm (.int l) y => match op with
    | .shl => some (need (decide (0 ≤ (y : Int))) (.imm (.int k) (shlV k x y)))
    | .shr => some (need (decide (0 ≤ (y : Int))) (.imm (.int k) (shrV k x y)))
    | _ => cond (Nat.beq (kindNo k) (kindNo l)) (intBin op k x y) none
  | .imm .str x, .imm .str y => strBin op x y
  | .imm .bool x, .imm .bool y => match op, G.ty t with
    | .eql, some .bool => some (just (.imm .bool (x == y)))
    | .neq, some .bool => some (just (.imm .bool (x != y)))
    | _, _ => none
  | _, _ => none

theorem imm_int {c : Cx} {k : IntKind} {x : Int} {v : Value} (h : AVR c (.imm (.int k) x) [v]) : v = .int k x ∧ inKind k x := by
  obtain ⟨cs, hr, hv⟩ := h
  cases hr with
  | int h => exact ⟨hv, h⟩
theorem imm_bool {c : Cx} {x : Bool} {v : Value} (h : AVR c (.imm .bool x) [v]) : v = .bool x := by
  obtain ⟨cs, hr, hv⟩ := h
  cases hr with
  | bool => exact hv
theorem imm_str {c : Cx} {x : ByteArray} {v : Value} (h : AVR c (.imm .str x) [v]) : v = .string x ∧ x.size ≤ 2 ^ 62 := by
  obtain ⟨cs, hr, hv⟩ := h
  cases hr with
  | str h => exact ⟨hv, h⟩
theorem imm_slice {c : Cx} {e : Ty} {xs : List e.den} {v : Value} (h : AVR c (.imm (.slice e) xs) [v]) : ∃ base len cap cells, v = .slice base len cap ∧ xs.length = len ∧ len ≤ cap ∧ cap ≤ maxLen ∧
    0 < e.size ∧ len * e.bytes ≤ 2 ^ 47 ∧ SliceAt c.O c.w base e.size len cells ∧ ∀ i (hi : i < xs.length), Rep c.O c.w e (cells i) xs[i] := by
  obtain ⟨cs, hr, hv⟩ := h
  cases hr with
  | slice base len cap cells h1 h2 h3 h4 h5 h6 h7 => exact ⟨base, len, cap, cells, hv, h1, h2, h3, h4, h5, h6, h7⟩
theorem int_imm (c : Cx) {k : IntKind} {x : Int} (h : inKind k x) : AVR c (.imm (.int k) x) [.int k x] := ValRep.ofLeaf rfl (.int h)
theorem bool_imm (c : Cx) (x : Bool) : AVR c (.imm .bool x) [.bool x] := ValRep.ofLeaf rfl (.bool x)
theorem str_imm (c : Cx) {x : ByteArray} (h : x.size ≤ 2 ^ 62) : AVR c (.imm .str x) [.string x] := ValRep.ofLeaf rfl (.str h)

theorem need_some {α : Type} {b : Bool} {a : α} {x : Unit} (h : (need b a).c = some x) : b = true := by
  cases b with
  | true => rfl
  | false => cases h

theorem intBin_sound {P : Program} {c : Cx} {op : BinOp} {k : IntKind} {x y : Int} {cp : Comp AV} (h : intBin op k x y = some cp) {u : cp.X} (hu : cp.c = some u)
    (hx : inKind k x) (w : World) :
    ∃ v, ((match op with
      | .add | .sub | .mul => Op.intArith op k x y
      | .quo | .rem => Op.intDiv op k x y
      | .and | .or | .xor | .andNot => Op.intBits op k x y
      | _ => Op.intCmp op x y : Sem Value)).run P w = .ok v w ∧ AVR c (cp.out u) [v] := by
  cases op <;> simp only [intBin, Option.some.injEq, reduceCtorEq] at h <;> subst h
  case add => exact ⟨_, rfl, int_imm c (inKind_wrap _ _)⟩
  case sub => exact ⟨_, rfl, int_imm c (inKind_wrap _ _)⟩
  case mul => exact ⟨_, rfl, int_imm c (inKind_wrap _ _)⟩
  case quo =>
    have := need_some hu
    have hy : y ≠ 0 := by simpa using this
    exact ⟨.int k (k.wrap (x.tdiv y)), by simp [Op.intDiv, hy], int_imm c (inKind_wrap _ _)⟩
  case rem =>
    have := need_some hu
    have hy : y ≠ 0 := by simpa using this
    exact ⟨.int k (x.tmod y), by simp [Op.intDiv, hy], int_imm c (inKind_tmod hx)⟩
  case and => exact ⟨_, rfl, int_imm c (inKind_wrap _ _)⟩
  case or => exact ⟨_, rfl, int_imm c (inKind_wrap _ _)⟩
  case xor => exact ⟨_, rfl, int_imm c (inKind_wrap _ _)⟩
  case andNot => exact ⟨_, rfl, int_imm c (inKind_wrap _ _)⟩
  case eql => exact ⟨_, rfl, bool_imm c _⟩
  case neq => exact ⟨_, rfl, bool_imm c _⟩
  case lss => exact ⟨_, rfl, bool_imm c _⟩
  case leq => exact ⟨_, rfl, bool_imm c _⟩
  case gtr => exact ⟨_, rfl, bool_imm c _⟩
  case geq => exact ⟨_, rfl, bool_imm c _⟩

theorem strBin_sound {P : Program} {c : Cx} {op : BinOp} {x y : ByteArray} {cp : Comp AV} (h : strBin op x y = some cp) {u : cp.X} (hu : cp.c = some u) (w : World) :
    ∃ v, (Op.stringOp op x y).run P w = .ok v w ∧ AVR c (cp.out u) [v] := by
  cases op <;> simp only [strBin, Option.some.injEq, reduceCtorEq] at h <;> subst h
  case add =>
    have := need_some hu
    have hs : x.size + y.size ≤ 4611686018427387904 := of_decide_eq_true this
    refine ⟨.string (x ++ y), ?_, str_imm c (by rw [ByteArray.size_append]; omega)⟩
    have hk : IntKind.i64.max = 9223372036854775807 := by rw [kMax_eq]; rfl
    simp only [Op.stringOp]
    rw [if_neg (by rw [hk]; omega)]
    rfl
  all_goals exact ⟨_, rfl, bool_imm c _⟩

theorem run_eqGuard_plain {P : Program} (op : BinOp) (t : TypeId) (x y : Operand) {a b : Value} (w : World) (h : (match a, b with | .nilIface, .nilIface => false | .agg _, .agg _ => false | _, _ => true) = true) :
    (eqGuard op t x y a b).run P w = .ok () w := by
  unfold eqGuard
  cases op <;> simp <;> cases a <;> cases b <;> first | rfl | (simp at h)

theorem run_equal_bool {P : Program} {t : TypeId} (h : P.underlying t = some .bool) (p q : Bool) (w : World) : (Op.equal t (.bool p) (.bool q)).run P w = .ok (p == q) w := by
  unfold Op.equal Op.maxDepth
  rw [show (10000 : Nat) = 9999 + 1 from rfl, Op.equalIn]
  rw [Sem.run_bind, run_underlying h]
  rfl

theorem binAV_sound (G : Pg) {c : Cx} {op : BinOp} {t : TypeId} {a b : AV} {cp : Comp AV} (h : binAV G op t a b = some cp) {u : cp.X} (hu : cp.c = some u)
    {va vb : Value} (ha : AVR c a [va]) (hb : AVR c b [vb]) (x y : Operand) (w : World) :
    ∃ v, (do eqGuard op t x y va vb; binOp op t va vb : Sem Value).run G.P w = .ok v w ∧ AVR c (cp.out u) [v] := by
  cases a with
  | imm T p =>
    cases b with
    | imm S q =>
      cases T with
      | int k =>
        cases S with
        | int l =>
          obtain ⟨rfl, hx⟩ := imm_int ha
          obtain ⟨rfl, hy⟩ := imm_int hb
          simp only [Sem.run_bind, run_eqGuard_plain op t x y w (a := .int k p) (b := .int l q) rfl, Result.andThen]
          by_cases hs : op = .shl ∨ op = .shr
          · rcases hs with rfl | rfl
            · simp only [binAV, Option.some.injEq] at h
              subst h
              have h0 : 0 ≤ (q : Int) := of_decide_eq_true (need_some hu)
              refine ⟨.int k (shlV k p q), ?_, int_imm c (inKind_wrap _ _)⟩
              simp only [binOp, Op.shift]
              rw [if_neg (Int.not_lt.mpr h0)]
              rfl
            · simp only [binAV, Option.some.injEq] at h
              subst h
              have h0 : 0 ≤ (q : Int) := of_decide_eq_true (need_some hu)
              refine ⟨.int k (shrV k p q), ?_, int_imm c (inKind_shr hx _)⟩
              simp only [binOp, Op.shift]
              rw [if_neg (Int.not_lt.mpr h0)]
              rfl
          · have h' : (cond (Nat.beq (kindNo k) (kindNo l)) (intBin op k p q) none) = some cp := by
              cases op <;> first | exact h | simp at hs
            cases hk : Nat.beq (kindNo k) (kindNo l) with
            | false => rw [hk] at h'; cases h'
            | true =>
              rw [hk] at h'
              have := kindNo_inj hk
              subst this
              obtain ⟨v, hv, hr⟩ := intBin_sound (P := G.P) (c := c) h' hu hx w
              refine ⟨v, ?_, hr⟩
              rw [← hv]
              cases op <;> first | (simp [binOp]; done) | simp at hs
        | _ => simp [binAV] at h
      | str =>
        cases S with
        | str =>
          obtain ⟨rfl, hx⟩ := imm_str ha
          obtain ⟨rfl, hy⟩ := imm_str hb
          simp only [Sem.run_bind, run_eqGuard_plain op t x y w (a := .string p) (b := .string q) rfl, Result.andThen]
          have h' : strBin op p q = some cp := h
          obtain ⟨v, hv, hr⟩ := strBin_sound (P := G.P) (c := c) h' hu w
          refine ⟨v, ?_, hr⟩
          rw [← hv]
          cases op <;> rfl
        | _ => simp [binAV] at h
      | bool =>
        cases S with
        | bool =>
          have e1 := imm_bool ha
          have e2 := imm_bool hb
          subst e1; subst e2
          simp only [Sem.run_bind, run_eqGuard_plain op t x y w (a := .bool p) (b := .bool q) rfl, Result.andThen]
          simp only [binAV] at h
          cases hty : G.ty t with
          | none => rw [hty] at h; cases op <;> simp at h
          | some T =>
            rw [hty] at h
            cases T <;> cases op <;> simp only [Option.some.injEq, reduceCtorEq] at h
            · subst h
              refine ⟨.bool (p == q), ?_, bool_imm c _⟩
              show ((Op.equal t (.bool p) (.bool q)) >>= fun r => pure (.bool r) : Sem Value).run G.P w = _
              rw [Sem.run_bind, run_equal_bool (G.und_bool hty)]
              rfl
            · subst h
              refine ⟨.bool (p != q), ?_, bool_imm c _⟩
              show ((Op.equal t (.bool p) (.bool q)) >>= fun r => pure (.bool (!r)) : Sem Value).run G.P w = _
              rw [Sem.run_bind, run_equal_bool (G.und_bool hty)]
              rfl
        | _ => simp [binAV] at h
      | _ => simp [binAV] at h
    | _ => cases T <;> simp [binAV] at h
  | _ => simp [binAV] at h

end Go.Proofs.YtlkggeaibgaohaaGreatDoor.Sim
