/- The base of the abstract interpreter: type codes, tree data, and what it means that cells of a world hold a datum. -/
import Derived.WalkKit
import Derived.Below
namespace Go.Proofs.YtlkggeaibgaohaaGreatDoor.Sim
open Go Go.RowKit

/-- Codes of the Go types whose values are trees. A struct is a chain of pairs; 'named' are the recursive ones; 'tslice' is a slice whose capacity is its length. -/
inductive Ty where
  | int (k : IntKind)
  | bool
  | str
  | unit
  | pair (a b : Ty)
  | struct (b : Ty)
  | slice (e : Ty)
  | tslice (e : Ty)
  | arr (n : Nat) (e : Ty)
  | named (r : Nat)

def kindNo : IntKind → Nat
  | .i8 => 0 | .i16 => 1 | .i32 => 2 | .i64 => 3 | .u8 => 4 | .u16 => 5 | .u32 => 6 | .u64 => 7
theorem kindNo_inj {a b : IntKind} (h : Nat.beq (kindNo a) (kindNo b) = true) : a = b := by
  cases a <;> cases b <;> first | rfl | (simp [kindNo] at h)

def Ty.eqb : Ty → Ty → Bool
  | .int k, .int l => Nat.beq (kindNo k) (kindNo l)
  | .bool, .bool => true
  | .str, .str => true
  | .unit, .unit => true
  | .pair a b, .pair c d => Ty.eqb a c && Ty.eqb b d
  | .struct a, .struct b => Ty.eqb a b
  | .slice a, .slice b => Ty.eqb a b
  | .tslice a, .tslice b => Ty.eqb a b
  | .arr n a, .arr m b => Nat.beq n m && Ty.eqb a b
  | .named r, .named s => Nat.beq r s
  | _, _ => false

theorem Ty.eqb_eq : ∀ {a b : Ty}, Ty.eqb a b = true → a = b := by
  intro a
  induction a with
  | int k => intro b h; cases b <;> simp only [Ty.eqb, Bool.false_eq_true] at h; rw [kindNo_inj h]
  | bool => intro b h; cases b <;> simp only [Ty.eqb, Bool.false_eq_true] at h; rfl
  | str => intro b h; cases b <;> simp only [Ty.eqb, Bool.false_eq_true] at h; rfl
  | unit => intro b h; cases b <;> simp only [Ty.eqb, Bool.false_eq_true] at h; rfl
  | pair a c iha ihc =>
    intro b h; cases b <;> simp only [Ty.eqb, Bool.false_eq_true, Bool.and_eq_true] at h
    rw [iha h.1, ihc h.2]
  | struct a ih => intro b h; cases b <;> simp only [Ty.eqb, Bool.false_eq_true] at h; rw [ih h]
  | slice a ih => intro b h; cases b <;> simp only [Ty.eqb, Bool.false_eq_true] at h; rw [ih h]
  | tslice a ih => intro b h; cases b <;> simp only [Ty.eqb, Bool.false_eq_true] at h; rw [ih h]
  | arr n a ih =>
    intro b h; cases b <;> simp only [Ty.eqb, Bool.false_eq_true, Bool.and_eq_true] at h
    rw [ih h.2, Nat.eq_of_beq_eq_true h.1]
  | named r => intro b h; cases b <;> simp only [Ty.eqb, Bool.false_eq_true] at h; rw [Nat.eq_of_beq_eq_true h]

theorem Ty.eqb_self : ∀ a : Ty, Ty.eqb a a = true := by
  intro a; induction a <;> simp_all [Ty.eqb]

/-- The recursive types of the program. -/
inductive Expr where
  | mk (op : Int) (name : ByteArray) (n : Int) (kids : List Expr)
abbrev DistD := Int × Int × Int × Int × List Int × List Int
inductive Stmt where
  | mk (op : Int) (name of : ByteArray) (e f : Expr) (args : List Expr) (dist : DistD) (flag : Bool) (body els : List Stmt)

def Expr.op : Expr → Int | .mk o _ _ _ => o
def Expr.name : Expr → ByteArray | .mk _ s _ _ => s
def Expr.n : Expr → Int | .mk _ _ n _ => n
def Expr.kids : Expr → List Expr | .mk _ _ _ l => l
theorem Expr.eta (x : Expr) : Expr.mk x.op x.name x.n x.kids = x := by cases x; rfl
def Stmt.op : Stmt → Int | .mk o _ _ _ _ _ _ _ _ _ => o
def Stmt.name : Stmt → ByteArray | .mk _ s _ _ _ _ _ _ _ _ => s
def Stmt.of : Stmt → ByteArray | .mk _ _ s _ _ _ _ _ _ _ => s
def Stmt.e : Stmt → Expr | .mk _ _ _ e _ _ _ _ _ _ => e
def Stmt.f : Stmt → Expr | .mk _ _ _ _ e _ _ _ _ _ => e
def Stmt.args : Stmt → List Expr | .mk _ _ _ _ _ l _ _ _ _ => l
def Stmt.dist : Stmt → DistD | .mk _ _ _ _ _ _ d _ _ _ => d
def Stmt.flag : Stmt → Bool | .mk _ _ _ _ _ _ _ b _ _ => b
def Stmt.body : Stmt → List Stmt | .mk _ _ _ _ _ _ _ _ l _ => l
def Stmt.els : Stmt → List Stmt | .mk _ _ _ _ _ _ _ _ _ l => l
theorem Stmt.eta (x : Stmt) : Stmt.mk x.op x.name x.of x.e x.f x.args x.dist x.flag x.body x.els = x := by cases x; rfl

@[reducible] def Ty.den : Ty → Type
  | .int _ => Int
  | .bool => Bool
  | .str => ByteArray
  | .unit => Unit
  | .pair a b => a.den × b.den
  | .struct b => b.den
  | .slice e => List e.den
  | .tslice e => List e.den
  | .arr _ e => List e.den
  | .named 0 => Expr
  | .named (_ + 1) => Stmt

def Expr.dflt : Expr := .mk 0 ByteArray.empty 0 []
def Stmt.dflt : Stmt := .mk 0 ByteArray.empty ByteArray.empty Expr.dflt Expr.dflt [] (0, 0, 0, 0, [], []) false [] []
def Ty.dflt : (t : Ty) → t.den
  | .int _ => (0 : Int)
  | .bool => false
  | .str => ByteArray.empty
  | .unit => ()
  | .pair a b => (a.dflt, b.dflt)
  | .struct b => b.dflt
  | .slice _ => []
  | .tslice _ => []
  | .arr n e => List.replicate n e.dflt
  | .named 0 => Expr.dflt
  | .named (_ + 1) => Stmt.dflt

/-- Cells that a value of the type takes. -/
def Ty.size : Ty → Nat
  | .int _ => 1
  | .bool => 1
  | .str => 1
  | .unit => 0
  | .pair a b => a.size + b.size
  | .struct b => b.size
  | .slice _ => 1
  | .tslice _ => 1
  | .arr n e => n * e.size
  | .named 0 => 4
  | .named (_ + 1) => 21

/-- At most the bytes that a value of the type takes. -/
def Ty.bytes : Ty → Nat
  | .int k => k.bits / 8
  | .bool => 1
  | .str => 16
  | .unit => 0
  | .pair a b => a.bytes + b.bytes
  | .struct b => b.bytes
  | .slice _ => 24
  | .tslice _ => 24
  | .arr n e => n * e.bytes
  | .named 0 => 56
  | .named (_ + 1) => 250

def Ty.isAgg : Ty → Bool
  | .struct _ => true
  | .arr _ _ => true
  | .named _ => true
  | _ => false

def distBody : Ty := .pair (.int .i64) (.pair (.int .i64) (.pair (.int .i64) (.pair (.int .i64) (.pair (.slice (.int .i64)) (.slice (.int .i64))))))
def exprBody : Ty := .pair (.int .i64) (.pair .str (.pair (.int .i64) (.slice (.named 0))))
def stmtBody : Ty :=
  .pair (.int .i64) (.pair .str (.pair .str (.pair (.named 0) (.pair (.named 0) (.pair (.slice (.named 0)) (.pair (.struct distBody)
    (.pair .bool (.pair (.slice (.named 1)) (.slice (.named 1))))))))))
def Ty.body : Nat → Ty
  | 0 => exprBody
  | _ + 1 => stmtBody
def unroll : (r : Nat) → (Ty.named r).den → (Ty.body r).den
  | 0, x => (x.op, x.name, x.n, x.kids)
  | _ + 1, x => (x.op, x.name, x.of, x.e, x.f, x.args, x.dist, x.flag, x.body, x.els)
def reroll : (r : Nat) → (Ty.body r).den → (Ty.named r).den
  | 0, x => Expr.mk x.1 x.2.1 x.2.2.1 x.2.2.2
  | _ + 1, x => Stmt.mk x.1 x.2.1 x.2.2.1 x.2.2.2.1 x.2.2.2.2.1 x.2.2.2.2.2.1 x.2.2.2.2.2.2.1 x.2.2.2.2.2.2.2.1 x.2.2.2.2.2.2.2.2.1 x.2.2.2.2.2.2.2.2.2
theorem reroll_unroll (r : Nat) (x : (Ty.named r).den) : reroll r (unroll r x) = x := by
  cases r with
  | zero => exact Expr.eta x
  | succ r => exact Stmt.eta x
theorem unroll_reroll (r : Nat) (x : (Ty.body r).den) : unroll r (reroll r x) = x := by
  cases r <;> rfl
theorem Ty.size_body (r : Nat) : (Ty.body r).size = (Ty.named r).size := by cases r <;> rfl

def Ty.cast {a : Ty} (b : Ty) (x : a.den) : Option b.den :=
  if h : Ty.eqb a b = true then some ((Ty.eqb_eq h) ▸ x) else none
theorem Ty.cast_self {a : Ty} (x : a.den) : Ty.cast a x = some x := by
  simp [Ty.cast, Ty.eqb_self]
theorem Ty.cast_some {a b : Ty} {x : a.den} {y : b.den} (h : Ty.cast b x = some y) : ∃ e : a = b, y = e ▸ x := by
  unfold Ty.cast at h
  split at h
  · rename_i he
    exact ⟨Ty.eqb_eq he, by simpa using h.symm⟩
  · cases h

def inKind (k : IntKind) (n : Int) : Prop := k.min ≤ n ∧ n ≤ k.max

/-- Where the elements of a slice lie: outside the blocks O, one behind the other. -/
def SliceAt (O : Nat → Prop) (w : World) (base : Option Addr) (sz n : Nat) (cells : Nat → List Value) : Prop :=
  n = 0 ∨ ∃ b off, base = some ⟨b, off, none⟩ ∧ ¬ O b ∧ ∀ i, i < n → ∀ j, j < sz → w.cell? ⟨b, off + i * sz + j, none⟩ = (cells i)[j]?

/-- The cells cs, read in the world w, hold the datum x of type t; nothing that is read lies in the blocks O. -/
inductive Rep (O : Nat → Prop) (w : World) : (t : Ty) → List Value → t.den → Prop where
  | int {k : IntKind} {n : Int} (h : inKind k n) : Rep O w (.int k) [.int k n] n
  | bool (b : Bool) : Rep O w .bool [.bool b] b
  | str {s : ByteArray} (h : s.size ≤ 2 ^ 62) : Rep O w .str [.string s] s
  | unit : Rep O w .unit [] ()
  | pair {a b : Ty} {cs ds : List Value} {x : a.den} {y : b.den} (h : Rep O w a cs x) (k : Rep O w b ds y) : Rep O w (.pair a b) (cs ++ ds) (x, y)
  | struct {b : Ty} {cs : List Value} {x : b.den} (h : Rep O w b cs x) : Rep O w (.struct b) cs x
  | slice {e : Ty} {xs : List e.den} (base : Option Addr) (len cap : Nat) (cells : Nat → List Value) (hlen : xs.length = len) (hcap : len ≤ cap) (hmax : cap ≤ maxLen)
      (hsz : 0 < e.size) (hb : len * e.bytes ≤ 2 ^ 47) (hat : SliceAt O w base e.size len cells)
      (h : ∀ i (hi : i < xs.length), Rep O w e (cells i) xs[i]) : Rep O w (.slice e) [.slice base len cap] xs
  | tslice {e : Ty} {xs : List e.den} {base : Option Addr} {len : Nat} (h : Rep O w (.slice e) [.slice base len len] xs) : Rep O w (.tslice e) [.slice base len len] xs
  | arr {n : Nat} {e : Ty} {xs : List e.den} (cells : Nat → List Value) (hn : xs.length = n)
      (h : ∀ i (hi : i < xs.length), Rep O w e (cells i) xs[i]) : Rep O w (.arr n e) ((List.range n).flatMap cells) xs
  | named {r : Nat} {cs : List Value} {x : (Ty.named r).den} (h : Rep O w (Ty.body r) cs (unroll r x)) : Rep O w (.named r) cs x

theorem length_flatMap_range (cells : Nat → List Value) (sz : Nat) : ∀ n, (∀ i, i < n → (cells i).length = sz) → ((List.range n).flatMap cells).length = n * sz := by
  intro n
  induction n with
  | zero => intro _; simp
  | succ n ih =>
    intro h
    rw [List.range_succ, List.flatMap_append, List.length_append, ih (fun i hi => h i (by omega))]
    simp only [List.flatMap_cons, List.flatMap_nil, List.append_nil, h n (by omega), Nat.succ_mul]

theorem Rep.length {O : Nat → Prop} {w : World} {t : Ty} {cs : List Value} {x : t.den} (h : Rep O w t cs x) : cs.length = t.size := by
  induction h with
  | int _ => rfl
  | bool _ => rfl
  | str _ => rfl
  | unit => rfl
  | pair _ _ ih1 ih2 => simp [Ty.size, ih1, ih2]
  | struct _ ih => simpa [Ty.size] using ih
  | slice => rfl
  | tslice _ => rfl
  | arr cells hn _ ih => rw [length_flatMap_range cells _ _ (fun i hi => ih i (by omega))]; rfl
  | named _ ih => rw [ih, Ty.size_body]

/-- From the world w with the blocks O apart to w' with O' apart: what lay outside O stays where and as it was, and outside O'. -/
def Moves (O : Nat → Prop) (w : World) (O' : Nat → Prop) (w' : World) : Prop :=
  ∀ b off v, ¬ O b → w.cell? ⟨b, off, none⟩ = some v → ¬ O' b ∧ w'.cell? ⟨b, off, none⟩ = some v

theorem Moves.refl (O : Nat → Prop) (w : World) : Moves O w O w := fun _ _ _ h k => ⟨h, k⟩
theorem Moves.trans {O O' O'' : Nat → Prop} {w w' w'' : World} (h : Moves O w O' w') (k : Moves O' w' O'' w'') : Moves O w O'' w'' :=
  fun b off v hb hc => let ⟨h1, h2⟩ := h b off v hb hc; k b off v h1 h2

theorem Rep.move {O O' : Nat → Prop} {w w' : World} (hm : Moves O w O' w') {t : Ty} {cs : List Value} {x : t.den} (h : Rep O w t cs x) : Rep O' w' t cs x := by
  induction h with
  | int h => exact .int h
  | bool b => exact .bool b
  | str h => exact .str h
  | unit => exact .unit
  | pair _ _ ih1 ih2 => exact .pair ih1 ih2
  | struct _ ih => exact .struct ih
  | slice base len cap cells hlen hcap hmax hsz hb hat h ih =>
    refine .slice base len cap cells hlen hcap hmax hsz hb ?_ ih
    rcases hat with h0 | ⟨b, off, hbase, hO, hc⟩
    · exact .inl h0
    · rcases Nat.eq_zero_or_pos len with h0 | hp
      · exact .inl h0
      have key : ∀ i, i < len → ∀ j, j < _ → ¬ O' b ∧ w'.cell? ⟨b, off + i * _ + j, none⟩ = (cells i)[j]? := fun i hi j hj => by
        have hl := (h i (by omega)).length
        have hv := hc i hi j hj
        rw [List.getElem?_eq_getElem (by omega)] at hv
        have := hm b _ _ hO hv
        rw [List.getElem?_eq_getElem (by omega)]
        exact this
      exact .inr ⟨b, off, hbase, (key 0 hp 0 hsz).1, fun i hi j hj => (key i hi j hj).2⟩
  | tslice _ ih => exact .tslice ih
  | arr cells hn _ ih => exact .arr cells hn ih
  | named _ ih => exact .named ih

/-- A value of type t: a struct or an array is one aggregate of cells. -/
def ValRep (O : Nat → Prop) (w : World) (t : Ty) (v : Value) (x : t.den) : Prop :=
  ∃ cs, Rep O w t cs x ∧ v = if t.isAgg then .agg cs.toArray else cs.headD undef

theorem ValRep.move {O O' : Nat → Prop} {w w' : World} (hm : Moves O w O' w') {t : Ty} {v : Value} {x : t.den} (h : ValRep O w t v x) : ValRep O' w' t v x :=
  let ⟨cs, hr, hv⟩ := h; ⟨cs, hr.move hm, hv⟩

end Go.Proofs.YtlkggeaibgaohaaGreatDoor.Sim
