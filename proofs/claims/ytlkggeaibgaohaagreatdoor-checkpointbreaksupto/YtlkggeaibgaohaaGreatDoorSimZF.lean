/- Words for the forms of functions, and settings. -/
import Derived.Test.YtlkggeaibgaohaaGreatDoorSimZE
namespace Go.Proofs.YtlkggeaibgaohaaGreatDoor.Sim
open Go Go.RowKit

instance : Inhabited Expr := ⟨Expr.dflt⟩
instance : Inhabited Stmt := ⟨Stmt.dflt⟩
@[reducible] def im (t : Ty) : AV := .imm t t.dflt
@[reducible] def ip (t : Ty) : AV := .iptr t t.dflt
@[reducible] def avl : List AV → AV
  | [] => .nil
  | a :: r => .cons a (avl r)
@[reducible] def imL : List Ty → List AV
  | [] => []
  | t :: r => im t :: imL r
/-- Data alone are handed over; data alone come back. -/
@[reducible] def shI (l : List Ty) : Shp := ⟨avl (imL l), [], 0⟩
@[reducible] def shO : List Ty → Shp
  | [t] => ⟨im t, [], 0⟩
  | l => ⟨.tup (avl (imL l)), [], 0⟩
def modesOf : List Ty → List (Option Ty)
  | [] => []
  | t :: r => some t :: modesOf r

theorem idFree_imL : ∀ {l : List Ty}, idFree (avl (imL l)) = true
  | [] => rfl
  | t :: r => by show (true && idFree (avl (imL r))) = true; rw [idFree_imL]; rfl
theorem idFree_shO (l : List Ty) : idFree (shO l).avs = true := by
  unfold shO
  split
  · rfl
  · exact idFree_imL
def sigD (ins out : List Ty) (run : (shI ins).X → Option (shO out).X) : Sig := ⟨shI ins, shO out, run⟩
def specD (ins out : List Ty) (run : (shI ins).X → Option (shO out).X) : PSpec := PSpec.ofSig (sigD ins out run) (modesOf ins) (idFree_shO out)

def findP : List (Nat × PSpec) → Nat → Option PSpec
  | [], _ => none
  | (k, v) :: r, t => cond (Nat.beq k t) (some v) (findP r t)
def Env.of (G : Pg) (ps : List (Nat × PSpec)) (ss : List (Nat × List Sig)) (notOwn : List Nat) : Env :=
  ⟨G, findP ps, fun g => match find ss g with | some l => l | none => [], fun t => !memN t notOwn⟩
def AllP (G : Pg) : List (Nat × PSpec) → Prop
  | [] => True
  | (g, s) :: r => PSound G g s ∧ AllP G r
def AllL (G : Pg) (g : Nat) : List Sig → Prop
  | [] => True
  | s :: r => ESound G g s ∧ AllL G g r
def AllS (G : Pg) : List (Nat × List Sig) → Prop
  | [] => True
  | (g, l) :: r => AllL G g l ∧ AllS G r
theorem AllP_find {G : Pg} {g : Nat} {s : PSpec} : ∀ {l : List (Nat × PSpec)}, AllP G l → findP l g = some s → PSound G g s
  | (k, o) :: l, h, hf => by
    simp only [findP] at hf
    cases hb : Nat.beq k g with
    | true => rw [hb] at hf; cases hf; have := Nat.eq_of_beq_eq_true hb; subst this; exact h.1
    | false => rw [hb] at hf; exact AllP_find h.2 hf
theorem AllL_mem {G : Pg} {g : Nat} {s : Sig} : ∀ {l : List Sig}, AllL G g l → s ∈ l → ESound G g s
  | x :: l, h, hm => by
    rcases List.mem_cons.1 hm with rfl | hm
    · exact h.1
    · exact AllL_mem h.2 hm
theorem AllS_find {G : Pg} {g : Nat} {l : List Sig} : ∀ {ss : List (Nat × List Sig)}, AllS G ss → find ss g = some l → AllL G g l
  | (k, o) :: r, h, hf => by
    rw [find_cons] at hf
    by_cases e : k = g
    · rw [if_pos e] at hf; cases hf; subst e; exact h.1
    · rw [if_neg e] at hf; exact AllS_find h.2 hf
theorem Env.of_ok {G : Pg} {ps : List (Nat × PSpec)} {ss : List (Nat × List Sig)} {no : List Nat} (h1 : AllP G ps) (h2 : AllS G ss) : (Env.of G ps ss no).Ok where
  sp := fun g s h => AllP_find h1 h
  es := fun g s h => by
    simp only [Env.of] at h
    split at h
    · rename_i l hf
      exact AllL_mem (AllS_find h2 hf) h
    · cases h
def hnt (frz : List (Nat × List (Nat × Ty))) (over : List (Nat × List (Nat × Over))) (dup peel : List Nat) (drp : List (Nat × List Nat)) : Hnt :=
  ⟨fun i => match find frz i with | some l => l | none => [], fun b => match find over b with | some l => l | none => [], fun t => memN t dup, fun b => memN b peel, fun t => match find drp t with | some l => l.map fun u => (u, .drop) | none => []⟩

/-- A function of data: its specification out of its code. -/
theorem PSound.ofSigD {G : Pg} {g : FuncId} {ins out : List Ty} {run : (shI ins).X → Option (shO out).X} (h : ESound G g (sigD ins out run)) : PSound G g (specD ins out run) := by
  refine PSound.of_sig h rfl ?_ _ (idFree_shO out)
  show (shO out).heap = []
  unfold shO
  split <;> rfl

theorem ESound.ofTie {E : Env} (hE : E.Ok) {g : FuncId} {fn : Func} {H : Hnt} {ins out : Shp} {run : ins.X → Option out.X} (hf : E.G.P.funcs[g]? = some fn) (hb : fn.body = some (bodyOf fn)) (hn : (fn.name == "runtime.NumGoroutine") = false)
    (hl : isList ins.avs = true) (ha : Nat.ble (avLen ins.avs) fn.ntmps = true) (ht : runFn E H fn (bodyOf fn) ins out = run) : ESound E.G g ⟨ins, out, run⟩ :=
  ht ▸ ESound.of_run hE hf hb hn hl ha

end Go.Proofs.YtlkggeaibgaohaaGreatDoor.Sim
