/- What a program's interpreter is handed; specifications of functions that only compute. -/
import Derived.Test.YtlkggeaibgaohaaGreatDoorSimZC
namespace Go.Proofs.YtlkggeaibgaohaaGreatDoor.Sim
open Go Go.RowKit

theorem find_mem {α : Type} {t : Nat} {x : α} : ∀ {l : List (Nat × α)}, find l t = some x → (t, x) ∈ l
  | (k, o) :: l, h => by
    rw [find_cons] at h
    by_cases e : k = t
    · rw [if_pos e] at h; cases h; subst e; exact List.mem_cons_self ..
    · rw [if_neg e] at h; exact List.mem_cons_of_mem _ (find_mem h)

def tabAll (P : Program) (all : List (Nat × Ty)) : List (Nat × Ty) → Bool
  | [] => true
  | (t, T) :: r => cond (tyCheck P (find all) t T) (tabAll P all r) false
theorem tabAll_mem {P : Program} {all : List (Nat × Ty)} {t : Nat} {T : Ty} : ∀ {l : List (Nat × Ty)}, tabAll P all l = true → (t, T) ∈ l → tyCheck P (find all) t T = true
  | (k, o) :: l, h, hm => by
    simp only [tabAll] at h
    cases hc : tyCheck P (find all) k o with
    | false => rw [hc] at h; cases h
    | true =>
      rw [hc] at h
      rcases List.mem_cons.1 hm with e | hm
      · cases e; exact hc
      · exact tabAll_mem h hm
noncomputable def Pg.ofTab (P : Program) (tab : List (Nat × Ty)) (gl : Nat → Option (Σ t : Ty, t.den)) (h : tabAll P tab tab = true) (hm : P.follows .mixedOrders = true) : Pg :=
  ⟨P, find tab, gl, fun _ _ hf => tabAll_mem h (find_mem hf), hm⟩

/-- A function's code. -/
def bodyOf (f : Func) : Code := match f.body with | some c => c | none => .skip

/-- A smaller run is right, too. -/
theorem ESound.weaken {G : Pg} {g : FuncId} {s : Sig} (h : ESound G g s) {run : s.ins.X → Option s.out.X} (hr : ∀ x y, run x = some y → s.run x = some y) : ESound G g ⟨s.ins, s.out, run⟩ :=
  ⟨h.enters, fun x y hx => h.calls x y (hr x y hx)⟩

end Go.Proofs.YtlkggeaibgaohaaGreatDoor.Sim
