/- Functions that only compute, out of functions with forms; recursion. -/
import Derived.Test.YtlkggeaibgaohaaGreatDoorSimZD
namespace Go.Proofs.YtlkggeaibgaohaaGreatDoor.Sim
open Go Go.RowKit

theorem idFree_fill (hp : List (Nat × OB)) : ∀ {s : AV} {ts : List Ty} {x : denT (tysA s ts)}, idFree s = true → idFree (fillA hp s ts x).1 = true := by
  intro s
  induction s with
  | agg l ih => intro ts x h; exact ih h
  | tup l ih => intro ts x h; exact ih h
  | fn f l ih => intro ts x h; exact ih h
  | cons a l ih1 ih2 =>
    intro ts x h
    rw [idFree, Bool.and_eq_true] at h
    show idFree (.cons _ _) = true
    rw [idFree, Bool.and_eq_true]
    exact ⟨ih1 h.1, ih2 h.2⟩
  | imm t y => intro ts x h; rfl
  | iptr t y => intro ts x h; rfl
  | const v => intro ts x h; rfl
  | nil => intro ts x h; rfl
  | _ => intro ts x h; cases h
theorem flat_fill (hp : List (Nat × OB)) : ∀ {s : AV} {ts : List Ty} {x : denT (tysA s ts)}, flatA s = true → flatA (fillA hp s ts x).1 = true := by
  intro s
  induction s with
  | agg l ih => intro ts x h; exact ih h
  | tup l ih => intro ts x h; exact ih h
  | fn f l ih => intro ts x h; exact ih h
  | cons a l ih1 ih2 =>
    intro ts x h
    rw [flatA, Bool.and_eq_true] at h
    show flatA (.cons _ _) = true
    rw [flatA, Bool.and_eq_true]
    exact ⟨ih1 h.1, ih2 h.2⟩
  | imm t y => intro ts x h; exact h
  | const v => intro ts x h; rfl
  | nil => intro ts x h; rfl
  | _ => intro ts x h; cases h

/-- A function without objects as one that only computes. -/
def PSpec.ofSig (S : Sig) (modes : List (Option Ty)) (h : idFree S.out.avs = true) : PSpec := ⟨modes, S.out.X, dfltT _, S.out.avsOf, flatA S.out.avs, fun args => match capture 0 true [] S.ins args with
  | some (_, ob, x) => some (cond ob (S.run x) none)
  | none => none, fun _ => idFree_fill _ h, fun hf _ => flat_fill _ hf⟩

theorem heapOf_nil {S : Shp} (h : S.heap = []) (x : S.X) : S.heapOf x = [] := by
  obtain ⟨avs, heap, nx⟩ := S
  simp only at h
  subst h
  rfl

theorem PSound.of_sig {G : Pg} {g : FuncId} {S : Sig} (h : ESound G g S) (hi : S.ins.heap = []) (ho : S.out.heap = []) (modes : List (Option Ty)) (hf : idFree S.out.avs = true) : PSound G g (PSpec.ofSig S modes hf) where
  enters := h.enters
  calls := by
    intro args y hy O w vals hO hglob hv
    simp only [PSpec.ofSig] at hy
    cases hc : capture 0 true [] S.ins args with
    | none => rw [hc] at hy; cases hy
    | some q =>
      obtain ⟨ρ, ob, x⟩ := q
      rw [hc] at hy
      simp only [Option.some.injEq] at hy
      cases ob with
      | false => cases hy
      | true =>
        simp only [cond_true] at hy
        obtain ⟨_, _, _, _, q5⟩ := capture_core hc
        have hin := heapOf_nil hi x
        let fr : Frm := ⟨w, O, fun _ => False, G.gl, 0, S.ins.nx, noIds⟩
        let st : St := ⟨[], [], [], S.ins.nx⟩
        have hown : ∀ b, own fr.F noIds st.heap b → O b := fun b hb => by
          rcases hb with hb | ⟨id, o, hf, _⟩
          · exact hb
          · simp [st, find] at hf
        have hd : AVR (cx fr noIds st w) (S.ins.avsOf x) vals :=
          (q5 (bare O w) (cx fr noIds st w) ⟨fun b hb => hown b hb, fun id o hf => by simp [find] at hf, fun id o b hf => by simp [find] at hf⟩ rfl (fun _ _ _ => rfl) rfl).1 vals hv
        have hH : HeapOk fr noIds st w := by
          refine ⟨fun id o hf => by simp [st, find] at hf, fun i j o o' b hf => by simp [st, find] at hf, fun i o b hf => by simp [st, find] at hf, Since.refl _ _, hO, fun g t x hg => ?_, fun _ _ => rfl, Nat.le_refl _⟩
          exact AVR.free (c := bare O w) (d := cx fr noIds st w) (fun b hb => hown b hb) rfl rfl (hglob g t x hg)
        refine (h.calls x y hy fr noIds st w vals rfl rfl rfl hin.symm rfl hH hd).mono ?_
        rintro e w' ⟨v, rfl, m', st', k1, k2, k3, k4⟩
        refine ⟨v, rfl, ⟨k3.since.os, k3.since.tape, k3.since.output, k3.since.size, fun b hb => k3.since.kept b hb (fun h => h)⟩, ?_⟩
        exact AVR.free (c := cx fr m' st' w') (d := bare O w') (fun b hb => .inl hb) rfl (idFree_fill _ hf) k4

/- Recursion -/

/-- What a function gives that may call itself: so many calls deep. -/
def recN {X Y : Type} (f : (X → Option Y) → X → Option Y) : Nat → X → Option Y
  | 0 => fun _ => none
  | n + 1 => f (recN f n)
open Classical in
/-- What it gives, if there is a depth that serves. -/
noncomputable def recW {X Y : Type} (f : (X → Option Y) → X → Option Y) (x : X) : Option Y :=
  if h : ∃ n y, recN f n x = some y then some (Classical.choose (Classical.choose_spec h)) else none
theorem recW_some {X Y : Type} {f : (X → Option Y) → X → Option Y} {x : X} {y : Y} (h : recW f x = some y) : ∃ n, recN f n x = some y := by
  unfold recW at h
  split at h
  · rename_i hh
    simp only [Option.some.injEq] at h
    subst h
    exact ⟨_, Classical.choose_spec (Classical.choose_spec hh)⟩
  · cases h
theorem recW_of {X Y : Type} {f : (X → Option Y) → X → Option Y} {x : X} {y : Y} (h1 : ∃ n, recN f n x = some y) (h2 : ∀ n z, recN f n x = some z → z = y) : recW f x = some y := by
  obtain ⟨n, hn⟩ := h1
  have hh : ∃ n y, recN f n x = some y := ⟨n, y, hn⟩
  unfold recW
  rw [dif_pos hh]
  exact congrArg some (h2 _ _ (Classical.choose_spec (Classical.choose_spec hh)))
attribute [irreducible] recW

theorem ESound.ofRec {G : Pg} {g : FuncId} {ins out : Shp} {f : (ins.X → Option out.X) → ins.X → Option out.X} (h0 : Enters G.P g) (h : ∀ r, ESound G g ⟨ins, out, r⟩ → ESound G g ⟨ins, out, f r⟩) :
    ESound G g ⟨ins, out, recW f⟩ where
  enters := h0
  calls := by
    intro x y hy
    obtain ⟨n, hn⟩ := recW_some hy
    have hs : ∀ n, ESound G g ⟨ins, out, recN f n⟩ := by
      intro n
      induction n with
      | zero => exact ⟨h0, fun x y h => by cases h⟩
      | succ n ih => exact h _ ih
    exact (hs n).calls x y hn

end Go.Proofs.YtlkggeaibgaohaaGreatDoor.Sim
