/- CheckpointBreaks (simulator/simulatorlaw45): whatever program, world and three numbers it is called with, it returns true and leaves what it was given as it was; of arguments that hold at most 1048576 values and letters (the statement's own bound: 'Upto'). -/
import Derived.Test.YtlkggeaibgaohaaGreatDoorS
import Derived.Test.YtlkggeaibgaohaaGreatDoorFacts6
import Derived.Test.YtlkggeaibgaohaaGreatDoorSimTB
import Derived.Test.YtlkggeaibgaohaaGreatDoorPlainB
import Derived.Test.YtlkggeaibgaohaaGreatDoorCards
import Derived.Test.YtlkggeaibgaohaaGreatDoorTie
import Derived.ProofKit
import Derived.Deep.DeepHandedRow
import Derived.Deep.DeepWitnessRowRef
import Derived.Lib.LaidTab
namespace Go.Proofs.YtlkggeaibgaohaaGreatDoor
open Go Go.Proofs.YtlkggeaibgaohaaGreatDoor.Sim Go.RowKit Go.WideShapes Go.ChangeShapes Go.ChangeAt
set_option maxRecDepth 100000
namespace Breaks

theorem own : ownKnob Tryz.prog.godebug = none := by kernel_rfl
theorem laidOut : laidOutB Tryz.prog = true := by kernel_rfl
def bulkOf (H : Type) : Bulk H where
  one := Rows.uptoBulk
  all := Rows.uptoBulkAll
  str := fun l => by simp [Rows.uptoBulk]
  lit := fun l => by cases l <;> simp [Rows.uptoBulk]
  nil := by simp [Rows.uptoBulk]
  slice := fun e s => by simp [Rows.uptoBulk]
  agg := fun l => by simp [Rows.uptoBulk]
  all0 := by simp [Rows.uptoBulkAll]
  all1 := fun d r => by simp [Rows.uptoBulkAll]

theorem capB : ∀ x : denT TsB, S.spec_simulatorlaw45_CheckpointBreaks.run (avl (imX TsB x)) = some (R.simulatorlaw45_CheckpointBreaks x) := fun _ => rfl
theorem runB : ∀ x : denT TsB, bulkT TsB x ≤ 1048576 → wfT TsB x → ∃ y, S.spec_simulatorlaw45_CheckpointBreaks.run (avl (imX TsB x)) = some (some y) ∧ S.spec_simulatorlaw45_CheckpointBreaks.outA y = .imm .bool true :=
  fun x hx hw => ⟨(true, ()), (capB x).trans (congrArg some (plainB x hx hw)), rfl⟩

theorem contract (H : Type) (enc : TypeId × Value → H) (W : World) (base : Nat) (args : Array Value) (ds gs : List (DataW H)) (before : List MemPlace)
    (hval : ∀ (j : Nat) t v, Tryz.f6.params[j]? = some t → args[j]? = some v → Value.okWide Tryz.prog W .any base t v)
    (hW : DataW.Whole enc Tryz.prog Tryz.f6.params.toList Rows.checkpointBreaksSpec.vars false W args.toList ds gs before) (hsmall : Rows.uptoBulkAll (ds ++ gs) ≤ 1048576) :
    Calls Tryz.prog 6 args W fun e W' => ∃ v, e = .returned v ∧ Rows.checkpointBreaksSpec.post enc Tryz.prog Tryz.f6 false true false false W args v W' := by
  have hW' := hW
  obtain ⟨p, q, hA0, hV, rfl, hfz, hnd⟩ := hW
  have hA : DataW.TrodAll enc Tryz.prog W 0 (fun _ => true) true Tryz.f6.params.toList args.toList ds p := hA0
  obtain ⟨rfl, rfl⟩ := trodVars_none hV
  rw [Tryz.params6] at hA hval
  simp only [List.append_nil] at hsmall hW'
  obtain ⟨x, hx, hxb⟩ := args_rep S.G (bulkOf H) (Ts := TsB) (by kernel_rfl) (fun j t v e1 e2 => hval j t v (by simpa using e1) (by simpa using e2)) hA hsmall
  have hlt : ∀ p' ∈ p, p'.block < W.heap.size := fun p' hp => hW'.lt p' (by simpa using hp)
  refine (law_calls S.p_simulatorlaw45_CheckpointBreaks (Ts := TsB) runB (fun g t x h => by cases h) hx (Nat.le_trans hxb hsmall)).mono fun e W' ⟨he, hb⟩ => ?_
  subst he
  have hlen : ∃ d1 d2 d3, ds = [d1, d2, d3] := by
    obtain ⟨v0, vs0, d0, ds0, p0, q0, _, rfl, rfl, _, r0⟩ := trodAll_cons hA
    obtain ⟨v1, vs1, d1, ds1, p1, q1, _, rfl, rfl, _, r1⟩ := trodAll_cons r0
    obtain ⟨v2, vs2, d2, ds2, p2, q2, _, rfl, rfl, _, r2⟩ := trodAll_cons r1
    obtain ⟨_, rfl, _⟩ := trodAll_nil r2
    exact ⟨_, _, _, rfl⟩
  obtain ⟨d1, d2, d3, rfl⟩ := hlen
  exact ⟨_, rfl, post_of_below (pa := p) (pv := []) hW' (fun _ _ _ => trodAll_cons_mk (shut_bool Tryz.underlying4 _) trodAll_mk0)
    (fun sp hsp => by rw [Tryz.params6]; exact trodAll_stays laidOut hb (by kernel_rfl) hA hlt fun p' hp => hsp p' (by simpa using hp)) (fun _ _ => rfl) (by simp) hb (ok_one (by kernel_rfl) rfl (okWide_bool_mk Tryz.underlying4 _))⟩

/-- The cells of a datum without references. -/
def litCell : Lit → Value
  | .string l => .string ⟨l.toArray⟩
  | .int k n => .int k n
  | .bool b => .bool b
  | _ => undef
mutual
def cellsD : DataW Unit → List Value
  | .lit l => [litCell l]
  | .agg ps => cellsDs ps
  | _ => []
def cellsDs : List (DataW Unit) → List Value
  | [] => []
  | d :: r => cellsD d ++ cellsDs r
end
def formsCells : List Value := match (Rows.laid_simulator_code_forms : DataW Unit) with
  | .slice es _ => cellsDs es
  | _ => []
def formsLen : Nat := match (Rows.laid_simulator_code_forms : DataW Unit) with
  | .slice es _ => es.length
  | _ => 0
noncomputable def laidWorld (os : Os) : World :=
  let N := (World.settled Tryz.prog os).heap.size
  let w0 := World.holding Tryz.prog os ⟨#[.cells formsCells.toArray 312], #[], []⟩
  { w0 with heap := w0.heap.modify 0 fun
    | .cells _ t frozen => .cells #[.slice (some ⟨N, 0, none⟩) formsLen formsLen] t frozen
    | o => o }
abbrev argsB : Array Value := #[.agg #[.string ⟨#[]⟩, .slice none 0 0, .slice none 0 0], .agg #[.slice none 0 0], .agg #[.int .u8 0, .int .u8 0, .int .u8 0]]
theorem laid_met (os : Os) : laidMet Tryz.prog Rows.checkpointBreaksRow.laid ((laidWorld os).forCall (fun _ _ => 0) ⟨#[], argsB, []⟩).memory :=
  laidMet_of_run' 8 (by kernel_rfl) (by kernel_rfl)
theorem reads (os : Os) {H : Type} (enc : TypeId × Value → H) : ∃ places, DataW.whole enc Tryz.prog ((laidWorld os).forCall (fun _ _ => 0) ⟨#[], argsB, []⟩).memory Tryz.f6.params.toList Rows.checkpointBreaksSpec.vars false argsB.toList 8 =
    some ([.agg [.lit (.string []), .nil, .nil], .agg [.nil], .agg [.lit (.int .u8 0), .lit (.int .u8 0), .lit (.int .u8 0)]], [], places) :=
  ⟨[], by kernel_rfl⟩
theorem liftedUpto (os : Os) (started : os.Started) (H : Type) (enc : TypeId × Value → H) (F : Stop.Interp) :
    ReturnsInHanded {} Tryz.checked os 6 .any ((Rows.OpenSpec.upto Rows.checkpointBreaksSpec).preRow enc Tryz.prog Tryz.f6 Rows.checkpointBreaksUptoRow.domain false Rows.checkpointBreaksUptoRow.laid) (((Rows.OpenSpec.upto Rows.checkpointBreaksSpec).at F).post enc Tryz.prog Tryz.f6 false true false false) := by
  obtain ⟨places, hx⟩ := reads os enc
  refine returnsInHanded_of_row (C := Tryz.checked) (s := Rows.OpenSpec.upto Rows.checkpointBreaksSpec) own started (by kernel_rfl) Tryz.func6
    (witness_row_atRef (enc := enc) (C := Tryz.checked) false (laidWorld os) argsB rfl (by kernel_rfl) (by kernel_rfl) (by kernel_rfl)
      (OpenSpec.preRow_of_cond 8 hx (by kernel_rfl) (fun k hk => by cases hk; kernel_rfl) (by kernel_rfl) (laid_met os))) ?_
  intro W base args ds gs before hval hW _ hcond _ hL _ _
  exact contract H enc W base args ds gs before hval hW (of_decide_eq_true (hcond _ rfl))
theorem saidUpto : Rows.CheckpointBreaksUptoSaid :=
  OpenClaim.holds_of_cond 6 Tryz.f6 rfl rfl rfl rfl rfl rfl rfl ⟨rfl, rfl, rfl, rfl, rfl⟩ rfl rfl rfl rfl rfl named Tryz.func6 facts inst wrap
    (fun os started H enc _ F => by rw [OpenClaim.pre_eq_preRow]; exact liftedUpto os started H enc F)
theorem plain (f : FuncId) (fn : Func) (hf : Tryz.pinned.checked.prog.funcNamed "simulator/simulatorlaw45.CheckpointBreaks" = some f) (hfn : Tryz.pinned.checked.prog.funcs[f]? = some fn) :
    false = Tryz.pinned.checked.prog.looks [] ∧ ∀ (j : Nat) t, fn.params[j]? = some t → Tryz.pinned.checked.prog.wantsStandIn t = false := by
  obtain rfl : f = 6 := Option.some.inj ((show Tryz.prog.funcNamed "simulator/simulatorlaw45.CheckpointBreaks" = some 6 by kernel_rfl).symm.trans hf) |>.symm
  obtain rfl : fn = Tryz.f6 := (Option.some.inj (Tryz.func6.symm.trans hfn)).symm
  refine ⟨by kernel_rfl, fun j t ht => ?_⟩
  have hall : (Tryz.f6.params.all fun t => !Tryz.prog.wantsStandIn t) = true := by kernel_rfl
  have := Array.all_eq_true_iff_forall_mem.1 hall t (Array.mem_of_getElem? ht)
  have h2 : Tryz.prog.wantsStandIn t = false := by simpa using this
  exact h2
end Breaks
/-- CheckpointBreaks holds, of arguments up to the statement's bound. -/
theorem checkpointBreaks_holds : Rows.CheckpointBreaksUptoCardSaid :=
  Claim7.holds_tied_plain_at .later [] _ _ _ _ Breaks.saidUpto (fun _ h => by cases h) (by kernel_rfl) (fun _ h => by cases h) checkpointBreaksUpto_row_tie rfl ⟨rfl, rfl⟩ (by kernel_rfl) rfl Breaks.plain (by kernel_rfl)
end Go.Proofs.YtlkggeaibgaohaaGreatDoor
