/- A law of data alone: from what it computes to what its row asks. -/
import Derived.Test.YtlkggeaibgaohaaGreatDoorSimTA
import Derived.Below
import Derived.ChangeSame
import Derived.Carry
import Derived.WideKeyArgs
namespace Go.Proofs.YtlkggeaibgaohaaGreatDoor.Sim
open Go Go.RowKit Go.WideShapes Go.ChangeShapes

section
variable {H : Type} {enc : TypeId × Value → H} {P : Program}
theorem post_of_below {f : Func} {s : ChangeSpec} {apart fresh handsOn again : Bool} {W W' : World} {args : Array Value} {v : Value} {ds gs : List (DataW H)} {before pa pv : List MemPlace}
    (hW : DataW.Whole enc P f.params.toList s.vars apart W args.toList ds gs before)
    (hres : ∀ (b : Nat) (sp : Nat → Bool) (hd : Bool), DataW.TrodAll enc P W' b sp hd f.resultTypes.toList (v.resultList f.resultTypes.size) (s.fn H (ds ++ gs)).results [])
    (hargs : ∀ sp : Nat → Bool, (∀ p ∈ before, sp p.block = true) → DataW.TrodAll enc P W' 0 sp true f.params.toList args.toList (s.fn H (ds ++ gs)).args pa)
    (hvars : ∀ sp : Nat → Bool, (∀ p ∈ before, sp p.block = true) → DataW.TrodVars enc P W' sp s.vars (s.fn H (ds ++ gs)).vars pv)
    (hps : before = pa ++ pv) (hb : Below W.heap.size W W')
    (hok : ∀ (j : Nat) (t : TypeId) (r : Value), f.resultTypes[j]? = some t → (v.resultList f.resultTypes.size)[j]? = some r → Value.okWide P W' .any 0 t r) :
    s.post enc P f apart fresh handsOn again W args v W' := by
  have hlt : ∀ p ∈ before, p.block < W.heap.size := fun p hp => hW.lt p hp
  have hold : ∀ p ∈ before, (fun b => decide (b < W.heap.size)) p.block = true := fun p hp => by simpa using hlt p hp
  refine ⟨ds, gs, before, [], pa, pv, hW, hres _ _ _, hargs _ hold, hvars _ hold, World.keptBut_mono (fun p hp => ⟨hp, ?_⟩) (hb.frame (· ∈ before)), fun _ => ?_⟩
  · rw [hps, List.mem_append] at hp
    exact Or.inr hp
  · obtain ⟨_, _, _, _, _, hz, hn⟩ := hW
    refine ⟨hok, _, _, ([] ++ pa) ++ pv, ⟨[] ++ pa, pv, trodAll_append (hargs _ (fun _ _ => rfl)) (hres _ _ _), hvars _ (fun _ _ => rfl), rfl, ?_, ?_⟩, ?_⟩
    · intro b off hp
      have hin : MemPlace.cell b off ∈ before := by rw [hps]; simpa using hp
      rw [hb.frozen (hlt _ hin)]
      exact hz b off hin
    · intro ha
      have := hn ha
      rw [hps] at this
      simpa using this
    · intro p hp _
      rw [hps]
      simpa using hp
end

/-- Arguments of given codes. -/
@[reducible] def imX : (l : List Ty) → denT l → List AV
  | [], _ => []
  | t :: r, x => .imm t x.1 :: imX r x.2
def bulkT : (l : List Ty) → denT l → Nat
  | [], _ => 0
  | t :: r, x => t.bulk x.1 + bulkT r x.2
theorem AVR.cons_inv {c : Cx} {a r : AV} {vs : List Value} (h : AVR c (.cons a r) vs) : ∃ v us, vs = v :: us ∧ AVR c a [v] ∧ AVR c r us := by
  cases vs with
  | nil => exact h.elim
  | cons v us => exact ⟨v, us, rfl, h.1, h.2⟩
def wfT : (l : List Ty) → denT l → Prop
  | [], _ => True
  | t :: r, x => t.wf x.1 ∧ wfT r x.2
theorem wfT_of {c : Cx} : ∀ {l : List Ty} {x : denT l} {vs : List Value}, AVR c (avl (imX l x)) vs → wfT l x
  | [], _, _, _ => trivial
  | t :: r, x, vs, h => by
    obtain ⟨v, us, rfl, h1, h2⟩ := AVR.cons_inv h
    exact ⟨h1.wf, wfT_of h2⟩
def tyAll (G : Pg) : List TypeId → List Ty → Bool
  | [], [] => true
  | t :: ts, T :: Ts => (match G.ty t with | some U => Ty.eqb U T | none => false) && (T.small && tyAll G ts Ts)
  | _, _ => false

section
variable {H : Type} {enc : TypeId × Value → H} {W : World}

theorem arg_rep (G : Pg) (B : Bulk H) {t : TypeId} {T : Ty} {v : Value} {d : DataW H} {p : List MemPlace} {base : Nat} {held : Bool} (hT : G.ty t = some T) (hsm : T.small = true) (hok : Value.okWide G.P W .any base t v)
    (h : DataW.Trod enc G.P W 0 (fun _ => true) held t v d p) (hb : B.one d ≤ 1048576) : ∃ x : T.den, AVR (bare (fun _ => False) W) (.imm T x) [v] ∧ T.bulk x ≤ B.one d := by
  obtain ⟨fuel, hf⟩ := h
  obtain ⟨x, hx, hxb⟩ := trod_rep G B fuel hT hsm hf hb
  refine ⟨x, ⟨v.cells.toList, hx, ?_⟩, hxb⟩
  obtain ⟨D, hD, hu⟩ := G.und hT
  unfold Value.okWide at hok
  rw [hD] at hok
  have hv := G.isVal hT
  cases ha : T.isAgg with
  | true =>
    have : ∃ cs, v = .agg cs := by
      cases T <;> simp only [Ty.isAgg, Bool.false_eq_true] at ha
      · cases D <;> simp only [undCheck, Bool.false_eq_true] at hu
        obtain ⟨cs, h1, _⟩ := hok
        exact ⟨cs, h1⟩
      · cases D <;> simp only [undCheck, Bool.false_eq_true] at hu
        obtain ⟨cs, h1, _⟩ := hok
        exact ⟨cs, h1⟩
      · cases D <;> simp only [undCheck, Bool.false_eq_true] at hu
        obtain ⟨cs, h1, _⟩ := hok
        exact ⟨cs, h1⟩
    obtain ⟨cs, rfl⟩ := this
    simp [Value.cells]
  | false =>
    have hna : ∀ cs, v ≠ .agg cs := by
      rintro cs rfl
      cases T <;> simp only [Ty.isAgg, Bool.true_eq_false, reduceCtorEq] at ha <;> cases D <;> simp only [undCheck, Bool.false_eq_true] at hu <;>
        simp [Cell.okWide, Cell.ok, hD] at hok
    have hc : v.cells = #[v] := by cases v <;> first | rfl | exact absurd rfl (hna _)
    simp [hc]

theorem args_rep (G : Pg) (B : Bulk H) {base : Nat} {held : Bool} : ∀ {ts : List TypeId} {Ts : List Ty} {vals : List Value} {ds : List (DataW H)} {ps : List MemPlace}, tyAll G ts Ts = true →
    (∀ (j : Nat) t v, ts[j]? = some t → vals[j]? = some v → Value.okWide G.P W .any base t v) → DataW.TrodAll enc G.P W 0 (fun _ => true) held ts vals ds ps → B.all ds ≤ 1048576 →
    ∃ x : denT Ts, AVR (bare (fun _ => False) W) (avl (imX Ts x)) vals ∧ bulkT Ts x ≤ B.all ds
  | [], Ts, vals, ds, ps, hty, _, h, _ => by
    cases Ts with
    | cons _ _ => cases hty
    | nil =>
      cases vals <;> cases ds <;> simp only [DataW.TrodAll] at h
      exact ⟨(), trivial, Nat.zero_le _⟩
  | t :: ts, Ts, vals, ds, ps, hty, hok, h, hb => by
    cases Ts with
    | nil => cases hty
    | cons T Ts =>
      obtain ⟨v, vs, d, ds', p, q, rfl, rfl, rfl, h0, r0⟩ := trodAll_cons h
      rw [B.all1] at hb ⊢
      simp only [tyAll, Bool.and_eq_true] at hty
      obtain ⟨h1, h2, h3⟩ := hty
      cases hT : G.ty t with
      | none => rw [hT] at h1; cases h1
      | some U =>
        rw [hT] at h1
        have := Ty.eqb_eq h1
        subst this
        obtain ⟨x, hx, hxb⟩ := arg_rep G B hT h2 (hok 0 t v rfl rfl) h0 (by omega)
        obtain ⟨y, hy, hyb⟩ := args_rep G B (Ts := Ts) h3 (fun j t v e1 e2 => hok (j + 1) t v (by simpa using e1) (by simpa using e2)) r0 (by omega)
        refine ⟨(x, y), ⟨hx, hy⟩, ?_⟩
        show U.bulk x + bulkT Ts y ≤ _
        omega

/-- What was read before reads the same behind a call that turned nothing. -/
theorem trodAll_stays {P : Program} (hl : laidOutB P = true) {W W' : World} (hb : Below W.heap.size W W') {sp : Nat → Bool} : ∀ {ts : List TypeId} {vals : List Value} {ds : List (DataW H)} {ps : List MemPlace},
    (ts.all fun t => P.readableRec t && decide (t < P.types.size)) = true → DataW.TrodAll enc P W 0 (fun _ => true) true ts vals ds ps → (∀ p ∈ ps, p.block < W.heap.size) → (∀ p ∈ ps, sp p.block = true) →
    DataW.TrodAll enc P W' 0 sp true ts vals ds ps
  | [], vals, ds, ps, _, h, _, _ => by
    cases vals <;> cases ds <;> simp only [DataW.TrodAll] at h ⊢
    exact h
  | t :: ts, vals, ds, ps, hr, h, hlt, hsp => by
    obtain ⟨v, vs, d, ds', p, q, rfl, rfl, rfl, h0, r0⟩ := trodAll_cons h
    simp only [List.all_cons, Bool.and_eq_true, decide_eq_true_eq] at hr
    refine ⟨p, q, ?_, ?_, rfl⟩
    · exact WideElems.Trod_stays hl hr.1.1 hr.1.2 h0 (fun x hx => hb.same (hlt x (List.mem_append_left _ hx))) (fun x hx => hsp x (List.mem_append_left _ hx))
    · exact trodAll_stays hl hb (by simpa using hr.2) r0 (fun x hx => hlt x (List.mem_append_right _ hx)) (fun x hx => hsp x (List.mem_append_right _ hx))

end

/-- A law that returns true at all arguments that are not too great. -/
theorem law_calls {G : Pg} {g : FuncId} {S : PSpec} (hS : PSound G g S) {Ts : List Ty} (hrun : ∀ x : denT Ts, bulkT Ts x ≤ 1048576 → wfT Ts x → ∃ y, S.run (avl (imX Ts x)) = some (some y) ∧ S.outA y = .imm .bool true)
    {W : World} {vals : Array Value} {x : denT Ts} (hg : GlobOk G.gl (fun _ => False) W) (hx : AVR (bare (fun _ => False) W) (avl (imX Ts x)) vals.toList) (hb : bulkT Ts x ≤ 1048576) :
    Calls G.P g vals W fun e W' => e = .returned (.bool true) ∧ Below W.heap.size W W' := by
  obtain ⟨y, hy, ho⟩ := hrun x hb (wfT_of hx)
  have := hS.calls (avl (imX Ts x)) y hy (fun _ => False) W vals.toList (fun _ h => h.elim) hg hx
  refine this.mono fun e W' ⟨v, he, hbl, hv⟩ => ?_
  rw [ho] at hv
  have := imm_bool hv
  subst this
  exact ⟨he, hbl⟩

end Go.Proofs.YtlkggeaibgaohaaGreatDoor.Sim
