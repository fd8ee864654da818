/- Arguments that were read as data, as data of the codes; how much they hold. -/
import Derived.Test.YtlkggeaibgaohaaGreatDoorSimZF
import Derived.OpenShut
namespace Go.Proofs.YtlkggeaibgaohaaGreatDoor.Sim
open Go Go.RowKit

/-- How much a datum holds. -/
def Ty.bulk : (t : Ty) → t.den → Nat
  | .int _, _ => 1
  | .bool, _ => 1
  | .str, s => ByteArray.size s + 1
  | .unit, _ => 0
  | .pair a b, x => a.bulk x.1 + b.bulk x.2
  | .struct b, x => b.bulk x + 1
  | .slice e, xs => (List.map e.bulk xs).sum + 1
  | .tslice e, xs => (List.map e.bulk xs).sum + 1
  | .arr _ e, xs => (List.map e.bulk xs).sum + 1
  | .named _, _ => 1

/-- Whole numbers are in the range of their kinds; rows have their lengths. -/
def Ty.wf : (t : Ty) → t.den → Prop
  | .int k, n => inKind k n
  | .pair a b, x => a.wf x.1 ∧ b.wf x.2
  | .struct b, x => b.wf x
  | .slice e, xs => ∀ i (h : i < List.length xs), e.wf (xs[i]'h)
  | .tslice e, xs => ∀ i (h : i < List.length xs), e.wf (xs[i]'h)
  | .arr n e, xs => List.length xs = n ∧ ∀ i (h : i < List.length xs), e.wf (xs[i]'h)
  | _, _ => True
theorem Rep.wf {O : Nat → Prop} {w : World} {t : Ty} {cs : List Value} {x : t.den} (h : Rep O w t cs x) : t.wf x := by
  induction h with
  | int h => exact h
  | bool b => trivial
  | str h => trivial
  | unit => trivial
  | pair h k ih1 ih2 => exact ⟨ih1, ih2⟩
  | struct h ih => exact ih
  | slice base len cap cells hlen hcap hmax hsz hb hat h ih => exact fun i hi => ih i hi
  | tslice h ih => exact ih
  | arr cells hn h ih => exact ⟨hn, fun i hi => ih i hi⟩
  | named h ih => rename_i r _ _; cases r <;> trivial
theorem AVR.wf {c : Cx} {t : Ty} {x : t.den} {v : Value} (h : AVR c (.imm t x) [v]) : t.wf x := by
  obtain ⟨cs, hr, _⟩ := h
  exact hr.wf
/-- A measure of readings. -/
structure Bulk (H : Type) where
  one : DataW H → Nat
  all : List (DataW H) → Nat
  str : ∀ l, one (.lit (.string l)) = l.length + 1
  lit : ∀ l, 1 ≤ one (.lit l)
  nil : 1 ≤ one .nil
  slice : ∀ e s, one (.slice e s) = all e + all s + 1
  agg : ∀ l, one (.agg l) = all l + 1
  all0 : all [] = 0
  all1 : ∀ d r, all (d :: r) = one d + all r

/-- Types of which elements are not too great. -/
def Ty.small : Ty → Bool
  | .pair a b => a.small && b.small
  | .struct b => b.small
  | .slice e => e.small && (Nat.blt 0 e.size && Nat.ble e.bytes 1048576)
  | .tslice _ => false
  | .arr _ e => e.small
  | _ => true

theorem body_small (r : Nat) : (Ty.body r).small = true := by cases r <;> rfl
theorem body_size_pos (r : Nat) : 0 < (Ty.body r).size := by
  cases r with
  | zero => decide
  | succ r => show 0 < Ty.size stmtBody; decide

theorem mapM_some {α β : Type} {f : α → Option β} : ∀ {l : List α} {r : List β}, l.mapM f = some r → r.length = l.length ∧ ∀ (i : Nat) (x : α), l[i]? = some x → ∃ y, f x = some y ∧ r[i]? = some y := by
  intro l
  induction l with
  | nil =>
    intro r h
    simp only [List.mapM_nil] at h
    cases h
    exact ⟨rfl, fun i x hx => by simp at hx⟩
  | cons a l ih =>
    intro r h
    simp only [List.mapM_cons] at h
    cases ha : f a with
    | none => rw [ha] at h; cases h
    | some b =>
      rw [ha] at h
      cases hl : l.mapM f with
      | none => rw [hl] at h; cases h
      | some bs =>
        rw [hl] at h
        cases h
        obtain ⟨h1, h2⟩ := ih hl
        refine ⟨by simp [h1], fun i x hx => ?_⟩
        cases i with
        | zero => simp only [List.getElem?_cons_zero, Option.some.injEq] at hx; subst hx; exact ⟨b, ha, rfl⟩
        | succ i => rw [List.getElem?_cons_succ] at hx; rw [List.getElem?_cons_succ]; exact h2 i x hx

theorem cellsOf_ty (G : Pg) {t : Nat} {T : Ty} (h : G.ty t = some T) : G.P.cellsOf t = T.size := by
  obtain ⟨i, hi, hs, _⟩ := G.info h
  simp [Program.cellsOf, hi, hs]

section
variable {H : Type} {enc : TypeId × Value → H} {w : World} {held : Bool}

/-- A struct's fields, one behind the other. -/
theorem fields_rep (G : Pg) (B : Bulk H) {fuel : Nat}
    (ih : ∀ {t : TypeId} {T : Ty} {cs : List Value} {d : DataW H} {ps : List MemPlace}, G.ty t = some T → T.small = true → DataW.trod enc G.P w 0 (fun _ => true) held fuel t cs = some (d, ps) → B.one d ≤ 1048576 →
      ∃ x : T.den, Rep (fun _ => False) w T cs x ∧ T.bulk x ≤ B.one d) :
    ∀ {fs : List Field} {b : Ty} {off : Nat} {cs : List Value} {xs : List (DataW H × List MemPlace)}, fieldsOk G.ty fs off b = true → b.small = true → off + b.size ≤ cs.length →
      (fs.mapM fun f => DataW.trod enc G.P w 0 (fun _ => true) held fuel f.type ((cs.drop f.offset).take (G.P.cellsOf f.type))) = some xs → B.all (xs.map (·.1)) ≤ 1048576 →
      ∃ x : b.den, Rep (fun _ => False) w b ((cs.drop off).take b.size) x ∧ b.bulk x ≤ B.all (xs.map (·.1)) := by
  intro fs
  induction fs with
  | nil =>
    intro b off cs xs hok hsm hfit hm hb
    cases b <;> try (simp [fieldsOk] at hok; done)
    refine ⟨(), ?_, Nat.zero_le _⟩
    simp only [Ty.size, List.take_zero]
    exact Rep.unit
  | cons f fs ihf =>
    intro b off cs xs hok hsm hfit hm hb
    simp only [List.mapM_cons] at hm
    cases h1 : DataW.trod enc G.P w 0 (fun _ => true) held fuel f.type ((cs.drop f.offset).take (G.P.cellsOf f.type)) with
    | none => rw [h1] at hm; cases hm
    | some d =>
      rw [h1] at hm
      cases h2 : (fs.mapM fun f => DataW.trod enc G.P w 0 (fun _ => true) held fuel f.type ((cs.drop f.offset).take (G.P.cellsOf f.type))) with
      | none => rw [h2] at hm; cases hm
      | some ds =>
        rw [h2] at hm
        cases hm
        simp only [List.map_cons, B.all1] at hb ⊢
        cases fs with
        | nil =>
          simp only [fieldsOk, Bool.and_eq_true] at hok
          obtain ⟨⟨_, ho⟩, ht⟩ := hok
          cases hT : G.ty f.type with
          | none => rw [hT] at ht; cases ht
          | some T =>
            rw [hT] at ht
            have := Ty.eqb_eq ht
            subst this
            have ho' : f.offset = off := Nat.eq_of_beq_eq_true ho
            rw [cellsOf_ty G hT, ho'] at h1
            obtain ⟨x, hx, hxb⟩ := ih hT hsm h1 (by omega)
            exact ⟨x, hx, by omega⟩
        | cons g gs =>
          cases b <;> try (simp [fieldsOk] at hok; done)
          rename_i a c
          simp only [fieldsOk, Bool.and_eq_true] at hok
          obtain ⟨⟨ho, ht⟩, hrest⟩ := hok
          simp only [Ty.small, Bool.and_eq_true] at hsm
          simp only [Ty.size] at hfit
          cases hT : G.ty f.type with
          | none => rw [hT] at ht; cases ht
          | some T =>
            rw [hT] at ht
            have := Ty.eqb_eq ht
            subst this
            have ho' : f.offset = off := Nat.eq_of_beq_eq_true ho
            rw [cellsOf_ty G hT, ho'] at h1
            obtain ⟨x, hx, hxb⟩ := ih hT hsm.1 h1 (by omega)
            obtain ⟨y, hy, hyb⟩ := ihf (off := off + T.size) hrest hsm.2 (by omega) h2 (by omega)
            refine ⟨(x, y), ?_, ?_⟩
            · have e : (cs.drop off).take (Ty.pair T c).size = (cs.drop off).take T.size ++ (cs.drop (off + T.size)).take c.size := by
                simp only [Ty.size]
                rw [List.take_add, List.drop_drop]
              rw [e]
              exact .pair hx hy
            · show T.bulk x + c.bulk y ≤ _
              omega

theorem cells?_some {base : Nat} {a : Addr} {n : Nat} {l : List Value} (h : w.cells? base a n = some l) : l.length = n ∧ ∀ j, j < n → w.cell? (a.add j) = l[j]? := by
  unfold World.cells? at h
  split at h
  · obtain ⟨h1, h2⟩ := mapM_some h
    rw [List.length_range] at h1
    refine ⟨h1, fun j hj => ?_⟩
    obtain ⟨y, hy, hr⟩ := h2 j j (by rw [List.getElem?_range hj])
    rw [hy, hr]
  · cases h

theorem sum_le_all (B : Bulk H) {α : Type} {f : α → Nat} : ∀ {xs : List α} {ds : List (DataW H)}, xs.length = ds.length → (∀ i (h : i < xs.length) d, ds[i]? = some d → f xs[i] ≤ B.one d) → (xs.map f).sum ≤ B.all ds
  | [], [], _, _ => by simp
  | [], _ :: _, h, _ => by simp at h
  | _ :: _, [], h, _ => by simp at h
  | x :: xs, d :: ds, h, hf => by
    simp only [List.map_cons, List.sum_cons, B.all1]
    have h1 := hf 0 (by simp) d rfl
    have h2 := sum_le_all B (f := f) (xs := xs) (ds := ds) (by simpa using h) fun i hi e he => hf (i + 1) (by simpa using hi) e (by simpa using he)
    simp only [List.getElem_cons_zero] at h1
    omega
theorem one_le_all (B : Bulk H) {d : DataW H} : ∀ {ds : List (DataW H)}, d ∈ ds → B.one d ≤ B.all ds
  | e :: ds, h => by
    rw [B.all1]
    rcases List.mem_cons.1 h with rfl | h
    · omega
    · have := one_le_all B h; omega
theorem len_le_all (B : Bulk H) : ∀ {ds : List (DataW H)}, (∀ d ∈ ds, 1 ≤ B.one d) → ds.length ≤ B.all ds
  | [], _ => Nat.zero_le _
  | d :: ds, h => by
    rw [B.all1, List.length_cons]
    have h1 := h d (List.mem_cons_self ..)
    have h2 := len_le_all B fun e he => h e (List.mem_cons_of_mem _ he)
    omega

theorem bulk_pos {T : Ty} (h : T.isVal = true) (x : T.den) : 1 ≤ T.bulk x := by
  cases T <;> simp only [Ty.bulk] <;> first | omega | (simp [Ty.isVal, Ty.isLeaf, Ty.isAgg] at h)

theorem spot_of_cell {a : Addr} {v : Value} (h : w.cell? a = some v) : a.spot = none := by
  unfold World.cell? at h
  split at h
  · cases hs : a.spot with
    | none => rfl
    | some s => rw [hs] at h; simp at h
  · cases h

theorem mem_all {B : Bulk H} {xs : List (DataW H × List MemPlace)} {i : Nat} {y : DataW H × List MemPlace} (h : xs[i]? = some y) : B.one y.1 ≤ B.all (xs.map (·.1)) :=
  one_le_all B (List.mem_map_of_mem (List.mem_of_getElem? h))

/-- What was read as data holds such a datum, and no more than was read. -/
theorem trod_rep (G : Pg) (B : Bulk H) : ∀ (fuel : Nat) {t : TypeId} {T : Ty} {cs : List Value} {d : DataW H} {ps : List MemPlace}, G.ty t = some T → T.small = true →
    DataW.trod enc G.P w 0 (fun _ => true) held fuel t cs = some (d, ps) → B.one d ≤ 1048576 → ∃ x : T.den, Rep (fun _ => False) w T cs x ∧ T.bulk x ≤ B.one d := by
  intro fuel
  induction fuel with
  | zero => intro t T cs d ps _ _ h _; cases h
  | succ fuel ih =>
    intro t T cs d ps hT hsm h hb
    obtain ⟨D, hD, hu⟩ := G.und hT
    unfold DataW.trod at h
    have fields : ∀ (fs : Array Field) (b : Ty), T.fields = some b → T.size = b.size → b.small = true → D = .struct fs → fieldsOk G.ty fs.toList 0 b = true → ∃ x : b.den, Rep (fun _ => False) w b cs x ∧ b.bulk x + 1 ≤ B.one d := by
      intro fs b hf hsz hbs hDe hok
      subst hDe
      rw [hD] at h
      cases hlen : decide (cs.length = G.P.cellsOf t) with
      | false =>
        exfalso
        have hne : ¬ cs.length = G.P.cellsOf t := of_decide_eq_false hlen
        cases cs with
        | nil => simp [hne] at h; exact hne h.1
        | cons c r => simp at h; exact hne (by simpa using h.1)
      | true =>
        have hl : cs.length = G.P.cellsOf t := of_decide_eq_true hlen
        have h' : ((fs.toList.mapM fun f => DataW.trod enc G.P w 0 (fun _ => true) held fuel f.type ((cs.drop f.offset).take (G.P.cellsOf f.type))).map fun xs => ((.agg (xs.map (·.1)) : DataW H), xs.flatMap (·.2))) = some (d, ps) := by
          simpa [hl] using h
        cases hm : (fs.toList.mapM fun f => DataW.trod enc G.P w 0 (fun _ => true) held fuel f.type ((cs.drop f.offset).take (G.P.cellsOf f.type))) with
        | none => rw [hm] at h'; cases h'
        | some xs =>
          rw [hm] at h'
          simp only [Option.map_some, Option.some.injEq, Prod.mk.injEq] at h'
          obtain ⟨rfl, _⟩ := h'
          rw [B.agg] at hb ⊢
          have hcl : cs.length = b.size := by rw [hl, cellsOf_ty G hT, hsz]
          obtain ⟨x, hx, hxb⟩ := fields_rep G B ih hok hbs (by rw [hcl]; omega) hm (by omega)
          rw [List.drop_zero, ← hcl, List.take_length] at hx
          exact ⟨x, hx, by omega⟩
    have byT : (∃ b, T.fields = some b ∧ b.small = true ∧ T.size = b.size) → ∀ fs, D = .struct fs → ∃ x : T.den, Rep (fun _ => False) w T cs x ∧ T.bulk x ≤ B.one d := by
      rintro ⟨b, hf, hbs, hsz⟩ fs hDe
      subst hDe
      cases T <;> simp only [Ty.fields, Option.some.injEq, reduceCtorEq] at hf
      · subst hf
        obtain ⟨x, hx, hxb⟩ := fields _ _ rfl hsz hbs rfl hu
        exact ⟨x, .struct hx, hxb⟩
      · subst hf
        rename_i r
        obtain ⟨x, hx, hxb⟩ := fields _ _ rfl hsz hbs rfl hu
        refine ⟨reroll r x, .named (by rw [unroll_reroll]; exact hx), ?_⟩
        show 1 ≤ _
        omega
    split at h
    case h_1 b heq =>
      rw [hD] at heq
      cases heq
      cases h
      cases T <;> simp only [undCheck, Bool.false_eq_true] at hu
      exact ⟨b, .bool b, B.lit _⟩
    case h_2 k k' n heq =>
      rw [hD] at heq
      cases heq
      cases T <;> simp only [undCheck, Bool.false_eq_true] at hu
      have := kindNo_inj hu
      subst this
      split at h
      · rename_i hk
        obtain ⟨rfl, hw⟩ := hk
        cases h
        refine ⟨n, .int ?_, B.lit _⟩
        simp only [Lit.wf, Bool.and_eq_true, decide_eq_true_eq] at hw
        exact hw
      · cases h
    case h_4 s heq =>
      rw [hD] at heq
      cases heq
      cases T <;> simp only [undCheck, Bool.false_eq_true] at hu
      split at h
      · cases h
        rw [B.str] at hb ⊢
        have hl : s.data.toList.length = s.size := Array.length_toList
        rw [hl] at hb ⊢
        refine ⟨s, .str ?_, Nat.le_refl _⟩
        have : (2 : Nat) ^ 62 = 4611686018427387904 := by decide
        omega
      · cases h
    case h_7 e heq =>
      rw [hD] at heq
      cases heq
      cases h
      cases T <;> simp only [undCheck, Bool.false_eq_true] at hu
      case slice E =>
        simp only [Ty.small, Bool.and_eq_true] at hsm
        refine ⟨[], .slice none 0 0 (fun _ => []) rfl (Nat.le_refl _) (Nat.zero_le _) (Nat.le_of_ble_eq_true hsm.2.1) (by rw [Nat.zero_mul]; exact Nat.zero_le _) (.inl rfl) (fun i hi => absurd hi (Nat.not_lt_zero i)), ?_⟩
        have := B.nil
        show (List.map _ []).sum + 1 ≤ _
        simpa using this
    case h_8 e a len cap heq =>
      rw [hD] at heq
      cases heq
      cases T <;> simp only [undCheck, Bool.false_eq_true] at hu
      case slice E =>
        simp only [Ty.small, Bool.and_eq_true] at hsm
        obtain ⟨hsE, hszE, hbyE⟩ := hsm
        have hszE' : 0 < E.size := Nat.le_of_ble_eq_true hszE
        have hbyE' : E.bytes ≤ 1048576 := Nat.le_of_ble_eq_true hbyE
        cases hTe : G.ty e with
        | none => rw [hTe] at hu; cases hu
        | some E' =>
          rw [hTe] at hu
          have := Ty.eqb_eq hu
          subst this
          have hce := cellsOf_ty G hTe
          split at h
          · rename_i hcond
            dsimp only at h
            cases hm : ((List.range len).mapM fun i => (w.cells? 0 (a.add (i * G.P.cellsOf e)) (G.P.cellsOf e)).bind (DataW.trod enc G.P w 0 (fun _ => true) held fuel e)) with
            | none => rw [hm] at h; cases h
            | some elems =>
              rw [hm] at h
              simp only [Option.bind_some, if_true] at h
              cases hm2 : ((List.range (cap - len)).mapM fun j => (w.cells? 0 (a.add ((len + j) * G.P.cellsOf e)) (G.P.cellsOf e)).bind (DataW.trod enc G.P w 0 (fun _ => true) held fuel e)) with
              | none => rw [hm2] at h; cases h
              | some rest =>
                rw [hm2] at h
                simp only [Option.map_some, Option.some.injEq, Prod.mk.injEq] at h
                obtain ⟨rfl, _⟩ := h
                rw [B.slice] at hb ⊢
                obtain ⟨hl, hel⟩ := mapM_some hm
                rw [List.length_range] at hl
                -- one element
                have elem : ∀ i, i < len → ∃ (cells : List Value) (y : DataW H × List MemPlace) (x : E'.den), elems[i]? = some y ∧ w.cells? 0 (a.add (i * E'.size)) E'.size = some cells ∧ Rep (fun _ => False) w E' cells x ∧ E'.bulk x ≤ B.one y.1 := by
                  intro i hi
                  obtain ⟨y, hy, hr⟩ := hel i i (by rw [List.getElem?_range hi])
                  rw [hce] at hy
                  cases hc : w.cells? 0 (a.add (i * E'.size)) E'.size with
                  | none => rw [hc] at hy; cases hy
                  | some cells =>
                    rw [hc] at hy
                    have := mem_all (B := B) hr
                    obtain ⟨x, hx, hxb⟩ := ih (d := y.1) (ps := y.2) hTe hsE hy (by omega)
                    exact ⟨cells, y, x, hr, rfl, hx, hxb⟩
                have elem' : ∀ i : Fin len, ∃ (cells : List Value) (y : DataW H × List MemPlace) (x : E'.den), elems[i.1]? = some y ∧ w.cells? 0 (a.add (i.1 * E'.size)) E'.size = some cells ∧ Rep (fun _ => False) w E' cells x ∧ E'.bulk x ≤ B.one y.1 := fun i => elem i.1 i.2
                let xs : List E'.den := List.ofFn fun i : Fin len => Classical.choose (Classical.choose_spec (Classical.choose_spec (elem' i)))
                let cells : Nat → List Value := fun i => if h : i < len then Classical.choose (elem' ⟨i, h⟩) else []
                have spec : ∀ i (h : i < len), ∃ y, elems[i]? = some y ∧ w.cells? 0 (a.add (i * E'.size)) E'.size = some (cells i) ∧ Rep (fun _ => False) w E' (cells i) (Classical.choose (Classical.choose_spec (Classical.choose_spec (elem' ⟨i, h⟩)))) ∧
                    E'.bulk (Classical.choose (Classical.choose_spec (Classical.choose_spec (elem' ⟨i, h⟩)))) ≤ B.one y.1 := by
                  intro i h
                  have h3 := Classical.choose_spec (Classical.choose_spec (Classical.choose_spec (elem' ⟨i, h⟩)))
                  refine ⟨_, h3.1, ?_, ?_, h3.2.2.2⟩
                  · simp only [cells, dif_pos h]; exact h3.2.1
                  · simp only [cells, dif_pos h]; exact h3.2.2.1
                have hxl : xs.length = len := by simp [xs]
                have hsum : (List.map E'.bulk xs).sum ≤ B.all (elems.map (·.1)) := by
                  refine sum_le_all B (by rw [hxl, List.length_map, hl]) fun i hi d hd => ?_
                  have hi' : i < len := by rw [← hxl]; exact hi
                  obtain ⟨y, hy, _, _, hbk⟩ := spec i hi'
                  rw [List.getElem?_map, hy] at hd
                  simp only [Option.map_some, Option.some.injEq] at hd
                  subst hd
                  simpa [xs] using hbk
                have hlen : len ≤ (List.map E'.bulk xs).sum := by
                  have : ∀ l : List E'.den, l.length ≤ (List.map E'.bulk l).sum := by
                    intro l
                    induction l with
                    | nil => simp
                    | cons x l ih => simp only [List.length_cons, List.map_cons, List.sum_cons]; have := bulk_pos (G.isVal hTe) x; omega
                  have := this xs
                  omega
                refine ⟨xs, .slice (some a) len cap cells hxl hcond.2.1 hcond.2.2 hszE' ?_ ?_ ?_, ?_⟩
                · have h1 : len * E'.bytes ≤ 1048576 * 1048576 := Nat.mul_le_mul (by omega) hbyE'
                  have : (2 : Nat) ^ 47 = 140737488355328 := by decide
                  omega
                · by_cases h0 : len = 0
                  · exact .inl h0
                  · refine .inr ?_
                    have spot : a.spot = none := by
                      obtain ⟨y, _, hc, _, _⟩ := spec 0 (by omega)
                      obtain ⟨hcl, hcc⟩ := cells?_some hc
                      have h1 := hcc 0 hszE'
                      have : ∃ v, (cells 0)[0]? = some v := ⟨(cells 0)[0], List.getElem?_eq_getElem (by omega)⟩
                      obtain ⟨v, hv⟩ := this
                      rw [hv] at h1
                      have h2 := spot_of_cell h1
                      simpa [Addr.add] using h2
                    obtain ⟨b, off, sp⟩ := a
                    simp only at spot
                    subst spot
                    refine ⟨b, off, rfl, fun h => h, fun i hi j hj => ?_⟩
                    obtain ⟨y, _, hc, _, _⟩ := spec i hi
                    obtain ⟨hcl, hcc⟩ := cells?_some hc
                    have := hcc j hj
                    rw [add_addr, add_addr] at this
                    exact this
                · intro i hi
                  obtain ⟨y, _, _, hr, _⟩ := spec i (by rw [← hxl]; exact hi)
                  simpa [xs] using hr
                · show (List.map E'.bulk xs).sum + 1 ≤ _
                  omega
          · cases h
    case h_9 fs heq =>
      rw [hD] at heq
      cases heq
      cases T with
      | struct b =>
        obtain ⟨x, hx, hxb⟩ := fields _ _ rfl rfl hsm rfl hu
        exact ⟨x, .struct hx, hxb⟩
      | named r =>
        obtain ⟨x, hx, hxb⟩ := fields _ _ rfl (Ty.size_body r).symm (body_small r) rfl hu
        refine ⟨reroll r x, .named (by rw [unroll_reroll]; exact hx), ?_⟩
        show 1 ≤ _
        omega
      | _ => simp [undCheck] at hu
    case h_10 n e heq =>
      rw [hD] at heq
      cases heq
      cases T <;> simp only [undCheck, Bool.false_eq_true] at hu
      rename_i cs _ _ m E
      rw [Bool.and_eq_true] at hu
      have hnm := Nat.eq_of_beq_eq_true hu.1
      subst hnm
      cases hTe : G.ty e with
      | none => rw [hTe] at hu; cases hu.2
      | some E' =>
        rw [hTe] at hu
        have := Ty.eqb_eq hu.2
        subst this
        have hce := cellsOf_ty G hTe
        have hsE : E'.small = true := hsm
        split at h
        · rename_i hlen
          cases hm : ((List.range m).mapM fun i => DataW.trod enc G.P w 0 (fun _ => true) held fuel e ((cs.drop (i * G.P.cellsOf e)).take (G.P.cellsOf e))) with
          | none => rw [hm] at h; cases h
          | some elems =>
            rw [hm] at h
            simp only [Option.map_some, Option.some.injEq, Prod.mk.injEq] at h
            obtain ⟨rfl, _⟩ := h
            rw [B.agg] at hb ⊢
            obtain ⟨hl, hel⟩ := mapM_some hm
            rw [List.length_range] at hl
            have hcs : cs.length = m * E'.size := by rw [hlen, cellsOf_ty G hT]; rfl
            have elem : ∀ i : Fin m, ∃ (y : DataW H × List MemPlace) (x : E'.den), elems[i.1]? = some y ∧ Rep (fun _ => False) w E' ((cs.drop (i.1 * E'.size)).take E'.size) x ∧ E'.bulk x ≤ B.one y.1 := by
              intro i
              obtain ⟨y, hy, hr⟩ := hel i.1 i.1 (by rw [List.getElem?_range i.2])
              rw [hce] at hy
              have := mem_all (B := B) hr
              obtain ⟨x, hx, hxb⟩ := ih (d := y.1) (ps := y.2) hTe hsE hy (by omega)
              exact ⟨y, x, hr, hx, hxb⟩
            let xs : List E'.den := List.ofFn fun i : Fin m => Classical.choose (Classical.choose_spec (elem i))
            have spec : ∀ i (h : i < m), ∃ y, elems[i]? = some y ∧ Rep (fun _ => False) w E' ((cs.drop (i * E'.size)).take E'.size) (Classical.choose (Classical.choose_spec (elem ⟨i, h⟩))) ∧
                E'.bulk (Classical.choose (Classical.choose_spec (elem ⟨i, h⟩))) ≤ B.one y.1 := fun i h => ⟨_, Classical.choose_spec (Classical.choose_spec (elem ⟨i, h⟩))⟩
            have hxl : xs.length = m := by simp [xs]
            have hsum : (List.map E'.bulk xs).sum ≤ B.all (elems.map (·.1)) := by
              refine sum_le_all B (by rw [hxl, List.length_map, hl]) fun i hi d hd => ?_
              obtain ⟨y, hy, _, hbk⟩ := spec i (by rw [← hxl]; exact hi)
              rw [List.getElem?_map, hy] at hd
              simp only [Option.map_some, Option.some.injEq] at hd
              subst hd
              simpa [xs] using hbk
            refine ⟨xs, ?_, ?_⟩
            · have := Rep.arr (O := fun _ => False) (w := w) (e := E') (n := m) (xs := xs) (fun i => (cs.drop (i * E'.size)).take E'.size) hxl fun i hi => by
                obtain ⟨y, _, hr, _⟩ := spec i (by rw [← hxl]; exact hi)
                simpa [xs] using hr
              rw [chunks, ← hcs, List.take_length] at this
              exact this
            · show (List.map E'.bulk xs).sum + 1 ≤ _
              omega
        · cases h
    all_goals first
      | (cases h; done)
      | (rename_i heq; rw [hD] at heq; cases heq; cases T <;> simp [undCheck] at hu; done)

end
end Go.Proofs.YtlkggeaibgaohaaGreatDoor.Sim
