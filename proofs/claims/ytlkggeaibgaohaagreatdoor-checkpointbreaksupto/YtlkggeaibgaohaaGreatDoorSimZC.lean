/- Functions. -/
import Derived.Test.YtlkggeaibgaohaaGreatDoorSimZB
namespace Go.Proofs.YtlkggeaibgaohaaGreatDoor.Sim
open Go Go.RowKit

def resAVs (G : Pg) (hp : List (Nat × OB)) (env : List (Nat × Option AV)) : List ResultVar → Option AV
  | [] => some .nil
  | .tmp t :: r => match find env t with
    | some (some a) => match resAVs G hp env r with
      | some l => some (.cons a l)
      | none => none
    | _ => none
  | .cell t ty :: r => match find env t with
    | some (some a) => match loadAV G hp ty a with
      | some cp => match cp.c with
        | some u => match resAVs G hp env r with
          | some l => some (.cons (cp.out u) l)
          | none => none
        | none => none
      | none => none
    | _ => none
def resV : AV → AV
  | .cons a .nil => a
  | l => .tup l

def startSt (S : Shp) (x : S.X) : St := ⟨[], zipE (List.range (avLen S.avs)) (S.avsOf x) [], S.heapOf x, S.nx⟩
def endK (G : Pg) (fn : Func) (base : Nat) (S : Shp) : Ex → St → Option S.X
  | .exit _, _ => none
  | _, st => match resAVs G st.heap st.env fn.results.toList with
    | some l => match capture base false st.heap S (resV l) with
      | some (_, ob, y) => cond ob (some y) none
      | none => none
    | none => none

/-- What the function's code gives. -/
noncomputable def runFn (E : Env) (H : Hnt) (fn : Func) (c : Code) (ins out : Shp) (x : ins.X) : Option out.X :=
  interp E H fn.ntmps ins.nx c 0 false out.X (startSt ins x) (endK E.G fn ins.nx out)

theorem fillA_list (hp : List (Nat × OB)) : ∀ {s : AV} {ts : List Ty} {x : denT (tysA s ts)}, isList s = true → isList (fillA hp s ts x).1 = true ∧ avLen (fillA hp s ts x).1 = avLen s := by
  intro s
  induction s with
  | nil => intro ts x _; exact ⟨rfl, rfl⟩
  | cons h r _ ih =>
    intro ts x hl
    obtain ⟨h1, h2⟩ := ih (ts := ts) (x := (fillA hp h (tysA r ts) x).2) hl
    exact ⟨h1, by show avLen (fillA hp r ts (fillA hp h (tysA r ts) x).2).1 + 1 = avLen r + 1; rw [h2]⟩
  | _ => intro ts x hl; cases hl

theorem resAVs_sound (G : Pg) {fr : Frm} {m : Nat → Option Nat × Nat} {st : St} {a : Act} {w : World} (hF : Fits fr m st a w) (hl : st.loc = []) : ∀ {rs : List ResultVar} {l : AV}, resAVs G st.heap st.env rs = some l →
    ∃ vs, (rs.mapM fun | .tmp t => pure (a.tmps.getD t undef) | .cell b t => do loadVar t (← asAddr (a.tmps.getD b undef)) : Sem (List Value)).run G.P w = .ok vs w ∧ AVR (cx fr m st w) l vs
  | [], l, h => by simp only [resAVs, Option.some.injEq] at h; subst h; exact ⟨[], rfl, trivial⟩
  | .tmp t :: r, l, h => by
    simp only [resAVs] at h
    split at h
    · rename_i x hx
      cases hr : resAVs G st.heap st.env r with
      | none => rw [hr] at h; cases h
      | some l' =>
        rw [hr] at h
        simp only [Option.some.injEq] at h
        subst h
        obtain ⟨vs, h1, h2⟩ := resAVs_sound G hF hl hr
        refine ⟨a.tmps.getD t undef :: vs, ?_, hF.env t (.av x) (by rw [look_env hl, hx]), h2⟩
        simp only [List.mapM_cons, Sem.run_bind, Sem.run_pure, Result.andThen]
        rw [h1]
    · cases h
  | .cell b t :: r, l, h => by
    simp only [resAVs] at h
    split at h
    · rename_i x hx
      cases hc : loadAV G st.heap t x with
      | none => rw [hc] at h; cases h
      | some cp =>
        rw [hc] at h
        simp only at h
        cases hu : cp.c with
        | none => rw [hu] at h; cases h
        | some u =>
          rw [hu] at h
          simp only at h
          cases hr : resAVs G st.heap st.env r with
          | none => rw [hr] at h; cases h
          | some l' =>
            rw [hr] at h
            simp only [Option.some.injEq] at h
            subst h
            obtain ⟨vs, h1, h2⟩ := resAVs_sound G hF hl hr
            obtain ⟨v, hv, hav⟩ := loadAV_sound G hF.heap hc hu (hF.env b (.av x) (by rw [look_env hl, hx]))
            refine ⟨v :: vs, ?_, hav, h2⟩
            have hp : ∃ ad, a.tmps.getD b undef = .pointer (some ad) := by
              revert hv
              generalize a.tmps.getD b undef = va
              intro hv
              cases va <;> try (simp [Instr.loadAt, Instr.sureAddr] at hv; done)
              rename_i o
              cases o with
              | none => simp [Instr.loadAt, Instr.sureAddr] at hv
              | some ad => exact ⟨ad, rfl⟩
            obtain ⟨ad, hva⟩ := hp
            have step : (do loadVar t (← asAddr (a.tmps.getD b undef)) : Sem Value).run G.P w = .ok v w := by
              rw [hva] at hv ⊢
              simp only [Instr.loadAt, Instr.sureAddr, Sem.run_bind, Sem.run_pure, Result.andThen] at hv
              simp only [asAddr, Sem.run_bind, Sem.run_pure, Result.andThen]
              exact hv
            rw [List.mapM_cons]
            show ((do loadVar t (← asAddr (a.tmps.getD b undef)) : Sem Value) >>= fun v => (List.mapM _ r) >>= fun vs => pure (v :: vs)).run G.P w = _
            rw [Sem.run_bind, step]
            simp only [Result.andThen, Sem.run_bind, Sem.run_pure]
            rw [h1]
    · cases h

theorem ESound.of_run {E : Env} (hE : E.Ok) {g : FuncId} {fn : Func} {c : Code} {H : Hnt} {ins out : Shp} (hf : E.G.P.funcs[g]? = some fn) (hb : fn.body = some c) (hn : (fn.name == "runtime.NumGoroutine") = false)
    (hl : isList ins.avs = true) (ha : Nat.ble (avLen ins.avs) fn.ntmps = true) : ESound E.G g ⟨ins, out, runFn E H fn c ins out⟩ := by
  refine ⟨⟨fn, hf, hn, by rw [hb]; rfl⟩, ?_⟩
  intro x y hr fr m st w vals hgl hw hbase hheap hnx HH hv
  have hr' : runFn E H fn c ins out x = some y := hr
  have hheap' : st.heap = ins.heapOf x := hheap
  have hnx' : st.nx = ins.nx := hnx
  have hv' : AVR (cx fr m st w) (ins.avsOf x) vals := hv
  have hbase' : fr.base = ins.nx := hbase
  obtain ⟨l1, l2⟩ := fillA_list (ins.heapOf x) (ts := []) (x := (fillH [] ins.heap _ x).2) hl
  have hlen : vals.length = avLen ins.avs := by rw [← l2]; exact avLen_sound l1 hv'
  have hle : vals.length ≤ fn.ntmps := by rw [hlen]; exact Nat.le_of_ble_eq_true ha
  let fr' : Frm := { fr with nt := fn.ntmps }
  have HH' : HeapOk fr' m (startSt ins x) w := ⟨fun id o hf => by
      obtain ⟨p1, p2⟩ := HH.obj id o (by rw [hheap']; exact hf)
      have e1 : cx fr' m (startSt ins x) w = cx fr m st w := by
        show Cx.mk (own fr.F m (ins.heapOf x)) m ins.nx w = Cx.mk (own fr.F m st.heap) m st.nx w
        rw [hheap', hnx']
      rw [e1]
      exact ⟨by show id < ins.nx; rw [← hnx']; exact p1, p2⟩,
    fun i j o o' b h1 h2 => HH.inj i j o o' b (by rw [hheap']; exact h1) (by rw [hheap']; exact h2),
    fun i o b h1 => HH.apart i o b (by rw [hheap']; exact h1), HH.since, HH.fsub, fun g t z hg => by
      have e1 : cx fr' m (startSt ins x) w = cx fr m st w := by
        show Cx.mk (own fr.F m (ins.heapOf x)) m ins.nx w = Cx.mk (own fr.F m st.heap) m st.nx w
        rw [hheap', hnx']
      rw [e1]
      exact HH.glob g t z hg, HH.anchor, by show fr.base ≤ ins.nx; rw [hbase']; exact Nat.le_refl _⟩
  let a0 : Act := { tmps := vals.toArray ++ Array.replicate (fn.ntmps - vals.toArray.size) undef, defers := [] }
  have hget : ∀ t, t < vals.length → a0.tmps.getD t undef = vals.getD t undef := fun t ht => by
    show (vals.toArray ++ _).getD t undef = _
    rw [Array.getD_eq_getD_getElem?, Array.getElem?_append_left (by simpa using ht)]
    simp [List.getD]
  have hmap : (List.range (avLen ins.avs)).map (fun t => a0.tmps.getD t undef) = vals := by
    rw [← hlen]
    apply List.ext_getElem
    · simp
    · intro i h1 h2
      simp only [List.getElem_map, List.getElem_range]
      rw [hget i h2]
      simp [List.getD, List.getElem?_eq_getElem h2]
  have hF : Fits fr' m (startSt ins x) a0 w := by
    refine ⟨?_, rfl, ?_, fun t u want z hz => by simp [startSt, find] at hz, HH'⟩
    · show (vals.toArray ++ Array.replicate (fn.ntmps - vals.toArray.size) undef).size = fn.ntmps
      simp only [Array.size_append, List.size_toArray, Array.size_replicate]
      omega
    · intro t e he
      rw [look_env rfl] at he
      cases hq : find (startSt ins x).env t with
      | none => rw [hq] at he; cases he
      | some o =>
        rw [hq] at he
        cases o with
        | none => cases he
        | some z =>
          simp only [Option.some.injEq] at he
          subst he
          have hav : AVR (cx fr' m (startSt ins x) w) (ins.avsOf x) ((List.range (avLen ins.avs)).map fun t => a0.tmps.getD t undef) := by
            rw [hmap]
            have e1 : cx fr' m (startSt ins x) w = cx fr m st w := by
              show Cx.mk (own fr.F m (ins.heapOf x)) m ins.nx w = Cx.mk (own fr.F m st.heap) m st.nx w
              rw [hheap', hnx']
            rw [e1]
            exact hv'
          rcases zipE_sound hav hq with h1 | h1
          · exact h1
          · simp [find] at h1
  refine calls_of_wp hf hb ?_
  have hfin : ∀ (e : Ex) (m' : Nat → Option Nat × Nat) (st' : St) (a' : Act) (w' : World), Fits fr' m' st' a' w' → st'.loc = [] → (match resAVs E.G st'.heap st'.env fn.results.toList with
        | some l => match capture ins.nx false st'.heap out (resV l) with
          | some (_, ob, y) => cond ob (some y) none
          | none => none
        | none => none) = some y →
      a'.defers = [] ∧ ∃ v, (results fn a'.tmps).run E.G.P w' = .ok v w' ∧ ∃ m2 st2, st2.heap = out.heapOf y ∧ st2.nx = out.nx ∧ HeapOk fr m2 st2 w' ∧ AVR (cx fr m2 st2 w') (out.avsOf y) [v] := by
    intro e m' st' a' w' hF' hl' hk
    refine ⟨hF'.defers, ?_⟩
    cases hres : resAVs E.G st'.heap st'.env fn.results.toList with
    | none => rw [hres] at hk; cases hk
    | some l =>
      rw [hres] at hk
      simp only at hk
      cases hc : capture ins.nx false st'.heap out (resV l) with
      | none => rw [hc] at hk; cases hk
      | some q =>
        obtain ⟨ρ, ob, y'⟩ := q
        rw [hc] at hk
        simp only at hk
        cases ob with
        | false => cases hk
        | true =>
          simp only [cond_true, Option.some.injEq] at hk
          subst hk
          obtain ⟨vs, h1, h2⟩ := resAVs_sound E.G hF' hl' hres
          have hc' : capture fr'.base false st'.heap out (resV l) = some (ρ, true, y') := by
            show capture fr.base false st'.heap out (resV l) = _
            rw [hbase']
            exact hc
          obtain ⟨m2, hm⟩ := capture_sound hF'.heap hc'
          obtain ⟨k1, k2, k3⟩ := hm ⟨[], [], out.heapOf y', out.nx⟩ rfl rfl
          have hrun : (results fn a'.tmps).run E.G.P w' = .ok (if h : vs.toArray.size = 1 then vs.toArray[0] else .tuple vs.toArray) w' := by
            simp only [results, Sem.run_bind, Array.mapM_eq_mapM_toList, Sem.run_map]
            erw [h1]
            rfl
          have hres1 : AVR (cx fr' m' st' w') (resV l) [if h : vs.toArray.size = 1 then vs.toArray[0] else .tuple vs.toArray] := by
            have tup : ∀ {l : AV} {vs : List Value}, AVR (cx fr' m' st' w') l vs → AVR (cx fr' m' st' w') (.tup l) [.tuple vs.toArray] := fun h => ⟨_, rfl, h⟩
            cases vs with
            | nil =>
              cases l <;> first | exact h2.elim | skip
              exact tup h2
            | cons v vs =>
              cases vs with
              | nil =>
                have e1 : (if h : ([v] : List Value).toArray.size = 1 then ([v] : List Value).toArray[0] else .tuple ([v] : List Value).toArray) = v := rfl
                rw [e1]
                -- one result: the list has one value
                have : isList l = true → ∃ b, l = .cons b .nil := fun hl => by
                  cases l <;> first | (cases hl; done) | skip
                  · exact h2.elim
                  · rename_i h t
                    obtain ⟨_, h3⟩ := h2
                    cases t <;> first | exact h3.elim | skip
                    all_goals first | exact ⟨_, rfl⟩ | (cases hl; done)
                have hil : ∀ {rs : List ResultVar} {l : AV}, resAVs E.G st'.heap st'.env rs = some l → isList l = true := by
                  intro rs
                  induction rs with
                  | nil => intro l h; simp only [resAVs, Option.some.injEq] at h; subst h; rfl
                  | cons r rs ih =>
                    intro l h
                    cases r <;> simp only [resAVs] at h
                    · split at h
                      · cases hr : resAVs E.G st'.heap st'.env rs with
                        | none => rw [hr] at h; cases h
                        | some l' => rw [hr] at h; simp only [Option.some.injEq] at h; subst h; show isList l' = true; exact ih hr
                      · cases h
                    · split at h
                      · split at h
                        · split at h
                          · cases hr : resAVs E.G st'.heap st'.env rs with
                            | none => rw [hr] at h; cases h
                            | some l' => rw [hr] at h; simp only [Option.some.injEq] at h; subst h; show isList l' = true; exact ih hr
                          · cases h
                        · cases h
                      · cases h
                obtain ⟨b, rfl⟩ := this (hil hres)
                exact h2.1
              | cons u us =>
                have e1 : (if h : (v :: u :: us : List Value).toArray.size = 1 then (v :: u :: us : List Value).toArray[0] else .tuple (v :: u :: us : List Value).toArray) = .tuple (v :: u :: us : List Value).toArray := by
                  rw [dif_neg (by simp)]
                rw [e1]
                have : resV l = .tup l := by
                  cases l <;> first | rfl | skip
                  rename_i h t
                  cases t <;> first | rfl | skip
                  exact h2.2.elim
                rw [this]
                exact tup h2
          exact ⟨_, hrun, m2, ⟨[], [], out.heapOf y', out.nx⟩, rfl, rfl, ⟨k1.obj, k1.inj, k1.apart, k1.since, k1.fsub, k1.glob, k1.anchor, k1.above⟩, k3 _ hres1⟩
  refine interp_sound hE (fr := fr') hgl c (Q := bodyPost E.G.P fn _) hF rfl (by
    show interp E H fn.ntmps fr.base c 0 false out.X (startSt ins x) (endK E.G fn ins.nx out) = some y
    rw [hbase']
    exact hr') fun e m' st' a' w' hF' hl' hx hk => ?_
  cases e with
  | exit id => cases hk
  | normal =>
    obtain ⟨h1, v, h2, h3⟩ := hfin .normal m' st' a' w' hF' hl' hk
    exact ⟨h1, v, h2, v, rfl, h3⟩
  | ret =>
    obtain ⟨h1, v, h2, h3⟩ := hfin .ret m' st' a' w' hF' hl' hk
    exact ⟨h1, v, h2, v, rfl, h3⟩

end Go.Proofs.YtlkggeaibgaohaaGreatDoor.Sim
