/- What an operation asks of a state: its operands, and the objects that it reads. What it turns. -/
import Derived.Test.YtlkggeaibgaohaaGreatDoorSimY
namespace Go.Proofs.YtlkggeaibgaohaaGreatDoor.Sim
open Go Go.RowKit

def Sub (h h' : List (Nat × OB)) : Prop := ∀ id o, find h id = some o → find h' id = some o
theorem Sub.refl (h : List (Nat × OB)) : Sub h h := fun _ _ e => e

theorem leafGet_mono {h h' : List (Nat × OB)} (hs : Sub h h') {t : Ty} {a : AV} {x : t.den} (hg : leafGet h t a = some x) : leafGet h' t a = some x := by
  cases a
  case view id e lo len =>
    simp only [leafGet] at hg ⊢
    cases hf : find h id with
    | none => rw [hf] at hg; cases hg
    | some o => rw [hf] at hg; rw [hs _ _ hf]; exact hg
  case const v =>
    cases v
    case slice b l c => cases b <;> cases l <;> cases c <;> exact hg
    all_goals exact hg
  all_goals exact hg
theorem leafStep_mono {h h' : List (Nat × OB)} (hs : Sub h h') {t : Ty} {a : AV} {x : t.den × AV} (hg : leafStep h t a = some x) : leafStep h' t a = some x := by
  cases a
  case cons a r =>
    simp only [leafStep] at hg ⊢
    cases hf : leafGet h t a with
    | none => rw [hf] at hg; cases hg
    | some o => rw [hf] at hg; rw [leafGet_mono hs hf]; exact hg
  all_goals exact hg
theorem mkCells_mono {h h' : List (Nat × OB)} (hs : Sub h h') : ∀ (n : Nat) {t : Ty} {l : AV} {x : t.den × AV}, mkCells h n t l = some x → mkCells h' n t l = some x
  | 0, _, _, _, hg => by cases hg
  | n + 1, t, l, x, hg => by
    cases t <;> simp only [mkCells] at hg ⊢
    case pair a b =>
      cases h1 : mkCells h n a l with
      | none => rw [h1] at hg; cases hg
      | some y =>
        rw [h1] at hg
        rw [mkCells_mono hs n h1]
        simp only at hg ⊢
        cases h2 : mkCells h n b y.2 with
        | none => rw [h2] at hg; cases hg
        | some z => rw [h2] at hg; rw [mkCells_mono hs n h2]; exact hg
    case struct b => exact mkCells_mono hs n hg
    case named r =>
      cases h1 : mkCells h n (Ty.body r) l with
      | none => rw [h1] at hg; cases hg
      | some y => rw [h1] at hg; rw [mkCells_mono hs n h1]; exact hg
    case unit => exact hg
    case arr _ _ => cases hg
    all_goals exact leafStep_mono hs hg
theorem AV.get_mono {h h' : List (Nat × OB)} (hs : Sub h h') {t : Ty} {a : AV} {x : t.den} (hg : a.get h t = some x) : a.get h' t = some x := by
  cases a
  case agg l =>
    simp only [AV.get] at hg ⊢
    cases hb : t.isAgg with
    | false => rw [hb] at hg; cases hg
    | true =>
      rw [hb] at hg
      simp only [cond_true] at hg ⊢
      cases h1 : mkCells h 100 t l with
      | none => rw [h1] at hg; cases hg
      | some y => rw [h1] at hg; rw [mkCells_mono hs 100 h1]; exact hg
  all_goals
    simp only [AV.get] at hg ⊢
    exact leafGet_mono hs hg
theorem conv_mono {h h' : List (Nat × OB)} (hs : Sub h h') : ∀ {ms : List (Option Ty)} {a l : AV}, conv h ms a = some l → conv h' ms a = some l
  | [], a, l, hg => by cases a <;> exact hg
  | some t :: ms, a, l, hg => by
    cases a
    case cons x r =>
      simp only [conv] at hg ⊢
      cases h1 : x.get h t with
      | none => rw [h1] at hg; cases hg
      | some y =>
        rw [h1] at hg
        rw [AV.get_mono hs h1]
        simp only at hg ⊢
        cases h2 : conv h ms r with
        | none => rw [h2] at hg; cases hg
        | some z => rw [h2] at hg; rw [conv_mono hs h2]; exact hg
    all_goals exact hg
  | none :: ms, a, l, hg => by
    cases a
    case cons x r =>
      simp only [conv] at hg ⊢
      cases h2 : conv h ms r with
      | none => rw [h2] at hg; cases hg
      | some z => rw [h2] at hg; rw [conv_mono hs h2]; exact hg
    all_goals exact hg
theorem callAV_mono {sp : Nat → Option PSpec} {h h' : List (Nat × OB)} (hs : Sub h h') {f args : AV} {cp : Comp AV} (hg : callAV sp h f args = some cp) : callAV sp h' f args = some cp := by
  cases f
  case fn g caps =>
    simp only [callAV] at hg ⊢
    cases h1 : sp g with
    | none => rw [h1] at hg; cases hg
    | some s =>
      rw [h1] at hg
      simp only at hg ⊢
      cases h2 : conv [] s.modes (args.append caps) with
      | some l => rw [h2] at hg; exact hg
      | none =>
        rw [h2] at hg
        simp only at hg ⊢
        cases h3 : conv h s.modes (args.append caps) with
        | none => rw [h3] at hg; cases hg
        | some l => rw [h3] at hg; rw [conv_mono hs h3]; exact hg
  all_goals exact hg
theorem loadAV_mono {G : Pg} {h h' : List (Nat × OB)} (hs : Sub h h') {t : TypeId} {a : AV} {cp : Comp AV} (hg : loadAV G h t a = some cp) : loadAV G h' t a = some cp := by
  unfold loadAV at hg ⊢
  cases hT : G.ty t with
  | none =>
    rw [hT] at hg
    simp only at hg ⊢
    cases a
    case ptr id off =>
      simp only at hg ⊢
      cases hf : find h id with
      | none => rw [hf] at hg; cases hl : leafDesc (G.P.underlying t) <;> rw [hl] at hg <;> cases hg
      | some o => rw [hf] at hg; rw [hs _ _ hf]; exact hg
    all_goals exact hg
  | some T =>
    rw [hT] at hg
    simp only at hg ⊢
    cases a
    case ptr id off =>
      simp only at hg ⊢
      cases hf : find h id with
      | none => rw [hf] at hg; cases hg
      | some o => rw [hf] at hg; rw [hs _ _ hf]; exact hg
    case eptr id e i p =>
      simp only at hg ⊢
      cases hf : find h id with
      | none => rw [hf] at hg; cases hg
      | some o => rw [hf] at hg; rw [hs _ _ hf]; exact hg
    case aptr id e =>
      simp only at hg ⊢
      cases hf : find h id with
      | none => rw [hf] at hg; cases hg
      | some o => rw [hf] at hg; rw [hs _ _ hf]; exact hg
    all_goals exact hg
theorem indexAddrAV_mono {G : Pg} {h h' : List (Nat × OB)} (hs : Sub h h') {t : TypeId} {a x : AV} {cp : Comp AV} (hg : indexAddrAV G h t a x = some cp) : indexAddrAV G h' t a x = some cp := by
  cases x
  case imm S n =>
    cases S
    case int k =>
      cases a
      case aptr id e =>
        simp only [indexAddrAV] at hg ⊢
        cases hT : G.ty t with
        | none => rw [hT] at hg; cases hg
        | some T =>
          rw [hT] at hg
          cases T
          case arr l e' =>
            simp only at hg ⊢
            cases hf : find h id with
            | none => rw [hf] at hg; cases hg
            | some o => rw [hf] at hg; rw [hs _ _ hf]; exact hg
          all_goals exact hg
      case imm T _ => cases T <;> exact hg
      all_goals exact hg
    all_goals exact hg
  all_goals exact hg
theorem sliceAV_mono {G : Pg} {h h' : List (Nat × OB)} (hs : Sub h h') {t : TypeId} {a : AV} {lo hi mx : Option AV} {cp : Comp AV} (hg : sliceAV G h t a lo hi mx = some cp) : sliceAV G h' t a lo hi mx = some cp := by
  unfold sliceAV at hg ⊢
  cases h1 : optInt lo with
  | none => rw [h1] at hg; cases hg
  | some l =>
    cases h2 : optInt hi with
    | none => rw [h1, h2] at hg; cases hg
    | some hh =>
      cases h3 : optInt mx with
      | none => rw [h1, h2, h3] at hg; cases hg
      | some m =>
        rw [h1, h2, h3] at hg
        simp only at hg ⊢
        cases a
        case aptr id e =>
          simp only at hg ⊢
          cases hT : G.ty t with
          | none => rw [hT] at hg; cases hg
          | some T =>
            rw [hT] at hg
            cases T
            case arr l e' =>
              simp only at hg ⊢
              cases hf : find h id with
              | none => rw [hf] at hg; cases hg
              | some o => rw [hf] at hg; rw [hs _ _ hf]; exact hg
            all_goals exact hg
        case imm T _ => cases T <;> exact hg
        all_goals exact hg

/- Operands -/

/-- The operand is known alike in both states. -/
def Alike (st st' : St) (x : Operand) : Prop := ∀ t, x = .tmp t → st'.look t = st.look t
theorem ev_congr {gl : Nat → Option (Σ t : Ty, t.den)} {st st' : St} {x : Operand} (h : Alike st st' x) : ev gl st' x = ev gl st x := by
  cases x <;> try rfl
  rename_i t
  simp only [ev, h t rfl]
theorem evs_congr {gl : Nat → Option (Σ t : Ty, t.den)} {st st' : St} : ∀ {l : List Operand}, (∀ x ∈ l, Alike st st' x) → evs gl st' l = evs gl st l
  | [], _ => rfl
  | x :: r, h => by
    simp only [evs, ev_congr (gl := gl) (h x (List.mem_cons_self ..)), evs_congr (gl := gl) (l := r) fun y hy => h y (List.mem_cons_of_mem _ hy)]
theorem partsEv_congr {gl : Nat → Option (Σ t : Ty, t.den)} {st st' : St} : ∀ {l : List (Nat × Operand)}, (∀ x ∈ l, Alike st st' x.2) → partsEv gl st' l = partsEv gl st l
  | [], _ => rfl
  | (k, x) :: r, h => by
    simp only [partsEv, ev_congr (gl := gl) (h (k, x) (List.mem_cons_self ..)), partsEv_congr (gl := gl) (l := r) fun y hy => h y (List.mem_cons_of_mem _ hy)]
theorem evO_congr {gl : Nat → Option (Σ t : Ty, t.den)} {st st' : St} {x : Option Operand} (h : ∀ y, x = some y → Alike st st' y) : evO gl st' x = evO gl st x := by
  cases x with
  | none => rfl
  | some y => simp only [evO, ev_congr (gl := gl) (h y rfl)]
theorem evG_congr {gl : Nat → Option (Σ t : Ty, t.den)} {st st' : St} {c x : Operand} {want : Bool} (h : Alike st st' x) : evG gl st' c want x = evG gl st c want x := by
  cases x <;> try rfl
  rename_i t
  simp only [evG, h t rfl]
theorem ev1_mono {gl : Nat → Option (Σ t : Ty, t.den)} {st st' : St} {x : Operand} {f f' : AV → Option (Comp AV)} {cp : Comp AV} (h : ev1 gl st x f = some cp) (hx : Alike st st' x)
    (hf : ∀ a, f a = some cp → f' a = some cp) : ev1 gl st' x f' = some cp := by
  unfold ev1 at h ⊢
  rw [ev_congr hx]
  cases he : ev gl st x with
  | none => rw [he] at h; cases h
  | some a => rw [he] at h; exact hf a h
theorem ev2_mono {gl : Nat → Option (Σ t : Ty, t.den)} {st st' : St} {x y : Operand} {f f' : AV → AV → Option (Comp AV)} {cp : Comp AV} (h : ev2 gl st x y f = some cp) (hx : Alike st st' x) (hy : Alike st st' y)
    (hf : ∀ a b, f a b = some cp → f' a b = some cp) : ev2 gl st' x y f' = some cp := by
  unfold ev2 at h ⊢
  rw [ev_congr hx, ev_congr hy]
  cases he : ev gl st x with
  | none => rw [he] at h; cases h
  | some a =>
    rw [he] at h
    simp only at h ⊢
    cases he2 : ev gl st y with
    | none => rw [he2] at h; cases h
    | some b => rw [he2] at h; exact hf a b h

theorem pureOp_mono {G : Pg} {sp : Nat → Option PSpec} {st st' : St} {op : Op} {cp : Comp AV} (h : pureOp G sp st op = some cp) (hl : ∀ x ∈ op.operands, Alike st st' x) (hs : Sub st.heap st'.heap) :
    pureOp G sp st' op = some cp := by
  unfold pureOp at h
  split at h
  case h_1 x => exact ev1_mono h (hl x (by simp [Op.operands])) fun _ e => e
  case h_2 x => exact ev1_mono h (hl x (by simp [Op.operands])) fun _ e => e
  case h_3 c a b =>
    simp only [pureOp]
    unfold pickAV at h ⊢
    rw [ev_congr (hl c (by simp [Op.operands])), evG_congr (hl a (by simp [Op.operands])), evG_congr (hl b (by simp [Op.operands]))]
    exact h
  case h_4 t x => exact ev1_mono h (hl x (by simp [Op.operands])) fun _ e => loadAV_mono hs e
  case h_5 t x k => exact ev1_mono h (hl x (by simp [Op.operands])) fun _ e => e
  case h_6 t x k => exact ev1_mono h (hl x (by simp [Op.operands])) fun _ e => e
  case h_7 t x i => exact ev2_mono h (hl x (by simp [Op.operands])) (hl i (by simp [Op.operands])) fun _ _ e => indexAddrAV_mono hs e
  case h_8 t x i => exact ev2_mono h (hl x (by simp [Op.operands])) (hl i (by simp [Op.operands])) fun _ _ e => e
  case h_9 x i => exact ev1_mono h (hl x (by simp [Op.operands])) fun _ e => e
  case h_10 x => exact ev1_mono h (hl x (by simp [Op.operands])) fun _ e => e
  case h_11 b t x y _ => exact ev2_mono h (hl x (by simp [Op.operands])) (hl y (by simp [Op.operands])) fun _ _ e => e
  case h_12 b t x => exact ev1_mono h (hl x (by simp [Op.operands])) fun _ e => e
  case h_13 s d x => exact ev1_mono h (hl x (by simp [Op.operands])) fun _ e => e
  case h_14 t ps =>
    simp only [pureOp]
    rw [partsEv_congr (st := st) fun x hx => hl x.2 (by simp only [Op.operands]; exact List.mem_toArray.2 (List.mem_map.2 ⟨x, hx, rfl⟩))]
    exact h
  case h_15 t n ps =>
    simp only [pureOp]
    rw [partsEv_congr (st := st) fun x hx => hl x.2 (by simp only [Op.operands]; exact List.mem_toArray.2 (List.mem_map.2 ⟨x, hx, rfl⟩))]
    exact h
  case h_16 t x lo hi mx =>
    simp only [pureOp]
    rw [evO_congr (st := st) (x := lo) fun y hy => hl y (by subst hy; simp [Op.operands]), evO_congr (st := st) (x := hi) fun y hy => hl y (by subst hy; simp [Op.operands]),
      evO_congr (st := st) (x := mx) fun y hy => hl y (by subst hy; simp [Op.operands])]
    split at h
    · rename_i l hh m e1 e2 e3
      try rw [e1, e2, e3]
      try simp only
      cases hb : (mx.isSome && hi.isNone) with
      | true => rw [hb] at h; cases h
      | false =>
        rw [hb] at h
        simp only [cond_false] at h ⊢
        refine ev1_mono h (hl x (by simp [Op.operands])) fun a e => ?_
        cases hb2 : (mx.isSome && isRef (norm a)) with
        | true => rw [hb2] at e; cases e
        | false => rw [hb2] at e; simp only [cond_false] at e ⊢; exact sliceAV_mono hs e
    · cases h
  case h_17 f first caps =>
    simp only [pureOp]
    rw [evs_congr (st := st) fun x hx => hl x (by simp only [Op.operands]; exact Array.mem_append.2 (.inr (by simpa using hx)))]
    exact h
  case h_18 args ts =>
    simp only [pureOp]
    split at h
    · rename_i x t e1 e2
      try rw [e1, e2]
      refine ev1_mono h (hl x ?_) fun _ e => e
      have : x ∈ args.toList := by rw [e1]; exact List.mem_cons_self ..
      simp only [Op.operands, Call.operands]
      exact Array.mem_append.2 (.inr (by simpa using this))
    · cases h
  case h_19 args _ =>
    simp only [pureOp]
    rw [evs_congr (st := st) fun x hx => hl x (by simp only [Op.operands, Call.operands]; exact Array.mem_append.2 (.inr (by simpa using hx)))]
    exact h
  case h_20 args _ =>
    simp only [pureOp]
    rw [evs_congr (st := st) fun x hx => hl x (by simp only [Op.operands, Call.operands]; exact Array.mem_append.2 (.inr (by simpa using hx)))]
    exact h
  case h_21 f args _ =>
    simp only [pureOp]
    rw [evs_congr (st := st) fun x hx => hl x (by simp only [Op.operands, Call.operands]; exact Array.mem_append.2 (.inr (by simpa using hx))), ev_congr (hl f (by simp [Op.operands, Call.operands]))]
    split at h
    · rename_i fa aa e1 e2
      try rw [e1, e2]
      exact callAV_mono hs h
    · cases h
  case h_22 => cases h

theorem pureOp_none {G : Pg} {sp : Nat → Option PSpec} {st st' : St} {op : Op} (h : pureOp G sp st op = none) (hl : ∀ x ∈ op.operands, Alike st st' x) (hh : st'.heap = st.heap) : pureOp G sp st' op = none := by
  cases hp : pureOp G sp st' op with
  | none => rfl
  | some cp =>
    rw [pureOp_mono hp (st' := st) (fun x hx t e => (hl x hx t e).symm) (by rw [hh]; exact Sub.refl _)] at h
    cases h

theorem ow1_congr {gl : Nat → Option (Σ t : Ty, t.den)} {st st' : St} {x : Operand} {f f' : AV → Option (Comp Eff)} (hx : Alike st st' x) (hf : f' = f) : ow1 gl st' x f' = ow1 gl st x f := by
  unfold ow1
  rw [ev_congr hx, hf]
theorem ow2_congr {gl : Nat → Option (Σ t : Ty, t.den)} {st st' : St} {x y : Operand} {f f' : AV → AV → Option (Comp Eff)} (hx : Alike st st' x) (hy : Alike st st' y) (hf : f' = f) : ow2 gl st' x y f' = ow2 gl st x y f := by
  unfold ow2
  rw [ev_congr hx, ev_congr hy, hf]
theorem pickSig_congr {st st' : St} (hh : st'.heap = st.heap) (hn : st'.nx = st.nx) {a : AV} : ∀ {l : List Sig}, pickSig st' a l = pickSig st a l
  | [] => rfl
  | s :: l => by
    simp only [pickSig, hh, hn]
    rw [pickSig_congr hh hn]
theorem effOp_congr {E : Env} {st st' : St} {dst : Option Nat} {op : Op} (hl : ∀ x ∈ op.operands, Alike st st' x) (hh : st'.heap = st.heap) (hn : st'.nx = st.nx) : effOp E st' dst op = effOp E st dst op := by
  have hb : boxE st' = boxE st := by funext a; simp only [boxE, newVarE, hh, hn]
  unfold effOp
  split
  · simp only [allocE, hb]
  · rename_i x
    exact ow1_congr (hl x (by simp [Op.operands])) hb
  · rename_i t a v
    exact ow2_congr (hl a (by simp [Op.operands])) (hl v (by simp [Op.operands])) (by funext p q; simp only [storeE, hh, hn])
  · rename_i t l c
    exact ow2_congr (hl l (by simp [Op.operands])) (hl c (by simp [Op.operands])) (by funext p q; simp only [makeE, hh, hn])
  · rename_i t x lo hi mx
    rw [evO_congr (st := st) (x := lo) fun y hy => hl y (by subst hy; simp [Op.operands]), evO_congr (st := st) (x := hi) fun y hy => hl y (by subst hy; simp [Op.operands]),
      evO_congr (st := st) (x := some mx) fun y hy => hl y (by cases hy; simp [Op.operands])]
    have hz : sliceFzE E.G st' = sliceFzE E.G st := by funext t a l h m; simp only [sliceFzE, fz, hh, hn]
    rw [hz]
    split
    · exact ow1_congr (hl x (by simp [Op.operands])) rfl
    · rfl
  · rename_i args ts
    split
    · rename_i s x t tx e1 e2
      have hm : ∀ y, y ∈ args.toList → Alike st st' y := fun y hy => hl y (by simp only [Op.operands, Call.operands]; exact Array.mem_append.2 (.inr (by simpa using hy)))
      rw [e1] at hm
      exact ow2_congr (hm s (by simp)) (hm x (by simp)) (by funext p q; simp only [appendE, hh, hn])
    · rfl
  · rename_i args ts
    split
    · rename_i s x t tx e1 e2
      have hm : ∀ y, y ∈ args.toList → Alike st st' y := fun y hy => hl y (by simp only [Op.operands, Call.operands]; exact Array.mem_append.2 (.inr (by simpa using hy)))
      rw [e1] at hm
      exact ow2_congr (hm s (by simp)) (hm x (by simp)) (by funext p q; simp only [copyE, hh, hn])
    · rfl
  · rename_i f args ts
    rw [evs_congr (st := st) fun x hx => hl x (by simp only [Op.operands, Call.operands]; exact Array.mem_append.2 (.inr (by simpa using hx))), ev_congr (hl f (by simp [Op.operands, Call.operands]))]
    split
    · exact pickSig_congr hh hn
    · rfl
  · rfl

end Go.Proofs.YtlkggeaibgaohaaGreatDoor.Sim
