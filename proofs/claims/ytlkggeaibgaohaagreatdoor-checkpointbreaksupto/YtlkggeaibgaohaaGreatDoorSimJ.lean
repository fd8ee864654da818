/- Fields of values, bytes of texts, slices of slices and texts, the least and the greatest. -/
import Derived.Test.YtlkggeaibgaohaaGreatDoorSimI
namespace Go.Proofs.YtlkggeaibgaohaaGreatDoor.Sim
open Go Go.RowKit

theorem Pg.run_part (G : Pg) {t : Nat} {T : Ty} (h : G.ty t = some T) {arr : Array Value} {off : Nat} (hfit : off + T.size ≤ arr.size) (w : World) :
    (part t arr off).run G.P w = .ok (if T.isAgg then .agg ((arr.toList.drop off).take T.size).toArray else ((arr.toList.drop off).take T.size).headD undef) w := by
  have hval := G.isVal h
  simp only [part, Sem.run_bind, G.run_isAgg h, Result.andThen]
  cases ha : T.isAgg with
  | true =>
    simp only [if_true, Sem.run_bind, G.run_sizeOf h, Result.andThen, Sem.run_pure]
    congr 2
    apply Array.ext'
    simp [List.take_drop]
  | false =>
    have h1 := Ty.isVal_size hval ha
    have hlt : off < arr.size := by omega
    simp only [Bool.false_eq_true, if_false, Array.getElem?_eq_getElem hlt, Sem.run_pure, h1]
    congr 1
    rw [List.take_one, List.head?_drop, Array.getElem?_toList, Array.getElem?_eq_getElem hlt]
    rfl

def fieldAV (G : Pg) (t : TypeId) (k : Nat) (a : AV) : Option (Comp AV) :=
  match G.ty t with
  | some T => match a with
    | .imm S x => cond (Ty.eqb S T) (match fieldOf S x k with
      | some y => some (just (.imm y.1 y.2))
      | none => none) none
    | .agg l => match fieldSub T k with
      | some q => match AV.drop q.1 l with
        | some r => match AV.take q.2.size r with
          | some sub => cond q.2.isAgg (some (just (match (AV.agg sub).get [] q.2 with
              | some x => .imm q.2 x
              | none => .agg sub))) (match sub with
              | .cons h _ => some (just h)
              | _ => none)
          | none => none
        | none => none
      | none => none
    | _ => none
  | none => none

theorem fieldAV_sound (G : Pg) {c : Cx} {t : TypeId} {k : Nat} {a : AV} {cp : Comp AV} (h : fieldAV G t k a = some cp) {u : cp.X} {va : Value} (ha : AVR c a [va]) (w : World) :
    ∃ v, (Instr.field t va k).run G.P w = .ok v w ∧ AVR c (cp.out u) [v] := by
  unfold fieldAV at h
  cases hT : G.ty t with
  | none => rw [hT] at h; cases h
  | some T =>
    rw [hT] at h
    simp only at h
    have run : ∀ {d : Nat} {s : Ty} {arr : Array Value}, fieldSub T k = some (d, s) → d + s.size ≤ arr.size →
        (Instr.field t (.agg arr) k).run G.P w = .ok (if s.isAgg then .agg ((arr.toList.drop d).take s.size).toArray else ((arr.toList.drop d).take s.size).headD undef) w := by
      intro d s arr hs hfit
      obtain ⟨fs, f, e1, e2, e3, e4⟩ := G.fieldAt hT hs
      simp only [Instr.field, Sem.run_bind, run_underlying e1, Result.andThen, e2, asAgg, Sem.run_pure, e3]
      exact G.run_part e4 hfit w
    cases a <;> simp only [reduceCtorEq] at h
    case imm S x =>
      cases he : Ty.eqb S T with
      | false => rw [he] at h; cases h
      | true =>
        rw [he] at h
        have := Ty.eqb_eq he
        subst this
        simp only [cond_true] at h
        cases hf : fieldOf S x k with
        | none => rw [hf] at h; cases h
        | some y =>
          rw [hf] at h
          simp only [Option.some.injEq] at h
          subst h
          obtain ⟨cs, hr, hv⟩ := ha
          obtain ⟨d, h1, h2, h3⟩ := fieldOf_sound hr hf
          have hag : S.isAgg = true := by cases S <;> first | rfl | (simp [fieldOf] at hf)
          rw [hag] at hv
          simp only [if_true] at hv
          subst hv
          refine ⟨_, run h1 (by have := hr.length; simp; omega), ?_⟩
          exact h3.valLeaf
    case agg l =>
      cases hs : fieldSub T k with
      | none => rw [hs] at h; cases h
      | some q =>
        rw [hs] at h
        simp only at h
        cases hd : AV.drop q.1 l with
        | none => rw [hd] at h; cases h
        | some r =>
          rw [hd] at h
          simp only at h
          cases ht : AV.take q.2.size r with
          | none => rw [ht] at h; cases h
          | some sub =>
            rw [ht] at h
            simp only at h
            obtain ⟨arr, rfl, hl⟩ := ha
            obtain ⟨h1, h2⟩ := AV.drop_sound hd hl
            obtain ⟨h3, h4⟩ := AV.take_sound ht h1
            have hfit : q.1 + q.2.size ≤ arr.size := by
              rw [List.length_drop] at h4
              simp only [Array.length_toList] at h2 h4
              omega
            have hrun := run (d := q.1) (s := q.2) hs hfit
            cases hag : q.2.isAgg with
            | true =>
              rw [hag] at h hrun
              simp only [cond_true, Option.some.injEq, if_true] at h hrun
              subst h
              refine ⟨_, hrun, ?_⟩
              have hv : AVR c (.agg sub) [.agg ((arr.toList.drop q.1).take q.2.size).toArray] := ⟨_, rfl, by simpa using h3⟩
              show AVR _ (match (AV.agg sub).get [] q.2 with | some x => .imm q.2 x | none => .agg sub) _
              cases hg : (AV.agg sub).get [] q.2 with
              | none => exact hv
              | some x => exact AV.get_sound (Lends.none _) hg hv
            | false =>
              rw [hag] at h hrun
              simp only [cond_false, Bool.false_eq_true, if_false] at h hrun
              cases sub <;> simp only [Option.some.injEq, reduceCtorEq] at h
              rename_i x y
              subst h
              refine ⟨_, hrun, ?_⟩
              cases hq : (arr.toList.drop q.1).take q.2.size with
              | nil => rw [hq] at h3; cases h3
              | cons v vs => rw [hq] at h3; exact h3.1

/-- A byte of a text. -/
def byteAt (s : ByteArray) (n : Int) : Int := ((nth s.data.toList n 0).toNat : Int)

def indexAV (G : Pg) (t : TypeId) (a x : AV) : Option (Comp AV) :=
  match a, x with
  | .imm .str s, .imm (.int _) n => match G.ty t with
    | some .str => some (need (inB n (ByteArray.size s)) (.imm (.int .u8) (byteAt s n)))
    | _ => none
  | _, _ => none

theorem indexAV_sound (G : Pg) {c : Cx} {t : TypeId} {a x : AV} {cp : Comp AV} (h : indexAV G t a x = some cp) {u : cp.X} (hu : cp.c = some u) {va vx : Value}
    (ha : AVR c a [va]) (hx : AVR c x [vx]) (w : World) : ∃ v, (Instr.index t va vx).run G.P w = .ok v w ∧ AVR c (cp.out u) [v] := by
  unfold indexAV at h
  split at h
  · rename_i s k n
    cases hT : G.ty t with
    | none => rw [hT] at h; cases h
    | some T =>
      rw [hT] at h
      cases T <;> simp only [Option.some.injEq, reduceCtorEq] at h
      subst h
      obtain ⟨rfl, hs⟩ := imm_str ha
      obtain ⟨rfl, hn⟩ := imm_int hx
      change Int at n
      obtain ⟨h0, h1⟩ := inB_iff (need_some hu)
      have hlt : n.toNat < s.size := by omega
      refine ⟨.int .u8 (byteAt s n), ?_, int_imm c ?_⟩
      · have e1 : byteAt s n = ((s[n.toNat]'hlt).toNat : Int) := by
          unfold byteAt nth
          have : s.data.toList.getD n.toNat 0 = s[n.toNat]'hlt := by
            simp only [List.getD, Array.getElem?_toList]
            rw [Array.getElem?_eq_getElem (show n.toNat < s.data.size from hlt)]
            rfl
          rw [this]
        have e2 : s[n.toNat]? = some (s[n.toNat]'hlt) := getElem?_pos s n.toNat hlt
        rw [e1]
        simp only [Instr.index, asIntOf, Sem.run_bind, Sem.run_pure, Result.andThen, run_underlying (G.und_str hT), h0, if_true, e2]
      · rw [inKind_iff]
        simp only [kMin, kMax, byteAt]
        have := UInt8.toNat_lt (nth s.data.toList n 0)
        omega
  · cases h

def extractAV (i : Nat) (a : AV) : Option (Comp AV) :=
  match a with
  | .tup l => match AV.nth i l with
    | some x => some (just x)
    | none => none
  | _ => none
theorem extractAV_sound {P : Program} {c : Cx} {i : Nat} {a : AV} {cp : Comp AV} (h : extractAV i a = some cp) {u : cp.X} {va : Value} (ha : AVR c a [va]) (w : World) :
    ∃ v, (Instr.extract va i).run P w = .ok v w ∧ AVR c (cp.out u) [v] := by
  cases a <;> simp only [extractAV, reduceCtorEq] at h
  rename_i l
  cases hn : AV.nth i l with
  | none => rw [hn] at h; cases h
  | some x =>
    rw [hn] at h
    simp only [Option.some.injEq] at h
    subst h
    obtain ⟨vs, rfl, hl⟩ := ha
    obtain ⟨v, hv, hx⟩ := AV.nth_sound hn hl
    refine ⟨v, ?_, hx⟩
    rw [Array.getElem?_toList] at hv
    simp [Instr.extract, hv]

/-- The bounds of a slice expression: from, to, and the capacity's end, where they are given. -/
def optInt : Option AV → Option (Option Int)
  | none => some none
  | some (.imm (.int _) n) => some (some n)
  | _ => none

/-- The elements from l on, up to h. -/
def sub {α : Type} (xs : List α) (l h : Int) : List α := (xs.drop l.toNat).take (h.toNat - l.toNat)
def subB (l h m len : Int) : Bool := decide (0 ≤ l) && decide (l ≤ h) && decide (h ≤ m) && decide (m ≤ len)
theorem subB_iff {l h m len : Int} (hb : subB l h m len = true) : 0 ≤ l ∧ l ≤ h ∧ h ≤ m ∧ m ≤ len := by
  simp only [subB, Bool.and_eq_true, decide_eq_true_eq] at hb
  exact ⟨hb.1.1.1, hb.1.1.2, hb.1.2, hb.2⟩

def sliceAV (G : Pg) (hp : List (Nat × OB)) (t : TypeId) (a : AV) (lo hi mx : Option AV) : Option (Comp AV) :=
  match optInt lo, optInt hi, optInt mx with
  | some l, some h, some m => match a with
    | .imm (.slice e) xs => match G.ty t with
      | some (.slice e') => cond (Ty.eqb e e') (match m with
        | none => some (need (subB (l.getD 0) (h.getD (List.length xs : Int)) (List.length xs : Int) (List.length xs : Int))
          (.imm (.slice e) (sub xs (l.getD 0) (h.getD (List.length xs : Int)))))
        | some m => some (need (subB (l.getD 0) (h.getD (List.length xs : Int)) m (List.length xs : Int) && decide (h.getD (List.length xs : Int) = m))
          (.imm (.tslice e) (sub xs (l.getD 0) (h.getD (List.length xs : Int)))))) none
      | _ => none
    | .imm .str s => match G.ty t, m with
      | some .str, none => some (need (subB (l.getD 0) (h.getD (ByteArray.size s : Int)) (ByteArray.size s : Int) (ByteArray.size s : Int))
          (.imm .str (ByteArray.extract s (l.getD 0).toNat (h.getD (ByteArray.size s : Int)).toNat)))
      | _, _ => none
    | .view id e p len => match G.ty t with
      | some (.slice e') => cond (Ty.eqb e e') (some (need (subB (l.getD 0) (h.getD (len : Int)) (m.getD (len : Int)) (len : Int))
          (.view id e (p + (l.getD 0).toNat) ((h.getD (len : Int)).toNat - (l.getD 0).toNat)))) none
      | _ => none
    | .aptr id e => match G.ty t with
      | some (.arr n e') => match find hp id with
        | some (.row e'' xs) => cond (Ty.eqb e e' && Ty.eqb e e'') (some (need (subB (l.getD 0) (h.getD (n : Int)) (m.getD (n : Int)) (n : Int) && Nat.ble n xs.length && Nat.ble n 1000000)
            (.view id e (l.getD 0).toNat ((h.getD (n : Int)).toNat - (l.getD 0).toNat)))) none
        | _ => none
      | _ => none
    | _ => none
  | _, _, _ => none

/-- A bound of a slice expression, and its value. -/
inductive BoundIs (c : Cx) : Option AV → Option Value → Option Int → Prop where
  | none : BoundIs c none none none
  | some {k : IntKind} {n : Int} {v : Value} (h : v = .int k n) : BoundIs c (some (.imm (.int k) n)) (some v) (some n)

def optAVR (c : Cx) (a : Option AV) (v : Option Value) : Prop := match a, v with | none, none => True | some x, some y => AVR c x [y] | _, _ => False

theorem optInt_is {c : Cx} {a : Option AV} {v : Option Value} {n : Option Int} (h : optInt a = some n) (hv : optAVR c a v) : BoundIs c a v n := by
  cases a with
  | none =>
    cases v with
    | none => simp only [optInt, Option.some.injEq] at h; subst h; exact .none
    | some _ => cases hv
  | some x =>
    cases v with
    | none => cases hv
    | some y =>
      cases x <;> simp only [optInt, reduceCtorEq] at h
      rename_i T z
      cases T <;> simp only [Option.some.injEq, reduceCtorEq] at h
      subst h
      obtain ⟨rfl, _⟩ := imm_int hv
      exact .some rfl

/-- What the bounds are checked to be: with no third index the second one is held against the capacity. -/
theorem run_bounds {P : Program} {c : Cx} {isSlice : Bool} {lo hi mx : Option AV} {vl vh vm : Option Value} {l h m : Option Int} (hl : BoundIs c lo vl l) (hh : BoundIs c hi vh h) (hm : BoundIs c mx vm m)
    (hmh : m ≠ none → h ≠ none) {len cap : Nat} (hcap : len ≤ cap) (hb : subB (l.getD 0) (h.getD (len : Int)) (m.getD (len : Int)) (len : Int) = true) (w : World) :
    ∃ mm : Nat, (Instr.sliceBounds isSlice len cap vl vh vm).run P w = .ok ((l.getD 0).toNat, (h.getD (len : Int)).toNat, mm) w ∧ (h.getD (len : Int)).toNat ≤ mm ∧ mm ≤ cap ∧
      (m = none → mm = cap) ∧ (∀ q : Int, m = some q → mm = q.toNat) := by
  obtain ⟨b1, b2, b3, b4⟩ := subB_iff hb
  have lb : ∀ (n : Int) (k : IntKind) (y : Nat) (code : BoundsCode), 0 ≤ n → n ≤ (y : Int) → (Instr.sliceBound (.int k n) y code).run P w = .ok n.toNat w := fun n k y code h0 h1 => by
    simp [Instr.sliceBound, asIntOf, h0, h1]
  cases hm with
  | none =>
    simp only [Option.getD_none] at b3 b4
    refine ⟨cap, ?_, by omega, Nat.le_refl _, fun _ => rfl, (fun q hq => by cases hq)⟩
    cases hh with
    | none =>
      simp only [Option.getD_none] at b2 b3 ⊢
      cases hl with
      | none => simp [Instr.sliceBounds]
      | @some kl nl vl e =>
        subst e
        simp only [Option.getD_some] at b1 b2
        simp only [Instr.sliceBounds, Sem.run_bind, Sem.run_pure, Result.andThen, Option.isSome, Bool.false_eq_true, if_false, lb nl kl len .sliceB b1 b2]
        simp
    | @some kh nh vh e =>
      subst e
      simp only [Option.getD_some] at b2 b3 ⊢
      cases hl with
      | none =>
        simp only [Option.getD_none] at b2
        simp only [Instr.sliceBounds, Sem.run_bind, Sem.run_pure, Result.andThen, lb nh kh cap _ b2 (by omega : nh ≤ (cap : Int))]
        simp
      | @some kl nl vl e =>
        subst e
        simp only [Option.getD_some] at b1 b2
        have h2 : (Instr.sliceBound (.int kl nl) nh.toNat .sliceB).run P w = .ok nl.toNat w := lb nl kl nh.toNat .sliceB b1 (by omega)
        simp only [Instr.sliceBounds, Sem.run_bind, Sem.run_pure, Result.andThen, lb nh kh cap _ (by omega : 0 ≤ nh) (by omega : nh ≤ (cap : Int)), Option.isSome, Bool.false_eq_true, if_false, h2]
        simp
  | @some km nm vm e =>
    subst e
    simp only [Option.getD_some] at b3 b4
    cases hh with
    | none => exact absurd rfl (hmh (by simp))
    | @some kh nh vh e =>
      subst e
      simp only [Option.getD_some] at b2 b3 ⊢
      refine ⟨nm.toNat, ?_, by omega, by omega, (fun h => by cases h), (fun q hq => by cases hq; rfl)⟩
      have h1 : (Instr.sliceBound (.int kh nh) nm.toNat .slice3B).run P w = .ok nh.toNat w := by
        refine lb nh kh nm.toNat .slice3B ?_ (by omega)
        cases hl <;> simp only [Option.getD_none, Option.getD_some] at b1 b2 <;> omega
      have h0 : ∀ code, (Instr.sliceBound (.int km nm) cap code).run P w = .ok nm.toNat w := fun code => by
        refine lb nm km cap code ?_ (by omega)
        cases hl <;> simp only [Option.getD_none, Option.getD_some] at b1 b2 <;> omega
      cases hl with
      | none =>
        simp only [Instr.sliceBounds, Sem.run_bind, Sem.run_pure, Result.andThen, h0, h1]
        simp
      | @some kl nl vl e =>
        subst e
        simp only [Option.getD_some] at b1 b2
        have h2 : (Instr.sliceBound (.int kl nl) nh.toNat .slice3C).run P w = .ok nl.toNat w := lb nl kl nh.toNat .slice3C b1 (by omega)
        simp only [Instr.sliceBounds, Sem.run_bind, Sem.run_pure, Result.andThen, h0, h1, Option.isSome, if_true, h2]
        simp

theorem run_slice_runs {P : Program} {t u : TypeId} (hu : P.underlying t = some (.slice u)) {sz : Nat} (hs : ∀ w, (sizeOf u).run P w = .ok sz w) {base : Option Addr} {len cap l h mm : Nat} {vl vh vm : Option Value} {w : World}
    (hb : (Instr.sliceBounds true len cap vl vh vm).run P w = .ok (l, h, mm) w) :
    (Instr.sliceAt t (.slice base len cap) vl vh vm).run P w = .ok (.slice (if mm = l then base else base.map (·.add (l * sz))) (h - l) (mm - l)) w := by
  simp only [Instr.sliceAt, Sem.run_bind, run_underlying hu, Result.andThen, Instr.slice, hb, hs, Sem.run_pure]

theorem sliceAV_sound (G : Pg) {fr : Frm} {m : Nat → Option Nat × Nat} {st : St} {w : World} (H : HeapOk fr m st w) {t : TypeId} {a : AV} {lo hi mx : Option AV} {cp : Comp AV}
    (h : sliceAV G st.heap t a lo hi mx = some cp) (hmh : mx ≠ none → hi ≠ none) {u : cp.X} (hu : cp.c = some u) {va : Value} {vl vh vm : Option Value} (ha : AVR (cx fr m st w) a [va])
    (hl : optAVR (cx fr m st w) lo vl) (hh : optAVR (cx fr m st w) hi vh) (hm : optAVR (cx fr m st w) mx vm) :
    ∃ v, (Instr.sliceAt t va vl vh vm).run G.P w = .ok v w ∧ AVR (cx fr m st w) (cp.out u) [v] := by
  unfold sliceAV at h
  cases h1 : optInt lo with
  | none => rw [h1] at h; cases h
  | some l =>
  cases h2 : optInt hi with
  | none => rw [h1, h2] at h; cases h
  | some hh' =>
  cases h3 : optInt mx with
  | none => rw [h1, h2, h3] at h; cases h
  | some mm' =>
  rw [h1, h2, h3] at h
  simp only at h
  have il := optInt_is h1 hl
  have ih := optInt_is h2 hh
  have im := optInt_is h3 hm
  have hmh' : mm' ≠ none → hh' ≠ none := by
    intro hne e
    cases im with
    | none => exact hne rfl
    | some _ =>
      subst e
      cases ih
      exact hmh (by simp) rfl
  cases a <;> try (cases h; done)
  case imm S x =>
    cases S <;> try (cases h; done)
    case slice e =>
      simp only at h
      cases hT : G.ty t with
      | none => rw [hT] at h; cases h
      | some T =>
        rw [hT] at h
        cases T <;> simp only [reduceCtorEq] at h
        rename_i e'
        cases he : Ty.eqb e e' with
        | false => rw [he] at h; cases h
        | true =>
          rw [he] at h
          have := Ty.eqb_eq he
          subst this
          simp only [cond_true] at h
          obtain ⟨base, len, cap, cells, rfl, hlen, hcap, hmax, hsz, hby, hat, hrep⟩ := imm_slice ha
          obtain ⟨uu, hund, hty⟩ := G.und_slice hT
          have core : ∀ mm : Option Int, BoundIs (cx fr m st w) mx vm mm → (mm ≠ none → hh' ≠ none) → subB (l.getD 0) (hh'.getD (len : Int)) (mm.getD (len : Int)) (len : Int) = true →
              ∃ (base' : Option Addr) (cap' : Nat), (Instr.sliceAt t (.slice base len cap) vl vh vm).run G.P w = .ok (.slice base' ((hh'.getD (len : Int)).toNat - (l.getD 0).toNat) cap') w ∧
                (∀ q : Int, mm = some q → cap' = q.toNat - (l.getD 0).toNat) ∧
                Rep (cx fr m st w).O w (.slice e) [.slice base' ((hh'.getD (len : Int)).toNat - (l.getD 0).toNat) cap'] (Sim.sub x (l.getD 0) (hh'.getD (len : Int))) := by
            intro mm im hmh' hb
            obtain ⟨mc, hrun, hm1, hm2, hm3, hm4⟩ := run_bounds (P := G.P) (isSlice := true) il ih im hmh' hcap hb w
            obtain ⟨b1, b2, b3, b4⟩ := subB_iff hb
            refine ⟨_, _, run_slice_runs hund (fun w => G.run_sizeOf hty w) hrun, fun q hq => by rw [hm4 q hq], ?_⟩
            have hxl : (Sim.sub x (l.getD 0) (hh'.getD (len : Int))).length = (hh'.getD (len : Int)).toNat - (l.getD 0).toNat := by
              simp only [Sim.sub, List.length_take, List.length_drop]; omega
            refine .slice _ _ _ (fun i => cells ((l.getD 0).toNat + i)) hxl (by omega) (by omega) hsz ?_ ?_ ?_
            · exact Nat.le_trans (Nat.mul_le_mul_right _ (by omega)) hby
            · rcases Nat.eq_zero_or_pos ((hh'.getD (len : Int)).toNat - (l.getD 0).toNat) with h0 | hp0
              · exact .inl h0
              · rcases hat with h0 | ⟨b, off, rfl, hO, hc⟩
                · omega
                · refine .inr ⟨b, off + (l.getD 0).toNat * e.size, ?_, hO, fun i hi j hj => ?_⟩
                  · rw [if_neg (by omega)]; simp [add_addr]
                  · have := hc ((l.getD 0).toNat + i) (by omega) j hj
                    rw [← this, Nat.add_mul, Nat.add_assoc off, Nat.add_assoc off]
                    rfl
            · intro i hi
              rw [hxl] at hi
              have := hrep ((l.getD 0).toNat + i) (by omega)
              simp only [Sim.sub, List.getElem_take, List.getElem_drop]
              exact this
          cases mm' with
          | none =>
            simp only [Option.some.injEq] at h
            subst h
            have hb := need_some hu
            rw [hlen] at hb
            obtain ⟨base', cap', hrun, _, hr⟩ := core none im hmh' hb
            refine ⟨_, hrun, ?_⟩
            show AVR _ (.imm (.slice e) (Sim.sub x (l.getD 0) (hh'.getD (List.length x : Int)))) _
            rw [hlen]
            exact ValRep.ofLeaf rfl hr
          | some q =>
            simp only [Option.some.injEq] at h
            subst h
            have hb := need_some hu
            rw [hlen, Bool.and_eq_true] at hb
            obtain ⟨base', cap', hrun, hcap', hr⟩ := core (some q) im hmh' hb.1
            have hq : hh'.getD (len : Int) = q := of_decide_eq_true hb.2
            have he' : cap' = (hh'.getD (len : Int)).toNat - (l.getD 0).toNat := by rw [hcap' q rfl, hq]
            subst he'
            refine ⟨_, hrun, ?_⟩
            show AVR _ (.imm (.tslice e) (Sim.sub x (l.getD 0) (hh'.getD (List.length x : Int)))) _
            rw [hlen]
            exact ValRep.ofLeaf rfl (.tslice hr)
    case str =>
      simp only at h
      cases hT : G.ty t with
      | none => rw [hT] at h; cases h
      | some T =>
        rw [hT] at h
        cases T <;> cases mm' <;> simp only [Option.some.injEq, reduceCtorEq] at h
        subst h
        have hb := need_some hu
        obtain ⟨rfl, hsize⟩ := imm_str ha
        cases im
        obtain ⟨mc, hrun, hm1, hm2, hmc⟩ := run_bounds (P := G.P) (isSlice := false) (c := cx fr m st w) il ih .none hmh' (Nat.le_refl _) hb w
        obtain ⟨b1, b2, b3, b4⟩ := subB_iff hb
        refine ⟨.string (ByteArray.extract x (l.getD 0).toNat (hh'.getD (ByteArray.size x : Int)).toNat), ?_, str_imm _ ?_⟩
        · simp only [Instr.sliceAt, Sem.run_bind, run_underlying (G.und_str hT), Result.andThen, Instr.slice, Option.isSome, Bool.false_eq_true, if_false, hrun, Sem.run_pure]
        · rw [ByteArray.size_extract]; omega
  case view id e p len =>
    cases hT : G.ty t with
    | none => rw [hT] at h; cases h
    | some T =>
      rw [hT] at h
      cases T <;> simp only [reduceCtorEq] at h
      rename_i e'
      cases he : Ty.eqb e e' with
      | false => rw [he] at h; cases h
      | true =>
        rw [he] at h
        have := Ty.eqb_eq he
        subst this
        simp only [cond_true, Option.some.injEq] at h
        subst h
        have hb := need_some hu
        obtain ⟨uu, hund, hty⟩ := G.und_slice hT
        obtain ⟨b1, b2, b3, b4⟩ := subB_iff hb
        obtain ⟨hid, hln, hsz, ⟨hb0, ⟨base0, rfl⟩, rfl, rfl⟩ | ⟨b, cap, ty, nn, base, hbk, rfl, hcap, hmax, hshape, hin, hbase⟩⟩ := ha
        · obtain ⟨mc, hrun, hm1, hm2, hmc⟩ := run_bounds (P := G.P) (isSlice := true) il ih im hmh' (Nat.le_refl 0) hb w
          refine ⟨_, run_slice_runs hund (fun w => G.run_sizeOf hty w) hrun, hid, by omega, hsz, .inl ⟨hb0, ?_, by omega, by omega⟩⟩
          have e1 : (hh'.getD ((0 : Nat) : Int)).toNat - (l.getD 0).toNat = 0 := by omega
          have e2 : mc - (l.getD 0).toNat = 0 := by omega
          rw [e1, e2]
          exact ⟨_, rfl⟩
        · obtain ⟨mc, hrun, hm1, hm2, hmc⟩ := run_bounds (P := G.P) (isSlice := true) il ih im hmh' hcap hb w
          have hle : (p + (l.getD 0).toNat + (mc - (l.getD 0).toNat)) * e.size ≤ (p + cap) * e.size := Nat.mul_le_mul_right _ (by omega)
          refine ⟨_, run_slice_runs hund (fun w => G.run_sizeOf hty w) hrun, hid, by omega, hsz, .inr ⟨b, mc - (l.getD 0).toNat, ty, nn, _, hbk, rfl, by omega, by omega, hshape, by omega, ?_⟩⟩
          by_cases hz : mc = (l.getD 0).toNat
          · exact .inl (by omega)
          · rcases hbase with hc0 | rfl
            · omega
            · refine .inr ?_
              rw [if_neg hz, Nat.add_mul]
              simp [add_addr]
  case aptr id e =>
    cases hT : G.ty t with
    | none => rw [hT] at h; cases h
    | some T =>
      rw [hT] at h
      cases T <;> simp only [reduceCtorEq] at h
      rename_i n e'
      cases hf : find st.heap id with
      | none => rw [hf] at h; cases h
      | some o =>
        rw [hf] at h
        cases o with
        | cells _ => cases h
        | row e'' xs =>
          simp only at h
          cases he : (Ty.eqb e e' && Ty.eqb e e'') with
          | false => rw [he] at h; cases h
          | true =>
            rw [he] at h
            rw [Bool.and_eq_true] at he
            have e1 := Ty.eqb_eq he.1
            have e2 := Ty.eqb_eq he.2
            subst e1; subst e2
            simp only [cond_true, Option.some.injEq] at h
            subst h
            have hb := need_some hu
            rw [Bool.and_eq_true, Bool.and_eq_true] at hb
            obtain ⟨⟨hb, hn⟩, hn2⟩ := hb
            have hn := Nat.le_of_ble_eq_true hn
            have hn2 := Nat.le_of_ble_eq_true hn2
            obtain ⟨b1, b2, b3, b4⟩ := subB_iff hb
            obtain ⟨uu, hund, hty⟩ := G.und_arr hT
            obtain ⟨hid, b, hbk, rfl⟩ := ha
            obtain ⟨_, hsz, hlen, _, hor⟩ := H.obj id _ hf
            rcases hor with ⟨h0, _⟩ | ⟨b', arr, ty, hb', hh0, hfit, hrep⟩
            · have h1 := h0.symm.trans hbk; cases h1
            have e0 : some b = some b' := hbk.symm.trans hb'
            cases e0
            have hh1 : w.heap[b]? = some (.cells arr ty (0, 0)) := hh0
            obtain ⟨mc, hrun, hm1, hm2, hmc⟩ := run_bounds (P := G.P) (isSlice := false) il ih im hmh' (Nat.le_refl n) hb w
            have hlen' : xs.length = (m id).2 := hlen
            have hle : ((l.getD 0).toNat + (mc - (l.getD 0).toNat)) * e.size ≤ xs.length * e.size := Nat.mul_le_mul_right _ (by omega)
            refine ⟨.slice (some (if mc = (l.getD 0).toNat then ⟨b, 0, none⟩ else (⟨b, 0, none⟩ : Addr).add ((l.getD 0).toNat * e.size))) ((hh'.getD (n : Int)).toNat - (l.getD 0).toNat) (mc - (l.getD 0).toNat), ?_,
              hid, ?_, hsz, .inr ⟨b, mc - (l.getD 0).toNat, ty, arr.size, _, hbk, rfl, by omega, by unfold maxLen; omega, ?_, by omega, ?_⟩⟩
            · simp only [Instr.sliceAt, Sem.run_bind, run_underlying hund, Result.andThen, Instr.sureAddr, Sem.run_pure, hrun, G.run_sizeOf hty]
            · show (l.getD 0).toNat + ((hh'.getD (n : Int)).toNat - (l.getD 0).toNat) ≤ (m id).2
              omega
            · show w.shape? b = some (ty, arr.size)
              simp [World.shape?, hh1]
            · by_cases hz : mc = (l.getD 0).toNat
              · exact .inl (by omega)
              · refine .inr ?_
                rw [if_neg hz, add_addr, Nat.zero_add]

end Go.Proofs.YtlkggeaibgaohaaGreatDoor.Sim
