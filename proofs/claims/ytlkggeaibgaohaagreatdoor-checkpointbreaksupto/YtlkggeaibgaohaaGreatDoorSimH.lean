/- Addresses of fields and elements; fields, bytes, lengths; conversions. -/
import Derived.Test.YtlkggeaibgaohaaGreatDoorSimG
namespace Go.Proofs.YtlkggeaibgaohaaGreatDoor.Sim
open Go Go.RowKit

def fieldOff (G : Pg) (s : TypeId) (k : Nat) : Option Nat :=
  match G.P.underlying s with
  | some (.struct fs) => match fs[k]? with
    | some f => match G.P.info? f.type with
      | some i => cond (Nat.blt 0 i.size) (some f.offset) none
      | none => none
    | none => none
  | _ => none

def structPath (T : Ty) (k : Nat) : Option (List Stp) :=
  match T with
  | .struct b => match fieldPath b k with
    | some p => some (.fld :: p)
    | none => none
  | _ => none

def fieldAddrAV (G : Pg) (s : TypeId) (k : Nat) (a : AV) : Option (Comp AV) :=
  match a with
  | .iptr T x => match G.ty s with
    | some T' => cond (Ty.eqb T T') (match fieldOf T x k with
      | some y => cond (Nat.blt 0 y.1.size) (some (just (.iptr y.1 y.2))) none
      | none => none) none
    | none => none
  | .ptr id off => match fieldOff G s k with
    | some d => some (just (.ptr id (off + d)))
    | none => none
  | .eptr id e i p => match G.ty s with
    | some T => match Ty.sub e p with
      | some q => cond (Ty.eqb q.2 T) (match structPath T k with
        | some r => match Ty.sub T r with
          | some z => cond (Nat.blt 0 z.2.size) (some (just (.eptr id e i (p ++ r)))) none
          | none => none
        | none => none) none
      | none => none
    | none => none
  | _ => none

theorem sub_append : ∀ {t : Ty} {p q : List Stp} {d d' : Nat} {s s' : Ty}, Ty.sub t p = some (d, s) → Ty.sub s q = some (d', s') → Ty.sub t (p ++ q) = some (d + d', s') := by
  have here : ∀ {t : Ty} {q : List Stp} {d d' : Nat} {s s' : Ty}, (some (0, t) : Option (Nat × Ty)) = some (d, s) → Ty.sub s q = some (d', s') → Ty.sub t q = some (d + d', s') := by
    intro t q d d' s s' h k
    simp only [Option.some.injEq, Prod.mk.injEq] at h
    obtain ⟨rfl, rfl⟩ := h
    rw [Nat.zero_add]; exact k
  intro t
  induction t with
  | pair a b iha ihb =>
    intro p q d d' s s' h k
    cases p with
    | nil => rw [List.nil_append]; exact here (by simpa only [Ty.sub] using h) k
    | cons c p =>
      cases c with
      | fst => simp only [List.cons_append, Ty.sub] at h ⊢; exact iha h k
      | snd =>
        simp only [List.cons_append, Ty.sub] at h ⊢
        cases hb : Ty.sub b p with
        | none => rw [hb] at h; cases h
        | some z =>
          rw [hb] at h
          simp only [Option.map_some, Option.some.injEq, Prod.mk.injEq] at h
          obtain ⟨rfl, rfl⟩ := h
          rw [ihb (d := z.1) hb k]
          simp [Nat.add_assoc]
      | fld => simp [Ty.sub] at h
  | struct b ih =>
    intro p q d d' s s' h k
    cases p with
    | nil => rw [List.nil_append]; exact here (by simpa only [Ty.sub] using h) k
    | cons c p =>
      cases c with
      | fld => simp only [List.cons_append, Ty.sub] at h ⊢; exact ih h k
      | fst => simp [Ty.sub] at h
      | snd => simp [Ty.sub] at h
  | _ =>
    intro p q d d' s s' h k
    cases p with
    | nil => rw [List.nil_append]; exact here (by simpa only [Ty.sub] using h) k
    | cons c p => simp [Ty.sub] at h

theorem run_fieldAt {P : Program} {s : TypeId} {fs : Array Field} {f : Field} {k : Nat} {i : TypeInfo} (hu : P.underlying s = some (.struct fs)) (hf : fs[k]? = some f)
    (hi : P.info? f.type = some i) (hs : 0 < i.size) (b off : Nat) (w : World) :
    (Instr.fieldAt s (.pointer (some ⟨b, off, none⟩)) k).run P w = .ok (.pointer (some ⟨b, off + f.offset, none⟩)) w := by
  have hne : ¬ i.size = 0 := by omega
  simp only [Instr.fieldAt, Sem.run_bind, run_underlying hu, Result.andThen, hf, Instr.sureAddr, Sem.run_pure, fieldPlace, sizeOf, typeInfo, run_program, hi, if_neg hne, add_addr]

theorem fieldAddrAV_sound (G : Pg) {fr : Frm} {m : Nat → Option Nat × Nat} {st : St} {w : World} {s : TypeId} {k : Nat} {a : AV} {cp : Comp AV}
    (h : fieldAddrAV G s k a = some cp) {u : cp.X} {va : Value} (ha : AVR (cx fr m st w) a [va]) :
    ∃ v, (Instr.fieldAt s va k).run G.P w = .ok v w ∧ AVR (cx fr m st w) (cp.out u) [v] := by
  cases a <;> simp only [fieldAddrAV, reduceCtorEq] at h
  case iptr T x =>
    cases hT : G.ty s with
    | none => rw [hT] at h; cases h
    | some T' =>
      rw [hT] at h
      simp only at h
      cases he : Ty.eqb T T' with
      | false => rw [he] at h; cases h
      | true =>
        rw [he] at h
        have := Ty.eqb_eq he
        subst this
        simp only [cond_true] at h
        cases hf : fieldOf T x k with
        | none => rw [hf] at h; cases h
        | some y =>
          rw [hf] at h
          simp only at h
          cases hz : Nat.blt 0 y.1.size with
          | false => rw [hz] at h; cases h
          | true =>
            rw [hz] at h
            simp only [cond_true, Option.some.injEq] at h
            subst h
            have hpos : 0 < y.1.size := Nat.lt_of_succ_le (Nat.le_of_ble_eq_true hz)
            obtain ⟨b, off, cs, rfl, hO, hr, hs, hc⟩ := ha
            obtain ⟨d, h1, h2, h3⟩ := fieldOf_sound hr hf
            obtain ⟨fs, f, e1, e2, e3, e4⟩ := G.fieldAt hT h1
            obtain ⟨i, i1, i2, _⟩ := G.info e4
            refine ⟨_, run_fieldAt e1 e2 i1 (by omega) b off w, b, off + f.offset, _, rfl, hO, h3, hpos, ?_⟩
            intro j hj
            have hk : d + j < T.size := by omega
            rw [e3, Nat.add_assoc, hc _ hk, List.getElem?_take_of_lt hj, List.getElem?_drop]
  case ptr id off =>
    cases hf : fieldOff G s k with
    | none => rw [hf] at h; cases h
    | some d =>
      rw [hf] at h
      simp only [Option.some.injEq] at h
      subst h
      obtain ⟨hid, b, hb, rfl⟩ := ha
      unfold fieldOff at hf
      cases hu : G.P.underlying s with
      | none => rw [hu] at hf; cases hf
      | some D =>
        rw [hu] at hf
        cases D <;> simp only [reduceCtorEq] at hf
        rename_i fs
        cases hk : fs[k]? with
        | none => rw [hk] at hf; cases hf
        | some f =>
          rw [hk] at hf
          simp only at hf
          cases hi : G.P.info? f.type with
          | none => rw [hi] at hf; cases hf
          | some i =>
            rw [hi] at hf
            simp only at hf
            cases hz : Nat.blt 0 i.size with
            | false => rw [hz] at hf; cases hf
            | true =>
              rw [hz] at hf
              simp only [cond_true, Option.some.injEq] at hf
              subst hf
              have hpos : 0 < i.size := Nat.lt_of_succ_le (Nat.le_of_ble_eq_true hz)
              exact ⟨_, run_fieldAt hu hk hi hpos b off w, hid, b, hb, rfl⟩
  case eptr id e i p =>
    cases hT : G.ty s with
    | none => rw [hT] at h; cases h
    | some T =>
      rw [hT] at h
      simp only at h
      cases hq : Ty.sub e p with
      | none => rw [hq] at h; cases h
      | some q =>
        rw [hq] at h
        simp only at h
        cases he : Ty.eqb q.2 T with
        | false => rw [he] at h; cases h
        | true =>
          rw [he] at h
          have heq := Ty.eqb_eq he
          simp only [cond_true] at h
          cases hp : structPath T k with
          | none => rw [hp] at h; cases h
          | some r =>
            rw [hp] at h
            simp only at h
            cases hz : Ty.sub T r with
            | none => rw [hz] at h; cases h
            | some z =>
              rw [hz] at h
              simp only at h
              cases hpz : Nat.blt 0 z.2.size with
              | false => rw [hpz] at h; cases h
              | true =>
                rw [hpz] at h
                simp only [cond_true, Option.some.injEq] at h
                subst h
                have hpos : 0 < z.2.size := Nat.lt_of_succ_le (Nat.le_of_ble_eq_true hpz)
                obtain ⟨hid, hlt, b, d, hb, hd, rfl⟩ := ha
                rw [hq] at hd
                simp only [Option.map_some, Option.some.injEq] at hd
                subst hd
                have hfs : fieldSub T k = some z := by
                  cases T <;> simp only [structPath, reduceCtorEq] at hp
                  rename_i bb
                  cases hpp : fieldPath bb k with
                  | none => rw [hpp] at hp; cases hp
                  | some pp =>
                    rw [hpp] at hp
                    simp only [Option.some.injEq] at hp
                    subst hp
                    simp only [fieldSub, Ty.fields, hpp]
                    simpa only [Ty.sub] using hz
                obtain ⟨fs, f, e1, e2, e3, e4⟩ := G.fieldAt hT (d := z.1) (s := z.2) hfs
                obtain ⟨i', i1, i2, _⟩ := G.info e4
                have hsub := sub_append (d := q.1) (s := q.2) (q := r) (d' := z.1) (s' := z.2) hq (by rw [heq]; exact hz)
                refine ⟨_, run_fieldAt e1 e2 i1 (by omega) b _ w, hid, hlt, b, q.1 + z.1, hb, by rw [hsub]; rfl, ?_⟩
                rw [e3, Nat.add_assoc]

/-- A number is an index of so many elements. -/
def inB (n : Int) (len : Nat) : Bool := decide (0 ≤ n) && decide (n < (len : Int))
theorem inB_iff {n : Int} {len : Nat} (h : inB n len = true) : 0 ≤ n ∧ n < (len : Int) := by
  simpa [inB] using h
/-- The element at a number. -/
def nth {α : Type} (xs : List α) (n : Int) (d : α) : α := xs.getD n.toNat d

def indexAddrAV (G : Pg) (hp : List (Nat × OB)) (t : TypeId) (a x : AV) : Option (Comp AV) :=
  match x with
  | .imm (.int _) n => match a with
    | .imm (.slice e) xs => match G.ty t with
      | some (.slice e') => cond (Ty.eqb e e') (some (need (inB n (List.length xs)) (.iptr e (nth xs n e.dflt)))) none
      | _ => none
    | .view id e lo len => match G.ty t with
      | some (.slice e') => cond (Ty.eqb e e') (some (need (inB n len) (.eptr id e (lo + Int.toNat n) []))) none
      | _ => none
    | .aptr id e => match G.ty t with
      | some (.arr l e') => match find hp id with
        | some (.row e'' xs) => cond (Ty.eqb e e' && Ty.eqb e e'') (some (need (inB n l && inB n xs.length) (.eptr id e (Int.toNat n) []))) none
        | _ => none
      | _ => none
    | _ => none
  | _ => none

theorem indexAddrAV_sound (G : Pg) {fr : Frm} {m : Nat → Option Nat × Nat} {st : St} {w : World} (H : HeapOk fr m st w) {t : TypeId} {a x : AV} {cp : Comp AV}
    (h : indexAddrAV G st.heap t a x = some cp) {u : cp.X} (hu : cp.c = some u) {va vx : Value} (ha : AVR (cx fr m st w) a [va]) (hx : AVR (cx fr m st w) x [vx]) :
    ∃ v, (Instr.indexAt t va vx).run G.P w = .ok v w ∧ AVR (cx fr m st w) (cp.out u) [v] := by
  cases x <;> simp only [indexAddrAV, reduceCtorEq] at h
  rename_i S n
  cases S <;> simp only [reduceCtorEq] at h
  rename_i k
  obtain ⟨rfl, hn⟩ := imm_int hx
  change Int at n
  cases a <;> try (cases h; done)
  case imm S xs =>
    cases S <;> simp only [reduceCtorEq] at h
    rename_i e
    cases hT : G.ty t with
    | none => rw [hT] at h; cases h
    | some T =>
      rw [hT] at h
      cases T <;> simp only [reduceCtorEq] at h
      rename_i e'
      cases he : Ty.eqb e e' with
      | false => rw [he] at h; cases h
      | true =>
        rw [he] at h
        have := Ty.eqb_eq he
        subst this
        simp only [cond_true, Option.some.injEq] at h
        subst h
        obtain ⟨h0, h1⟩ := inB_iff (need_some hu)
        obtain ⟨base, len, cap, cells, rfl, hl, hcap, hmax, hsz, hby, hat, hrep⟩ := imm_slice ha
        obtain ⟨uu, hund, hty⟩ := G.und_slice hT
        have hil : Int.toNat n < xs.length := by omega
        rcases hat with hz | ⟨b, off, rfl, hO, hc⟩
        · omega
        refine ⟨.pointer (some ⟨b, off + Int.toNat n * e.size, none⟩), ?_, b, off + Int.toNat n * e.size, cells (Int.toNat n), rfl, hO, ?_, hsz, fun j hj => hc _ (by omega) j hj⟩
        · have hin : 0 ≤ n ∧ n < (len : Int) := ⟨h0, by omega⟩
          simp [Instr.indexAt, asIntOf, run_underlying hund, hin, G.run_sizeOf hty, add_addr]
        · have e1 : nth xs n e.dflt = xs[Int.toNat n] := by simp [nth, List.getD, List.getElem?_eq_getElem hil]
          show Rep _ _ e _ (nth xs n e.dflt)
          rw [e1]
          exact hrep _ hil
  case view id e lo len =>
    cases hT : G.ty t with
    | none => rw [hT] at h; cases h
    | some T =>
      rw [hT] at h
      cases T <;> simp only [reduceCtorEq] at h
      rename_i e'
      cases he : Ty.eqb e e' with
      | false => rw [he] at h; cases h
      | true =>
        rw [he] at h
        have := Ty.eqb_eq he
        subst this
        simp only [cond_true, Option.some.injEq] at h
        subst h
        obtain ⟨h0, h1⟩ := inB_iff (need_some hu)
        obtain ⟨uu, hund, hty⟩ := G.und_slice hT
        obtain ⟨hid, hlen, hsz, ⟨_, ⟨_, rfl⟩, _, rfl⟩ | ⟨b, cap, ty, nn, base, hbk, rfl, hcap, hmax, hshape, hin, hbase⟩⟩ := ha
        · omega
        rcases hbase with hc0 | rfl
        · omega
        have e2 : lo * e.size + Int.toNat n * e.size = (lo + Int.toNat n) * e.size := by rw [Nat.add_mul]
        refine ⟨.pointer (some ⟨b, (lo + Int.toNat n) * e.size, none⟩), ?_, hid, ?_, b, 0, hbk, by cases e <;> rfl, rfl⟩
        · have hin : 0 ≤ n ∧ n < (len : Int) := ⟨h0, h1⟩
          simp [Instr.indexAt, asIntOf, run_underlying hund, hin, G.run_sizeOf hty, add_addr, e2]
        · omega
  case aptr id e =>
    cases hT : G.ty t with
    | none => rw [hT] at h; cases h
    | some T =>
      rw [hT] at h
      cases T <;> simp only [reduceCtorEq] at h
      rename_i l e'
      cases hf : find st.heap id with
      | none => rw [hf] at h; cases h
      | some o =>
        rw [hf] at h
        cases o with
        | cells _ => cases h
        | row e'' xs =>
          simp only at h
          cases he : (Ty.eqb e e' && Ty.eqb e e'') with
          | false => rw [he] at h; cases h
          | true =>
            rw [he] at h
            rw [Bool.and_eq_true] at he
            have e1 := Ty.eqb_eq he.1
            have e2 := Ty.eqb_eq he.2
            subst e1; subst e2
            simp only [cond_true, Option.some.injEq] at h
            subst h
            have hb := need_some hu
            rw [Bool.and_eq_true] at hb
            obtain ⟨h0, h1⟩ := inB_iff hb.1
            obtain ⟨_, h2⟩ := inB_iff hb.2
            obtain ⟨uu, hund, hty⟩ := G.und_arr hT
            obtain ⟨hid, b, hbk, rfl⟩ := ha
            obtain ⟨_, _, hlen, _⟩ := H.obj id _ hf
            refine ⟨.pointer (some ⟨b, Int.toNat n * e.size, none⟩), ?_, hid, ?_, b, 0, hbk, by cases e <;> rfl, rfl⟩
            · have hin : 0 ≤ n ∧ n < (l : Int) := ⟨h0, h1⟩
              simp [Instr.indexAt, asIntOf, run_underlying hund, hin, G.run_sizeOf hty, add_addr, Instr.sureAddr]
            · have : Int.toNat n < (m id).2 := by omega
              exact this

end Go.Proofs.YtlkggeaibgaohaaGreatDoor.Sim
