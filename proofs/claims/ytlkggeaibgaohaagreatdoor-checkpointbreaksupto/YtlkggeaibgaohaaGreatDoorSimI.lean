/- Lengths, conversions, parts of structs by value, slices of slices. -/
import Derived.Test.YtlkggeaibgaohaaGreatDoorSimH
import Derived.Laws.BytesString
namespace Go.Proofs.YtlkggeaibgaohaaGreatDoor.Sim
open Go Go.RowKit

theorem run_call_builtin {P : Program} {b : Builtin} {args : Array Operand} {ts : Array TypeId} {o : Oper} {a : Act} {w w' : World} {v : Value}
    (ho : o.op = .call ⟨.builtin b, args, ts⟩) (s : Sem Value) (hs : ∀ cs, builtin b ts o.type cs (args.map a.eval) = (do pure (.value (← s)))) (hr : s.run P w = .ok v w') :
    (execOp a.eval o).run P w = .ok (.value v) w' := by
  simp only [execOp, ho, resolve, Sem.run_bind, Sem.run_pure, Result.andThen, invoke, hs, hr]

def lenAV (G : Pg) (t : TypeId) (a : AV) : Option (Comp AV) :=
  match a with
  | .imm (.slice _) xs => match G.ty t with
    | some (.slice _) => some (just (.imm (.int .i64) (List.length xs : Int)))
    | _ => none
  | .imm .str s => match G.ty t with
    | some .str => some (just (.imm (.int .i64) (ByteArray.size s : Int)))
    | _ => none
  | .const (.slice none 0 0) => match G.ty t with
    | some (.slice _) => some (just (.imm (.int .i64) (0 : Int)))
    | _ => none
  | .view _ _ _ len => match G.ty t with
    | some (.slice _) => some (just (.imm (.int .i64) (len : Int)))
    | _ => none
  | _ => none

theorem inKind_len {n : Nat} (h : n ≤ maxLen) : inKind .i64 (n : Int) := by
  rw [inKind_iff]; unfold maxLen at h; simp only [kMin, kMax]; omega

theorem run_len_slice {P : Program} {t ty u : TypeId} (h : P.underlying t = some (.slice u)) (base : Option Addr) (n c : Nat) (w : World) :
    (Builtin.len_ #[t] ty #[.slice base n c]).run P w = .ok (.int .i64 n) w := by
  simp [Builtin.len_, run_underlying h, goInt]

theorem lenAV_sound (G : Pg) {c : Cx} {t ty : TypeId} {a : AV} {cp : Comp AV} (h : lenAV G t a = some cp) {u : cp.X} {va : Value} (ha : AVR c a [va]) (w : World) :
    ∃ v, (Builtin.len_ #[t] ty #[va]).run G.P w = .ok v w ∧ AVR c (cp.out u) [v] := by
  unfold lenAV at h
  split at h
  · rename_i e xs
    cases hT : G.ty t with
    | none => rw [hT] at h; cases h
    | some T =>
      rw [hT] at h
      cases T <;> simp only [Option.some.injEq, reduceCtorEq] at h
      subst h
      obtain ⟨base, len, cap, cells, rfl, hl, hcap, hmax, _⟩ := imm_slice ha
      obtain ⟨uu, hund, _⟩ := G.und_slice hT
      refine ⟨_, run_len_slice hund base len cap w, ?_⟩
      show AVR c (.imm (.int .i64) (List.length xs : Int)) _
      rw [hl]
      exact int_imm c (inKind_len (by omega))
  · rename_i s
    cases hT : G.ty t with
    | none => rw [hT] at h; cases h
    | some T =>
      rw [hT] at h
      cases T <;> simp only [Option.some.injEq, reduceCtorEq] at h
      subst h
      obtain ⟨rfl, hs⟩ := imm_str ha
      refine ⟨.int .i64 (ByteArray.size s), by simp [Builtin.len_, run_underlying (G.und_str hT), goInt], int_imm c ?_⟩
      rw [inKind_iff]
      simp only [kMin, kMax]
      omega
  · cases hT : G.ty t with
    | none => rw [hT] at h; cases h
    | some T =>
      rw [hT] at h
      cases T <;> simp only [Option.some.injEq, reduceCtorEq] at h
      subst h
      obtain rfl : va = .slice none 0 0 := ha
      obtain ⟨uu, hund, _⟩ := G.und_slice hT
      exact ⟨_, run_len_slice hund none 0 0 w, int_imm c (inKind_len (Nat.zero_le _))⟩
  · rename_i id e lo len
    cases hT : G.ty t with
    | none => rw [hT] at h; cases h
    | some T =>
      rw [hT] at h
      cases T <;> simp only [Option.some.injEq, reduceCtorEq] at h
      subst h
      obtain ⟨uu, hund, _⟩ := G.und_slice hT
      obtain ⟨_, _, _, ⟨_, ⟨base0, rfl⟩, _, rfl⟩ | ⟨b, cap, ty', n, base, _, rfl, hcap, hmax, _⟩⟩ := ha
      · exact ⟨_, run_len_slice hund base0 0 0 w, int_imm c (inKind_len (Nat.zero_le _))⟩
      · exact ⟨_, run_len_slice hund base len cap w, int_imm c (inKind_len (by omega))⟩
  · cases h

/-- The text that bytes make. -/
def bytesOf (xs : List Int) : ByteArray := ⟨(xs.map fun n => UInt8.ofNat n.toNat).toArray⟩

def convAV (G : Pg) (src dst : TypeId) (a : AV) : Option (Comp AV) :=
  match a with
  | .imm (.int _) x => match G.ty src, G.ty dst with
    | some _, some (.int k) => some (just (.imm (.int k) (k.wrap x)))
    | _, _ => none
  | .imm .str x => match G.ty src, G.ty dst with
    | some _, some .str => some (just (.imm .str x))
    | _, _ => none
  | .imm (.slice (.int .u8)) xs => match G.ty src, G.ty dst with
    | some (.slice (.int .u8)), some .str => some (just (.imm .str (bytesOf xs)))
    | _, _ => none
  | _ => none

theorem foldl_push_ints : ∀ (l : List Int) (s : ByteArray), l.foldl (fun r n => r.push (UInt8.ofNat n.toNat)) s = ⟨s.data ++ (l.map fun n => UInt8.ofNat n.toNat).toArray⟩
  | [], s => by simp
  | n :: l, s => by
    rw [List.foldl_cons, foldl_push_ints l]
    simp [ByteArray.push]

theorem reps_u8 {O : Nat → Prop} {w : World} {cs : List Value} {x : Int} (h : Rep O w (.int .u8) cs x) : cs = [.int .u8 x] ∧ 0 ≤ x ∧ x ≤ 255 := by
  cases h with
  | int h => rw [inKind_iff] at h; exact ⟨rfl, h⟩

theorem run_bytesOf {P : Program} {w : World} {O : Nat → Prop} {base : Option Addr} {len cap : Nat} {xs : List Int} {cells : Nat → List Value} (hl : xs.length = len)
    (hat : SliceAt O w base 1 len cells) (hrep : ∀ i (hi : i < xs.length), Rep O w (.int .u8) (cells i) xs[i]) :
    (Conv.bytesToString (.slice base len cap)).run P w = .ok (.string (bytesOf xs)) w := by
  cases base with
  | none =>
    rcases hat with h0 | ⟨b, off, hb, _⟩
    · have : xs = [] := List.eq_nil_of_length_eq_zero (by omega)
      subst this
      rfl
    · cases hb
  | some ad =>
    have hcells : ∀ j v, (xs.map (Value.int .u8))[j]? = some v → w.cell? (ad.add j) = some v := by
      intro j v hj
      have hlt : j < xs.length := by
        have := (List.getElem?_eq_some_iff.1 hj).1
        simpa using this
      rcases hat with h0 | ⟨b, off, hb, _, hc⟩
      · omega
      · cases hb
        have h1 := hc j (by omega) 0 (by omega)
        obtain ⟨h2, _⟩ := reps_u8 (hrep j hlt)
        rw [h2] at h1
        simp only [Nat.mul_one, Nat.add_zero, List.getElem?_cons_zero] at h1
        rw [add_addr, h1]
        simp [List.getElem?_eq_getElem hlt] at hj
        rw [hj]
    have hload := run_loadCells_list (P := P) w ad (xs.map (Value.int .u8)) hcells
    rw [List.length_map, hl] at hload
    rw [run_bytesToString w ad len cap xs hload, foldl_push_ints]
    simp [bytesOf, ByteArray.empty, ByteArray.emptyWithCapacity]
    rfl

theorem convAV_sound (G : Pg) {c : Cx} {src dst : TypeId} {a : AV} {cp : Comp AV} (h : convAV G src dst a = some cp) {u : cp.X} {va : Value} (ha : AVR c a [va]) :
    ∃ v, (convert src dst va).run G.P c.w = .ok v c.w ∧ AVR c (cp.out u) [v] := by
  unfold convAV at h
  split at h
  · rename_i l x
    cases h1 : G.ty src with
    | none => rw [h1] at h; cases h
    | some S =>
      cases h2 : G.ty dst with
      | none => rw [h1, h2] at h; cases h
      | some D =>
        rw [h1, h2] at h
        cases D <;> simp only [Option.some.injEq, reduceCtorEq] at h
        rename_i k
        subst h
        obtain ⟨rfl, _⟩ := imm_int ha
        obtain ⟨d, hd⟩ := G.und_some h1
        refine ⟨.int k (k.wrap x), ?_, int_imm c (inKind_wrap _ _)⟩
        simp only [convert, Sem.run_bind, run_underlying hd, run_underlying (G.und_int h2), Result.andThen]
        rfl
  · rename_i x
    cases h1 : G.ty src with
    | none => rw [h1] at h; cases h
    | some S =>
      cases h2 : G.ty dst with
      | none => rw [h1, h2] at h; cases h
      | some D =>
        rw [h1, h2] at h
        cases D <;> simp only [Option.some.injEq, reduceCtorEq] at h
        subst h
        obtain ⟨rfl, hs⟩ := imm_str ha
        obtain ⟨d, hd⟩ := G.und_some h1
        refine ⟨.string x, ?_, str_imm c hs⟩
        simp only [convert, Sem.run_bind, run_underlying hd, run_underlying (G.und_str h2), Result.andThen]
        rfl
  · rename_i xs
    cases h1 : G.ty src with
    | none => rw [h1] at h; cases h
    | some S =>
      cases h2 : G.ty dst with
      | none => rw [h1, h2] at h; simp at h
      | some D =>
        rw [h1, h2] at h
        split at h
        · rename_i e1 e2
          simp only [Option.some.injEq] at e1 e2 h
          subst e1; subst e2; subst h
          obtain ⟨base, len, cap, cells, rfl, hl, hcap, hmax, hsz, hby, hat, hrep⟩ := imm_slice ha
          obtain ⟨uu, hund, hty⟩ := G.und_slice h1
          refine ⟨.string (bytesOf xs), ?_, str_imm c ?_⟩
          · have hrun := run_bytesOf (P := G.P) (w := c.w) (cap := cap) hl hat hrep
            simp only [convert, Sem.run_bind, run_underlying hund, run_underlying (G.und_str h2), Result.andThen, run_underlying (G.und_int hty)]
            exact hrun
          · have : (bytesOf xs).size = xs.length := by simp [bytesOf, ByteArray.size]
            have hb1 : Ty.bytes (.int .u8) = 1 := rfl
            rw [this]
            rw [hb1] at hby
            omega
        · cases h
  · cases h

def unAV (op : UnOp) (a : AV) : Option (Comp AV) :=
  match op, a with
  | .not, .imm .bool x => some (just (.imm .bool (!x)))
  | .neg, .imm (.int k) x => some (just (.imm (.int k) (k.wrap (0 - x))))
  | .xor, .imm (.int k) x => some (just (.imm (.int k) (bitsV .xor k (if k.signed then -1 else kMax k) x)))
  | _, _ => none
theorem unAV_sound {P : Program} {c : Cx} {op : UnOp} {a : AV} {cp : Comp AV} (h : unAV op a = some cp) {u : cp.X} {va : Value} (ha : AVR c a [va]) (w : World) :
    ∃ v, (Op.unary op va).run P w = .ok v w ∧ AVR c (cp.out u) [v] := by
  unfold unAV at h
  split at h
  · simp only [Option.some.injEq] at h
    subst h
    have := imm_bool ha
    subst this
    exact ⟨_, rfl, bool_imm c _⟩
  · simp only [Option.some.injEq] at h
    subst h
    obtain ⟨rfl, _⟩ := imm_int ha
    exact ⟨_, rfl, int_imm c (inKind_wrap _ _)⟩
  · simp only [Option.some.injEq] at h
    subst h
    obtain ⟨rfl, _⟩ := imm_int ha
    refine ⟨_, rfl, ?_⟩
    rw [kMax_eq]
    exact int_imm c (inKind_wrap _ _)
  · cases h

end Go.Proofs.YtlkggeaibgaohaaGreatDoor.Sim
