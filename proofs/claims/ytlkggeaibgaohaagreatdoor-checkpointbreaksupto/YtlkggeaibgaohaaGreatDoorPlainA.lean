/- Plain words: loops, checks, whole numbers of given kinds. -/
import Derived.Test.YtlkggeaibgaohaaGreatDoorSimZF
import Derived.Test.YtlkggeaibgaohaaGreatDoorR
section
namespace Go.Proofs.YtlkggeaibgaohaaGreatDoor.Sim
open Go

theorem loopW_unfold {X R : Type} (f : X → Option (X ⊕ R)) (x : X) : loopW f x = match f x with
    | some (.inl y) => loopW f y
    | some (.inr r) => some r
    | none => none := by
  cases hf : f x with
  | none =>
    cases h : loopW f x with
    | none => rfl
    | some r =>
      obtain ⟨n, hn⟩ := loopW_some h
      cases n with
      | zero => cases hn
      | succ n => simp only [loopN, hf] at hn; cases hn
  | some q =>
    cases q with
    | inr r => exact loopW_of (n := 1) (by simp only [loopN, hf])
    | inl y =>
      simp only
      cases h : loopW f y with
      | some r =>
        obtain ⟨n, hn⟩ := loopW_some h
        exact loopW_of (n := n + 1) (by simp only [loopN, hf]; exact hn)
      | none =>
        cases h' : loopW f x with
        | none => rfl
        | some r =>
          obtain ⟨n, hn⟩ := loopW_some h'
          cases n with
          | zero => cases hn
          | succ n =>
            simp only [loopN, hf] at hn
            rw [loopW_of hn] at h
            cases h
theorem loopW_inl {X R : Type} {f : X → Option (X ⊕ R)} {x y : X} (h : f x = some (.inl y)) : loopW f x = loopW f y := by rw [loopW_unfold, h]
theorem loopW_inr {X R : Type} {f : X → Option (X ⊕ R)} {x : X} {r : R} (h : f x = some (.inr r)) : loopW f x = some r := by rw [loopW_unfold, h]
theorem loopW_none {X R : Type} {f : X → Option (X ⊕ R)} {x : X} (h : f x = none) : loopW f x = none := by rw [loopW_unfold, h]

/-- A check ahead of what follows. -/
theorem bind_need {α : Type} (b : Bool) (f : Unit → Option α) : Option.bind (cond b (some ()) none) f = cond b (f ()) none := by cases b <;> rfl
theorem cond_bind {α β : Type} (b : Bool) (x y : Option α) (f : α → Option β) : Option.bind (cond b x y) f = cond b (Option.bind x f) (Option.bind y f) := by cases b <;> rfl
theorem joinR_cond {X R : Type} (b : Bool) (x y : Option (X ⊕ R)) (f : X → Option R) : joinR (cond b x y) f = cond b (joinR x f) (joinR y f) := by cases b <;> rfl
theorem joinR_inl {X R : Type} (x : X) (f : X → Option R) : joinR (some (.inl x)) f = f x := rfl
theorem joinR_inr {X R : Type} (r : R) (f : X → Option R) : joinR (some (.inr r)) f = some r := rfl
theorem map_cond {α β : Type} (b : Bool) (x y : Option α) (f : α → β) : Option.map f (cond b x y) = cond b (Option.map f x) (Option.map f y) := by cases b <;> rfl
theorem optU_need {b c : Bool} : optU (cond b (some ()) none) c () = cond b (some ()) (cond c none (some ())) := by cases b <;> cases c <;> rfl
theorem cond_and (b c : Bool) : cond b c false = (b && c) := by cases b <;> rfl
theorem cond_or (b c : Bool) : cond b true c = (b || c) := by cases b <;> rfl

theorem bits_u8 : IntKind.bits .u8 = 8 := rfl
theorem wrap_u8 (n : Int) : IntKind.wrap .u8 n = n % 256 := rfl
theorem wrap_u32 (n : Int) : IntKind.wrap .u32 n = n % 4294967296 := rfl
theorem wrap_u64 (n : Int) : IntKind.wrap .u64 n = n % 18446744073709551616 := rfl
theorem wrap_i64 {n : Int} (h1 : -9223372036854775808 ≤ n) (h2 : n ≤ 9223372036854775807) : IntKind.wrap .i64 n = n := by
  have e1 : (2 : Int) ^ 64 = 18446744073709551616 := rfl
  have e2 : (2 : Int) ^ 63 = 9223372036854775808 := rfl
  simp only [IntKind.wrap, IntKind.bits, IntKind.signed, Bool.true_and, decide_eq_true_eq, e1, e2, Nat.reduceSub]
  split <;> omega
end Go.Proofs.YtlkggeaibgaohaaGreatDoor.Sim
end

section
/- The sum of bytes (CRC-32C): what it is, and that it tells a change of one byte. -/
namespace Go.Proofs.YtlkggeaibgaohaaGreatDoor.Sim
open Go

abbrev B32 := BitVec 32
def polyB : B32 := 2197175160#32
def shift1 (r : B32) : B32 := if r.getLsbD 0 then (r >>> 1) ^^^ polyB else r >>> 1
def shiftN : Nat → B32 → B32
  | 0, r => r
  | n + 1, r => shiftN n (shift1 r)
def sumB (r : B32) : List Int → B32
  | [] => r
  | c :: l => sumB (shiftN 8 (r ^^^ BitVec.ofInt 32 c)) l
def crc (l : List Int) : Int := ((sumB 4294967295#32 l ^^^ 4294967295#32).toNat : Int)
theorem crc_range (l : List Int) : 0 ≤ crc l ∧ crc l < 4294967296 := by
  unfold crc
  have := (sumB 4294967295#32 l ^^^ 4294967295#32).isLt
  omega

theorem shift1_inj {r s : B32} (h : shift1 r = shift1 s) : r = s := by
  have bit : ∀ (x : B32) (i : Nat), i < 32 → (shift1 x).getLsbD i = (if i < 31 then (x.getLsbD (i + 1) ^^ (x.getLsbD 0 && polyB.getLsbD i)) else (x.getLsbD 0 && polyB.getLsbD i)) := by
    intro x i hi
    have h31 : ¬ i < 31 → x.getLsbD (i + 1) = false := fun h => BitVec.getLsbD_of_ge _ _ (by omega)
    unfold shift1
    cases h0 : x.getLsbD 0 with
    | true =>
      simp only [if_true, BitVec.getLsbD_xor, BitVec.getLsbD_ushiftRight, Bool.true_and, Nat.add_comm 1 i]
      split
      · rfl
      · rename_i hn; rw [h31 hn]; simp
    | false =>
      simp only [Bool.false_eq_true, if_false, BitVec.getLsbD_ushiftRight, Bool.false_and, Nat.add_comm 1 i]
      split
      · simp
      · rename_i hn; exact h31 hn
  have h0 : r.getLsbD 0 = s.getLsbD 0 := by
    have e1 := bit r 31 (by omega)
    have e2 := bit s 31 (by omega)
    rw [h] at e1
    rw [e1] at e2
    have hp : polyB.getLsbD 31 = true := by decide
    rw [if_neg (by omega), if_neg (by omega), hp, Bool.and_true, Bool.and_true] at e2
    exact e2
  apply BitVec.eq_of_getLsbD_eq
  intro i hi
  cases i with
  | zero => exact h0
  | succ i =>
    have e1 := bit r i (by omega)
    have e2 := bit s i (by omega)
    rw [h] at e1
    rw [e1] at e2
    rw [if_pos (by omega), if_pos (by omega), h0] at e2
    revert e2
    cases r.getLsbD (i + 1) <;> cases s.getLsbD (i + 1) <;> cases (s.getLsbD 0 && polyB.getLsbD i) <;> simp
theorem shiftN_inj : ∀ (n : Nat) {r s : B32}, shiftN n r = shiftN n s → r = s
  | 0, _, _, h => h
  | n + 1, _, _, h => shift1_inj (shiftN_inj n h)
theorem xor_inj_left {a b c : B32} (h : a ^^^ c = b ^^^ c) : a = b := by
  have := congrArg (· ^^^ c) h
  simpa [BitVec.xor_assoc] using this
theorem sumB_inj : ∀ {l : List Int} {r s : B32}, sumB r l = sumB s l → r = s
  | [], _, _, h => h
  | _ :: _, _, _, h => xor_inj_left (shiftN_inj 8 (sumB_inj h))
theorem ofInt_byte_inj {a b : Int} (ha : 0 ≤ a ∧ a < 256) (hb : 0 ≤ b ∧ b < 256) (h : BitVec.ofInt 32 a = BitVec.ofInt 32 b) : a = b := by
  have := congrArg BitVec.toNat h
  rw [BitVec.toNat_ofInt, BitVec.toNat_ofInt] at this
  omega
theorem sumB_set : ∀ {l : List Int} {r : B32} {k : Nat} {v : Int} (hk : k < l.length), (∀ c ∈ l, 0 ≤ c ∧ c < 256) → 0 ≤ v ∧ v < 256 → v ≠ l[k] → sumB r (l.set k v) ≠ sumB r l
  | c :: l, r, 0, v, _, hl, hv, hne => by
    intro h
    simp only [List.set_cons_zero, sumB] at h
    have h1 := shiftN_inj 8 (sumB_inj h)
    have h2 : BitVec.ofInt 32 v = BitVec.ofInt 32 c := by
      have := congrArg (r ^^^ ·) h1
      simpa [← BitVec.xor_assoc] using this
    exact hne (ofInt_byte_inj hv (hl c (List.mem_cons_self ..)) h2)
  | c :: l, r, k + 1, v, hk, hl, hv, hne => by
    intro h
    simp only [List.set_cons_succ, sumB] at h
    exact sumB_set (l := l) (k := k) (by simpa using hk) (fun d hd => hl d (List.mem_cons_of_mem _ hd)) hv (by simpa using hne) h
theorem crc_set {l : List Int} {k : Nat} {v : Int} (hk : k < l.length) (hl : ∀ c ∈ l, 0 ≤ c ∧ c < 256) (hv : 0 ≤ v ∧ v < 256) (hne : v ≠ l[k]) : crc (l.set k v) ≠ crc l := by
  intro h
  unfold crc at h
  have h1 : (sumB 4294967295#32 (l.set k v) ^^^ 4294967295#32).toNat = (sumB 4294967295#32 l ^^^ 4294967295#32).toNat := by omega
  exact sumB_set hk hl hv hne (xor_inj_left (BitVec.eq_of_toNat_eq h1))

/- The code -/

theorem ofInt_toNat (b : B32) : BitVec.ofInt 32 ((b.toNat : Nat) : Int) = b := by
  apply BitVec.eq_of_toNat_eq
  rw [BitVec.toNat_ofInt]
  have := b.isLt
  omega
theorem wrap32_toNat (b : B32) : IntKind.wrap .u32 ((b.toNat : Nat) : Int) = (b.toNat : Int) := by
  rw [wrap_u32]
  have := b.isLt
  omega
theorem fdiv_two (b : B32) : Int.fdiv ((b.toNat : Nat) : Int) 2 = ((b >>> 1).toNat : Int) := by
  rw [BitVec.toNat_ushiftRight, Nat.shiftRight_eq_div_pow, Int.fdiv_eq_ediv_of_nonneg _ (by omega)]
  simp
theorem low_bit (b : B32) : (IntKind.wrap .u32 ((BitVec.toNat (b &&& BitVec.ofInt 32 1) : Nat) : Int) == (1 : Int)) = b.getLsbD 0 := by
  rw [wrap32_toNat]
  have e : BitVec.ofInt 32 1 = 1#32 := rfl
  rw [e]
  have h1 : (b &&& 1#32).toNat = b.toNat % 2 := by
    rw [BitVec.toNat_and]
    show b.toNat &&& 1 = _
    rw [Nat.and_one_is_mod]
  rw [h1, BitVec.getLsbD, Nat.testBit_zero]
  have := Nat.mod_two_eq_zero_or_one b.toNat
  rcases this with h | h <;> rw [h] <;> rfl

theorem sum_L1_step (v0 : Int × Int × Unit) (i : Int) (b : B32) (h0 : 0 ≤ i) (h8 : i < 8) : R.codec_Sum_L1 v0 (i, ((b.toNat : Nat) : Int), ()) = some (.inl (i + 1, (((shift1 b).toNat : Nat) : Int), ())) := by
  unfold R.codec_Sum_L1
  simp only [ofInt_toNat, low_bit, fdiv_two, joinR_cond, joinR_inl, decide_eq_true h8, cond_true]
  rw [wrap_i64 (n := i + 1) (by omega) (by omega)]
  cases h : b.getLsbD 0 with
  | true =>
    simp only [cond_true]
    have e : BitVec.ofInt 32 2197175160 = polyB := rfl
    rw [e, wrap32_toNat]
    simp only [shift1, h, if_true]
  | false =>
    simp only [cond_false]
    simp only [shift1, h, Bool.false_eq_true, if_false]
theorem sum_L1_end (v0 : Int × Int × Unit) (v : Int) : R.codec_Sum_L1 v0 (8, v, ()) = some (.inr (.inl (IntKind.wrap .i64 (v0.1 + 1), v, ()))) := rfl
theorem sum_L1 (v0 : Int × Int × Unit) : ∀ (k : Nat) (i : Int) (b : B32), i + k = 8 → 0 ≤ i → loopW (R.codec_Sum_L1 v0) (i, ((b.toNat : Nat) : Int), ()) = some (.inl (IntKind.wrap .i64 (v0.1 + 1), (((shiftN k b).toNat : Nat) : Int), ()))
  | 0, i, b, h, _ => by
    have : i = 8 := by omega
    subst this
    exact loopW_inr (sum_L1_end v0 _)
  | k + 1, i, b, h, h0 => by
    rw [loopW_inl (sum_L1_step v0 i b h0 (by omega))]
    exact sum_L1 v0 k (i + 1) (shift1 b) (by omega) (by omega)
theorem ofInt_wrap (n : Int) : BitVec.ofInt 32 (IntKind.wrap .u32 n) = BitVec.ofInt 32 n := by
  apply BitVec.eq_of_toNat_eq
  rw [BitVec.toNat_ofInt, BitVec.toNat_ofInt, wrap_u32]
  omega
theorem sum_L0 (l : List Int) (hl : l.length ≤ 1099511627776) : ∀ (m i : Nat) (b : B32), l.length = i + m → loopW (R.codec_Sum_L0 (l, ())) ((i : Int), ((b.toNat : Nat) : Int), ()) = some ((((sumB b (l.drop i)) ^^^ 4294967295#32).toNat : Int), ())
  | 0, i, b, h => by
    refine loopW_inr ?_
    unfold R.codec_Sum_L0
    have hn : ¬ ((i : Int) < ((l.length : Nat) : Int)) := by omega
    simp only [decide_eq_false hn, cond_false, ofInt_toNat]
    have e : BitVec.ofInt 32 4294967295 = 4294967295#32 := rfl
    have hd : l.drop i = [] := List.drop_eq_nil_of_le (by omega)
    have hx := (b ^^^ 4294967295#32).isLt
    rw [e, hd]
    show some (Sum.inr (IntKind.wrap .i64 (IntKind.wrap .u32 (((b ^^^ 4294967295#32).toNat : Nat) : Int)), ())) = _
    rw [wrap32_toNat, wrap_i64 (by omega) (by omega)]
    rfl
  | m + 1, i, b, h => by
    have hi : i < l.length := by omega
    have hlt : ((i : Int) < ((l.length : Nat) : Int)) := by omega
    have h0 : (0 : Int) ≤ (i : Int) := by omega
    have hstep : R.codec_Sum_L0 (l, ()) ((i : Int), ((b.toNat : Nat) : Int), ()) = some (.inl (((i + 1 : Nat) : Int), (((shiftN 8 (b ^^^ BitVec.ofInt 32 l[i])).toNat : Nat) : Int), ())) := by
      unfold R.codec_Sum_L0
      simp only [decide_eq_true hlt, decide_eq_true h0, cond_true, bind_need, Bool.and_true]
      have e : List.getD l (i : Int).toNat 0 = l[i] := by simp [List.getD, hi]
      rw [e, ofInt_wrap, ofInt_toNat]
      have e2 : IntKind.wrap .u32 ((BitVec.toNat (HXor.hXor b (BitVec.ofInt 32 l[i])) : Nat) : Int) = (((b ^^^ BitVec.ofInt 32 l[i]).toNat : Nat) : Int) := wrap32_toNat _
      rw [e2, sum_L1 _ 8 0 _ (by omega) (by omega)]
      simp only
      rw [wrap_i64 (by omega) (by omega)]
      rfl
    rw [loopW_inl hstep, sum_L0 l hl m (i + 1) _ (by omega)]
    rw [List.drop_eq_getElem_cons hi]
    rfl
theorem codec_Sum_eq (l : List Int) (hl : l.length ≤ 1099511627776) : R.codec_Sum (l, ()) = some (crc l, ()) := by
  unfold R.codec_Sum
  have := sum_L0 l hl l.length 0 4294967295#32 (by omega)
  exact this

theorem crc_zero : crc [0] = 1383945041 := by decide +kernel
end Go.Proofs.YtlkggeaibgaohaaGreatDoor.Sim
end

section
/- The codec: whole numbers as bytes; joined rows. -/
namespace Go.Proofs.YtlkggeaibgaohaaGreatDoor.Sim
open Go
universe u

theorem cond_t {α : Sort u} {b : Bool} {x y : α} (h : b = true) : cond b x y = x := by rw [h]; rfl
theorem cond_f {α : Sort u} {b : Bool} {x y : α} (h : b = false) : cond b x y = y := by rw [h]; rfl

/-- A number in groups of seven bits, the lowest first. -/
def encF : Nat → Nat → List Int
  | 0, u => [(u : Int)]
  | f + 1, u => if u < 128 then [(u : Int)] else ((u % 128 + 128 : Nat) : Int) :: encF f (u / 128)
/-- The number of an integer. -/
def zz (n : Int) : Nat := (IntKind.wrap IntKind.u64 (((BitVec.toNat (HXor.hXor (BitVec.ofInt 64 (IntKind.wrap IntKind.u64 ((IntKind.wrap IntKind.u64 n) * (2 : Int)))) (BitVec.ofInt 64 (IntKind.wrap IntKind.u64 (Int.fdiv n (9223372036854775808 : Int)))))) : Nat) : Int)).toNat
def enc (n : Int) : List Int := encF 9 (zz n)
theorem zz_lt (n : Int) : zz n < 18446744073709551616 := by
  unfold zz
  rw [wrap_u64]
  omega
theorem encF_len : ∀ (f u : Nat), 1 ≤ (encF f u).length ∧ (encF f u).length ≤ f + 1
  | 0, u => ⟨Nat.le_refl _, Nat.le_refl _⟩
  | f + 1, u => by
    simp only [encF]
    split
    · simp
    · have := encF_len f (u / 128)
      simp only [List.length_cons]
      omega
theorem enc_len (n : Int) : 1 ≤ (enc n).length ∧ (enc n).length ≤ 10 := encF_len 9 _
def Bytes (l : List Int) : Prop := ∀ c ∈ l, 0 ≤ c ∧ c < 256
theorem Bytes.nil : Bytes [] := fun _ h => by cases h
theorem Bytes.append {a b : List Int} (h : Bytes a) (k : Bytes b) : Bytes (a ++ b) := fun c hc => by
  rcases List.mem_append.1 hc with hc | hc
  · exact h c hc
  · exact k c hc
theorem Bytes.flatMap {α : Type} {f : α → List Int} : ∀ {l : List α}, (∀ x ∈ l, Bytes (f x)) → Bytes (l.flatMap f)
  | [], _ => Bytes.nil
  | x :: l, h => by
    rw [List.flatMap_cons]
    exact (h x (List.mem_cons_self ..)).append (Bytes.flatMap fun y hy => h y (List.mem_cons_of_mem _ hy))
theorem encF_bytes : ∀ (f u : Nat), u < 128 ^ (f + 1) → Bytes (encF f u)
  | 0, u, h => by
    intro c hc
    simp only [encF, List.mem_singleton] at hc
    subst hc
    simp only [Nat.zero_add, Nat.pow_one] at h
    omega
  | f + 1, u, h => by
    simp only [encF]
    split
    · intro c hc
      simp only [List.mem_singleton] at hc
      subst hc
      omega
    · intro c hc
      rcases List.mem_cons.1 hc with rfl | hc
      · omega
      · refine encF_bytes f (u / 128) ?_ c hc
        rw [Nat.pow_succ] at h
        exact Nat.div_lt_of_lt_mul (by rw [Nat.mul_comm]; exact h)
theorem enc_bytes (n : Int) : Bytes (enc n) := encF_bytes 9 _ (by
  have := zz_lt n
  have e : (128 : Nat) ^ (9 + 1) = 1180591620717411303424 := by decide
  omega)

theorem codec_zigzag_eq (n : Int) : R.codec_zigzag (n, ()) = some ((zz n : Int), ()) := by
  unfold R.codec_zigzag zz
  simp only
  rw [Int.toNat_of_nonneg (by rw [wrap_u64]; omega)]
theorem or128 : ∀ x : BitVec 8, (x ||| 128#8).toNat = x.toNat % 128 + 128 := by decide
theorem high_bit (u : Nat) : IntKind.wrap .u8 ((BitVec.toNat (HOr.hOr (BitVec.ofInt 8 (IntKind.wrap .u8 (u : Int))) (BitVec.ofInt 8 128)) : Nat) : Int) = ((u % 128 + 128 : Nat) : Int) := by
  have e : BitVec.ofInt 8 128 = 128#8 := rfl
  rw [e]
  have := or128 (BitVec.ofInt 8 (IntKind.wrap .u8 (u : Int)))
  have h2 : (BitVec.ofInt 8 (IntKind.wrap .u8 (u : Int))).toNat = u % 256 := by
    rw [BitVec.toNat_ofInt, wrap_u8]
    omega
  rw [h2] at this
  rw [this, wrap_u8]
  omega
theorem fdiv_128 (u : Nat) : Int.fdiv (u : Int) 128 = ((u / 128 : Nat) : Int) := by
  rw [Int.fdiv_eq_ediv_of_nonneg _ (by omega)]
  omega
theorem take_set_succ {α : Type} (l : List α) (k : Nat) (v : α) (h : k < l.length) : (l.set k v).take (k + 1) = l.take k ++ [v] := by
  rw [List.take_succ_eq_append_getElem (by simpa using h), List.take_set_of_le (Nat.le_refl k)]
  simp
theorem encoded_L0 : ∀ (f : Nat) (arr : List Int) (k u : Nat), arr.length = 10 → k + f = 9 → u < 128 ^ (f + 1) →
    loopW R.codec_encoded_L0 (arr, (k : Int), (u : Int), ()) = some (arr.take k ++ encF f u, ()) := by
  intro f
  have fin : ∀ (f : Nat) (arr : List Int) (k u : Nat), arr.length = 10 → k + f = 9 → u < 128 → R.codec_encoded_L0 (arr, (k : Int), (u : Int), ()) = some (.inr (arr.take k ++ [(u : Int)], ())) := by
    intro f arr k u ha hk hu
    unfold R.codec_encoded_L0
    have h1 : ¬ ((u : Int) ≥ 128) := by omega
    have h2 : (0 : Int) ≤ (k : Int) := by omega
    have h3 : (k : Int) < ((10 : Nat) : Int) := by omega
    have e : IntKind.wrap .i64 ((k : Int) + 1) = ((k + 1 : Nat) : Int) := by rw [wrap_i64 (by omega) (by omega)]; rfl
    have e2 : IntKind.wrap .u8 (u : Int) = (u : Int) := by rw [wrap_u8]; omega
    simp only [decide_eq_false h1, cond_false, e, e2, ha, decide_eq_true h2, decide_eq_true h3, bind_need, Int.toNat_natCast, List.length_set]
    rw [cond_t (by simp), cond_t (by simp), cond_t (by simp; omega)]
    rw [take_set_succ arr k _ (by omega)]
    rfl
  induction f with
  | zero =>
    intro arr k u ha hk hu
    exact loopW_inr (fin 0 arr k u ha hk (by simpa using hu))
  | succ f ih =>
    intro arr k u ha hk hu
    by_cases h : u < 128
    · have := fin (f + 1) arr k u ha hk h
      simp only [encF, if_pos h]
      exact loopW_inr this
    · have hstep : R.codec_encoded_L0 (arr, (k : Int), (u : Int), ()) = some (.inl (arr.set k ((u % 128 + 128 : Nat) : Int), ((k + 1 : Nat) : Int), ((u / 128 : Nat) : Int), ())) := by
        unfold R.codec_encoded_L0
        have h1 : ((u : Int) ≥ 128) := by omega
        have h2 : (0 : Int) ≤ (k : Int) := by omega
        have h3 : (k : Int) < ((10 : Nat) : Int) := by omega
        have e : IntKind.wrap .i64 ((k : Int) + 1) = ((k + 1 : Nat) : Int) := by rw [wrap_i64 (by omega) (by omega)]; rfl
        simp only [decide_eq_true h1, cond_true, e, ha, decide_eq_true h2, decide_eq_true h3, bind_need, Int.toNat_natCast, high_bit, fdiv_128, Bool.and_true, Option.bind_some]
      rw [loopW_inl hstep]
      rw [ih _ _ _ (by simpa using ha) (by omega) (by rw [Nat.pow_succ] at hu; exact Nat.div_lt_of_lt_mul (by rw [Nat.mul_comm]; exact hu))]
      rw [take_set_succ arr k _ (by omega)]
      simp only [encF, if_neg h, List.append_assoc, List.singleton_append]
theorem codec_encoded_eq (n : Int) : R.codec_encoded (n, ()) = some (enc n, ()) := by
  unfold R.codec_encoded
  simp only
  rw [codec_zigzag_eq]
  simp only [Option.bind_some]
  have := encoded_L0 9 (List.replicate 10 0) 0 (zz n) (by simp) (by omega) (by
    have := zz_lt n
    have e : (128 : Nat) ^ (9 + 1) = 1180591620717411303424 := by decide
    omega)
  simpa [enc] using this

theorem codec_joined_eq (a b : List Int) (h : a.length + b.length ≤ 140737488355328) : R.codec_joined (a, b, ()) = some (a ++ b, ()) := by
  unfold R.codec_joined
  have e : IntKind.wrap .i64 (((a.length : Nat) : Int) + ((b.length : Nat) : Int)) = ((a.length + b.length : Nat) : Int) := by rw [wrap_i64 (by omega) (by omega)]; omega
  have e2 : Nat.min a.length (a.length + b.length) = a.length := Nat.min_eq_left (by omega)
  simp only [e, bind_need, Int.toNat_natCast, List.length_replicate, e2]
  rw [cond_t (by simp; omega), cond_t (by simp; omega), cond_t (by simp), cond_t (by simp)]
  simp only [Option.bind_some]
  have e3 : Nat.min b.length (a.length + b.length - a.length) = b.length := by rw [Nat.add_sub_cancel_left]; exact Nat.min_self _
  rw [e3]
  congr 2
  simp only [Nat.zero_add, Nat.add_zero, List.take_zero, List.nil_append, List.drop_zero, List.take_length, List.drop_replicate, Nat.add_sub_cancel_left]
  have t1 : List.take a.length (a ++ List.replicate b.length (0 : Int)) = a := List.take_left' rfl
  rw [t1, List.drop_eq_nil_of_le (by simp), List.append_nil, List.take_of_length_le (by simp)]
theorem codec_PutInt_eq (b : List Int) (n : Int) (h : b.length ≤ 140737488355318) : R.codec_PutInt (b, n, ()) = some (b ++ enc n, ()) := by
  unfold R.codec_PutInt
  simp only [codec_encoded_eq, Option.bind_some]
  rw [codec_joined_eq _ _ (by have := (enc_len n).2; omega)]
  rfl
/-- A list of whole numbers as bytes. -/
def encL (l : List Int) : List Int := l.flatMap enc
def encInts (l : List Int) : List Int := enc l.length ++ encL l
theorem encL_len : ∀ (l : List Int), (encL l).length ≤ 10 * l.length
  | [] => Nat.le_refl _
  | x :: l => by
    have := encL_len l
    have := (enc_len x).2
    simp only [encL, List.flatMap_cons, List.length_append, List.length_cons] at *
    omega
theorem encL_bytes (l : List Int) : Bytes (encL l) := Bytes.flatMap fun x _ => enc_bytes x
theorem encInts_bytes (l : List Int) : Bytes (encInts l) := (enc_bytes _).append (encL_bytes l)
theorem encInts_len (l : List Int) : (encInts l).length ≤ 10 * l.length + 10 := by
  have := encL_len l
  have := (enc_len l.length).2
  simp only [encInts, List.length_append]
  omega
theorem encL_take {l : List Int} {i : Nat} (h : i < l.length) : encL (l.take (i + 1)) = encL (l.take i) ++ enc l[i] := by
  unfold encL
  rw [List.take_succ_eq_append_getElem h, List.flatMap_append, List.flatMap_cons, List.flatMap_nil, List.append_nil]
theorem getD_at {α : Type} {l : List α} {i : Nat} {d : α} (h : i < l.length) : List.getD l i d = l[i] := by simp [List.getD, h]

theorem putInts_L0 (b l : List Int) (hb : b.length + 10 * l.length ≤ 140737488355000) : ∀ (m i : Nat), l.length = i + m →
    loopW (R.codec_PutInts_L0 (b, l, ())) (enc l.length ++ encL (l.take i), (i : Int), ()) = some (b ++ encInts l, ())
  | 0, i, h => by
    refine loopW_inr ?_
    unfold R.codec_PutInts_L0
    have hn : ¬ ((i : Int) < ((l.length : Nat) : Int)) := by omega
    have e : l.take i = l := List.take_of_length_le (by omega)
    simp only [decide_eq_false hn, cond_false, e, List.take_length]
    rw [codec_joined_eq _ _ (by have := encInts_len l; unfold encInts at this; omega)]
    rfl
  | m + 1, i, h => by
    have hi : i < l.length := by omega
    have hlt : ((i : Int) < ((l.length : Nat) : Int)) := by omega
    have h0 : (0 : Int) ≤ (i : Int) := by omega
    have hstep : R.codec_PutInts_L0 (b, l, ()) (enc l.length ++ encL (l.take i), (i : Int), ()) = some (.inl (enc l.length ++ encL (l.take (i + 1)), ((i + 1 : Nat) : Int), ())) := by
      unfold R.codec_PutInts_L0
      have e : IntKind.wrap .i64 ((i : Int) + 1) = ((i + 1 : Nat) : Int) := by rw [wrap_i64 (by omega) (by omega)]; rfl
      simp only [decide_eq_true hlt, decide_eq_true h0, cond_true, bind_need, Bool.and_true, Int.toNat_natCast, getD_at hi, codec_encoded_eq, Option.bind_some, e]
      have hlen : (enc l.length ++ encL (l.take i)).length + (enc l[i]).length ≤ 140737488355328 := by
        have h1 := encL_len (l.take i)
        have h2 := (enc_len l[i]).2
        have h3 := (enc_len l.length).2
        rw [List.length_take] at h1
        rw [List.length_append]
        omega
      rw [cond_t (by simp only [Nat.beq_refl, Bool.true_and, Nat.mul_one]; exact Nat.ble_eq_true_of_le hlen)]
      simp only [Nat.beq_refl, cond_true]
      rw [encL_take hi, List.append_assoc]
    rw [loopW_inl hstep]
    exact putInts_L0 b l hb m (i + 1) (by omega)
theorem codec_PutInts_eq (b l : List Int) (hb : b.length + 10 * l.length ≤ 140737488355000) : R.codec_PutInts (b, l, ()) = some (b ++ encInts l, ()) := by
  unfold R.codec_PutInts
  simp only [codec_encoded_eq, Option.bind_some, bind_need]
  cases l with
  | nil =>
    rw [cond_f (by simp)]
    rw [codec_joined_eq _ _ (by have := (enc_len (([] : List Int).length : Int)).2; simp only [List.length_nil] at *; omega)]
    simp [encInts, encL]
  | cons x l =>
    have hp : (0 : Int) < (((x :: l).length : Nat) : Int) := by rw [List.length_cons]; omega
    have h2 := (enc_len (x :: l).length).2
    have h3 := (enc_len x)
    have h4 := (enc_len (x :: l).length).1
    simp only [decide_eq_true hp, cond_true]
    have hx : List.getD (x :: l) 0 0 = x := rfl
    rw [hx]
    have hlen : (enc (x :: l).length).length + (enc x).length ≤ 140737488355328 := by omega
    rw [cond_t (by
      simp only [Nat.mul_one, Bool.and_eq_true, Bool.or_eq_true]
      refine ⟨.inr ?_, Nat.ble_eq_true_of_le hlen⟩
      have := h3.1
      exact Nat.ble_eq_true_of_le this)]
    simp only [Nat.beq_refl, cond_true]
    have := putInts_L0 b (x :: l) hb l.length 1 (by simp; omega)
    have e1 : encL ((x :: l).take 1) = enc x := by simp [encL]
    rw [e1] at this
    exact this
end Go.Proofs.YtlkggeaibgaohaaGreatDoor.Sim
end
