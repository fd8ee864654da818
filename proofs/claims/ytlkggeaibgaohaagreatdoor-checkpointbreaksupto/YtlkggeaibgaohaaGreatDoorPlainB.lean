/- What is saved: the bytes of a world, and their sum behind them. -/
import Derived.Test.YtlkggeaibgaohaaGreatDoorPlainA
import Derived.Test.YtlkggeaibgaohaaGreatDoorSimTB
import Derived.Test.YtlkggeaibgaohaaGreatDoorSimTA
section
namespace Go.Proofs.YtlkggeaibgaohaaGreatDoor.Sim
open Go
universe u

/-- Up to how many bytes are written. -/
def Lim : Nat := 1099511627776

/-- A loop over a list that writes something for each element. -/
theorem loop_write {α R : Type} (xs : List α) (f : List Int × Int × Unit → Option ((List Int × Int × Unit) ⊕ R)) (g : α → List Int) (rest : List Int → Option R)
    (hstep : ∀ (b : List Int) (i : Nat) (h : i < xs.length), b.length + (g xs[i]).length ≤ Lim → f (b, (i : Int), ()) = some (.inl (b ++ g xs[i], ((i + 1 : Nat) : Int), ())))
    (hend : ∀ b : List Int, f (b, (xs.length : Int), ()) = Option.map Sum.inr (rest b)) :
    ∀ (m i : Nat) (b : List Int), xs.length = i + m → b.length + ((xs.drop i).flatMap g).length ≤ Lim → loopW f (b, (i : Int), ()) = rest (b ++ (xs.drop i).flatMap g)
  | 0, i, b, h, _ => by
    have hi : xs.length = i := by omega
    rw [List.drop_eq_nil_of_le (by omega), List.flatMap_nil, List.append_nil]
    rw [loopW_unfold, ← hi, hend b]
    cases rest b <;> rfl
  | m + 1, i, b, h, hb => by
    have hi : i < xs.length := by omega
    rw [List.drop_eq_getElem_cons hi, List.flatMap_cons] at hb ⊢
    rw [List.length_append] at hb
    rw [loopW_inl (hstep b i hi (by omega)), loop_write xs f g rest hstep hend m (i + 1) _ (by omega) (by rw [List.length_append]; omega), List.append_assoc]
theorem loop_write0 {α R : Type} {xs : List α} {f : List Int × Int × Unit → Option ((List Int × Int × Unit) ⊕ R)} {g : α → List Int} {rest : List Int → Option R} {b : List Int}
    (hb : b.length + (xs.flatMap g).length ≤ Lim)
    (hstep : ∀ (b : List Int) (i : Nat) (h : i < xs.length), b.length + (g xs[i]).length ≤ Lim → f (b, (i : Int), ()) = some (.inl (b ++ g xs[i], ((i + 1 : Nat) : Int), ())))
    (hend : ∀ b : List Int, f (b, (xs.length : Int), ()) = Option.map Sum.inr (rest b)) : loopW f (b, (0 : Int), ()) = rest (b ++ xs.flatMap g) :=
  loop_write xs f g rest hstep hend xs.length 0 b (by omega) hb

theorem wrap_succ {i n : Nat} (h : i < n) (hn : n ≤ 4611686018427387904) : IntKind.wrap .i64 ((i : Int) + 1) = ((i + 1 : Nat) : Int) := by
  rw [wrap_i64 (by omega) (by omega)]; rfl

theorem encL_nil : encL [] = [] := rfl
theorem encL_cons (x : Int) (l : List Int) : encL (x :: l) = enc x ++ encL l := by simp [encL]
theorem encL_length_ge (l : List Int) : l.length ≤ (encL l).length := by
  induction l with
  | nil => exact Nat.le_refl _
  | cons x l ih =>
    rw [encL_cons, List.length_append, List.length_cons]
    have := (enc_len x).1
    omega

theorem writer_ints_eq (b l : List Int) (h : b.length + (encL l).length ≤ Lim) : R.checkpoint_writer_ints (b, l, ()) = some (b ++ encL l, ()) := by
  unfold R.checkpoint_writer_ints
  have hll := encL_length_ge l
  refine loop_write0 (xs := l) (g := enc) (rest := fun b => some (b, ())) h (fun b i hi hb => ?_) (fun b => ?_)
  · unfold R.checkpoint_writer_ints_L0
    have hlt : ((i : Int) < ((l.length : Nat) : Int)) := by omega
    have h0 : (0 : Int) ≤ (i : Int) := by omega
    unfold Lim at h hb
    simp only [decide_eq_true hlt, decide_eq_true h0, cond_true, Bool.and_true, Int.toNat_natCast, getD_at hi, Option.bind_some, wrap_succ hi (by omega)]
    rw [codec_PutInt_eq _ _ (by have := (enc_len l[i]).1; omega)]
    rfl
  · unfold R.checkpoint_writer_ints_L0
    have hn : ¬ (((l.length : Nat) : Int) < ((l.length : Nat) : Int)) := by omega
    simp only [decide_eq_false hn, cond_false]
    rfl
theorem writer_list_eq (b l : List Int) (h : b.length + (encInts l).length ≤ Lim) : R.checkpoint_writer_list (b, l, ()) = some (b ++ encInts l, ()) := by
  unfold R.checkpoint_writer_list
  have := encL_length_ge l
  have h2 := encInts_len l
  have h3 : (encInts l).length = (enc l.length).length + (encL l).length := by simp [encInts]
  unfold Lim at h
  simp only
  rw [codec_PutInts_eq _ _ (by omega)]
  rfl

def bitI (b : Bool) : Int := if b then 1 else 0
theorem bit_eq (b : Bool) : R.checkpoint_bit (b, ()) = some (bitI b, ()) := by cases b <;> rfl

/- The bytes of each part of a state -/

def encClaim (c : T.Claim.den) : List Int := encL [c.1, c.2.1, c.2.2.1, c.2.2.2.1, bitI c.2.2.2.2]
def encClaims (l : List T.Claim.den) : List Int := enc l.length ++ l.flatMap encClaim
def encEvent (e : T.Event.den) : List Int := encL [e.1, e.2.1, e.2.2.1, e.2.2.2.1, e.2.2.2.2.1, e.2.2.2.2.2.1, e.2.2.2.2.2.2.1, e.2.2.2.2.2.2.2.1] ++ encInts e.2.2.2.2.2.2.2.2
def encProc (p : T.Proc.den) : List Int := encL [p.1, p.2.1, p.2.2.1] ++ (encInts p.2.2.2.1 ++ encL [p.2.2.2.2.1, p.2.2.2.2.2.1, p.2.2.2.2.2.2])
def encResource (r : T.Resource.den) : List Int := encL [r.1, bitI r.2.1] ++ (encClaims r.2.2.1 ++ (encClaims r.2.2.2.1 ++ encL [r.2.2.2.2]))
def encReady (y : T.Ready.den) : List Int := encL [y.1, y.2]
def encStore (v : T.Store.den) : List Int := encL [v.1, v.2.1] ++ (encInts v.2.2.1 ++ (encL [(v.2.2.2.1.length : Int)] ++ (v.2.2.2.1.flatMap encReady ++ (encInts v.2.2.2.2.1 ++ encL [v.2.2.2.2.2.1, v.2.2.2.2.2.2]))))
def encRider (y : T.Rider.den) : List Int := encL [y.1, y.2.1, y.2.2]
def encBelt (b : T.Belt.den) : List Int := encL [b.1, b.2.1, (b.2.2.1.length : Int)] ++ (b.2.2.1.flatMap encRider ++ encL [b.2.2.2])
/-- The two halves of a stream's key. -/
def keyHigh (k : Int) : Int := IntKind.wrap IntKind.i64 (Int.fdiv k (4294967296 : Int))
def keyLow (k : Int) : Int := IntKind.wrap IntKind.i64 (IntKind.wrap IntKind.u64 (((BitVec.toNat (HAnd.hAnd (BitVec.ofInt 64 k) (BitVec.ofInt 64 (4294967295 : Int)))) : Nat) : Int))
def encStream (y : T.Stream.den) : List Int := encL [keyHigh y.1, keyLow y.1, y.2.1, bitI y.2.2]
def encTally (t : T.Tally.den) : List Int := encL [t.1, t.2.1, t.2.2.1, t.2.2.2.1, t.2.2.2.2]
def encLevel (l : T.Level.den) : List Int := encL [l.1, l.2.1, l.2.2.1, l.2.2.2.1, l.2.2.2.2.1, l.2.2.2.2.2]
/-- The parts of a state, from the last one on. -/
def tail10 (s : T.State.den) : List Int := encInts s.2.2.2.2.2.2.2.2.2.2.2.2.2.2.1 ++ (encInts s.2.2.2.2.2.2.2.2.2.2.2.2.2.2.2.1 ++ (encInts s.2.2.2.2.2.2.2.2.2.2.2.2.2.2.2.2.1 ++ encL [s.2.2.2.2.2.2.2.2.2.2.2.2.2.2.2.2.2]))
def tail9 (s : T.State.den) : List Int := encL [((List.length s.2.2.2.2.2.2.2.2.2.2.2.2.2.1 : Nat) : Int)] ++ (List.flatMap encLevel s.2.2.2.2.2.2.2.2.2.2.2.2.2.1 ++ tail10 s)
def tail8 (s : T.State.den) : List Int := encL [((List.length s.2.2.2.2.2.2.2.2.2.2.2.2.1 : Nat) : Int)] ++ (List.flatMap encTally s.2.2.2.2.2.2.2.2.2.2.2.2.1 ++ tail9 s)
def tail7 (s : T.State.den) : List Int := encL [((List.length s.2.2.2.2.2.2.2.2.2.2.2.1 : Nat) : Int)] ++ (List.flatMap encStream s.2.2.2.2.2.2.2.2.2.2.2.1 ++ tail8 s)
def tail6 (s : T.State.den) : List Int := encL [((List.length s.2.2.2.2.2.2.2.2.2.2.1 : Nat) : Int)] ++ (List.flatMap encInts s.2.2.2.2.2.2.2.2.2.2.1 ++ tail7 s)
def tail5 (s : T.State.den) : List Int := encL [((List.length s.2.2.2.2.2.2.2.2.2.1 : Nat) : Int)] ++ (List.flatMap encBelt s.2.2.2.2.2.2.2.2.2.1 ++ tail6 s)
def tail4 (s : T.State.den) : List Int := encL [((List.length s.2.2.2.2.2.2.2.2.1 : Nat) : Int)] ++ (List.flatMap encStore s.2.2.2.2.2.2.2.2.1 ++ tail5 s)
def tail3 (s : T.State.den) : List Int := encL [((List.length s.2.2.2.2.2.2.2.1 : Nat) : Int)] ++ (List.flatMap encResource s.2.2.2.2.2.2.2.1 ++ tail4 s)
def tail2 (s : T.State.den) : List Int := encL [s.2.2.2.2.2.1] ++ (encInts s.2.2.2.2.2.2.1 ++ tail3 s)
def tail1 (s : T.State.den) : List Int := encL [((List.length s.2.2.2.2.1 : Nat) : Int)] ++ (List.flatMap encProc s.2.2.2.2.1 ++ tail2 s)
def encState (s : T.State.den) : List Int := encL [s.1, s.2.1, s.2.2.1, ((List.length s.2.2.2.1 : Nat) : Int)] ++ (List.flatMap encEvent s.2.2.2.1 ++ tail1 s)
def encWorld (w : T.World.den) : List Int := encL [(List.length w : Int)] ++ List.flatMap encState w

theorem flatMap_len_ge {α : Type} {g : α → List Int} (hg : ∀ x, 1 ≤ (g x).length) : ∀ l : List α, l.length ≤ (l.flatMap g).length
  | [] => Nat.le_refl _
  | x :: l => by
    rw [List.flatMap_cons, List.length_append, List.length_cons]
    have := hg x
    have := flatMap_len_ge hg l
    omega
theorem encL1 {x : Int} {l : List Int} : 1 ≤ (encL (x :: l)).length := by
  rw [encL_cons, List.length_append]; have := (enc_len x).1; omega
theorem encInts1 (l : List Int) : 1 ≤ (encInts l).length := by
  unfold encInts; rw [List.length_append]; have := (enc_len l.length).1; omega
theorem app1 {a b : List Int} (h : 1 ≤ a.length) : 1 ≤ (a ++ b).length := by rw [List.length_append]; omega
/-- A loop over a list, up to its end. -/
theorem loop_write1 {α R : Type} (xs : List α) (f : List Int × Int × Unit → Option ((List Int × Int × Unit) ⊕ R)) (g : α → List Int) (b : List Int) (hb : b.length + (xs.flatMap g).length ≤ Lim) (hg : ∀ x, 1 ≤ (g x).length)
    (hstep : ∀ (b : List Int) (i : Nat) (h : i < xs.length), xs.length ≤ Lim → b.length + (g xs[i]).length ≤ Lim → f (b, (i : Int), ()) = some (.inl (b ++ g xs[i], ((i + 1 : Nat) : Int), ()))) :
    loopW f (b, (0 : Int), ()) = loopW f (b ++ xs.flatMap g, ((List.length xs : Nat) : Int), ()) := by
  have hl : xs.length ≤ Lim := by have := flatMap_len_ge hg xs; omega
  have key : ∀ (m i : Nat) (b : List Int), xs.length = i + m → b.length + ((xs.drop i).flatMap g).length ≤ Lim → loopW f (b, (i : Int), ()) = loopW f (b ++ (xs.drop i).flatMap g, ((List.length xs : Nat) : Int), ()) := by
    intro m
    induction m with
    | zero =>
      intro i b h _
      have hi : xs.length = i := by omega
      rw [List.drop_eq_nil_of_le (by omega), List.flatMap_nil, List.append_nil, hi]
    | succ m ih =>
      intro i b h hb
      have hi : i < xs.length := by omega
      rw [List.drop_eq_getElem_cons hi, List.flatMap_cons] at hb ⊢
      rw [List.length_append] at hb
      rw [loopW_inl (hstep b i hi hl (by omega)), ih (i + 1) _ (by omega) (by rw [List.length_append]; omega), List.append_assoc]
  exact key xs.length 0 b (by omega) hb
theorem lt_at {i n : Nat} (h : i < n) : decide ((i : Int) < (n : Int)) = true := decide_eq_true (by omega)
theorem le_at (i : Nat) : decide ((0 : Int) ≤ (i : Int)) = true := decide_eq_true (by omega)
theorem lt_self (n : Nat) : decide ((n : Int) < (n : Int)) = false := decide_eq_false (by omega)
theorem lim_succ {i n : Nat} (h : i < n) (hn : n ≤ Lim) : IntKind.wrap .i64 ((i : Int) + 1) = ((i + 1 : Nat) : Int) := wrap_succ h (by unfold Lim at hn; omega)

theorem writer_claims_eq (b : List Int) (l : List T.Claim.den) (h : b.length + (encClaims l).length ≤ Lim) : R.checkpoint_writer_claims (b, l, ()) = some (b ++ encClaims l, ()) := by
  unfold R.checkpoint_writer_claims
  have e1 : encL [((List.length l : Nat) : Int)] = enc l.length := by simp [encL]
  have h3 : (encClaims l).length = (enc l.length).length + (l.flatMap encClaim).length := by simp [encClaims]
  simp only
  rw [writer_ints_eq _ _ (by rw [e1]; omega), e1]
  simp only [Option.bind_some]
  rw [loop_write1 l (R.checkpoint_writer_claims_L0 (b, l, ())) encClaim (b ++ enc l.length) (by rw [List.length_append]; omega) (fun _ => encL1) (fun b' i hi hl hb => ?_), loopW_unfold]
  · unfold R.checkpoint_writer_claims_L0
    simp only [lt_self, cond_false, encClaims, List.append_assoc]
  · unfold R.checkpoint_writer_claims_L0
    simp only [lt_at hi, le_at, cond_true, Bool.and_true, Int.toNat_natCast, getD_at hi, Option.bind_some, lim_succ hi hl, bit_eq]
    rw [writer_ints_eq _ _ (by unfold encClaim at hb; exact hb)]
    rfl
theorem state_L10 (b0 : List Int) (s : T.State.den) (b : List Int) (h : b.length + ((List.flatMap encLevel s.2.2.2.2.2.2.2.2.2.2.2.2.2.1).length + (tail10 s).length) ≤ Lim) :
    loopW (R.checkpoint_writer_state_L10 (b0, s, ())) (b, (0 : Int), ()) = some (b ++ (List.flatMap encLevel s.2.2.2.2.2.2.2.2.2.2.2.2.2.1 ++ tail10 s), ()) := by
  rw [loop_write1 s.2.2.2.2.2.2.2.2.2.2.2.2.2.1 (R.checkpoint_writer_state_L10 (b0, s, ())) encLevel b (by omega) (fun _ => encL1) (fun b' i hi hl hb => ?_), loopW_unfold]
  · unfold R.checkpoint_writer_state_L10
    simp only [lt_self, cond_false]
    unfold tail10 at h
    try simp only [List.length_append] at h
    rw [writer_list_eq _ _ (by first | omega | (simp only [List.length_append]; omega))]
    simp only [Option.bind_some]
    rw [writer_list_eq _ _ (by first | omega | (simp only [List.length_append]; omega))]
    simp only [Option.bind_some]
    rw [writer_list_eq _ _ (by first | omega | (simp only [List.length_append]; omega))]
    simp only [Option.bind_some]
    rw [writer_ints_eq _ _ (by first | omega | (simp only [List.length_append]; omega))]
    simp only [Option.bind_some]
    simp only [tail10, List.append_assoc, Option.map_some]
  · unfold R.checkpoint_writer_state_L10
    simp only [lt_at hi, le_at, cond_true, Bool.and_true, Int.toNat_natCast, getD_at hi, Option.bind_some, lim_succ hi hl, bit_eq]
    unfold encLevel at hb
    try simp only [List.length_append] at hb
    rw [writer_ints_eq _ _ (by first | omega | (simp only [List.length_append]; omega))]
    simp only [Option.bind_some]
    rfl
theorem state_L9 (b0 : List Int) (s : T.State.den) (b : List Int) (h : b.length + ((List.flatMap encTally s.2.2.2.2.2.2.2.2.2.2.2.2.1).length + (tail9 s).length) ≤ Lim) :
    loopW (R.checkpoint_writer_state_L9 (b0, s, ())) (b, (0 : Int), ()) = some (b ++ (List.flatMap encTally s.2.2.2.2.2.2.2.2.2.2.2.2.1 ++ tail9 s), ()) := by
  rw [loop_write1 s.2.2.2.2.2.2.2.2.2.2.2.2.1 (R.checkpoint_writer_state_L9 (b0, s, ())) encTally b (by omega) (fun _ => encL1) (fun b' i hi hl hb => ?_), loopW_unfold]
  · unfold R.checkpoint_writer_state_L9
    simp only [lt_self, cond_false]
    unfold tail9 at h
    try simp only [List.length_append] at h
    rw [writer_ints_eq _ _ (by first | omega | (simp only [List.length_append]; omega))]
    simp only [Option.bind_some]
    rw [state_L10 _ _ _ (by first | omega | (simp only [List.length_append]; omega))]
    simp only [tail9, List.append_assoc, Option.map_some]
  · unfold R.checkpoint_writer_state_L9
    simp only [lt_at hi, le_at, cond_true, Bool.and_true, Int.toNat_natCast, getD_at hi, Option.bind_some, lim_succ hi hl, bit_eq]
    unfold encTally at hb
    try simp only [List.length_append] at hb
    rw [writer_ints_eq _ _ (by first | omega | (simp only [List.length_append]; omega))]
    simp only [Option.bind_some]
    rfl
theorem state_L8 (b0 : List Int) (s : T.State.den) (b : List Int) (h : b.length + ((List.flatMap encStream s.2.2.2.2.2.2.2.2.2.2.2.1).length + (tail8 s).length) ≤ Lim) :
    loopW (R.checkpoint_writer_state_L8 (b0, s, ())) (b, (0 : Int), ()) = some (b ++ (List.flatMap encStream s.2.2.2.2.2.2.2.2.2.2.2.1 ++ tail8 s), ()) := by
  rw [loop_write1 s.2.2.2.2.2.2.2.2.2.2.2.1 (R.checkpoint_writer_state_L8 (b0, s, ())) encStream b (by omega) (fun _ => encL1) (fun b' i hi hl hb => ?_), loopW_unfold]
  · unfold R.checkpoint_writer_state_L8
    simp only [lt_self, cond_false]
    unfold tail8 at h
    try simp only [List.length_append] at h
    rw [writer_ints_eq _ _ (by first | omega | (simp only [List.length_append]; omega))]
    simp only [Option.bind_some]
    rw [state_L9 _ _ _ (by first | omega | (simp only [List.length_append]; omega))]
    simp only [tail8, List.append_assoc, Option.map_some]
  · unfold R.checkpoint_writer_state_L8
    simp only [lt_at hi, le_at, cond_true, Bool.and_true, Int.toNat_natCast, getD_at hi, Option.bind_some, lim_succ hi hl, bit_eq]
    unfold encStream keyHigh keyLow at hb
    rw [writer_ints_eq _ _ hb]
    rfl
theorem state_L7 (b0 : List Int) (s : T.State.den) (b : List Int) (h : b.length + ((List.flatMap encInts s.2.2.2.2.2.2.2.2.2.2.1).length + (tail7 s).length) ≤ Lim) :
    loopW (R.checkpoint_writer_state_L7 (b0, s, ())) (b, (0 : Int), ()) = some (b ++ (List.flatMap encInts s.2.2.2.2.2.2.2.2.2.2.1 ++ tail7 s), ()) := by
  rw [loop_write1 s.2.2.2.2.2.2.2.2.2.2.1 (R.checkpoint_writer_state_L7 (b0, s, ())) encInts b (by omega) (fun _ => encInts1 _) (fun b' i hi hl hb => ?_), loopW_unfold]
  · unfold R.checkpoint_writer_state_L7
    simp only [lt_self, cond_false]
    unfold tail7 at h
    try simp only [List.length_append] at h
    rw [writer_ints_eq _ _ (by first | omega | (simp only [List.length_append]; omega))]
    simp only [Option.bind_some]
    rw [state_L8 _ _ _ (by first | omega | (simp only [List.length_append]; omega))]
    simp only [tail7, List.append_assoc, Option.map_some]
  · unfold R.checkpoint_writer_state_L7
    simp only [lt_at hi, le_at, cond_true, Bool.and_true, Int.toNat_natCast, getD_at hi, Option.bind_some, lim_succ hi hl, bit_eq]
    rw [writer_list_eq _ _ hb]
    rfl
theorem state_L6 (b0 : List Int) (s : T.State.den) (v33 : List Int × Int × Unit) (i : Nat) (hi : i < List.length s.2.2.2.2.2.2.2.2.2.1) (hv : v33.2.1 = (i : Int)) (hl : List.length s.2.2.2.2.2.2.2.2.2.1 ≤ Lim) (b : List Int) (h : b.length + ((List.flatMap encRider (s.2.2.2.2.2.2.2.2.2.1[i]'hi).2.2.1).length + (encL [(s.2.2.2.2.2.2.2.2.2.1[i]'hi).2.2.2]).length) ≤ Lim) :
    loopW (R.checkpoint_writer_state_L6 (b0, s, ()) v33) (b, (0 : Int), ()) = some (.inl (b ++ (List.flatMap encRider (s.2.2.2.2.2.2.2.2.2.1[i]'hi).2.2.1 ++ encL [(s.2.2.2.2.2.2.2.2.2.1[i]'hi).2.2.2]), ((i + 1 : Nat) : Int), ())) := by
  rw [loop_write1 (s.2.2.2.2.2.2.2.2.2.1[i]'hi).2.2.1 (R.checkpoint_writer_state_L6 (b0, s, ()) v33) encRider b (by omega) (fun _ => encL1) (fun b' j hj hl hb => ?_), loopW_unfold]
  · unfold R.checkpoint_writer_state_L6
    simp only [hv, Int.toNat_natCast, getD_at hi, lt_self, cond_false]
    rw [writer_ints_eq _ _ (by first | omega | (simp only [List.length_append]; omega))]
    simp only [Option.bind_some, Option.map_some, lim_succ hi hl, List.append_assoc]
  · unfold R.checkpoint_writer_state_L6
    simp only [hv, Int.toNat_natCast, getD_at hi, lt_at hj, le_at, cond_true, Bool.and_true, getD_at hj, Option.bind_some, lim_succ hj hl]
    unfold encRider at hb
    rw [writer_ints_eq _ _ hb]
    rfl
theorem state_L5 (b0 : List Int) (s : T.State.den) (b : List Int) (h : b.length + ((List.flatMap encBelt s.2.2.2.2.2.2.2.2.2.1).length + (tail6 s).length) ≤ Lim) :
    loopW (R.checkpoint_writer_state_L5 (b0, s, ())) (b, (0 : Int), ()) = some (b ++ (List.flatMap encBelt s.2.2.2.2.2.2.2.2.2.1 ++ tail6 s), ()) := by
  rw [loop_write1 s.2.2.2.2.2.2.2.2.2.1 (R.checkpoint_writer_state_L5 (b0, s, ())) encBelt b (by omega) (fun _ => app1 encL1) (fun b' i hi hl hb => ?_), loopW_unfold]
  · unfold R.checkpoint_writer_state_L5
    simp only [lt_self, cond_false]
    unfold tail6 at h
    try simp only [List.length_append] at h
    rw [writer_ints_eq _ _ (by first | omega | (simp only [List.length_append]; omega))]
    simp only [Option.bind_some]
    rw [state_L7 _ _ _ (by first | omega | (simp only [List.length_append]; omega))]
    simp only [tail6, List.append_assoc, Option.map_some]
  · unfold R.checkpoint_writer_state_L5
    simp only [lt_at hi, le_at, cond_true, Bool.and_true, Int.toNat_natCast, getD_at hi, Option.bind_some, lim_succ hi hl, bit_eq]
    unfold encBelt at hb
    try simp only [List.length_append] at hb
    rw [writer_ints_eq _ _ (by first | omega | (simp only [List.length_append]; omega))]
    simp only [Option.bind_some]
    rw [state_L6 b0 s _ i hi rfl hl _ (by first | omega | (simp only [List.length_append]; omega))]
    simp only [encBelt, List.append_assoc]
theorem state_L4 (b0 : List Int) (s : T.State.den) (v22 : List Int × Int × Unit) (i : Nat) (hi : i < List.length s.2.2.2.2.2.2.2.2.1) (hv : v22.2.1 = (i : Int)) (hl : List.length s.2.2.2.2.2.2.2.2.1 ≤ Lim) (b : List Int) (h : b.length + ((List.flatMap encReady (s.2.2.2.2.2.2.2.2.1[i]'hi).2.2.2.1).length + ((encInts (s.2.2.2.2.2.2.2.2.1[i]'hi).2.2.2.2.1).length + (encL [(s.2.2.2.2.2.2.2.2.1[i]'hi).2.2.2.2.2.1, (s.2.2.2.2.2.2.2.2.1[i]'hi).2.2.2.2.2.2]).length)) ≤ Lim) :
    loopW (R.checkpoint_writer_state_L4 (b0, s, ()) v22) (b, (0 : Int), ()) = some (.inl (b ++ (List.flatMap encReady (s.2.2.2.2.2.2.2.2.1[i]'hi).2.2.2.1 ++ (encInts (s.2.2.2.2.2.2.2.2.1[i]'hi).2.2.2.2.1 ++ encL [(s.2.2.2.2.2.2.2.2.1[i]'hi).2.2.2.2.2.1, (s.2.2.2.2.2.2.2.2.1[i]'hi).2.2.2.2.2.2])), ((i + 1 : Nat) : Int), ())) := by
  rw [loop_write1 (s.2.2.2.2.2.2.2.2.1[i]'hi).2.2.2.1 (R.checkpoint_writer_state_L4 (b0, s, ()) v22) encReady b (by omega) (fun _ => encL1) (fun b' j hj hl hb => ?_), loopW_unfold]
  · unfold R.checkpoint_writer_state_L4
    simp only [hv, Int.toNat_natCast, getD_at hi, lt_self, cond_false]
    rw [writer_list_eq _ _ (by first | omega | (simp only [List.length_append]; omega))]
    simp only [Option.bind_some]
    rw [writer_ints_eq _ _ (by first | omega | (simp only [List.length_append]; omega))]
    simp only [Option.bind_some, Option.map_some, lim_succ hi hl, List.append_assoc]
  · unfold R.checkpoint_writer_state_L4
    simp only [hv, Int.toNat_natCast, getD_at hi, lt_at hj, le_at, cond_true, Bool.and_true, getD_at hj, Option.bind_some, lim_succ hj hl]
    unfold encReady at hb
    rw [writer_ints_eq _ _ hb]
    rfl

theorem state_L3 (b0 : List Int) (s : T.State.den) (b : List Int) (h : b.length + ((List.flatMap encStore s.2.2.2.2.2.2.2.2.1).length + (tail5 s).length) ≤ Lim) :
    loopW (R.checkpoint_writer_state_L3 (b0, s, ())) (b, (0 : Int), ()) = some (b ++ (List.flatMap encStore s.2.2.2.2.2.2.2.2.1 ++ tail5 s), ()) := by
  rw [loop_write1 s.2.2.2.2.2.2.2.2.1 (R.checkpoint_writer_state_L3 (b0, s, ())) encStore b (by omega) (fun _ => app1 encL1) (fun b' i hi hl hb => ?_), loopW_unfold]
  · unfold R.checkpoint_writer_state_L3
    simp only [lt_self, cond_false]
    unfold tail5 at h
    simp only [List.length_append] at h
    rw [writer_ints_eq _ _ (by first | omega | (simp only [List.length_append]; omega))]
    simp only [Option.bind_some]
    rw [state_L5 _ _ _ (by first | omega | (simp only [List.length_append]; omega))]
    simp only [tail5, List.append_assoc, Option.map_some, Option.bind_some]
  · unfold R.checkpoint_writer_state_L3
    simp only [lt_at hi, le_at, cond_true, Bool.and_true, Int.toNat_natCast, getD_at hi, Option.bind_some, lim_succ hi hl, bit_eq]
    unfold encStore at hb
    try simp only [List.length_append] at hb
    rw [writer_ints_eq _ _ (by first | omega | (simp only [List.length_append]; omega))]
    try simp only [Option.bind_some]
    rw [writer_list_eq _ _ (by first | omega | (simp only [List.length_append]; omega))]
    try simp only [Option.bind_some]
    rw [writer_ints_eq _ _ (by first | omega | (simp only [List.length_append]; omega))]
    try simp only [Option.bind_some]
    rw [state_L4 b0 s _ i hi rfl hl _ (by first | omega | (simp only [List.length_append]; omega))]
    try simp only [Option.bind_some]
    simp only [encStore, List.append_assoc]
theorem state_L2 (b0 : List Int) (s : T.State.den) (b : List Int) (h : b.length + ((List.flatMap encResource s.2.2.2.2.2.2.2.1).length + (tail4 s).length) ≤ Lim) :
    loopW (R.checkpoint_writer_state_L2 (b0, s, ())) (b, (0 : Int), ()) = some (b ++ (List.flatMap encResource s.2.2.2.2.2.2.2.1 ++ tail4 s), ()) := by
  rw [loop_write1 s.2.2.2.2.2.2.2.1 (R.checkpoint_writer_state_L2 (b0, s, ())) encResource b (by omega) (fun _ => app1 encL1) (fun b' i hi hl hb => ?_), loopW_unfold]
  · unfold R.checkpoint_writer_state_L2
    simp only [lt_self, cond_false]
    unfold tail4 at h
    simp only [List.length_append] at h
    rw [writer_ints_eq _ _ (by first | omega | (simp only [List.length_append]; omega))]
    simp only [Option.bind_some]
    rw [state_L3 _ _ _ (by first | omega | (simp only [List.length_append]; omega))]
    simp only [tail4, List.append_assoc, Option.map_some, Option.bind_some]
  · unfold R.checkpoint_writer_state_L2
    simp only [lt_at hi, le_at, cond_true, Bool.and_true, Int.toNat_natCast, getD_at hi, Option.bind_some, lim_succ hi hl, bit_eq]
    unfold encResource at hb
    try simp only [List.length_append] at hb
    rw [writer_ints_eq _ _ (by first | omega | (simp only [List.length_append]; omega))]
    try simp only [Option.bind_some]
    rw [writer_claims_eq _ _ (by first | omega | (simp only [List.length_append]; omega))]
    try simp only [Option.bind_some]
    rw [writer_claims_eq _ _ (by first | omega | (simp only [List.length_append]; omega))]
    try simp only [Option.bind_some]
    rw [writer_ints_eq _ _ (by first | omega | (simp only [List.length_append]; omega))]
    try simp only [Option.bind_some]
    simp only [encResource, List.append_assoc]
theorem state_L1 (b0 : List Int) (s : T.State.den) (b : List Int) (h : b.length + ((List.flatMap encProc s.2.2.2.2.1).length + (tail2 s).length) ≤ Lim) :
    loopW (R.checkpoint_writer_state_L1 (b0, s, ())) (b, (0 : Int), ()) = some (b ++ (List.flatMap encProc s.2.2.2.2.1 ++ tail2 s), ()) := by
  rw [loop_write1 s.2.2.2.2.1 (R.checkpoint_writer_state_L1 (b0, s, ())) encProc b (by omega) (fun _ => app1 encL1) (fun b' i hi hl hb => ?_), loopW_unfold]
  · unfold R.checkpoint_writer_state_L1
    simp only [lt_self, cond_false]
    unfold tail2 at h
    unfold tail3 at h
    simp only [List.length_append] at h
    rw [writer_ints_eq _ _ (by first | omega | (simp only [List.length_append]; omega))]
    simp only [Option.bind_some]
    rw [writer_list_eq _ _ (by first | omega | (simp only [List.length_append]; omega))]
    simp only [Option.bind_some]
    rw [writer_ints_eq _ _ (by first | omega | (simp only [List.length_append]; omega))]
    simp only [Option.bind_some]
    rw [state_L2 _ _ _ (by first | omega | (simp only [List.length_append]; omega))]
    simp only [tail2, tail3, List.append_assoc, Option.map_some, Option.bind_some]
  · unfold R.checkpoint_writer_state_L1
    simp only [lt_at hi, le_at, cond_true, Bool.and_true, Int.toNat_natCast, getD_at hi, Option.bind_some, lim_succ hi hl, bit_eq]
    unfold encProc at hb
    try simp only [List.length_append] at hb
    rw [writer_ints_eq _ _ (by first | omega | (simp only [List.length_append]; omega))]
    try simp only [Option.bind_some]
    rw [writer_list_eq _ _ (by first | omega | (simp only [List.length_append]; omega))]
    try simp only [Option.bind_some]
    rw [writer_ints_eq _ _ (by first | omega | (simp only [List.length_append]; omega))]
    try simp only [Option.bind_some]
    simp only [encProc, List.append_assoc]
theorem state_L0 (b0 : List Int) (s : T.State.den) (b : List Int) (h : b.length + ((List.flatMap encEvent s.2.2.2.1).length + (tail1 s).length) ≤ Lim) :
    loopW (R.checkpoint_writer_state_L0 (b0, s, ())) (b, (0 : Int), ()) = some (b ++ (List.flatMap encEvent s.2.2.2.1 ++ tail1 s), ()) := by
  rw [loop_write1 s.2.2.2.1 (R.checkpoint_writer_state_L0 (b0, s, ())) encEvent b (by omega) (fun _ => app1 encL1) (fun b' i hi hl hb => ?_), loopW_unfold]
  · unfold R.checkpoint_writer_state_L0
    simp only [lt_self, cond_false]
    unfold tail1 at h
    simp only [List.length_append] at h
    rw [writer_ints_eq _ _ (by first | omega | (simp only [List.length_append]; omega))]
    simp only [Option.bind_some]
    rw [state_L1 _ _ _ (by first | omega | (simp only [List.length_append]; omega))]
    simp only [tail1, List.append_assoc, Option.map_some, Option.bind_some]
  · unfold R.checkpoint_writer_state_L0
    simp only [lt_at hi, le_at, cond_true, Bool.and_true, Int.toNat_natCast, getD_at hi, Option.bind_some, lim_succ hi hl, bit_eq]
    unfold encEvent at hb
    try simp only [List.length_append] at hb
    rw [writer_ints_eq _ _ (by first | omega | (simp only [List.length_append]; omega))]
    try simp only [Option.bind_some]
    rw [writer_list_eq _ _ (by first | omega | (simp only [List.length_append]; omega))]
    try simp only [Option.bind_some]
    simp only [encEvent, List.append_assoc]
theorem encState1 (s : T.State.den) : 1 ≤ (encState s).length := app1 encL1
theorem writer_state_eq (b : List Int) (s : T.State.den) (h : b.length + (encState s).length ≤ Lim) : R.checkpoint_writer_state (b, s, ()) = some (b ++ encState s, ()) := by
  unfold R.checkpoint_writer_state
  unfold encState at h
  simp only [List.length_append] at h
  simp only
  rw [writer_ints_eq _ _ (by first | omega | (simp only [List.length_append]; omega))]
  simp only [Option.bind_some]
  rw [state_L0 _ _ _ (by first | omega | (simp only [List.length_append]; omega))]
  simp only [encState, List.append_assoc]
theorem body_eq (w : T.World.den) (h : (encWorld w).length ≤ Lim) : R.checkpoint_body (w, ()) = some (encWorld w, ()) := by
  unfold R.checkpoint_body
  unfold encWorld at h
  rw [List.length_append] at h
  simp only
  rw [writer_ints_eq [] _ (by simp only [List.length_nil]; omega)]
  simp only [Option.bind_some]
  rw [loop_write1 w (R.checkpoint_body_L0 (w, ())) encState _ (by simp only [List.length_append, List.length_nil]; omega) encState1 (fun b' i hi hl hb => ?_), loopW_unfold]
  · unfold R.checkpoint_body_L0
    simp only [lt_self, cond_false, encWorld, List.append_assoc, List.nil_append]
  · unfold R.checkpoint_body_L0
    simp only [lt_at hi, le_at, cond_true, Bool.and_true, Int.toNat_natCast, getD_at hi, Option.bind_some, lim_succ hi hl]
    rw [writer_state_eq _ _ hb]
    rfl
end Go.Proofs.YtlkggeaibgaohaaGreatDoor.Sim
end

section
/- A saved world: its bytes, its size, the sum behind it; a changed byte is seen. -/
namespace Go.Proofs.YtlkggeaibgaohaaGreatDoor.Sim
open Go

theorem flatMap_len_le {α : Type} {g : α → List Int} {f : α → Nat} (h : ∀ x, (g x).length ≤ 10 * f x) : ∀ l : List α, (l.flatMap g).length ≤ 10 * (List.map f l).sum
  | [] => Nat.le_refl _
  | x :: l => by
    have h1 := h x
    have h2 := flatMap_len_le h l
    rw [List.flatMap_cons, List.length_append, List.map_cons, List.sum_cons]
    omega
theorem sum_one {α : Type} (l : List α) : (List.map (fun _ => 1) l).sum = l.length := by
  induction l with
  | nil => rfl
  | cons x l ih => simp only [List.map_cons, List.sum_cons, ih, List.length_cons]; omega
theorem bulk_ints (k : IntKind) (l : List Int) : (Ty.slice (.int k)).bulk l = l.length + 1 := by
  show (List.map (Ty.bulk (.int k)) l).sum + 1 = _
  have : Ty.bulk (.int k) = fun _ => 1 := by funext x; simp only [Ty.bulk]
  rw [this, sum_one]
theorem len_le (l : List Int) : (encL l).length ≤ 10 * l.length := encL_len l
theorem ints_le {k : IntKind} (l : List Int) : (encInts l).length ≤ 10 * (Ty.slice (.int k)).bulk l := by
  rw [bulk_ints]; have := encInts_len l; omega
theorem claim_le (c : T.Claim.den) : (encClaim c).length ≤ 10 * T.Claim.bulk c := by
  have := encL_len [c.1, c.2.1, c.2.2.1, c.2.2.2.1, bitI c.2.2.2.2]
  simp only [List.length_cons, List.length_nil] at this
  simp only [encClaim, Ty.bulk]; omega
theorem claims_le (l : List T.Claim.den) : (encClaims l).length ≤ 10 * (Ty.slice T.Claim).bulk l := by
  have h1 := (enc_len l.length).2
  have h2 := flatMap_len_le claim_le l
  have e : (Ty.slice T.Claim).bulk l = (List.map T.Claim.bulk l).sum + 1 := by rw [Ty.bulk]
  rw [e, encClaims, List.length_append]; omega
theorem event_le (e : T.Event.den) : (encEvent e).length ≤ 10 * T.Event.bulk e := by
  have h1 := encL_len [e.1, e.2.1, e.2.2.1, e.2.2.2.1, e.2.2.2.2.1, e.2.2.2.2.2.1, e.2.2.2.2.2.2.1, e.2.2.2.2.2.2.2.1]
  have h2 := ints_le (k := .i64) e.2.2.2.2.2.2.2.2
  simp only [List.length_cons, List.length_nil] at h1
  simp only [encEvent, List.length_append]
  show _ ≤ 10 * (1 + (1 + (1 + (1 + (1 + (1 + (1 + (1 + (Ty.slice (.int .i64)).bulk e.2.2.2.2.2.2.2.2))))))) + 1)
  omega
theorem proc_le (p : T.Proc.den) : (encProc p).length ≤ 10 * T.Proc.bulk p := by
  have h1 := encL_len [p.1, p.2.1, p.2.2.1]
  have h2 := ints_le (k := .i64) p.2.2.2.1
  have h3 := encL_len [p.2.2.2.2.1, p.2.2.2.2.2.1, p.2.2.2.2.2.2]
  simp only [List.length_cons, List.length_nil] at h1 h3
  simp only [encProc, List.length_append]
  show _ ≤ 10 * (1 + (1 + (1 + ((Ty.slice (.int .i64)).bulk p.2.2.2.1 + (1 + (1 + 1))))) + 1)
  omega
theorem resource_le (r : T.Resource.den) : (encResource r).length ≤ 10 * T.Resource.bulk r := by
  have h1 := encL_len [r.1, bitI r.2.1]
  have h2 := claims_le r.2.2.1
  have h3 := claims_le r.2.2.2.1
  have h4 := encL_len [r.2.2.2.2]
  rw [Ty.bulk] at h2 h3
  simp only [List.length_cons, List.length_nil] at h1 h4
  simp only [encResource, List.length_append]
  show _ ≤ 10 * (1 + (1 + ((List.map T.Claim.bulk r.2.2.1).sum + 1 + ((List.map T.Claim.bulk r.2.2.2.1).sum + 1 + 1))) + 1)
  omega
theorem ready_le (y : T.Ready.den) : (encReady y).length ≤ 10 * T.Ready.bulk y := by
  have h1 := encL_len [y.1, y.2]
  simp only [List.length_cons, List.length_nil] at h1
  simp only [encReady, Ty.bulk]; omega
theorem rider_le (y : T.Rider.den) : (encRider y).length ≤ 10 * T.Rider.bulk y := by
  have h1 := encL_len [y.1, y.2.1, y.2.2]
  simp only [List.length_cons, List.length_nil] at h1
  simp only [encRider, Ty.bulk]; omega
theorem stream_le (y : T.Stream.den) : (encStream y).length ≤ 10 * T.Stream.bulk y := by
  have h1 := encL_len [keyHigh y.1, keyLow y.1, y.2.1, bitI y.2.2]
  simp only [List.length_cons, List.length_nil] at h1
  simp only [encStream, Ty.bulk]; omega
theorem tally_le (t : T.Tally.den) : (encTally t).length ≤ 10 * T.Tally.bulk t := by
  have h1 := encL_len [t.1, t.2.1, t.2.2.1, t.2.2.2.1, t.2.2.2.2]
  simp only [List.length_cons, List.length_nil] at h1
  simp only [encTally, Ty.bulk]; omega
theorem level_le (l : T.Level.den) : (encLevel l).length ≤ 10 * T.Level.bulk l := by
  have h1 := encL_len [l.1, l.2.1, l.2.2.1, l.2.2.2.1, l.2.2.2.2.1, l.2.2.2.2.2]
  simp only [List.length_cons, List.length_nil] at h1
  simp only [encLevel, Ty.bulk]; omega
theorem store_le (v : T.Store.den) : (encStore v).length ≤ 10 * T.Store.bulk v := by
  have h1 := encL_len [v.1, v.2.1]
  have h2 := encInts_len v.2.2.1
  have h3 := encL_len [(v.2.2.2.1.length : Int)]
  have h4 := flatMap_len_le ready_le v.2.2.2.1
  have h5 := encInts_len v.2.2.2.2.1
  have h6 := encL_len [v.2.2.2.2.2.1, v.2.2.2.2.2.2]
  have b1 := bulk_ints .i64 v.2.2.1
  have b2 := bulk_ints .i64 v.2.2.2.2.1
  simp only [List.length_cons, List.length_nil] at h1 h3 h6
  simp only [encStore, List.length_append]
  show _ ≤ 10 * (1 + (1 + ((Ty.slice (.int .i64)).bulk v.2.2.1 + ((List.map T.Ready.bulk v.2.2.2.1).sum + 1 + ((Ty.slice (.int .i64)).bulk v.2.2.2.2.1 + (1 + 1))))) + 1)
  omega
theorem belt_le (b : T.Belt.den) : (encBelt b).length ≤ 10 * T.Belt.bulk b := by
  have h1 := encL_len [b.1, b.2.1, (b.2.2.1.length : Int)]
  have h2 := flatMap_len_le rider_le b.2.2.1
  have h3 := encL_len [b.2.2.2]
  simp only [List.length_cons, List.length_nil] at h1 h3
  simp only [encBelt, List.length_append]
  show _ ≤ 10 * (1 + (1 + ((List.map T.Rider.bulk b.2.2.1).sum + 1 + 1)) + 1)
  omega
theorem queue_le (l : List Int) : (encInts l).length ≤ 10 * (Ty.slice (.int .i64)).bulk l := ints_le l
theorem bulk_pair (a b : Ty) (x : a.den × b.den) : (Ty.pair a b).bulk x = a.bulk x.1 + b.bulk x.2 := by rw [Ty.bulk]
theorem bulk_struct (b : Ty) (x : b.den) : (Ty.struct b).bulk x = b.bulk x + 1 := by rw [Ty.bulk]
theorem bulk_int (k : IntKind) (x : Int) : (Ty.int k).bulk x = 1 := by rw [Ty.bulk]
theorem bulk_slice (e : Ty) (l : List e.den) : (Ty.slice e).bulk l = (List.map e.bulk l).sum + 1 := by rw [Ty.bulk]
theorem flat_le (e : Ty) {g : e.den → List Int} (h : ∀ x, (g x).length ≤ 10 * e.bulk x) (l : List e.den) : (l.flatMap g).length + 10 ≤ 10 * (Ty.slice e).bulk l := by
  have := flatMap_len_le h l
  rw [bulk_slice]; omega
theorem encL_one (x : Int) : (encL [x]).length ≤ 10 := encL_len [x]
theorem add10 {x r b c : Nat} (h1 : x ≤ 10 * b) (h3 : r ≤ 10 * c) : x + r ≤ 10 * (b + c) := by omega
theorem add11 {l x r b c : Nat} (h1 : l ≤ 10) (h2 : x + 10 ≤ 10 * b) (h3 : r ≤ 10 * c) : l + (x + r) ≤ 10 * (b + c) := by omega
theorem add12 {l x r b c : Nat} (h1 : l ≤ 40) (h2 : x + 10 ≤ 10 * b) (h3 : r ≤ 10 * c) : l + (x + r) ≤ 10 * (1 + (1 + (1 + (b + c))) + 1) := by omega
theorem state_le (s : T.State.den) : (encState s).length ≤ 10 * T.State.bulk s := by
  have e0 : (encL [s.1, s.2.1, s.2.2.1, ((List.length s.2.2.2.1 : Nat) : Int)]).length ≤ 40 := encL_len _
  simp only [encState, tail1, tail2, tail3, tail4, tail5, tail6, tail7, tail8, tail9, tail10, List.length_append]
  unfold T.State
  simp only [bulk_struct, bulk_pair, bulk_int]
  exact add12 e0 (flat_le T.Event event_le s.2.2.2.1) (add11 (encL_one ((List.length s.2.2.2.2.1 : Nat) : Int)) (flat_le T.Proc proc_le s.2.2.2.2.1) (add10 (b := 1) (encL_one s.2.2.2.2.2.1) (add10 (ints_le (k := .i64) s.2.2.2.2.2.2.1) (add11 (encL_one ((List.length s.2.2.2.2.2.2.2.1 : Nat) : Int)) (flat_le T.Resource resource_le s.2.2.2.2.2.2.2.1) (add11 (encL_one ((List.length s.2.2.2.2.2.2.2.2.1 : Nat) : Int)) (flat_le T.Store store_le s.2.2.2.2.2.2.2.2.1) (add11 (encL_one ((List.length s.2.2.2.2.2.2.2.2.2.1 : Nat) : Int)) (flat_le T.Belt belt_le s.2.2.2.2.2.2.2.2.2.1) (add11 (encL_one ((List.length s.2.2.2.2.2.2.2.2.2.2.1 : Nat) : Int)) (flat_le (.slice (.int .i64)) queue_le s.2.2.2.2.2.2.2.2.2.2.1) (add11 (encL_one ((List.length s.2.2.2.2.2.2.2.2.2.2.2.1 : Nat) : Int)) (flat_le T.Stream stream_le s.2.2.2.2.2.2.2.2.2.2.2.1) (add11 (encL_one ((List.length s.2.2.2.2.2.2.2.2.2.2.2.2.1 : Nat) : Int)) (flat_le T.Tally tally_le s.2.2.2.2.2.2.2.2.2.2.2.2.1) (add11 (encL_one ((List.length s.2.2.2.2.2.2.2.2.2.2.2.2.2.1 : Nat) : Int)) (flat_le T.Level level_le s.2.2.2.2.2.2.2.2.2.2.2.2.2.1) (add10 (ints_le (k := .i64) s.2.2.2.2.2.2.2.2.2.2.2.2.2.2.1) (add10 (ints_le (k := .i64) s.2.2.2.2.2.2.2.2.2.2.2.2.2.2.2.1) (add10 (ints_le (k := .i64) s.2.2.2.2.2.2.2.2.2.2.2.2.2.2.2.2.1) (encL_one s.2.2.2.2.2.2.2.2.2.2.2.2.2.2.2.2.2))))))))))))))
theorem world_le (w : T.World.den) : (encWorld w).length ≤ 10 * T.World.bulk w := by
  have e0 := encL_one (w.length : Int)
  have e1 := flat_le T.State state_le w
  unfold encWorld
  rw [List.length_append]
  unfold T.World
  rw [bulk_struct]
  omega

/- All bytes -/

theorem claims_bytes (l : List T.Claim.den) : Bytes (encClaims l) := (enc_bytes _).append (Bytes.flatMap fun _ _ => encL_bytes _)
theorem encState_bytes (s : T.State.den) : Bytes (encState s) := by
  have eI := encInts_bytes
  have eL := encL_bytes
  have h3 : Bytes (List.flatMap encEvent s.2.2.2.1) := Bytes.flatMap fun _ _ => (eL _).append (eI _)
  have h4 : Bytes (List.flatMap encProc s.2.2.2.2.1) := Bytes.flatMap fun _ _ => (eL _).append ((eI _).append (eL _))
  have h7 : Bytes (List.flatMap encResource s.2.2.2.2.2.2.2.1) := Bytes.flatMap fun _ _ => (eL _).append ((claims_bytes _).append ((claims_bytes _).append (eL _)))
  have h8 : Bytes (List.flatMap encStore s.2.2.2.2.2.2.2.2.1) := Bytes.flatMap fun _ _ => (eL _).append ((eI _).append ((eL _).append ((Bytes.flatMap fun _ _ => eL _).append ((eI _).append (eL _)))))
  have h9 : Bytes (List.flatMap encBelt s.2.2.2.2.2.2.2.2.2.1) := Bytes.flatMap fun _ _ => (eL _).append ((Bytes.flatMap fun _ _ => eL _).append (eL _))
  have h10 : Bytes (List.flatMap encInts s.2.2.2.2.2.2.2.2.2.2.1) := Bytes.flatMap fun _ _ => eI _
  have h11 : Bytes (List.flatMap encStream s.2.2.2.2.2.2.2.2.2.2.2.1) := Bytes.flatMap fun _ _ => eL _
  have h12 : Bytes (List.flatMap encTally s.2.2.2.2.2.2.2.2.2.2.2.2.1) := Bytes.flatMap fun _ _ => eL _
  have h13 : Bytes (List.flatMap encLevel s.2.2.2.2.2.2.2.2.2.2.2.2.2.1) := Bytes.flatMap fun _ _ => eL _
  exact (eL _).append (h3.append ((eL _).append (h4.append ((eL _).append ((eI _).append ((eL _).append (h7.append ((eL _).append (h8.append ((eL _).append (h9.append ((eL _).append (h10.append ((eL _).append (h11.append ((eL _).append (h12.append ((eL _).append (h13.append ((eI _).append ((eI _).append ((eI _).append (eL _)))))))))))))))))))))))
theorem world_bytes (w : T.World.den) : Bytes (encWorld w) := (encL_bytes _).append (Bytes.flatMap fun _ _ => encState_bytes _)

/- The sum behind them -/

def le4 (n : Int) : List Int := [n % 256, n / 256 % 256, n / 65536 % 256, n / 16777216 % 256]
theorem le4_len (n : Int) : (le4 n).length = 4 := rfl
theorem le4_bytes (n : Int) : Bytes (le4 n) := by
  intro c hc
  simp only [le4, List.mem_cons, List.not_mem_nil, or_false] at hc
  omega
theorem le4_inj {m n : Int} (hm : 0 ≤ m ∧ m < 4294967296) (hn : 0 ≤ n ∧ n < 4294967296) (h : le4 m = le4 n) : m = n := by
  simp only [le4, List.cons.injEq, and_true] at h
  omega
theorem sealed_eq (b : List Int) (h : b.length ≤ Lim) : R.checkpoint_sealed (b, ()) = some (b ++ le4 (crc b), ()) := by
  unfold R.checkpoint_sealed
  have hr := crc_range b
  have hw : IntKind.wrap .u32 (crc b) = crc b := by rw [wrap_u32]; omega
  unfold Lim at h
  simp only
  rw [codec_Sum_eq b h]
  simp only [Option.bind_some, hw, wrap_u8]
  have e1 : Int.fdiv (crc b) 256 = crc b / 256 := Int.fdiv_eq_ediv_of_nonneg _ (by omega)
  have e2 : Int.fdiv (crc b) 65536 = crc b / 65536 := Int.fdiv_eq_ediv_of_nonneg _ (by omega)
  have e3 : Int.fdiv (crc b) 16777216 = crc b / 16777216 := Int.fdiv_eq_ediv_of_nonneg _ (by omega)
  rw [e1, e2, e3]
  have hl : [crc b % 256, crc b / 256 % 256, crc b / 65536 % 256, crc b / 16777216 % 256] = le4 (crc b) := rfl
  rw [hl, le4_len, List.take_length]
  have hc : ((Nat.beq b.length 0 || true) && Nat.ble ((b.length + 4) * 1) 140737488355328) = true := by
    rw [Bool.or_true, Bool.true_and]
    rw [Nat.ble_eq]; omega
  rw [hc]
  rfl

/-- A saved world. -/
def saved (w : T.World.den) : List Int := encWorld w ++ le4 (crc (encWorld w))
theorem save_eq (w : T.World.den) (h : T.World.bulk w ≤ 1048576) (h16 : w.length ≤ 16) : R.checkpoint_Save (w, ()) = some (saved w, 0, ()) := by
  unfold R.checkpoint_Save
  have hl : (encWorld w).length ≤ Lim := by have := world_le w; unfold Lim; omega
  have hn : decide (((w.length : Nat) : Int) > 16) = false := decide_eq_false (by omega)
  simp only [hn, cond_false]
  rw [body_eq w hl]
  simp only [Option.bind_some]
  rw [sealed_eq _ hl]
  rfl
theorem saved_bytes (w : T.World.den) : Bytes (saved w) := (world_bytes w).append (le4_bytes _)

theorem bytesOf_inj {a b : List Int} (ha : Bytes a) (hb : Bytes b) (h : eqS (bytesOf a) (bytesOf b) = true) : a = b := by
  have e : (bytesOf a).toList = (bytesOf b).toList := by simpa [eqS] using h
  rw [ByteArray.toList_eq, ByteArray.toList_eq] at e
  have e' : a.map (fun n => UInt8.ofNat n.toNat) = b.map (fun n => UInt8.ofNat n.toNat) := by simpa [bytesOf] using e
  clear e h
  induction a generalizing b with
  | nil => cases b with
    | nil => rfl
    | cons y b => simp at e'
  | cons x a ih => cases b with
    | nil => simp at e'
    | cons y b =>
      simp only [List.map_cons, List.cons.injEq] at e'
      have hx := ha x (by simp)
      have hy := hb y (by simp)
      have h1 : x.toNat % 256 = y.toNat % 256 := by
        have := congrArg UInt8.toNat e'.1
        simpa using this
      rw [ih (fun c hc => ha c (by simp [hc])) (fun c hc => hb c (by simp [hc])) e'.2]
      have : x = y := by omega
      rw [this]

/-- The sum behind the bytes is not theirs: they are refused. -/
theorem load_sum (p : T.Program.den) (a t : List Int) (ht : t.length = 4) (ha : a.length ≤ Lim) (hba : Bytes a) (hbt : Bytes t) (hne : t ≠ le4 (crc a)) : R.checkpoint_Load (p, a ++ t, ()) = some ([], 14, ()) := by
  unfold R.checkpoint_Load
  unfold Lim at ha
  have hl : (a ++ t).length = a.length + 4 := by rw [List.length_append, ht]
  have h0 : decide ((((a ++ t).length : Nat) : Int) < 4) = false := decide_eq_false (by omega)
  have h1 : IntKind.wrap .i64 ((((a ++ t).length : Nat) : Int) - 4) = (a.length : Int) := by rw [hl, wrap_i64 (by omega) (by omega)]; omega
  have h2 : List.take a.length (a ++ t) = a := List.take_left
  simp only [h0, cond_false, h1, Int.toNat_natCast, h2, List.take_length]
  have h3 : decide ((0 : Int) ≤ (a.length : Int)) = true := le_at _
  have h4 : decide ((a.length : Int) ≤ (((a ++ t).length : Nat) : Int)) = true := decide_eq_true (by omega)
  have h5 : decide ((((a ++ t).length : Nat) : Int) ≤ (((a ++ t).length : Nat) : Int)) = true := decide_eq_true (Int.le_refl _)
  have h6 : decide ((a.length : Int) ≤ (a.length : Int)) = true := decide_eq_true (Int.le_refl _)
  rw [h3, h4, h5, h6]
  simp only [decide_true, Bool.and_true, cond_true, Option.bind_some]
  rw [sealed_eq a ha]
  simp only [Option.bind_some, R.bytes_Equal]
  have h8 : eqS (bytesOf (a ++ le4 (crc a))) (bytesOf (a ++ t)) = false := by
    cases h : eqS (bytesOf (a ++ le4 (crc a))) (bytesOf (a ++ t)) with
    | false => rfl
    | true => exact absurd (List.append_cancel_left (bytesOf_inj (hba.append (le4_bytes _)) (hba.append hbt) h)).symm hne
  rw [h8]
  rfl

theorem xor_ne : ∀ x r : BitVec 8, r ≠ 0#8 → x ^^^ r ≠ x := by
  intro x r hr h
  apply hr
  have : x ^^^ (x ^^^ r) = x ^^^ x := by rw [h]
  rw [← BitVec.xor_assoc, BitVec.xor_self, BitVec.zero_xor] at this
  exact this
/-- A byte that a bit of which is turned. -/
theorem turned {x r : Int} (hx : 0 ≤ x ∧ x < 256) (hr : 0 ≤ r ∧ r < 256) (h0 : r ≠ 0) :
    (0 ≤ IntKind.wrap .u8 (((BitVec.toNat (HXor.hXor (BitVec.ofInt 8 x) (BitVec.ofInt 8 r))) : Nat) : Int) ∧ IntKind.wrap .u8 (((BitVec.toNat (HXor.hXor (BitVec.ofInt 8 x) (BitVec.ofInt 8 r))) : Nat) : Int) < 256) ∧
    IntKind.wrap .u8 (((BitVec.toNat (HXor.hXor (BitVec.ofInt 8 x) (BitVec.ofInt 8 r))) : Nat) : Int) ≠ x := by
  rw [wrap_u8]
  refine ⟨by omega, fun h => ?_⟩
  have hb : BitVec.ofInt 8 r ≠ 0#8 := fun e => by
    have := congrArg BitVec.toNat e
    rw [BitVec.toNat_ofInt] at this
    simp at this
    omega
  apply xor_ne (BitVec.ofInt 8 x) _ hb
  apply BitVec.eq_of_toNat_eq
  have hlt := (BitVec.ofInt 8 x ^^^ BitVec.ofInt 8 r).isLt
  have hxn : (BitVec.ofInt 8 x).toNat = x.toNat := by rw [BitVec.toNat_ofInt]; simp; omega
  rw [hxn]
  omega

/-- A saved world of which one byte was turned is refused. -/
theorem broken (p : T.Program.den) (w : T.World.den) (hw : T.World.bulk w ≤ 1048576) (k : Nat) (hk : k < (saved w).length) (v : Int) (hv : 0 ≤ v ∧ v < 256) (hne : v ≠ (saved w)[k]) : R.checkpoint_Load (p, (saved w).set k v, ()) = some ([], 14, ()) := by
  have hl : (encWorld w).length ≤ Lim := by have := world_le w; unfold Lim; omega
  have hset : ∀ (l : List Int) (k : Nat), Bytes l → Bytes (l.set k v) := fun l k h c hc => by
    rcases List.mem_or_eq_of_mem_set hc with h1 | h1
    · exact h c h1
    · exact h1 ▸ hv
  unfold saved at hk hne ⊢
  rcases Nat.lt_or_ge k (encWorld w).length with h | h
  · rw [List.set_append_left _ _ h]
    refine load_sum p _ _ (le4_len _) (by rw [List.length_set]; exact hl) (hset _ _ (world_bytes w)) (le4_bytes _) fun e => ?_
    rw [List.getElem_append_left h] at hne
    exact crc_set h (world_bytes w) hv hne (le4_inj (crc_range _) (crc_range _) e).symm
  · rw [List.set_append_right _ _ h]
    refine load_sum p _ _ (by rw [List.length_set, le4_len]) hl (world_bytes w) (hset _ _ (le4_bytes _)) fun e => ?_
    rw [List.getElem_append_right h] at hne
    have hj : k - (encWorld w).length < (le4 (crc (encWorld w))).length := by rw [List.length_append] at hk; omega
    have := congrArg (fun l => l[k - (encWorld w).length]?) e
    simp only [List.getElem?_set_self hj, List.getElem?_eq_getElem hj, Option.some.injEq] at this
    exact hne this

theorem saved_nil : saved [] = [0, 81, 83, 125, 82] := by
  have e : encWorld [] = [0] := by decide +kernel
  unfold saved
  rw [e, crc_zero]
  rfl
theorem awake_eq : R.simulatorlaw45_awake () = some (true, ()) := by
  unfold R.simulatorlaw45_awake
  have e : encWorld [] = [0] := by decide +kernel
  have hs : R.checkpoint_Save ([], ()) = some ([0, 81, 83, 125, 82], 0, ()) := by
    rw [save_eq [] (by decide +kernel) (by decide), saved_nil]
  have hL : R.checkpoint_Load (default, [], ()) = some ([], 7, ()) := rfl
  have hD : R.checkpoint_Digest ([], ()) = some (1383945041, ()) := by
    unfold R.checkpoint_Digest
    have : R.checkpoint_body ([], ()) = some ([0], ()) := by rw [body_eq [] (by rw [e]; decide), e]
    simp only [this, Option.bind_some]
    rw [codec_Sum_eq [0] (by decide), crc_zero]
    rfl
  have hq : eqS (bytesOf [0, 81, 83, 125, 82]) (ByteArray.mk (List.toArray (0 :: (81 :: (83 :: (125 :: (82 :: []))))))) = true := by
    unfold eqS; rw [ByteArray.toList_eq, ByteArray.toList_eq]; rfl
  simp only [hs, hL, Option.bind_some, hq, hD]
  rfl
end Go.Proofs.YtlkggeaibgaohaaGreatDoor.Sim
end

section
/- The program and the world are few, or not: an answer is given. -/
namespace Go.Proofs.YtlkggeaibgaohaaGreatDoor.Sim
open Go

theorem loop_upto {R : Type} {f : Int × Unit → Option ((Int × Unit) ⊕ R)} {Q : R → Prop} (n : Nat)
    (hstep : ∀ i : Nat, i < n → (∃ r, f ((i : Int), ()) = some (.inr r) ∧ Q r) ∨ f ((i : Int), ()) = some (.inl (((i + 1 : Nat) : Int), ())))
    (hend : ∃ r, f ((n : Int), ()) = some (.inr r) ∧ Q r) : ∃ r, loopW f ((0 : Int), ()) = some r ∧ Q r := by
  have key : ∀ m i : Nat, n = i + m → ∃ r, loopW f ((i : Int), ()) = some r ∧ Q r := by
    intro m
    induction m with
    | zero =>
      intro i h
      obtain rfl : n = i := by omega
      obtain ⟨r, h1, h2⟩ := hend
      exact ⟨r, loopW_inr h1, h2⟩
    | succ m ih =>
      intro i h
      rcases hstep i (by omega) with ⟨r, h1, h2⟩ | h1
      · exact ⟨r, loopW_inr h1, h2⟩
      · rw [loopW_inl h1]; exact ih (i + 1) (by omega)
  exact key n 0 (by omega)

theorem le_sum {α : Type} (f : α → Nat) : ∀ (l : List α) (i : Nat) (h : i < l.length), f l[i] ≤ (List.map f l).sum
  | x :: l, 0, _ => by simp only [List.getElem_cons_zero, List.map_cons, List.sum_cons]; omega
  | x :: l, i + 1, h => by
    have := le_sum f l i (by simpa using h)
    simp only [List.getElem_cons_succ, List.map_cons, List.sum_cons]; omega
theorem len_sum {α : Type} (f : α → Nat) (hf : ∀ x, 1 ≤ f x) : ∀ l : List α, l.length ≤ (List.map f l).sum
  | [] => Nat.le_refl _
  | x :: l => by
    have := len_sum f hf l
    have := hf x
    simp only [List.length_cons, List.map_cons, List.sum_cons]; omega

/- How many nodes a term has -/

theorem nodes_loop (e : Sim.Expr) (m : Int)
    (ih : ∀ k, ∀ h : k < e.kids.length, ∀ m : Nat, m ≤ 60 → ∃ y : Int, y < m ∧ -1 ≤ y ∧ (∃ N, ∀ n, N ≤ n → recN R.simulatorref30_nodes_F n (e.kids[k], (m : Int), ()) = some (y, ())) ∧ ∀ n z, recN R.simulatorref30_nodes_F n (e.kids[k], (m : Int), ()) = some z → z = (y, ())) :
    ∀ (j i : Nat) (v : Int), i + j = e.kids.length → (i : Int) + v ≤ 59 → -1 ≤ v → ∃ y : Int, y ≤ v ∧ -1 ≤ y ∧ (∃ N, ∀ n, N ≤ n → loopW (R.simulatorref30_nodes_L0 (recN R.simulatorref30_nodes_F n) (e, m, ())) ((i : Int), v, ()) = some (y, ())) ∧
      ∀ n z, loopW (R.simulatorref30_nodes_L0 (recN R.simulatorref30_nodes_F n) (e, m, ())) ((i : Int), v, ()) = some z → z = (y, ()) := by
  have stop : ∀ (i : Nat) (v : Int), -1 ≤ v → (cond (decide ((i : Int) < ((e.kids.length : Nat) : Int))) (decide (v ≥ (0 : Int))) false) = false → ∃ y : Int, y ≤ v ∧ -1 ≤ y ∧ (∃ N, ∀ n, N ≤ n → loopW (R.simulatorref30_nodes_L0 (recN R.simulatorref30_nodes_F n) (e, m, ())) ((i : Int), v, ()) = some (y, ())) ∧
      ∀ n z, loopW (R.simulatorref30_nodes_L0 (recN R.simulatorref30_nodes_F n) (e, m, ())) ((i : Int), v, ()) = some z → z = (y, ()) := by
    intro i v hv h
    have hs : ∀ n, loopW (R.simulatorref30_nodes_L0 (recN R.simulatorref30_nodes_F n) (e, m, ())) ((i : Int), v, ()) = some (v, ()) := fun n => loopW_inr (by unfold R.simulatorref30_nodes_L0; simp only [h, cond_false])
    exact ⟨v, Int.le_refl _, hv, ⟨0, fun n _ => hs n⟩, fun n z hz => by rw [hs] at hz; exact (Option.some.inj hz).symm⟩
  intro j
  induction j with
  | zero =>
    intro i v hi h59 hv
    exact stop i v hv (by rw [decide_eq_false (by omega), cond_false])
  | succ j ihj =>
    intro i v hi h59 hv
    rcases Int.lt_or_le v 0 with h | h
    · refine stop i v hv ?_
      rw [decide_eq_true (by omega), cond_true, decide_eq_false (by omega)]
    · have hlt : i < e.kids.length := by omega
      obtain ⟨y, hy, hy1, ⟨N, hN⟩, hu⟩ := ih i hlt v.toNat (by omega)
      rw [Int.toNat_of_nonneg h] at hy hN hu
      obtain ⟨z, hz, hz1, ⟨M, hM⟩, hw⟩ := ihj (i + 1) y (by omega) (by omega) hy1
      have hs : ∀ n, R.simulatorref30_nodes_L0 (recN R.simulatorref30_nodes_F n) (e, m, ()) ((i : Int), v, ()) = Option.bind (recN R.simulatorref30_nodes_F n (e.kids[i], v, ())) (fun v2 => some (Sum.inl (((i + 1 : Nat) : Int), v2.1, ()))) := fun n => by
        unfold R.simulatorref30_nodes_L0
        simp only [decide_eq_true (show v ≥ 0 from h), cond_true, lt_at hlt, le_at, Bool.and_true, Option.bind_some, Int.toNat_natCast, getD_at hlt]
        rw [wrap_i64 (by omega) (by omega)]
        rfl
      refine ⟨z, by omega, hz1, ⟨max N M, fun n hn => ?_⟩, fun n q hq => ?_⟩
      · rw [loopW_inl (by rw [hs, hN n (by omega)]; rfl)]
        exact hM n (by omega)
      · cases hr : recN R.simulatorref30_nodes_F n (e.kids[i], v, ()) with
        | none =>
          rw [loopW_none (by rw [hs, hr]; rfl)] at hq
          cases hq
        | some r =>
          obtain rfl := hu n r hr
          rw [loopW_inl (by rw [hs, hr]; rfl)] at hq
          exact hw n q hq
theorem nodes_total : ∀ (e : Sim.Expr) (m : Nat), m ≤ 60 → ∃ y : Int, y < m ∧ -1 ≤ y ∧ (∃ N, ∀ n, N ≤ n → recN R.simulatorref30_nodes_F n (e, (m : Int), ()) = some (y, ())) ∧ ∀ n z, recN R.simulatorref30_nodes_F n (e, (m : Int), ()) = some z → z = (y, ())
  | .mk op name nn kids, m, hm => by
    have ih : ∀ k, ∀ h : k < kids.length, ∀ m : Nat, m ≤ 60 → ∃ y : Int, y < m ∧ -1 ≤ y ∧ (∃ N, ∀ n, N ≤ n → recN R.simulatorref30_nodes_F n (kids[k], (m : Int), ()) = some (y, ())) ∧ ∀ n z, recN R.simulatorref30_nodes_F n (kids[k], (m : Int), ()) = some z → z = (y, ()) :=
      fun k h m hm => nodes_total kids[k] m hm
    have hw : IntKind.wrap .i64 ((m : Int) - 1) = (m : Int) - 1 := wrap_i64 (by omega) (by omega)
    obtain ⟨y, h1, h2, ⟨N, hN⟩, hu⟩ := nodes_loop (.mk op name nn kids) (m : Int) ih kids.length 0 ((m : Int) - 1) (by simp [Sim.Expr.kids]) (by omega) (by omega)
    refine ⟨y, by omega, h2, ⟨N + 1, fun n hn => ?_⟩, fun n z hz => ?_⟩
    · obtain ⟨n, rfl⟩ : ∃ k, n = k + 1 := ⟨n - 1, by omega⟩
      show R.simulatorref30_nodes_F (recN R.simulatorref30_nodes_F n) _ = _
      unfold R.simulatorref30_nodes_F
      simp only [hw]
      exact hN n (by omega)
    · cases n with
      | zero => cases hz
      | succ n =>
        have hz' : R.simulatorref30_nodes_F (recN R.simulatorref30_nodes_F n) (.mk op name nn kids, (m : Int), ()) = some z := hz
        rw [show R.simulatorref30_nodes_F (recN R.simulatorref30_nodes_F n) (.mk op name nn kids, (m : Int), ()) = loopW (R.simulatorref30_nodes_L0 (recN R.simulatorref30_nodes_F n) (.mk op name nn kids, (m : Int), ())) ((0 : Int), IntKind.wrap .i64 ((m : Int) - 1), ()) from rfl, hw] at hz'
        exact hu n z hz'
termination_by e => SizeOf.sizeOf e
decreasing_by
  have := List.sizeOf_lt_of_mem (List.getElem_mem h)
  simp only [Sim.Expr.mk.sizeOf_spec]
  omega
theorem nodes_eq (e : Sim.Expr) : ∃ y, R.simulatorref30_nodes (e, 60, ()) = some (y, ()) := by
  obtain ⟨y, _, _, ⟨N, hN⟩, hu⟩ := nodes_total e 60 (Nat.le_refl _)
  exact ⟨y, recW_of ⟨N, hN N (Nat.le_refl _)⟩ hu⟩

/- Answers that are given -/

theorem ble_false {a b : Nat} (h : Nat.ble a b = false) (k : a ≤ b) : False := by rw [Nat.ble_eq_true_of_le k] at h; cases h
theorem ex_cond {α : Type} {P : α → Prop} {b : Bool} {x y : Option α} (hx : b = true → ∃ r, x = some r ∧ P r) (hy : b = false → ∃ r, y = some r ∧ P r) : ∃ r, cond b x y = some r ∧ P r := by
  cases b
  · exact hy rfl
  · exact hx rfl
theorem ex_bind {α β : Type} {P : α → Prop} {Q : β → Prop} {x : Option α} {f : α → Option β} (hx : ∃ r, x = some r ∧ P r) (hf : ∀ r, P r → ∃ s, f r = some s ∧ Q s) : ∃ s, Option.bind x f = some s ∧ Q s := by
  obtain ⟨r, rfl, hr⟩ := hx
  exact hf r hr
theorem ex_some {α : Type} {P : α → Prop} {x : α} (h : P x) : ∃ r, some x = some r ∧ P r := ⟨x, rfl, h⟩
/-- One round of a loop that counts. -/
def Round {R : Type} (Q : R → Prop) (i : Nat) (s : (Int × Unit) ⊕ R) : Prop := (∃ r, s = .inr r ∧ Q r) ∨ s = .inl (((i + 1 : Nat) : Int), ())
theorem Round.out {R : Type} {Q : R → Prop} {i : Nat} {r : R} (h : Q r) : Round Q i (.inr r) := .inl ⟨r, rfl, h⟩
theorem Round.next {R : Type} {Q : R → Prop} {i n : Nat} (h : i < n) (hn : n ≤ Lim) : Round Q i (.inl (IntKind.wrap .i64 ((i : Int) + 1), ())) := .inr (by rw [lim_succ h hn])
theorem loop_count {R : Type} {f : Int × Unit → Option ((Int × Unit) ⊕ R)} {Q : R → Prop} (n : Nat)
    (hstep : ∀ i : Nat, i < n → ∃ s, f ((i : Int), ()) = some s ∧ Round Q i s)
    (hend : ∃ s, f ((n : Int), ()) = some s ∧ ∃ r, s = .inr r ∧ Q r) : ∃ r, loopW f ((0 : Int), ()) = some r ∧ Q r := by
  refine loop_upto n (fun i hi => ?_) ?_
  · obtain ⟨s, h1, ⟨r, rfl, h2⟩ | rfl⟩ := hstep i hi
    · exact .inl ⟨r, h1, h2⟩
    · exact .inr h1
  · obtain ⟨s, h1, r, rfl, h2⟩ := hend
    exact ⟨r, h1, h2⟩
/-- What an inner loop hands to the outer one. -/
def Inner (i : Nat) (r : (Int × Unit) ⊕ (Bool × Unit)) : Prop := r = .inl (((i + 1 : Nat) : Int), ()) ∨ ∃ b, r = .inr (b, ())
theorem Inner.round {i : Nat} {r : (Int × Unit) ⊕ (Bool × Unit)} (h : Inner i r) : Round (fun _ : Bool × Unit => True) i r := by
  rcases h with rfl | ⟨b, rfl⟩
  · exact .inr rfl
  · exact .inl ⟨_, rfl, trivial⟩

theorem light_L1 (c : T.Code.den) (i : Nat) (hi : i < c.2.2.2.length) (hn : c.2.2.2.length ≤ Lim) (l : List Sim.Expr) (hl : l = (c.2.2.2[i]'hi).2.2.2.2.1 :: (c.2.2.2[i]'hi).2.2.2.2.2.1 :: [] ++ (c.2.2.2[i]'hi).2.2.2.2.2.2.1) (hlen : l.length ≤ Lim) :
    ∃ r, loopW (R.simulatorref30_light_L1 (c, ()) ((i : Int), ())) ((0 : Int), ()) = some r ∧ Inner i r := by
  refine loop_count l.length (fun j hj => ?_) ?_
  · unfold R.simulatorref30_light_L1
    simp only [Int.toNat_natCast, getD_at hi, ← hl, lt_at hj, le_at, cond_true, Bool.and_true, Option.bind_some, getD_at hj]
    refine ex_bind (P := fun _ => True) ?_ (fun _ _ => ?_)
    · exact ⟨(), rfl, trivial⟩
    refine ex_bind (P := fun _ => True) (ex_cond (fun _ => ?_) (fun _ => ⟨_, rfl, trivial⟩)) (fun _ _ => ?_)
    · obtain ⟨y, hy⟩ := nodes_eq l[j]; exact ⟨_, hy, trivial⟩
    · exact ex_cond (fun _ => ex_some (.out (.inr ⟨_, rfl⟩))) (fun _ => ex_some (.next hj hlen))
  · unfold R.simulatorref30_light_L1
    simp only [Int.toNat_natCast, getD_at hi, ← hl, lt_self, cond_false]
    exact ⟨_, rfl, _, rfl, .inl (by rw [lim_succ hi hn])⟩
theorem light_eq (c : T.Code.den) (hb : T.Code.bulk c ≤ 1048576) : ∃ b, R.simulatorref30_light (c, ()) = some (b, ()) := by
  have hs : (List.map T.Instr.bulk c.2.2.2).sum ≤ 1048576 := by
    unfold T.Code at hb
    simp only [bulk_struct, bulk_pair, bulk_int, bulk_slice] at hb
    omega
  have hn : c.2.2.2.length ≤ Lim := by
    have := len_sum T.Instr.bulk (fun x => by unfold T.Instr; rw [bulk_struct]; omega) c.2.2.2
    unfold Lim; omega
  have key : ∃ r, R.simulatorref30_light (c, ()) = some r ∧ True := by
    unfold R.simulatorref30_light
    refine loop_count c.2.2.2.length (fun i hi => ?_) ?_
    · have hi1 := le_sum T.Instr.bulk c.2.2.2 i hi
      have ha : (c.2.2.2[i]'hi).2.2.2.2.2.2.1.length ≤ 1048576 := by
        have h0 : T.Instr.bulk (c.2.2.2[i]'hi) ≤ 1048576 := by omega
        unfold T.Instr at h0
        simp only [bulk_struct, bulk_pair, bulk_int, bulk_slice] at h0
        have := len_sum (Ty.bulk (.named 0)) (fun x => by rw [Ty.bulk]; omega) (c.2.2.2[i]'hi).2.2.2.2.2.2.1
        omega
      unfold R.simulatorref30_light_L0
      simp only [Int.toNat_natCast, getD_at hi, lt_at hi, le_at, cond_true, Bool.and_true, Option.bind_some]
      refine ex_bind (P := fun _ => True) (ex_cond (fun _ => ⟨_, rfl, trivial⟩) (fun h => ?_)) (fun _ _ => ?_)
      · exfalso
        refine ble_false h ?_
        simp only [List.length_cons, List.length_nil]
        omega
      · obtain ⟨r, h1, h2⟩ := light_L1 c i hi hn _ rfl (by simp only [List.length_append, List.length_cons, List.length_nil]; unfold Lim; omega)
        exact ⟨r, h1, h2.round⟩
    · unfold R.simulatorref30_light_L0
      simp only [lt_self, cond_false]
      exact ⟨_, rfl, _, rfl, trivial⟩
  obtain ⟨⟨b, ⟨⟩⟩, h, _⟩ := key
  exact ⟨b, h⟩
theorem smallCode_L1 (p : T.Program.den) (i : Nat) (hi : i < p.2.1.length) (hn : p.2.1.length ≤ Lim) (l : List T.Code.den) (hl : l = (p.2.1[i]'hi).2) (hlen : l.length ≤ Lim) (hb : ∀ j (h : j < l.length), T.Code.bulk (l[j]'h) ≤ 1048576) :
    ∃ r, loopW (R.simulatorref30_SmallCode_L1 (p, ()) ((i : Int), ())) ((0 : Int), ()) = some r ∧ Inner i r := by
  subst hl
  refine loop_count (p.2.1[i]'hi).2.length (fun j hj => ?_) ?_
  · unfold R.simulatorref30_SmallCode_L1
    simp only [Int.toNat_natCast, getD_at hi, lt_at hj, le_at, cond_true, Bool.and_true, Option.bind_some, getD_at hj]
    refine ex_bind (P := fun _ => True) ⟨(), rfl, trivial⟩ (fun _ _ => ?_)
    refine ex_bind (P := fun _ => True) (ex_cond (fun _ => ?_) (fun _ => ⟨_, rfl, trivial⟩)) (fun _ _ => ?_)
    · obtain ⟨y, hy⟩ := light_eq _ (hb j hj); exact ⟨_, hy, trivial⟩
    · exact ex_cond (fun _ => ex_some (.out (.inr ⟨_, rfl⟩))) (fun _ => ex_some (.next hj hlen))
  · unfold R.simulatorref30_SmallCode_L1
    simp only [Int.toNat_natCast, getD_at hi, lt_self, cond_false]
    exact ⟨_, rfl, _, rfl, .inl (by rw [lim_succ hi hn])⟩
theorem bulk_one {T : Ty} {b : Ty} (h : T = .struct b) (x : T.den) : 1 ≤ T.bulk x := by
  subst h; rw [bulk_struct]; omega
theorem smallCode_eq (p : T.Program.den) (hb : T.Program.bulk p ≤ 1048576) : ∃ b, R.simulatorref30_SmallCode (p, ()) = some (b, ()) := by
  have hs : (List.map T.SiteCode.bulk p.2.1).sum ≤ 1048576 := by
    unfold T.Program at hb
    simp only [bulk_struct, bulk_pair, bulk_slice] at hb
    omega
  have hn : p.2.1.length ≤ Lim := by
    have := len_sum T.SiteCode.bulk (bulk_one rfl) p.2.1
    unfold Lim; omega
  have key : ∃ r, R.simulatorref30_SmallCode (p, ()) = some r ∧ True := by
    unfold R.simulatorref30_SmallCode
    refine ex_cond (fun _ => ⟨_, rfl, trivial⟩) (fun _ => loop_count p.2.1.length (fun i hi => ?_) ?_)
    · have hi1 := le_sum T.SiteCode.bulk p.2.1 i hi
      have hc : (List.map T.Code.bulk (p.2.1[i]'hi).2).sum ≤ 1048576 := by
        have h0 : T.SiteCode.bulk (p.2.1[i]'hi) ≤ 1048576 := by omega
        unfold T.SiteCode at h0
        rw [bulk_struct, bulk_pair, bulk_slice] at h0
        omega
      unfold R.simulatorref30_SmallCode_L0
      simp only [Int.toNat_natCast, getD_at hi, lt_at hi, le_at, cond_true, Bool.and_true, Option.bind_some]
      refine ex_cond (fun _ => ex_some (.out trivial)) (fun _ => ?_)
      obtain ⟨r, h1, h2⟩ := smallCode_L1 p i hi hn _ rfl (by have := len_sum T.Code.bulk (bulk_one rfl) (p.2.1[i]'hi).2; unfold Lim; omega) (fun j hj => by have := le_sum T.Code.bulk (p.2.1[i]'hi).2 j hj; omega)
      exact ⟨r, h1, h2.round⟩
    · unfold R.simulatorref30_SmallCode_L0
      simp only [lt_self, cond_false]
      exact ⟨_, rfl, _, rfl, trivial⟩
  obtain ⟨⟨b, ⟨⟩⟩, h, _⟩ := key
  exact ⟨b, h⟩

theorem ex_map {α : Type} {x : Option α} (h : ∃ r, x = some r ∧ True) : ∃ s : (Int × Unit) ⊕ α, Option.map Sum.inr x = some s ∧ ∃ r, s = .inr r ∧ True := by
  obtain ⟨r, rfl, _⟩ := h
  exact ⟨_, rfl, _, rfl, trivial⟩
theorem small_L3 (s : T.State.den) (hn : s.2.2.2.2.2.2.2.2.2.2.1.length ≤ Lim) : ∃ r, loopW (R.simulatorref30_Small_L3 (s, ())) ((0 : Int), ()) = some r ∧ True := by
  refine loop_count s.2.2.2.2.2.2.2.2.2.2.1.length (fun i hi => ?_) ?_
  · unfold R.simulatorref30_Small_L3
    simp only [Int.toNat_natCast, getD_at hi, lt_at hi, le_at, cond_true, Bool.and_true, Option.bind_some]
    exact ex_cond (fun _ => ex_some (.out trivial)) (fun _ => ex_some (.next hi hn))
  · unfold R.simulatorref30_Small_L3
    simp only [lt_self, cond_false]
    exact ⟨_, rfl, _, rfl, trivial⟩
theorem small_L2 (s : T.State.den) (hn : s.2.2.2.2.2.2.2.2.2.1.length ≤ Lim) (h3 : s.2.2.2.2.2.2.2.2.2.2.1.length ≤ Lim) : ∃ r, loopW (R.simulatorref30_Small_L2 (s, ())) ((0 : Int), ()) = some r ∧ True := by
  refine loop_count s.2.2.2.2.2.2.2.2.2.1.length (fun i hi => ?_) ?_
  · unfold R.simulatorref30_Small_L2
    simp only [Int.toNat_natCast, getD_at hi, lt_at hi, le_at, cond_true, Bool.and_true, Option.bind_some]
    exact ex_cond (fun _ => ex_some (.out trivial)) (fun _ => ex_some (.next hi hn))
  · unfold R.simulatorref30_Small_L2
    simp only [lt_self, cond_false]
    exact ex_map (small_L3 s h3)
theorem small_L1 (s : T.State.den) (hn : s.2.2.2.2.2.2.2.2.1.length ≤ Lim) (h2 : s.2.2.2.2.2.2.2.2.2.1.length ≤ Lim) (h3 : s.2.2.2.2.2.2.2.2.2.2.1.length ≤ Lim) : ∃ r, loopW (R.simulatorref30_Small_L1 (s, ())) ((0 : Int), ()) = some r ∧ True := by
  refine loop_count s.2.2.2.2.2.2.2.2.1.length (fun i hi => ?_) ?_
  · unfold R.simulatorref30_Small_L1
    simp only [Int.toNat_natCast, getD_at hi, lt_at hi, le_at, cond_true, Bool.and_true, Option.bind_some]
    exact ex_cond (fun _ => ex_some (.out trivial)) (fun _ => ex_some (.next hi hn))
  · unfold R.simulatorref30_Small_L1
    simp only [lt_self, cond_false]
    exact ex_map (small_L2 s h2 h3)
theorem small_L0 (s : T.State.den) (hn : s.2.2.2.2.2.2.2.1.length ≤ Lim) (h1 : s.2.2.2.2.2.2.2.2.1.length ≤ Lim) (h2 : s.2.2.2.2.2.2.2.2.2.1.length ≤ Lim) (h3 : s.2.2.2.2.2.2.2.2.2.2.1.length ≤ Lim) : ∃ r, loopW (R.simulatorref30_Small_L0 (s, ())) ((0 : Int), ()) = some r ∧ True := by
  refine loop_count s.2.2.2.2.2.2.2.1.length (fun i hi => ?_) ?_
  · unfold R.simulatorref30_Small_L0
    simp only [Int.toNat_natCast, getD_at hi, lt_at hi, le_at, cond_true, Bool.and_true, Option.bind_some]
    exact ex_cond (fun _ => ex_some (.out trivial)) (fun _ => ex_some (.next hi hn))
  · unfold R.simulatorref30_Small_L0
    simp only [lt_self, cond_false]
    exact ex_map (small_L1 s h1 h2 h3)
theorem bulk_one_ints (k : IntKind) (x : (Ty.slice (.int k)).den) : 1 ≤ (Ty.slice (.int k)).bulk x := by rw [bulk_slice]; omega
theorem arith10 {a3 a4 a6 a7 a8 a9 a10 a11 a12 a13 a14 a15 a16 b7 b8 b9 b10 : Nat} (h : 1 + (1 + (1 + (a3 + (a4 + (1 + (a6 + (a7 + (a8 + (a9 + (a10 + (a11 + (a12 + (a13 + (a14 + (a15 + (a16 + 1)))))))))))))))) + 1 ≤ 1048576) (h7 : a7 = b7 + 1) (h8 : a8 = b8 + 1) (h9 : a9 = b9 + 1) (h10 : a10 = b10 + 1) : b7 ≤ 1048576 ∧ b8 ≤ 1048576 ∧ b9 ≤ 1048576 ∧ b10 ≤ 1048576 := by omega
theorem small_eq (s : T.State.den) (hb : T.State.bulk s ≤ 1048576) : ∃ r, R.simulatorref30_Small (s, ()) = some r ∧ True := by
  have h7 := len_sum T.Resource.bulk (bulk_one rfl) s.2.2.2.2.2.2.2.1
  have h8 := len_sum T.Store.bulk (bulk_one rfl) s.2.2.2.2.2.2.2.2.1
  have h9 := len_sum T.Belt.bulk (bulk_one rfl) s.2.2.2.2.2.2.2.2.2.1
  have h10 := len_sum (Ty.slice (.int .i64)).bulk (bulk_one_ints .i64) s.2.2.2.2.2.2.2.2.2.2.1
  have hs : (List.map T.Resource.bulk s.2.2.2.2.2.2.2.1).sum ≤ 1048576 ∧ (List.map T.Store.bulk s.2.2.2.2.2.2.2.2.1).sum ≤ 1048576 ∧ (List.map T.Belt.bulk s.2.2.2.2.2.2.2.2.2.1).sum ≤ 1048576 ∧ (List.map (Ty.slice (.int .i64)).bulk s.2.2.2.2.2.2.2.2.2.2.1).sum ≤ 1048576 := by
    clear h7 h8 h9 h10
    unfold T.State at hb
    simp only [bulk_struct, bulk_pair, bulk_int] at hb
    have a7 := bulk_slice T.Resource s.2.2.2.2.2.2.2.1
    have a8 := bulk_slice T.Store s.2.2.2.2.2.2.2.2.1
    have a9 := bulk_slice T.Belt s.2.2.2.2.2.2.2.2.2.1
    have a10 := bulk_slice (.slice (.int .i64)) s.2.2.2.2.2.2.2.2.2.2.1
    exact arith10 hb a7 a8 a9 a10
  unfold R.simulatorref30_Small
  unfold Lim at *
  refine ex_cond (fun _ => ⟨_, rfl, trivial⟩) (fun _ => small_L0 s ?_ ?_ ?_ ?_)
  · exact Nat.le_trans h7 (Nat.le_trans hs.1 (by decide))
  · exact Nat.le_trans h8 (Nat.le_trans hs.2.1 (by decide))
  · exact Nat.le_trans h9 (Nat.le_trans hs.2.2.1 (by decide))
  · exact Nat.le_trans h10 (Nat.le_trans hs.2.2.2 (by decide))

theorem few32_eq (w : T.World.den) (hb : T.World.bulk w ≤ 1048576) : ∃ r, R.simulatorref32_Small (w, ()) = some r ∧ (r.1 = true → w.length ≤ 4) := by
  have hs : (List.map T.State.bulk w).sum ≤ 1048576 := by
    unfold T.World at hb
    rw [bulk_struct, bulk_slice] at hb
    omega
  have hn : w.length ≤ Lim := by have := len_sum T.State.bulk (bulk_one rfl) w; unfold Lim; omega
  unfold R.simulatorref32_Small
  refine loop_count (min w.length 5) (fun i hi => ?_) ?_
  · have hi1 : i < w.length := by omega
    have hi5 : decide ((i : Int) < 5) = true := decide_eq_true (by omega)
    unfold R.simulatorref32_Small_L0
    simp only [Int.toNat_natCast, getD_at hi1, lt_at hi1, le_at, hi5, cond_true, Bool.and_true, Option.bind_some]
    refine ex_bind (small_eq _ (by have := le_sum T.State.bulk w i hi1; omega)) (fun _ _ => ?_)
    exact ex_cond (fun _ => ex_some (.out (fun h => by cases h))) (fun _ => ex_some (.next hi1 hn))
  · unfold R.simulatorref32_Small_L0
    have hc : (cond (decide (((min w.length 5 : Nat) : Int) < ((w.length : Nat) : Int))) (decide (((min w.length 5 : Nat) : Int) < 5)) false) = false := by
      rcases Nat.lt_or_ge 5 w.length with h | h
      · rw [Nat.min_eq_right (by omega), decide_eq_true (by omega)]; rfl
      · rw [Nat.min_eq_left (by omega), decide_eq_false (by omega)]; rfl
    simp only [hc, cond_false]
    exact ⟨_, rfl, _, rfl, fun h => by have := of_decide_eq_true h; omega⟩
theorem few_eq (p : T.Program.den) (w : T.World.den) (hp : T.Program.bulk p ≤ 1048576) (hw : T.World.bulk w ≤ 1048576) : ∃ b, R.simulatorlaw45_few (p, w, ()) = some (b, ()) ∧ (b = true → w.length ≤ 4) := by
  obtain ⟨b, hb⟩ := smallCode_eq p hp
  obtain ⟨⟨c, ⟨⟩⟩, hc, hk⟩ := few32_eq w hw
  unfold R.simulatorlaw45_few
  simp only [hb, Option.bind_some, hc]
  cases b
  · exact ⟨false, rfl, fun h => by cases h⟩
  · exact ⟨c, rfl, hk⟩
end Go.Proofs.YtlkggeaibgaohaaGreatDoor.Sim
end

section
/- CheckpointBreaks: whatever it is given, it answers yes. -/
namespace Go.Proofs.YtlkggeaibgaohaaGreatDoor.Sim
open Go

theorem main_breaks (p : T.Program.den) (w : T.World.den) (r : List Int) (hp : T.Program.bulk p ≤ 1048576) (hw : T.World.bulk w ≤ 1048576) (hr : r.length = 3) (hb : Bytes r) :
    R.simulatorlaw45_CheckpointBreaks (p, w, r, ()) = some (true, ()) := by
  obtain ⟨b, hf, h4⟩ := few_eq p w hp hw
  unfold R.simulatorlaw45_CheckpointBreaks
  have l0 : decide ((0 : Int) < ((r.length : Nat) : Int)) = true := decide_eq_true (by omega)
  have l1 : decide ((1 : Int) < ((r.length : Nat) : Int)) = true := decide_eq_true (by omega)
  have l2 : decide ((2 : Int) < ((r.length : Nat) : Int)) = true := decide_eq_true (by omega)
  obtain ⟨r0, r1, r2, rfl⟩ : ∃ a b c, r = [a, b, c] := by
    match r, hr with
    | [a, b, c], _ => exact ⟨a, b, c, rfl⟩
  have b0 := hb r0 (by simp)
  have b1 := hb r1 (by simp)
  have b2 := hb r2 (by simp)
  simp only [hf, Option.bind_some, l0, l1, l2, cond_true, awake_eq]
  have ho : ∀ c, optU (some ()) c () = some () := fun _ => rfl
  simp only [ho, Option.bind_some]
  cases b with
  | false => rfl
  | true =>
    have hd2 : List.getD [r0, r1, r2] 2 (0 : Int) = r2 := rfl
    have hd0 : List.getD [r0, r1, r2] 0 (0 : Int) = r0 := rfl
    have hd1 : List.getD [r0, r1, r2] 1 (0 : Int) = r1 := rfl
    simp only [hd0, hd1, hd2, Bool.not_true, cond_false]
    rcases Decidable.em (r2 = 0) with h0 | h0
    · rw [show (r2 == (0 : Int)) = true from by simp [h0]]; rfl
    · rw [show (r2 == (0 : Int)) = false from by simp [h0], cond_false]
      have h16 : w.length ≤ 16 := Nat.le_trans (h4 rfl) (by decide)
      rw [save_eq w hw h16]
      simp only [Option.bind_some]
      have hlen : 5 ≤ (saved w).length := by
        have h1 : 1 ≤ (encWorld w).length := app1 encL1
        unfold saved; rw [List.length_append, le4_len]; omega
      have hl : (saved w).length ≤ 10485764 := by
        have := world_le w
        unfold saved; rw [List.length_append, le4_len]; omega
      have w0 : IntKind.wrap .i64 r0 = r0 := wrap_i64 (by omega) (by omega)
      have w1 : IntKind.wrap .i64 r1 = r1 := wrap_i64 (by omega) (by omega)
      have w2 : IntKind.wrap .i64 (256 * r0) = 256 * r0 := wrap_i64 (by omega) (by omega)
      have w3 : IntKind.wrap .i64 (256 * r0 + r1) = 256 * r0 + r1 := wrap_i64 (by omega) (by omega)
      have hm : Int.tmod (256 * r0 + r1) ((saved w).length : Int) = (((256 * r0 + r1).toNat % (saved w).length : Nat) : Int) := by
        rw [Int.tmod_eq_emod_of_nonneg (by omega), Int.natCast_emod, Int.toNat_of_nonneg (by omega)]
      have hk : (256 * r0 + r1).toNat % (saved w).length < (saved w).length := Nat.mod_lt _ (by omega)
      have c0 : (bif ((0 : Int) != 0) then true else decide ((((saved w).length : Nat) : Int) < 5)) = false := by
        rw [decide_eq_false (by omega)]; rfl
      have c1 : Nat.ble ((saved w).length * 1) 140737488355328 = true := Nat.ble_eq_true_of_le (by omega)
      have c2 : decide ((((saved w).length : Nat) : Int) = 0) = false := decide_eq_false (by omega)
      simp only [w0, w1, w2, w3, hm, c0, c1, c2, lt_at hk, le_at, cond_true, cond_false, Bool.and_true, Bool.not_false, Option.bind_some, Int.toNat_natCast, Nat.zero_add, getD_at hk]
      have hx := saved_bytes w _ (List.getElem_mem hk)
      obtain ⟨hv, hne⟩ := turned hx b2 h0
      rw [show List.take (saved w).length ((saved w).set ((256 * r0 + r1).toNat % (saved w).length) (IntKind.wrap .u8 (((BitVec.toNat (HXor.hXor (BitVec.ofInt 8 (saved w)[(256 * r0 + r1).toNat % (saved w).length]) (BitVec.ofInt 8 r2))) : Nat) : Int))) = (saved w).set ((256 * r0 + r1).toNat % (saved w).length) (IntKind.wrap .u8 (((BitVec.toNat (HXor.hXor (BitVec.ofInt 8 (saved w)[(256 * r0 + r1).toNat % (saved w).length]) (BitVec.ofInt 8 r2))) : Nat) : Int)) from
        List.take_of_length_le (by rw [List.length_set]; exact Nat.le_refl _)]
      rw [broken p w hw _ hk _ hv hne]
      rfl

abbrev TsB : List Ty := [T.Program, T.World, .arr 3 (.int .u8)]
theorem plainB (x : denT TsB) (hb : bulkT TsB x ≤ 1048576) (hw : wfT TsB x) : R.simulatorlaw45_CheckpointBreaks x = some (true, ()) := by
  obtain ⟨p, w, r, ⟨⟩⟩ := x
  have h1 : T.Program.bulk p + (T.World.bulk w + ((Ty.arr 3 (.int .u8)).bulk r + 0)) ≤ 1048576 := hb
  have h2 : (Ty.arr 3 (.int .u8)).wf r := hw.2.2.1
  have h3 : List.length r = 3 ∧ ∀ i (h : i < List.length r), inKind .u8 (r[i]'h) := by
    rw [Ty.wf] at h2
    exact ⟨h2.1, fun i h => by have := h2.2 i h; rwa [Ty.wf] at this⟩
  refine main_breaks p w r (by omega) (by omega) h3.1 fun c hc => ?_
  obtain ⟨i, hi, rfl⟩ := List.mem_iff_getElem.1 hc
  have h4 : IntKind.min .u8 ≤ r[i] ∧ r[i] ≤ IntKind.max .u8 := h3.2 i hi
  have e1 : IntKind.min .u8 = 0 := rfl
  have e2 : IntKind.max .u8 = 255 := rfl
  rw [e1, e2] at h4
  exact ⟨h4.1, Int.lt_of_le_of_lt h4.2 (by decide)⟩
end Go.Proofs.YtlkggeaibgaohaaGreatDoor.Sim
end
