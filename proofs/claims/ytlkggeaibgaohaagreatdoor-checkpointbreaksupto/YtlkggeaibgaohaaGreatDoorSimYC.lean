/- Regions whose order is drawn: what is asked, and that any order gives what the text's order gives. -/
import Derived.Test.YtlkggeaibgaohaaGreatDoorSimYB
namespace Go.Proofs.YtlkggeaibgaohaaGreatDoor.Sim
open Go Go.RowKit

/- Who comes before whom -/

def nthN : List Nat → Nat → Nat
  | [], _ => 0
  | x :: _, 0 => x
  | _ :: r, i + 1 => nthN r i
def bindsA (e : Edge) : Bool := match e.ground with
  | .textOnly _ => false
  | .gcOnly _ => false
  | _ => true
theorem bindsA_eq (e : Edge) : Region.binds .any e = bindsA e := by
  unfold Region.binds bindsA
  cases e.ground <;> rfl
def maskE (A : List Nat) : List Edge → Nat
  | [] => 0
  | e :: r => cond (bindsA e) ((1 <<< e.on) ||| (nthN A e.on ||| maskE A r)) (maskE A r)
/-- Of each operation those that come before it, as a number's bits. -/
def ancs : List Oper → List Nat → List Nat
  | [], A => A
  | o :: l, A => ancs l (A ++ [maskE A o.after.toList])
def edgesLt (i : Nat) : List Edge → Bool
  | [] => true
  | e :: r => cond (bindsA e) (cond (Nat.blt e.on i) (edgesLt i r) false) (edgesLt i r)
def ancOk (A : List Nat) : List Oper → Nat → Bool
  | [], _ => true
  | o :: l, i => cond (edgesLt i o.after.toList) (cond (Nat.beq (nthN A i) (maskE A o.after.toList)) (ancOk A l (i + 1)) false) false

theorem maskE_bit {A : List Nat} {j : Nat} : ∀ {l : List Edge}, Nat.testBit (maskE A l) j = true → ∃ e ∈ l, bindsA e = true ∧ (j = e.on ∨ Nat.testBit (nthN A e.on) j = true)
  | [], h => by simp [maskE] at h
  | e :: r, h => by
    simp only [maskE] at h
    cases hb : bindsA e with
    | false =>
      rw [hb] at h
      obtain ⟨e', h1, h2⟩ := maskE_bit h
      exact ⟨e', List.mem_cons_of_mem _ h1, h2⟩
    | true =>
      rw [hb] at h
      simp only [cond_true, Nat.testBit_or, Bool.or_eq_true] at h
      rcases h with h | h | h
      · refine ⟨e, List.mem_cons_self .., hb, .inl ?_⟩
        rw [Nat.shiftLeft_eq, Nat.one_mul, Nat.testBit_two_pow] at h
        simpa using (of_decide_eq_true h).symm
      · exact ⟨e, List.mem_cons_self .., hb, .inr h⟩
      · obtain ⟨e', h1, h2⟩ := maskE_bit h
        exact ⟨e', List.mem_cons_of_mem _ h1, h2⟩
theorem edgesLt_mem {i : Nat} {e : Edge} : ∀ {l : List Edge}, edgesLt i l = true → e ∈ l → bindsA e = true → e.on < i
  | e' :: r, h, hm, hb => by
    simp only [edgesLt] at h
    rcases List.mem_cons.1 hm with rfl | hm
    · rw [hb] at h
      simp only [cond_true] at h
      cases hl : Nat.blt e.on i with
      | false => rw [hl] at h; cases h
      | true => simpa [Nat.blt_eq] using hl
    · refine edgesLt_mem ?_ hm hb
      cases hb' : bindsA e' with
      | false => rw [hb'] at h; exact h
      | true =>
        rw [hb'] at h
        simp only [cond_true] at h
        cases hl : Nat.blt e'.on i with
        | false => rw [hl] at h; cases h
        | true => rw [hl] at h; exact h
theorem ancOk_at {A : List Nat} : ∀ {l : List Oper} {i k : Nat} {o : Oper}, ancOk A l i = true → l[k]? = some o → edgesLt (i + k) o.after.toList = true ∧ nthN A (i + k) = maskE A o.after.toList
  | [], i, k, o, h, hk => by simp at hk
  | o' :: l, i, k, o, h, hk => by
    simp only [ancOk] at h
    cases h1 : edgesLt i o'.after.toList with
    | false => rw [h1] at h; cases h
    | true =>
      rw [h1] at h
      simp only [cond_true] at h
      cases h2 : Nat.beq (nthN A i) (maskE A o'.after.toList) with
      | false => rw [h2] at h; cases h
      | true =>
        rw [h2] at h
        simp only [cond_true] at h
        cases k with
        | zero =>
          simp only [List.getElem?_cons_zero, Option.some.injEq] at hk
          subst hk
          exact ⟨h1, Nat.eq_of_beq_eq_true h2⟩
        | succ k =>
          rw [List.getElem?_cons_succ] at hk
          have := ancOk_at h hk
          rw [show i + (k + 1) = i + 1 + k by omega]
          exact this

/- What is asked of a region -/

def ordered (A : List Nat) (i j : Nat) : Bool := cond (Nat.beq i j) true (cond (Nat.blt j i) (Nat.testBit (nthN A i) j) (Nat.testBit (nthN A j) i))
/-- Who writes t comes before or behind operation i. -/
def readT (A : List Nat) (t i : Nat) : List Oper → Nat → Bool
  | [], _ => true
  | o :: l, j => cond (match o.dst with | some d => Nat.beq d t | none => false) (cond (ordered A i j) (readT A t i l (j + 1)) false) (readT A t i l (j + 1))
def readL (A : List Nat) (all : List Oper) (i : Nat) : List Operand → Bool
  | [] => true
  | .tmp t :: r => cond (readT A t i all 0) (readL A all i r) false
  | _ :: r => readL A all i r
def readsOk (A : List Nat) (all : List Oper) : List Oper → Nat → Bool
  | [], _ => true
  | o :: l, i => cond (readL A all i o.op.operands.toList) (cond (match o.guard with | some (j, _) => Nat.testBit (nthN A i) j | none => true) (readsOk A all l (i + 1)) false) false
def chain1 (A : List Nat) (f : Nat) : List (Nat × List Nat) → Bool
  | [] => true
  | (e, _) :: r => cond (cond (Nat.blt e f) (Nat.testBit (nthN A f) e) true) (chain1 A f r) false
def chainOk (A : List Nat) (T : List (Nat × List Nat)) : List (Nat × List Nat) → Bool
  | [] => true
  | (f, _) :: r => cond (chain1 A f T) (chainOk A T r) false
def drawOk (l : List Oper) (A : List Nat) (T : List (Nat × List Nat)) : Bool :=
  cond (ancOk A l 0) (cond (readsOk A l l 0) (chainOk A T T) false) false

theorem readT_at {A : List Nat} {t i : Nat} : ∀ {l : List Oper} {j k : Nat} {o : Oper}, readT A t i l j = true → l[k]? = some o → o.dst = some t → ordered A i (j + k) = true
  | [], j, k, o, h, hk, hd => by simp at hk
  | o' :: l, j, k, o, h, hk, hd => by
    simp only [readT] at h
    cases k with
    | zero =>
      simp only [List.getElem?_cons_zero, Option.some.injEq] at hk
      subst hk
      rw [hd] at h
      simp only [Nat.beq_refl, cond_true] at h
      cases ho : ordered A i j with
      | true => simp
      | false => rw [ho] at h; cases h
    | succ k =>
      rw [List.getElem?_cons_succ] at hk
      have : readT A t i l (j + 1) = true := by
        split at h
        · rename_i d _
          cases hb : Nat.beq d t with
          | false => rw [hb] at h; exact h
          | true =>
            rw [hb] at h
            simp only [cond_true] at h
            cases ho : ordered A i j with
            | true => rw [ho] at h; exact h
            | false => rw [ho] at h; cases h
        · exact h
      have := readT_at this hk hd
      rwa [show j + (k + 1) = j + 1 + k by omega]
theorem readL_at {A : List Nat} {all : List Oper} {i t : Nat} : ∀ {l : List Operand}, readL A all i l = true → .tmp t ∈ l → readT A t i all 0 = true
  | x :: r, h, hm => by
    rcases List.mem_cons.1 hm with rfl | hm
    · simp only [readL] at h
      cases hr : readT A t i all 0 with
      | true => rfl
      | false => rw [hr] at h; cases h
    · refine readL_at ?_ hm
      cases x <;> simp only [readL] at h
      case tmp u =>
        cases hr : readT A u i all 0 with
        | true => rw [hr] at h; exact h
        | false => rw [hr] at h; cases h
      all_goals exact h
theorem readsOk_at {A : List Nat} {all : List Oper} : ∀ {l : List Oper} {i k : Nat} {o : Oper}, readsOk A all l i = true → l[k]? = some o →
    readL A all (i + k) o.op.operands.toList = true ∧ ∀ j w, o.guard = some (j, w) → Nat.testBit (nthN A (i + k)) j = true
  | [], i, k, o, h, hk => by simp at hk
  | o' :: l, i, k, o, h, hk => by
    simp only [readsOk] at h
    cases h1 : readL A all i o'.op.operands.toList with
    | false => rw [h1] at h; cases h
    | true =>
      rw [h1] at h
      simp only [cond_true] at h
      cases h2 : (match o'.guard with | some (j, _) => Nat.testBit (nthN A i) j | none => true) with
      | false => rw [h2] at h; cases h
      | true =>
        rw [h2] at h
        simp only [cond_true] at h
        cases k with
        | zero =>
          simp only [List.getElem?_cons_zero, Option.some.injEq] at hk
          subst hk
          exact ⟨h1, fun j w hg => by rw [hg] at h2; exact h2⟩
        | succ k =>
          rw [List.getElem?_cons_succ] at hk
          have := readsOk_at h hk
          rwa [show i + (k + 1) = i + 1 + k by omega]
theorem chain1_at {A : List Nat} {e f : Nat} {l : List Nat} : ∀ {T : List (Nat × List Nat)}, chain1 A f T = true → (e, l) ∈ T → e < f → Nat.testBit (nthN A f) e = true
  | (e', l') :: r, h, hm, hlt => by
    simp only [chain1] at h
    cases hc : (cond (Nat.blt e' f) (Nat.testBit (nthN A f) e') true) with
    | false => rw [hc] at h; cases h
    | true =>
      rw [hc] at h
      simp only [cond_true] at h
      rcases List.mem_cons.1 hm with he | hm
      · cases he
        have : Nat.blt e f = true := by simpa [Nat.blt_eq] using hlt
        rw [this] at hc
        exact hc
      · exact chain1_at h hm hlt
theorem chainOk_at {A : List Nat} {T : List (Nat × List Nat)} {f : Nat} {l : List Nat} : ∀ {T' : List (Nat × List Nat)}, chainOk A T T' = true → (f, l) ∈ T' → chain1 A f T = true
  | (f', l') :: r, h, hm => by
    simp only [chainOk] at h
    cases hc : chain1 A f' T with
    | false => rw [hc] at h; cases h
    | true =>
      rw [hc] at h
      rcases List.mem_cons.1 hm with he | hm
      · cases he; exact hc
      · exact chainOk_at h hm

/- The run -/

def hideH (l : List Nat) (n : Nat) : List (Nat × OB) → List (Nat × OB)
  | [] => []
  | (k, o) :: r => cond (cond (Nat.blt k n) (memN k l) true) (hideH l n r) ((k, o) :: hideH l n r)
theorem find_hideH {l : List Nat} {n k : Nat} {o : OB} : ∀ {h : List (Nat × OB)}, find (hideH l n h) k = some o → k < n ∧ memN k l = false ∧ find h k = some o
  | (j, o') :: r, hf => by
    simp only [hideH] at hf
    cases hc : (cond (Nat.blt j n) (memN j l) true) with
    | true =>
      rw [hc] at hf
      simp only [cond_true] at hf
      obtain ⟨h1, h2, h3⟩ := find_hideH hf
      refine ⟨h1, h2, ?_⟩
      rw [find_cons, if_neg (fun e => ?_)]
      · exact h3
      · subst e
        have : Nat.blt j n = true := by simpa [Nat.blt_eq] using h1
        rw [this, cond_true, h2] at hc
        cases hc
    | false =>
      rw [hc] at hf
      simp only [cond_false] at hf
      rw [find_cons] at hf ⊢
      by_cases e : j = k
      · subst e
        rw [if_pos rfl] at hf ⊢
        cases hb : Nat.blt j n with
        | false => rw [hb] at hc; cases hc
        | true =>
          rw [hb] at hc
          exact ⟨by simpa [Nat.blt_eq] using hb, hc, hf⟩
      · rw [if_neg e] at hf ⊢
        exact find_hideH hf
def St.hide (st : St) (hd : Option (List Nat)) (n : Nat) : St := match hd with
  | none => st
  | some l => { st with heap := hideH l n st.heap }
def subL (all : List Nat) : List Nat → Bool
  | [] => true
  | x :: r => cond (memN x all) (subL all r) false
theorem subL_mem {all : List Nat} {x : Nat} : ∀ {l : List Nat}, subL all l = true → memN x all = false → memN x l = false
  | [], _, _ => rfl
  | y :: r, h, hx => by
    simp only [subL] at h
    simp only [memN]
    cases hy : memN y all with
    | false => rw [hy] at h; cases h
    | true =>
      rw [hy] at h
      cases hb : Nat.beq x y with
      | true => have := Nat.eq_of_beq_eq_true hb; subst this; rw [hx] at hy; cases hy
      | false => exact subL_mem h hx
/-- The objects that may turn while operation i waits; none: there are no such. -/
def hidden (A : List Nat) (i : Nat) : List (Nat × List Nat) → Option (List Nat)
  | [] => none
  | (e, l) :: r => cond (cond (Nat.beq e i) true (cond (Nat.testBit (nthN A i) e) true (Nat.testBit (nthN A e) i))) (hidden A i r) (match hidden A i r with
    | none => some l
    | some l' => some (l ++ l'))
theorem memN_append {x : Nat} : ∀ {l r : List Nat}, memN x (l ++ r) = false → memN x l = false ∧ memN x r = false
  | [], r, h => ⟨rfl, h⟩
  | y :: l, r, h => by
    simp only [List.cons_append, memN] at h ⊢
    cases hb : Nat.beq x y with
    | true => rw [hb] at h; cases h
    | false => rw [hb] at h; exact memN_append h
theorem hidden_at {A : List Nat} {i e : Nat} {l : List Nat} (h1 : e ≠ i) (h2 : Nat.testBit (nthN A i) e = false) (h3 : Nat.testBit (nthN A e) i = false) : ∀ {T : List (Nat × List Nat)}, (e, l) ∈ T →
    ∃ hl, hidden A i T = some hl ∧ ∀ x, memN x hl = false → memN x l = false
  | (f, l') :: r, hm => by
    simp only [hidden]
    rcases List.mem_cons.1 hm with he | hm
    · cases he
      have hb : Nat.beq e i = false := by
        cases hb : Nat.beq e i with
        | false => rfl
        | true => exact absurd (Nat.eq_of_beq_eq_true hb) h1
      rw [hb, h2, h3]
      simp only [cond_false]
      cases hidden A i r with
      | none => exact ⟨l, rfl, fun _ h => h⟩
      | some l' => exact ⟨l ++ l', rfl, fun _ h => (memN_append h).1⟩
    · obtain ⟨hl, k1, k2⟩ := hidden_at h1 h2 h3 hm
      rw [k1]
      cases (cond (Nat.beq f i) true (cond (Nat.testBit (nthN A i) f) true (Nat.testBit (nthN A f) i))) with
      | true => exact ⟨hl, rfl, k2⟩
      | false => exact ⟨l' ++ hl, rfl, fun x hx => k2 x (memN_append hx).2⟩

def stepD {R : Type} (E : Env) (nt : Nat) (pb : Bool) (ops : Array Oper) (T : List (Nat × List Nat)) (hd : Nat → Option (List Nat)) (n0 i : Nat) (st : St) (o : Oper) (K : St → Option R) : Option R :=
  cond (dstOk nt st o.dst) (match find T i with
    | none => match o.guard with
      | none => match pureOp E.G E.sp (st.hide (hd i) n0) o.op with
        | some cp => bindC pb cp fun a => K (putDst st o.dst (.av a))
        | none => none
      | some (j, want) => match dstOf ops j with
        | some t => match ctxG 8 st t want with
          | some (l, b) => match pureOp E.G E.sp ((st.given l).hide (hd i) n0) o.op with
            | some cp => bindC pb ⟨cp.X, cp.dflt, gC (isCall o.op) cp.c b cp.dflt, cp.out⟩ fun a => K (putDst st o.dst (.when t want a))
            | none => none
          | none => none
        | none => none
    | some tl => match o.guard with
      | none => match pureOp E.G E.sp st o.op with
        | none => match effOp E st o.dst o.op with
          | some cp => cond (subL tl (touch E st o.op)) (bindC pb cp fun e => K (putDst (st.upd e) o.dst (.av e.1))) none
          | none => none
        | some _ => none
      | some _ => none) none
def opsD {R : Type} (E : Env) (nt : Nat) (pb : Bool) (ops : Array Oper) (T : List (Nat × List Nat)) (hd : Nat → Option (List Nat)) (n0 : Nat) : List Oper → Nat → St → (St → Option R) → Option R
  | [], _, st, K => K st
  | o :: l, i, st, K => stepD E nt pb ops T hd n0 i st o fun st' => opsD E nt pb ops T hd n0 l (i + 1) st' K
/-- A first go: which operations turn objects, and which. -/
def tchL (E : Env) (nt : Nat) (ops : Array Oper) : List Oper → Nat → St → Option (List (Nat × List Nat))
  | [], _, _ => some []
  | o :: l, i, st => stepOp E nt true ops st o fun st' => match tchL E nt ops l (i + 1) st' with
    | none => none
    | some T => some (match o.guard with
      | none => match pureOp E.G E.sp st o.op with
        | none => (i, touch E st o.op) :: T
        | some _ => T
      | some _ => T)
/-- The operations of a region whose order is drawn. -/
def drawK {R : Type} (E : Env) (nt : Nat) (pb : Bool) (ops : Array Oper) (st : St) (K : St → Option R) : Option R :=
  match tchL E nt ops ops.toList 0 st with
  | none => none
  | some T => let A := ancs ops.toList []
    cond (drawOk ops.toList A T) (opsD E nt pb ops T (fun i => hidden A i T) st.nx ops.toList 0 st K) none

end Go.Proofs.YtlkggeaibgaohaaGreatDoor.Sim
