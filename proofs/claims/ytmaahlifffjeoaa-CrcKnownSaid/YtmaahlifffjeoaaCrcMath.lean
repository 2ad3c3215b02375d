/- A part of the proof: CrcMath. No conditions of its own beyond those that its theorems name. -/
namespace Crc
def D : BitVec 32 := 0x82f63b78#32
/-- one step: a bit comes in -/
def st (x : BitVec 32) : BitVec 32 := (x >>> 1) ^^^ (if x.getLsbD 0 then D else 0#32)
def bit (b : Bool) : BitVec 32 := if b then 1#32 else 0#32
def step (x : BitVec 32) (b : Bool) : BitVec 32 := st (x ^^^ bit b)
def run (x : BitVec 32) (l : List Bool) : BitVec 32 := l.foldl step x

theorem st_xor (x y : BitVec 32) : st (x ^^^ y) = st x ^^^ st y := by
  unfold st
  simp only [BitVec.getLsbD_xor]
  rcases Bool.eq_false_or_eq_true (x.getLsbD 0) with hx | hx <;> rcases Bool.eq_false_or_eq_true (y.getLsbD 0) with hy | hy <;>
    simp only [hx, hy] <;> ext i hi <;> simp <;> cases D[i] <;> cases (x[1+i]?) <;> simp
theorem st_zero : st 0#32 = 0#32 := by decide

theorem bit_xor (a b : Bool) : bit (a ^^ b) = bit a ^^^ bit b := by cases a <;> cases b <;> decide

theorem step_xor (x y : BitVec 32) (a b : Bool) : step (x ^^^ y) (a ^^ b) = step x a ^^^ step y b := by
  unfold step
  rw [← st_xor, bit_xor]
  congr 1
  ac_rfl

theorem run_append (x : BitVec 32) (a b : List Bool) : run x (a ++ b) = run (run x a) b := by
  simp [run, List.foldl_append]

theorem run_xor (a : List Bool) : ∀ (b : List Bool) (x y : BitVec 32), a.length = b.length → run (x ^^^ y) (List.zipWith (· ^^ ·) a b) = run x a ^^^ run y b := by
  induction a with
  | nil => intro b x y h; cases b with | nil => rfl | cons => simp at h
  | cons c a ih =>
    intro b x y h
    cases b with
    | nil => simp at h
    | cons d b =>
      simp only [List.length_cons, Nat.add_right_cancel_iff] at h
      show run (step (x ^^^ y) (c ^^ d)) _ = run (step x c) a ^^^ run (step y d) b
      rw [step_xor]
      exact ih b _ _ h

theorem st_eq_zero (x : BitVec 32) (h : st x = 0#32) : x = 0#32 := by
  have h31 := congrArg (·.getLsbD 31) h
  unfold st at h h31
  by_cases hx : x.getLsbD 0 = true
  · simp [hx, D] at h31
  · have hx' : x.getLsbD 0 = false := by simpa using hx
    simp only [hx', Bool.false_eq_true, if_false, BitVec.xor_zero] at h
    apply BitVec.eq_of_getLsbD_eq
    intro i hi
    cases i with
    | zero => exact hx'
    | succ i =>
      have := congrArg (·.getLsbD i) h
      simp at this
      rw [Nat.add_comm] at this
      simp [this]

def iter : Nat → BitVec 32 → BitVec 32
  | 0, x => x
  | n + 1, x => iter n (st x)

theorem iter_eq_zero (n : Nat) : ∀ x, iter n x = 0#32 → x = 0#32 := by
  induction n with
  | zero => exact fun _ h => h
  | succ n ih => exact fun x h => st_eq_zero x (ih _ h)

theorem iter_xor (n : Nat) : ∀ x y, iter n (x ^^^ y) = iter n x ^^^ iter n y := by
  induction n with
  | zero => exact fun _ _ => rfl
  | succ n ih => intro x y; simp only [iter, st_xor, ih]

theorem run_false (n : Nat) : ∀ x, run x (List.replicate n false) = iter n x := by
  induction n with
  | zero => exact fun _ => rfl
  | succ n ih =>
    intro x
    simp only [List.replicate_succ, iter]
    show run (step x false) _ = _
    rw [ih]; simp [step, bit]

theorem iter_zero (n : Nat) : iter n 0#32 = 0#32 := by
  induction n with
  | zero => rfl
  | succ n ih => simp only [iter, st_zero, ih]

/-- bits as a word: the first bit is the lowest -/
def word : List Bool → Nat
  | [] => 0
  | b :: l => b.toNat + 2 * word l

theorem word_lt (l : List Bool) : word l < 2 ^ l.length := by
  induction l with
  | nil => simp [word]
  | cons b l ih =>
    simp only [word, List.length_cons, Nat.pow_succ]
    cases b <;> simp <;> omega

theorem word_pos (l : List Bool) (h : true ∈ l) : 0 < word l := by
  induction l with
  | nil => simp at h
  | cons b l ih =>
    simp only [word]
    cases b with
    | true => simp; omega
    | false => simp at h; have := ih h; omega

theorem st_double (n : Nat) (h : n < 2 ^ 31) : st (BitVec.ofNat 32 (2 * n)) = BitVec.ofNat 32 n := by
  unfold st
  have h0 : (BitVec.ofNat 32 (2 * n)).getLsbD 0 = false := by
    rw [BitVec.getLsbD_ofNat]; simp
  rw [h0]
  apply BitVec.eq_of_toNat_eq
  simp [Nat.shiftRight_eq_div_pow]
  omega

theorem bit_word (b : Bool) (n : Nat) : BitVec.ofNat 32 (b.toNat + 2 * n) = bit b ^^^ BitVec.ofNat 32 (2 * n) := by
  apply BitVec.eq_of_getLsbD_eq
  intro i hi
  cases b with
  | false => simp [bit]
  | true =>
    simp only [bit, if_true, Bool.toNat_true, BitVec.getLsbD_xor, BitVec.getLsbD_ofNat, hi, decide_true, Bool.true_and]
    cases i with
    | zero => simp [Nat.testBit_zero]; 
    | succ i =>
      have : (1 : Nat).testBit (i+1) = false := by simp [Nat.testBit_succ]
      simp [Nat.testBit_succ]
      have : (1 + 2 * n) / 2 = n := by omega
      rw [this]

theorem run_word (l : List Bool) : ∀ x, l.length ≤ 32 → run x l = iter l.length (x ^^^ BitVec.ofNat 32 (word l)) := by
  induction l with
  | nil => intro x _; simp [run, word, iter]
  | cons b l ih =>
    intro x h
    simp only [List.length_cons] at h
    have hw : word l < 2 ^ 31 := Nat.lt_of_lt_of_le (word_lt l) (Nat.pow_le_pow_right (by decide) (by omega))
    show run (step x b) l = iter l.length (st (x ^^^ BitVec.ofNat 32 (b.toNat + 2 * word l)))
    rw [ih _ (by omega), bit_word _ _, ← BitVec.xor_assoc, st_xor, st_double _ hw]
    rfl

/-- A burst of at most 32 bits is seen. -/
theorem run_burst (n m : Nat) (l : List Bool) (hl : l.length ≤ 32) (ht : true ∈ l) :
    run 0#32 (List.replicate n false ++ l ++ List.replicate m false) ≠ 0#32 := by
  rw [run_append, run_append, run_false, run_false, iter_zero, run_word l _ hl]
  intro h
  have h1 := iter_eq_zero _ _ (iter_eq_zero _ _ h)
  simp only [BitVec.zero_xor] at h1
  have h2 := congrArg BitVec.toNat h1
  have h3 := word_lt l
  have h4 := word_pos l ht
  have h5 : 2 ^ l.length ≤ 2 ^ 32 := Nat.pow_le_pow_right (by decide) hl
  simp only [BitVec.toNat_ofNat, Nat.reducePow] at h2 h5
  omega
/-- xor onto the head of a list -/
def xp : List Bool → List Bool → List Bool
  | [], l => l
  | _ :: _, [] => []
  | a :: as, b :: bs => (a ^^ b) :: xp as bs

theorem xp_length (a : List Bool) : ∀ l : List Bool, (xp a l).length = l.length := by
  induction a with
  | nil => intro l; rfl
  | cons x a ih => intro l; cases l with
    | nil => rfl
    | cons y l => simp [xp, ih]

theorem xp_xp (a : List Bool) : ∀ (b l : List Bool), a.length = b.length → xp a (xp b l) = xp (List.zipWith (· ^^ ·) a b) l := by
  induction a with
  | nil => intro b l h; cases b with | nil => rfl | cons => simp at h
  | cons x a ih =>
    intro b l h
    cases b with
    | nil => simp at h
    | cons y b =>
      cases l with
      | nil => rfl
      | cons z l =>
        simp only [List.length_cons, Nat.add_right_cancel_iff] at h
        simp only [xp, List.zipWith_cons_cons, ih b l h, Bool.xor_assoc]

def regbits (x : BitVec 32) : List Bool := (List.range 32).map x.getLsbD

/-- divisor behind its first coefficient, highest power first -/
def dtail : List Bool := regbits D

/-- the division: m heads go -/
def div : Nat → List Bool → List Bool
  | 0, l => l
  | _ + 1, [] => []
  | m + 1, b :: l => div m (if b then xp dtail l else l)

theorem regbits_length (x : BitVec 32) : (regbits x).length = 32 := by simp [regbits]

theorem regbits_get (x : BitVec 32) (i : Nat) (h : i < 32) : (regbits x)[i]? = some (x.getLsbD i) := by
  simp [regbits, h]

theorem regbits_cons (x : BitVec 32) : regbits x = x.getLsbD 0 :: (regbits x).tail := by
  rfl

theorem xp_false (a : List Bool) (b : Bool) (hb : b = false) : ∀ l : List Bool, a.length < l.length → xp (a ++ [b]) l = xp a l := by
  subst hb
  induction a with
  | nil => intro l h; cases l with | nil => simp at h | cons y l => simp [xp]
  | cons x a ih =>
    intro l h
    cases l with
    | nil => rfl
    | cons y l => simp only [List.length_cons, Nat.add_lt_add_iff_right] at h; simp only [List.cons_append, xp, ih l h]

theorem regbits_st (x : BitVec 32) (c : Bool) : regbits (step x c) = if (x.getLsbD 0 ^^ c) then List.zipWith (· ^^ ·) dtail ((regbits x).tail ++ [false]) else (regbits x).tail ++ [false] := by
  apply List.ext_getElem?
  intro i
  by_cases hi : i < 32
  · rw [regbits_get _ _ hi]
    have h1 : ((regbits x).tail ++ [false])[i]? = some (x.getLsbD (i + 1)) := by
      by_cases h : i = 31
      · subst h
        rw [List.getElem?_append_right (by simp [regbits_length])]
        simp [regbits_length]
      · rw [List.getElem?_append_left (by simp [regbits_length]; omega), List.getElem?_tail, regbits_get _ _ (by omega)]
    have h0 : (x ^^^ bit c).getLsbD 0 = (x.getLsbD 0 ^^ c) := by cases c <;> simp [bit]
    have h2 : (step x c).getLsbD i = (x.getLsbD (i + 1) ^^ ((x.getLsbD 0 ^^ c) && D.getLsbD i)) := by
      unfold step st
      rw [h0]
      have h3 : (bit c).getLsbD (1 + i) = false := by cases c <;> simp [bit] 
      cases (x.getLsbD 0 ^^ c) <;> simp [h3, Nat.add_comm]
      all_goals (have h3' := h3; rw [Nat.add_comm] at h3'; simp [h3'])
    rw [h2]
    cases (x.getLsbD 0 ^^ c) with
    | false => simp [h1]
    | true =>
      simp only [Bool.true_and, if_true, List.getElem?_zipWith, h1, dtail, regbits_get _ _ hi, Option.some.injEq]
      rw [Bool.xor_comm]
  · have : ∀ l : List Bool, l.length = 32 → l[i]? = none := fun l hl => List.getElem?_eq_none (by omega)
    rw [this _ (regbits_length _), this]
    split <;> simp [regbits_length, dtail]

/-- The registers way is the division. -/
theorem div_run (msg : List Bool) : ∀ x, div msg.length (xp (regbits x) (msg ++ List.replicate 32 false)) = regbits (run x msg) := by
  induction msg with
  | nil =>
    intro x
    have : ∀ (l : List Bool) , xp l (List.replicate l.length false) = l := by
      intro l; induction l with
      | nil => rfl
      | cons a l ih => simp [List.replicate_succ, xp, ih]
    have h := this (regbits x)
    rw [regbits_length] at h
    simpa [div, run] using h
  | cons c msg ih =>
    intro x
    rw [regbits_cons]
    simp only [List.cons_append, xp, List.length_cons, div]
    have hl : (regbits x).tail.length < (msg ++ List.replicate 32 false).length := by simp [regbits_length]
    have hr : run x (c :: msg) = run (step x c) msg := rfl
    rw [hr, ← ih, regbits_st]
    cases (x.getLsbD 0 ^^ c) with
    | false => simp only [Bool.false_eq_true, if_false]; rw [xp_false _ _ rfl _ hl]
    | true =>
      simp only [if_true]
      rw [← xp_xp _ _ _ (by simp [dtail, regbits_length]), xp_false _ _ rfl _ hl]
end Crc
