/- Plain laws of the store: the device. -/
import Derived.Test.YthdpkcolbgoecaaStD
import Derived.Laws.BitsLemmas
import Derived.KernelRfl
import Derived.Laws.Strings

namespace Crc
def D : BitVec 32 := 0x82f63b78#32
/-- one step: a bit comes in -/
def st (x : BitVec 32) : BitVec 32 := (x >>> 1) ^^^ (if x.getLsbD 0 then D else 0#32)
def bit (b : Bool) : BitVec 32 := if b then 1#32 else 0#32
def step (x : BitVec 32) (b : Bool) : BitVec 32 := st (x ^^^ bit b)
def run (x : BitVec 32) (l : List Bool) : BitVec 32 := l.foldl step x

theorem st_xor (x y : BitVec 32) : st (x ^^^ y) = st x ^^^ st y := by
  unfold st
  simp only [BitVec.getLsbD_xor]
  rcases Bool.eq_false_or_eq_true (x.getLsbD 0) with hx | hx <;> rcases Bool.eq_false_or_eq_true (y.getLsbD 0) with hy | hy <;>
    simp only [hx, hy] <;> ext i hi <;> simp <;> cases D[i] <;> cases (x[1+i]?) <;> simp
theorem st_zero : st 0#32 = 0#32 := by decide

theorem bit_xor (a b : Bool) : bit (a ^^ b) = bit a ^^^ bit b := by cases a <;> cases b <;> decide

theorem step_xor (x y : BitVec 32) (a b : Bool) : step (x ^^^ y) (a ^^ b) = step x a ^^^ step y b := by
  unfold step
  rw [← st_xor, bit_xor]
  congr 1
  ac_rfl

theorem run_append (x : BitVec 32) (a b : List Bool) : run x (a ++ b) = run (run x a) b := by
  simp [run, List.foldl_append]

theorem run_xor (a : List Bool) : ∀ (b : List Bool) (x y : BitVec 32), a.length = b.length → run (x ^^^ y) (List.zipWith (· ^^ ·) a b) = run x a ^^^ run y b := by
  induction a with
  | nil => intro b x y h; cases b with | nil => rfl | cons => simp at h
  | cons c a ih =>
    intro b x y h
    cases b with
    | nil => simp at h
    | cons d b =>
      simp only [List.length_cons, Nat.add_right_cancel_iff] at h
      show run (step (x ^^^ y) (c ^^ d)) _ = run (step x c) a ^^^ run (step y d) b
      rw [step_xor]
      exact ih b _ _ h

theorem st_eq_zero (x : BitVec 32) (h : st x = 0#32) : x = 0#32 := by
  have h31 := congrArg (·.getLsbD 31) h
  unfold st at h h31
  by_cases hx : x.getLsbD 0 = true
  · simp [hx, D] at h31
  · have hx' : x.getLsbD 0 = false := by simpa using hx
    simp only [hx', Bool.false_eq_true, if_false, BitVec.xor_zero] at h
    apply BitVec.eq_of_getLsbD_eq
    intro i hi
    cases i with
    | zero => exact hx'
    | succ i =>
      have := congrArg (·.getLsbD i) h
      simp at this
      rw [Nat.add_comm] at this
      simp [this]

def iter : Nat → BitVec 32 → BitVec 32
  | 0, x => x
  | n + 1, x => iter n (st x)

theorem iter_eq_zero (n : Nat) : ∀ x, iter n x = 0#32 → x = 0#32 := by
  induction n with
  | zero => exact fun _ h => h
  | succ n ih => exact fun x h => st_eq_zero x (ih _ h)

theorem iter_xor (n : Nat) : ∀ x y, iter n (x ^^^ y) = iter n x ^^^ iter n y := by
  induction n with
  | zero => exact fun _ _ => rfl
  | succ n ih => intro x y; simp only [iter, st_xor, ih]

theorem run_false (n : Nat) : ∀ x, run x (List.replicate n false) = iter n x := by
  induction n with
  | zero => exact fun _ => rfl
  | succ n ih =>
    intro x
    simp only [List.replicate_succ, iter]
    show run (step x false) _ = _
    rw [ih]; simp [step, bit]

theorem iter_zero (n : Nat) : iter n 0#32 = 0#32 := by
  induction n with
  | zero => rfl
  | succ n ih => simp only [iter, st_zero, ih]

/-- bits as1 a word: the first bit is the lowest -/
def word : List Bool → Nat
  | [] => 0
  | b :: l => b.toNat + 2 * word l

theorem word_lt (l : List Bool) : word l < 2 ^ l.length := by
  induction l with
  | nil => simp [word]
  | cons b l ih =>
    simp only [word, List.length_cons, Nat.pow_succ]
    cases b <;> simp <;> omega

theorem word_pos (l : List Bool) (h : true ∈ l) : 0 < word l := by
  induction l with
  | nil => simp at h
  | cons b l ih =>
    simp only [word]
    cases b with
    | true => simp; omega
    | false => simp at h; have := ih h; omega

theorem st_double (n : Nat) (h : n < 2 ^ 31) : st (BitVec.ofNat 32 (2 * n)) = BitVec.ofNat 32 n := by
  unfold st
  have h0 : (BitVec.ofNat 32 (2 * n)).getLsbD 0 = false := by
    rw [BitVec.getLsbD_ofNat]; simp
  rw [h0]
  apply BitVec.eq_of_toNat_eq
  simp [Nat.shiftRight_eq_div_pow]
  omega

theorem bit_word (b : Bool) (n : Nat) : BitVec.ofNat 32 (b.toNat + 2 * n) = bit b ^^^ BitVec.ofNat 32 (2 * n) := by
  apply BitVec.eq_of_getLsbD_eq
  intro i hi
  cases b with
  | false => simp [bit]
  | true =>
    simp only [bit, if_true, Bool.toNat_true, BitVec.getLsbD_xor, BitVec.getLsbD_ofNat, hi, decide_true, Bool.true_and]
    cases i with
    | zero => simp [Nat.testBit_zero]; 
    | succ i =>
      have : (1 : Nat).testBit (i+1) = false := by simp [Nat.testBit_succ]
      simp [Nat.testBit_succ]
      have : (1 + 2 * n) / 2 = n := by omega
      rw [this]

theorem run_word (l : List Bool) : ∀ x, l.length ≤ 32 → run x l = iter l.length (x ^^^ BitVec.ofNat 32 (word l)) := by
  induction l with
  | nil => intro x _; simp [run, word, iter]
  | cons b l ih =>
    intro x h
    simp only [List.length_cons] at h
    have hw : word l < 2 ^ 31 := Nat.lt_of_lt_of_le (word_lt l) (Nat.pow_le_pow_right (by decide) (by omega))
    show run (step x b) l = iter l.length (st (x ^^^ BitVec.ofNat 32 (b.toNat + 2 * word l)))
    rw [ih _ (by omega), bit_word _ _, ← BitVec.xor_assoc, st_xor, st_double _ hw]
    rfl

/-- A burst of at most 32 bits is seen. -/
theorem run_burst (n m : Nat) (l : List Bool) (hl : l.length ≤ 32) (ht : true ∈ l) :
    run 0#32 (List.replicate n false ++ l ++ List.replicate m false) ≠ 0#32 := by
  rw [run_append, run_append, run_false, run_false, iter_zero, run_word l _ hl]
  intro h
  have h1 := iter_eq_zero _ _ (iter_eq_zero _ _ h)
  simp only [BitVec.zero_xor] at h1
  have h2 := congrArg BitVec.toNat h1
  have h3 := word_lt l
  have h4 := word_pos l ht
  have h5 : 2 ^ l.length ≤ 2 ^ 32 := Nat.pow_le_pow_right (by decide) hl
  simp only [BitVec.toNat_ofNat, Nat.reducePow] at h2 h5
  omega
/-- xor onto the head of a list -/
def xp : List Bool → List Bool → List Bool
  | [], l => l
  | _ :: _, [] => []
  | a :: as1, b :: bs => (a ^^ b) :: xp as1 bs

theorem xp_length (a : List Bool) : ∀ l : List Bool, (xp a l).length = l.length := by
  induction a with
  | nil => intro l; rfl
  | cons x a ih => intro l; cases l with
    | nil => rfl
    | cons y l => simp [xp, ih]

theorem xp_xp (a : List Bool) : ∀ (b l : List Bool), a.length = b.length → xp a (xp b l) = xp (List.zipWith (· ^^ ·) a b) l := by
  induction a with
  | nil => intro b l h; cases b with | nil => rfl | cons => simp at h
  | cons x a ih =>
    intro b l h
    cases b with
    | nil => simp at h
    | cons y b =>
      cases l with
      | nil => rfl
      | cons z l =>
        simp only [List.length_cons, Nat.add_right_cancel_iff] at h
        simp only [xp, List.zipWith_cons_cons, ih b l h, Bool.xor_assoc]

def regbits (x : BitVec 32) : List Bool := (List.range 32).map x.getLsbD

/-- divisor behind its first coefficient, highest power first -/
def dtail : List Bool := regbits D

/-- the division: m heads go -/
def div : Nat → List Bool → List Bool
  | 0, l => l
  | _ + 1, [] => []
  | m + 1, b :: l => div m (if b then xp dtail l else l)

theorem regbits_length (x : BitVec 32) : (regbits x).length = 32 := by simp [regbits]

theorem regbits_get (x : BitVec 32) (i : Nat) (h : i < 32) : (regbits x)[i]? = some (x.getLsbD i) := by
  simp [regbits, h]

theorem regbits_cons (x : BitVec 32) : regbits x = x.getLsbD 0 :: (regbits x).tail := by
  rfl

theorem xp_false (a : List Bool) (b : Bool) (hb : b = false) : ∀ l : List Bool, a.length < l.length → xp (a ++ [b]) l = xp a l := by
  subst hb
  induction a with
  | nil => intro l h; cases l with | nil => simp at h | cons y l => simp [xp]
  | cons x a ih =>
    intro l h
    cases l with
    | nil => rfl
    | cons y l => simp only [List.length_cons, Nat.add_lt_add_iff_right] at h; simp only [List.cons_append, xp, ih l h]

theorem regbits_st (x : BitVec 32) (c : Bool) : regbits (step x c) = if (x.getLsbD 0 ^^ c) then List.zipWith (· ^^ ·) dtail ((regbits x).tail ++ [false]) else (regbits x).tail ++ [false] := by
  apply List.ext_getElem?
  intro i
  by_cases hi : i < 32
  · rw [regbits_get _ _ hi]
    have h1 : ((regbits x).tail ++ [false])[i]? = some (x.getLsbD (i + 1)) := by
      by_cases h : i = 31
      · subst h
        rw [List.getElem?_append_right (by simp [regbits_length])]
        simp [regbits_length]
      · rw [List.getElem?_append_left (by simp [regbits_length]; omega), List.getElem?_tail, regbits_get _ _ (by omega)]
    have h0 : (x ^^^ bit c).getLsbD 0 = (x.getLsbD 0 ^^ c) := by cases c <;> simp [bit]
    have h2 : (step x c).getLsbD i = (x.getLsbD (i + 1) ^^ ((x.getLsbD 0 ^^ c) && D.getLsbD i)) := by
      unfold step st
      rw [h0]
      have h3 : (bit c).getLsbD (1 + i) = false := by cases c <;> simp [bit] 
      cases (x.getLsbD 0 ^^ c) <;> simp [h3, Nat.add_comm]
      all_goals (have h3' := h3; rw [Nat.add_comm] at h3'; simp [h3'])
    rw [h2]
    cases (x.getLsbD 0 ^^ c) with
    | false => simp [h1]
    | true =>
      simp only [Bool.true_and, if_true, List.getElem?_zipWith, h1, dtail, regbits_get _ _ hi, Option.some.injEq]
      rw [Bool.xor_comm]
  · have : ∀ l : List Bool, l.length = 32 → l[i]? = none := fun l hl => List.getElem?_eq_none (by omega)
    rw [this _ (regbits_length _), this]
    split <;> simp [regbits_length, dtail]

/-- The registers way is the division. -/
theorem div_run (msg : List Bool) : ∀ x, div msg.length (xp (regbits x) (msg ++ List.replicate 32 false)) = regbits (run x msg) := by
  induction msg with
  | nil =>
    intro x
    have : ∀ (l : List Bool) , xp l (List.replicate l.length false) = l := by
      intro l; induction l with
      | nil => rfl
      | cons a l ih => simp [List.replicate_succ, xp, ih]
    have h := this (regbits x)
    rw [regbits_length] at h
    simpa [div, run] using h
  | cons c msg ih =>
    intro x
    rw [regbits_cons]
    simp only [List.cons_append, xp, List.length_cons, div]
    have hl : (regbits x).tail.length < (msg ++ List.replicate 32 false).length := by simp [regbits_length]
    have hr : run x (c :: msg) = run (step x c) msg := rfl
    rw [hr, ← ih, regbits_st]
    cases (x.getLsbD 0 ^^ c) with
    | false => simp only [Bool.false_eq_true, if_false]; rw [xp_false _ _ rfl _ hl]
    | true =>
      simp only [if_true]
      rw [← xp_xp _ _ _ (by simp [dtail, regbits_length]), xp_false _ _ rfl _ hl]
end Crc

namespace Pv
open Go

/-! Whole numbers of the machine. -/

theorem w64 {n : Int} (h0 : -9223372036854775808 ≤ n) (h1 : n ≤ 9223372036854775807) : IntKind.wrap .i64 n = n := by rw [IntKind.wrap_i64]; omega
theorem wu (k : IntKind) (hk : k.signed = false) (n : Int) : IntKind.wrap k n = n % (2 ^ k.bits : Int) := by simp [IntKind.wrap, hk]
theorem wu8 (n : Int) : IntKind.wrap .u8 n = n % 256 := wu _ rfl n
theorem wu32 (n : Int) : IntKind.wrap .u32 n = n % 4294967296 := wu _ rfl n
theorem wu64 (n : Int) : IntKind.wrap .u64 n = n % 18446744073709551616 := wu _ rfl n

theorem wrap_nat32 (a : BitVec 32) : IntKind.wrap .u32 (a.toNat : Int) = (a.toNat : Int) := by
  have := a.isLt
  rw [wu32]; omega
theorem wrap_nat8 (a : BitVec 8) : IntKind.wrap .u8 (a.toNat : Int) = (a.toNat : Int) := by
  have := a.isLt
  rw [wu8]; omega

theorem ofInt_nat {n : Nat} (a : BitVec n) : BitVec.ofInt n (a.toNat : Int) = a := by
  apply BitVec.eq_of_toNat_eq
  simp only [BitVec.toNat_ofInt]
  have := a.isLt
  rw [Int.emod_eq_of_lt (by omega) (by exact_mod_cast this)]
  simp

theorem xor32 (a b : BitVec 32) : bitsW .xor .u32 (a.toNat : Int) (b.toNat : Int) = ((a ^^^ b).toNat : Int) := by
  show IntKind.wrap .u32 (BitVec.ofInt 32 _ ^^^ BitVec.ofInt 32 _).toNat = _
  rw [ofInt_nat, ofInt_nat, wrap_nat32]
theorem and32 (a b : BitVec 32) : bitsW .and .u32 (a.toNat : Int) (b.toNat : Int) = ((a &&& b).toNat : Int) := by
  show IntKind.wrap .u32 (BitVec.ofInt 32 _ &&& BitVec.ofInt 32 _).toNat = _
  rw [ofInt_nat, ofInt_nat, wrap_nat32]
theorem xor8 (a b : BitVec 8) : bitsW .xor .u8 (a.toNat : Int) (b.toNat : Int) = ((a ^^^ b).toNat : Int) := by
  show IntKind.wrap .u8 (BitVec.ofInt 8 _ ^^^ BitVec.ofInt 8 _).toNat = _
  rw [ofInt_nat, ofInt_nat, wrap_nat8]
theorem and8 (a b : BitVec 8) : bitsW .and .u8 (a.toNat : Int) (b.toNat : Int) = ((a &&& b).toNat : Int) := by
  show IntKind.wrap .u8 (BitVec.ofInt 8 _ &&& BitVec.ofInt 8 _).toNat = _
  rw [ofInt_nat, ofInt_nat, wrap_nat8]

theorem fdiv_pow (a k : Nat) : Int.fdiv (a : Int) (2 ^ k) = ((a >>> k : Nat) : Int) := by
  rw [Nat.shiftRight_eq_div_pow, Int.fdiv_eq_ediv_of_nonneg _ (Int.pow_nonneg (by decide))]
  simp

theorem and_one {n : Nat} (a : BitVec n) (hn : 0 < n) : (a &&& 1#n).toNat = (a.getLsbD 0).toNat := by
  simp only [BitVec.toNat_and, BitVec.toNat_ofNat]
  have : 1 % 2 ^ n = 1 := Nat.mod_eq_of_lt (Nat.one_lt_two_pow (by omega))
  rw [this, Nat.and_one_is_mod, BitVec.getLsbD]
  rw [Nat.testBit_zero]
  rcases Nat.mod_two_eq_zero_or_one a.toNat with h | h <;> simp [h]

theorem low32 (a : BitVec 32) : decide (bitsW .and .u32 (a.toNat : Int) 1 = 1) = a.getLsbD 0 := by
  have := and32 a 1#32
  simp only [BitVec.toNat_ofNat, Nat.reducePow, Nat.reduceMod] at this
  rw [show ((1 : Nat) : Int) = 1 from rfl] at this
  rw [this, and_one a (by decide)]
  cases a.getLsbD 0 <;> rfl
theorem low8 (a : BitVec 8) : decide (bitsW .and .u8 (a.toNat : Int) 1 = 1) = a.getLsbD 0 := by
  have := and8 a 1#8
  simp only [BitVec.toNat_ofNat, Nat.reducePow, Nat.reduceMod] at this
  rw [show ((1 : Nat) : Int) = 1 from rfl] at this
  rw [this, and_one a (by decide)]
  cases a.getLsbD 0 <;> rfl

/-! Bytes, bits. -/

abbrev By := BitVec 8
def bys (l : List By) : List PV := l.map fun b => .int .u8 (b.toNat : Int)
def bls (l : List Bool) : List PV := l.map .bool
def bitsB (b : By) : List Bool := (List.range 8).map b.getLsbD
def bitsL (l : List By) : List Bool := l.flatMap bitsB

@[simp] theorem bys_length (l : List By) : (bys l).length = l.length := by simp [bys]
@[simp] theorem bls_length (l : List Bool) : (bls l).length = l.length := by simp [bls]
theorem bitsL_length (l : List By) : (bitsL l).length = 8 * l.length := by
  induction l with
  | nil => rfl
  | cons b r ih => simp only [bitsL, List.flatMap_cons, List.length_append] at ih ⊢; rw [ih]; simp [bitsB]; omega

theorem elem_bys {l : List By} {i : Nat} {K : PV → Prop} (h : i < l.length) (hK : K (.int .u8 (l[i].toNat : Int))) : elemAt (bys l) i K := by
  unfold elemAt
  simp [bys, h, hK]

/-! More. -/

theorem inner (t11 : List PV) (t12 t13 : Int) (k0 : Int → Int → Prop) : ∀ (m j : Nat) (x : BitVec 32), j + m = 8 → (k0 ((Crc.iter m x).toNat : Int) 8) → R49_7 t11 t12 t13 k0 (m + 1) (x.toNat : Int) (j : Int)
  | 0, j, x, hj, h => by
    have : j = 8 := by omega
    subst this
    simpa [R49_7, S49_7, Crc.iter] using h
  | m + 1, j, x, hj, h => by
    have ih := inner t11 t12 t13 k0 m (j + 1) (Crc.st x) (by omega) h
    rw [R49_7, S49_7]
    have h1 : decide ((j : Int) < 8) = true := by simp; omega
    have h2 : IntKind.wrap .i64 ((j : Int) + 1) = ((j + 1 : Nat) : Int) := by rw [w64 (by omega) (by omega)]; rfl
    have h3 : Int.fdiv (x.toNat : Int) (2 ^ 1) = ((x >>> 1).toNat : Int) := by rw [fdiv_pow]; simp
    rw [h1, h2, h3, low32]
    refine ⟨by decide, ?_⟩
    have h4 := xor32 (x >>> 1) 0x82f63b78#32
    rw [show ((0x82f63b78#32).toNat : Int) = 2197175160 from rfl] at h4
    cases e : x.getLsbD 0 with
    | true =>
      have e2 : Crc.st x = (x >>> 1) ^^^ 0x82f63b78#32 := by unfold Crc.st; rw [e]; rfl
      rw [e2] at ih
      simp only [cond_true]
      rw [h4]; exact ih
    | false =>
      have e2 : Crc.st x = x >>> 1 := by unfold Crc.st; rw [e]; simp
      rw [e2] at ih
      exact ih

theorem word_bits (b : By) : Crc.word (bitsB b) = b.toNat := by
  have h : ∀ n : Fin 256, Crc.word (bitsB (BitVec.ofFin n)) = n.val := of_decide_eq_true (by kernel_rfl)
  exact h b.toFin

theorem run_byte (x : BitVec 32) (b : By) : Crc.run x (bitsB b) = Crc.iter 8 (x ^^^ b.setWidth 32) := by
  rw [Crc.run_word _ _ (by simp [bitsB]), word_bits]
  have : (bitsB b).length = 8 := by simp [bitsB]
  rw [this]
  congr 2
  apply BitVec.eq_of_toNat_eq
  simp

theorem outer (l : List By) (k0 : Int → Int → Prop) : ∀ (m i : Nat) (x : BitVec 32), i + m = l.length → l.length ≤ 100000 → k0 ((Crc.run x (bitsL (l.drop i))).toNat : Int) (l.length : Int) → R49_3 (bys l) (l.length : Int) k0 (m + 1) (x.toNat : Int) (i : Int)
  | 0, i, x, hi, _, h => by
    have : i = l.length := by omega
    subst this
    rw [R49_3, S49_3]
    simpa [Crc.run, bitsL] using h
  | m + 1, i, x, hi, hl, h => by
    have hlt : i < l.length := by omega
    have e : l.drop i = l[i] :: l.drop (i + 1) := List.drop_eq_getElem_cons hlt
    rw [e] at h
    simp only [bitsL, List.flatMap_cons] at h
    rw [Crc.run_append, run_byte] at h
    have ih := outer l k0 m (i + 1) _ (by omega) hl h
    rw [R49_3, S49_3]
    have h1 : decide ((i : Int) < (l.length : Int)) = true := by simp; omega
    rw [h1]
    refine ⟨by omega, ?_⟩
    have h2 : IntKind.wrap .i64 ((i : Int) + 1) = ((i + 1 : Nat) : Int) := by rw [w64 (by omega) (by omega)]; rfl
    rw [Int.toNat_natCast]
    refine elem_bys hlt ?_
    show L49_7 (bitsW .xor .u32 (x.toNat : Int) (IntKind.wrap .u32 ((l[i].toNat : Nat) : Int))) _ _ _ 0 _
    have h3 : IntKind.wrap .u32 ((l[i].toNat : Nat) : Int) = (((l[i]).setWidth 32).toNat : Int) := by
      have := (l[i]).isLt
      rw [wu32, BitVec.toNat_setWidth]; omega
    rw [h3, xor32, h2]
    exact ⟨9, inner _ _ _ _ 8 0 _ rfl ih⟩

/-- More, of bytes. -/
def more (s : BitVec 32) (l : List By) : BitVec 32 := ~~~ (Crc.run (~~~ s) (bitsL l))

theorem not32 (a : BitVec 32) : bitsW .xor .u32 4294967295 (a.toNat : Int) = ((~~~ a).toNat : Int) := by
  have := xor32 (BitVec.allOnes 32) a
  rw [show ((BitVec.allOnes 32).toNat : Int) = 4294967295 from rfl] at this
  rw [this, BitVec.allOnes_xor]

theorem B49_law (s : BitVec 32) (l : List By) (hl : l.length ≤ 100000) (k : Int → Prop) (h : k ((more s l).toNat : Int)) : B49 (s.toNat : Int) (bys l) k := by
  unfold B49
  rw [not32, bys_length]
  refine ⟨l.length + 1, outer l _ l.length 0 _ (by omega) hl ?_⟩
  simp only [List.drop_zero]
  rw [not32]; exact h

theorem B27_law (l : List By) (hl : l.length ≤ 100000) (k : Int → Prop) (h : k ((more 0#32 l).toNat : Int)) : B27 (bys l) k := B49_law 0#32 l hl k h

/-! Sums of the document. -/

theorem elem_bls {l : List Bool} {i : Nat} {K : PV → Prop} (h : i < l.length) (hK : K (.bool l[i])) : elemAt (bls l) i K := by
  unfold elemAt
  simp [bls, h, hK]

end Pv

namespace Pv
open Go

theorem maxRoom_val : maxRoom = 70368744177664 := rfl
theorem rowPart_all (l : List PV) (n : Nat) (h : n = l.length) : rowPart l 0 n = l := by subst h; simp [rowPart]
theorem cond_t {b : Bool} {p q : Prop} (h : b = true) (hp : p) : cond b p q := by rw [h]; exact hp
theorem cond_f {b : Bool} {p q : Prop} (h : b = false) (hq : q) : cond b p q := by rw [h]; exact hq

/-- A sector, as the machine holds it. -/
def sec (l : List By) : PV := .arr 128 (bys l)
def zsec : List By := List.replicate 128 0#8
theorem bys_replicate (n : Nat) : bys (List.replicate n 0#8) = List.replicate n (.int .u8 0) := by simp [bys]
theorem sec_zero : sec zsec = .arr 128 (List.replicate 128 (.int .u8 0)) := by rw [sec, zsec, bys_replicate]

/-- What may says: of a device of n sectors. -/
def mayR (n : Nat) (off : Bool) (p m : Int) : Int := if n = 0 then 1 else if m < 1 ∨ p < 0 ∨ p > n ∨ m > n - p then 2 else if off then 36 else 0

theorem B44_law (p m : Int) (n : Nat) (off cut : Bool) (wh ke wr : Int) (S : List PV) (hn : n ≤ 1000000) (k : Int → Nat → Bool → Bool → Int → Int → Int → List PV → Prop) (h : k (mayR n off p m) n off cut wh ke wr S) : B44 p m n off cut wh ke wr S k := by
  unfold B44 B23 mayR at *
  simp only [Bool.cond_not, Bool.cond_decide] at *
  by_cases h0 : n = 0
  · subst h0; simpa using h
  · rw [if_neg h0] at h
    rw [if_neg (by simpa using h0)]
    by_cases h1 : m < 1
    · rw [if_pos (.inl h1)] at h; rw [if_pos h1]; exact h
    · rw [if_neg h1]
      by_cases h2 : p < 0
      · rw [if_pos (.inr (.inl h2))] at h; rw [if_pos h2]; exact h
      · rw [if_neg h2]
        by_cases h3 : p > n
        · rw [if_pos (.inr (.inr (.inl h3)))] at h
          rw [if_pos (by simpa using h3)]; exact h
        · rw [if_neg (by simpa using h3)]
          have hw : IntKind.wrap .i64 (Int.ofNat n - p) = n - p := w64 (by simp at h3 ⊢; omega) (by simp at h3 ⊢; omega)
          rw [hw]
          by_cases h4 : m > n - p
          · rw [if_pos (.inr (.inr (.inr h4)))] at h; rw [if_pos h4]; exact h
          · rw [if_neg (by rintro (h | h | h | h) <;> omega)] at h
            rw [if_neg h4]
            cases off <;> simpa using h

theorem B6_law (n : Int) (k0 : Prop) (k1 : Nat → List PV → Prop) (h0 : n < 1 ∨ n > 32768 → k0) (h1 : 1 ≤ n → n ≤ 32768 → k1 n.toNat (List.replicate n.toNat (sec zsec))) : B6 n k0 k1 := by
  unfold B6
  simp only [Bool.cond_not, Bool.cond_decide]
  by_cases h2 : n < 1
  · rw [if_pos h2]; exact h0 (.inl h2)
  · rw [if_neg h2]
    by_cases h3 : n > 32768
    · rw [if_pos h3]; exact h0 (.inr h3)
    · rw [if_neg h3]
      refine ⟨⟨by omega, Int.le_refl _, by rw [maxRoom_val]; omega, by rw [maxRoom_val]; omega⟩, ⟨by decide, fun c hc => ?_⟩, ?_⟩
      · simp only [flat] at hc
        have := List.eq_of_mem_replicate hc
        subst this; trivial
      · rw [← sec_zero]; exact h1 (by omega) (by omega)

/-- A devices sectors, each of 128 bytes. -/
def Secs (S : List (List By)) : Prop := ∀ s ∈ S, s.length = 128

theorem bys_append (a b : List By) : bys (a ++ b) = bys a ++ bys b := by simp [bys]
theorem elem_secs {S : List (List By)} {i : Nat} {K : PV → Prop} (h : i < S.length) (hK : K (sec S[i])) : elemAt (S.map sec) i K := by
  unfold elemAt
  rw [List.getElem?_map, List.getElem?_eq_getElem h]
  exact hK

theorem read_loop (S : List (List By)) (hS : Secs S) (p c : Nat) (hp : p + c ≤ S.length) (hc : c ≤ 1000000) (n : Nat) (off cut : Bool) (wh ke wr : Int) (k0 : Nat → Int → List PV → Prop) :
    ∀ (m j : Nat) (x : List By), j + m = c → x.length = 128 * j → (∀ y : List By, y = x ++ ((S.drop (p + j)).take m).flatten → k0 y.length c (bys y)) →
      R25_5 p c c n off cut wh ke wr (S.map sec) k0 (m + 1) x.length j (bys x)
  | 0, j, x, hj, hx, hk => by
    unfold R25_5 S25_5
    refine cond_f (by simp; omega) ?_
    have := hk x (by simp)
    have e : j = c := by omega
    subst e; exact this
  | m + 1, j, x, hj, hx, hk => by
    rw [R25_5]
    unfold S25_5
    have hlt : p + j < S.length := by omega
    have h128 : (S[p + j]).length = 128 := hS _ (List.getElem_mem hlt)
    refine cond_t (by simp; omega) ⟨by omega, by simp; omega, ?_⟩
    rw [Int.toNat_natCast]
    refine elem_secs hlt ?_
    unfold sec asArrK
    refine cond_t (by decide) ⟨by decide, by decide, by decide, by rw [bys_length, h128]; decide, by rw [bys_length], ?_, ?_⟩
    · rw [rowPart_all _ _ (by rw [bys_length, h128]), bys_length, h128, maxRoom_val]; omega
    · rw [rowPart_all _ _ (by rw [bys_length, h128]), ← bys_append, bys_length, h128]
      have hw : IntKind.wrap .i64 ((j : Int) + 1) = ((j + 1 : Nat) : Int) := by rw [w64 (by omega) (by omega)]; simp
      rw [hw]
      have hl : x.length + 128 = (x ++ S[p + j]).length := by simp [h128]
      rw [hl]
      refine read_loop S hS p c hp hc n off cut wh ke wr k0 m (j + 1) (x ++ S[p + j]) (by omega) (by simp [h128]; omega) (fun y hy => hk y ?_)
      rw [hy, show p + (j + 1) = p + j + 1 by omega]
      rw [List.drop_eq_getElem_cons hlt, List.take_succ_cons, List.flatten_cons, List.append_assoc]

/-- The bytes of so many sectors. -/
def readR (S : List (List By)) (p m : Nat) : List By := ((S.drop p).take m).flatten

theorem B25_law (S : List (List By)) (hS : Secs S) (hn : S.length ≤ 1000000) (p m : Int) (off cut : Bool) (wh ke wr : Int) (k : List PV → Int → Nat → Bool → Bool → Int → Int → Int → List PV → Prop)
    (h1 : mayR S.length off p m ≠ 0 → k [] (mayR S.length off p m) S.length off cut wh ke wr (S.map sec))
    (h2 : mayR S.length off p m = 0 → k (bys (readR S p.toNat m.toNat)) 0 S.length off cut wh ke wr (S.map sec)) : B25 p m S.length off cut wh ke wr (S.map sec) k := by
  unfold B25
  refine B44_law p m S.length off cut wh ke wr _ hn _ ?_
  by_cases h0 : mayR S.length off p m = 0
  · refine cond_f (by simp [h0]) ?_
    have hr := h0
    unfold mayR at hr
    split at hr
    · cases hr
    · split at hr
      · cases hr
      · rename_i h3 h4
        simp only [not_or] at h4
        obtain ⟨h4, h5, h6, h7⟩ := h4
        obtain ⟨q, rfl⟩ : ∃ q : Nat, p = q := ⟨p.toNat, by omega⟩
        obtain ⟨c, rfl⟩ : ∃ c : Nat, m = c := ⟨m.toNat, by omega⟩
        have hw : IntKind.wrap .i64 ((q : Int) + c) = ((q + c : Nat) : Int) := by rw [w64 (by omega) (by omega)]; simp
        rw [hw]
        refine ⟨by omega, by omega, by simp; omega, ?_⟩
        simp only [Int.toNat_natCast, Nat.zero_add, Nat.add_sub_cancel_left]
        refine ⟨c + 1, ?_⟩
        have := read_loop S hS q c (by omega) (by omega) S.length off cut wh ke wr (fun out6n _ x2 => out6n ≤ (List.length (α := PV) x2) ∧ k (rowPart x2 0 out6n) 0 S.length off cut wh ke wr (S.map sec)) c 0 [] (by omega) rfl (fun y hy => ?_)
        · exact this
        · refine ⟨by rw [bys_length]; omega, ?_⟩
          rw [rowPart_all _ _ (by rw [bys_length]), hy]
          simpa [readR] using h2 h0
  · exact cond_t (by simp [h0]) (h1 h0)

/-- Bytes, in parts of a sector. -/
def partsF : Nat → List By → List (List By)
  | 0, _ => []
  | _ + 1, [] => []
  | f + 1, x :: xs => (x :: xs).take 128 :: partsF f ((x :: xs).drop 128)
def parts (b : List By) : List (List By) := partsF b.length b
theorem partsF_bys : ∀ (f : Nat) (b : List By), chunksF f 128 (bys b) = (partsF f b).map bys
  | 0, _ => rfl
  | _ + 1, [] => rfl
  | f + 1, x :: xs => by
    have ih := partsF_bys f ((x :: xs).drop 128)
    rw [partsF, List.map_cons, ← ih]
    simp [bys, chunksF]
theorem parts_bys (b : List By) : chunks 128 (bys b) = (parts b).map bys := by
  unfold chunks parts
  rw [bys_length, partsF_bys]
theorem partsF_le : ∀ (f : Nat) (b : List By), ∀ c ∈ partsF f b, c.length ≤ 128
  | 0, _, c, h => by simp [partsF] at h
  | _ + 1, [], c, h => by simp [partsF] at h
  | f + 1, x :: xs, c, h => by
    rw [partsF, List.mem_cons] at h
    rcases h with rfl | h
    · simp; omega
    · exact partsF_le f _ c h

/-- A part, filled up. -/
def pad (c : List By) : List By := c ++ List.replicate (128 - c.length) 0#8
theorem pad_len {c : List By} (h : c.length ≤ 128) : (pad c).length = 128 := by simp [pad]; omega
theorem splice_pad {c : List By} (h : c.length ≤ 128) : splice (List.replicate 128 (.int .u8 0)) (bys c) 0 128 = bys (pad c) := by
  unfold splice pad
  rw [bys_append, bys_replicate, bys_length]
  have e1 : (bys c).take 128 = bys c := List.take_of_length_le (by rw [bys_length]; exact h)
  rw [e1, List.drop_replicate]
  simp [Nat.min_eq_right h]

/-- Parts, written from a sector on. -/
def putS (S : List (List By)) (p : Nat) : List (List By) → List (List By)
  | [] => S
  | c :: r => putS (S.set p (pad c)) (p + 1) r
theorem putS_length : ∀ (r : List (List By)) (S : List (List By)) (p : Nat), (putS S p r).length = S.length
  | [], _, _ => rfl
  | c :: r, S, p => by rw [putS, putS_length r]; simp
theorem putS_secs : ∀ (r : List (List By)) (S : List (List By)) (p : Nat), Secs S → (∀ c ∈ r, c.length ≤ 128) → Secs (putS S p r)
  | [], _, _, h, _ => h
  | c :: r, S, p, h, hr => by
    rw [putS]
    refine putS_secs r _ _ (fun s hs => ?_) (fun c hc => hr c (by simp [hc]))
    rcases List.mem_or_eq_of_mem_set hs with hs | rfl
    · exact h s hs
    · exact pad_len (hr c (by simp))

theorem elemOk_sec {s : List By} : elemOk pvT 111 (.arr 128 (bys s)) := by
  refine ⟨(by decide : fits pvT 111 (.arr 128 []) = true), fun c hc => ?_⟩
  simp only [flat, bys, List.mem_map] at hc
  obtain ⟨b, -, rfl⟩ := hc
  trivial

theorem put_loop_dev (n : Nat) (hn : n ≤ 1000000) (off cut : Bool) (wh ke wr : Int) (k0 : List PV → Int → Int → Prop) : ∀ (r : List (List By)) (S : List (List By)) (p m : Nat), S.length = n → (∀ c ∈ r, c.length ≤ 128) → m ≤ 1000000 → p + min m r.length ≤ n → p ≤ 1000000 →
    (∀ x3 x4, k0 ((putS S p (r.take m)).map sec) x3 x4) → G45_3 n off cut wh ke wr k0 k0 (r.map bys) (S.map sec) p m
  | [], S, p, m, _, _, _, _, _, hk => by
    rw [List.map_nil, G45_3]
    have := hk p m
    simpa [putS] using this
  | c :: r, S, p, m, hS, hr, hm, hp, hp2, hk => by
    rw [List.map_cons, G45_3]
    unfold S45_3
    cases m with
    | zero =>
      refine cond_t (by simp) ?_
      have := hk p 0
      simpa [putS] using this
    | succ m =>
      refine cond_f (by simp; omega) ?_
      have hlt : p < S.length := by simp only [List.length_cons] at hp; omega
      rw [splice_pad (hr c (by simp))]
      have hA : (0 : Int) ≤ (p : Int) := by omega
      have hB : (p : Int) < Int.ofNat n := by simp; omega
      have hC : elemOk pvT 111 (.arr 128 (bys (pad c))) := elemOk_sec
      have hset : List.set (S.map sec) p (sec (pad c)) = (S.set p (pad c)).map sec := by rw [List.map_set]
      have hD : elemAt (S.map sec) (0 + Int.toNat (p : Int)) fun _ => J45_7 n off cut wh ke wr (List.set (S.map sec) (0 + Int.toNat (p : Int)) (.arr 128 (bys (pad c)))) p ((m + 1 : Nat) : Int) (fun x3 x4 => G45_3 n off cut wh ke wr k0 k0 (r.map bys) (List.set (S.map sec) (0 + Int.toNat (p : Int)) (.arr 128 (bys (pad c)))) x3 x4) := by
        rw [Int.toNat_natCast, Nat.zero_add]
        refine elem_secs hlt ?_
        unfold J45_7
        have e1 : IntKind.wrap .i64 ((p : Int) + 1) = ((p + 1 : Nat) : Int) := by rw [w64 (by omega) (by omega)]; simp
        have e2 : IntKind.wrap .i64 (((m + 1 : Nat) : Int) - 1) = (m : Int) := by rw [w64 (by omega) (by omega)]; omega
        rw [e1, e2]
        show G45_3 n off cut wh ke wr k0 k0 (r.map bys) (List.set (S.map sec) p (sec (pad c))) _ _
        rw [hset]
        refine put_loop_dev n hn off cut wh ke wr k0 r (S.set p (pad c)) (p + 1) m (by simpa using hS) (fun c hc => hr c (by simp [hc])) (by omega) (by simp only [List.length_cons] at hp; omega) (by omega) (fun x3 x4 => ?_)
        have := hk x3 x4
        simpa [putS] using this
      have hE : 0 + 128 ≤ (List.length (α := PV) (List.replicate 128 (.int .u8 0))) := by simp
      refine ⟨Int.le_refl _, by decide, by decide, hE, ?_⟩
      repeat' apply And.intro
      all_goals first | assumption | exact hC.1 | exact hC.2

theorem B45_law (S : List (List By)) (hn : S.length ≤ 1000000) (b : List By) (hb : b.length ≤ 100000000) (p m : Nat) (hm : m ≤ 1000000) (hp : p + min m (parts b).length ≤ S.length) (off cut : Bool) (wh ke wr : Int) (k : Nat → Bool → Bool → Int → Int → Int → List PV → Prop)
    (h : k S.length off cut wh ke wr ((putS S p ((parts b).take m)).map sec)) : B45 p (bys b) m S.length off cut wh ke wr (S.map sec) k := by
  unfold B45 B65
  refine cond_f (by decide) ⟨by decide, by decide, by rw [bys_length, maxRoom_val]; omega, ?_⟩
  refine cond_t ?_ ⟨(parts b).map bys, ?_, ?_⟩
  · rw [List.all_eq_true]
    intro x hx
    obtain ⟨y, -, rfl⟩ := List.mem_map.1 hx
    rfl
  · show ((chunks 128 (bys b)).map fun el => [PV.list 5 el]) = _
    rw [parts_bys]
  · exact put_loop_dev S.length hn off cut wh ke wr (fun x1 _ _ => k S.length off cut wh ke wr x1) (parts b) S p m rfl (partsF_le _ b) hm hp (by omega) (fun _ _ => h)

/-- How many sectors so many bytes need. -/
def secN (l : Nat) : Nat := (l + 127) / 128
theorem secN_int (l : Nat) (hl : l ≤ 1000000000) : IntKind.wrap .i64 (Int.tdiv (IntKind.wrap .i64 ((IntKind.wrap .i64 ((l : Int) + 128)) - 1)) 128) = (secN l : Int) := by
  rw [w64 (n := (l : Int) + 128) (by omega) (by omega), w64 (n := (l : Int) + 128 - 1) (by omega) (by omega)]
  have e : (l : Int) + 128 - 1 = ((l + 127 : Nat) : Int) := by omega
  rw [e]
  have e2 : Int.tdiv ((l + 127 : Nat) : Int) 128 = (((l + 127) / 128 : Nat) : Int) := rfl
  rw [e2, w64 (by omega) (by omega)]
  rfl

theorem parts_length : ∀ (f : Nat) (b : List By), b.length ≤ f → (partsF f b).length = secN b.length
  | 0, [], _ => rfl
  | 0, _ :: _, h => by simp at h
  | _ + 1, [], _ => rfl
  | f + 1, x :: xs, h => by
    rw [partsF, List.length_cons, parts_length f _ (by simp at h ⊢; omega)]
    simp only [secN, List.length_drop, List.length_cons]
    omega
theorem parts_len (b : List By) : (parts b).length = secN b.length := parts_length _ b (Nat.le_refl _)

/-- A device. -/
structure Dev where
  off : Bool
  cut : Bool
  wh : Nat
  ke : Nat
  wr : Nat
  S : List (List By)

/-- A write, of bytes that it takes. -/
def Dev.write (d : Dev) (p : Nat) (b : List By) : Int × Dev :=
  if d.cut = true ∧ d.wh = 0 then (36, { d with off := true, cut := false, wr := d.wr + 1, S := putS d.S p ((parts b).take d.ke) })
  else (0, { d with wh := if d.cut then d.wh - 1 else d.wh, wr := d.wr + 1, S := putS d.S p (parts b) })

theorem B21_law (d : Dev) (hn : d.S.length ≤ 1000000) (b : List By) (hb : b.length ≤ 100000000) (h0 : b ≠ []) (p : Nat) (hoff : d.off = false) (hp : p + secN b.length ≤ d.S.length) (hke : d.ke ≤ 1000000) (hwr : d.wr ≤ 1000000000) (hwh : d.wh ≤ 1000000)
    (k : Int → Nat → Bool → Bool → Int → Int → Int → List PV → Prop)
    (h : k (d.write p b).1 d.S.length (d.write p b).2.off (d.write p b).2.cut (d.write p b).2.wh (d.write p b).2.ke (d.write p b).2.wr ((d.write p b).2.S.map sec)) :
    B21 p (bys b) d.S.length d.off d.cut d.wh d.ke d.wr (d.S.map sec) k := by
  obtain ⟨off, cut, wh, ke, wr, S⟩ := d
  simp only at *
  subst hoff
  unfold B21
  rw [bys_length]
  have hsn := secN_int b.length (by omega)
  rw [show Int.ofNat b.length = (b.length : Int) from rfl, hsn]
  have h1 : 1 ≤ secN b.length := by
    have : 0 < b.length := by cases b with
      | nil => exact absurd rfl h0
      | cons => simp
    simp only [secN]; omega
  refine ⟨by decide, B44_law _ _ _ _ _ _ _ _ _ hn _ ?_⟩
  have hmay : mayR S.length false p (secN b.length) = 0 := by
    unfold mayR
    rw [if_neg (by omega), if_neg (by omega)]
    rfl
  rw [hmay]
  refine cond_f (by decide) ?_
  have hw : IntKind.wrap .i64 ((wr : Int) + 1) = ((wr + 1 : Nat) : Int) := by rw [w64 (by omega) (by omega)]; simp
  have hpl := parts_len b
  have hall : (parts b).take (secN b.length) = parts b := List.take_of_length_le (by omega)
  rw [hw]
  unfold Dev.write at h
  simp only at h
  have hj : ∀ (K : Nat → Bool → Bool → Int → Int → Int → List PV → Prop), K S.length false cut (((if cut then wh - 1 else wh : Nat)) : Int) ke ((wr + 1 : Nat) : Int) ((putS S p (parts b)).map sec) → (cut = true → 0 < wh) →
      J21_10 p (bys b) (secN b.length) S.length false cut wh ke ((wr + 1 : Nat) : Int) (S.map sec) K := by
    intro K hK hpos
    unfold J21_10
    refine B45_law S hn b hb p (secN b.length) (by omega) (by omega) _ _ _ _ _ _ ?_
    rw [hall]
    cases cut with
    | true =>
      refine cond_t rfl ?_
      have := hpos rfl
      rw [w64 (by omega) (by omega)]
      have e : ((wh : Int) - 1) = ((wh - 1 : Nat) : Int) := by omega
      rw [e]; simpa using hK
    | false => exact cond_f rfl (by simpa using hK)
  cases cut with
  | true =>
    refine cond_t rfl ?_
    by_cases hz : wh = 0
    · subst hz
      refine cond_t (by simp) ?_
      have e : (if ((secN b.length : Nat) : Int) < (ke : Int) then ((secN b.length : Nat) : Int) else (ke : Int)) = ((min (secN b.length) ke : Nat) : Int) := by split <;> omega
      rw [e]
      refine B45_law S hn b hb p _ (by omega) (by omega) _ _ _ _ _ _ ?_
      have e2 : (parts b).take (min (secN b.length) ke) = (parts b).take ke := by rw [List.take_eq_take_iff]; omega
      rw [e2]
      simpa using h
    · refine cond_f (by simp; omega) (hj _ ?_ (fun _ => by omega))
      rw [if_neg (by rintro ⟨-, h⟩; exact hz h)] at h
      exact h
  | false =>
    refine cond_f rfl (hj _ ?_ (fun h => by cases h))
    rw [if_neg (by rintro ⟨h, -⟩; cases h)] at h
    exact h

theorem B23_law {n : Nat} {off cut : Bool} {wh ke wr : Int} {S : List PV} {k : Int → Nat → Bool → Bool → Int → Int → Int → List PV → Prop} (h : k n n off cut wh ke wr S) : B23 n off cut wh ke wr S k := h
theorem B8_law (d : Dev) (hn : 0 < d.S.length) (w c : Nat) (k : Int → Nat → Bool → Bool → Int → Int → Int → List PV → Prop) (h : k 0 d.S.length d.off true w c d.wr (d.S.map sec)) :
    B8 w c d.S.length d.off d.cut d.wh d.ke d.wr (d.S.map sec) k := by
  unfold B8
  exact B23_law (cond_f (decide_eq_false (by omega)) (cond_t (by simp) (cond_f (decide_eq_false (by omega)) h)))
theorem B12_law (d : Dev) (hn : 0 < d.S.length) (k : Bool → Nat → Bool → Bool → Int → Int → Int → List PV → Prop) (h : k d.off d.S.length d.off d.cut d.wh d.ke d.wr (d.S.map sec)) :
    B12 d.S.length d.off d.cut d.wh d.ke d.wr (d.S.map sec) k := by
  unfold B12
  exact B23_law (cond_t (decide_eq_true (by omega)) h)
theorem B13_law (d : Dev) (hn : 0 < d.S.length) (k : Int → Nat → Bool → Bool → Int → Int → Int → List PV → Prop) (h : k 0 d.S.length false false d.wh d.ke d.wr (d.S.map sec)) :
    B13 d.S.length d.off d.cut d.wh d.ke d.wr (d.S.map sec) k := by
  unfold B13
  exact B23_law (cond_f (decide_eq_false (by omega)) h)

end Pv

namespace Pv
open Go

/-- So many bytes of a number, the lowest first. -/
def le : Nat → Nat → List By
  | 0, _ => []
  | w + 1, n => BitVec.ofNat 8 n :: le w (n / 256)
/-- The number that bytes are. -/
def unle : List By → Nat
  | [] => 0
  | b :: r => b.toNat + 256 * unle r
theorem le_length : ∀ (w n : Nat), (le w n).length = w
  | 0, _ => rfl
  | w + 1, n => by simp [le, le_length w]
theorem unle_lt : ∀ (l : List By), unle l < 256 ^ l.length
  | [] => by simp [unle]
  | b :: r => by
    have := unle_lt r
    have hb := b.isLt
    simp only [unle, List.length_cons, Nat.pow_succ]
    omega
theorem unle_le : ∀ (w n : Nat), n < 256 ^ w → unle (le w n) = n
  | 0, n, h => by simp at h; simp [le, unle, h]
  | w + 1, n, h => by
    rw [le, unle, unle_le w (n / 256) (by rw [Nat.pow_succ] at h; omega)]
    simp only [BitVec.toNat_ofNat]
    omega
theorem le_unle : ∀ (l : List By), le l.length (unle l) = l
  | [] => rfl
  | b :: r => by
    have hb := b.isLt
    rw [List.length_cons, le, unle]
    have e1 : (b.toNat + 256 * unle r) / 256 = unle r := by omega
    rw [e1, le_unle r]
    congr 1
    apply BitVec.eq_of_toNat_eq
    simp only [BitVec.toNat_ofNat]
    omega

theorem B66_law (l : List By) (hl : l.length ≤ 1000000000) (k : Nat → List PV → Prop) (h : k l.length (bys l)) : B66 (bys l) k := by
  unfold B66
  intro b hb
  cases b with
  | true =>
    have := hb rfl
    have e : l = [] := by simpa [bys] using this
    subst e; exact h
  | false =>
    refine ⟨rfl, by rw [bys_length, maxRoom_val]; omega, ?_⟩
    rw [bys_length, Nat.zero_add, List.nil_append]; exact h
theorem B66d_law (l : List By) (hl : l.length ≤ 1000000000) (k : List PV → Prop) (h : k (bys l)) : B66d (bys l) k := by
  unfold B66d
  intro b hb
  cases b with
  | true =>
    have := hb rfl
    have e : l = [] := by simpa [bys] using this
    subst e; exact h
  | false =>
    refine ⟨rfl, by rw [bys_length, maxRoom_val]; omega, by simp, ?_⟩
    rw [List.nil_append, rowPart_all _ _ (by simp)]; exact h
theorem B46_law (l : List By) (hl : l.length ≤ 1000000000) (k : List PV → Prop) (h : k (bys l)) : B46 (bys l) k := B66d_law l hl k h

/-- How many bytes a number takes. -/
def csize (n : Nat) : Nat := if n ≥ 4294967296 then 9 else if n ≥ 65536 then 5 else if n ≥ 253 then 3 else 1
theorem B71_law (n : Nat) (k : Int → Prop) (h : k (csize n)) : B71 n k := by
  unfold B71 J71_7 J71_8
  unfold csize at h
  simp only [Bool.cond_decide]
  by_cases h1 : n ≥ 4294967296
  · rw [if_pos h1] at h
    rw [if_pos (by omega)]; exact h
  · rw [if_neg h1] at h
    rw [if_neg (by omega)]
    by_cases h2 : n ≥ 65536
    · rw [if_pos h2] at h
      rw [if_pos (by omega)]; exact h
    · rw [if_neg h2] at h
      rw [if_neg (by omega)]
      by_cases h3 : n ≥ 253
      · rw [if_pos h3] at h
        rw [if_pos (by omega)]; exact h
      · rw [if_neg h3] at h
        rw [if_neg (by omega)]; exact h

theorem byte_at (n j : Nat) (hj : j < 8) : IntKind.wrap .u8 (Int.fdiv (n : Int) (2 ^ (min (Int.toNat (IntKind.wrap .i64 (8 * (j : Int)))) 64))) = ((BitVec.ofNat 8 (n / 256 ^ j)).toNat : Int) := by
  rw [w64 (by omega) (by omega)]
  have e : min (Int.toNat (8 * (j : Int))) 64 = 8 * j := by omega
  rw [e, fdiv_pow, wu8, Nat.shiftRight_eq_div_pow, Nat.pow_mul]
  simp only [BitVec.toNat_ofNat]
  rfl
theorem le_step (m n j : Nat) : le (m + 1) (n / 256 ^ j) = BitVec.ofNat 8 (n / 256 ^ j) :: le m (n / 256 ^ (j + 1)) := by
  rw [le, Nat.div_div_eq_div_mul, Nat.pow_succ]

theorem cput_loop (n w : Nat) (hw : w ≤ 8) (k0 : Nat → Int → List PV → Prop) : ∀ (m j : Nat) (x : List By), j + m = w → x.length + m ≤ 2000000000 →
    (∀ y : List By, y = x ++ le m (n / 256 ^ j) → k0 y.length w (bys y)) → R54_12 n w k0 (m + 1) x.length j (bys x)
  | 0, j, x, hj, hx, hk => by
    unfold R54_12 S54_12
    refine cond_f (decide_eq_false (by omega)) ?_
    have e : j = w := by omega
    subst e
    exact hk x (by simp [le])
  | m + 1, j, x, hj, hx, hk => by
    rw [R54_12]
    unfold S54_12
    rw [byte_at n j (by omega)]
    refine cond_t (decide_eq_true (by omega)) ⟨by rw [w64 (by omega) (by omega)]; omega, by simp, by rw [bys_length], ?_, ?_⟩
    · simp only [rowPart, Nat.beq_refl, cond_true, List.take_succ_cons, List.take_zero, List.length_cons, List.length_nil]
      rw [maxRoom_val]; omega
    · have e1 : IntKind.wrap .i64 ((j : Int) + 1) = ((j + 1 : Nat) : Int) := by rw [w64 (by omega) (by omega)]; simp
      rw [e1]
      have e2 : bys x ++ rowPart [PV.int .u8 ((BitVec.ofNat 8 (n / 256 ^ j)).toNat : Int)] 0 1 = bys (x ++ [BitVec.ofNat 8 (n / 256 ^ j)]) := by rw [bys_append]; rfl
      have e3 : x.length + (rowPart [PV.int .u8 ((BitVec.ofNat 8 (n / 256 ^ j)).toNat : Int)] 0 1).length = (x ++ [BitVec.ofNat 8 (n / 256 ^ j)]).length := by simp [rowPart]
      rw [e2, e3]
      refine cput_loop n w hw k0 m (j + 1) _ (by omega) ?_ (fun y hy => hk y ?_)
      · simp only [List.length_append, List.length_cons, List.length_nil]; omega
      · rw [hy, le_step, List.append_assoc]; rfl

/-- A number, as the document lays it. -/
def cput (n : Nat) : List By := if n ≥ 4294967296 then 255#8 :: le 8 n else if n ≥ 65536 then 254#8 :: le 4 n else if n ≥ 253 then 253#8 :: le 2 n else [BitVec.ofNat 8 n]
theorem cput_length (n : Nat) : (cput n).length = csize n := by
  unfold cput csize
  split
  · simp [le_length]
  · split
    · simp [le_length]
    · split
      · simp [le_length]
      · rfl

theorem J54_law (n w : Nat) (hw : w ≤ 8) (l : List By) (hl : l.length ≤ 1000000000) (k : Nat → List PV → Prop) (h : k (l ++ le w n).length (bys (l ++ le w n))) : J54_11 n l.length w (bys l) k := by
  unfold J54_11
  refine ⟨w + 1, cput_loop n w hw (fun a _ b => k a b) w 0 l (by omega) (by omega) (fun y hy => ?_)⟩
  rw [hy]
  simpa using h

theorem B54_law (l : List By) (hl : l.length ≤ 900000000) (n : Nat) (k : Nat → List PV → Prop) (h : k (l ++ cput n).length (bys (l ++ cput n))) : B54 (bys l) n k := by
  unfold B54
  refine B66_law l (by omega) _ (B71_law n _ ?_)
  have one : ∀ (b : By), bys l ++ rowPart [PV.int .u8 (b.toNat : Int)] 0 1 = bys (l ++ [b]) ∧ l.length + (rowPart [PV.int .u8 (b.toNat : Int)] 0 1).length = (l ++ [b]).length := fun b => ⟨by rw [bys_append]; rfl, by simp [rowPart]⟩
  have hc : IntKind.wrap .i64 ((csize n : Int) - 1) = ((csize n - 1 : Nat) : Int) := by
    have : 1 ≤ csize n ∧ csize n ≤ 9 := by unfold csize; split <;> (try split) <;> (try split) <;> omega
    rw [w64 (by omega) (by omega)]; omega
  rw [hc]
  have room : ∀ b : By, (l.length + (List.length (α := PV) (rowPart [PV.int .u8 (b.toNat : Int)] 0 1))) * 1 ≤ maxRoom := fun b => by
    rw [(one b).2, maxRoom_val]; simp; omega
  have lits : ∀ b : By, ∀ K : Nat → List PV → Prop, K (l ++ [b]).length (bys (l ++ [b])) → (0 + 1 ≤ (List.length (α := PV) [PV.int .u8 (b.toNat : Int)]) ∧ l.length = (List.length (α := PV) (bys l)) ∧ (l.length + (List.length (α := PV) (rowPart [PV.int .u8 (b.toNat : Int)] 0 1))) * 1 ≤ maxRoom ∧ K (l.length + (List.length (α := PV) (rowPart [PV.int .u8 (b.toNat : Int)] 0 1))) (bys l ++ rowPart [PV.int .u8 (b.toNat : Int)] 0 1)) := fun b K hK =>
    ⟨by simp, by rw [bys_length], room b, by rw [(one b).1, (one b).2]; exact hK⟩
  unfold cput at h
  unfold csize
  by_cases h1 : n ≥ 4294967296
  · rw [if_pos h1] at h ⊢
    refine cond_f (by decide) (cond_f (by decide) (cond_f (by decide) ?_))
    refine lits 255#8 (fun a b => J54_11 n a ((9 - 1 : Nat) : Int) b fun x y => k x y) (J54_law n 8 (by omega) _ (by simp; omega) k ?_)
    simpa using h
  · rw [if_neg h1] at h ⊢
    by_cases h2 : n ≥ 65536
    · rw [if_pos h2] at h ⊢
      refine cond_f (by decide) (cond_f (by decide) (cond_t (by decide) ?_))
      refine lits 254#8 (fun a b => J54_11 n a ((5 - 1 : Nat) : Int) b fun x y => k x y) (J54_law n 4 (by omega) _ (by simp; omega) k ?_)
      simpa using h
    · rw [if_neg h2] at h ⊢
      by_cases h3 : n ≥ 253
      · rw [if_pos h3] at h ⊢
        refine cond_f (by decide) (cond_t (by decide) ?_)
        refine lits 253#8 (fun a b => J54_11 n a ((3 - 1 : Nat) : Int) b fun x y => k x y) (J54_law n 2 (by omega) _ (by simp; omega) k ?_)
        simpa using h
      · rw [if_neg h3] at h ⊢
        refine cond_t (by decide) ?_
        have e : IntKind.wrap .u8 (n : Int) = ((BitVec.ofNat 8 n).toNat : Int) := by rw [wu8]; simp only [BitVec.toNat_ofNat]; omega
        rw [e]
        exact lits (BitVec.ofNat 8 n) k h

theorem B55_law (l t : List By) (hl : l.length ≤ 800000000) (ht : t.length ≤ 100000000) (k : Nat → List PV → Prop) (h : k (l ++ cput t.length ++ t).length (bys (l ++ cput t.length ++ t))) : B55 (bys l) (bys t) k := by
  unfold B55
  rw [bys_length]
  have e : IntKind.wrap .u64 (Int.ofNat t.length) = (t.length : Int) := by rw [wu64]; simp; omega
  rw [e]
  have hc : csize t.length ≤ 9 := by unfold csize; split <;> (try split) <;> (try split) <;> omega
  have hcl := cput_length t.length
  refine B54_law l (by omega) t.length _ ⟨by rw [bys_length], ?_, ?_⟩
  · rw [maxRoom_val, List.length_append]; omega
  · rw [← bys_append, ← List.length_append]; exact h

end Pv

namespace Pv
open Go

theorem cutL_bys (l : List By) (a b : Nat) : cutL (bys l) a b = bys ((l.take b).drop a) := by
  unfold cutL
  cases e : Nat.beq a 0 with
  | true =>
    have : a = 0 := Nat.eq_of_beq_eq_true e
    subst this; simp [bys]
  | false => simp [bys]

theorem B67_law (l : List By) (n : Nat) (hn : n ≤ l.length) (k : Bool → List PV → Bool → Bool → Prop) (h : k true (bys l) true false) : B67 n (bys l) true false k := by
  unfold B67
  refine cond_t rfl (cond_t rfl (cond_t (decide_eq_true (by omega)) ?_))
  rw [bys_length, decide_eq_true (by simp; omega)]
  exact h
theorem B47_law (l : List By) (n : Nat) (hn : n ≤ l.length) (k : List PV → List PV → Bool → Bool → Prop) (h : k (bys (l.take n)) (bys (l.drop n)) true false) : B47 n (bys l) true false k := by
  unfold B47
  refine B67_law l n hn _ (cond_f rfl ⟨Int.le_refl _, by omega, Int.le_refl _, by rw [bys_length]; simp; omega, by omega, by rw [bys_length]; simp; omega, Int.le_refl _, ?_⟩)
  rw [Int.toNat_natCast, bys_length, cutL_bys, cutL_bys]
  simpa using h
theorem B70_law (l : List By) (k : Bool → List PV → Bool → Bool → Prop) (h : k false (bys l) true false) : B70 (bys l) true false k := by
  unfold B70
  exact B67_law l 0 (Nat.zero_le _) _ h
theorem B52_law (l : List By) (k : Bool → List PV → Bool → Bool → Prop) (h : k (decide (l = [])) (bys l) true false) : B52 (bys l) true false k := by
  unfold B52
  refine B67_law l 0 (Nat.zero_le _) _ (cond_t rfl ?_)
  rw [bys_length]
  have : decide ((Int.ofNat l.length) = 0) = decide (l = []) := by
    cases l <;> simp
    omega
  rw [this]; exact h

theorem or_shift (a c i : Nat) (hi : i < 8) (ha : a < 256 ^ i) (hc : c < 256) : bitsW .or .u64 (a : Int) (IntKind.wrap .u64 ((IntKind.wrap .u64 (c : Int)) * 2 ^ (min (Int.toNat (IntKind.wrap .i64 (8 * (i : Int)))) 64))) = ((a + c * 256 ^ i : Nat) : Int) := by
  rw [w64 (by omega) (by omega)]
  have e : min (Int.toNat (8 * (i : Int))) 64 = 8 * i := by omega
  rw [e]
  have e2 : IntKind.wrap .u64 (c : Int) = (c : Int) := by rw [wu64]; omega
  rw [e2]
  have hp : (256 : Nat) ^ i = 2 ^ (8 * i) := by rw [Nat.pow_mul]
  have hle : 2 ^ (8 * i) ≤ 2 ^ 56 := Nat.pow_le_pow_right (by omega) (by omega)
  have hcm : c * 2 ^ (8 * i) < 2 ^ 64 := by
    have h1 : c * 2 ^ (8 * i) ≤ 255 * 2 ^ 56 := Nat.mul_le_mul (by omega) hle
    omega
  have e3 : IntKind.wrap .u64 ((c : Int) * 2 ^ (8 * i)) = ((c * 2 ^ (8 * i) : Nat) : Int) := by
    rw [wu64]
    have : ((c : Int) * 2 ^ (8 * i)) = ((c * 2 ^ (8 * i) : Nat) : Int) := by simp
    rw [this]
    omega
  rw [e3]
  rw [hp] at ha ⊢
  have ha2 : a < 2 ^ 64 := by omega
  have e4 : (BitVec.ofInt 64 (a : Int) ||| BitVec.ofInt 64 ((c * 2 ^ (8 * i) : Nat) : Int)).toNat = a + c * 2 ^ (8 * i) := by
    rw [BitVec.toNat_or]
    have t1 : (BitVec.ofInt 64 (a : Int)).toNat = a := by rw [BitVec.ofInt_natCast, BitVec.toNat_ofNat]; omega
    have t2 : (BitVec.ofInt 64 ((c * 2 ^ (8 * i) : Nat) : Int)).toNat = c * 2 ^ (8 * i) := by rw [BitVec.ofInt_natCast, BitVec.toNat_ofNat]; omega
    rw [t1, t2, Nat.or_comm, Nat.mul_comm, Nat.two_pow_add_eq_or_of_lt ha c |>.symm, Nat.add_comm]
  show IntKind.wrap .u64 (((BitVec.ofInt 64 (a : Int) ||| BitVec.ofInt 64 ((c * 2 ^ (8 * i) : Nat) : Int)).toNat : Nat) : Int) = _
  rw [e4, wu64]
  have hfin : a + c * 2 ^ (8 * i) < 2 ^ 64 := by
    have h2 : (c + 1) * 2 ^ (8 * i) ≤ 256 * 2 ^ 56 := Nat.mul_le_mul (by omega) hle
    rw [Nat.succ_mul] at h2
    omega
  omega

theorem unle_append : ∀ (a b : List By), unle (a ++ b) = unle a + 256 ^ a.length * unle b
  | [], b => by simp [unle]
  | x :: a, b => by
    rw [List.cons_append, unle, unle_append a b, unle, List.length_cons, Nat.pow_succ]
    rw [Nat.mul_add, ← Nat.mul_assoc, Nat.mul_comm 256 (256 ^ a.length)]
    omega

theorem num_loop (t : List By) (ht : t.length ≤ 8) (rb : List PV) (ma to : Bool) (k0 : Int → Int → Prop) (hk : k0 (unle t) t.length) : ∀ (m i : Nat), i + m = t.length → R48_4 (bys t) t.length rb ma to k0 (m + 1) (unle (t.take i)) i
  | 0, i, hi => by
    unfold R48_4 S48_4
    refine cond_f (decide_eq_false (by omega)) ?_
    have e : i = t.length := by omega
    subst e
    rw [List.take_length]; exact hk
  | m + 1, i, hi => by
    rw [R48_4]
    unfold S48_4
    have hlt : i < t.length := by omega
    refine cond_t (decide_eq_true (by omega)) ⟨by omega, ?_⟩
    rw [Int.toNat_natCast]
    refine elem_bys hlt ?_
    unfold asIntK
    refine cond_t (by decide) ⟨by rw [w64 (by omega) (by omega)]; omega, ?_⟩
    have h1 := unle_lt (t.take i)
    rw [List.length_take, Nat.min_eq_left (by omega)] at h1
    rw [or_shift _ _ i (by omega) h1 (t[i]).isLt]
    have e1 : IntKind.wrap .i64 ((i : Int) + 1) = ((i + 1 : Nat) : Int) := by rw [w64 (by omega) (by omega)]; simp
    rw [e1]
    have e2 : unle (t.take i) + (t[i]).toNat * 256 ^ i = unle (t.take (i + 1)) := by
      rw [List.take_succ_eq_append_getElem hlt, unle_append, List.length_take, Nat.min_eq_left (by omega)]
      simp [unle, Nat.mul_comm]
    rw [e2]
    exact num_loop t ht rb ma to k0 hk m (i + 1) (by omega)

theorem B48_law (l : List By) (w : Nat) (hw : w = 1 ∨ w = 2 ∨ w = 4 ∨ w = 8) (hl : w ≤ l.length) (k : Int → List PV → Bool → Bool → Prop) (h : k (unle (l.take w)) (bys (l.drop w)) true false) : B48 w (bys l) true false k := by
  have key : J48_3 w 0 (bys l) true false (fun a b c d => k a b c d) := by
    unfold J48_3
    refine B47_law l w hl _ ?_
    rw [bys_length]
    have hlen : (l.take w).length = w := by simp; omega
    refine ⟨(l.take w).length + 1, ?_⟩
    have := num_loop (l.take w) (by omega) (bys (l.drop w)) true false (fun a _ => k a (bys (l.drop w)) true false) h (l.take w).length 0 (by omega)
    simpa [unle] using this
  unfold B48 B68
  rcases hw with rfl | rfl | rfl | rfl
  · exact cond_f (by decide) (cond_f (by decide) key)
  · exact cond_t (by decide) (cond_f (by decide) (cond_f (by decide) key))
  · exact cond_t (by decide) (cond_t (by decide) (cond_f (by decide) (cond_f (by decide) key)))
  · exact cond_t (by decide) (cond_t (by decide) (cond_t (by decide) (cond_f (by decide) key)))

/-- The number behind a forms first byte: how wide. -/
theorem J50_law (n w : Nat) (most : Nat) (hm : n ≤ most) (hw : csize n = w + 1) (l : List By) (k : Int → Int → List PV → Bool → Bool → Prop) (h : k n 0 (bys l) true false) : J50_5 most n w (bys l) true false k := by
  unfold J50_5
  refine B70_law l _ (cond_t rfl (B71_law n _ ?_))
  have hw9 : w ≤ 8 := by
    have : csize n ≤ 9 := by unfold csize; split <;> (try split) <;> (try split) <;> omega
    omega
  rw [hw, w64 (by omega) (by omega)]
  exact cond_f (by simp) (cond_f (decide_eq_false (by omega)) h)

theorem B69_law (b : By) (k : Int → Prop) (h : k (if b = 253#8 then 2 else if b = 254#8 then 4 else if b = 255#8 then 8 else 0)) : B69 (b.toNat : Int) k := by
  unfold B69
  have hd : ∀ c : Nat, c < 256 → decide ((b.toNat : Int) = (c : Int)) = decide (b = BitVec.ofNat 8 c) := fun c hc => by
    have : ((b.toNat : Int) = (c : Int)) ↔ b = BitVec.ofNat 8 c := by
      constructor
      · intro h
        apply BitVec.eq_of_toNat_eq
        simp only [BitVec.toNat_ofNat]; omega
      · intro h; rw [h]; simp only [BitVec.toNat_ofNat]; omega
    simp only [this]
  have h1 := hd 253 (by omega); have h2 := hd 254 (by omega); have h3 := hd 255 (by omega)
  simp only [Int.cast_ofNat_Int] at h1 h2 h3
  rw [h1, h2, h3]
  simp only [Bool.cond_decide]
  by_cases e1 : b = 253#8
  · rw [if_pos e1] at h ⊢; exact h
  · rw [if_neg e1] at h ⊢
    by_cases e2 : b = 254#8
    · rw [if_pos e2] at h ⊢; exact h
    · rw [if_neg e2] at h ⊢
      by_cases e3 : b = 255#8
      · rw [if_pos e3] at h ⊢; exact h
      · rw [if_neg e3] at h ⊢; exact h

theorem B50_law (n : Nat) (hn : n < 18446744073709551616) (most : Nat) (hm : n ≤ most) (l : List By) (k : Int → Int → List PV → Bool → Bool → Prop) (h : k n 0 (bys l) true false) : B50 most (bys (cput n ++ l)) true false k := by
  have wide : ∀ (b : By) (w : Nat), (w = 2 ∨ w = 4 ∨ w = 8) → (if b = 253#8 then 2 else if b = 254#8 then 4 else if b = 255#8 then 8 else (0 : Int)) = w → n < 256 ^ w → csize n = w + 1 → B50 most (bys ((b :: le w n) ++ l)) true false k := by
    intro b w hw hb hlt hc
    unfold B50
    refine B48_law _ 1 (.inl rfl) (by simp) _ ?_
    have e1 : unle (((b :: le w n) ++ l).take 1) = b.toNat := by simp [unle]
    have e2 : ((b :: le w n) ++ l).drop 1 = le w n ++ l := by simp
    rw [e1, e2]
    refine B69_law b _ ?_
    rw [hb]
    refine cond_t (decide_eq_true (by omega)) (B48_law _ w (by omega) (by simp [le_length]) _ ?_)
    have e3 : (le w n ++ l).take w = le w n := by rw [List.take_left' (le_length w n)]
    have e4 : (le w n ++ l).drop w = l := by rw [List.drop_left' (le_length w n)]
    rw [e3, e4, unle_le w n hlt]
    exact J50_law n w most hm hc l _ h
  unfold cput
  by_cases h1 : n ≥ 4294967296
  · rw [if_pos h1]
    exact wide _ 8 (by omega) (by decide) (by omega) (by unfold csize; rw [if_pos h1])
  · rw [if_neg h1]
    by_cases h2 : n ≥ 65536
    · rw [if_pos h2]
      exact wide _ 4 (by omega) (by decide) (by omega) (by unfold csize; rw [if_neg h1, if_pos h2])
    · rw [if_neg h2]
      by_cases h3 : n ≥ 253
      · rw [if_pos h3]
        exact wide _ 2 (by omega) (by decide) (by omega) (by unfold csize; rw [if_neg h1, if_neg h2, if_pos h3])
      · rw [if_neg h3]
        unfold B50
        refine B48_law _ 1 (.inl rfl) (by simp) _ ?_
        have hb : (BitVec.ofNat 8 n).toNat = n := by simp only [BitVec.toNat_ofNat]; omega
        have e1 : unle (([BitVec.ofNat 8 n] ++ l).take 1) = (BitVec.ofNat 8 n).toNat := by simp [unle]
        have e2 : ([BitVec.ofNat 8 n] ++ l).drop 1 = l := by simp
        rw [e1, e2]
        refine B69_law _ _ ?_
        have hne : ∀ c : Nat, 253 ≤ c → c < 256 → BitVec.ofNat 8 n ≠ BitVec.ofNat 8 c := fun c h1 h2 e => by
          have := congrArg BitVec.toNat e
          simp only [BitVec.toNat_ofNat] at this; omega
        rw [if_neg (hne 253 (by omega) (by omega)), if_neg (hne 254 (by omega) (by omega)), if_neg (hne 255 (by omega) (by omega)), hb]
        refine cond_f (by decide) ?_
        exact J50_law n 0 most hm (by unfold csize; rw [if_neg h1, if_neg h2, if_neg h3]) l _ h

theorem B51_law (t : List By) (most : Nat) (hm : t.length ≤ most) (hm2 : most ≤ 1000000000) (l : List By) (k : List PV → Int → List PV → Bool → Bool → Prop) (h : k (bys t) 0 (bys l) true false) : B51 most (bys (cput t.length ++ t ++ l)) true false k := by
  unfold B51
  have e : IntKind.wrap .u64 (if (0 : Int) > (most : Int) then 0 else (most : Int)) = (most : Int) := by
    rw [if_neg (by omega), wu64]; omega
  rw [e, List.append_assoc]
  refine B50_law t.length (by omega) most hm (t ++ l) _ (cond_f (by decide) ?_)
  rw [w64 (by omega) (by omega)]
  refine B47_law (t ++ l) t.length (by simp) _ (B70_law _ _ (cond_f rfl ?_))
  rw [List.take_left' rfl, List.drop_left' rfl]
  exact h

end Pv

namespace Pv
open Go

theorem bput_loop (n w : Nat) (hw : w ≤ 8) (k0 : Nat → Int → List PV → Prop) : ∀ (m j : Nat) (x : List By), j + m = w → x.length + m ≤ 2000000000 →
    (∀ y : List By, y = x ++ le m (n / 256 ^ j) → k0 y.length w (bys y)) → R56_5 n w k0 (m + 1) x.length j (bys x)
  | 0, j, x, hj, hx, hk => by
    unfold R56_5 S56_5
    refine cond_f (decide_eq_false (by omega)) ?_
    have e : j = w := by omega
    subst e
    exact hk x (by simp [le])
  | m + 1, j, x, hj, hx, hk => by
    rw [R56_5]
    unfold S56_5
    rw [byte_at n j (by omega)]
    refine cond_t (decide_eq_true (by omega)) ⟨by rw [w64 (by omega) (by omega)]; omega, by simp, by rw [bys_length], ?_, ?_⟩
    · simp only [rowPart, Nat.beq_refl, cond_true, List.take_succ_cons, List.take_zero, List.length_cons, List.length_nil]
      rw [maxRoom_val]; omega
    · have e1 : IntKind.wrap .i64 ((j : Int) + 1) = ((j + 1 : Nat) : Int) := by rw [w64 (by omega) (by omega)]; simp
      rw [e1]
      have e2 : bys x ++ rowPart [PV.int .u8 ((BitVec.ofNat 8 (n / 256 ^ j)).toNat : Int)] 0 1 = bys (x ++ [BitVec.ofNat 8 (n / 256 ^ j)]) := by rw [bys_append]; rfl
      have e3 : x.length + (rowPart [PV.int .u8 ((BitVec.ofNat 8 (n / 256 ^ j)).toNat : Int)] 0 1).length = (x ++ [BitVec.ofNat 8 (n / 256 ^ j)]).length := by simp [rowPart]
      rw [e2, e3]
      refine bput_loop n w hw k0 m (j + 1) _ (by omega) ?_ (fun y hy => hk y ?_)
      · simp only [List.length_append, List.length_cons, List.length_nil]; omega
      · rw [hy, le_step, List.append_assoc]; rfl


theorem B68_law (w : Nat) (hw : w = 1 ∨ w = 2 ∨ w = 4 ∨ w = 8) (k : Bool → Prop) (h : k true) : B68 w k := by
  unfold B68
  rcases hw with rfl | rfl | rfl | rfl
  · exact cond_f (by decide) h
  · exact cond_t (by decide) (cond_f (by decide) h)
  · exact cond_t (by decide) (cond_t (by decide) (cond_f (by decide) h))
  · exact cond_t (by decide) (cond_t (by decide) (cond_t (by decide) h))

theorem B56_law (l : List By) (hl : l.length ≤ 1000000) (w : Nat) (hw : w = 1 ∨ w = 2 ∨ w = 4 ∨ w = 8) (n : Nat) (hn : n < 256 ^ w) (k : Nat → Int → List PV → Prop) (h : k (l ++ le w n).length 0 (bys (l ++ le w n))) : B56 (bys l) w n k := by
  have key : ∀ K : Nat → List PV → Prop, K (l ++ le w n).length (bys (l ++ le w n)) → J56_3 (bys l) w n K := by
    intro K hK
    unfold J56_3
    refine B66_law l (by omega) _ ⟨w + 1, bput_loop n w (by omega) (fun a _ b => K a b) w 0 l (by omega) (by omega) (fun y hy => ?_)⟩
    rw [hy]; simpa using hK
  unfold B56
  refine B68_law w hw _ (cond_t rfl ?_)
  by_cases h8 : w < 8
  · refine cond_t (decide_eq_true (by omega)) ⟨by rw [w64 (by omega) (by omega)]; omega, cond_f ?_ (key _ h)⟩
    rw [w64 (by omega) (by omega)]
    have e : min (Int.toNat (8 * (w : Int))) 64 = 8 * w := by omega
    rw [e, fdiv_pow, Nat.shiftRight_eq_div_pow, Nat.pow_mul]
    have : n / (2 ^ 8) ^ w = 0 := Nat.div_eq_of_lt hn
    rw [this]; rfl
  · exact cond_f (decide_eq_false (by omega)) (key _ h)

/-- What a naming sector names. -/
structure Nm where
  number : Nat
  first : Nat
  long : Nat
  sum : BitVec 32
def mark8 : List By := [83#8, 80#8, 73#8, 78#8, 78#8, 69#8, 89#8, 49#8]
def Nm.body (n : Nm) : List By := mark8 ++ le 8 n.number ++ le 4 n.first ++ le 8 n.long ++ le 4 n.sum.toNat
def Nm.laid (n : Nm) : List By := n.body ++ List.replicate 96 0#8
theorem body_len (n : Nm) : n.body.length = 32 := by simp [Nm.body, le_length, mark8]
theorem laid_len (n : Nm) : n.laid.length = 128 := by simp [Nm.laid, body_len]

theorem J35_5_law (l : List By) (hl : l.length ≤ 128) (k : List PV → Prop) (h : k (bys (l ++ List.replicate (128 - l.length) 0#8))) : J35_5 l.length (bys l) k := by
  unfold J35_5
  have e : IntKind.wrap .i64 (128 - Int.ofNat l.length) = ((128 - l.length : Nat) : Int) := by
    rw [w64 (by simp; omega) (by simp; omega)]; simp; omega
  rw [e, Int.toNat_natCast, List.length_replicate, ← bys_replicate, ← bys_append, bys_length]
  refine ⟨by omega, by rw [maxRoom_val]; omega, rfl, by rw [maxRoom_val]; omega, by rw [bys_length]; simp, ?_⟩
  rw [rowPart_all _ _ (by rw [bys_length]; simp)]
  exact h

theorem B35_law (n : Nm) (h1 : n.number < 18446744073709551616) (h2 : n.first < 4294967296) (h3 : n.long < 1000000000) (k : List PV → Prop) (h : k (bys n.laid)) : B35 n.number n.first n.long n.sum.toNat k := by
  have hs := n.sum.isLt
  unfold B35 J35_1
  refine ⟨by simp, ?_⟩
  have em : rowPart [(.int .u8 83), (.int .u8 80), (.int .u8 73), (.int .u8 78), (.int .u8 78), (.int .u8 69), (.int .u8 89), (.int .u8 49)] 0 8 = bys mark8 := rfl
  rw [em]
  refine B56_law mark8 (by decide) 8 (by omega) n.number (by omega) _ ?_
  unfold J35_2
  refine ⟨by rw [bys_length]; omega, ?_⟩
  rw [rowPart_all _ _ (by rw [bys_length])]
  have e1 : IntKind.wrap .u64 (n.first : Int) = (n.first : Int) := by rw [wu64]; omega
  rw [e1]
  refine B56_law _ (by simp [le_length, mark8]) 4 (by omega) n.first (by omega) _ ?_
  unfold J35_3
  refine ⟨by rw [bys_length]; omega, ?_⟩
  rw [rowPart_all _ _ (by rw [bys_length])]
  have e2 : IntKind.wrap .u64 (n.long : Int) = (n.long : Int) := by rw [wu64]; omega
  rw [e2]
  refine B56_law _ (by simp [le_length, mark8]) 8 (by omega) n.long (by omega) _ ?_
  unfold J35_4
  refine ⟨by rw [bys_length]; omega, ?_⟩
  rw [rowPart_all _ _ (by rw [bys_length])]
  have e3 : IntKind.wrap .u64 (n.sum.toNat : Int) = (n.sum.toNat : Int) := by rw [wu64]; omega
  rw [e3]
  refine B56_law _ (by simp [le_length, mark8]) 4 (by omega) n.sum.toNat (by omega) _ ?_
  refine J35_5_law n.body (by rw [body_len]; omega) _ ?_
  rw [body_len]
  exact h

end Pv

namespace Pv
open Go

/-! Bytes as strings. -/
def ba (l : List By) : ByteArray := ⟨(l.map UInt8.ofBitVec).toArray⟩
theorem ba_toList (l : List By) : (ba l).toList = l.map UInt8.ofBitVec := ByteArray.toList_mk _
theorem u8_inj {a b : By} (h : UInt8.ofBitVec a = UInt8.ofBitVec b) : a = b := congrArg UInt8.toBitVec h
theorem map_u8_inj {a b : List By} (h : a.map UInt8.ofBitVec = b.map UInt8.ofBitVec) : a = b := by
  have := congrArg (List.map UInt8.toBitVec) h
  simpa [List.map_map, Function.comp_def] using this
theorem ba_inj {a b : List By} (h : ba a = ba b) : a = b := map_u8_inj (by rw [← ba_toList, ← ba_toList, h])
theorem ba_beq (a b : List By) : ((ba a).toList == (ba b).toList) = decide (a = b) := by
  rw [ba_toList, ba_toList, Bool.eq_iff_iff]
  simp only [beq_iff_eq, decide_eq_true_eq]
  exact ⟨map_u8_inj, fun h => by rw [h]⟩
theorem ba_size (l : List By) : (ba l).size = l.length := by simp [ba, ByteArray.size]
theorem bytesOf_bys : ∀ l : List By, bytesOf (bys l) = some (l.map UInt8.ofBitVec)
  | [] => rfl
  | b :: r => by
    have ih := bytesOf_bys r
    unfold bys at ih ⊢
    rw [List.map_cons, bytesOf, ih]
    simp only [Option.map_some, List.map_cons, Option.some.injEq, List.cons.injEq, and_true]
    apply UInt8.eq_of_toBitVec_eq
    simp
theorem asBytes_bys (l : List By) (K : ByteArray → Prop) : asBytesK (bys l) K = K (ba l) := by
  unfold asBytesK
  rw [bytesOf_bys]
  rfl
/-- A strings bytes. -/
def bs (s : ByteArray) : List By := s.data.toList.map UInt8.toBitVec
theorem ba_bs (s : ByteArray) : ba (bs s) = s := by
  unfold ba bs
  rw [List.map_map]
  have : (UInt8.ofBitVec ∘ UInt8.toBitVec) = id := rfl
  rw [this, List.map_id]
theorem bs_ba (l : List By) : bs (ba l) = l := ba_inj (ba_bs _)
theorem bytePVs_bs (s : ByteArray) : bytePVs s = bys (bs s) := by
  unfold bytePVs bys bs
  rw [List.map_map]
  rfl
theorem bs_length (s : ByteArray) : (bs s).length = s.size := by
  have := ba_size (bs s)
  rw [ba_bs] at this
  exact this.symm
theorem bs_inj {a b : ByteArray} (h : bs a = bs b) : a = b := by rw [← ba_bs a, h, ba_bs]

theorem wn32 (n : Nat) (h : n < 4294967296) : IntKind.wrap .u32 (n : Int) = n := by rw [wu32]; omega
theorem wn64 (n : Nat) (h : n < 18446744073709551616) : IntKind.wrap .u64 (n : Int) = n := by rw [wu64]; omega
theorem B26_law (l : Nat) (hl : l ≤ 1000000000) (k : Int → Prop) (h : k (secN l)) : B26 l k := ⟨by decide, by rw [secN_int l hl]; exact h⟩

/-- What a sector names on a device of n sectors. -/
def rawName (l : List By) : Nm := ⟨unle ((l.drop 8).take 8), unle ((l.drop 16).take 4), unle ((l.drop 20).take 8), BitVec.ofNat 32 (unle ((l.drop 28).take 4))⟩
def mostN : Nat := 4611686018427387904
def Nm.good (m : Nm) (n : Nat) (l : List By) : Prop := m.long ≤ n * 128 ∧ m.first ≤ n ∧ m.number ≠ 0 ∧ m.number ≤ mostN ∧ 2 ≤ m.first ∧ 1 ≤ m.long ∧ m.first + secN m.long ≤ n ∧ m.laid = l
def Nm.zero : Nm := ⟨0, 0, 0, 0#32⟩
instance (m : Nm) (n : Nat) (l : List By) : Decidable (m.good n l) := by unfold Nm.good; infer_instance
def nameOf (n : Nat) (l : List By) : Nm := if (rawName l).good n l then rawName l else .zero

abbrev K24 := Nat → Bool → Bool → Int → Int → Int → List PV → Int → Int → Int → Int → Prop
def K24.at (k : K24) (n : Nat) (off cut : Bool) (a b c : Int) (S : List PV) (m : Nm) : Prop := k n off cut a b c S m.number m.first m.long m.sum.toNat

theorem J24_13_law (m : Nm) (l : List By) (n : Nat) (hn : n ≤ 1000000) (hA : m.long ≤ n * 128) (hB : m.first ≤ n) (off cut : Bool) (a b c : Int) (S : List PV) (k : K24)
    (h : K24.at k n off cut a b c S (if m.good n l then m else .zero)) : J24_13 (bys l) n off cut a b c S m.number m.first m.long m.sum.toNat k := by
  unfold J24_13
  have zero : ¬ m.good n l → k n off cut a b c S 0 0 0 0 := fun hg => by rw [if_neg hg] at h; exact h
  by_cases h1 : m.number = 0
  · exact cond_f (by simp [h1]) (zero fun g => g.2.2.1 h1)
  refine cond_t (by simp [h1]) ?_
  by_cases h2 : m.number ≤ mostN
  case neg => exact cond_f (by unfold mostN at h2; simp; omega) (zero fun g => h2 g.2.2.2.1)
  refine cond_t (by unfold mostN at h2; simp; omega) ?_
  by_cases h3 : 2 ≤ m.first
  case neg => exact cond_f (by simp; omega) (zero fun g => h3 g.2.2.2.2.1)
  refine cond_t (by simp; omega) ?_
  by_cases h4 : 1 ≤ m.long
  case neg => exact cond_f (by simp; omega) (zero fun g => h4 g.2.2.2.2.2.1)
  refine cond_t (by simp; omega) ?_
  unfold mostN at h2
  have hfit : ∀ p q : Prop, (m.first + secN m.long ≤ n → p) → (¬ m.first + secN m.long ≤ n → q) → cond (!decide (IntKind.wrap .i64 ((m.first : Int) + (secN m.long : Int)) > Int.ofNat n)) p q := by
    intro p q hp hq
    have hsl : secN m.long ≤ n + 1 := by unfold secN; omega
    rw [w64 (by omega) (by omega)]
    by_cases h6 : m.first + secN m.long ≤ n
    · exact cond_t (by simp; omega) (hp h6)
    · exact cond_f (by simp; omega) (hq h6)
  have h26 : ∀ q : Int → Prop, q (secN m.long) → B26 m.long q := fun q hq => B26_law m.long (by omega) q hq
  have h35 : ∀ q : List PV → Prop, q (bys m.laid) → B35 m.number m.first m.long m.sum.toNat q := fun q hq => B35_law m (by omega) (by omega) (by omega) q hq
  have heq : ∀ g : m.first + secN m.long ≤ n, cond (!decide (m.laid = l)) (k n off cut a b c S 0 0 0 0) (k n off cut a b c S m.number m.first m.long m.sum.toNat) := by
    intro g
    by_cases h7 : m.laid = l
    · refine cond_f (by simp [h7]) ?_
      rw [if_pos ⟨hA, hB, h1, h2, h3, h4, g, h7⟩] at h
      exact h
    · exact cond_t (by simp [h7]) (zero fun g => h7 g.2.2.2.2.2.2.2)
  unfold B23 J24_15
  simp only [cj_eq, cj2, cond_true, cond_false, and_self]
  have fin : ∀ p : Prop, (m.first + secN m.long ≤ n → p) → cond (!decide (IntKind.wrap .i64 ((m.first : Int) + (secN m.long : Int)) > Int.ofNat n)) p (k n off cut a b c S 0 0 0 0) := fun p hp => hfit _ _ hp fun g => zero fun g' => g g'.2.2.2.2.2.2.1
  repeat' (with_reducible apply And.intro)
  all_goals refine h26 _ ?_
  all_goals try dsimp only
  all_goals repeat' (with_reducible apply And.intro)
  all_goals refine fin _ fun g => ?_
  all_goals simp only [asBytes_bys]
  all_goals repeat' (with_reducible apply And.intro)
  all_goals refine h35 _ ?_
  all_goals simp only [asBytes_bys, ba_beq]
  all_goals repeat' (with_reducible apply And.intro)
  all_goals first | exact heq g | (simp only [eq_comm (a := l)]; exact heq g)

theorem unle_zeros : ∀ m : Nat, unle (List.replicate m 0#8) = 0
  | 0 => rfl
  | m + 1 => by simp [List.replicate_succ, unle, unle_zeros m]

theorem J24_4_law (l : List By) (hl : l.length = 128) (n : Nat) (hn : n ≤ 1000000) (off cut : Bool) (a b c : Int) (S : List PV) (k : K24)
    (h : K24.at k n off cut a b c S (nameOf n l)) : J24_4 0 (bys l) n off cut a b c S 0 0 0 0 k := by
  unfold J24_4
  refine B46_law l (by omega) _ ?_
  unfold J24_5
  refine B47_law l 8 (by omega) _ ?_
  unfold J24_6
  refine B48_law _ 8 (by simp) (by simp; omega) _ ?_
  unfold J24_7
  refine B48_law _ 4 (by simp) (by simp; omega) _ ?_
  refine B48_law _ 8 (by simp) (by simp; omega) _ ?_
  unfold J24_8
  refine B48_law _ 4 (by simp) (by simp; omega) _ ?_
  simp only [List.drop_drop, Nat.reduceAdd]
  have hs := unle_lt ((l.drop 28).take 4)
  have h20 := unle_lt ((l.drop 20).take 8)
  have h16 := unle_lt ((l.drop 16).take 4)
  have hle : ((l.drop 28).take 4).length = 4 := by simp; omega
  have hle2 : ((l.drop 20).take 8).length = 8 := by simp; omega
  have hle3 : ((l.drop 16).take 4).length = 4 := by simp; omega
  rw [hle] at hs
  rw [hle2] at h20
  rw [hle3] at h16
  rw [wn32 _ (by omega)]
  unfold J24_9 B23
  dsimp only
  rw [show IntKind.wrap .u64 (IntKind.wrap .u64 (Int.ofNat n) * 128) = ((n * 128 : Nat) : Int) by rw [show Int.ofNat n = (n : Int) from rfl, wn64 n (by omega), show (n : Int) * 128 = ((n * 128 : Nat) : Int) by omega, wn64 _ (by omega)]]
  unfold J24_10 B23
  dsimp only
  have zero : ¬ (rawName l).good n l → k n off cut a b c S 0 0 0 0 := fun hg => by unfold nameOf at h; rw [if_neg hg] at h; exact h
  by_cases hA : unle ((l.drop 20).take 8) ≤ n * 128
  · refine cond_t (by simp; omega) ?_
    rw [show IntKind.wrap .u64 (Int.ofNat n) = (n : Int) from wn64 n (by omega)]
    by_cases hB : unle ((l.drop 16).take 4) ≤ n
    · refine cond_f (decide_eq_false (by omega)) ?_
      unfold J24_12
      rw [w64 (by omega) (by omega), w64 (by omega) (by omega)]
      have hsum : ((rawName l).sum.toNat : Int) = (unle ((l.drop 28).take 4) : Nat) := by
        unfold rawName
        simp only [BitVec.toNat_ofNat]
        omega
      rw [← hsum]
      exact J24_13_law (rawName l) l n hn hA hB off cut a b c S k h
    · refine cond_t (decide_eq_true (by omega)) (zero fun g => hB g.2.1)
  · refine cond_f (by simp; omega) (zero fun g => hA g.1)

theorem readR_one (S : List (List By)) (p : Nat) (hp : p < S.length) : readR S p 1 = S[p] := by
  unfold readR
  rw [List.drop_eq_getElem_cons hp, List.take_succ_cons, List.take_zero]
  simp

theorem B24_law (d : Dev) (hS : Secs d.S) (hn : d.S.length ≤ 1000000) (p : Nat) (hp : p < d.S.length)
    (k : Int → Int → Int → Int → Int → Nat → Bool → Bool → Int → Int → Int → List PV → Prop)
    (h1 : d.off = true → k 0 0 0 0 36 d.S.length d.off d.cut d.wh d.ke d.wr (d.S.map sec))
    (h2 : d.off = false → k (nameOf d.S.length d.S[p]).number (nameOf d.S.length d.S[p]).first (nameOf d.S.length d.S[p]).long (nameOf d.S.length d.S[p]).sum.toNat 0 d.S.length d.off d.cut d.wh d.ke d.wr (d.S.map sec)) :
    B24 p d.S.length d.off d.cut d.wh d.ke d.wr (d.S.map sec) k := by
  unfold B24 J24_1
  have hm : mayR d.S.length d.off p 1 = if d.off then 36 else 0 := by
    unfold mayR; rw [if_neg (by omega), if_neg (by omega)]
  refine B25_law d.S hS hn p 1 d.off d.cut d.wh d.ke d.wr _ (fun h => ?_) fun h => ?_
  · rw [hm] at h ⊢
    cases ho : d.off with
    | false => rw [ho] at h; exact absurd rfl h
    | true =>
      unfold J24_2
      rw [ho] at h1
      exact cond_t (by decide) (h1 rfl)
  · rw [hm] at h
    cases ho : d.off with
    | true => rw [ho] at h; cases h
    | false =>
      unfold J24_2
      refine cond_f (by decide) ?_
      have e : readR d.S (p : Int).toNat (1 : Int).toNat = d.S[p] := readR_one d.S p hp
      rw [e]
      rw [ho] at h2
      exact J24_4_law _ (hS _ (List.getElem_mem hp)) d.S.length hn false d.cut d.wh d.ke d.wr _ _ (h2 rfl)

end Pv

namespace Pv
open Go

/-- A reader: what is not taken yet, and whether it was asked for more. -/
structure Rd where
  l : List By
  t : Bool
def Rd.may (r : Rd) (n : Int) : Bool := decide (r.t = false ∧ 0 ≤ n ∧ n ≤ r.l.length)
def Rd.take (r : Rd) (n : Int) : List By × Rd := if r.may n then (r.l.take n.toNat, ⟨r.l.drop n.toNat, r.t⟩) else ([], ⟨r.l, true⟩)
def Rd.num (r : Rd) (w : Nat) : Nat × Rd := (unle (r.take w).1, (r.take w).2)
def Rd.end (r : Rd) : Bool := decide (r.t = false ∧ r.l = [])

theorem B67_g (r : Rd) (n : Int) (k : Bool → List PV → Bool → Bool → Prop) (h : k (r.may n) (bys r.l) true r.t) : B67 n (bys r.l) true r.t k := by
  obtain ⟨l, t⟩ := r
  unfold B67
  unfold Rd.may at h
  simp only at h ⊢
  cases t with
  | true => exact cond_t rfl (cond_f rfl (by simpa using h))
  | false =>
    refine cond_t rfl (cond_t rfl ?_)
    rw [bys_length]
    by_cases h0 : n ≥ 0
    · refine cond_t (by simpa using h0) ?_
      have e : decide (n ≤ Int.ofNat l.length) = decide (false = false ∧ 0 ≤ n ∧ n ≤ (l.length : Int)) := by
        rw [decide_eq_decide]
        exact ⟨fun h => ⟨rfl, h0, h⟩, fun h => h.2.2⟩
      rw [e]; exact h
    · refine cond_f (by simpa using h0) ?_
      have e : decide (false = false ∧ 0 ≤ n ∧ n ≤ (l.length : Int)) = false := decide_eq_false (fun h => h0 h.2.1)
      rw [e] at h; exact h
theorem B70_g (r : Rd) (k : Bool → List PV → Bool → Bool → Prop) (h : k r.t (bys r.l) true r.t) : B70 (bys r.l) true r.t k := by
  unfold B70
  refine B67_g r 0 _ ?_
  have e : (!r.may 0) = r.t := by
    obtain ⟨l, t⟩ := r
    unfold Rd.may
    cases t
    · simp
    · simp
  rw [e]; exact h
theorem B47_g (r : Rd) (n : Int) (k : List PV → List PV → Bool → Bool → Prop) (h : k (bys (r.take n).1) (bys (r.take n).2.l) true (r.take n).2.t) : B47 n (bys r.l) true r.t k := by
  unfold B47
  refine B67_g r n _ ?_
  unfold Rd.take at h
  cases e : r.may n with
  | false =>
    rw [e] at h
    exact cond_t rfl h
  | true =>
    rw [e] at h
    have e2 := of_decide_eq_true e
    refine cond_f rfl ⟨Int.le_refl _, e2.2.1, Int.le_refl _, ?_, e2.2.1, ?_, Int.le_refl _, ?_⟩
    · rw [bys_length]; exact e2.2.2
    · rw [bys_length]; exact e2.2.2
    · rw [bys_length, cutL_bys, cutL_bys, List.take_length, List.drop_zero]
      exact h
theorem B52_g (r : Rd) (k : Bool → List PV → Bool → Bool → Prop) (h : k r.end (bys r.l) true r.t) : B52 (bys r.l) true r.t k := by
  unfold B52
  refine B67_g r 0 _ ?_
  obtain ⟨l, t⟩ := r
  unfold Rd.end at h
  unfold Rd.may
  simp only at h ⊢
  rw [bys_length]
  cases t with
  | true => exact cond_f (by simp) (by simpa using h)
  | false =>
    refine cond_t (by simp) ?_
    have : decide ((Int.ofNat l.length) = 0) = decide (false = false ∧ l = []) := by
      cases l <;> simp
      omega
    rw [this]; exact h
theorem take_len (r : Rd) (w : Nat) : (r.take w).1.length ≤ w := by
  unfold Rd.take
  split
  · simp; omega
  · simp
theorem B48_g (r : Rd) (w : Nat) (hw : w = 1 ∨ w = 2 ∨ w = 4 ∨ w = 8) (k : Int → List PV → Bool → Bool → Prop) (h : k (r.num w).1 (bys (r.num w).2.l) true (r.num w).2.t) : B48 w (bys r.l) true r.t k := by
  unfold B48
  refine B68_law w hw _ (cond_f rfl ?_)
  unfold J48_3
  refine B47_g r w _ ?_
  rw [bys_length]
  refine ⟨(r.take w).1.length + 1, ?_⟩
  have hl := take_len r w
  have := num_loop (r.take w).1 (by omega) (bys (r.take w).2.l) true (r.take w).2.t (fun a _ => k a (bys (r.take w).2.l) true (r.take w).2.t) h (r.take w).1.length 0 (by omega)
  simpa [unle] using this

/-- How wide what stands behind a forms first byte is. -/
def cwidth (n : Nat) : Nat := if n = 253 then 2 else if n = 254 then 4 else if n = 255 then 8 else 0
theorem B69_g (n : Nat) (k : Int → Prop) (h : k (cwidth n : Nat)) : B69 n k := by
  unfold B69
  unfold cwidth at h
  simp only [Bool.cond_decide]
  by_cases e1 : n = 253
  · subst e1; exact h
  · rw [if_neg e1] at h
    rw [if_neg (by omega)]
    by_cases e2 : n = 254
    · subst e2; exact h
    · rw [if_neg e2] at h
      rw [if_neg (by omega)]
      by_cases e3 : n = 255
      · subst e3; exact h
      · rw [if_neg e3] at h
        rw [if_neg (by omega)]
        exact h

/-- The form of a number: value, error, and the reader behind it. -/
def getR2 (n w : Nat) (r : Rd) (most : Nat) : Nat × Int × Rd := if r.t = true ∨ csize n ≠ w + 1 then (0, 4, r) else if n > most then (0, 3, r) else (n, 0, r)
def getR (r : Rd) (most : Nat) : Nat × Int × Rd :=
  let a := r.num 1
  let w := cwidth a.1
  if w > 0 then getR2 (a.2.num w).1 w (a.2.num w).2 most else getR2 a.1 0 a.2 most
theorem J50_g (n w : Nat) (hw : w ≤ 8) (r : Rd) (most : Nat) (k : Int → Int → List PV → Bool → Bool → Prop) (h : k (getR2 n w r most).1 (getR2 n w r most).2.1 (bys (getR2 n w r most).2.2.l) true (getR2 n w r most).2.2.t) : J50_5 most n w (bys r.l) true r.t k := by
  unfold J50_5
  refine B70_g r _ ?_
  unfold getR2 at h
  by_cases ht : r.t = true
  · rw [if_pos (.inl ht)] at h
    exact cond_f (by rw [ht]; rfl) h
  · refine cond_t (by simpa using ht) (B71_law n _ ?_)
    rw [w64 (by omega) (by omega)]
    by_cases hc : csize n = w + 1
    · rw [if_neg (by rintro (h | h); exact ht h; exact h hc)] at h
      refine cond_f (by simp; omega) ?_
      by_cases hm : n > most
      · rw [if_pos hm] at h
        exact cond_t (decide_eq_true (by omega)) h
      · rw [if_neg hm] at h
        exact cond_f (decide_eq_false (by omega)) h
    · rw [if_pos (.inr hc)] at h
      refine cond_t ?_ h
      have : ¬ ((csize n : Int) = (w : Int) + 1) := by omega
      simp [this]
theorem B50_g (r : Rd) (most : Nat) (k : Int → Int → List PV → Bool → Bool → Prop) (h : k (getR r most).1 (getR r most).2.1 (bys (getR r most).2.2.l) true (getR r most).2.2.t) : B50 most (bys r.l) true r.t k := by
  unfold B50
  refine B48_g r 1 (.inl rfl) _ (B69_g _ _ ?_)
  unfold getR at h
  simp only at h
  have hw : cwidth (r.num 1).1 = 0 ∨ cwidth (r.num 1).1 = 2 ∨ cwidth (r.num 1).1 = 4 ∨ cwidth (r.num 1).1 = 8 := by
    unfold cwidth; split <;> (try split) <;> (try split) <;> omega
  by_cases h0 : cwidth (r.num 1).1 > 0
  · rw [if_pos h0] at h
    exact cond_t (decide_eq_true (by omega)) (B48_g _ _ (by omega) _ (J50_g _ _ (by omega) _ _ _ h))
  · rw [if_neg h0] at h
    have e : cwidth (r.num 1).1 = 0 := by omega
    rw [e]
    exact cond_f (by decide) (J50_g _ 0 (by omega) _ _ _ h)
/-- A text: its bytes, error, and the reader behind it. -/
def textR (r : Rd) (most : Nat) : List By × Int × Rd :=
  let a := getR r most
  if a.2.1 ≠ 0 then ([], a.2.1, a.2.2) else if (a.2.2.take a.1).2.t = true then ([], 4, (a.2.2.take a.1).2) else ((a.2.2.take a.1).1, 0, (a.2.2.take a.1).2)
theorem getR_le (r : Rd) (most : Nat) : (getR r most).1 ≤ most := by
  have key : ∀ n w r, (getR2 n w r most).1 ≤ most := by
    intro n w r
    unfold getR2
    split
    · exact Nat.zero_le _
    · split
      · exact Nat.zero_le _
      · simp only; omega
  unfold getR
  simp only
  split <;> exact key _ _ _
theorem B51_g (r : Rd) (most : Nat) (hm : most ≤ 1000000000) (k : List PV → Int → List PV → Bool → Bool → Prop) (h : k (bys (textR r most).1) (textR r most).2.1 (bys (textR r most).2.2.l) true (textR r most).2.2.t) : B51 most (bys r.l) true r.t k := by
  unfold B51
  have e : IntKind.wrap .u64 (if (0 : Int) > (most : Int) then 0 else (most : Int)) = (most : Int) := by
    rw [if_neg (by omega), wu64]; omega
  rw [e]
  refine B50_g r most _ ?_
  unfold textR at h
  simp only at h
  have hle := getR_le r most
  by_cases he : (getR r most).2.1 = 0
  · rw [if_neg (by simpa using he)] at h
    refine cond_f (by simpa using he) ?_
    rw [w64 (by omega) (by omega)]
    refine B47_g _ _ _ (B70_g _ _ ?_)
    by_cases ht : ((getR r most).2.2.take (getR r most).1).2.t = true
    · rw [if_pos ht] at h
      exact cond_t ht h
    · rw [if_neg ht] at h
      exact cond_f (by simpa using ht) h
  · rw [if_pos he] at h
    exact cond_t (by simpa using he) h

end Pv

namespace Pv
open Go

abbrev Tx := List By
abbrev PM := List (Tx × Tx)
def enV (v : Tx) : PV := .agg [.str (ba v)]
def enE (x : Tx × Tx) : PV := .tup [.str (ba x.1), enV x.2]
def enc (m : PM) : List PV := m.map enE
def PM.get (k : Tx) : PM → Option Tx
  | [] => none
  | x :: r => if k = x.1 then some x.2 else PM.get k r
def PM.put (k v : Tx) : PM → PM
  | [] => [(k, v)]
  | x :: r => if k = x.1 then (k, v) :: r else x :: PM.put k v r
def PM.del (k : Tx) : PM → PM
  | [] => []
  | x :: r => if k = x.1 then r else x :: PM.del k r
@[simp] theorem enc_length (m : PM) : (enc m).length = m.length := by simp [enc]
theorem peq_str (a b : Tx) : peq (.str (ba a)) (.str (ba b)) = decide (a = b) := ba_beq a b
theorem mget_enc (k : Tx) : ∀ m : PM, mget (.str (ba k)) (enc m) = (PM.get k m).map enV
  | [] => rfl
  | x :: r => by
    have ih := mget_enc k r
    unfold enc at ih ⊢
    rw [List.map_cons, mget, ih, PM.get]
    show cond (peq _ (.str (ba x.1))) (some (enV x.2)) _ = _
    rw [peq_str]
    by_cases h : k = x.1 <;> simp [h]
theorem mput_enc (k v : Tx) : ∀ m : PM, mput (.str (ba k)) (.agg [.str (ba v)]) (enc m) = enc (PM.put k v m)
  | [] => rfl
  | x :: r => by
    have ih := mput_enc k v r
    unfold enc at ih ⊢
    rw [List.map_cons, mput, ih, PM.put]
    show cond (peq _ (.str (ba x.1))) _ _ = _
    rw [peq_str]
    by_cases h : k = x.1
    · simp [h, enE, enV]
    · simp [h]
theorem mdel_enc (k : Tx) : ∀ m : PM, mdel (.str (ba k)) (enc m) = enc (PM.del k m)
  | [] => rfl
  | x :: r => by
    have ih := mdel_enc k r
    unfold enc at ih ⊢
    rw [List.map_cons, mdel, ih, PM.del]
    show cond (peq _ (.str (ba x.1))) _ _ = _
    rw [peq_str]
    by_cases h : k = x.1 <;> simp [h]

theorem elemOk77 (s : ByteArray) : elemOk pvT 77 (.agg [.str s]) := by
  refine ⟨rfl, fun c hc => ?_⟩
  simp only [flat, flats, List.mem_append, List.mem_singleton] at hc
  rcases hc with rfl | hc
  · trivial
  · cases hc

/-- Is a key below another one? -/
def kless (a b : Tx) : Bool := Op.bytesLess (ba a).toList (ba b).toList
def stateL : Nat → Rd → Tx → PM → Option PM
  | 0, r, _, acc => if r.end = true then some acc else none
  | m + 1, r, last, acc =>
    if (textR r 40).2.1 ≠ 0 then none
    else if (textR (textR r 40).2.2 1048576).2.1 ≠ 0 then none
    else if (kless (textR r 40).1 last || decide ((textR r 40).1 = last)) = true ∨ (textR (textR r 40).2.2 1048576).1 = [] then none
    else stateL m (textR (textR r 40).2.2 1048576).2.2 (textR r 40).1 (PM.put (textR r 40).1 (textR (textR r 40).2.2 1048576).1 acc)
def stateR (b : List By) : Option PM := if (getR ⟨b, false⟩ b.length).2.1 ≠ 0 then none else stateL (getR ⟨b, false⟩ b.length).1 (getR ⟨b, false⟩ b.length).2.2 [] []

theorem st_loop (many : Nat) (hmany : many ≤ 1000000000) (out : Option PM)
    (K0 : Int → ByteArray → Int → List PV → List PV → Bool → Bool → List PV → Prop) (K1 : Int → ByteArray → Int → List PV → List PV → List PV → Bool → Bool → List PV → Prop) (K2 : Prop) (K3 : Int → ByteArray → Int → List PV → Bool → Bool → List PV → Prop)
    (HA : out = none → ∀ e, e ≠ 0 → ∀ x1 x2 x3 x4 x5 x6 x7, K0 e x1 x2 x3 x4 x5 x6 x7) (HB : out = none → ∀ e, e ≠ 0 → ∀ x1 x2 x3 x4 x5 x6 x7 x8, K1 e x1 x2 x3 x4 x5 x6 x7 x8) (HC : out = none → K2)
    (HD : ∀ (r : Rd) (last : ByteArray) (acc : PM) (i : Int), (if r.end = true then some acc else none) = out → K3 0 last i (bys r.l) true r.t (enc acc)) :
    ∀ (m i : Nat) (r : Rd) (last : Tx) (acc : PM), i + m = many → stateL m r last acc = out → R28_5 many K0 K1 K2 K3 (m + 1) 0 (ba last) i (bys r.l) true r.t (enc acc)
  | 0, i, r, last, acc, hi, h => by
    unfold R28_5 S28_5
    exact cond_f (decide_eq_false (by omega)) (HD r _ acc i h)
  | m + 1, i, r, last, acc, hi, h => by
    rw [R28_5]
    unfold S28_5
    refine cond_t (decide_eq_true (by omega)) (cond_t (by decide) ?_)
    unfold J28_7 J28_8
    refine B51_g r 40 (by decide) _ ?_
    unfold J28_9
    unfold stateL at h
    by_cases h1 : (textR r 40).2.1 = 0
    case neg => rw [if_pos h1] at h; exact cond_t (by simpa using h1) (HA h.symm _ h1 _ _ _ _ _ _ _)
    rw [if_neg (by simpa using h1)] at h
    refine cond_f (by simpa using h1) ?_
    unfold J28_10
    refine B51_g _ 1048576 (by decide) _ ?_
    unfold J28_11
    by_cases h2 : (textR (textR r 40).2.2 1048576).2.1 = 0
    case neg => rw [if_pos h2] at h; exact cond_t (by simpa using h2) (HB h.symm _ h2 _ _ _ _ _ _ _ _)
    rw [if_neg (by simpa using h2)] at h
    refine cond_f (by simpa using h2) ?_
    unfold J28_12 J28_14
    simp only [asBytes_bys, bys_length, ba_beq]
    by_cases h3 : (kless (textR r 40).1 last || decide ((textR r 40).1 = last)) = true
    · rw [if_pos (.inl h3)] at h
      refine cond_f ?_ (HC h.symm)
      unfold kless at h3
      rw [h3]; rfl
    · refine cond_t ?_ ?_
      · unfold kless at h3
        simpa using h3
      · by_cases h4 : (textR (textR r 40).2.2 1048576).1 = []
        · rw [if_pos (.inr h4)] at h
          exact cond_t (by simp [h4]) (HC h.symm)
        · rw [if_neg (by rintro (h | h); exact h3 h; exact h4 h)] at h
          refine cond_f (by simp; exact h4) ⟨elemOk77 _, ?_⟩
          rw [mput_enc, h2]
          have e1 : IntKind.wrap .u64 ((i : Int) + 1) = ((i + 1 : Nat) : Int) := by rw [wu64]; omega
          rw [e1]
          exact st_loop many hmany out K0 K1 K2 K3 HA HB HC HD m (i + 1) _ _ _ (by omega) h

theorem B28_law (b : List By) (hb : b.length ≤ 1000000) (k0 : Prop) (k1 : List PV → Prop) (h0 : stateR b = none → k0) (h1 : ∀ m, stateR b = some m → k1 (enc m)) : B28 (bys b) k0 k1 := by
  unfold B28 J28_1
  refine B46_law b (by omega) _ ?_
  unfold J28_2
  rw [bys_length]
  have e : IntKind.wrap .u64 (Int.ofNat b.length) = (b.length : Int) := by rw [wu64]; simp; omega
  rw [e]
  refine B50_g ⟨b, false⟩ b.length _ ?_
  have hle := getR_le ⟨b, false⟩ b.length
  unfold stateR at h0 h1
  generalize getR ⟨b, false⟩ b.length = g at *
  obtain ⟨many, e, r⟩ := g
  simp only at *
  unfold J28_3 J28_4
  by_cases he : e = 0
  · subst he
    rw [if_neg (by simp)] at h0 h1
    have fin : ∀ (r' : Rd) (acc' : PM), (if r'.end = true then some acc' else none) = stateL many r [] [] → B52 (bys r'.l) true r'.t (fun r0 _ _ _ => cond (!r0) k0 (k1 (enc acc'))) := by
      intro r' acc' hh
      refine B52_g r' _ ?_
      cases e : r'.end with
      | true => rw [e] at hh; exact cond_f rfl (h1 _ hh.symm)
      | false => rw [e] at hh; exact cond_t rfl (h0 hh.symm)
    refine ⟨many + 1, ?_⟩
    refine st_loop many (by omega) (stateL many r [] []) _ _ _ _ ?_ ?_ ?_ ?_ many 0 r [] [] (by omega) rfl
    · exact fun hn e he _ _ _ _ _ _ _ => cond_f (by simpa using he) (h0 hn)
    · exact fun hn e he _ _ _ _ _ _ _ _ => cond_f (by simpa using he) (h0 hn)
    · exact h0
    · exact fun r' last acc' i hh => cond_t (by decide) (fin r' acc' hh)
  · rw [if_pos he] at h0
    refine ⟨1, ?_⟩
    unfold R28_5 S28_5
    have hz := cond_f (p := B52 (bys r.l) true r.t (fun r0 _ _ _ => cond (!r0) k0 (k1 []))) (b := !!decide (e = 0)) (by simpa using he) (h0 rfl)
    by_cases hm : (0 : Int) < many
    · exact cond_t (by simpa using hm) (cond_f (by simpa using he) hz)
    · exact cond_f (by simpa using hm) hz

/-! An image. -/
def sortK (m : PM) : List Tx := ((m.map fun x => x.1.map UInt8.ofBitVec).mergeSort (fun x y => decide (x ≤ y))).map (List.map UInt8.toBitVec)
theorem sortedKeys_enc (m : PM) : sortedKeys (enc m) = (sortK m).map fun k => .str (ba k) := by
  unfold sortedKeys sortK enc
  rw [List.map_map, List.map_map]
  have e1 : (keyB ∘ enE) = fun x : Tx × Tx => x.1.map UInt8.ofBitVec := by
    funext x
    exact ba_toList x.1
  rw [e1]
  apply List.map_congr_left
  intro b _
  show PV.str _ = PV.str _
  congr 1
  unfold ba
  congr 2
  rw [List.map_map]
  exact (List.map_id b).symm
theorem sortK_length (m : PM) : (sortK m).length = m.length := by simp [sortK]
def imgK (m : PM) (k : Tx) : List By := cput k.length ++ k ++ (cput ((PM.get k m).getD []).length ++ (PM.get k m).getD [])
def image (m : PM) : List By := cput m.length ++ (sortK m).flatMap (imgK m)

end Pv

namespace Pv
open Go

/-- What a store knows. -/
structure Sto where
  now : Nm
  place : Nat
  top : Nat
  off : Bool
  m : PM

/-! Two maps: are they equal? -/
def PM.eqb (a b : PM) : Bool := decide (a.length = b.length) && a.all fun x => decide (PM.get x.1 b = some x.2)
theorem enc_at {m : PM} {j : Nat} {e : PV} (h : (enc m)[j]? = some e) : ∃ x, m[j]? = some x ∧ e = enE x := by
  unfold enc at h
  rw [List.getElem?_map] at h
  cases hm : m[j]? with
  | none => rw [hm] at h; cases h
  | some x => rw [hm] at h; exact ⟨x, rfl, (Option.some.inj h).symm⟩
theorem enc_erase (m : PM) (j : Nat) : (enc m).eraseIdx j = enc (m.eraseIdx j) := by
  induction m generalizing j with
  | nil => rfl
  | cons x r ih =>
    cases j with
    | zero => rfl
    | succ j =>
      have := ih j
      unfold enc at this ⊢
      rw [List.map_cons, List.eraseIdx_cons_succ, this, List.eraseIdx_cons_succ, List.map_cons]
theorem enc_nil {m : PM} (h : enc m = []) : m = [] := by
  cases m with
  | nil => rfl
  | cons => simp [enc] at h
theorem all_erase {α : Type} (p : α → Bool) : ∀ (l : List α) (j : Nat) (x : α), l[j]? = some x → l.all p = (p x && (l.eraseIdx j).all p)
  | [], j, x, h => by simp at h
  | y :: r, 0, x, h => by simp at h; subst h; simp
  | y :: r, j + 1, x, h => by
    rw [List.getElem?_cons_succ] at h
    rw [List.all_cons, all_erase p r j x h, List.eraseIdx_cons_succ, List.all_cons]
    cases p y <;> cases p x <;> rfl
theorem eq_loop (b : PM) (k0 : List PV → Prop) (k1 : Prop) : ∀ (n : Nat) (x : PM), x.length ≤ n → ((x.all fun y => decide (PM.get y.1 b = some y.2)) = true → ∀ z, k0 z) → ((x.all fun y => decide (PM.get y.1 b = some y.2)) = false → k1) → R32_4 (enc b) k0 k1 (n + 1) (enc x) := by
  intro n
  induction n with
  | zero =>
    intro x hx h0 h1
    have : x = [] := List.length_eq_zero_iff.1 (by omega)
    subst this
    rw [R32_4]
    unfold S32_4
    exact ⟨fun _ => h0 rfl _, fun j e h => by simp [enc] at h⟩
  | succ n ih =>
    intro x hx h0 h1
    rw [R32_4]
    unfold S32_4
    refine ⟨fun h => by obtain rfl := enc_nil h; exact h0 rfl _, fun j e h => ?_⟩
    obtain ⟨y, hy, rfl⟩ := enc_at h
    have hall := all_erase (fun y : Tx × Tx => decide (PM.get y.1 b = some y.2)) x j y hy
    rw [hall] at h0 h1
    have hlen : (x.eraseIdx j).length ≤ n := by
      have hj : j < x.length := (List.getElem?_eq_some_iff.1 hy).1
      rw [List.length_eraseIdx]; rw [if_pos hj]; omega
    show asAggK (Option.getD (mget (.str (ba y.1)) (enc b)) _) _
    rw [mget_enc]
    cases hg : PM.get y.1 b with
    | none =>
      rw [hg] at h1
      exact h1 (by simp)
    | some v =>
      rw [hg] at h0 h1
      refine (show cmpL [.str] (flats [.str (ba y.2)]) (flats [.str (ba v)]) ∧ cond (!peqs (flats [.str (ba y.2)]) (flats [.str (ba v)])) k1 (R32_4 (enc b) k0 k1 (n + 1) ((enc x).eraseIdx j)) from ⟨⟨trivial, trivial⟩, ?_⟩)
      have hp : peqs (flats [.str (ba y.2)]) (flats [.str (ba v)]) = decide (v = y.2) := by
        show (peq (.str (ba y.2)) (.str (ba v)) && true) = _
        rw [peq_str, Bool.and_true, decide_eq_decide]
        exact eq_comm
      rw [hp]
      by_cases e : v = y.2
      · refine cond_f (by simp [e]) ?_
        rw [enc_erase]
        refine ih _ hlen (fun h z => h0 (by simpa [e] using h) z) (fun h => h1 (by simpa [e] using h))
      · exact cond_t (by simp [e]) (h1 (by simp [e]))
theorem B32_law (a b : PM) (k : Bool → Prop) (h : k (PM.eqb a b)) : B32 (enc a) (enc b) k := by
  unfold B32
  unfold PM.eqb at h
  rw [enc_length, enc_length]
  by_cases hl : a.length = b.length
  · refine cond_f (by simp [hl]) ⟨a.length + 1, eq_loop b _ _ a.length a (Nat.le_refl _) (fun h2 z => ?_) (fun h2 => ?_)⟩
    · rw [h2] at h; simpa [hl] using h
    · rw [h2] at h; simpa using h
  · refine cond_t (by simp; omega) ?_
    simpa [hl] using h

/-! A pair that may be. -/
def mayP (p : Tx × Tx) : Bool := decide (1 ≤ p.1.length ∧ p.1.length ≤ 40 ∧ p.2.length ≤ 1048576)
theorem B31_law (p : Tx × Tx) (k : Bool → Prop) (h : k (mayP p)) : B31 (ba p.1) (ba p.2) k := by
  unfold B31
  unfold mayP at h
  rw [ba_size, ba_size]
  by_cases h1 : 1 ≤ p.1.length
  · refine cond_t (by simp; omega) ?_
    by_cases h2 : p.1.length ≤ 40
    · refine cond_t (by simp; omega) ?_
      have e : decide ((Int.ofNat p.2.length) ≤ 1048576) = decide (1 ≤ p.1.length ∧ p.1.length ≤ 40 ∧ p.2.length ≤ 1048576) := by
        rw [decide_eq_decide]
        simp only [Int.ofNat_eq_natCast]
        omega
      rw [e]; exact h
    · rw [decide_eq_false (by omega)] at h
      exact cond_f (by simp; omega) h
  · rw [decide_eq_false (by omega)] at h
    exact cond_f (by simp; omega) h

/-! Where an image may lie. -/
def gapR (n : Nat) (m : Nm) (least : Int) : Int × Int :=
  if m.number = 0 then (2, n - 2)
  else if least ≤ m.first - 2 ∧ 2 < m.first then (2, m.first - 2)
  else ((m.first + secN m.long : Nat), n - (m.first + secN m.long : Nat))
theorem J34_4_law (least a b : Int) (n : Nat) (ha : 0 ≤ a ∧ a ≤ 1000000) (hb : 0 ≤ b ∧ b ≤ n) (hn : n ≤ 1000000) (x1 x2 x3 x4 x5 x6 : Int) (x7 : Bool) (y1 y2 : Bool) (y3 y4 y5 : Int) (z1 z2 : List PV) (k : Int → Int → Nat → Bool → Bool → Int → Int → Int → List PV → Prop)
    (h : k (if least ≤ a - 2 ∧ 2 < a then 2 else b) (if least ≤ a - 2 ∧ 2 < a then a - 2 else n - b) n y1 y2 y3 y4 y5 z2) : J34_4 least a b x1 x2 x3 x4 x5 x6 x7 n y1 y2 y3 y4 y5 z1 z2 k := by
  unfold J34_4 J34_6 B23
  rw [w64 (n := a - 2) (by omega) (by omega)]
  dsimp only
  rw [w64 (n := Int.ofNat n - b) (by simp; omega) (by simp; omega)]
  by_cases h1 : least ≤ a - 2
  · refine cond_t (by simpa using h1) ?_
    by_cases h2 : 2 < a
    · rw [if_pos ⟨h1, h2⟩, if_pos ⟨h1, h2⟩] at h
      exact cond_t (by simpa using h2) h
    · rw [if_neg (fun g => h2 g.2), if_neg (fun g => h2 g.2)] at h
      exact cond_f (by simpa using h2) h
  · rw [if_neg (fun g => h1 g.1), if_neg (fun g => h1 g.1)] at h
    exact cond_f (by simpa using h1) h
theorem B34_law (d : Dev) (s : Sto) (hn : 2 ≤ d.S.length) (hn2 : d.S.length ≤ 1000000) (hf : s.now.first + secN s.now.long ≤ d.S.length) (least : Int) (k : Int → Int → Int → Int → Int → Int → Int → Int → Bool → Nat → Bool → Bool → Int → Int → Int → List PV → List PV → Prop)
    (h : k (gapR d.S.length s.now least).1 (gapR d.S.length s.now least).2 s.now.number s.now.first s.now.long s.now.sum.toNat s.place s.top s.off d.S.length d.off d.cut d.wh d.ke d.wr (enc s.m) (d.S.map sec)) : B34 least s.now.number s.now.first s.now.long s.now.sum.toNat s.place s.top s.off d.S.length d.off d.cut d.wh d.ke d.wr (enc s.m) (d.S.map sec) k := by
  unfold B34
  simp only [cj_eq, cj2, cond_true, cond_false, and_self]
  have key : ∀ q : Int → Int → Nat → Bool → Bool → Int → Int → Int → List PV → Prop, q (gapR d.S.length s.now least).1 (gapR d.S.length s.now least).2 d.S.length d.off d.cut d.wh d.ke d.wr (d.S.map sec) → J34_2 least s.now.first (IntKind.wrap .i64 (s.now.first + secN s.now.long)) s.now.number s.now.first s.now.long s.now.sum.toNat s.place s.top s.off d.S.length d.off d.cut d.wh d.ke d.wr (enc s.m) (d.S.map sec) q := by
    intro q hq
    unfold J34_2
    unfold gapR at hq
    rw [w64 (by omega) (by omega)]
    by_cases h0 : s.now.number = 0
    · rw [if_pos h0] at hq
      refine cond_t (by simp [h0]) ?_
      refine J34_4_law least 2 2 _ (by omega) (by omega) hn2 _ _ _ _ _ _ _ _ _ _ _ _ _ _ _ ?_
      rw [if_neg (by omega), if_neg (by omega)]
      exact hq
    · rw [if_neg h0] at hq
      refine cond_f (by simp [h0]) ?_
      refine J34_4_law least _ _ _ (by omega) (by omega) hn2 _ _ _ _ _ _ _ _ _ _ _ _ _ _ _ ?_
      by_cases h1 : least ≤ (s.now.first : Int) - 2 ∧ 2 < s.now.first
      · rw [if_pos h1] at hq
        rw [if_pos (by omega), if_pos (by omega)]
        exact hq
      · rw [if_neg h1] at hq
        rw [if_neg (by omega), if_neg (by omega)]
        simpa using hq
  have h26 : ∀ q : Int → Prop, q (secN s.now.long) → B26 s.now.long q := fun q hq => B26_law _ (by unfold secN at hf; omega) q hq
  repeat' (with_reducible apply And.intro)
  all_goals refine h26 _ ?_
  all_goals exact key _ h
/-- The room that is left. -/
def roomR (n : Nat) (m : Nm) : Int := max (gapR n m 1).2 (gapR n m n).2 * 128
theorem gapR_lo (n : Nat) (m : Nm) (least : Int) (hn : 2 ≤ n) (hf : m.first + secN m.long ≤ n) : 0 ≤ (gapR n m least).2 ∧ (gapR n m least).2 ≤ n ∧ 0 ≤ (gapR n m least).1 := by
  unfold gapR
  split
  · exact ⟨by dsimp only; omega, by dsimp only; omega, by dsimp only; omega⟩
  · split
    · exact ⟨by dsimp only; omega, by dsimp only; omega, by dsimp only; omega⟩
    · exact ⟨by dsimp only; omega, by dsimp only; omega, by dsimp only; omega⟩
theorem B22_law (d : Dev) (s : Sto) (hn : 2 ≤ d.S.length) (hn2 : d.S.length ≤ 1000000) (hf : s.now.first + secN s.now.long ≤ d.S.length) (k : Int → Int → Int → Int → Int → Int → Int → Bool → Nat → Bool → Bool → Int → Int → Int → List PV → List PV → Prop)
    (h : k (roomR d.S.length s.now) s.now.number s.now.first s.now.long s.now.sum.toNat s.place s.top s.off d.S.length d.off d.cut d.wh d.ke d.wr (enc s.m) (d.S.map sec)) : B22 s.now.number s.now.first s.now.long s.now.sum.toNat s.place s.top s.off d.S.length d.off d.cut d.wh d.ke d.wr (enc s.m) (d.S.map sec) k := by
  unfold B22 B29
  refine B34_law d s hn hn2 hf 1 _ ?_
  unfold B23
  refine B34_law d s hn hn2 hf _ _ ?_
  have h1 := gapR_lo d.S.length s.now 1 hn hf
  have h2 := gapR_lo d.S.length s.now d.S.length hn hf
  rw [show (Int.ofNat d.S.length) = (d.S.length : Int) from rfl]
  have e : (if (gapR d.S.length s.now d.S.length).2 > (gapR d.S.length s.now 1).2 then (gapR d.S.length s.now d.S.length).2 else (gapR d.S.length s.now 1).2) = max (gapR d.S.length s.now 1).2 (gapR d.S.length s.now d.S.length).2 := by
    split <;> omega
  rw [e, w64 (by omega) (by omega)]
  exact h

/-! What stands under a key; the keys. -/
theorem B20_law (key : Tx) (d : Dev) (s : Sto) (k : ByteArray → Bool → Int → Int → Int → Int → Int → Int → Bool → Nat → Bool → Bool → Int → Int → Int → List PV → List PV → Prop) (h : k (ba ((PM.get key s.m).getD [])) (PM.get key s.m).isSome s.now.number s.now.first s.now.long s.now.sum.toNat s.place s.top s.off d.S.length d.off d.cut d.wh d.ke d.wr (enc s.m) (d.S.map sec)) : B20 (ba key) s.now.number s.now.first s.now.long s.now.sum.toNat s.place s.top s.off d.S.length d.off d.cut d.wh d.ke d.wr (enc s.m) (d.S.map sec) k := by
  unfold B20 B29
  show asAggK (Option.getD (mget (.str (ba key)) (enc s.m)) (.agg [.str .empty])) _
  rw [mget_enc]
  cases hg : PM.get key s.m with
  | none => rw [hg] at h; exact h
  | some v => rw [hg] at h; exact h
def Keyed (m : PM) : Prop := (m.map (·.1)).Nodup
def KeysOk (m : PM) : Prop := m.length ≤ 1000000 ∧ (∀ x ∈ m, x.1.length ≤ 65536) ∧ Keyed m
theorem nodup_map_inj {α β : Type} {f : α → β} (hf : ∀ a b, f a = f b → a = b) : ∀ {l : List α}, l.Nodup → (l.map f).Nodup
  | [], _ => by simp
  | a :: r, h => by
    rw [List.nodup_cons] at h
    rw [List.map_cons, List.nodup_cons]
    refine ⟨fun hin => ?_, nodup_map_inj hf h.2⟩
    obtain ⟨b, hb, e⟩ := List.mem_map.1 hin
    exact h.1 (hf _ _ e ▸ hb)
theorem B36_law (m : PM) (hm : KeysOk m) (k : List PV → List PV → Prop) (h : k ((sortK m).map fun x => .str (ba x)) (enc m)) : B36 (enc m) k := by
  refine ⟨?_, fun x hx => ?_, ?_, ?_⟩
  · rw [enc_length, maxRoom_val]; have := hm.1; omega
  · obtain ⟨y, hy, rfl⟩ := List.mem_map.1 hx
    show ((ba y.1).toList).length ≤ 65536
    rw [ba_toList, List.length_map]
    exact hm.2.1 y hy
  · have e : (enc m).map keyB = (m.map (·.1)).map (List.map UInt8.ofBitVec) := by
      unfold enc
      rw [List.map_map, List.map_map]
      apply List.map_congr_left
      intro x _
      exact ba_toList x.1
    rw [e]
    exact nodup_map_inj (fun a b h => map_u8_inj h) hm.2.2
  · rw [sortedKeys_enc]; exact h
theorem B16_law (d : Dev) (s : Sto) (hm : KeysOk s.m) (k : List PV → Int → Int → Int → Int → Int → Int → Bool → Nat → Bool → Bool → Int → Int → Int → List PV → List PV → Prop) (h : k ((sortK s.m).map fun x => .str (ba x)) s.now.number s.now.first s.now.long s.now.sum.toNat s.place s.top s.off d.S.length d.off d.cut d.wh d.ke d.wr (enc s.m) (d.S.map sec)) : B16 s.now.number s.now.first s.now.long s.now.sum.toNat s.place s.top s.off d.S.length d.off d.cut d.wh d.ke d.wr (enc s.m) (d.S.map sec) k := by
  unfold B16 B29 B37
  exact B36_law s.m hm _ h

end Pv
