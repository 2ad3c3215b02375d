/- A part of the proof: CrcA. No conditions of its own beyond those that its theorems name. -/
import Derived.Test.YtmaahlifffjeoaaCrc
import Derived.Test.YtmaahlifffjeoaaCrcMath
import Derived.Laws.BitsLemmas
import Derived.KernelRfl
namespace Pv
open Go

/-! Whole numbers of the machine. -/

theorem w64 {n : Int} (h0 : -9223372036854775808 ≤ n) (h1 : n ≤ 9223372036854775807) : IntKind.wrap .i64 n = n := by rw [IntKind.wrap_i64]; omega
theorem wu (k : IntKind) (hk : k.signed = false) (n : Int) : IntKind.wrap k n = n % (2 ^ k.bits : Int) := by simp [IntKind.wrap, hk]
theorem wu8 (n : Int) : IntKind.wrap .u8 n = n % 256 := wu _ rfl n
theorem wu32 (n : Int) : IntKind.wrap .u32 n = n % 4294967296 := wu _ rfl n
theorem wu64 (n : Int) : IntKind.wrap .u64 n = n % 18446744073709551616 := wu _ rfl n

theorem wrap_nat32 (a : BitVec 32) : IntKind.wrap .u32 (a.toNat : Int) = (a.toNat : Int) := by
  have := a.isLt
  rw [wu32]; omega
theorem wrap_nat8 (a : BitVec 8) : IntKind.wrap .u8 (a.toNat : Int) = (a.toNat : Int) := by
  have := a.isLt
  rw [wu8]; omega

theorem ofInt_nat {n : Nat} (a : BitVec n) : BitVec.ofInt n (a.toNat : Int) = a := by
  apply BitVec.eq_of_toNat_eq
  simp only [BitVec.toNat_ofInt]
  have := a.isLt
  rw [Int.emod_eq_of_lt (by omega) (by exact_mod_cast this)]
  simp

theorem xor32 (a b : BitVec 32) : bitsW .xor .u32 (a.toNat : Int) (b.toNat : Int) = ((a ^^^ b).toNat : Int) := by
  show IntKind.wrap .u32 (BitVec.ofInt 32 _ ^^^ BitVec.ofInt 32 _).toNat = _
  rw [ofInt_nat, ofInt_nat, wrap_nat32]
theorem and32 (a b : BitVec 32) : bitsW .and .u32 (a.toNat : Int) (b.toNat : Int) = ((a &&& b).toNat : Int) := by
  show IntKind.wrap .u32 (BitVec.ofInt 32 _ &&& BitVec.ofInt 32 _).toNat = _
  rw [ofInt_nat, ofInt_nat, wrap_nat32]
theorem xor8 (a b : BitVec 8) : bitsW .xor .u8 (a.toNat : Int) (b.toNat : Int) = ((a ^^^ b).toNat : Int) := by
  show IntKind.wrap .u8 (BitVec.ofInt 8 _ ^^^ BitVec.ofInt 8 _).toNat = _
  rw [ofInt_nat, ofInt_nat, wrap_nat8]
theorem and8 (a b : BitVec 8) : bitsW .and .u8 (a.toNat : Int) (b.toNat : Int) = ((a &&& b).toNat : Int) := by
  show IntKind.wrap .u8 (BitVec.ofInt 8 _ &&& BitVec.ofInt 8 _).toNat = _
  rw [ofInt_nat, ofInt_nat, wrap_nat8]

theorem fdiv_pow (a k : Nat) : Int.fdiv (a : Int) (2 ^ k) = ((a >>> k : Nat) : Int) := by
  rw [Nat.shiftRight_eq_div_pow, Int.fdiv_eq_ediv_of_nonneg _ (Int.pow_nonneg (by decide))]
  simp

theorem and_one {n : Nat} (a : BitVec n) (hn : 0 < n) : (a &&& 1#n).toNat = (a.getLsbD 0).toNat := by
  simp only [BitVec.toNat_and, BitVec.toNat_ofNat]
  have : 1 % 2 ^ n = 1 := Nat.mod_eq_of_lt (Nat.one_lt_two_pow (by omega))
  rw [this, Nat.and_one_is_mod, BitVec.getLsbD]
  rw [Nat.testBit_zero]
  rcases Nat.mod_two_eq_zero_or_one a.toNat with h | h <;> simp [h]

theorem low32 (a : BitVec 32) : decide (bitsW .and .u32 (a.toNat : Int) 1 = 1) = a.getLsbD 0 := by
  have := and32 a 1#32
  simp only [BitVec.toNat_ofNat, Nat.reducePow, Nat.reduceMod] at this
  rw [show ((1 : Nat) : Int) = 1 from rfl] at this
  rw [this, and_one a (by decide)]
  cases a.getLsbD 0 <;> rfl
theorem low8 (a : BitVec 8) : decide (bitsW .and .u8 (a.toNat : Int) 1 = 1) = a.getLsbD 0 := by
  have := and8 a 1#8
  simp only [BitVec.toNat_ofNat, Nat.reducePow, Nat.reduceMod] at this
  rw [show ((1 : Nat) : Int) = 1 from rfl] at this
  rw [this, and_one a (by decide)]
  cases a.getLsbD 0 <;> rfl

/-! Bytes, bits. -/

abbrev By := BitVec 8
def bys (l : List By) : List PV := l.map fun b => .int .u8 (b.toNat : Int)
def bls (l : List Bool) : List PV := l.map .bool
def bitsB (b : By) : List Bool := (List.range 8).map b.getLsbD
def bitsL (l : List By) : List Bool := l.flatMap bitsB

@[simp] theorem bys_length (l : List By) : (bys l).length = l.length := by simp [bys]
@[simp] theorem bls_length (l : List Bool) : (bls l).length = l.length := by simp [bls]
theorem bitsL_length (l : List By) : (bitsL l).length = 8 * l.length := by
  induction l with
  | nil => rfl
  | cons b r ih => simp only [bitsL, List.flatMap_cons, List.length_append] at ih ⊢; rw [ih]; simp [bitsB]; omega

theorem elem_bys {l : List By} {i : Nat} {K : PV → Prop} (h : i < l.length) (hK : K (.int .u8 (l[i].toNat : Int))) : elemAt (bys l) i K := by
  unfold elemAt
  simp [bys, h, hK]

/-! More. -/

theorem inner (t11 : List PV) (t12 t13 : Int) (k0 : Int → Int → Prop) : ∀ (m j : Nat) (x : BitVec 32), j + m = 8 → (k0 ((Crc.iter m x).toNat : Int) 8) → R12_7 t11 t12 t13 k0 (m + 1) (x.toNat : Int) (j : Int)
  | 0, j, x, hj, h => by
    have : j = 8 := by omega
    subst this
    simpa [R12_7, S12_7, Crc.iter] using h
  | m + 1, j, x, hj, h => by
    have ih := inner t11 t12 t13 k0 m (j + 1) (Crc.st x) (by omega) h
    rw [R12_7, S12_7]
    have h1 : decide ((j : Int) < 8) = true := by simp; omega
    have h2 : IntKind.wrap .i64 ((j : Int) + 1) = ((j + 1 : Nat) : Int) := by rw [w64 (by omega) (by omega)]; rfl
    have h3 : Int.fdiv (x.toNat : Int) (2 ^ 1) = ((x >>> 1).toNat : Int) := by rw [fdiv_pow]; simp
    rw [h1, h2, h3, low32]
    refine ⟨by decide, ?_⟩
    have h4 := xor32 (x >>> 1) 0x82f63b78#32
    rw [show ((0x82f63b78#32).toNat : Int) = 2197175160 from rfl] at h4
    cases e : x.getLsbD 0 with
    | true =>
      have e2 : Crc.st x = (x >>> 1) ^^^ 0x82f63b78#32 := by unfold Crc.st; rw [e]; rfl
      rw [e2] at ih
      simp only [cond_true]
      rw [h4]; exact ih
    | false =>
      have e2 : Crc.st x = x >>> 1 := by unfold Crc.st; rw [e]; simp
      rw [e2] at ih
      exact ih

theorem word_bits (b : By) : Crc.word (bitsB b) = b.toNat := by
  have h : ∀ n : Fin 256, Crc.word (bitsB (BitVec.ofFin n)) = n.val := of_decide_eq_true (by kernel_rfl)
  exact h b.toFin

theorem run_byte (x : BitVec 32) (b : By) : Crc.run x (bitsB b) = Crc.iter 8 (x ^^^ b.setWidth 32) := by
  rw [Crc.run_word _ _ (by simp [bitsB]), word_bits]
  have : (bitsB b).length = 8 := by simp [bitsB]
  rw [this]
  congr 2
  apply BitVec.eq_of_toNat_eq
  simp

theorem outer (l : List By) (k0 : Int → Int → Prop) : ∀ (m i : Nat) (x : BitVec 32), i + m = l.length → l.length ≤ 100000 → k0 ((Crc.run x (bitsL (l.drop i))).toNat : Int) (l.length : Int) → R12_3 (bys l) (l.length : Int) k0 (m + 1) (x.toNat : Int) (i : Int)
  | 0, i, x, hi, _, h => by
    have : i = l.length := by omega
    subst this
    rw [R12_3, S12_3]
    simpa [Crc.run, bitsL] using h
  | m + 1, i, x, hi, hl, h => by
    have hlt : i < l.length := by omega
    have e : l.drop i = l[i] :: l.drop (i + 1) := List.drop_eq_getElem_cons hlt
    rw [e] at h
    simp only [bitsL, List.flatMap_cons] at h
    rw [Crc.run_append, run_byte] at h
    have ih := outer l k0 m (i + 1) _ (by omega) hl h
    rw [R12_3, S12_3]
    have h1 : decide ((i : Int) < (l.length : Int)) = true := by simp; omega
    rw [h1]
    refine ⟨by omega, ?_⟩
    have h2 : IntKind.wrap .i64 ((i : Int) + 1) = ((i + 1 : Nat) : Int) := by rw [w64 (by omega) (by omega)]; rfl
    rw [Int.toNat_natCast]
    refine elem_bys hlt ?_
    show L12_7 (bitsW .xor .u32 (x.toNat : Int) (IntKind.wrap .u32 ((l[i].toNat : Nat) : Int))) _ _ _ 0 _
    have h3 : IntKind.wrap .u32 ((l[i].toNat : Nat) : Int) = (((l[i]).setWidth 32).toNat : Int) := by
      have := (l[i]).isLt
      rw [wu32, BitVec.toNat_setWidth]; omega
    rw [h3, xor32, h2]
    exact ⟨9, inner _ _ _ _ 8 0 _ rfl ih⟩

/-- More, of bytes. -/
def more (s : BitVec 32) (l : List By) : BitVec 32 := ~~~ (Crc.run (~~~ s) (bitsL l))

theorem not32 (a : BitVec 32) : bitsW .xor .u32 4294967295 (a.toNat : Int) = ((~~~ a).toNat : Int) := by
  have := xor32 (BitVec.allOnes 32) a
  rw [show ((BitVec.allOnes 32).toNat : Int) = 4294967295 from rfl] at this
  rw [this, BitVec.allOnes_xor]

theorem B12_law (s : BitVec 32) (l : List By) (hl : l.length ≤ 100000) (k : Int → Prop) (h : k ((more s l).toNat : Int)) : B12 (s.toNat : Int) (bys l) k := by
  unfold B12
  rw [not32, bys_length]
  refine ⟨l.length + 1, outer l _ l.length 0 _ (by omega) hl ?_⟩
  simp only [List.drop_zero]
  rw [not32]; exact h

theorem B10_law (l : List By) (hl : l.length ≤ 100000) (k : Int → Prop) (h : k ((more 0#32 l).toNat : Int)) : B10 (bys l) k := B12_law 0#32 l hl k h

/-! Sums of the document. -/

theorem elem_bls {l : List Bool} {i : Nat} {K : PV → Prop} (h : i < l.length) (hK : K (.bool l[i])) : elemAt (bls l) i K := by
  unfold elemAt
  simp [bls, h, hK]
