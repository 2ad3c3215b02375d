/- A part of the proof: CrcC. No conditions of its own beyond those that its theorems name. -/
import Derived.Test.YtmaahlifffjeoaaCrcB
import Derived.Laws.Strings
namespace Pv
open Go

def le4 (s : BitVec 32) : List By := (List.range 4).map fun j => (s >>> (8 * j)).setWidth 8
theorem le4_length (s : BitVec 32) : (le4 s).length = 4 := rfl
theorem le4_drop (s : BitVec 32) (j : Nat) (hj : j < 4) : (le4 s).drop j = (s >>> (8 * j)).setWidth 8 :: (le4 s).drop (j + 1) := by
  rw [List.drop_eq_getElem_cons (by rw [le4_length]; omega)]
  congr 1
  simp [le4]

theorem byte_shr (s : BitVec 32) (j : Nat) (hj : j < 4) : IntKind.wrap .u8 (Int.fdiv (s.toNat : Int) (2 ^ (min (Int.toNat (IntKind.wrap .i64 (8 * (j : Int)))) 32))) = (((s >>> (8 * j)).setWidth 8).toNat : Int) := by
  have h1 : IntKind.wrap .i64 (8 * (j : Int)) = ((8 * j : Nat) : Int) := by rw [w64 (by omega) (by omega)]; omega
  rw [h1]
  have h2 : min (Int.toNat ((8 * j : Nat) : Int)) 32 = 8 * j := by simp; omega
  rw [h2, fdiv_pow, wu8]
  simp [BitVec.toNat_setWidth, BitVec.toNat_ushiftRight]

theorem put_loop (s : BitVec 32) (k0 : Nat → Int → List PV → Prop) : ∀ (m j : Nat) (x : List By), j + m = 4 → x.length + m ≤ 1000000 →
    k0 (x.length + m) 4 (bys (x ++ (le4 s).drop j)) → R16_3 (s.toNat : Int) k0 (m + 1) x.length (j : Int) (bys x)
  | 0, j, x, hj, _, h => by
    have : j = 4 := by omega
    subst this
    have e : (le4 s).drop 4 = [] := rfl
    rw [e, List.append_nil] at h
    rw [R16_3, S16_3]
    exact h
  | m + 1, j, x, hj, hx, h => by
    have hj4 : j < 4 := by omega
    rw [le4_drop s j hj4] at h
    have e1 : (x ++ [(s >>> (8 * j)).setWidth 8]).length = x.length + 1 := by simp
    have ih := put_loop s k0 m (j + 1) (x ++ [(s >>> (8 * j)).setWidth 8]) (by omega) (by rw [e1]; omega) (by
      rw [e1, List.append_assoc, show x.length + 1 + m = x.length + (m + 1) by omega]; exact h)
    rw [R16_3, S16_3]
    have h1 : decide ((j : Int) < 4) = true := by simp; omega
    have h3 : IntKind.wrap .i64 ((j : Int) + 1) = ((j + 1 : Nat) : Int) := by rw [w64 (by omega) (by omega)]; omega
    rw [h1, h3, rowPart_one, byte_shr s j hj4]
    refine ⟨by rw [w64 (by omega) (by omega)]; omega, by simp, by simp, by rw [maxRoom_val]; simp; omega, ?_⟩
    rw [e1, bys_append] at ih
    exact ih

theorem B20_law (l : List By) (hl : l.length ≤ 100000) (k0 : Prop) (k1 : Nat → List PV → Prop) (h0 : l = [] → k0) (h1 : k1 l.length (bys l)) : B20 (bys l) k0 k1 := by
  intro b hb
  cases b with
  | true => exact h0 (by have := congrArg List.length (hb rfl); simpa using this)
  | false =>
    refine ⟨rfl, by rw [maxRoom_val]; simp; omega, ?_⟩
    simpa using h1

def puts (l : List By) : List By := l ++ le4 (more 0#32 l)
theorem puts_length (l : List By) : (puts l).length = l.length + 4 := by simp [puts, le4_length]

theorem B16_law (l : List By) (hl : l.length ≤ 100000) (k : Nat → List PV → Prop) (h : k (l.length + 4) (bys (puts l))) : B16 (bys l) k := by
  refine B20_law l hl _ _ (fun e => ?_) ?_
  · subst e
    exact B10_law [] (by simp) _ ⟨5, put_loop (more 0#32 []) _ 4 0 [] rfl (by simp) h⟩
  · exact B10_law l hl _ ⟨5, put_loop (more 0#32 l) _ 4 0 l rfl (by omega) h⟩

theorem put_loop_ref (s : BitVec 32) (k0 : Nat → Int → Int → List PV → Prop) : ∀ (m j : Nat) (x : List By), j + m = 4 → x.length + m ≤ 1000000 →
    (∀ n, k0 (x.length + m) n 4 (bys (x ++ (le4 s).drop j))) → R17_5 k0 (m + 1) x.length ((s >>> (8 * j)).toNat : Int) (j : Int) (bys x)
  | 0, j, x, hj, _, h => by
    have : j = 4 := by omega
    subst this
    have e : (le4 s).drop 4 = [] := rfl
    rw [e, List.append_nil] at h
    rw [R17_5, S17_5]
    exact h _
  | m + 1, j, x, hj, hx, h => by
    have hj4 : j < 4 := by omega
    rw [le4_drop s j hj4] at h
    have e1 : (x ++ [(s >>> (8 * j)).setWidth 8]).length = x.length + 1 := by simp
    have ih := put_loop_ref s k0 m (j + 1) (x ++ [(s >>> (8 * j)).setWidth 8]) (by omega) (by rw [e1]; omega) (fun n => by
      rw [e1, List.append_assoc, show x.length + 1 + m = x.length + (m + 1) by omega]; exact h n)
    rw [R17_5, S17_5]
    have h1 : decide ((j : Int) < 4) = true := by simp; omega
    have h3 : IntKind.wrap .i64 ((j : Int) + 1) = ((j + 1 : Nat) : Int) := by rw [w64 (by omega) (by omega)]; omega
    have h4 : IntKind.wrap .u8 (Int.tmod ((s >>> (8 * j)).toNat : Int) 256) = (((s >>> (8 * j)).setWidth 8).toNat : Int) := by
      rw [wu8, Int.tmod_eq_emod_of_nonneg (by omega)]
      simp only [BitVec.toNat_setWidth]
      omega
    have h5 : IntKind.wrap .u32 (Int.tdiv ((s >>> (8 * j)).toNat : Int) 256) = ((s >>> (8 * (j + 1))).toNat : Int) := by
      rw [wu32, Int.tdiv_eq_ediv_of_nonneg (by omega)]
      have := (s >>> (8 * j)).isLt
      have e : (s >>> (8 * (j + 1))).toNat = (s >>> (8 * j)).toNat / 256 := by
        simp only [BitVec.toNat_ushiftRight, Nat.shiftRight_eq_div_pow]
        rw [Nat.mul_add, Nat.pow_add, Nat.div_div_eq_div_mul]
      rw [e]; omega
    rw [h1, h3, rowPart_one, h4, h5]
    refine ⟨by decide, by simp, by simp, by rw [maxRoom_val]; simp; omega, by decide, ?_⟩
    rw [e1, bys_append] at ih
    exact ih

theorem B17_law (l : List By) (hl : l.length ≤ 100000) (k : Nat → List PV → Prop) (h : k (l.length + 4) (bys (puts l))) : B17 (bys l) k := by
  refine ⟨by rw [maxRoom_val]; simp; omega, B11_law l hl _ ?_⟩
  refine ⟨5, ?_⟩
  have := put_loop_ref (more 0#32 l) (fun n _ _ x => k n x) 4 0 l rfl (by omega) (fun _ => h)
  rw [bys_length]
  simpa using this

/-! Strings of bytes. -/

def stB (l : List By) : ByteArray := ⟨(l.map fun b => UInt8.ofBitVec b).toArray⟩
theorem bytesOf_bys (l : List By) : bytesOf (bys l) = some (l.map fun b => UInt8.ofBitVec b) := by
  induction l with
  | nil => rfl
  | cons b r ih =>
    have e : UInt8.ofNat b.toNat = UInt8.ofBitVec b := by
      apply UInt8.toNat_inj.1
      have := b.isLt
      simp
    show (bytesOf (bys r)).map _ = _
    rw [ih]
    simp [e]
theorem asBytes_bys {l : List By} {K : ByteArray → Prop} (h : K (stB l)) : asBytesK (bys l) K := by
  unfold asBytesK
  rw [bytesOf_bys]
  exact h
theorem stB_toList (l : List By) : (stB l).toList = l.map fun b => UInt8.ofBitVec b := by rw [ByteArray.toList_eq]; rfl
theorem stB_beq (a b : List By) : ((stB a).toList == (stB b).toList) = decide (a = b) := by
  rw [stB_toList, stB_toList]
  by_cases h : a = b
  · subst h; simp
  · have : a.map (fun b => UInt8.ofBitVec b) ≠ b.map (fun b => UInt8.ofBitVec b) := fun e => h ((List.map_inj_right (fun x y h => by simpa using congrArg UInt8.toBitVec h)).1 e)
    simp [h, this]

/-! Get. -/

def body (l : List By) : List By := l.take (l.length - 4)
def gets (l : List By) : Bool := decide (4 ≤ l.length) && decide (puts (body l) = l)

theorem cutL_bys (l : List By) (a b : Nat) : cutL (bys l) a b = bys ((l.take b).drop a) := by simp [cutL, bys]

theorem sub4 (l : List By) (hl : l.length ≤ 100000) (h4 : 4 ≤ l.length) : IntKind.wrap .i64 (Int.ofNat (bys l).length - 4) = ((l.length - 4 : Nat) : Int) := by
  rw [bys_length]; simp only [Int.ofNat_eq_natCast]; rw [w64 (by omega) (by omega)]; omega
theorem body_cut (l : List By) : cutL (bys l) 0 (Int.toNat ((l.length - 4 : Nat) : Int)) = bys (body l) := by
  rw [cutL_bys]; rfl
theorem body_length (l : List By) : (body l).length = l.length - 4 := by simp [body]

theorem cond_puts (l m : List By) (p q : Prop) (h0 : m ≠ l → p) (h1 : m = l → q) : cond (!((stB m).toList == (stB l).toList)) p q := by
  rw [stB_beq]
  by_cases h : m = l
  · simp only [h, decide_true]; exact h1 h
  · simp only [h, decide_false]; exact h0 h
theorem cond_puts' (l m : List By) (p q : Prop) (h0 : m ≠ l → p) (h1 : m = l → q) : cond (!((stB m).toList == (stB l).toList)) p q := cond_puts l m p q h0 h1

theorem B14_law (l : List By) (hl : l.length ≤ 100000) (k0 : Bool → Prop) (k1 : Nat → Bool → List PV → Prop) (h0 : gets l = false → k0 false) (h1 : gets l = true → l.length = 4 → k0 true) (h2 : gets l = true → k1 (l.length - 4) true (bys (body l))) : B14 (bys l) k0 k1 := by
  unfold B14
  by_cases h4 : l.length < 4
  · have : decide (Int.ofNat (bys l).length < 4) = true := by simp; omega
    rw [this]
    exact h0 (by simp [gets]; omega)
  · have h5 : decide (Int.ofNat (bys l).length < 4) = false := by simp; omega
    have h6 : 4 ≤ l.length := by omega
    rw [h5, sub4 l hl h6, body_cut]
    have n0 : puts (body l) ≠ l → k0 false := fun h => h0 (by simp [gets, h])
    have n1 : puts (body l) = l → gets l = true := fun h => by simp [gets, h, h6]
    have bl := body_length l
    refine ⟨by decide, by omega, by simp, ?_⟩
    refine B20_law (body l) (by omega) _ _ (fun e => ?_) ?_
    · have hl4 : l.length = 4 := by rw [e] at bl; simp at bl; omega
      have P : ∀ k : Nat → List PV → Prop, k 4 (bys (puts [])) → B16 [] k := fun k h => B16_law [] (by simp) k h
      have rp : rowPart (bys (puts [])) 0 4 = bys (puts []) := rowPart_all _ _ (by simp [puts_length])
      rw [e] at n0 n1
      refine ⟨P _ ⟨⟨by simp [puts_length], ?_⟩, ?_⟩, asBytes_bys (P _ ⟨by simp [puts_length], ?_⟩)⟩
      · rw [rp]; exact asBytes_bys (asBytes_bys (cond_puts _ _ _ _ n0 fun h => h1 (n1 h) hl4))
      · refine asBytes_bys ⟨by simp [puts_length], ?_⟩
        rw [rp]; exact asBytes_bys (cond_puts _ _ _ _ n0 fun h => h1 (n1 h) hl4)
      · rw [rp]; exact asBytes_bys (cond_puts _ _ _ _ n0 fun h => h1 (n1 h) hl4)
    · have pb : (puts (body l)).length = (body l).length + 4 := puts_length _
      have rb : rowPart (bys (body l)) 0 (body l).length = bys (body l) := rowPart_all _ _ (by simp)
      have rp : rowPart (bys (puts (body l))) 0 ((body l).length + 4) = bys (puts (body l)) := rowPart_all _ _ (by simp [pb])
      have h2' : puts (body l) = l → k1 (body l).length true (bys (body l)) := fun h => by rw [bl]; exact h2 (n1 h)
      have P : ∀ k : Nat → List PV → Prop, k ((body l).length + 4) (bys (puts (body l))) → B16 (bys (body l)) k := fun k h => B16_law (body l) (by omega) k h
      rw [rb]
      refine ⟨⟨by simp, P _ ⟨⟨by simp [pb], ?_⟩, asBytes_bys ⟨by simp [pb], ?_⟩⟩⟩, asBytes_bys ⟨by simp, P _ ⟨by simp [pb], ?_⟩⟩⟩
      · rw [rp]; exact asBytes_bys (asBytes_bys (cond_puts _ _ _ _ n0 h2'))
      · rw [rp]; exact asBytes_bys (cond_puts _ _ _ _ n0 h2')
      · rw [rp]; exact asBytes_bys (cond_puts _ _ _ _ n0 h2')

theorem B15_law (l : List By) (hl : l.length ≤ 100000) (k0 : Bool → Prop) (k1 : List PV → Bool → Prop) (h0 : gets l = false → k0 false) (h2 : gets l = true → k1 (bys (body l)) true) : B15 (bys l) k0 k1 := by
  unfold B15
  by_cases h4 : l.length < 4
  · have : decide (Int.ofNat (bys l).length < 4) = true := by simp; omega
    rw [this]
    exact h0 (by simp [gets]; omega)
  · have h5 : decide (Int.ofNat (bys l).length < 4) = false := by simp; omega
    have h6 : 4 ≤ l.length := by omega
    rw [h5, sub4 l hl h6, body_cut]
    have n0 : puts (body l) ≠ l → k0 false := fun h => h0 (by simp [gets, h])
    have n1 : puts (body l) = l → gets l = true := fun h => by simp [gets, h, h6]
    have bl := body_length l
    refine ⟨by decide, by omega, by simp, ?_⟩
    have pb : (puts (body l)).length = (body l).length + 4 := puts_length _
    have rp : rowPart (bys (puts (body l))) 0 ((body l).length + 4) = bys (puts (body l)) := rowPart_all _ _ (by simp [pb])
    have P : ∀ k : Nat → List PV → Prop, k ((body l).length + 4) (bys (puts (body l))) → B17 (bys (body l)) k := fun k h => B17_law (body l) (by omega) k h
    have h2' : puts (body l) = l → k1 (bys (body l)) true := fun h => h2 (n1 h)
    refine ⟨P _ ⟨⟨by simp [pb], ?_⟩, asBytes_bys ⟨by simp [pb], ?_⟩⟩, asBytes_bys (P _ ⟨by simp [pb], ?_⟩)⟩
    · rw [rp]; exact asBytes_bys (asBytes_bys (cond_puts _ _ _ _ n0 h2'))
    · rw [rp]; exact asBytes_bys (cond_puts _ _ _ _ n0 h2')
    · rw [rp]; exact asBytes_bys (cond_puts _ _ _ _ n0 h2')

/-! works. -/

def abc : List By := [97#8, 98#8]
def num9 : List By := [49#8, 50#8, 51#8, 52#8, 53#8, 54#8, 55#8, 56#8, 57#8]
theorem more_num9 : more 0#32 num9 = 3808858755#32 := of_decide_eq_true (by kernel_rfl)
theorem gets_abc : gets (puts abc) = true := by kernel_rfl

theorem gets_puts (l : List By) : gets (puts l) = true := by
  have : body (puts l) = l := by unfold body; rw [puts_length]; simp [puts]
  simp [gets, this, puts_length]
theorem body_puts (l : List By) : body (puts l) = l := by unfold body; rw [puts_length]; simp [puts]

theorem B13_law (k : Bool → Prop) (h : k true) : B13 k := by
  refine ⟨by simp, ?_⟩
  refine B16_law abc (by simp [abc]) _ ⟨by simp [puts_length, abc], ?_⟩
  have pb : (puts abc).length = 6 := rfl
  have rp : rowPart (bys (puts abc)) 0 (abc.length + 4) = bys (puts abc) := rowPart_all _ _ (by simp [puts_length, abc])
  rw [rp]
  refine B14_law (puts abc) (by rw [pb]; decide) _ _ (fun h => by rw [gets_puts] at h; cases h) (fun _ h => by rw [pb] at h; omega) (fun _ => ?_)
  refine ⟨by simp, B10_law num9 (by decide) _ ?_⟩
  rw [more_num9]
  show cond (decide (((3808858755#32).toNat : Int) = 3808858755)) _ _
  have e : decide (((3808858755#32).toNat : Int) = 3808858755) = true := by decide
  rw [e, body_puts]
  refine ⟨by simp [puts_length, abc], ?_⟩
  have rq : rowPart (bys abc) 0 ((puts abc).length - 4) = bys abc := rowPart_all _ _ (by simp [puts_length, abc])
  rw [rq]
  refine asBytes_bys ?_
  have e2 : (ByteArray.toList (stB abc) == ByteArray.toList (ByteArray.mk #[97, 98])) = true := by rw [stB_toList, ByteArray.toList_eq]; decide
  rw [e2]; exact h
end Pv
