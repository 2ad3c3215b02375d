/- A part of the proof: CrcD. No conditions of its own beyond those that its theorems name. -/
import Derived.Test.YtmaahlifffjeoaaCrcC
namespace Pv
open Go

@[simp] theorem rowPart_self (l : List PV) : rowPart l 0 l.length = l := by simp [rowPart]
@[simp] theorem rowPart_app (a b : List PV) : rowPart (a ++ b) 0 (a.length + b.length) = a ++ b := by rw [← List.length_append]; exact rowPart_self _

theorem more_more (s : BitVec 32) (a b : List By) : more (more s a) b = more s (a ++ b) := by
  unfold more
  rw [BitVec.not_not, ← Crc.run_append]
  congr 2
  simp [bitsL]
theorem more_nil (s : BitVec 32) : more s [] = s := by unfold more; simp [bitsL, Crc.run]

def cut1000 (l : List By) : List By := l.take 1000
theorem cut_le (l : List By) : (cut1000 l).length ≤ 1000 := by simp [cut1000]; omega

theorem B9_law (l : List By) (k : List PV → Prop) (h : k (bys (cut1000 l))) : B9 (bys l) k := by
  unfold B9
  rw [bys_length]
  by_cases hl : 1000 < l.length
  · have e : (if (1000 : Int) < Int.ofNat l.length then (1000 : Int) else Int.ofNat l.length) = 1000 := if_pos (by simp; omega)
    rw [e]
    refine ⟨by decide, by decide, by simp; omega, ?_⟩
    rw [cutL_bys]; exact h
  · have e : (if (1000 : Int) < Int.ofNat l.length then (1000 : Int) else Int.ofNat l.length) = Int.ofNat l.length := if_neg (by simp; omega)
    rw [e]
    refine ⟨by decide, by simp, by simp, ?_⟩
    rw [cutL_bys]
    have : cut1000 l = l := List.take_of_length_le (by omega)
    rw [this] at h
    simpa using h

theorem B3_law (a b : List By) (k : Bool → Prop) (h : k true) : B3 (bys a) (bys b) k := by
  unfold B3
  refine B9_law a _ (B9_law b _ ?_)
  have ha := cut_le a
  have hb := cut_le b
  generalize cut1000 a = a at ha ⊢
  generalize cut1000 b = b at hb ⊢
  simp only [List.nil_append, Nat.zero_add, rowPart_self, rowPart_app]
  have room : ∀ n : Nat, n ≤ 5000 → n * 1 ≤ maxRoom := fun n hn => by rw [maxRoom_val]; omega
  refine ⟨by simp, room _ (by simp; omega), by simp, room _ (by simp; omega), by simp, room _ (by simp; omega), Nat.le_refl _, ?_⟩
  refine B10_law a (by omega) _ (B11_law a (by omega) _ ?_)
  simp only [decide_true, cond_true]
  refine ⟨Nat.le_refl _, B10_law a (by omega) _ (B12_law _ b (by omega) _ ?_)⟩
  refine ⟨by simp, ?_⟩
  rw [← bys_append]
  refine B11_law (a ++ b) (by simp; omega) _ ?_
  rw [more_more]
  simp only [decide_true, cond_true]
  refine ⟨Nat.le_refl _, asBytes_bys (asBytes_bys ?_)⟩
  simp only [beq_self_eq_true, cond_true]
  exact B13_law _ h

theorem B4_law (b : List By) (k : Bool → Prop) (h : k true) : B4 (bys b) k := by
  unfold B4
  refine B9_law b _ ?_
  have hb := cut_le b
  generalize cut1000 b = l at hb ⊢
  have hl : l.length ≤ 100000 := by omega
  have pl := puts_length l
  have rp : rowPart (bys (puts l)) 0 (l.length + 4) = bys (puts l) := rowPart_all _ _ (by simp [pl])
  have bl := body_length l
  have hbd : rowPart (bys (body l)) 0 (l.length - 4) = bys (body l) := rowPart_all _ _ (by simp [bl])
  have P : ∀ k : Nat → List PV → Prop, k (l.length + 4) (bys (puts l)) → B16 (bys l) k := fun k h => B16_law l hl k h
  have Q : ∀ k : Nat → List PV → Prop, k (l.length + 4) (bys (puts l)) → B17 (bys l) k := fun k h => B17_law l hl k h
  have le1 : 0 + (l.length + 4) ≤ (bys (puts l)).length := by simp [pl]
  have w := B13_law k h
  have st0 : stB [] = .empty := rfl
  have core : ∀ X : Prop, X → (B16 (bys l) fun r0n_134 x0_135 => (0 + r0n_134 ≤ (List.length (α := PV) x0_135) ∧ asBytesK (rowPart x0_135 0 r0n_134) fun s_136 => B17 (bys l) (fun r0n_137 x0_138 => 0 + r0n_137 ≤ (List.length (α := PV) x0_138) ∧ asBytesK (rowPart x0_138 0 r0n_137) fun s_139 => cond (ByteArray.toList s_136 == ByteArray.toList s_139) X (k false))) ∧ (B17 (bys l) (fun r0n_142 x0_143 => (0 + r0n_134 ≤ (List.length (α := PV) x0_135) ∧ asBytesK (rowPart x0_135 0 r0n_134) fun s_144 => 0 + r0n_142 ≤ (List.length (α := PV) x0_143) ∧ asBytesK (rowPart x0_143 0 r0n_142) fun s_145 => cond (ByteArray.toList s_144 == ByteArray.toList s_145) X (k false)) ∧ (0 + r0n_142 ≤ (List.length (α := PV) x0_143) ∧ asBytesK (rowPart x0_143 0 r0n_142) fun s_148 => 0 + r0n_134 ≤ (List.length (α := PV) x0_135) ∧ asBytesK (rowPart x0_135 0 r0n_134) fun s_149 => cond (ByteArray.toList s_149 == ByteArray.toList s_148) X (k false))))) := by
    intro X hX
    have fin : cond (ByteArray.toList (stB (puts l)) == ByteArray.toList (stB (puts l))) X (k false) := by
      simp only [beq_self_eq_true, cond_true]; exact hX
    refine P _ ⟨⟨le1, ?_⟩, Q _ ⟨⟨le1, ?_⟩, le1, ?_⟩⟩
    · rw [rp]; exact asBytes_bys (Q _ ⟨le1, by rw [rp]; exact asBytes_bys fin⟩)
    · rw [rp]; exact asBytes_bys ⟨le1, asBytes_bys fin⟩
    · rw [rp]; exact asBytes_bys ⟨le1, asBytes_bys fin⟩
  have end0 : ∀ s : ByteArray, cond (ByteArray.toList s == ByteArray.toList s) (B13 fun r0 => k r0) (k false) := fun s => by
    simp only [beq_self_eq_true, cond_true]; exact w
  have e2 : cond (true == true) (B13 fun r0 => k r0) (k false) := w
  have e3 : cond (false == false) (B13 fun r0 => k r0) (k false) := w
  have chk : ∀ (s : ByteArray) (X Y : Prop), X → cond (ByteArray.toList s == ByteArray.toList s) X Y := fun s X Y h => by
    simp only [beq_self_eq_true, cond_true]; exact h
  refine B14_law l hl _ _ (fun g => ?_) (fun g h4 => ?_) (fun g => ?_)
  · refine B15_law l hl _ _ (fun _ => ?_) (fun g' => by rw [g] at g'; cases g')
    exact core _ ⟨chk _ _ _ e3, chk _ _ _ e3⟩
  · have eb : body l = [] := List.length_eq_zero_iff.1 (by omega)
    refine B15_law l hl _ _ (fun g' => by rw [g] at g'; cases g') (fun _ => ?_)
    rw [eb]
    exact core _ ⟨asBytes_bys (l := []) (chk _ _ _ e2), asBytes_bys (l := []) (chk _ _ _ e2)⟩
  · have le2 : 0 + (l.length - 4) ≤ (bys (body l)).length := by simp [bl]
    refine B15_law l hl _ _ (fun g' => by rw [g] at g'; cases g') (fun _ => ?_)
    rw [hbd]
    exact core _ ⟨⟨le2, asBytes_bys (asBytes_bys (chk _ _ _ e2))⟩, asBytes_bys ⟨le2, asBytes_bys (chk _ _ _ e2)⟩⟩

/-! Parts. -/

theorem tmod_nat (a b : Nat) : Int.tmod (a : Int) (b : Int) = ((a % b : Nat) : Int) := by
  rw [Int.tmod_eq_emod_of_nonneg (by omega)]; rfl

theorem B6_law (b : List By) (x y : Nat) (hx : x < 65536) (hy : y < 65536) (k : Bool → Prop) (h : k true) : B6 (bys b) [.int .u16 (x : Int), .int .u16 (y : Int)] k := by
  unfold B6
  refine B9_law b _ ?_
  have hb := cut_le b
  generalize cut1000 b = l at hb ⊢
  refine ⟨by decide, by decide, ?_⟩
  show _ ∧ _
  have e1 : IntKind.wrap .i64 (Int.ofNat (bys l).length + 1) = ((l.length + 1 : Nat) : Int) := by
    rw [bys_length]; simp only [Int.ofNat_eq_natCast]; rw [w64 (by omega) (by omega)]; omega
  have e2 : IntKind.wrap .i64 (x : Int) = (x : Int) := w64 (by omega) (by omega)
  have e3 : IntKind.wrap .i64 (y : Int) = (y : Int) := w64 (by omega) (by omega)
  rw [e1, e2, tmod_nat]
  have hi : x % (l.length + 1) ≤ l.length := by have := Nat.mod_lt x (show 0 < l.length + 1 by omega); omega
  generalize x % (l.length + 1) = i at hi ⊢
  refine ⟨by omega, by decide, by decide, ?_⟩
  show _ ∧ _
  have e4 : IntKind.wrap .i64 (IntKind.wrap .i64 (Int.ofNat (bys l).length - (i : Int)) + 1) = ((l.length - i + 1 : Nat) : Int) := by
    rw [bys_length]; simp only [Int.ofNat_eq_natCast]; rw [w64 (n := (l.length : Int) - (i : Int)) (by omega) (by omega), w64 (by omega) (by omega)]; omega
  rw [e3, e4, tmod_nat]
  have hj : y % (l.length - i + 1) ≤ l.length - i := by have := Nat.mod_lt y (show 0 < l.length - i + 1 by omega); omega
  generalize y % (l.length - i + 1) = j at hj ⊢
  have e5 : IntKind.wrap .i64 ((i : Int) + (j : Int)) = ((i + j : Nat) : Int) := by rw [w64 (by omega) (by omega)]; omega
  rw [e5]
  simp only [cutL_bys, Int.toNat_natCast, bys_length, Int.toNat_zero]
  refine ⟨by omega, by decide, by omega, by simp; omega, ?_⟩
  refine B10_law _ (by simp; omega) _ ?_
  refine ⟨by omega, by omega, by simp; omega, ?_⟩
  refine B12_law _ _ (by simp; omega) _ ?_
  refine B12_law _ [] (by simp) _ ?_
  refine ⟨by omega, by simp; omega, by simp, ?_⟩
  refine B12_law _ _ (by simp; omega) _ ?_
  refine B10_law l (by omega) _ ?_
  rw [more_nil, more_more, more_more]
  have e6 : List.drop 0 (List.take i l) ++ List.drop i (List.take (i + j) l) ++ List.drop (i + j) (List.take l.length l) = l := by
    rw [List.drop_zero, List.take_length]
    have : List.take i l ++ List.drop i (List.take (i + j) l) = List.take (i + j) l := by
      have h1 : List.take i l = List.take i (List.take (i + j) l) := by rw [List.take_take]; congr 1; omega
      rw [h1, List.take_append_drop]
    rw [this, List.take_append_drop]
  rw [← List.append_assoc, e6]
  simp only [decide_true, cond_true]
  refine B10_law [] (by simp) _ ?_
  rw [more_nil]
  exact B13_law _ h

/-! Known. -/

theorem ones_loop (k0 : Int → List PV → Prop) : ∀ (m i : Nat) , i + m = 32 → k0 32 (bys (List.replicate 32 255#8)) →
    R8_3 32 k0 (m + 1) (i : Int) (bys (List.replicate i 255#8 ++ List.replicate m 0#8))
  | 0, i, hi, h => by
    have : i = 32 := by omega
    subst this
    rw [R8_3, S8_3]
    simpa using h
  | m + 1, i, hi, h => by
    have ih := ones_loop k0 m (i + 1) (by omega) h
    rw [R8_3, S8_3]
    have h1 : decide ((i : Int) < 32) = true := by simp; omega
    have h3 : IntKind.wrap .i64 ((i : Int) + 1) = ((i + 1 : Nat) : Int) := by rw [w64 (by omega) (by omega)]; omega
    rw [h1, h3, show (0 + Int.toNat ((i : Nat) : Int)) = i by simp]
    refine ⟨by omega, by simp; omega, elem_bys (by simp) ?_⟩
    have e : List.set (bys (List.replicate i 255#8 ++ List.replicate (m + 1) 0#8)) i (.int .u8 255) = bys (List.replicate (i + 1) 255#8 ++ List.replicate m 0#8) := by
      have : List.set (List.replicate i 255#8 ++ List.replicate (m + 1) 0#8) i 255#8 = List.replicate (i + 1) 255#8 ++ List.replicate m 0#8 := by
        rw [List.set_append_right _ _ (by simp)]
        rw [List.replicate_succ' (n := i), List.replicate_succ (n := m), List.length_replicate, Nat.sub_self, List.set_cons_zero, List.append_assoc]
        rfl
      rw [← this]
      simp [bys, List.map_set]
    rw [e]; exact ih

theorem more_zeros : more 0#32 (List.replicate 32 0#8) = 2324772522#32 := of_decide_eq_true (by kernel_rfl)
theorem more_ones : more 0#32 (List.replicate 32 255#8) = 1655221059#32 := of_decide_eq_true (by kernel_rfl)
theorem gets_123 : gets [1#8, 2#8, 3#8] = false := by decide
theorem gets_zeros : gets [0#8, 0#8, 0#8, 0#8] = true := of_decide_eq_true (by kernel_rfl)

theorem B8_law (k : Bool → Prop) (h : k true) : B8 k := by
  unfold B8
  have w := B13_law k h
  have room : ((0 : Int) ≤ 32 ∧ (32 : Int) ≤ 32 ∧ (32 : Int) * 1 ≤ maxRoom ∧ (32 : Int) ≤ maxRoom) := by rw [maxRoom_val]; decide
  refine ⟨room, 33, ?_⟩
  refine ones_loop _ 32 0 rfl ?_
  have tail : ∀ X : Prop, X → (B10 [] (fun r0_307 => cond (decide (r0_307 = 0))
    (0 + 9 ≤ (List.length (α := PV) (bys num9)) ∧ B10 (rowPart (bys num9) 0 9) (fun r0_308 => cond (decide (r0_308 = 3808858755))
    (((0 : Int) ≤ 32 ∧ (32 : Int) ≤ 32 ∧ (32 : Int) * 1 ≤ maxRoom ∧ (32 : Int) ≤ maxRoom) ∧ 0 + 32 ≤ (List.length (α := PV) (List.replicate 32 (.int .u8 0))) ∧ B10 (rowPart (List.replicate 32 (.int .u8 0)) 0 32) (fun r0_309 => cond (decide (r0_309 = 2324772522))
    (0 + 32 ≤ (List.length (α := PV) (bys (List.replicate 32 255#8))) ∧ B10 (rowPart (bys (List.replicate 32 255#8)) 0 32) (fun r0_310 => cond (decide (r0_310 = 1655221059)) X (k false)))
    (k false)))
    (k false)))
    (k false))) := by
    intro X hX
    refine B10_law [] (by simp) _ ?_
    rw [more_nil]
    refine ⟨by decide, ?_⟩
    have r9 : rowPart (bys num9) 0 9 = bys num9 := rowPart_all _ _ rfl
    rw [r9]
    refine B10_law num9 (by decide) _ ?_
    rw [more_num9]
    refine ⟨room, by simp, ?_⟩
    have r32 : rowPart (List.replicate 32 (.int .u8 0)) 0 32 = bys (List.replicate 32 0#8) := rfl
    rw [r32]
    refine B10_law _ (by simp) _ ?_
    rw [more_zeros]
    refine ⟨by simp, ?_⟩
    have r32' : rowPart (bys (List.replicate 32 255#8)) 0 32 = bys (List.replicate 32 255#8) := rfl
    rw [r32']
    refine B10_law _ (by simp) _ ?_
    rw [more_ones]
    exact hX
  refine ⟨by simp, ?_⟩
  refine B14_law [1#8, 2#8, 3#8] (by decide) _ _ (fun _ => ?_) (fun g => by rw [gets_123] at g; cases g) (fun g => by rw [gets_123] at g; cases g)
  refine ⟨by simp, ?_⟩
  refine B14_law [0#8, 0#8, 0#8, 0#8] (by decide) _ _ (fun g => by rw [gets_zeros] at g; cases g) (fun _ _ => ?_) (fun _ => ?_)
  · exact tail _ w
  · exact tail _ w
end Pv
