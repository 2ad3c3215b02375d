/- A part of the proof: CrcB. No conditions of its own beyond those that its theorems name. -/
import Derived.Test.YtmaahlifffjeoaaCrcA
namespace Pv
open Go

/-! The references functions. -/

theorem bls_append (a b : List Bool) : bls (a ++ b) = bls a ++ bls b := by simp [bls]
theorem bys_append (a b : List By) : bys (a ++ b) = bys a ++ bys b := by simp [bys]
theorem rowPart_one (x : PV) : rowPart [x] 0 1 = [x] := rfl
theorem rowPart_all (l : List PV) (n : Nat) (h : n = l.length) : rowPart l 0 n = l := by subst h; simp [rowPart]
theorem maxRoom_val : maxRoom = 70368744177664 := rfl

theorem bit_of (b : By) (k : Nat) (hk : k < 8) : decide ((bitsW .and .u8 (Int.fdiv ((b.toNat : Nat) : Int) (2 ^ (min (Int.toNat (IntKind.wrap .u64 (k : Int))) 8))) 1) = 1) = b.getLsbD k := by
  have h1 : IntKind.wrap .u64 (k : Int) = (k : Int) := by rw [wu64]; omega
  have h2 : min (Int.toNat (k : Int)) 8 = k := by simp; omega
  rw [h1, h2, fdiv_pow]
  have h3 : ((b.toNat >>> k : Nat) : Int) = (((b >>> k).toNat : Nat) : Int) := by simp
  rw [h3, low8]
  simp

theorem bits_inner (l : List By) (i : Nat) (hi : i < l.length) (k0 : Nat → Int → List PV → Prop) : ∀ (m j : Nat) (x : List Bool), j + m = 8 → x.length + m ≤ 1000000 →
    k0 ((x ++ (bitsB l[i]).drop j).length) 8 (bls (x ++ (bitsB l[i]).drop j)) → R18_6 (bys l) (i : Int) k0 (m + 1) x.length (j : Int) (bls x)
  | 0, j, x, hj, _, h => by
    have : j = 8 := by omega
    subst this
    have e : (bitsB l[i]).drop 8 = [] := rfl
    rw [e, List.append_nil] at h
    rw [R18_6, S18_6]
    exact h
  | m + 1, j, x, hj, hx, h => by
    have hj8 : j < 8 := by omega
    have hd : (bitsB l[i]).drop j = l[i].getLsbD j :: (bitsB l[i]).drop (j + 1) := by
      rw [List.drop_eq_getElem_cons (by simp [bitsB]; omega)]
      congr 1
      simp [bitsB]
    rw [hd] at h
    have ih := bits_inner l i hi k0 m (j + 1) (x ++ [l[i].getLsbD j]) (by omega) (by simp; omega) (by simpa using h)
    rw [R18_6, S18_6]
    have h1 : decide ((j : Int) < 8) = true := by simp; omega
    rw [h1]
    refine ⟨by omega, ?_⟩
    rw [Int.toNat_natCast]
    refine elem_bys hi ?_
    show _ ∧ _
    rw [bit_of _ _ hj8]
    have h2 : IntKind.wrap .i64 ((j : Int) + 1) = ((j + 1 : Nat) : Int) := by rw [w64 (by omega) (by omega)]; rfl
    rw [h2, rowPart_one]
    refine ⟨by rw [wu64]; omega, by simp, by simp, by rw [maxRoom_val]; simp; omega, ?_⟩
    have e1 : (x ++ [l[i].getLsbD j]).length = x.length + 1 := by simp
    rw [e1, bls_append] at ih
    exact ih

theorem bits_outer (l : List By) (hl : l.length ≤ 100000) (k0 : Nat → Int → List PV → Prop) : ∀ (m i : Nat) (x : List Bool), i + m = l.length → x.length = 8 * i →
    k0 ((x ++ bitsL (l.drop i)).length) l.length (bls (x ++ bitsL (l.drop i))) → R18_3 (bys l) k0 (m + 1) x.length (i : Int) (bls x)
  | 0, i, x, hi, hx, h => by
    have : i = l.length := by omega
    subst this
    rw [R18_3, S18_3]
    simpa [bitsL] using h
  | m + 1, i, x, hi, hx, h => by
    have hlt : i < l.length := by omega
    have e : l.drop i = l[i] :: l.drop (i + 1) := List.drop_eq_getElem_cons hlt
    rw [e] at h
    have hlen : (x ++ bitsB l[i]).length = 8 * (i + 1) := by simp [bitsB]; omega
    have ih := bits_outer l hl k0 m (i + 1) (x ++ bitsB l[i]) (by omega) hlen (by simp only [bitsL, List.flatMap_cons] at h; simpa only [List.append_assoc, bitsL] using h)
    rw [R18_3, S18_3]
    have h1 : decide ((i : Int) < Int.ofNat (bys l).length) = true := by simp; omega
    rw [h1]
    have h2 : IntKind.wrap .i64 ((i : Int) + 1) = ((i + 1 : Nat) : Int) := by rw [w64 (by omega) (by omega)]; rfl
    refine ⟨9, bits_inner l i hlt _ 8 0 x rfl (by omega) ?_⟩
    rw [h2]
    exact ih

theorem B18_law (l : List By) (hl : l.length ≤ 100000) (k : Nat → List PV → Prop) (h : k (bitsL l).length (bls (bitsL l))) : B18 (bys l) k := by
  have := bits_outer l hl (fun n i x => k n x) l.length 0 [] (by omega) rfl (by simpa using h)
  exact ⟨l.length + 1, this⟩

def dvs : List Bool := true :: Crc.dtail
theorem dvs_length : dvs.length = 33 := rfl

theorem dv_loop (ps : List Nat) (hps : ∀ p ∈ ps, p ≤ 32) (hl : ps.length ≤ 1000) (k0 : Int → List PV → Prop) : ∀ (m i : Nat) (x : List Bool), i + m = ps.length → x.length = 33 →
    k0 ps.length (bls ((ps.drop i).foldl (fun x p => x.set (32 - p) true) x)) → R21_4 ps.length 33 (ps.map fun (p : Nat) => .int .i64 (p : Int)) k0 (m + 1) (i : Int) (bls x)
  | 0, i, x, hi, hx, h => by
    have : i = ps.length := by omega
    subst this
    rw [R21_4, S21_4]
    simpa using h
  | m + 1, i, x, hi, hx, h => by
    have hlt : i < ps.length := by omega
    have e : ps.drop i = ps[i] :: ps.drop (i + 1) := List.drop_eq_getElem_cons hlt
    rw [e, List.foldl_cons] at h
    have hp := hps ps[i] (List.getElem_mem hlt)
    have ih := dv_loop ps hps hl k0 m (i + 1) (x.set (32 - ps[i]) true) (by omega) (by simpa using hx) h
    rw [R21_4, S21_4]
    have h1 : decide ((i : Int) < Int.ofNat ps.length) = true := by simp; omega
    have h3 : IntKind.wrap .i64 ((i : Int) + 1) = ((i + 1 : Nat) : Int) := by rw [w64 (by omega) (by omega)]; omega
    rw [h1, h3, show (0 + Int.toNat ((i : Nat) : Int)) = i by simp]
    refine ⟨by omega, by simp; omega, ?_⟩
    have h4 : IntKind.wrap .i64 (32 - ((ps[i] : Nat) : Int)) = ((32 - ps[i] : Nat) : Int) := by rw [w64 (by omega) (by omega)]; omega
    unfold elemAt
    simp only [List.getElem?_map, List.getElem?_eq_getElem hlt, Option.map_some]
    show _ ∧ _ ∧ _
    rw [h4, show (0 + Int.toNat ((32 - ps[i] : Nat) : Int)) = 32 - ps[i] by simp]
    refine ⟨by omega, by simp; omega, ?_⟩
    have h5 : (bls x)[32 - ps[i]]? = some (.bool (x[32 - ps[i]]'(by omega))) := by simp [bls]
    rw [h5]
    have h6 : List.set (bls x) (32 - ps[i]) (PV.bool true) = bls (x.set (32 - ps[i]) true) := by simp [bls, List.map_set]
    show R21_4 _ _ _ _ _ _ (List.set (bls x) (32 - ps[i]) (PV.bool true))
    rw [h6]; exact ih

theorem B21_law (k : Nat → List PV → Prop) (h : k 33 (bls dvs)) : B21 k := by
  refine ⟨by decide, 19, ?_⟩
  have := dv_loop [32, 28, 27, 26, 25, 23, 22, 20, 19, 18, 14, 13, 11, 10, 9, 8, 6, 0] (by decide) (by decide) (fun _ x => k 33 x) 18 0 (List.replicate 33 false) rfl rfl
    (by
      have e : (List.drop 0 [32, 28, 27, 26, 25, 23, 22, 20, 19, 18, 14, 13, 11, 10, 9, 8, 6, 0]).foldl (fun (x : List Bool) p => x.set (32 - p) true) (List.replicate 33 false) = dvs := of_decide_eq_true (by kernel_rfl)
      rw [e]; exact h)
  exact this

theorem set_at (p : List Bool) (x y : Bool) (r : List Bool) (n : Nat) (hn : n = p.length) : List.set (bls (p ++ x :: r)) n (.bool y) = bls (p ++ y :: r) := by
  subst hn
  simp [bls, List.set_append]

theorem elem_at (p : List Bool) (x : Bool) (r : List Bool) (n : Nat) (hn : n = p.length) {K : PV → Prop} (h : K (.bool x)) : elemAt (bls (p ++ x :: r)) n K := by
  subst hn
  unfold elemAt
  simpa [bls] using h

theorem rest_inner (n i : Nat) (hn : n ≤ 1000000) (k0 : Int → List PV → Prop) : ∀ (ds dp p xs : List Bool), dp ++ ds = dvs → p.length = i + dp.length → ds.length ≤ xs.length → p.length + xs.length = n →
    k0 33 (bls (p ++ Crc.xp ds xs)) → R19_7 n 33 (i : Int) (bls dvs) k0 (ds.length + 1) (dp.length : Int) (bls (p ++ xs))
  | [], dp, p, xs, hd, hp, hx, hlen, h => by
    have : dp.length = 33 := by have := congrArg List.length hd; simpa [dvs_length] using this
    rw [List.length_nil, R19_7, S19_7, this]
    exact h
  | d :: ds, dp, p, [], hd, hp, hx, hlen, h => by simp at hx
  | d :: ds, dp, p, x :: xs, hd, hp, hx, hlen, h => by
    have hdl : dp.length + ds.length + 1 = 33 := by have := congrArg List.length hd; simp [dvs_length] at this; omega
    have ih := rest_inner n i hn k0 ds (dp ++ [d]) (p ++ [d ^^ x]) xs (by simpa using hd) (by simp; omega) (by simpa using hx) (by simp at hlen ⊢; omega) (by simpa [Crc.xp] using h)
    simp only [List.length_cons] at hlen hx
    rw [List.length_cons, R19_7, S19_7]
    have h1 : decide ((dp.length : Int) < 33) = true := by simp; omega
    have h2 : IntKind.wrap .i64 ((i : Int) + (dp.length : Int)) = ((p.length : Nat) : Int) := by rw [w64 (by omega) (by omega)]; omega
    have h3 : IntKind.wrap .i64 ((dp.length : Int) + 1) = (((dp ++ [d]).length : Nat) : Int) := by rw [w64 (by omega) (by omega)]; simp
    rw [h1, h2, h3]
    rw [show (0 + Int.toNat ((p.length : Nat) : Int)) = p.length by simp, show (0 + Int.toNat ((dp.length : Nat) : Int)) = dp.length by simp]
    have e1 : ∀ K : PV → Prop, K (.bool x) → elemAt (bls (p ++ x :: xs)) p.length K := fun K hK => elem_at p x xs _ rfl hK
    have e2 : ∀ K : PV → Prop, K (.bool d) → elemAt (bls dvs) dp.length K := fun K hK => by rw [← hd]; exact elem_at dp d ds _ rfl hK
    have e3 : ∀ y : Bool, (!(x == d)) = y → List.set (bls (p ++ x :: xs)) p.length (.bool y) = bls ((p ++ [y]) ++ xs) := fun y _ => by rw [set_at p x y xs _ rfl]; simp
    have e4 : (!(x == d)) = (d ^^ x) := by cases x <;> cases d <;> rfl
    refine ⟨by omega, by simp; omega, by omega, by simp; omega, ?_, ?_⟩
    · refine e1 _ ?_
      refine e2 _ ?_
      refine ⟨by omega, by simp; omega, e1 _ ?_⟩
      show R19_7 _ _ _ _ _ _ _ (List.set _ _ (PV.bool (!(x == d))))
      rw [e4, e3 _ e4]; exact ih
    · refine e2 _ ?_
      refine e1 _ ?_
      refine ⟨by omega, by simp; omega, e1 _ ?_⟩
      show R19_7 _ _ _ _ _ _ _ (List.set _ _ (PV.bool (!(x == d))))
      rw [e4, e3 _ e4]; exact ih

theorem rest_outer (n : Nat) (hn : n ≤ 900000) (k0 : Int → List PV → Prop) (fin : List Bool) (hfin : ∀ p : List Bool, p.length + 32 = n → k0 ((n - 32 : Nat) : Int) (bls (p ++ fin))) : ∀ (m : Nat) (p xs : List Bool), p.length + xs.length = n → xs.length = m + 32 → Crc.div m xs = fin →
    R19_3 n 33 (bls dvs) k0 (m + 1) (p.length : Int) (bls (p ++ xs))
  | 0, p, xs, hp, hx, hd => by
    rw [R19_3, S19_3]
    have h1 : IntKind.wrap .i64 ((p.length : Int) + 32) = ((n : Nat) : Int) := by rw [w64 (by omega) (by omega)]; omega
    have h2 : decide (((n : Nat) : Int) < Int.ofNat n) = false := by simp
    rw [h1, h2]
    have : p.length = n - 32 := by omega
    rw [this]
    simp only [Crc.div] at hd
    rw [hd]
    exact hfin p (by omega)
  | m + 1, p, [], hp, hx, hd => by simp at hx
  | m + 1, p, x :: xs, hp, hx, hd => by
    simp only [List.length_cons] at hp hx
    simp only [Crc.div] at hd
    rw [R19_3, S19_3]
    have h1 : IntKind.wrap .i64 ((p.length : Int) + 32) = ((p.length + 32 : Nat) : Int) := by rw [w64 (by omega) (by omega)]; omega
    have h2 : decide (((p.length + 32 : Nat) : Int) < Int.ofNat n) = true := by simp; omega
    have h3 : IntKind.wrap .i64 ((p.length : Int) + 1) = ((p.length + 1 : Nat) : Int) := by rw [w64 (by omega) (by omega)]; omega
    rw [h1, h2, h3]
    refine ⟨by omega, by simp; omega, ?_⟩
    rw [show (0 + Int.toNat ((p.length : Nat) : Int)) = p.length by simp]
    refine elem_at p x xs _ rfl ?_
    show cond (!x) _ _
    cases x with
    | false =>
      have ih := rest_outer n hn k0 fin hfin m (p ++ [false]) xs (by simp; omega) (by omega) (by simpa using hd)
      simpa using ih
    | true =>
      have ih := rest_outer n hn k0 fin hfin m (p ++ [false]) (Crc.xp Crc.dtail xs) (by simp [Crc.xp_length]; omega) (by simp [Crc.xp_length]; omega) (by simpa using hd)
      refine ⟨34, ?_⟩
      have := rest_inner n p.length (by omega) (fun _ x0 => R19_3 n 33 (bls dvs) k0 (m + 1) ((p.length + 1 : Nat) : Int) x0) dvs [] p (true :: xs) rfl rfl (by rw [dvs_length]; simp; omega) (by simp; omega) (by simpa [dvs, Crc.xp] using ih)
      exact this

theorem B19_law (l : List Bool) (hl : l.length ≤ 900000) (h32 : 32 ≤ l.length) (k : Nat → Nat → List PV → Prop) (h : ∀ p : List Bool, p.length + 32 = l.length → k p.length 32 (bls (p ++ Crc.div (l.length - 32) l))) : B19 l.length (bls l) k := by
  unfold B19
  refine B21_law _ ⟨l.length - 32 + 1, ?_⟩
  refine rest_outer l.length hl _ (Crc.div (l.length - 32) l) (fun p hp => ?_) (l.length - 32) [] l (by simp) (by omega) rfl
  have h1 : IntKind.wrap .i64 (Int.ofNat l.length - 32) = ((l.length - 32 : Nat) : Int) := by simp only [Int.ofNat_eq_natCast]; rw [w64 (by omega) (by omega)]; omega
  simp only [h1]
  refine ⟨by omega, by simp, Int.le_refl _, ?_⟩
  have h2 : 0 + Int.toNat ((l.length - 32 : Nat) : Int) = p.length := by simp; omega
  have h3 : l.length - Int.toNat ((l.length - 32 : Nat) : Int) = 32 := by simp; omega
  rw [h2, h3]
  exact h p hp

theorem pad_zero (k0 : Nat → Int → List PV → Prop) : ∀ (m i : Nat) (x : List Bool), i + m = 32 → x.length + m ≤ 1000000 →
    k0 (x.length + m) 32 (bls (x ++ List.replicate m false)) → R11_3 k0 (m + 1) x.length (i : Int) (bls x)
  | 0, i, x, hi, _, h => by
    have : i = 32 := by omega
    subst this
    rw [R11_3, S11_3]
    simpa using h
  | m + 1, i, x, hi, hx, h => by
    have ih := pad_zero k0 m (i + 1) (x ++ [false]) (by omega) (by simp; omega)
    have e : (x ++ [false]) ++ List.replicate m false = x ++ List.replicate (m + 1) false := by simp [List.replicate_succ]
    have e2 : (x ++ [false]).length + m = x.length + (m + 1) := by simp; omega
    rw [e, e2] at ih
    rw [R11_3, S11_3]
    have h1 : decide ((i : Int) < 32) = true := by simp; omega
    have h3 : IntKind.wrap .i64 ((i : Int) + 1) = ((i + 1 : Nat) : Int) := by rw [w64 (by omega) (by omega)]; omega
    rw [h1, h3, rowPart_one]
    refine ⟨by simp, by simp, by rw [maxRoom_val]; simp; omega, ?_⟩
    have h2 := ih h
    have e1 : (x ++ [false]).length = x.length + 1 := by simp
    rw [e1, bls_append] at h2
    exact h2

theorem flip_head (n : Nat) (hn : n ≤ 1000000) (k0 : Int → List PV → Prop) : ∀ (m : Nat) (p xs : List Bool), p.length + m = 32 → m ≤ xs.length → p.length + xs.length = n →
    k0 32 (bls (p ++ Crc.xp (List.replicate m true) xs)) → R11_7 n k0 (m + 1) (p.length : Int) (bls (p ++ xs))
  | 0, p, xs, hp, _, hx, h => by
    have : p.length = 32 := by omega
    rw [R11_7, S11_7, this]
    simpa [Crc.xp] using h
  | m + 1, p, [], hp, hm, hx, h => by simp at hm
  | m + 1, p, x :: xs, hp, hm, hx, h => by
    simp only [List.length_cons] at hm hx
    have ih := flip_head n hn k0 m (p ++ [!x]) xs (by simp; omega) (by omega) (by simp; omega) (by simpa [List.replicate_succ, Crc.xp] using h)
    rw [R11_7, S11_7]
    have h1 : decide ((p.length : Int) < 32) = true := by simp; omega
    have h3 : IntKind.wrap .i64 ((p.length : Int) + 1) = ((p.length + 1 : Nat) : Int) := by rw [w64 (by omega) (by omega)]; omega
    rw [h1, h3, show (0 + Int.toNat ((p.length : Nat) : Int)) = p.length by simp]
    refine ⟨by omega, by simp; omega, elem_at p x xs _ rfl ?_⟩
    refine ⟨by omega, by simp; omega, elem_at p x xs _ rfl ?_⟩
    show R11_7 _ _ _ _ (List.set _ _ (PV.bool (!x)))
    rw [set_at p x _ xs _ rfl]
    simpa using ih

theorem word_append (a b : List Bool) : Crc.word (a ++ b) = Crc.word a + 2 ^ a.length * Crc.word b := by
  induction a with
  | nil => simp [Crc.word]
  | cons x a ih => simp only [List.cons_append, Crc.word, ih, List.length_cons, Nat.pow_succ]; rw [Nat.mul_add]; simp only [Nat.add_assoc]; congr 1; congr 1; rw [Nat.mul_comm (2 ^ a.length) 2, Nat.mul_assoc]

theorem gather (ri : Nat) (x0 : List Bool) (pre r : List Bool) (hx : x0 = pre ++ r) (hpre : pre.length = ri) (hr : r.length = 32) (k0 : Int → Int → Prop) : ∀ (m i : Nat), i + m = 32 →
    k0 ((Crc.word (r.map (!·)) : Nat) : Int) 32 → R11_13 ri 32 (bls x0) k0 (m + 1) ((Crc.word ((r.take i).map (!·)) : Nat) : Int) (i : Int)
  | 0, i, hi, h => by
    have : i = 32 := by omega
    subst this
    rw [R11_13, S11_13]
    have : r.take 32 = r := List.take_of_length_le (by omega)
    rw [this]
    exact h
  | m + 1, i, hi, h => by
    have ih := gather ri x0 pre r hx hpre hr k0 m (i + 1) (by omega) h
    have hlt : i < r.length := by omega
    rw [R11_13, S11_13]
    have h1 : decide ((i : Int) < 32) = true := by simp; omega
    have h3 : IntKind.wrap .i64 ((i : Int) + 1) = ((i + 1 : Nat) : Int) := by rw [w64 (by omega) (by omega)]; omega
    have h4 : IntKind.wrap .u64 (i : Int) = (i : Int) := by rw [wu64]; omega
    rw [h1, h3, h4]
    have h5 : min (Int.toNat (i : Int)) 32 = i := by simp; omega
    rw [h5]
    refine ⟨by omega, by simp; omega, ?_⟩
    have e : x0 = (pre ++ r.take i) ++ r[i] :: r.drop (i + 1) := by
      rw [hx, List.append_assoc, ← List.drop_eq_getElem_cons hlt, List.take_append_drop]
    have e2 : ri + Int.toNat (i : Int) = (pre ++ r.take i).length := by simp; omega
    have hw : Crc.word ((r.take (i + 1)).map (!·)) = Crc.word ((r.take i).map (!·)) + 2 ^ i * (if r[i] then 0 else 1) := by
      rw [List.take_succ_eq_append_getElem hlt, List.map_append, word_append]
      have : ((r.take i).map (!·)).length = i := by simp; omega
      rw [this]
      cases r[i] <;> simp [Crc.word]
    have hb := Crc.word_lt ((r.take i).map (!·))
    have hbl : ((r.take i).map (!·)).length = i := by simp; omega
    rw [hbl] at hb
    have hb2 := Crc.word_lt ((r.take (i+1)).map (!·))
    have hbl2 : ((r.take (i+1)).map (!·)).length = i + 1 := by simp; omega
    rw [hbl2] at hb2
    have hp : 2 ^ (i + 1) ≤ 2 ^ 32 := Nat.pow_le_pow_right (by decide) (by omega)
    have hpi : 2 ^ i < 2 ^ 32 := Nat.pow_lt_pow_right (by decide) (by omega)
    rw [e2, e]
    refine elem_at _ _ _ _ rfl ?_
    show cond (!r[i]) _ _
    rw [← e]
    cases hri : r[i] with
    | true =>
      rw [hri] at hw
      simp only [if_true, Nat.mul_zero, Nat.add_zero] at hw
      rw [hw] at ih
      exact ih
    | false =>
      rw [hri] at hw
      simp only [Bool.false_eq_true, if_false, Nat.mul_one] at hw
      refine ⟨by omega, ?_⟩
      have h6 : IntKind.wrap .u32 (1 * (2 : Int) ^ i) = ((2 ^ i : Nat) : Int) := by
        rw [wu32]
        have : (1 * (2 : Int) ^ i) = ((2 ^ i : Nat) : Int) := by simp
        rw [this]; omega
      rw [h6]
      have h7 : IntKind.wrap .u32 (((Crc.word ((r.take i).map (!·)) : Nat) : Int) + ((2 ^ i : Nat) : Int)) = ((Crc.word ((r.take (i+1)).map (!·)) : Nat) : Int) := by
        rw [wu32, hw]; omega
      rw [h7]
      exact ih

theorem word_testBit : ∀ (l : List Bool) (i : Nat), (Crc.word l).testBit i = l.getD i false
  | [], i => by simp [Crc.word]
  | b :: l, 0 => by simp [Crc.word, Nat.testBit_zero]; cases b <;> simp <;> omega
  | b :: l, i + 1 => by
    rw [Crc.word, Nat.testBit_succ]
    have : (b.toNat + 2 * Crc.word l) / 2 = Crc.word l := by cases b <;> simp <;> omega
    rw [this, word_testBit l i]; simp

theorem word_regbits (x : BitVec 32) : Crc.word ((Crc.regbits x).map (!·)) = (~~~x).toNat := by
  apply Nat.eq_of_testBit_eq
  intro i
  rw [word_testBit, BitVec.testBit_toNat, BitVec.getLsbD_not]
  by_cases h : i < 32
  · simp [Crc.regbits, h]
  · simp [Crc.regbits, h]

theorem B11_law (l : List By) (hl : l.length ≤ 100000) (k : Int → Prop) (h : k ((more 0#32 l).toNat : Int)) : B11 (bys l) k := by
  unfold B11
  have hb : (bitsL l).length = 8 * l.length := bitsL_length l
  refine B18_law l hl _ ⟨33, ?_⟩
  refine pad_zero _ 32 0 (bitsL l) rfl (by omega) ?_
  have e1 : (bitsL l).length + 32 = (bitsL l ++ List.replicate 32 false).length := by simp
  rw [e1]
  generalize hM : bitsL l ++ List.replicate 32 false = M
  have hMl : M.length = 8 * l.length + 32 := by rw [← hM]; simp; omega
  refine ⟨33, flip_head M.length (by omega) _ 32 [] M rfl (by omega) (by simp) ?_⟩
  have e2 : ([] ++ Crc.xp (List.replicate 32 true) M) = Crc.xp (Crc.regbits (BitVec.allOnes 32)) M := by
    rw [List.nil_append]
    congr 1
  rw [e2]
  have e3 : (Crc.xp (Crc.regbits (BitVec.allOnes 32)) M).length = M.length := Crc.xp_length _ _
  rw [← e3]
  refine B19_law _ (by omega) (by omega) _ (fun p hp => ?_)
  have e4 : (Crc.xp (Crc.regbits (BitVec.allOnes 32)) M).length - 32 = (bitsL l).length := by omega
  rw [e4, ← hM, Crc.div_run]
  refine ⟨33, ?_⟩
  have := gather p.length (p ++ Crc.regbits (Crc.run (BitVec.allOnes 32) (bitsL l))) p _ rfl rfl (Crc.regbits_length _) (fun n _ => k n) 32 0 rfl (by
    show k _
    rw [word_regbits]
    have : more 0#32 l = ~~~ Crc.run (BitVec.allOnes 32) (bitsL l) := by unfold more; congr 2
    rw [← this]; exact h)
  exact this
end Pv
