/- A part of the proof: CrcE. No conditions of its own beyond those that its theorems name. -/
import Derived.Test.YtmaahlifffjeoaaCrcD
namespace Pv
open Go

/-! Adds. -/

theorem bitsB_length (b : By) : (bitsB b).length = 8 := by simp [bitsB]
theorem bitsB_xor (x y : By) : bitsB (x ^^^ y) = List.zipWith (· ^^ ·) (bitsB x) (bitsB y) := by
  simp [bitsB, List.zipWith_map, List.zipWith_self]
theorem bitsL_zip : ∀ (a b : List By), a.length = b.length → bitsL (List.zipWith (· ^^^ ·) a b) = List.zipWith (· ^^ ·) (bitsL a) (bitsL b)
  | [], [], _ => rfl
  | x :: a, y :: b, h => by
    simp only [List.length_cons, Nat.add_right_cancel_iff] at h
    have ih := bitsL_zip a b h
    simp only [bitsL] at ih
    simp only [bitsL, List.zipWith_cons_cons, List.flatMap_cons]
    rw [List.zipWith_append (by simp [bitsB_length]), ih, bitsB_xor]
  | [], y :: b, h => by simp at h
  | x :: a, [], h => by simp at h

theorem more_xor3 (a b c : List By) (h1 : a.length = b.length) (h2 : b.length = c.length) :
    more 0#32 (List.zipWith (· ^^^ ·) (List.zipWith (· ^^^ ·) a b) c) = more 0#32 a ^^^ more 0#32 b ^^^ more 0#32 c := by
  unfold more
  have l1 : (List.zipWith (· ^^^ ·) a b).length = c.length := by simp; omega
  rw [bitsL_zip _ _ l1, bitsL_zip _ _ h1]
  have e : (~~~ 0#32) = (~~~ 0#32) ^^^ (~~~ 0#32) ^^^ (~~~ 0#32) := by decide
  have r := Crc.run_xor (List.zipWith (· ^^ ·) (bitsL a) (bitsL b)) (bitsL c) (~~~ 0#32 ^^^ ~~~ 0#32) (~~~ 0#32) (by simp [bitsL_length]; omega)
  have r2 := Crc.run_xor (bitsL a) (bitsL b) (~~~ 0#32) (~~~ 0#32) (by simp [bitsL_length]; omega)
  rw [r2] at r
  rw [← e] at r
  rw [r]
  generalize Crc.run (~~~ 0#32) (bitsL a) = x
  generalize Crc.run (~~~ 0#32) (bitsL b) = y
  generalize Crc.run (~~~ 0#32) (bitsL c) = z
  ext i hi
  simp [hi]

def x3 (a b c : List By) (n : Nat) : List By := List.zipWith (· ^^^ ·) (List.zipWith (· ^^^ ·) (a.take n) (b.take n)) (c.take n)

theorem adds_loop (a b c : List By) (n : Nat) (hn : n ≤ 1000) (ha : n ≤ a.length) (hb : n ≤ b.length) (hc : n ≤ c.length) (k0 : Nat → Int → List PV → Prop) : ∀ (m i : Nat) (x : List By), i + m = n → x.length = i →
    k0 n (n : Int) (bys (x ++ (x3 a b c n).drop i)) → R7_4 (bys a) (bys b) (bys c) (n : Int) k0 (m + 1) i (i : Int) (bys x)
  | 0, i, x, hi, hx, h => by
    have : i = n := by omega
    subst this
    have e : (x3 a b c i).drop i = [] := List.drop_eq_nil_of_le (by simp [x3]; omega)
    rw [e, List.append_nil] at h
    rw [R7_4, S7_4]
    simpa using h
  | m + 1, i, x, hi, hx, h => by
    have hlt : i < n := by omega
    have zl : (x3 a b c n).length = n := by simp [x3]; omega
    have e : (x3 a b c n).drop i = (a[i] ^^^ b[i] ^^^ c[i]) :: (x3 a b c n).drop (i + 1) := by
      rw [List.drop_eq_getElem_cons (by omega)]
      congr 1
      simp [x3]
    rw [e] at h
    have ih := adds_loop a b c n hn ha hb hc k0 m (i + 1) (x ++ [a[i] ^^^ b[i] ^^^ c[i]]) (by omega) (by simp; omega) (by simpa using h)
    rw [bys_append] at ih
    rw [R7_4, S7_4]
    have h1 : decide ((i : Int) < (n : Int)) = true := by simp; omega
    have h3 : IntKind.wrap .i64 ((i : Int) + 1) = ((i + 1 : Nat) : Int) := by rw [w64 (by omega) (by omega)]; omega
    rw [h1, h3, Int.toNat_natCast]
    have fin : 0 + 1 ≤ (List.length (α := PV) [(.int .u8 (bitsW .xor .u8 (bitsW .xor .u8 (a[i].toNat : Int) (b[i].toNat : Int)) (c[i].toNat : Int)))]) ∧ i = (List.length (α := PV) (bys x)) ∧ (i + (List.length (α := PV) (rowPart [(.int .u8 (bitsW .xor .u8 (bitsW .xor .u8 (a[i].toNat : Int) (b[i].toNat : Int)) (c[i].toNat : Int)))] 0 1))) * 1 ≤ maxRoom ∧ R7_4 (bys a) (bys b) (bys c) (n : Int) k0 (m + 1) (i + (List.length (α := PV) (rowPart [(.int .u8 (bitsW .xor .u8 (bitsW .xor .u8 (a[i].toNat : Int) (b[i].toNat : Int)) (c[i].toNat : Int)))] 0 1))) ((i + 1 : Nat) : Int) (bys x ++ (rowPart [(.int .u8 (bitsW .xor .u8 (bitsW .xor .u8 (a[i].toNat : Int) (b[i].toNat : Int)) (c[i].toNat : Int)))] 0 1)) := by
      rw [rowPart_one, xor8, xor8]
      exact ⟨by simp, by simp; omega, by rw [maxRoom_val]; simp; omega, ih⟩
    refine ⟨by omega, elem_bys (by omega) ⟨by omega, elem_bys (by omega) ⟨by omega, elem_bys (by omega) ?_⟩⟩⟩
    exact ⟨⟨fin, fin⟩, ⟨fin, fin⟩, fin, fin⟩

theorem min_cast (a b : Nat) : (if (a : Int) < (b : Int) then (a : Int) else (b : Int)) = ((min a b : Nat) : Int) := by
  rcases Nat.lt_or_ge a b with h | h
  · rw [if_pos (by omega), Nat.min_eq_left (by omega)]
  · rw [if_neg (by omega), Nat.min_eq_right h]

theorem B7_law (a b c : List By) (k : Bool → Prop) (h : k true) : B7 (bys a) (bys b) (bys c) k := by
  have e : (if (1000 : Int) < (if (Int.ofNat (bys c).length) < (if (Int.ofNat (bys b).length) < (Int.ofNat (bys a).length) then (Int.ofNat (bys b).length) else (Int.ofNat (bys a).length)) then (Int.ofNat (bys c).length) else (if (Int.ofNat (bys b).length) < (Int.ofNat (bys a).length) then (Int.ofNat (bys b).length) else (Int.ofNat (bys a).length))) then 1000 else (if (Int.ofNat (bys c).length) < (if (Int.ofNat (bys b).length) < (Int.ofNat (bys a).length) then (Int.ofNat (bys b).length) else (Int.ofNat (bys a).length)) then (Int.ofNat (bys c).length) else (if (Int.ofNat (bys b).length) < (Int.ofNat (bys a).length) then (Int.ofNat (bys b).length) else (Int.ofNat (bys a).length)))) = ((min 1000 (min c.length (min b.length a.length)) : Nat) : Int) := by
    simp only [bys_length, Int.ofNat_eq_natCast, min_cast]
    exact min_cast 1000 _
  unfold B7
  rw [e]
  have hn : min 1000 (min c.length (min b.length a.length)) ≤ 1000 := by omega
  have ha : min 1000 (min c.length (min b.length a.length)) ≤ a.length := by omega
  have hb : min 1000 (min c.length (min b.length a.length)) ≤ b.length := by omega
  have hc : min 1000 (min c.length (min b.length a.length)) ≤ c.length := by omega
  generalize min 1000 (min c.length (min b.length a.length)) = n at hn ha hb hc ⊢
  refine ⟨n + 1, adds_loop a b c n hn ha hb hc _ n 0 [] (by omega) rfl ?_⟩
  have zl : (x3 a b c n).length = n := by simp [x3]; omega
  rw [List.drop_zero, List.nil_append]
  refine ⟨by decide, by omega, by simp; omega, by decide, by omega, by simp; omega, by decide, by omega, by simp; omega, by simp [zl], ?_⟩
  have rp : rowPart (bys (x3 a b c n)) 0 n = bys (x3 a b c n) := rowPart_all _ _ (by simp [zl])
  rw [rp]
  simp only [cutL_bys, Int.toNat_natCast, List.drop_zero]
  refine B10_law _ (by omega) _ (B10_law _ (by simp; omega) _ (B10_law _ (by simp; omega) _ (B10_law _ (by simp; omega) _ ?_)))
  rw [xor32, xor32, ← more_xor3 _ _ _ (by simp; omega) (by simp; omega)]
  have : List.zipWith (· ^^^ ·) (List.zipWith (· ^^^ ·) (a.take n) (b.take n)) (c.take n) = x3 a b c n := rfl
  rw [this]
  simp only [decide_true, cond_true]
  exact B13_law _ h

/-! Runs. -/

theorem bitsL_get : ∀ (l : List By) (k : Nat) (hk : k < 8 * l.length), (bitsL l)[k]? = some ((l[k / 8]'(by omega)).getLsbD (k % 8))
  | [], k, hk => by simp at hk
  | b :: l, k, hk => by
    have hb := bitsB_length b
    simp only [bitsL, List.flatMap_cons]
    by_cases h8 : k < 8
    · rw [List.getElem?_append_left (by omega)]
      have h1 : k / 8 = 0 := by omega
      have h2 : k % 8 = k := by omega
      simp [h1, h2, bitsB, h8]
    · rw [List.getElem?_append_right (by omega), hb]
      simp only [List.length_cons] at hk
      have ih := bitsL_get l (k - 8) (by omega)
      simp only [bitsL] at ih
      rw [ih]
      have h1 : k / 8 = (k - 8) / 8 + 1 := by omega
      have h2 : k % 8 = (k - 8) % 8 := by omega
      simp only [h1, h2, List.getElem_cons_succ]

theorem flip_bit (b : By) (j i : Nat) (hj : j < 8) : (b ^^^ (1#8 <<< j)).getLsbD i = if i = j then !b.getLsbD i else b.getLsbD i := by
  rw [BitVec.getLsbD_xor]
  by_cases h : i = j
  · subst h; simp [hj]
  · rw [if_neg h]
    have : (1#8 <<< j).getLsbD i = false := by
      rw [BitVec.getLsbD_shiftLeft]
      by_cases h8 : i < 8
      · simp [h8]
        intro hji
        omega
      · simp [h8]
    rw [this]; simp

theorem bitsL_flip (l p xs : List _) (x : Bool) (k : Nat) (hk : k < 8 * l.length) (h : bitsL l = p ++ x :: xs) (hp : p.length = k) :
    bitsL (l.set (k / 8) ((l[k / 8]'(by omega)) ^^^ (1#8 <<< (k % 8)))) = p ++ (!x) :: xs := by
  have h8 : k % 8 < 8 := Nat.mod_lt _ (by decide)
  have hx : x = (l[k / 8]'(by omega)).getLsbD (k % 8) := by
    have := bitsL_get l k hk
    rw [h, List.getElem?_append_right (by omega), hp] at this
    simpa using this
  apply List.ext_getElem?
  intro i
  have hlen : (bitsL l).length = 8 * l.length := bitsL_length l
  by_cases hi : i < 8 * l.length
  · rw [bitsL_get _ _ (by simpa using hi)]
    have h0 := bitsL_get l i hi
    rw [h] at h0
    rw [List.getElem_set]
    by_cases hik : i = k
    · subst hik
      rw [if_pos rfl, flip_bit _ _ _ h8, if_pos rfl, ← hx, List.getElem?_append_right (by omega), hp]
      simp
    · have e : (p ++ (!x) :: xs)[i]? = (p ++ x :: xs)[i]? := by
        rcases Nat.lt_or_ge i k with hl | hl
        · rw [List.getElem?_append_left (by omega), List.getElem?_append_left (by omega)]
        · rw [List.getElem?_append_right (by omega), List.getElem?_append_right (by omega)]
          have : i - p.length = (i - p.length - 1) + 1 := by omega
          rw [this]; simp
      rw [e, h0]
      by_cases hq : k / 8 = i / 8
      · rw [if_pos hq, flip_bit _ _ _ h8, if_neg (by omega)]
        simp only [hq]
      · rw [if_neg hq]
  · have a1 : (bitsL (l.set (k / 8) ((l[k / 8]'(by omega)) ^^^ (1#8 <<< (k % 8))))).length ≤ i := by rw [bitsL_length]; simp; omega
    have a2 : (p ++ (!x) :: xs).length ≤ i := by
      have := congrArg List.length h
      simp at this ⊢; omega
    rw [List.getElem?_eq_none a1, List.getElem?_eq_none a2]

def tb (t : BitVec 32) : List Bool := (List.range 32).map t.getLsbD
theorem tb_length (t : BitVec 32) : (tb t).length = 32 := by simp [tb]
/-- the bits that are turned from round i on, of a place first, in so many bits -/
def win (t : BitVec 32) (first n i : Nat) : List Bool := ((tb t).drop i).take (n - (first + i))

theorem bit_of32 (b : BitVec 32) (k : Nat) (hk : k < 32) : decide ((bitsW .and .u32 (Int.fdiv ((b.toNat : Nat) : Int) (2 ^ (min (Int.toNat (IntKind.wrap .u64 (k : Int))) 32))) 1) = 1) = b.getLsbD k := by
  have h1 : IntKind.wrap .u64 (k : Int) = (k : Int) := by rw [wu64]; omega
  have h2 : min (Int.toNat (k : Int)) 32 = k := by simp; omega
  rw [h1, h2, fdiv_pow]
  have h3 : ((b.toNat >>> k : Nat) : Int) = (((b >>> k).toNat : Nat) : Int) := by simp
  rw [h3, low32]
  simp

theorem pow8 (j : Nat) (hj : j < 8) : IntKind.wrap .u8 (1 * (2 : Int) ^ (min (Int.toNat (IntKind.wrap .u64 (j : Int))) 8)) = ((1#8 <<< j).toNat : Int) := by
  have h1 : IntKind.wrap .u64 (j : Int) = (j : Int) := by rw [wu64]; omega
  have h2 : min (Int.toNat (j : Int)) 8 = j := by simp; omega
  rw [h1, h2, wu8]
  have : j = 0 ∨ j = 1 ∨ j = 2 ∨ j = 3 ∨ j = 4 ∨ j = 5 ∨ j = 6 ∨ j = 7 := by omega
  rcases this with rfl | rfl | rfl | rfl | rfl | rfl | rfl | rfl <;> rfl

theorem runs_loop (l : List By) (hl : l.length ≤ 1000) (hl0 : 0 < l.length) (t : BitVec 32) (first : Nat) (hf : first < 8 * l.length) (k0 : Bool → Int → List PV → Prop) : ∀ (m i : Nat) (c : List By) (p xs : List Bool) (ch : Bool),
    i + m = 32 → bitsL c = p ++ xs → p.length = first + i → c.length = l.length + 4 →
    (∀ (j : Int) (c' : List By), bitsL c' = p ++ Crc.xp (win t first (8 * l.length) i) xs → c'.length = l.length + 4 → k0 (ch || (win t first (8 * l.length) i).any id) j (bys c')) →
    R5_10 (bys l) (t.toNat : Int) (l.length + 4) (first : Int) k0 (m + 1) ch (i : Int) (bys c)
  | 0, i, c, p, xs, ch, hi, hc, hp, hcl, h => by
    have : i = 32 := by omega
    subst this
    rw [R5_10, S5_10]
    have e : win t first (8 * l.length) 32 = [] := by unfold win; rw [List.drop_eq_nil_of_le (by rw [tb_length]; omega), List.take_nil]
    rw [e] at h
    simpa using h 32 c hc hcl
  | m + 1, i, c, p, xs, ch, hi, hc, hp, hcl, h => by
    have hi32 : i < 32 := by omega
    rw [R5_10, S5_10]
    have h1 : decide ((i : Int) < 32) = true := by simp; omega
    have h2 : IntKind.wrap .i64 ((first : Int) + (i : Int)) = ((first + i : Nat) : Int) := by rw [w64 (by omega) (by omega)]; omega
    have h3 : IntKind.wrap .i64 ((i : Int) + 1) = ((i + 1 : Nat) : Int) := by rw [w64 (by omega) (by omega)]; omega
    have h4 : IntKind.wrap .i64 (8 * Int.ofNat (bys l).length) = ((8 * l.length : Nat) : Int) := by
      rw [bys_length]; simp only [Int.ofNat_eq_natCast]; rw [w64 (by omega) (by omega)]; omega
    rw [h1, h2, h3, h4]
    by_cases hin : first + i < 8 * l.length
    · have h5 : decide (((first + i : Nat) : Int) < ((8 * l.length : Nat) : Int)) = true := by simp; omega
      rw [h5, bit_of32 t i hi32]
      have hw : win t first (8 * l.length) i = t.getLsbD i :: win t first (8 * l.length) (i + 1) := by
        unfold win
        rw [List.drop_eq_getElem_cons (by rw [tb_length]; omega)]
        have : 8 * l.length - (first + i) = 8 * l.length - (first + (i + 1)) + 1 := by omega
        rw [this, List.take_succ_cons]
        simp [tb]
      have hxs : xs ≠ [] := fun e => by
        have := congrArg List.length hc
        rw [e, bitsL_length] at this
        simp at this; omega
      obtain ⟨x, xs, rfl⟩ := List.exists_cons_of_ne_nil hxs
      refine ⟨by rw [wu64]; omega, ?_⟩
      cases hb : t.getLsbD i with
      | true =>
        have hk : first + i < 8 * c.length := by omega
        have hq : (first + i) / 8 < c.length := by omega
        have fl := bitsL_flip c p xs x (first + i) hk hc hp
        have ih := runs_loop l hl hl0 t first hf k0 m (i + 1) _ (p ++ [!x]) xs true (by omega) (by rw [fl]; simp) (by simp; omega) (by simpa using hcl) (fun j c' hc' hl' => by
          have := h j c' (by rw [hc', hw, hb]; simp [Crc.xp]) hl'
          rw [hw, hb] at this
          simpa using this)
        have d1 : IntKind.wrap .i64 (Int.tdiv ((first + i : Nat) : Int) 8) = (((first + i) / 8 : Nat) : Int) := by
          rw [Int.tdiv_eq_ediv_of_nonneg (by omega), w64 (by omega) (by omega)]; omega
        have d2 : Int.tmod ((first + i : Nat) : Int) 8 = (((first + i) % 8 : Nat) : Int) := tmod_nat _ 8
        show _ ∧ _
        rw [d1, d2, pow8 _ (Nat.mod_lt _ (by decide))]
        rw [show (0 + Int.toNat (((first + i) / 8 : Nat) : Int)) = (first + i) / 8 by rw [Int.toNat_natCast, Nat.zero_add]]
        refine ⟨by decide, by omega, by simp; omega, elem_bys hq ?_⟩
        show _ ∧ _
        rw [xor8]
        refine ⟨by decide, by rw [wu64]; omega, by omega, by simp; omega, elem_bys hq ?_⟩
        have e : List.set (bys c) ((first + i) / 8) (.int .u8 ((c[(first + i) / 8] ^^^ 1#8 <<< ((first + i) % 8)).toNat : Int)) = bys (c.set ((first + i) / 8) (c[(first + i) / 8] ^^^ 1#8 <<< ((first + i) % 8))) := by simp [bys, List.map_set]
        rw [e]
        exact ih
      | false =>
        exact runs_loop l hl hl0 t first hf k0 m (i + 1) c (p ++ [x]) xs ch (by omega) (by rw [hc]; simp) (by simp; omega) hcl (fun j c' hc' hl' => by
          have := h j c' (by rw [hc', hw, hb]; simp [Crc.xp]) hl'
          rw [hw, hb] at this
          simpa using this)
    · have h5 : decide (((first + i : Nat) : Int) < ((8 * l.length : Nat) : Int)) = false := by simp; omega
      rw [h5]
      have e : win t first (8 * l.length) i = [] := by unfold win; rw [show 8 * l.length - (first + i) = 0 by omega]; rfl
      rw [e] at h
      have := h (i : Int) c hc hcl
      simpa using this

theorem xp_zip : ∀ (a b : List Bool), a.length ≤ b.length → Crc.xp a b = List.zipWith (· ^^ ·) (a ++ List.replicate (b.length - a.length) false) b
  | [], b, _ => by
    simp [Crc.xp]
    induction b with
    | nil => rfl
    | cons x b ih => simp [List.replicate_succ, ← ih (by simp)]
  | x :: a, [], h => by simp at h
  | x :: a, y :: b, h => by
    simp only [List.length_cons] at h
    simp only [Crc.xp, List.cons_append, List.zipWith_cons_cons, List.length_cons]
    rw [xp_zip a b (by omega)]
    congr 3
    simp

theorem zip_false : ∀ (p : List Bool), List.zipWith (· ^^ ·) (List.replicate p.length false) p = p
  | [] => rfl
  | x :: p => by simp [List.replicate_succ, zip_false p]

theorem le4_inj (a b : BitVec 32) (h : le4 a = le4 b) : a = b := by
  have hh : ∀ j, j < 4 → (a >>> (8 * j)).setWidth 8 = (b >>> (8 * j)).setWidth 8 := fun j hj => by
    have := congrArg (fun l => l[j]?) h
    simpa [le4, hj] using this
  apply BitVec.eq_of_getLsbD_eq
  intro i hi
  have h1 := hh (i / 8) (by omega)
  have h2 := congrArg (fun x : By => x.getLsbD (i % 8)) h1
  simp only [BitVec.getLsbD_setWidth, BitVec.getLsbD_ushiftRight] at h2
  have h3 : i % 8 < 8 := Nat.mod_lt _ (by decide)
  have h4 : 8 * (i / 8) + i % 8 = i := by omega
  rw [h4] at h2
  simpa [h3] using h2

theorem bitsB_inj (a b : By) (h : bitsB a = bitsB b) : a = b := by
  apply BitVec.eq_of_getLsbD_eq
  intro i hi
  have := congrArg (fun l => l[i]?) h
  simpa [bitsB, hi] using this
theorem bitsL_inj : ∀ (a b : List By), bitsL a = bitsL b → a = b
  | [], [], _ => rfl
  | [], y :: b, h => by have := congrArg List.length h; rw [bitsL_length, bitsL_length] at this; simp at this
  | x :: a, [], h => by have := congrArg List.length h; rw [bitsL_length, bitsL_length] at this; simp at this
  | x :: a, y :: b, h => by
    simp only [bitsL, List.flatMap_cons] at h
    obtain ⟨h1, h2⟩ := List.append_inj h (by simp [bitsB_length])
    rw [bitsB_inj x y h1, bitsL_inj a b h2]

theorem bitsL_append (a b : List By) : bitsL (a ++ b) = bitsL a ++ bitsL b := by simp [bitsL]

/-- A run of turned bits is seen. -/
theorem runs_core (l : List By) (t : BitVec 32) (first : Nat) (hf : first < 8 * l.length) (c : List By) (hc : c.length = l.length + 4)
    (hb : ∀ p xs, bitsL (puts l) = p ++ xs → p.length = first → bitsL c = p ++ Crc.xp (win t first (8 * l.length) 0) xs) :
    c.drop l.length = le4 (more 0#32 l) ∧ (more 0#32 (c.take l.length) = more 0#32 l ↔ (win t first (8 * l.length) 0).any id = false) ∧ ((win t first (8 * l.length) 0).any id = false → c.take l.length = l) := by
  generalize hw : win t first (8 * l.length) 0 = w at hb ⊢
  have wl : w.length ≤ 32 := by rw [← hw]; unfold win; simp [tb_length]; omega
  have wl2 : first + w.length ≤ 8 * l.length := by rw [← hw]; unfold win; simp [tb_length]; omega
  have bl : (bitsL l).length = 8 * l.length := bitsL_length l
  have hb' := hb ((bitsL l).take first) ((bitsL l).drop first ++ bitsL (le4 (more 0#32 l))) (by
    unfold puts; rw [bitsL_append, ← List.append_assoc, List.take_append_drop]) (by simp [bl]; omega)
  have xpa : Crc.xp w ((bitsL l).drop first ++ bitsL (le4 (more 0#32 l))) = Crc.xp w ((bitsL l).drop first) ++ bitsL (le4 (more 0#32 l)) := by
    have : ∀ (w a b : List Bool), w.length ≤ a.length → Crc.xp w (a ++ b) = Crc.xp w a ++ b := by
      intro w
      induction w with
      | nil => intro a b _; rfl
      | cons x w ih =>
        intro a b h
        cases a with
        | nil => simp at h
        | cons y a => simp only [List.length_cons] at h; simp only [List.cons_append, Crc.xp, ih a b (by omega)]
    exact this _ _ _ (by simp [bl]; omega)
  rw [xpa, ← List.append_assoc] at hb'
  have hsplit : bitsL (c.take l.length) ++ bitsL (c.drop l.length) = ((bitsL l).take first ++ Crc.xp w ((bitsL l).drop first)) ++ bitsL (le4 (more 0#32 l)) := by
    rw [← bitsL_append, List.take_append_drop]; exact hb'
  obtain ⟨e1, e2⟩ := List.append_inj hsplit (by rw [bitsL_length]; simp [Crc.xp_length, bl]; omega)
  have e3 : c.drop l.length = le4 (more 0#32 l) := bitsL_inj _ _ e2
  have mask : bitsL (c.take l.length) = List.zipWith (· ^^ ·) (List.replicate first false ++ w ++ List.replicate (8 * l.length - first - w.length) false) (bitsL l) := by
    rw [e1, xp_zip w _ (by simp [bl]; omega)]
    have h1 : ((bitsL l).take first).length = first := by simp [bl]; omega
    have h2 := zip_false ((bitsL l).take first)
    rw [h1] at h2
    have h3 : bitsL l = (bitsL l).take first ++ (bitsL l).drop first := (List.take_append_drop _ _).symm
    conv => rhs; rw [h3, List.append_assoc, List.zipWith_append (by simp [bl]; omega)]
    rw [h2]
    congr 3
    simp [bl]
  have nochange : w.any id = false → c.take l.length = l := by
    intro hn
    apply bitsL_inj
    rw [mask]
    have hall : w = List.replicate w.length false := by
      apply List.eq_replicate_iff.2 ⟨rfl, fun b hb => ?_⟩
      cases b with
      | false => rfl
      | true => have := List.any_eq_false.1 hn true hb; simp at this
    rw [hall]
    have : List.replicate first false ++ List.replicate w.length false ++ List.replicate (8 * l.length - first - (List.replicate w.length false).length) false = List.replicate (bitsL l).length false := by
      rw [List.length_replicate, List.replicate_append_replicate, List.replicate_append_replicate, bl]
      congr 1; omega
    rw [this, zip_false]
  refine ⟨e3, ⟨fun h => ?_, fun h => by rw [nochange h]⟩, nochange⟩
  cases hn : w.any id with
  | false => rfl
  | true =>
    exfalso
    have ht : true ∈ w := by
      obtain ⟨x, hx, hx2⟩ := List.any_eq_true.1 hn
      simp at hx2; subst hx2; exact hx
    have hne := Crc.run_burst first (8 * l.length - first - w.length) w wl ht
    unfold more at h
    rw [mask] at h
    have r := Crc.run_xor (List.replicate first false ++ w ++ List.replicate (8 * l.length - first - w.length) false) (bitsL l) 0#32 (~~~ 0#32) (by simp [bl]; omega)
    rw [BitVec.zero_xor] at r
    rw [r] at h
    generalize Crc.run 0#32 (List.replicate first false ++ w ++ List.replicate (8 * l.length - first - w.length) false) = d at h hne
    apply hne
    have h' : d ^^^ Crc.run (~~~ 0#32) (bitsL l) = Crc.run (~~~ 0#32) (bitsL l) := by
      have := congrArg (fun x => ~~~ x) h
      simpa using this
    have := congrArg (· ^^^ Crc.run (~~~ 0#32) (bitsL l)) h'
    simpa [BitVec.xor_assoc] using this

theorem B5_law (b : List By) (at_ : Nat) (ha : at_ < 65536) (t : BitVec 32) (k : Bool → Prop) (h : k true) : B5 (bys b) (at_ : Int) (t.toNat : Int) k := by
  unfold B5
  refine B9_law b _ ?_
  have hb := cut_le b
  generalize cut1000 b = l at hb ⊢
  have w := B13_law k h
  by_cases h0 : l.length = 0
  · have e : decide ((Int.ofNat (bys l).length) = 0) = true := by simp [h0]
    rw [e]; exact w
  have e : decide ((Int.ofNat (bys l).length) = 0) = false := by simpa using h0
  rw [e]
  refine B16_law l (by omega) _ ?_
  have e1 : IntKind.wrap .i64 (Int.ofNat (bys l).length + 4) = ((l.length + 4 : Nat) : Int) := by
    rw [bys_length]; simp only [Int.ofNat_eq_natCast]; rw [w64 (by omega) (by omega)]; omega
  have e2 : IntKind.wrap .i64 (8 * Int.ofNat (bys l).length) = ((8 * l.length : Nat) : Int) := by
    rw [bys_length]; simp only [Int.ofNat_eq_natCast]; rw [w64 (by omega) (by omega)]; omega
  have e3 : IntKind.wrap .i64 (at_ : Int) = (at_ : Int) := w64 (by omega) (by omega)
  rw [e1, e2, e3, tmod_nat]
  have e4 : (!decide (Int.ofNat (l.length + 4) = ((l.length + 4 : Nat) : Int))) = false := by simp
  rw [e4]
  have hf : at_ % (8 * l.length) < 8 * l.length := Nat.mod_lt _ (by omega)
  generalize at_ % (8 * l.length) = first at hf ⊢
  refine ⟨by omega, 33, ?_⟩
  have pl := puts_length l
  have bpl : (bitsL (puts l)).length = 8 * l.length + 32 := by rw [bitsL_length, pl]; omega
  refine runs_loop l hb (by omega) t first hf _ 32 0 (puts l) ((bitsL (puts l)).take first) ((bitsL (puts l)).drop first) false rfl (List.take_append_drop _ _).symm (by simp [bpl]; omega) pl ?_
  intro j c hc hcl
  obtain ⟨c1, c2, c3⟩ := runs_core l t first hf c hcl (fun p xs he hp => by
    have h1 : (bitsL (puts l)).take first = p := by rw [he, ← hp]; simp
    have h2 : (bitsL (puts l)).drop first = xs := by rw [he, ← hp]; simp
    rw [hc, h1, h2])
  rw [Bool.false_or]
  generalize (win t first (8 * l.length) 0).any id = ch at c2 c3 ⊢
  have hbody : body c = c.take l.length := by unfold body; rw [hcl]; rfl
  have hcs : c = c.take l.length ++ le4 (more 0#32 l) := by rw [← c1, List.take_append_drop]
  have hg : gets c = !ch := by
    unfold gets puts
    rw [hbody]
    have : decide (4 ≤ c.length) = true := by simp; omega
    rw [this, Bool.true_and]
    cases ch with
    | false =>
      rw [c3 rfl]
      have h5 := c3 rfl
      simp only [Bool.not_false, decide_eq_true_eq]
      rw [hcs, h5]
    | true =>
      simp only [Bool.not_true, decide_eq_false_iff_not]
      intro he
      rw [hcs] at he
      have h5 : (List.take l.length (List.take l.length c ++ le4 (more 0#32 l))) = List.take l.length c := by rw [← hcs]
      rw [h5] at he
      have h6 := le4_inj _ _ (List.append_cancel_left he)
      have := c2.1 h6
      cases this
  have tl : (c.take l.length).length = l.length := by simp; omega
  have rp : rowPart (bys c) 0 (l.length + 4) = bys c := rowPart_all _ _ (by simp; omega)
  have rt : rowPart (bys c) 0 ((bys l).length - 0) = bys (c.take l.length) := by simp [rowPart, bys]
  refine ⟨by decide, by simp, by simp; omega, by simp; omega, ?_⟩
  rw [rp]
  have rest : ∀ r : Bool, r = !ch → cond (!(r == ch)) (0 + ((bys l).length - 0) ≤ (bys c).length ∧ B10 (rowPart (bys c) 0 ((bys l).length - 0)) (fun r0_249 => B10 (bys l) (fun r0_250 => cond ((!decide (r0_249 = r0_250)) == ch) (B13 (fun r0_251 => k r0_251)) (k false)))) (k false) := by
    intro r hr
    have : (!(r == ch)) = true := by subst hr; cases ch <;> rfl
    rw [this]
    refine ⟨by simp; omega, ?_⟩
    rw [rt]
    refine B10_law _ (by omega) _ (B10_law l (by omega) _ ?_)
    have : ((!decide (((more 0#32 (c.take l.length)).toNat : Int) = ((more 0#32 l).toNat : Int))) == ch) = true := by
      cases ch with
      | false => rw [c3 rfl]; simp
      | true =>
        have h6 : ¬ more 0#32 (c.take l.length) = more 0#32 l := fun he => by have := c2.1 he; cases this
        have h7 : ¬ ((more 0#32 (c.take l.length)).toNat : Int) = ((more 0#32 l).toNat : Int) := fun he => h6 (BitVec.eq_of_toNat_eq (by exact_mod_cast he))
        simp [h7]
    rw [this]
    exact w
  refine B14_law c (by omega) _ _ (fun g => ?_) (fun g h4 => by omega) (fun g => ?_)
  · exact rest false (by rw [hg] at g; exact g.symm)
  · exact rest true (by rw [hg] at g; exact g.symm)
end Pv
