/- Plain laws of the store: writes, whatever they are; Open. -/
import Derived.Test.YthdpkcolbgoecaaSlA
import Derived.Sort.Walk0

namespace Pv
open Go

/-- A write, whatever it is. -/
def Dev.writeG (d : Dev) (p : Int) (b : List By) : Int × Dev :=
  if mayR d.S.length d.off p (secN b.length) ≠ 0 then (mayR d.S.length d.off p (secN b.length), d) else d.write p.toNat b
structure Dev.Ok (d : Dev) : Prop where
  len : d.S.length ≤ 700
  secs : Secs d.S
  wh : d.wh ≤ 1000000
  ke : d.ke ≤ 1000000
  wr : d.wr ≤ 1000000
theorem may_zero {n : Nat} {off : Bool} {p m : Int} (h : mayR n off p m = 0) : off = false ∧ 1 ≤ m ∧ 0 ≤ p ∧ p + m ≤ n := by
  unfold mayR at h
  split at h
  · cases h
  · split at h
    · cases h
    · rename_i h1 h2
      simp only [not_or] at h2
      cases off with
      | true => cases h
      | false => exact ⟨rfl, by omega, by omega, by omega⟩
theorem write_len (d : Dev) (p : Nat) (b : List By) : (d.write p b).2.S.length = d.S.length := by
  unfold Dev.write
  split <;> exact putS_length _ _ _
theorem B21_g (d : Dev) (hd : d.Ok) (b : List By) (hb : b.length ≤ 100000000) (p : Int)
    (k : Int → Nat → Bool → Bool → Int → Int → Int → List PV → Prop)
    (h : k (d.writeG p b).1 (d.writeG p b).2.S.length (d.writeG p b).2.off (d.writeG p b).2.cut (d.writeG p b).2.wh (d.writeG p b).2.ke (d.writeG p b).2.wr ((d.writeG p b).2.S.map sec)) :
    B21 p (bys b) d.S.length d.off d.cut d.wh d.ke d.wr (d.S.map sec) k := by
  have hl := hd.len
  unfold Dev.writeG at h
  by_cases h0 : mayR d.S.length d.off p (secN b.length) = 0
  · rw [if_neg (by simpa using h0)] at h
    obtain ⟨h1, h2, h3, h4⟩ := may_zero h0
    obtain ⟨q, rfl⟩ : ∃ q : Nat, p = q := ⟨p.toNat, by omega⟩
    rw [Int.toNat_natCast, write_len] at h
    refine B21_law d (by omega) b hb (fun e => ?_) q h1 (by omega) hd.ke (by have := hd.wr; omega) hd.wh k h
    subst e
    simp [secN] at h2
  · rw [if_pos h0] at h
    unfold B21
    rw [bys_length]
    have hsn := secN_int b.length (by omega)
    rw [show Int.ofNat b.length = (b.length : Int) from rfl, hsn]
    exact ⟨by decide, B44_law _ _ _ _ _ _ _ _ _ (by omega) _ (cond_t (by simpa using h0) h)⟩
theorem write_ok {d : Dev} (hd : d.Ok) (hwr : d.wr < 1000000) (p : Nat) (b : List By) : (d.write p b).2.Ok ∧ (d.write p b).2.S.length = d.S.length := by
  unfold Dev.write
  split
  · exact ⟨⟨by simpa [putS_length] using hd.len, putS_secs _ _ _ hd.secs (fun c hc => partsF_le _ b c (List.mem_of_mem_take hc)), hd.wh, hd.ke, hwr⟩, putS_length _ _ _⟩
  · refine ⟨⟨by simpa [putS_length] using hd.len, putS_secs _ _ _ hd.secs (partsF_le _ b), ?_, hd.ke, hwr⟩, putS_length _ _ _⟩
    have := hd.wh
    simp only
    split <;> omega
theorem writeG_ok {d : Dev} (hd : d.Ok) (hwr : d.wr < 1000000) (p : Int) (b : List By) : (d.writeG p b).2.Ok ∧ (d.writeG p b).2.S.length = d.S.length := by
  unfold Dev.writeG
  split
  · exact ⟨hd, rfl⟩
  · exact write_ok hd hwr _ b
theorem writeG_wr (d : Dev) (p : Int) (b : List By) : (d.writeG p b).2.wr ≤ d.wr + 1 := by
  unfold Dev.writeG Dev.write
  split
  · exact Nat.le_succ _
  · split <;> exact Nat.le_refl _

/-! Open. -/
def newer (n : Nat) (x y : List By) : Nm × Nat :=
  if (nameOf n y).number > (nameOf n x).number then (nameOf n y, 1) else if (nameOf n x).number > 0 then (nameOf n x, 0) else (.zero, 1)
def rawImg (S : List (List By)) (m : Nm) : List By := (readR S m.first (secN m.long)).take m.long
inductive OpenR where
  | err (e : Nat)
  | ok (s : Sto)
def openN (S : List (List By)) (m : Nm) (p : Nat) : OpenR :=
  if m.number = 0 then .ok ⟨m, p, 0, false, []⟩
  else if more 0#32 (rawImg S m) ≠ m.sum then .err 4
  else match stateR (rawImg S m) with
    | none => .err 4
    | some pm => .ok ⟨m, p, m.number, false, pm⟩
def openR (d : Dev) : OpenR :=
  if d.S.length = 0 then .err 1 else if d.S.length ≤ 2 then .err 2 else if d.off = true then .err 36
  else openN d.S (newer d.S.length (d.S.getD 0 []) (d.S.getD 1 [])).1 (newer d.S.length (d.S.getD 0 []) (d.S.getD 1 [])).2

theorem nameOf_fits (n : Nat) (l : List By) : (nameOf n l).number = 0 ∧ nameOf n l = .zero ∨ (nameOf n l).good n l := by
  unfold nameOf
  split
  · rename_i h; exact .inr h
  · exact .inl ⟨rfl, rfl⟩
theorem zero_fits (n : Nat) : Nm.zero.first + secN Nm.zero.long ≤ n ∧ Nm.zero.long ≤ n * 128 := ⟨by simp [Nm.zero, secN], by simp [Nm.zero]⟩
theorem nameOf_in (n : Nat) (l : List By) : (nameOf n l).first + secN (nameOf n l).long ≤ n ∧ (nameOf n l).long ≤ n * 128 ∧ (nameOf n l).number ≤ mostN := by
  rcases nameOf_fits n l with ⟨-, h⟩ | h
  · rw [h]; exact ⟨(zero_fits n).1, (zero_fits n).2, by decide⟩
  · exact ⟨h.2.2.2.2.2.2.1, h.1, h.2.2.2.1⟩
theorem newer_in (n : Nat) (x y : List By) : (newer n x y).1.first + secN (newer n x y).1.long ≤ n ∧ (newer n x y).1.long ≤ n * 128 ∧ (newer n x y).1.number ≤ mostN ∧ ((newer n x y).1.number ≠ 0 → 1 ≤ secN (newer n x y).1.long) := by
  have pos : ∀ l, (nameOf n l).number ≠ 0 → 1 ≤ secN (nameOf n l).long := by
    intro l h
    rcases nameOf_fits n l with ⟨h1, -⟩ | h1
    · exact absurd h1 h
    · have := h1.2.2.2.2.2.1
      unfold secN; omega
  unfold newer
  split
  · exact ⟨(nameOf_in n y).1, (nameOf_in n y).2.1, (nameOf_in n y).2.2, pos y⟩
  · split
    · exact ⟨(nameOf_in n x).1, (nameOf_in n x).2.1, (nameOf_in n x).2.2, pos x⟩
    · exact ⟨(zero_fits n).1, (zero_fits n).2, by decide, fun h => absurd rfl h⟩
theorem readR_length (S : List (List By)) (hS : Secs S) (p m : Nat) (h : p + m ≤ S.length) : (readR S p m).length = 128 * m := by
  unfold readR
  have hk : ∀ T : List (List By), Secs T → T.flatten.length = 128 * T.length := by
    intro T
    induction T with
    | nil => intro _; rfl
    | cons x r ih =>
      intro hT
      rw [List.flatten_cons, List.length_append, ih (fun s hs => hT s (by simp [hs])), hT x (by simp), List.length_cons]
      omega
  rw [hk _ (fun s hs => hS s (List.mem_of_mem_drop (List.mem_of_mem_take hs)))]
  simp; omega

theorem J7_19_law (d : Dev) (hd : d.Ok) (x : Nm) (hx : x.first + secN x.long ≤ d.S.length) (hx2 : x.long ≤ d.S.length * 128) (hx0 : x.number ≠ 0) (p : Nat) (a1 : Int) (a2 : Int) (a3 : Bool) (a4 : List PV) (k0 : Int → Prop) (k1 : List PV → Prop)
    (h0 : openN d.S x p = .err 4 → k0 4) (h1 : ∀ pm, openN d.S x p = .ok ⟨x, p, x.number, false, pm⟩ → k1 (enc pm)) :
    J7_19 (bys (readR d.S x.first (secN x.long))) 0 d.S.length d.off d.cut d.wh d.ke d.wr (d.S.map sec) x.number x.first x.long x.sum.toNat a1 a2 a3 a4 k0 k1 := by
  unfold J7_19
  simp only [cj_eq, cj2, cond_true, cond_false, and_self]
  have hl := hd.len
  have hlen := readR_length d.S hd.secs x.first (secN x.long) hx
  have h128 : x.long ≤ 128 * secN x.long := by unfold secN; omega
  refine cond_f (by decide) ⟨Int.le_refl _, by omega, ?_, ?_⟩
  · rw [bys_length, hlen]; simp; omega
  · have e : cutL (bys (readR d.S x.first (secN x.long))) 0 (Int.toNat (x.long : Int)) = bys (rawImg d.S x) := by
      rw [cutL_bys, Int.toNat_natCast, List.drop_zero]; rfl
    rw [e]
    have hraw : (rawImg d.S x).length ≤ 100000 := by
      unfold rawImg
      rw [List.length_take]; omega
    unfold openN at h0 h1
    rw [if_neg hx0] at h0 h1
    refine B27_law _ hraw _ ?_
    by_cases hs : more 0#32 (rawImg d.S x) = x.sum
    · rw [if_neg (by simpa using hs)] at h0 h1
      refine cond_f (by rw [hs]; simp) ?_
      unfold J7_24
      refine B28_law _ (by omega) _ _ (fun e => h0 (by rw [e])) (fun m e => h1 m (by rw [e]))
    · rw [if_pos hs] at h0
      refine cond_t ?_ (h0 rfl)
      have : ¬ ((more 0#32 (rawImg d.S x)).toNat : Int) = (x.sum.toNat : Int) := fun h => hs (BitVec.eq_of_toNat_eq (by omega))
      simp [this]

theorem B7_law (d : Dev) (hd : d.Ok) (k0 : Int → Nat → Bool → Bool → Int → Int → Int → List PV → Prop) (k1 : Nat → Bool → Bool → Int → Int → Int → List PV → Int → Int → Int → Int → Int → Int → List PV → Prop)
    (h0 : ∀ e, openR d = .err e → k0 e d.S.length d.off d.cut d.wh d.ke d.wr (d.S.map sec))
    (h1 : ∀ s, openR d = .ok s → k1 d.S.length d.off d.cut d.wh d.ke d.wr (d.S.map sec) s.now.number s.now.first s.now.long s.now.sum.toNat s.place s.top (enc s.m)) : B7 d.S.length d.off d.cut d.wh d.ke d.wr (d.S.map sec) k0 k1 := by
  have hl := hd.len
  unfold B7 B23
  unfold openR at h0 h1
  by_cases ha : d.S.length = 0
  · rw [if_pos ha] at h0
    exact cond_t (by simp [ha]) (h0 1 rfl)
  rw [if_neg ha] at h0 h1
  refine cond_f (decide_eq_false (show ¬ ((d.S.length : Int) = 0) by omega)) ?_
  by_cases hb : d.S.length ≤ 2
  · rw [if_pos hb] at h0
    exact cond_t (decide_eq_true (show ((d.S.length : Int) ≤ 2) by omega)) (h0 2 rfl)
  rw [if_neg hb] at h0 h1
  refine cond_f (decide_eq_false (show ¬ ((d.S.length : Int) ≤ 2) by omega)) ⟨3, ?_⟩
  rw [R7_7]
  unfold S7_7
  simp only [cj_eq, cj2, cond_true, cond_false, and_self]
  refine cond_t (by decide) ?_
  refine B24_law d hd.secs (by omega) 0 (by omega) _ (fun ho => ?_) (fun ho => ?_)
  · rw [if_pos ho] at h0
    exact cond_t (by decide) (h0 36 rfl)
  rw [if_neg (by simp [ho])] at h0 h1
  refine cond_f (by decide) ?_
  have e0 : d.S.getD 0 [] = d.S[0] := by simp [List.getD, List.getElem?_eq_getElem (show 0 < d.S.length by omega)]
  have e1 : d.S.getD 1 [] = d.S[1] := by simp [List.getD, List.getElem?_eq_getElem (show 1 < d.S.length by omega)]
  rw [e0, e1] at h0 h1
  -- one round more, with what was found
  have round : ∀ (x : Nm) (p : Nat), (x = nameOf d.S.length d.S[0] ∧ p = 0 ∧ x.number > 0) ∨ ((nameOf d.S.length d.S[0]).number = 0 ∧ x = .zero ∧ p = 1) →
      R7_7 0 false [] (fun t3 y0 y1 y2 y3 y4 y5 y6 => k0 t3 y0 y1 y2 y3 y4 y5 y6) (fun t22 y0 y1 y2 y3 y4 y5 y6 z0 z1 z2 z3 z4 => cond (decide (z0 = 0)) (k1 y0 y1 y2 y3 y4 y5 y6 z0 z1 z2 z3 z4 z0 [])
        (B26 z2 fun r0 => B25 z1 r0 y0 y1 y2 y3 y4 y5 y6 fun r0 r1 q0 q1 q2 q3 q4 q5 q6 => J7_19 r0 r1 q0 q1 q2 q3 q4 q5 q6 z0 z1 z2 z3 z4 z0 false [] (fun t3 => k0 t3 q0 q1 q2 q3 q4 q5 q6) fun x3 => k1 q0 q1 q2 q3 q4 q5 q6 z0 z1 z2 z3 z4 z0 x3)) 2 1 d.S.length d.off d.cut d.wh d.ke d.wr (d.S.map sec) x.number x.first x.long x.sum.toNat p := by
    intro x p hx
    rw [R7_7]
    unfold S7_7
    simp only [cj_eq, cj2, cond_true, cond_false, and_self]
    refine cond_t (by decide) ?_
    refine B24_law d hd.secs (by omega) 1 (by omega) _ (fun h => absurd h (by simp [ho])) (fun _ => ?_)
    refine cond_f (by decide) ?_
    have last : ∀ (x : Nm) (p : Nat), newer d.S.length d.S[0] d.S[1] = (x, p) → R7_7 0 false [] (fun t3 y0 y1 y2 y3 y4 y5 y6 => k0 t3 y0 y1 y2 y3 y4 y5 y6) (fun t22 y0 y1 y2 y3 y4 y5 y6 z0 z1 z2 z3 z4 => cond (decide (z0 = 0)) (k1 y0 y1 y2 y3 y4 y5 y6 z0 z1 z2 z3 z4 z0 [])
        (B26 z2 fun r0 => B25 z1 r0 y0 y1 y2 y3 y4 y5 y6 fun r0 r1 q0 q1 q2 q3 q4 q5 q6 => J7_19 r0 r1 q0 q1 q2 q3 q4 q5 q6 z0 z1 z2 z3 z4 z0 false [] (fun t3 => k0 t3 q0 q1 q2 q3 q4 q5 q6) fun x3 => k1 q0 q1 q2 q3 q4 q5 q6 z0 z1 z2 z3 z4 z0 x3)) 1 2 d.S.length d.off d.cut d.wh d.ke d.wr (d.S.map sec) x.number x.first x.long x.sum.toNat p := by
      intro x p hx
      have hin := newer_in d.S.length d.S[0] d.S[1]
      rw [hx] at h0 h1 hin
      simp only at h0 h1 hin
      rw [R7_7]
      unfold S7_7
      refine cond_f (by decide) ?_
      by_cases hz : x.number = 0
      · unfold openN at h1
        rw [if_pos hz] at h1
        refine cond_t (by simp [hz]) ?_
        have := h1 _ rfl
        simp only at this
        rw [hz] at this ⊢
        exact this
      · refine cond_f (by simp [hz]) (B26_law _ (by omega) _ ?_)
        refine B25_law d.S hd.secs (by omega) _ _ _ _ _ _ _ _ (fun h => ?_) (fun h => ?_)
        · have hp := hin.2.2.2 hz
          unfold mayR at h
          rw [if_neg (by omega), if_neg (by omega), ho] at h
          exact absurd rfl h
        · rw [Int.toNat_natCast, Int.toNat_natCast]
          refine J7_19_law d hd x hin.1 hin.2.1 hz p _ _ _ _ _ _ (fun h => h0 4 h) (fun pm h => h1 _ h)
    have e2 : IntKind.wrap .i64 ((1 : Int) + 1) = 2 := by decide
    unfold newer at last
    by_cases hg : (nameOf d.S.length d.S[1]).number > x.number
    · refine cond_t (by simpa using hg) ?_
      refine last _ 1 ?_
      rcases hx with ⟨rfl, rfl, hp⟩ | ⟨hz, rfl, rfl⟩
      · rw [if_pos hg]
      · have : (nameOf d.S.length d.S[1]).number > (nameOf d.S.length d.S[0]).number := by rw [hz]; exact hg
        rw [if_pos this]
    · refine cond_f (by simpa using hg) ?_
      refine last _ p ?_
      rcases hx with ⟨rfl, rfl, hp⟩ | ⟨hz, rfl, rfl⟩
      · rw [if_neg hg, if_pos hp]
      · have : ¬ (nameOf d.S.length d.S[1]).number > (nameOf d.S.length d.S[0]).number := by rw [hz]; exact hg
        rw [if_neg this, if_neg (by omega)]
  by_cases hp : (nameOf d.S.length d.S[0]).number > 0
  · exact cond_t (by simpa using hp) (round _ 0 (.inl ⟨rfl, rfl, hp⟩))
  · exact cond_f (by simpa using hp) (round .zero 1 (.inr ⟨by omega, rfl, rfl⟩))

end Pv

namespace Pv
open Go

/-! Readers of what was laid. -/
theorem take_app (a l : List By) (n : Nat) (h : a.length = n) : Rd.take ⟨a ++ l, false⟩ n = (a, ⟨l, false⟩) := by
  subst h
  unfold Rd.take Rd.may
  rw [if_pos (by simp; omega)]
  simp
theorem num_app (w n : Nat) (l : List By) (h : n < 256 ^ w) : Rd.num ⟨le w n ++ l, false⟩ w = (n, ⟨l, false⟩) := by
  unfold Rd.num
  rw [take_app _ _ w (le_length w n)]
  simp only [unle_le w n h]
theorem getR_app (n : Nat) (hn : n < 18446744073709551616) (most : Nat) (hm : n ≤ most) (l : List By) : getR ⟨cput n ++ l, false⟩ most = (n, 0, ⟨l, false⟩) := by
  have fin : ∀ w, csize n = w + 1 → getR2 n w ⟨l, false⟩ most = (n, 0, ⟨l, false⟩) := by
    intro w hw
    unfold getR2
    rw [if_neg (by simp [hw]), if_neg (by omega)]
  have wide : ∀ (b : By) (w : Nat), w > 0 → cwidth b.toNat = w → n < 256 ^ w → csize n = w + 1 → getR ⟨(b :: le w n) ++ l, false⟩ most = (n, 0, ⟨l, false⟩) := by
    intro b w hw0 hb hlt hc
    unfold getR
    have e1 : Rd.num ⟨(b :: le w n) ++ l, false⟩ 1 = (b.toNat, ⟨le w n ++ l, false⟩) := by
      unfold Rd.num
      rw [show (b :: le w n) ++ l = [b] ++ (le w n ++ l) from rfl, show ((1 : Nat) : Int) = (([b] : List By).length : Nat) from rfl, take_app [b] _ _ rfl]
      simp [unle]
    rw [e1]
    simp only
    rw [hb, if_pos hw0, num_app w n l hlt]
    exact fin w hc
  unfold cput
  by_cases h1 : n ≥ 4294967296
  · rw [if_pos h1]
    exact wide _ 8 (by omega) (by decide) (by omega) (by unfold csize; rw [if_pos h1])
  · rw [if_neg h1]
    by_cases h2 : n ≥ 65536
    · rw [if_pos h2]
      exact wide _ 4 (by omega) (by decide) (by omega) (by unfold csize; rw [if_neg h1, if_pos h2])
    · rw [if_neg h2]
      by_cases h3 : n ≥ 253
      · rw [if_pos h3]
        exact wide _ 2 (by omega) (by decide) (by omega) (by unfold csize; rw [if_neg h1, if_neg h2, if_pos h3])
      · rw [if_neg h3]
        unfold getR
        have hb : (BitVec.ofNat 8 n).toNat = n := by simp only [BitVec.toNat_ofNat]; omega
        have e1 : Rd.num ⟨[BitVec.ofNat 8 n] ++ l, false⟩ 1 = (n, ⟨l, false⟩) := by
          unfold Rd.num
          rw [show ((1 : Nat) : Int) = (([BitVec.ofNat 8 n] : List By).length : Nat) from rfl, take_app _ _ _ rfl]
          simp only [unle, hb]
          rfl
        rw [e1]
        simp only
        have hw : cwidth n = 0 := by unfold cwidth; rw [if_neg (by omega), if_neg (by omega), if_neg (by omega)]
        rw [hw, if_neg (by omega)]
        exact fin 0 (by unfold csize; rw [if_neg h1, if_neg h2, if_neg h3])
theorem textR_app (t : List By) (most : Nat) (hm : t.length ≤ most) (hm2 : most ≤ 1000000000) (l : List By) : textR ⟨cput t.length ++ t ++ l, false⟩ most = (t, 0, ⟨l, false⟩) := by
  unfold textR
  rw [List.append_assoc, getR_app t.length (by omega) most hm]
  simp only
  rw [if_neg (by simp), take_app t l _ rfl]
  simp

/-! Keys in their order. -/
theorem kless_eq (a b : Tx) : kless a b = decide (a.map UInt8.ofBitVec < b.map UInt8.ofBitVec) := by
  unfold kless
  rw [ba_toList, ba_toList, Go.Proofs.bytesLess_eq]
def KLt (a b : Tx) : Prop := a.map UInt8.ofBitVec < b.map UInt8.ofBitVec
theorem KLt.ok {a b : Tx} (h : KLt a b) : (kless b a || decide (b = a)) = false := by
  rw [kless_eq]
  unfold KLt at h
  have h1 : ¬ b.map UInt8.ofBitVec < a.map UInt8.ofBitVec := List.lt_asymm h
  have h2 : b ≠ a := fun e => by subst e; exact List.lt_irrefl _ h
  simp [h1, h2]

theorem get_mem {m : PM} (hm : Keyed m) : ∀ {x : Tx × Tx}, x ∈ m → PM.get x.1 m = some x.2 := by
  induction m with
  | nil => intro x h; cases h
  | cons y r ih =>
    intro x h
    unfold Keyed at hm
    rw [List.map_cons, List.nodup_cons] at hm
    rw [PM.get]
    rcases List.mem_cons.1 h with rfl | h
    · rw [if_pos rfl]
    · rw [if_neg (fun e => hm.1 (by rw [← e]; exact List.mem_map_of_mem h))]
      exact ih hm.2 h
theorem get_some {m : PM} {k v : Tx} (h : PM.get k m = some v) : (k, v) ∈ m := by
  induction m with
  | nil => cases h
  | cons y r ih =>
    rw [PM.get] at h
    by_cases e : k = y.1
    · rw [if_pos e] at h
      cases h
      subst e
      simp
    · rw [if_neg e] at h
      exact List.mem_cons_of_mem _ (ih h)
theorem get_none {m : PM} {k : Tx} (h : k ∉ m.map (·.1)) : PM.get k m = none := by
  cases e : PM.get k m with
  | none => rfl
  | some v => exact absurd (List.mem_map_of_mem (f := (·.1)) (get_some e)) h
theorem sortK_perm (m : PM) : (sortK m).Perm (m.map (·.1)) := by
  unfold sortK
  have h1 := (List.mergeSort_perm (m.map fun x => x.1.map UInt8.ofBitVec) (fun x y => decide (x ≤ y))).map (List.map UInt8.toBitVec)
  refine h1.trans ?_
  rw [List.map_map]
  have : (List.map UInt8.toBitVec ∘ fun x : Tx × Tx => List.map UInt8.ofBitVec x.1) = (·.1) := by
    funext x
    simp [List.map_map, Function.comp_def]
  rw [this]
theorem sortK_sorted (m : PM) (hm : Keyed m) : (sortK m).Pairwise KLt := by
  unfold sortK
  have h1 : ((m.map fun x => x.1.map UInt8.ofBitVec).mergeSort (fun x y => decide (x ≤ y))).Pairwise (fun x y => decide (x ≤ y) = true) := by
    apply List.pairwise_mergeSort
    · intro a b c h1 h2
      simp only [decide_eq_true_eq] at h1 h2 ⊢
      exact List.le_trans h1 h2
    · intro a b
      simp only [Bool.or_eq_true, decide_eq_true_eq]
      exact List.le_total a b
  have h2 : ((m.map fun x => x.1.map UInt8.ofBitVec).mergeSort (fun x y => decide (x ≤ y))).Nodup := by
    rw [(List.mergeSort_perm _ _).nodup_iff]
    have e : (m.map fun x => x.1.map UInt8.ofBitVec) = (m.map (·.1)).map (List.map UInt8.ofBitVec) := by rw [List.map_map]; rfl
    rw [e]
    unfold Keyed at hm
    generalize m.map (·.1) = l at hm
    induction l with
    | nil => simp
    | cons a r ih =>
      rw [List.nodup_cons] at hm
      rw [List.map_cons, List.nodup_cons]
      refine ⟨fun h => ?_, ih hm.2⟩
      obtain ⟨b, hb, e⟩ := List.mem_map.1 h
      exact hm.1 (map_u8_inj e ▸ hb)
  rw [List.pairwise_map]
  refine (h1.and h2).imp ?_
  intro a b ⟨h1, h2⟩
  unfold KLt
  have e : ∀ l : List UInt8, (l.map UInt8.toBitVec).map UInt8.ofBitVec = l := fun l => by simp [List.map_map, Function.comp_def]
  rw [e, e]
  simp only [decide_eq_true_eq] at h1
  rcases List.le_iff_lt_or_eq.1 h1 with h | h
  · exact h
  · exact absurd h h2

/-- A map in the order of its keys. -/
def sorted (m : PM) : PM := (sortK m).map fun k => (k, (PM.get k m).getD [])
theorem sorted_perm (m : PM) (hm : Keyed m) : (sorted m).Perm m := by
  unfold sorted
  refine ((sortK_perm m).map _).trans ?_
  rw [List.map_map]
  have : m.map ((fun k => (k, (PM.get k m).getD [])) ∘ (·.1)) = m := by
    conv => rhs; rw [← List.map_id m]
    apply List.map_congr_left
    intro x hx
    simp only [Function.comp_apply, get_mem hm hx, Option.getD_some, id]
  rw [this]
theorem put_fresh {m : PM} {k v : Tx} (h : k ∉ m.map (·.1)) : PM.put k v m = m ++ [(k, v)] := by
  induction m with
  | nil => rfl
  | cons y r ih =>
    rw [List.map_cons, List.mem_cons, not_or] at h
    rw [PM.put, if_neg h.1, ih h.2, List.cons_append]

/-- Pairs that a store may have. -/
def PairsOk (m : PM) : Prop := Keyed m ∧ ∀ x ∈ m, 1 ≤ x.1.length ∧ x.1.length ≤ 40 ∧ 1 ≤ x.2.length ∧ x.2.length ≤ 1048576

theorem stateL_image (m : PM) : ∀ (ks : List Tx) (last : Tx) (acc : PM), (last :: ks).Pairwise KLt → (∀ x ∈ acc, x.1 = last ∨ KLt x.1 last) →
    (∀ k ∈ ks, 1 ≤ k.length ∧ k.length ≤ 40 ∧ 1 ≤ ((PM.get k m).getD []).length ∧ ((PM.get k m).getD []).length ≤ 1048576) →
    stateL ks.length ⟨ks.flatMap (imgK m), false⟩ last acc = some (acc ++ ks.map fun k => (k, (PM.get k m).getD []))
  | [], last, acc, _, _, _ => by
    rw [List.length_nil, stateL, if_pos (by simp [Rd.end])]
    simp
  | k :: ks, last, acc, hp, ha, hk => by
    have hk1 := hk k (by simp)
    rw [List.pairwise_cons] at hp
    rw [List.length_cons, stateL]
    have e1 : textR ⟨(k :: ks).flatMap (imgK m), false⟩ 40 = (k, 0, ⟨cput ((PM.get k m).getD []).length ++ (PM.get k m).getD [] ++ ks.flatMap (imgK m), false⟩) := by
      rw [List.flatMap_cons, imgK, List.append_assoc]
      exact textR_app k 40 hk1.2.1 (by omega) _
    rw [e1]
    have e2 : textR ⟨cput ((PM.get k m).getD []).length ++ (PM.get k m).getD [] ++ ks.flatMap (imgK m), false⟩ 1048576 = ((PM.get k m).getD [], 0, ⟨ks.flatMap (imgK m), false⟩) := textR_app _ _ hk1.2.2.2 (by omega) _
    simp only
    rw [e2, if_neg (by simp)]
    simp only
    have hlk : KLt last k := hp.1 k (by simp)
    rw [if_neg (by simp), if_neg]
    · have hfresh : k ∉ acc.map (·.1) := by
        intro h
        obtain ⟨x, hx, rfl⟩ := List.mem_map.1 h
        rcases ha x hx with e | e
        · rw [e] at hlk; exact List.lt_irrefl _ hlk
        · exact List.lt_irrefl _ (List.lt_trans e hlk)
      rw [put_fresh hfresh]
      rw [stateL_image m ks k _ hp.2 ?_ (fun k' h => hk k' (by simp [h]))]
      · simp
      · intro x hx
        rcases List.mem_append.1 hx with hx | hx
        · rcases ha x hx with e | e
          · right; rw [e]; exact hlk
          · right; exact List.lt_trans e hlk
        · left
          rw [List.mem_singleton] at hx
          rw [hx]
    · rw [KLt.ok hlk]
      rintro (h | h)
      · cases h
      · have := hk1.2.2.1; rw [h] at this; simp at this

theorem state_image (m : PM) (hm : PairsOk m) (hl : m.length ≤ (image m).length) (hl2 : m.length ≤ 1000000000) : stateR (image m) = some (sorted m) := by
  unfold stateR
  have e : getR ⟨image m, false⟩ (image m).length = (m.length, 0, ⟨(sortK m).flatMap (imgK m), false⟩) := getR_app m.length (by omega) _ hl _
  rw [e, if_neg (by simp)]
  simp only
  have hkey : ∀ k ∈ sortK m, k ∈ m.map (·.1) := fun k h => (sortK_perm m).mem_iff.1 h
  have := stateL_image m (sortK m) [] [] ?_ (fun x h => by cases h) ?_
  · rw [sortK_length] at this
    rw [this, List.nil_append]
    rfl
  · rw [List.pairwise_cons]
    refine ⟨fun k hk => ?_, sortK_sorted m hm.1⟩
    obtain ⟨x, hx, rfl⟩ := List.mem_map.1 (hkey k hk)
    have := (hm.2 x hx).1
    unfold KLt
    cases e : x.1 with
    | nil => rw [e] at this; simp at this
    | cons a r => exact List.nil_lt_cons _ _
  · intro k hk
    obtain ⟨x, hx, rfl⟩ := List.mem_map.1 (hkey k hk)
    rw [get_mem hm.1 hx]
    exact hm.2 x hx
theorem image_length_ge (m : PM) : m.length ≤ (image m).length := by
  unfold image
  rw [List.length_append]
  have : ∀ ks : List Tx, ks.length ≤ (ks.flatMap (imgK m)).length := by
    intro ks
    induction ks with
    | nil => simp
    | cons k r ih =>
      rw [List.flatMap_cons, List.length_append, List.length_cons]
      have : 1 ≤ (imgK m k).length := by
        unfold imgK
        have := cput_length k.length
        have h1 : 1 ≤ csize k.length := by unfold csize; split <;> (try split) <;> (try split) <;> omega
        simp only [List.length_append]
        omega
      omega
  have h := this (sortK m)
  rw [sortK_length] at h
  omega

end Pv

namespace Pv
open Go

theorem bytePVs_ba (l : Tx) : bytePVs (ba l) = bys l := by rw [bytePVs_bs, bs_ba]
theorem rowPart_bys (l : Tx) : rowPart (bys l) 0 l.length = bys l := rowPart_all _ _ (by rw [bys_length])
theorem getD_enV (o : Option Tx) : Option.getD (o.map enV) (.agg [.str .empty]) = enV (o.getD []) := by
  cases o <;> rfl
theorem asAgg_enV (v : Tx) (K : List PV → Prop) : asAggK (enV v) K = K [.str (ba v)] := rfl
theorem asStr_str (s : ByteArray) (K : ByteArray → Prop) : asStrK (.str s) K = K s := rfl
theorem consK_cons (x : PV) (r : List PV) (K : PV → List PV → Prop) : consK (x :: r) K = K x r := rfl
theorem nilK_nil (K : Prop) : nilK [] K = K := rfl
def strs (l : List Tx) : List PV := l.map fun k => .str (ba k)
theorem strs_length (l : List Tx) : (strs l).length = l.length := by simp [strs]
theorem elem_strs {l : List Tx} {i : Nat} {K : PV → Prop} (h : i < l.length) (hK : K (.str (ba l[i]))) : elemAt (strs l) i K := by
  unfold elemAt strs
  rw [List.getElem?_map, List.getElem?_eq_getElem h]
  exact hK

theorem img_loop (m : PM) (ks : List Tx) (hks : ks.length ≤ 1000000) (k0 : Nat → Int → List PV → Prop) : ∀ (c i : Nat) (x : List By), i + c = ks.length → (x ++ (ks.drop i).flatMap (imgK m)).length ≤ 50000000 →
    (∀ y, y = x ++ (ks.drop i).flatMap (imgK m) → k0 y.length ks.length (bys y)) → R33_3 (enc m) (strs ks) ks.length k0 (c + 1) x.length i (bys x)
  | 0, i, x, hi, hx, hk => by
    rw [R33_3]
    unfold S33_3
    refine cond_f (decide_eq_false (by omega)) ?_
    have e : i = ks.length := by omega
    subst e
    exact hk x (by simp)
  | c + 1, i, x, hi, hx, hk => by
    have hlt : i < ks.length := by omega
    have hd : ks.drop i = ks[i] :: ks.drop (i + 1) := List.drop_eq_getElem_cons hlt
    rw [hd, List.flatMap_cons, ← List.append_assoc] at hx hk
    have ih := img_loop m ks hks k0 c (i + 1) (x ++ imgK m ks[i]) (by omega) hx hk
    generalize hkk : ks[i] = k at *
    rw [R33_3]
    unfold S33_3
    refine cond_t (decide_eq_true (by omega)) ⟨by omega, ?_⟩
    rw [Int.toNat_natCast]
    refine elem_strs hlt ?_
    rw [hkk]
    have e1 : IntKind.wrap .i64 ((i : Int) + 1) = ((i + 1 : Nat) : Int) := by rw [w64 (by omega) (by omega)]; simp
    have hi2 : (x ++ cput k.length ++ k ++ cput ((PM.get k m).getD []).length ++ (PM.get k m).getD []) = x ++ imgK m k := by
      unfold imgK; simp only [List.append_assoc]
    rw [← hi2] at ih hx
    simp only [List.length_append] at hx
    simp only [asStr_str, bytePVs_ba, ba_size, rowPart_bys, bys_length, mget_enc, getD_enV, asAgg_enV, consK_cons, nilK_nil, e1, maxRoom_val]
    have step1 : ∀ K : Nat → List PV → Prop, K (x ++ cput k.length ++ k).length (bys (x ++ cput k.length ++ k)) → B55 (bys x) (bys k) K := fun K hK => B55_law x k (by omega) (by omega) K hK
    have step2 : ∀ K : Nat → List PV → Prop, K (x ++ cput k.length ++ k ++ cput ((PM.get k m).getD []).length ++ (PM.get k m).getD []).length (bys (x ++ cput k.length ++ k ++ cput ((PM.get k m).getD []).length ++ (PM.get k m).getD [])) → B55 (bys (x ++ cput k.length ++ k)) (bys ((PM.get k m).getD [])) K := fun K hK => B55_law _ _ (by simp only [List.length_append]; omega) (by omega) K hK
    repeat' (with_reducible apply And.intro)
    all_goals first
      | omega
      | (refine step1 _ ?_; simp only [rowPart_bys, bys_length, asStr_str, bytePVs_ba, ba_size, mget_enc, getD_enV, asAgg_enV, consK_cons, nilK_nil]; repeat' (with_reducible apply And.intro))
    all_goals first
      | omega
      | (refine step2 _ ?_; exact ih)

theorem B33_law (m : PM) (hm : KeysOk m) (hi : (image m).length ≤ 50000000) (k : List PV → Prop) (h : k (bys (image m))) : B33 (enc m) k := by
  unfold B33 B37
  rw [enc_length]
  have e : IntKind.wrap .u64 (Int.ofNat m.length) = (m.length : Int) := by
    have := hm.1
    rw [wu64]; simp; omega
  rw [e]
  have hi2 := hi
  unfold image at hi
  refine B54_law [] (by simp) m.length _ (B36_law m hm _ ?_)
  rw [List.nil_append]
  show L33_3 (enc m) (cput m.length).length (strs (sortK m)) (Int.ofNat (strs (sortK m)).length) 0 (bys (cput m.length)) _
  rw [strs_length]
  have hsl := sortK_length m
  have := hm.1
  refine ⟨(sortK m).length + 1, img_loop m (sortK m) (by omega) _ (sortK m).length 0 _ (by omega) (by simpa using hi) (fun y hy => ⟨by rw [bys_length]; omega, ?_⟩)⟩
  rw [rowPart_bys, hy]
  exact h

end Pv

namespace Pv
open Go

def enP (p : Tx × Tx) : PV := .agg [.str (ba p.1), .str (ba p.2)]
def enl (l : List (Tx × Tx)) : List PV := l.map enP
theorem enl_length (l : List (Tx × Tx)) : (enl l).length = l.length := by simp [enl]
theorem elem_enl {l : List (Tx × Tx)} {i : Nat} {K : PV → Prop} (h : i < l.length) (hK : K (enP l[i])) : elemAt (enl l) i K := by
  unfold elemAt enl
  rw [List.getElem?_map, List.getElem?_eq_getElem h]
  exact hK
theorem empty_beq (l : Tx) : (ByteArray.toList (ba l) == ByteArray.toList (ByteArray.mk #[])) = decide (l = []) := ba_beq l []
theorem elemOk74 (s : ByteArray) : elemOk pvT 74 (.agg [.str s]) := by
  refine ⟨rfl, fun c hc => ?_⟩
  simp only [flat, flats, List.mem_append, List.mem_singleton] at hc
  rcases hc with rfl | hc
  · trivial
  · cases hc
/-- A map behind one pair; behind several. -/
def applyP (p : Tx × Tx) (m : PM) : PM := if p.2 = [] then PM.del p.1 (PM.put p.1 p.2 m) else PM.put p.1 p.2 m
def applyL (l : List (Tx × Tx)) (m : PM) : PM := l.foldl (fun a p => applyP p a) m

theorem erase_perm {α : Type} : ∀ (l : List α) (j : Nat) (h : j < l.length), ([l[j]] ++ l.eraseIdx j).Perm l
  | [], j, h => by simp at h
  | x :: r, 0, h => by simp
  | x :: r, j + 1, h => by
    have ih := erase_perm r j (by simpa using h)
    rw [List.getElem_cons_succ, List.eraseIdx_cons_succ]
    exact (List.Perm.swap _ _ _).trans (ih.cons x)
/-! Is a map there? -/
def hasK (m w : PM) (k : Tx) : Bool := decide ((PM.get k m).isSome = true ∧ (PM.get k w).isSome = true ∧ (PM.get k m).getD [] = (PM.get k w).getD [])
def hasR (m w : PM) : Bool := decide (m.length = w.length) && (sortK m).all (hasK m w)
end Pv

namespace Pv
open Go

def applyC : List (Tx × Tx) → PM → Option PM
  | [], m => some m
  | p :: r, m => if mayP p = true then applyC r (applyP p m) else none
def commitR (d : Dev) (s : Sto) (l : List (Tx × Tx)) : Int × Sto × Dev :=
  match applyC l s.m with
  | none => (2, s, d)
  | some next =>
    if PM.eqb next s.m = true then (0, s, d)
    else if s.off = true then (36, s, d)
    else if (gapR d.S.length s.now (secN (image next).length)).2 < secN (image next).length ∨ s.top = mostN then (7, s, d)
    else if (d.writeG (gapR d.S.length s.now (secN (image next).length)).1 (image next)).1 ≠ 0 then (36, { s with off := true }, (d.writeG (gapR d.S.length s.now (secN (image next).length)).1 (image next)).2)
    else
      let n : Nm := ⟨s.top + 1, (gapR d.S.length s.now (secN (image next).length)).1.toNat, (image next).length, more 0#32 (image next)⟩
      let w := (d.writeG (gapR d.S.length s.now (secN (image next).length)).1 (image next)).2.writeG (1 - s.place : Nat) n.laid
      if w.1 ≠ 0 then (36, { s with off := true }, w.2) else (0, ⟨n, 1 - s.place, s.top + 1, s.off, next⟩, w.2)

theorem elemOk83 (n : Int) (l : List By) : elemOk pvT 83 (.agg [.int .i64 n, .list 5 (bys l)]) := by
  refine ⟨rfl, fun c hc => ?_⟩
  simp only [flat, flats, List.mem_append, List.mem_singleton] at hc
  rcases hc with rfl | rfl | hc
  · trivial
  · trivial
  · cases hc

theorem commit_loop (d : Dev) (s : Sto) (l : List (Tx × Tx)) (hl : l.length ≤ 1000000) (out : Option PM) (k0 : Prop) (k1 : Int → List PV → Prop) (h0 : out = none → k0) (h1 : ∀ m, out = some m → ∀ z, k1 z (enc m)) :
    ∀ (c i : Nat) (m : PM), i + c = l.length → applyC (l.drop i) m = out → R10_5 (enl l) (l.length : Nat) s.now.number s.now.first s.now.long s.now.sum.toNat s.place s.top s.off d.S.length d.off d.cut d.wh d.ke d.wr (enc s.m) (d.S.map sec) k0 k1 (c + 1) i (enc m)
  | 0, i, m, hi, h => by
    rw [R10_5]
    unfold S10_5
    refine cond_f (decide_eq_false (by omega)) ?_
    have e : i = l.length := by omega
    subst e
    rw [List.drop_length] at h
    exact h1 m h.symm _
  | c + 1, i, m, hi, h => by
    have hlt : i < l.length := by omega
    have hd : l.drop i = l[i] :: l.drop (i + 1) := List.drop_eq_getElem_cons hlt
    rw [hd, applyC] at h
    rw [R10_5]
    unfold S10_5
    rw [Int.toNat_natCast]
    have e1 : IntKind.wrap .i64 ((i : Int) + 1) = ((i + 1 : Nat) : Int) := by rw [w64 (by omega) (by omega)]; simp
    rw [e1]
    refine cond_t (decide_eq_true (by omega)) ⟨by omega, elem_enl hlt ?_⟩
    refine (show B31 (ba l[i].1) (ba l[i].2) (fun r0 => cond (!r0) k0 (elemOk pvT 77 (.agg [.str (ba l[i].2)]) ∧ cond (ByteArray.toList (ba l[i].2) == ByteArray.toList (ByteArray.mk #[]))
      (R10_5 (enl l) (l.length : Nat) s.now.number s.now.first s.now.long s.now.sum.toNat s.place s.top s.off d.S.length d.off d.cut d.wh d.ke d.wr (enc s.m) (d.S.map sec) k0 k1 (c + 1) ((i + 1 : Nat) : Int) (mdel (.str (ba l[i].1)) (mput (.str (ba l[i].1)) (.agg [.str (ba l[i].2)]) (enc m))))
      (R10_5 (enl l) (l.length : Nat) s.now.number s.now.first s.now.long s.now.sum.toNat s.place s.top s.off d.S.length d.off d.cut d.wh d.ke d.wr (enc s.m) (d.S.map sec) k0 k1 (c + 1) ((i + 1 : Nat) : Int) (mput (.str (ba l[i].1)) (.agg [.str (ba l[i].2)]) (enc m))))) from ?_)
    refine B31_law _ _ ?_
    by_cases hmay : mayP l[i] = true
    · rw [if_pos hmay] at h
      have ih := commit_loop d s l hl out k0 k1 h0 h1 c (i + 1) _ (by omega) h
      refine cond_f (by rw [hmay]; rfl) ⟨elemOk77 _, ?_⟩
      rw [empty_beq, mput_enc, mdel_enc]
      unfold applyP at ih
      by_cases he : l[i].2 = []
      · rw [if_pos he] at ih
        exact cond_t (by simp [he]) ih
      · rw [if_neg he] at ih
        exact cond_f (by simp [he]) ih
    · rw [if_neg hmay] at h
      exact cond_t (by simpa using hmay) (h0 h.symm)

theorem J10_22_law (d : Dev) (hd : d.Ok) (hwr : d.wr < 100000) (s : Sto) (hp : s.place ≤ 1) (b : List By) (hb : b.length ≤ 1000000) (q : Nat) (n : Nm) (hn1 : n.number < 18446744073709551616) (hn2 : n.first < 4294967296) (hn3 : n.long < 1000000000) (m : List PV)
    (k0 : Nat → Bool → Bool → Int → Int → Int → List PV → Prop) (k1 : Int → Nat → Bool → Bool → Int → Int → Int → List PV → Prop)
    (h0 : (d.writeG q b).1 ≠ 0 → k0 (d.writeG q b).2.S.length (d.writeG q b).2.off (d.writeG q b).2.cut (d.writeG q b).2.wh (d.writeG q b).2.ke (d.writeG q b).2.wr ((d.writeG q b).2.S.map sec))
    (h1 : (d.writeG q b).1 = 0 → ((d.writeG q b).2.writeG (1 - s.place : Nat) n.laid).1 ≠ 0 → k0 ((d.writeG q b).2.writeG (1 - s.place : Nat) n.laid).2.S.length ((d.writeG q b).2.writeG (1 - s.place : Nat) n.laid).2.off ((d.writeG q b).2.writeG (1 - s.place : Nat) n.laid).2.cut ((d.writeG q b).2.writeG (1 - s.place : Nat) n.laid).2.wh ((d.writeG q b).2.writeG (1 - s.place : Nat) n.laid).2.ke ((d.writeG q b).2.writeG (1 - s.place : Nat) n.laid).2.wr (((d.writeG q b).2.writeG (1 - s.place : Nat) n.laid).2.S.map sec))
    (h2 : (d.writeG q b).1 = 0 → ((d.writeG q b).2.writeG (1 - s.place : Nat) n.laid).1 = 0 → k1 (1 - s.place : Nat) ((d.writeG q b).2.writeG (1 - s.place : Nat) n.laid).2.S.length ((d.writeG q b).2.writeG (1 - s.place : Nat) n.laid).2.off ((d.writeG q b).2.writeG (1 - s.place : Nat) n.laid).2.cut ((d.writeG q b).2.writeG (1 - s.place : Nat) n.laid).2.wh ((d.writeG q b).2.writeG (1 - s.place : Nat) n.laid).2.ke ((d.writeG q b).2.writeG (1 - s.place : Nat) n.laid).2.wr (((d.writeG q b).2.writeG (1 - s.place : Nat) n.laid).2.S.map sec)) :
    J10_22 (bys b) q s.now.number s.now.first s.now.long s.now.sum.toNat s.place s.top s.off d.S.length d.off d.cut d.wh d.ke d.wr (enc s.m) (d.S.map sec) m n.number n.first n.long n.sum.toNat k0 k1 := by
  unfold J10_22
  simp only [cj_eq, cj2, cond_true, cond_false, and_self]
  refine B35_law n hn1 hn2 hn3 _ ⟨elemOk83 _ _, elemOk83 _ _, 3, ?_⟩
  have e1 : IntKind.wrap .i64 (1 - (s.place : Int)) = ((1 - s.place : Nat) : Int) := by rw [w64 (by omega) (by omega)]; omega
  rw [e1, R10_23]
  unfold S10_23
  simp only [cj_eq, cj2, cond_true, cond_false, and_self]
  refine cond_t (by decide) ⟨by omega, by simp, ?_⟩
  refine (show B21 q (bys b) d.S.length d.off d.cut d.wh d.ke d.wr (d.S.map sec) _ from ?_)
  refine B21_g d hd b (by omega) q _ ?_
  unfold J10_26
  have hok := writeG_ok hd (by omega) (q : Int) b
  have hw1 := writeG_wr d (q : Int) b
  by_cases ha : (d.writeG q b).1 = 0
  · refine cond_f (by simp [ha]) ?_
    rw [show IntKind.wrap .i64 ((0 : Int) + 1) = 1 by decide, R10_23]
    unfold S10_23
    simp only [cj_eq, cj2, cond_true, cond_false, and_self]
    refine cond_t (by decide) ⟨by omega, by simp, ?_⟩
    refine (show B21 (1 - s.place : Nat) (bys n.laid) (d.writeG q b).2.S.length (d.writeG q b).2.off (d.writeG q b).2.cut (d.writeG q b).2.wh (d.writeG q b).2.ke (d.writeG q b).2.wr ((d.writeG q b).2.S.map sec) _ from ?_)
    refine B21_g _ hok.1 n.laid (by rw [laid_len]; omega) _ _ ?_
    unfold J10_26
    by_cases hc : ((d.writeG q b).2.writeG (1 - s.place : Nat) n.laid).1 = 0
    · refine cond_f (by simp [hc]) ?_
      rw [show IntKind.wrap .i64 ((1 : Int) + 1) = 2 by decide, R10_23]
      unfold S10_23 J10_30 J10_31
      simp only [cj_eq, cj2, cond_true, cond_false, and_self]
      refine cond_f (by decide) ?_
      rw [e1]
      exact h2 ha hc
    · exact cond_t (by simp [hc]) (h1 ha hc)
  · exact cond_t (by simp [ha]) (h0 ha)

theorem B10_law (d : Dev) (hd : d.Ok) (hwr : d.wr < 100000) (hn : 2 ≤ d.S.length) (s : Sto) (hp : s.place ≤ 1) (htop : s.top ≤ mostN) (hf : s.now.first + secN s.now.long ≤ d.S.length) (l : List (Tx × Tx)) (hl : l.length ≤ 1000000)
    (hsz : ∀ next, applyC l s.m = some next → KeysOk next ∧ (image next).length ≤ 50000000)
    (k0 : Int → Int → Int → Int → Int → Int → Int → Bool → Nat → Bool → Bool → Int → Int → Int → List PV → List PV → Prop) (k1 : Int → Int → Int → Int → Int → Int → Bool → Nat → Bool → Bool → Int → Int → Int → List PV → List PV → List PV → Prop)
    (h0 : ∀ r s' d', commitR d s l = (r, s', d') → s'.m = s.m → k0 r s'.now.number s'.now.first s'.now.long s'.now.sum.toNat s'.place s'.top s'.off d'.S.length d'.off d'.cut d'.wh d'.ke d'.wr (enc s.m) (d'.S.map sec))
    (h1 : ∀ s' d', commitR d s l = (0, s', d') → k1 s'.now.number s'.now.first s'.now.long s'.now.sum.toNat s'.place s'.top s'.off d'.S.length d'.off d'.cut d'.wh d'.ke d'.wr (enc s.m) (d'.S.map sec) (enc s'.m)) :
    B10 (enl l) s.now.number s.now.first s.now.long s.now.sum.toNat s.place s.top s.off d.S.length d.off d.cut d.wh d.ke d.wr (enc s.m) (d.S.map sec) k0 k1 := by
  unfold B10 B29 B30
  simp only [cj_eq, cj2, cond_true, cond_false, and_self]
  rw [enl_length]
  have hlen := hd.len
  unfold commitR at h0 h1
  refine ⟨l.length + 1, commit_loop d s l hl (applyC l s.m) _ _ (fun h => ?_) (fun next h z => ?_) l.length 0 s.m (by omega) (by rw [List.drop_zero])⟩
  · rw [h] at h0
    exact h0 _ _ _ rfl rfl
  · rw [h] at h0 h1
    obtain ⟨hk, hi⟩ := hsz next h
    simp only at h0 h1
    refine B32_law next s.m _ ?_
    by_cases he : PM.eqb next s.m = true
    · rw [if_pos he] at h0
      exact cond_t he (h0 _ _ _ rfl rfl)
    rw [if_neg he] at h0 h1
    refine cond_f (by simpa using he) (B33_law next hk hi _ ?_)
    rw [bys_length]
    generalize hb : image next = b at *
    refine B26_law b.length (by omega) _ ?_
    refine B34_law d s hn (by omega) hf _ _ ?_
    by_cases ho : s.off = true
    · rw [if_pos ho] at h0
      exact cond_t ho (h0 _ _ _ rfl rfl)
    rw [if_neg ho] at h0 h1
    refine cond_f (by simpa using ho) (B26_law b.length (by omega) _ ?_)
    have hg := gapR_lo d.S.length s.now (secN b.length) hn hf
    obtain ⟨q, hq⟩ : ∃ q : Nat, (gapR d.S.length s.now (secN b.length)).1 = q := ⟨(gapR d.S.length s.now (secN b.length)).1.toNat, by omega⟩
    have hqn : q ≤ d.S.length := by
      have : (gapR d.S.length s.now (secN b.length)).1 ≤ d.S.length := by
        unfold gapR
        split
        · dsimp only; omega
        · split
          · dsimp only; omega
          · dsimp only; omega
      omega
    rw [hq] at h0 h1 ⊢
    by_cases hm : (gapR d.S.length s.now (secN b.length)).2 < secN b.length
    · rw [if_pos (.inl hm)] at h0
      exact cond_f (by simp; omega) (h0 _ _ _ rfl rfl)
    refine cond_t (by simp; omega) ?_
    by_cases ht : s.top = mostN
    · rw [if_pos (.inr ht)] at h0
      exact cond_t (by rw [ht]; decide) (h0 _ _ _ rfl rfl)
    rw [if_neg (by rintro (h | h); exact hm h; exact ht h)] at h0 h1
    refine cond_f (decide_eq_false (by unfold mostN at ht; omega)) ?_
    have hsn : secN b.length ≤ 700 := by omega
    have hbl : b.length ≤ 100000 := by unfold secN at hsn; omega
    refine B27_law b hbl _ ?_
    have ew : IntKind.wrap .u64 ((s.top : Int) + 1) = ((s.top + 1 : Nat) : Int) := by unfold mostN at htop; rw [wu64]; omega
    rw [ew]
    rw [Int.toNat_natCast] at h0 h1
    refine J10_22_law d hd hwr s hp b (by omega) q ⟨s.top + 1, q, b.length, more 0#32 b⟩ (by unfold mostN at htop; simp only; omega) (by simp only; omega) (by simp only; omega) _ _ _ (fun a => ?_) (fun a c => ?_) (fun a c => ?_)
    · rw [if_pos a] at h0
      exact h0 _ _ _ rfl rfl
    · rw [if_neg (by simpa using a)] at h0
      rw [if_pos c] at h0
      exact h0 _ _ _ rfl rfl
    · rw [if_neg (by simpa using a)] at h1
      rw [if_neg (by simpa using c)] at h1
      exact h1 _ _ rfl

end Pv

namespace Pv
open Go

/-! Maps, in whatever order their pairs stand. -/
theorem perm_of_sub {α : Type} [DecidableEq α] : ∀ (a b : List α), a.Nodup → (∀ x ∈ a, x ∈ b) → b.length ≤ a.length → a.Perm b
  | [], b, _, _, hl => by
    have : b = [] := List.length_eq_zero_iff.1 (by simpa using hl)
    subst this; exact List.Perm.refl _
  | x :: r, b, hn, hs, hl => by
    rw [List.nodup_cons] at hn
    have hx : x ∈ b := hs x (by simp)
    have hp := List.perm_cons_erase hx
    refine (List.Perm.cons x (perm_of_sub r (b.erase x) hn.2 (fun y hy => ?_) ?_)).trans hp.symm
    · have : y ∈ x :: b.erase x := hp.mem_iff.1 (hs y (by simp [hy]))
      rcases List.mem_cons.1 this with e | h
      · subst e; exact absurd hy hn.1
      · exact h
    · have := hp.length_eq
      rw [List.length_cons] at this hl
      omega
theorem Keyed.nodup {m : PM} (h : Keyed m) : m.Nodup := by
  unfold Keyed at h
  induction m with
  | nil => simp
  | cons x r ih =>
    rw [List.map_cons, List.nodup_cons] at h
    rw [List.nodup_cons]
    exact ⟨fun hx => h.1 (List.mem_map_of_mem hx), ih h.2⟩
theorem Keyed.perm {a b : PM} (h : a.Perm b) (ha : Keyed a) : Keyed b := by
  unfold Keyed at *
  exact (h.map _).nodup_iff.1 ha
theorem get_perm {a b : PM} (h : a.Perm b) (ha : Keyed a) (k : Tx) : PM.get k a = PM.get k b := by
  have hb := ha.perm h
  cases e : PM.get k a with
  | some v => exact (get_mem hb (h.mem_iff.1 (get_some e))).symm
  | none =>
    cases e2 : PM.get k b with
    | none => rfl
    | some v =>
      have := get_mem ha (h.mem_iff.2 (get_some e2))
      simp only at this
      rw [this] at e; cases e
theorem sortK_perm_eq {a b : PM} (h : a.Perm b) (ha : Keyed a) : sortK a = sortK b := by
  refine List.Perm.eq_of_pairwise (le := KLt) (fun x y _ _ h1 h2 => absurd (List.lt_trans h1 h2) (List.lt_irrefl _)) (sortK_sorted a ha) (sortK_sorted b (ha.perm h)) ?_
  exact (sortK_perm a).trans ((h.map _).trans (sortK_perm b).symm)
theorem image_perm {a b : PM} (h : a.Perm b) (ha : Keyed a) : image a = image b := by
  unfold image
  rw [sortK_perm_eq h ha, h.length_eq]
  congr 1
  have : imgK a = imgK b := by
    funext k
    unfold imgK
    rw [get_perm h ha k]
  rw [this]

theorem put_mem {m : PM} {k v : Tx} {x : Tx × Tx} (h : x ∈ PM.put k v m) : x = (k, v) ∨ x ∈ m := by
  induction m with
  | nil => left; simpa [PM.put] using h
  | cons y r ih =>
    rw [PM.put] at h
    by_cases e : k = y.1
    · rw [if_pos e] at h
      rcases List.mem_cons.1 h with h | h
      · exact .inl h
      · exact .inr (List.mem_cons_of_mem _ h)
    · rw [if_neg e] at h
      rcases List.mem_cons.1 h with h | h
      · exact .inr (by rw [h]; simp)
      · rcases ih h with h | h
        · exact .inl h
        · exact .inr (List.mem_cons_of_mem _ h)
theorem del_mem {m : PM} {k : Tx} {x : Tx × Tx} (h : x ∈ PM.del k m) : x ∈ m := by
  induction m with
  | nil => cases h
  | cons y r ih =>
    rw [PM.del] at h
    by_cases e : k = y.1
    · rw [if_pos e] at h; exact List.mem_cons_of_mem _ h
    · rw [if_neg e] at h
      rcases List.mem_cons.1 h with h | h
      · rw [h]; simp
      · exact List.mem_cons_of_mem _ (ih h)
theorem put_keyed {m : PM} {k v : Tx} (h : Keyed m) : Keyed (PM.put k v m) := by
  induction m with
  | nil => simp [PM.put, Keyed]
  | cons y r ih =>
    unfold Keyed at h ih ⊢
    rw [List.map_cons, List.nodup_cons] at h
    rw [PM.put]
    by_cases e : k = y.1
    · rw [if_pos e, List.map_cons, List.nodup_cons]
      exact ⟨by rw [e]; exact h.1, h.2⟩
    · rw [if_neg e, List.map_cons, List.nodup_cons]
      refine ⟨fun hin => ?_, ih h.2⟩
      obtain ⟨x, hx, he⟩ := List.mem_map.1 hin
      rcases put_mem hx with rfl | hx
      · exact e he
      · exact h.1 (by rw [← he]; exact List.mem_map_of_mem hx)
theorem del_keyed {m : PM} {k : Tx} (h : Keyed m) : Keyed (PM.del k m) := by
  induction m with
  | nil => simp [PM.del, Keyed]
  | cons y r ih =>
    unfold Keyed at h ih ⊢
    rw [List.map_cons, List.nodup_cons] at h
    rw [PM.del]
    by_cases e : k = y.1
    · rw [if_pos e]; exact h.2
    · rw [if_neg e, List.map_cons, List.nodup_cons]
      refine ⟨fun hin => ?_, ih h.2⟩
      obtain ⟨x, hx, he⟩ := List.mem_map.1 hin
      exact h.1 (by rw [← he]; exact List.mem_map_of_mem (del_mem hx))
theorem get_put (m : PM) (k v q : Tx) : PM.get q (PM.put k v m) = if q = k then some v else PM.get q m := by
  induction m with
  | nil => rfl
  | cons y r ih =>
    rw [PM.put]
    by_cases e : k = y.1
    · rw [if_pos e, PM.get, PM.get]
      simp only
      by_cases h : q = k
      · rw [if_pos h, if_pos h]
      · rw [if_neg h, if_neg h, if_neg (by rw [← e]; exact h)]
    · rw [if_neg e, PM.get, ih, PM.get]
      by_cases h : q = y.1
      · rw [if_pos h, if_pos h, if_neg (by rw [h]; exact fun g => e g.symm)]
      · rw [if_neg h, if_neg h]
theorem get_del {m : PM} (hm : Keyed m) (k q : Tx) : PM.get q (PM.del k m) = if q = k then none else PM.get q m := by
  induction m with
  | nil => simp [PM.del, PM.get]
  | cons y r ih =>
    unfold Keyed at hm ih
    rw [List.map_cons, List.nodup_cons] at hm
    rw [PM.del]
    by_cases e : k = y.1
    · rw [if_pos e, PM.get]
      by_cases h : q = k
      · rw [if_pos h]
        exact get_none (by rw [h, e]; exact hm.1)
      · rw [if_neg h, if_neg (by rw [← e]; exact h)]
    · rw [if_neg e, PM.get, PM.get, ih hm.2]
      by_cases h : q = y.1
      · rw [if_pos h, if_pos h, if_neg (by rw [h]; exact fun g => e g.symm)]
      · rw [if_neg h, if_neg h]
theorem perm_of_get {a b : PM} (ha : Keyed a) (hb : Keyed b) (h : ∀ k, PM.get k a = PM.get k b) : a.Perm b := by
  have sub : ∀ {a b : PM}, Keyed a → Keyed b → (∀ k, PM.get k a = PM.get k b) → ∀ x ∈ a, x ∈ b := by
    intro a b ha hb h x hx
    have := get_mem ha hx
    rw [h] at this
    exact get_some this
  have h1 := sub ha hb h
  have h2 := sub hb ha (fun k => (h k).symm)
  have hl : b.length ≤ a.length := by
    have : ∀ (a b : PM), b.Nodup → (∀ x ∈ b, x ∈ a) → b.length ≤ a.length := by
      intro a b
      induction b generalizing a with
      | nil => intro _ _; simp
      | cons x r ih =>
        intro hn hs
        rw [List.nodup_cons] at hn
        have hx : x ∈ a := hs x (by simp)
        have hp := List.perm_cons_erase hx
        have := ih (a.erase x) hn.2 (fun y hy => by
          have : y ∈ x :: a.erase x := hp.mem_iff.1 (hs y (by simp [hy]))
          rcases List.mem_cons.1 this with e | h
          · subst e; exact absurd hy hn.1
          · exact h)
        have h2 := hp.length_eq
        rw [List.length_cons] at h2 ⊢
        omega
    exact this a b hb.nodup h2
  exact perm_of_sub a b ha.nodup h1 hl
theorem applyP_keyed {m : PM} (p : Tx × Tx) (h : Keyed m) : Keyed (applyP p m) := by
  unfold applyP
  split
  · exact del_keyed (put_keyed h)
  · exact put_keyed h
theorem get_applyP {m : PM} (p : Tx × Tx) (h : Keyed m) (q : Tx) : PM.get q (applyP p m) = if q = p.1 then (if p.2 = [] then none else some p.2) else PM.get q m := by
  unfold applyP
  by_cases e : p.2 = []
  · rw [if_pos e, get_del (put_keyed h), get_put]
    by_cases g : q = p.1
    · rw [if_pos g, if_pos g, if_pos e]
    · rw [if_neg g, if_neg g, if_neg g]
  · rw [if_neg e, get_put, if_neg e]
theorem applyP_perm {a b : PM} (p : Tx × Tx) (h : a.Perm b) (ha : Keyed a) : (applyP p a).Perm (applyP p b) :=
  perm_of_get (applyP_keyed p ha) (applyP_keyed p (ha.perm h)) fun q => by rw [get_applyP p ha, get_applyP p (ha.perm h), get_perm h ha]
theorem applyL_perm : ∀ (l : List (Tx × Tx)) {a b : PM}, a.Perm b → Keyed a → (applyL l a).Perm (applyL l b)
  | [], a, b, h, _ => h
  | p :: r, a, b, h, ha => applyL_perm r (applyP_perm p h ha) (applyP_keyed p ha)
theorem applyC_eq : ∀ (l : List (Tx × Tx)) (m next : PM), applyC l m = some next → next = applyL l m ∧ ∀ p ∈ l, mayP p = true
  | [], m, next, h => by cases h; exact ⟨rfl, fun p hp => by cases hp⟩
  | p :: r, m, next, h => by
    rw [applyC] at h
    by_cases hp : mayP p = true
    · rw [if_pos hp] at h
      obtain ⟨h1, h2⟩ := applyC_eq r _ next h
      refine ⟨h1, fun q hq => ?_⟩
      rcases List.mem_cons.1 hq with e | hq
      · rw [e]; exact hp
      · exact h2 q hq
    · rw [if_neg hp] at h; cases h
theorem applyL_keyed : ∀ (l : List (Tx × Tx)) {m : PM}, Keyed m → Keyed (applyL l m)
  | [], m, h => h
  | p :: r, m, h => applyL_keyed r (applyP_keyed p h)
theorem applyP_mem {m : PM} {p x : Tx × Tx} (hm : Keyed m) (h : x ∈ applyP p m) : (x = p ∧ p.2 ≠ []) ∨ x ∈ m := by
  have h1 := get_mem (applyP_keyed p hm) h
  rw [get_applyP p hm] at h1
  by_cases e : x.1 = p.1
  · rw [if_pos e] at h1
    by_cases e2 : p.2 = []
    · rw [if_pos e2] at h1; cases h1
    · rw [if_neg e2] at h1
      left
      exact ⟨Prod.ext e (Option.some.inj h1).symm, e2⟩
  · rw [if_neg e] at h1
    exact .inr (get_some h1)
theorem applyL_mem : ∀ (l : List (Tx × Tx)) {m : PM} {x : Tx × Tx}, Keyed m → x ∈ applyL l m → (x ∈ l ∧ x.2 ≠ []) ∨ x ∈ m
  | [], m, x, _, h => .inr h
  | p :: r, m, x, hm, h => by
    rcases applyL_mem r (applyP_keyed p hm) h with ⟨h1, h2⟩ | h1
    · exact .inl ⟨List.mem_cons_of_mem _ h1, h2⟩
    · rcases applyP_mem hm h1 with ⟨e, h2⟩ | h2
      · subst e; exact .inl ⟨by simp, h2⟩
      · exact .inr h2
theorem put_length_le (k v : Tx) : ∀ m : PM, (PM.put k v m).length ≤ m.length + 1
  | [] => by simp [PM.put]
  | y :: r => by
    have := put_length_le k v r
    rw [PM.put]
    split <;> simp only [List.length_cons] <;> omega
theorem del_length_le (k : Tx) : ∀ m : PM, (PM.del k m).length ≤ m.length
  | [] => by simp [PM.del]
  | y :: r => by
    have := del_length_le k r
    rw [PM.del]
    split <;> simp only [List.length_cons] <;> omega
theorem applyL_length : ∀ (l : List (Tx × Tx)) (m : PM), (applyL l m).length ≤ m.length + l.length
  | [], m => by simp [applyL]
  | p :: r, m => by
    have h1 := applyL_length r (applyP p m)
    have h2 : (applyP p m).length ≤ m.length + 1 := by
      unfold applyP
      split
      · exact Nat.le_trans (del_length_le _ _) (put_length_le _ _ m)
      · exact put_length_le _ _ m
    show (applyL r (applyP p m)).length ≤ _
    rw [List.length_cons]
    omega
theorem pairsOk_apply {l : List (Tx × Tx)} {m next : PM} (hm : PairsOk m) (h : applyC l m = some next) : PairsOk next := by
  obtain ⟨rfl, hmay⟩ := applyC_eq l m next h
  refine ⟨applyL_keyed l hm.1, fun x hx => ?_⟩
  rcases applyL_mem l hm.1 hx with ⟨h1, h2⟩ | h1
  · have := of_decide_eq_true (hmay x h1)
    refine ⟨this.1, this.2.1, ?_, this.2.2⟩
    cases e : x.2 with
    | nil => exact absurd e h2
    | cons => simp
  · exact hm.2 x h1
theorem eqb_perm {a b : PM} (ha : Keyed a) (h : PM.eqb a b = true) : a.Perm b := by
  unfold PM.eqb at h
  rw [Bool.and_eq_true, decide_eq_true_eq, List.all_eq_true] at h
  refine perm_of_sub a b ha.nodup (fun x hx => ?_) (by omega)
  exact get_some (of_decide_eq_true (h.2 x hx))
theorem hasR_perm {m w : PM} (hm : Keyed m) (h : m.Perm w) : hasR m w = true := by
  unfold hasR
  rw [Bool.and_eq_true, decide_eq_true_eq, List.all_eq_true]
  refine ⟨h.length_eq, fun k hk => ?_⟩
  obtain ⟨x, hx, rfl⟩ := List.mem_map.1 ((sortK_perm m).mem_iff.1 hk)
  unfold hasK
  rw [← get_perm h hm, get_mem hm hx]
  simp
theorem perm_hasR {m w : PM} (hm : Keyed m) (h : hasR m w = true) : m.Perm w := by
  unfold hasR at h
  rw [Bool.and_eq_true, decide_eq_true_eq, List.all_eq_true] at h
  refine perm_of_sub m w hm.nodup (fun x hx => ?_) (by omega)
  have h1 := h.2 x.1 ((sortK_perm m).mem_iff.2 (List.mem_map_of_mem hx))
  obtain ⟨-, h2, h3⟩ := of_decide_eq_true h1
  rw [get_mem hm hx] at h3
  cases e : PM.get x.1 w with
  | none => rw [e] at h2; cases h2
  | some v =>
    rw [e] at h3
    simp only [Option.getD_some] at h3
    have := get_some e
    rw [← h3] at this
    exact this

/-! Sectors that are written, and read. -/
theorem putS_eq : ∀ (r : List (List By)) (S : List (List By)) (p : Nat), p + r.length ≤ S.length → putS S p r = S.take p ++ r.map pad ++ S.drop (p + r.length)
  | [], S, p, _ => by simp [putS]
  | c :: r, S, p, h => by
    rw [List.length_cons] at h
    rw [putS, putS_eq r _ _ (by rw [List.length_set]; omega)]
    have h1 : (S.set p (pad c)).take (p + 1) = S.take p ++ [pad c] := by
      rw [List.take_succ_eq_append_getElem (by rw [List.length_set]; omega), List.take_set_of_le (Nat.le_refl _), List.getElem_set_self]
    have h2 : (S.set p (pad c)).drop (p + 1 + r.length) = S.drop (p + (c :: r).length) := by
      rw [List.drop_set_of_lt (by omega), List.length_cons]
      congr 1; omega
    rw [h1, h2]
    simp
theorem read_written (S : List (List By)) (r : List (List By)) (p : Nat) (h : p + r.length ≤ S.length) : readR (putS S p r) p r.length = (r.map pad).flatten := by
  unfold readR
  rw [putS_eq r S p h, List.append_assoc, List.drop_left' (by simp; omega), List.take_left' (by simp)]
theorem read_beside (S : List (List By)) (r : List (List By)) (p q m : Nat) (h : p + r.length ≤ S.length) (hd : q + m ≤ p ∨ p + r.length ≤ q) : readR (putS S p r) q m = readR S q m := by
  unfold readR
  congr 1
  rw [putS_eq r S p h]
  apply List.ext_getElem?
  intro i
  rw [List.getElem?_take, List.getElem?_take]
  by_cases hi : i < m
  · rw [if_pos hi, if_pos hi, List.getElem?_drop, List.getElem?_drop]
    rcases hd with hd | hd
    · rw [List.append_assoc, List.getElem?_append_left (by simp; omega), List.getElem?_take, if_pos (by omega)]
    · rw [List.getElem?_append_right (by simp; omega), List.getElem?_drop]
      congr 1
      simp only [List.length_append, List.length_take, List.length_map]
      omega
  · rw [if_neg hi, if_neg hi]
theorem getD_beside (S : List (List By)) (r : List (List By)) (p i : Nat) (h : p + r.length ≤ S.length) (hd : i < p ∨ p + r.length ≤ i) : (putS S p r).getD i [] = S.getD i [] := by
  rw [List.getD_eq_getElem?_getD, List.getD_eq_getElem?_getD, putS_eq r S p h]
  congr 1
  rcases hd with hd | hd
  · rw [List.append_assoc, List.getElem?_append_left (by simp; omega), List.getElem?_take, if_pos hd]
  · rw [List.getElem?_append_right (by simp; omega), List.getElem?_drop]
    congr 1
    simp only [List.length_append, List.length_take, List.length_map]
    omega
theorem getD_written (S : List (List By)) (l : List By) (p : Nat) (h : p < S.length) : (putS S p [l]).getD p [] = pad l := by
  rw [List.getD_eq_getElem?_getD, putS_eq [l] S p (by simp; omega)]
  rw [List.append_assoc, List.getElem?_append_right (by simp; omega)]
  have : p - (S.take p).length = 0 := by simp; omega
  rw [this]
  rfl
theorem parts_flat : ∀ (f : Nat) (b : List By), b.length ≤ f → ∃ z, ((partsF f b).map pad).flatten = b ++ z
  | 0, [], _ => ⟨[], rfl⟩
  | 0, _ :: _, h => by simp at h
  | _ + 1, [], _ => ⟨[], rfl⟩
  | f + 1, x :: xs, h => by
    rw [List.length_cons] at h
    obtain ⟨z, hz⟩ := parts_flat f ((x :: xs).drop 128) (by rw [List.length_drop, List.length_cons]; omega)
    rw [partsF, List.map_cons, List.flatten_cons, hz]
    by_cases hl : 128 ≤ (x :: xs).length
    · refine ⟨z, ?_⟩
      have : pad ((x :: xs).take 128) = (x :: xs).take 128 := by
        unfold pad
        have : ((x :: xs).take 128).length = 128 := by rw [List.length_take]; omega
        rw [this]; simp
      rw [this, ← List.append_assoc, List.take_append_drop]
    · refine ⟨List.replicate (128 - (x :: xs).length) 0#8 ++ z, ?_⟩
      rw [List.drop_eq_nil_of_le (by omega), List.nil_append]
      unfold pad
      rw [List.take_of_length_le (by omega), List.append_assoc]
theorem parts_single {l : List By} (h : l.length = 128) : parts l = [l] := by
  unfold parts
  rw [h]
  cases l with
  | nil => cases h
  | cons x xs =>
    rw [partsF, List.take_of_length_le (by omega), List.drop_eq_nil_of_le (by omega)]
    rfl
theorem pad_full {l : List By} (h : l.length = 128) : pad l = l := by
  unfold pad; rw [h]; simp

/-! Names. -/
theorem raw_laid (m : Nm) (h1 : m.number < 18446744073709551616) (h2 : m.first < 4294967296) (h3 : m.long < 18446744073709551616) : rawName m.laid = m := by
  have hs := m.sum.isLt
  unfold rawName Nm.laid Nm.body
  have e8 : ((mark8 ++ le 8 m.number ++ le 4 m.first ++ le 8 m.long ++ le 4 m.sum.toNat ++ List.replicate 96 0#8).drop 8).take 8 = le 8 m.number := by
    simp only [List.append_assoc]
    rw [List.drop_left' (by rfl), List.take_left' (le_length _ _)]
  have e16 : ((mark8 ++ le 8 m.number ++ le 4 m.first ++ le 8 m.long ++ le 4 m.sum.toNat ++ List.replicate 96 0#8).drop 16).take 4 = le 4 m.first := by
    rw [List.append_assoc, List.append_assoc, List.append_assoc, List.drop_left' (by simp [le_length, mark8]), List.take_left' (le_length _ _)]
  have e20 : ((mark8 ++ le 8 m.number ++ le 4 m.first ++ le 8 m.long ++ le 4 m.sum.toNat ++ List.replicate 96 0#8).drop 20).take 8 = le 8 m.long := by
    rw [List.append_assoc, List.append_assoc, List.drop_left' (by simp [le_length, mark8]), List.take_left' (le_length _ _)]
  have e28 : ((mark8 ++ le 8 m.number ++ le 4 m.first ++ le 8 m.long ++ le 4 m.sum.toNat ++ List.replicate 96 0#8).drop 28).take 4 = le 4 m.sum.toNat := by
    rw [List.append_assoc, List.drop_left' (by simp [le_length, mark8]), List.take_left' (le_length _ _)]
  rw [e8, e16, e20, e28, unle_le _ _ (by omega), unle_le _ _ (by omega), unle_le _ _ (by omega), unle_le _ _ (by omega), BitVec.ofNat_toNat, BitVec.setWidth_eq]
theorem nameOf_laid (m : Nm) (n : Nat) (hn : n ≤ 1000000) (h1 : 1 ≤ m.number) (h2 : m.number ≤ mostN) (h3 : 2 ≤ m.first) (h4 : 1 ≤ m.long) (h5 : m.first + secN m.long ≤ n) : nameOf n m.laid = m := by
  have hl : m.long ≤ n * 128 := by unfold secN at h5; omega
  have e := raw_laid m (by unfold mostN at h2; omega) (by omega) (by omega)
  unfold nameOf
  rw [e, if_pos]
  exact ⟨hl, by omega, by omega, h2, h3, h4, h5, rfl⟩
theorem nameOf_zsec (n : Nat) : nameOf n zsec = .zero := by
  unfold nameOf
  rw [if_neg]
  intro g
  have : (rawName zsec).number = 0 := by
    unfold rawName zsec
    simp only [List.drop_replicate, List.take_replicate, unle_zeros]
  exact g.2.2.1 this

end Pv

namespace Pv
open Go

/-- Sectors hold a map, and this is the newer name. -/
def RepM (S : List (List By)) (x : Nm) (p : Nat) (m : PM) : Prop :=
  newer S.length (S.getD 0 []) (S.getD 1 []) = (x, p) ∧ PairsOk m ∧ (x.number = 0 ∧ m = [] ∨ x.number ≠ 0 ∧ rawImg S x = image m ∧ x.sum = more 0#32 (image m))

theorem newer_place {n : Nat} {a b : List By} {x : Nm} {p : Nat} (h : newer n a b = (x, p)) : p ≤ 1 ∧ (x.number = 0 → x = .zero ∧ p = 1) ∧ (x.number ≠ 0 → 2 ≤ x.first ∧ 1 ≤ x.long) := by
  have pos : ∀ l, (nameOf n l).number ≠ 0 → 2 ≤ (nameOf n l).first ∧ 1 ≤ (nameOf n l).long := by
    intro l h
    rcases nameOf_fits n l with ⟨h1, -⟩ | h1
    · exact absurd h1 h
    · exact ⟨h1.2.2.2.2.1, h1.2.2.2.2.2.1⟩
  unfold newer at h
  split at h
  · rename_i hg
    cases h
    exact ⟨Nat.le_refl _, fun h => by omega, pos b⟩
  · split at h
    · rename_i hg
      cases h
      exact ⟨Nat.zero_le _, fun h => by omega, pos a⟩
    · cases h
      exact ⟨Nat.le_refl _, fun _ => ⟨rfl, rfl⟩, fun h => absurd rfl h⟩
theorem newer_next {n : Nat} {a b l : List By} {x y : Nm} {p : Nat} (h : newer n a b = (x, p)) (hl : nameOf n l = y) (hy : y.number = x.number + 1) :
    newer n (if p = 1 then l else a) (if p = 1 then b else l) = (y, 1 - p) := by
  unfold newer at h
  split at h
  · rename_i hg
    cases h
    rw [if_pos rfl, if_pos rfl]
    unfold newer
    rw [hl, if_neg (by omega), if_pos (by omega)]
  · split at h
    · rename_i hg1 hg
      cases h
      rw [if_neg (by decide), if_neg (by decide)]
      unfold newer
      rw [hl, if_pos (by omega)]
    · rename_i hg1 hg
      cases h
      rw [if_pos rfl, if_pos rfl]
      have : Nm.zero.number = 0 := rfl
      unfold newer
      rw [hl, if_neg (by omega), if_pos (by omega)]

theorem open_rep {S : List (List By)} {x : Nm} {p : Nat} {m : PM} (h : RepM S x p m) (hl : m.length ≤ 1000000000) : ∃ m', m'.Perm m ∧ openN S x p = .ok ⟨x, p, x.number, false, m'⟩ := by
  obtain ⟨h1, h2, h3⟩ := h
  rcases h3 with ⟨h3, rfl⟩ | ⟨h3, h4, h5⟩
  · refine ⟨[], List.Perm.refl _, ?_⟩
    unfold openN
    rw [if_pos h3, h3]
  · refine ⟨sorted m, sorted_perm m h2.1, ?_⟩
    unfold openN
    rw [if_neg h3, h4, if_neg (by simp [h5]), state_image m h2 (image_length_ge m) hl]

theorem rep_same {S : List (List By)} {x : Nm} {p : Nat} {m : PM} (h : RepM S x p m) (r : List (List By)) (q : Nat) (hq : 2 ≤ q) (hr : q + r.length ≤ S.length) (hd : x.number ≠ 0 → q + r.length ≤ x.first ∨ x.first + secN x.long ≤ q) :
    RepM (putS S q r) x p m := by
  obtain ⟨h1, h2, h3⟩ := h
  refine ⟨?_, h2, ?_⟩
  · rw [putS_length, getD_beside S r q 0 hr (.inl (by omega)), getD_beside S r q 1 hr (.inl (by omega))]
    exact h1
  · rcases h3 with h3 | ⟨h3, h4, h5⟩
    · exact .inl h3
    · refine .inr ⟨h3, ?_, h5⟩
      unfold rawImg at h4 ⊢
      rw [read_beside S r q x.first (secN x.long) hr (by have := hd h3; omega)]
      exact h4
theorem image_pos (m : PM) : 1 ≤ (image m).length := by
  unfold image
  rw [List.length_append, cput_length]
  have : 1 ≤ csize m.length := by unfold csize; split <;> (try split) <;> (try split) <;> omega
  omega
theorem secN_pos {n : Nat} (h : 1 ≤ n) : 1 ≤ secN n := by unfold secN; omega

theorem rep_new {S : List (List By)} (hn : S.length ≤ 1000000) {x : Nm} {p : Nat} {m next : PM} (h : RepM S x p m) (hx : x.number < mostN) (hnext : PairsOk next) (q : Nat) (hq : 2 ≤ q) (hr : q + secN (image next).length ≤ S.length)
    (hraw : readR S q (secN (image next).length) = ((parts (image next)).map pad).flatten) :
    RepM (putS S (1 - p) [(⟨x.number + 1, q, (image next).length, more 0#32 (image next)⟩ : Nm).laid]) ⟨x.number + 1, q, (image next).length, more 0#32 (image next)⟩ (1 - p) next := by
  obtain ⟨h1, h2, h3⟩ := h
  obtain ⟨hp, -, -⟩ := newer_place h1
  have hip := image_pos next
  have hsp := secN_pos hip
  have hname := nameOf_laid ⟨x.number + 1, q, (image next).length, more 0#32 (image next)⟩ S.length hn (by simp) hx hq hip hr
  have hnx := newer_next h1 hname rfl
  generalize hy : (⟨x.number + 1, q, (image next).length, more 0#32 (image next)⟩ : Nm) = y at *
  have hlen : 1 - p + [y.laid].length ≤ S.length := by simp only [List.length_cons, List.length_nil]; omega
  have hfull : pad y.laid = y.laid := pad_full (laid_len y)
  refine ⟨?_, hnext, .inr ⟨by rw [← hy]; exact Nat.succ_ne_zero _, ?_, by rw [← hy]⟩⟩
  · rw [putS_length]
    rcases Nat.le_one_iff_eq_zero_or_eq_one.1 hp with rfl | rfl
    · rw [getD_written S _ 1 (by omega), getD_beside S _ 1 0 (by simpa using hlen) (.inl (by omega)), hfull]
      simpa using hnx
    · rw [getD_written S _ 0 (by omega), getD_beside S _ 0 1 (by simpa using hlen) (.inr (by simp)), hfull]
      simpa using hnx
  · have hf : y.first = q := by rw [← hy]
    have hlg : y.long = (image next).length := by rw [← hy]
    unfold rawImg
    rw [hf, hlg, read_beside S _ (1 - p) q (secN (image next).length) hlen (.inr (by simp only [List.length_cons, List.length_nil]; omega)), hraw]
    obtain ⟨z, hz⟩ := parts_flat (image next).length (image next) (Nat.le_refl _)
    unfold parts
    rw [hz, List.take_left' rfl]

theorem gap_free {n : Nat} {x : Nm} {need q : Nat} {many : Int} (hg : gapR n x need = ((q : Int), many)) (hm : (need : Int) ≤ many) (hx : x.number ≠ 0 → 2 ≤ x.first) (hn : 2 ≤ n) (h1 : 1 ≤ need) :
    2 ≤ q ∧ q + need ≤ n ∨ 2 ≤ q ∧ x.first + secN x.long > n := by
  unfold gapR at hg
  split at hg
  · simp only [Prod.mk.injEq] at hg
    left; omega
  · rename_i h0
    have := hx h0
    split at hg
    · rename_i h2
      simp only [Prod.mk.injEq] at hg
      by_cases h : x.first + secN x.long > n
      · right; omega
      · left; omega
    · simp only [Prod.mk.injEq] at hg
      by_cases h : x.first + secN x.long > n
      · right; omega
      · left; omega
theorem gap_apart {n : Nat} {x : Nm} {need q : Nat} {many : Int} (hg : gapR n x need = ((q : Int), many)) (h0 : x.number ≠ 0) (hm : (need : Int) ≤ many) : q + need ≤ x.first ∨ x.first + secN x.long ≤ q := by
  unfold gapR at hg
  rw [if_neg h0] at hg
  split at hg
  · simp only [Prod.mk.injEq] at hg
    left; omega
  · simp only [Prod.mk.injEq] at hg
    right; omega

/-- What Commit leaves. -/
inductive Left (d : Dev) (x : Nm) (p : Nat) (m m' : PM) (l : List (Tx × Tx)) : Int × Sto × Dev → Prop where
  | same (e : Int) (he : e = 2 ∨ e = 7 ∨ e = 0 ∧ (applyL l m').Perm m') : Left d x p m m' l (e, ⟨x, p, x.number, false, m'⟩, d)
  | done (next : PM) (y : Nm) (d' : Dev) (h : applyC l m' = some next) (hy : y.number = x.number + 1) (hr : RepM d'.S y (1 - p) next) (ho : d'.off = false) (hok : d'.Ok) (hl : d'.S.length = d.S.length) (hw : d'.wr ≤ d.wr + 2) (hc : d'.wh ≤ d.wh) : Left d x p m m' l (0, ⟨y, 1 - p, x.number + 1, false, next⟩, d')
  | cut (next : PM) (d' : Dev) (h : applyC l m' = some next) (hr : RepM d'.S x p m ∨ ∃ y : Nm, y.number = x.number + 1 ∧ RepM d'.S y (1 - p) next) (ho : d'.off = true) (hok : d'.Ok) (hl : d'.S.length = d.S.length) (hw : d'.wr ≤ d.wr + 2) : Left d x p m m' l (36, ⟨x, p, x.number, true, m'⟩, d')

theorem commit_left (d : Dev) (hd : d.Ok) (hn : 3 ≤ d.S.length) (hoff : d.off = false) (hwr : d.wr < 1000) (x : Nm) (p : Nat) (m m' : PM) (hr : RepM d.S x p m) (hm' : m'.Perm m) (hx : x.number < mostN) (l : List (Tx × Tx)) :
    Left d x p m m' l (commitR d ⟨x, p, x.number, false, m'⟩ l) := by
  obtain ⟨h1, h2, h3⟩ := id hr
  have hlen := hd.len
  obtain ⟨hp, hz, hnz⟩ := newer_place h1
  have hin := newer_in d.S.length (d.S.getD 0 []) (d.S.getD 1 [])
  rw [h1] at hin
  simp only at hin
  have hk' : Keyed m' := h2.1.perm hm'.symm
  have hpo' : PairsOk m' := ⟨hk', fun y hy => h2.2 y (hm'.mem_iff.1 hy)⟩
  unfold commitR
  simp only
  cases hc : applyC l m' with
  | none => exact .same 2 (.inl rfl)
  | some next =>
    simp only
    obtain ⟨hnl, -⟩ := applyC_eq l m' next hc
    by_cases he : PM.eqb next m' = true
    · rw [if_pos he]
      refine .same 0 (.inr (.inr ⟨rfl, ?_⟩))
      rw [← hnl]
      exact eqb_perm (hnl ▸ applyL_keyed l hk') he
    rw [if_neg he, if_neg (by simp)]
    have hnp := pairsOk_apply hpo' hc
    have hip := image_pos next
    have hsp := secN_pos hip
    obtain ⟨q, many, hg⟩ : ∃ (q : Nat) (many : Int), gapR d.S.length x (secN (image next).length) = ((q : Int), many) := by
      have := gapR_lo d.S.length x (secN (image next).length) (by omega) hin.1
      exact ⟨(gapR d.S.length x (secN (image next).length)).1.toNat, (gapR d.S.length x (secN (image next).length)).2, by rw [Prod.ext_iff]; exact ⟨by simp only; omega, rfl⟩⟩
    rw [hg]
    simp only
    by_cases hfull : many < (secN (image next).length : Int) ∨ x.number = mostN
    · rw [if_pos hfull]
      exact .same 7 (.inr (.inl rfl))
    rw [if_neg hfull]
    have hm1 : (secN (image next).length : Int) ≤ many := by omega
    have hfree : 2 ≤ q ∧ q + secN (image next).length ≤ d.S.length := by
      rcases gap_free hg hm1 (fun h => (hnz h).1) (by omega) hsp with h | h
      · exact h
      · omega
    have hpl : (parts (image next)).length = secN (image next).length := parts_len _
    have hw1 : d.writeG (q : Int) (image next) = d.write q (image next) := by
      unfold Dev.writeG
      rw [if_neg]
      · rw [Int.toNat_natCast]
      · unfold mayR
        rw [if_neg (by omega), if_neg (by omega), hoff]
        simp
    rw [hw1]
    have hok1 := write_ok hd (by omega) q (image next)
    have hwr1 : (d.write q (image next)).2.wr = d.wr + 1 := by unfold Dev.write; split <;> rfl
    have hrep1 : RepM (d.write q (image next)).2.S x p m := by
      unfold Dev.write
      split
      · refine rep_same hr _ q hfree.1 (by rw [List.length_take]; omega) (fun h => ?_)
        have := gap_apart hg h hm1
        rw [List.length_take]; omega
      · refine rep_same hr _ q hfree.1 (by omega) (fun h => ?_)
        have := gap_apart hg h hm1
        omega
    by_cases hcut : d.cut = true ∧ d.wh = 0
    · have e1 : (d.write q (image next)).1 = 36 := by unfold Dev.write; rw [if_pos hcut]
      rw [if_pos (by rw [e1]; decide)]
      exact .cut next _ hc (.inl hrep1) (by unfold Dev.write; rw [if_pos hcut]) hok1.1 hok1.2 (by omega)
    · have e1 : (d.write q (image next)).1 = 0 := by unfold Dev.write; rw [if_neg hcut]
      rw [if_neg (by rw [e1]; decide)]
      have hS1 : (d.write q (image next)).2.S = putS d.S q (parts (image next)) := by unfold Dev.write; rw [if_neg hcut]
      have hoff1 : (d.write q (image next)).2.off = false := by unfold Dev.write; rw [if_neg hcut]; exact hoff
      have hwh1 : (d.write q (image next)).2.wh ≤ d.wh := by
        unfold Dev.write; rw [if_neg hcut]; simp only; split <;> omega
      generalize (d.write q (image next)).2 = d1 at *
      rw [Int.toNat_natCast]
      have hraw : readR d1.S q (secN (image next).length) = ((parts (image next)).map pad).flatten := by
        rw [hS1, ← hpl, read_written d.S _ q (by omega)]
      have hnew := rep_new (S := d1.S) (by omega) hrep1 hx hnp q hfree.1 (by omega) hraw
      generalize hy : (⟨x.number + 1, q, (image next).length, more 0#32 (image next)⟩ : Nm) = y at *
      have hw2 : d1.writeG ((1 - p : Nat) : Int) y.laid = d1.write (1 - p) y.laid := by
        unfold Dev.writeG
        rw [if_neg]
        · rw [Int.toNat_natCast]
        · rw [laid_len, hoff1]
          unfold mayR secN
          rw [if_neg (by omega), if_neg (by omega)]
          simp
      rw [hw2]
      have hok2 := write_ok hok1.1 (by omega) (1 - p) y.laid
      have hwr2 : (d1.write (1 - p) y.laid).2.wr = d1.wr + 1 := by unfold Dev.write; split <;> rfl
      have hps := parts_single (laid_len y)
      have hynum : y.number = x.number + 1 := by rw [← hy]
      by_cases hcut2 : d1.cut = true ∧ d1.wh = 0
      · have e2 : (d1.write (1 - p) y.laid).1 = 36 := by unfold Dev.write; rw [if_pos hcut2]
        rw [if_pos (by rw [e2]; decide)]
        refine .cut next _ hc ?_ (by unfold Dev.write; rw [if_pos hcut2]) hok2.1 (by omega) (by omega)
        have hS2 : (d1.write (1 - p) y.laid).2.S = putS d1.S (1 - p) ([y.laid].take d1.ke) := by unfold Dev.write; rw [if_pos hcut2, hps]
        rw [hS2]
        cases hke : d1.ke with
        | zero => left; exact hrep1
        | succ k =>
          right
          refine ⟨y, hynum, ?_⟩
          rw [List.take_succ_cons, List.take_nil]
          exact hnew
      · have e2 : (d1.write (1 - p) y.laid).1 = 0 := by unfold Dev.write; rw [if_neg hcut2]
        rw [if_neg (by rw [e2]; decide)]
        refine .done next y _ hc hynum ?_ ?_ hok2.1 (by omega) (by omega) ?_
        · have hS2 : (d1.write (1 - p) y.laid).2.S = putS d1.S (1 - p) [y.laid] := by unfold Dev.write; rw [if_neg hcut2, hps]
          rw [hS2]; exact hnew
        · unfold Dev.write; rw [if_neg hcut2]; exact hoff1
        · unfold Dev.write; rw [if_neg hcut2]; simp only; split <;> omega

end Pv
