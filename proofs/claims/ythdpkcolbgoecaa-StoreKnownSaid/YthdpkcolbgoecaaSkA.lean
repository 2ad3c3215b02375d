/- Plain laws of the store: a new device, and the chapters first answers. -/
import Derived.Test.YthdpkcolbgoecaaSlJ
import Derived.Test.YthdpkcolbgoecaaStK

namespace Pv
open Go

theorem extract_ba (s : Tx) (n : Nat) (h : n ≤ s.length) : (ba s).extract 0 n = ba (s.take n) := by
  apply ByteArray.ext
  apply Array.toList_inj.1
  simp [ba, ByteArray.data_extract, Array.toList_extract, List.map_take]
def prefixB (s w : Tx) : Bool := decide (w.length ≤ s.length ∧ s.take w.length = w)
theorem B60_law (s w : Tx) (k : Bool → Prop) (h : k (prefixB s w)) : B60 (ba s) (ba w) k := by
  unfold B60
  unfold prefixB at h
  simp only [ba_size]
  by_cases h1 : w.length ≤ s.length
  · refine cond_t (decide_eq_true (by rw [Int.ofNat_eq_natCast, Int.ofNat_eq_natCast]; omega)) ⟨Int.le_refl _, by rw [Int.ofNat_eq_natCast]; omega, by rw [Int.ofNat_eq_natCast, Int.ofNat_eq_natCast]; omega, ?_⟩
    rw [extract_ba s _ h1, ba_beq]
    have e : decide (s.take w.length = w) = decide (w.length ≤ s.length ∧ s.take w.length = w) := by
      rw [decide_eq_decide]; exact ⟨fun h => ⟨h1, h⟩, fun h => h.2⟩
    rw [e]; exact h
  · rw [decide_eq_false (fun h => h1 h.1)] at h
    exact cond_f (decide_eq_false (by rw [Int.ofNat_eq_natCast, Int.ofNat_eq_natCast]; omega)) h
theorem B38_law (s w : Tx) (k : Bool → Prop) (h : k (prefixB s w)) : B38 (ba s) (ba w) k := B60_law s w k h
theorem B17_law (d : Dev) (hS : Secs d.S) (hn : d.S.length ≤ 1000000) (ho : d.off = false) (p : Nat) (hp : p < d.S.length) (w : Tx) (k : Bool → Nat → Bool → Bool → Int → Int → Int → List PV → Prop) (h : k (prefixB (d.S.getD p []) w) d.S.length d.off d.cut d.wh d.ke d.wr (d.S.map sec)) : B17 p (ba w) d.S.length d.off d.cut d.wh d.ke d.wr (d.S.map sec) k := by
  unfold B17
  have hm : mayR d.S.length d.off p 1 = 0 := by
    unfold mayR; rw [if_neg (by omega), if_neg (by omega), ho]; rfl
  refine B25_law d.S hS hn p 1 d.off d.cut d.wh d.ke d.wr _ (fun g => absurd hm g) fun _ => cond_t (by decide) ?_
  have e : readR d.S (p : Int).toNat (1 : Int).toNat = d.S.getD p [] := by
    rw [Int.toNat_natCast]
    show readR d.S p 1 = _
    rw [readR_one d.S p hp, List.getD_eq_getElem?_getD, List.getElem?_eq_getElem hp]
    rfl
  rw [e, asBytes_bys]
  exact B38_law _ _ _ h

/-! A new device. -/
def newS (n : Nat) : List (List By) := List.replicate n zsec
def newD (n : Nat) : Dev := ⟨false, false, 0, 0, 0, newS n⟩
def newSto : Sto := ⟨.zero, 1, 0, false, []⟩
theorem newS_length (n : Nat) : (newS n).length = n := by simp [newS]
theorem newS_sec (n : Nat) : (newS n).map sec = List.replicate n (sec zsec) := by simp [newS]
theorem newD_ok {n : Nat} (h : n ≤ 700) : (newD n).Ok := ⟨by rw [show (newD n).S.length = n from newS_length n]; exact h, fun s hs => by
  have : s = zsec := List.eq_of_mem_replicate hs
  rw [this]; simp [zsec], Nat.zero_le _, Nat.zero_le _, Nat.zero_le _⟩
theorem newS_newer {n : Nat} (h : 3 ≤ n) : newer n ((newS n).getD 0 []) ((newS n).getD 1 []) = (.zero, 1) := by
  have e : ∀ i, i < n → (newS n).getD i [] = zsec := fun i hi => by
    rw [List.getD_eq_getElem?_getD, newS, List.getElem?_replicate, if_pos hi]; rfl
  rw [e 0 (by omega), e 1 (by omega)]
  unfold newer
  rw [nameOf_zsec]
  rfl
theorem newS_rep {n : Nat} (h : 3 ≤ n) : RepM (newS n) .zero 1 [] := by
  refine ⟨?_, ⟨by simp [Keyed], fun x hx => by cases hx⟩, .inl ⟨rfl, rfl⟩⟩
  rw [newS_length]
  exact newS_newer h
theorem openR_of {d : Dev} {x : Nm} {p : Nat} (hn : 3 ≤ d.S.length) (ho : d.off = false) (h : newer d.S.length (d.S.getD 0 []) (d.S.getD 1 []) = (x, p)) : openR d = openN d.S x p := by
  unfold openR
  rw [if_neg (by omega), if_neg (by omega), if_neg (by simp [ho]), h]
theorem open_new {n : Nat} (h : 3 ≤ n) : openR (newD n) = .ok newSto := by
  have hl : (newD n).S.length = n := newS_length n
  rw [openR_of (x := .zero) (p := 1) (by omega) rfl (by rw [hl]; exact newS_newer h)]
  rfl
theorem B7_new {n : Nat} (h : 3 ≤ n) (h2 : n ≤ 700) (k0 : Int → Nat → Bool → Bool → Int → Int → Int → List PV → Prop) (k1 : Nat → Bool → Bool → Int → Int → Int → List PV → Int → Int → Int → Int → Int → Int → List PV → Prop)
    (hk : k1 (newD n).S.length (newD n).off (newD n).cut (newD n).wh (newD n).ke (newD n).wr ((newD n).S.map sec) newSto.now.number newSto.now.first newSto.now.long newSto.now.sum.toNat newSto.place newSto.top (enc newSto.m)) :
    B7 n false false 0 0 0 (List.replicate n (sec zsec)) k0 k1 := by
  have := B7_law (newD n) (newD_ok h2) k0 k1 (fun e he => by rw [open_new h] at he; cases he) (fun s hs => by
    rw [open_new h] at hs
    cases hs
    exact hk)
  rw [show (newD n).S.length = n from newS_length n, show (newD n).S.map sec = List.replicate n (sec zsec) from newS_sec n] at this
  exact this

/-! The chapters first answers. -/
def givenM : PM := [([97#8], [49#8]), ([98#8], [50#8, 50#8])]
theorem given_keyed : Keyed givenM := by unfold Keyed; decide
theorem given_sort : sortK givenM = [[97#8], [98#8]] := by
  unfold sortK
  have : (givenM.map fun x => x.1.map UInt8.ofBitVec) = [[97], [98]] := rfl
  rw [this, List.mergeSort_of_pairwise (by decide)]
  rfl
theorem given_image : image givenM = [2#8, 1#8, 97#8, 1#8, 49#8, 1#8, 98#8, 2#8, 50#8, 50#8] := by
  unfold image
  rw [given_sort]
  rfl
def givenN : Nm := ⟨1, 2, 10, more 0#32 (image givenM)⟩
def givenS : List (List By) := [givenN.laid, zsec, pad (image givenM), zsec, zsec, zsec, zsec, zsec]
theorem given_commit : commitR (newD 8) newSto givenM = (0, ⟨givenN, 0, 1, false, givenM⟩, ⟨false, false, 0, 0, 2, givenS⟩) := by
  have e1 : applyC givenM newSto.m = some givenM := by decide
  have e2 : PM.eqb givenM newSto.m = false := by decide
  have hl : (image givenM).length = 10 := by rw [given_image]; rfl
  have hsec : secN (image givenM).length = 1 := by rw [hl]; rfl
  have hg : gapR (newD 8).S.length newSto.now (1 : Nat) = (2, 6) := by decide
  have hparts : parts (image givenM) = [image givenM] := by rw [given_image]; rfl
  have hw1 : (newD 8).writeG 2 (image givenM) = (0, ⟨false, false, 0, 0, 1, putS (newS 8) 2 [image givenM]⟩) := by
    unfold Dev.writeG Dev.write
    rw [hsec, hparts]
    rfl
  have hw2 : ∀ S : List (List By), S.length = 8 → (⟨false, false, 0, 0, 1, S⟩ : Dev).writeG ((1 - 1 : Nat) : Int) givenN.laid = (0, ⟨false, false, 0, 0, 2, putS S 0 [givenN.laid]⟩) := by
    intro S hS
    have hps := parts_single (laid_len givenN)
    unfold Dev.writeG Dev.write
    rw [hps, laid_len]
    simp only
    rw [hS]
    rfl
  unfold commitR
  rw [e1]
  simp only
  rw [e2, hsec, hg]
  simp only
  rw [hw1]
  simp only
  have hn : (⟨newSto.top + 1, (2 : Int).toNat, (image givenM).length, more 0#32 (image givenM)⟩ : Nm) = givenN := by rw [hl]; rfl
  rw [hn, show newSto.place = 1 from rfl, hw2 _ (by rw [putS_length, newS_length])]
  have hS : putS (putS (newS 8) 2 [image givenM]) 0 [givenN.laid] = givenS := by
    simp [putS, newS, List.replicate, givenS, pad_full (laid_len givenN)]
  simp only
  rw [hS]
  rfl

set_option maxRecDepth 20000 in
theorem B5_law (k : Bool → Prop) (h : k true) : B5 k := by
  unfold B5 B14
  refine B6_law 8 _ _ (fun h => by omega) fun _ _ => ?_
  refine (show B7 8 false false 0 0 0 (List.replicate 8 (sec zsec)) _ _ from ?_)
  have hok : (newD 8).Ok := newD_ok (by omega)
  have hl8 : (newD 8).S.length = 8 := rfl
  refine B7_new (by omega) (by omega) _ _ ?_
  refine B16_law (newD 8) newSto ⟨by decide, (fun x hx => by cases hx), by simp [Keyed, newSto]⟩ _ ?_
  have es : sortK newSto.m = [] := by simp [sortK, newSto]
  rw [es]
  refine cond_t (by decide) ?_
  refine B22_law (newD 8) newSto (by omega) (by omega) (by decide) _ ?_
  have er : roomR (newD 8).S.length newSto.now = 768 := by decide
  rw [er]
  refine cond_t (by decide) ?_
  refine ⟨⟨rfl, ?_⟩, ⟨rfl, ?_⟩, by decide, ?_⟩
  · intro c hc
    simp only [flat, flats, List.mem_append, List.mem_singleton] at hc
    rcases hc with rfl | rfl | hc
    · trivial
    · trivial
    · cases hc
  · intro c hc
    simp only [flat, flats, List.mem_append, List.mem_singleton] at hc
    rcases hc with rfl | rfl | hc
    · trivial
    · trivial
    · cases hc
  refine (show B10 (enl givenM) newSto.now.number newSto.now.first newSto.now.long newSto.now.sum.toNat newSto.place newSto.top newSto.off (newD 8).S.length (newD 8).off (newD 8).cut (newD 8).wh (newD 8).ke (newD 8).wr (enc newSto.m) ((newD 8).S.map sec) _ _ from ?_)
  refine B10_law (newD 8) hok (by decide) (by omega) newSto (by decide) (by decide) (by decide) givenM (by decide) (fun next hnext => ?_) _ _ (fun r s' d' hc hm => ?_) (fun s' d' hc => ?_)
  · have : applyC givenM newSto.m = some givenM := by decide
    rw [this] at hnext
    cases hnext
    exact ⟨⟨by decide, by decide, given_keyed⟩, by rw [given_image]; decide⟩
  · rw [given_commit] at hc
    cases hc
    cases hm
  · rw [given_commit] at hc
    cases hc
    unfold J5_4
    have hd' : (⟨false, false, 0, 0, 2, givenS⟩ : Dev).Ok := ⟨by decide, fun s hs => by
      unfold givenS at hs
      simp only [List.mem_cons, List.not_mem_nil, or_false] at hs
      have hz : zsec.length = 128 := by simp [zsec]
      have hp : (pad (image givenM)).length = 128 := pad_len (by rw [given_image]; decide)
      rcases hs with e | e | e | e | e | e | e | e <;> rw [e]
      · exact laid_len _
      · exact hz
      · exact hp
      · exact hz
      · exact hz
      · exact hz
      · exact hz
      · exact hz, by decide, by decide, by decide⟩
    refine (show B20 (ba [98#8]) _ _ _ _ _ _ _ _ _ _ _ _ _ _ _ _ from ?_)
    refine B20_law [98#8] ⟨false, false, 0, 0, 2, givenS⟩ ⟨givenN, 0, 1, false, givenM⟩ _ ?_
    refine cond_t (by decide) (cond_t (show ((ba [50#8, 50#8]).toList == (ba [50#8, 50#8]).toList) = true by rw [ba_beq]; rfl) ?_)
    refine B16_law ⟨false, false, 0, 0, 2, givenS⟩ ⟨givenN, 0, 1, false, givenM⟩ ⟨by decide, by decide, given_keyed⟩ _ ?_
    refine cond_t ?_ ?_
    · show decide (Int.ofNat (strs (sortK givenM)).length = 2) = true
      rw [given_sort]; rfl
    · refine (show B17 (0 : Nat) (ba [83#8, 80#8, 73#8, 78#8, 78#8, 69#8, 89#8, 49#8, 1#8, 0#8, 0#8, 0#8, 0#8, 0#8, 0#8, 0#8, 2#8, 0#8, 0#8, 0#8, 10#8]) _ _ _ _ _ _ _ _ from ?_)
      refine B17_law ⟨false, false, 0, 0, 2, givenS⟩ hd'.secs (by decide) rfl 0 (by decide) _ _ ?_
      refine cond_t ?_ ?_
      · exact decide_eq_true ⟨by show _ ≤ givenN.laid.length; rw [laid_len]; decide, rfl⟩
      · refine (show B17 (2 : Nat) (ba [2#8, 1#8, 97#8, 1#8, 49#8, 1#8, 98#8, 2#8, 50#8, 50#8, 0#8]) _ _ _ _ _ _ _ _ from ?_)
        refine B17_law ⟨false, false, 0, 0, 2, givenS⟩ hd'.secs (by decide) rfl 2 (by decide) _ _ ?_
        have : prefixB (givenS.getD 2 []) [2#8, 1#8, 97#8, 1#8, 49#8, 1#8, 98#8, 2#8, 50#8, 50#8, 0#8] = true := by
          show prefixB (pad (image givenM)) _ = true
          rw [given_image]
          rfl
        rw [this]
        exact h

end Pv

namespace Pv
open Go

/-- A commit that is written. -/
theorem commit_done (d : Dev) (s : Sto) (l : List (Tx × Tx)) (next : PM) (b : List By) (q : Nat) (many : Int) (N : Nm) (h1 : applyC l s.m = some next) (h2 : PM.eqb next s.m = false) (hb : image next = b) (hg : gapR d.S.length s.now (secN b.length) = ((q : Int), many)) (ho : s.off = false) (hm : (secN b.length : Int) ≤ many)
    (ht : s.top ≠ mostN) (hoff : d.off = false) (hcut : d.cut = false) (hq : q + secN b.length ≤ d.S.length) (h1b : 1 ≤ secN b.length) (hp : s.place ≤ 1) (hn : 2 ≤ d.S.length) (hN : N = ⟨s.top + 1, q, b.length, more 0#32 b⟩) :
    commitR d s l = (0, ⟨N, 1 - s.place, s.top + 1, false, next⟩, { d with wr := d.wr + 2, S := putS (putS d.S q (parts b)) (1 - s.place) [N.laid] }) := by
  obtain ⟨off, cut, wh, ke, wr, S⟩ := d
  simp only at *
  subst hoff hcut
  have hw1 : (⟨false, false, wh, ke, wr, S⟩ : Dev).writeG (q : Int) b = (0, ⟨false, false, wh, ke, wr + 1, putS S q (parts b)⟩) := by
    unfold Dev.writeG Dev.write
    have : mayR S.length false (q : Int) (secN b.length) = 0 := by
      unfold mayR
      rw [if_neg (by omega), if_neg (by omega)]
      rfl
    simp only
    rw [this, if_neg (by simp), if_neg (by simp), Int.toNat_natCast]
    rfl
  have hw2 : (⟨false, false, wh, ke, wr + 1, putS S q (parts b)⟩ : Dev).writeG ((1 - s.place : Nat) : Int) N.laid = (0, ⟨false, false, wh, ke, wr + 2, putS (putS S q (parts b)) (1 - s.place) [N.laid]⟩) := by
    unfold Dev.writeG Dev.write
    have : mayR (putS S q (parts b)).length false ((1 - s.place : Nat) : Int) (secN N.laid.length) = 0 := by
      rw [putS_length, laid_len]
      unfold mayR secN
      rw [if_neg (by omega), if_neg (by omega)]
      rfl
    simp only
    rw [this, if_neg (by simp), if_neg (by simp), Int.toNat_natCast, parts_single (laid_len N)]
    rfl
  unfold commitR
  rw [h1]
  simp only
  rw [h2, hb, hg, ho]
  simp only
  rw [if_neg (by simp), if_neg (by simp), if_neg (by rintro (h | h); exact absurd hm (by omega); exact ht h), hw1, if_neg (by simp), Int.toNat_natCast, ← hN]
  simp only
  rw [hw2]
  rfl

/-! The states, one behind the other. -/
def ka : Tx := [97#8]
def kc : Tx := [99#8]
def m1 : PM := [(ka, [49#8])]
def N2 : Nm := ⟨2, 3, 5, more 0#32 (image m1)⟩
def S2 : List (List By) := [givenN.laid, N2.laid, pad (image givenM), pad (image m1), zsec, zsec, zsec, zsec]
def D1 : Dev := ⟨false, false, 0, 0, 2, givenS⟩
def D2 : Dev := ⟨false, false, 0, 0, 4, S2⟩
def s1 : Sto := ⟨givenN, 0, 1, false, givenM⟩
def s2 : Sto := ⟨N2, 1, 2, false, m1⟩
theorem m1_sort : sortK m1 = [ka] := by
  unfold sortK
  have : (m1.map fun x => x.1.map UInt8.ofBitVec) = [[97]] := rfl
  rw [this, List.mergeSort_of_pairwise (by decide)]
  rfl
theorem m1_image : image m1 = [1#8, 1#8, 97#8, 1#8, 49#8] := by
  unfold image
  rw [m1_sort]
  rfl
theorem m1_keyed : Keyed m1 := by unfold Keyed; decide
theorem commit2 : commitR D1 s1 [([98#8], [])] = (0, s2, D2) := by
  have hl : (image m1).length = 5 := by rw [m1_image]; rfl
  have hparts : parts (image m1) = [image m1] := by rw [m1_image]; rfl
  rw [commit_done D1 s1 _ m1 (image m1) 3 5 N2 (by decide) (by decide) rfl (by rw [hl]; decide) rfl (by rw [hl]; decide) (by decide) rfl rfl (by rw [hl]; decide) (by rw [hl]; decide) (by decide) (by decide) (by rw [hl]; rfl)]
  rw [hparts]
  have hS : putS (putS D1.S 3 [image m1]) (1 - s1.place) [N2.laid] = S2 := by
    simp [putS, D1, givenS, s1, S2, pad_full (laid_len N2)]
  rw [hS]
  rfl
def big (n : Nat) : Tx := List.replicate n 120#8
def m3 : PM := [(ka, [49#8]), (kc, big 500)]
def m9 : PM := [(ka, [49#8]), (kc, big 900)]
theorem m39_sort (n : Nat) : sortK [(ka, [49#8]), (kc, big n)] = [ka, kc] := by
  unfold sortK
  have : (([(ka, [49#8]), (kc, big n)] : PM).map fun x => x.1.map UInt8.ofBitVec) = [[97], [99]] := rfl
  rw [this, List.mergeSort_of_pairwise (by decide)]
  rfl
theorem m39_get (n : Nat) : PM.get kc [(ka, [49#8]), (kc, big n)] = some (big n) := rfl
theorem m39_image (n : Nat) : image [(ka, [49#8]), (kc, big n)] = [2#8, 1#8, 97#8, 1#8, 49#8, 1#8, 99#8] ++ cput n ++ big n := by
  unfold image
  rw [m39_sort]
  have e : (big n).length = n := by simp [big]
  simp only [List.flatMap_cons, List.flatMap_nil, imgK, m39_get, Option.getD_some, e, List.append_nil]
  rfl
theorem big_len (n : Nat) : (big n).length = n := List.length_replicate
theorem applyC_one (p : Tx × Tx) (m : PM) (h : mayP p = true) (h2 : p.2 ≠ []) : applyC [p] m = some (PM.put p.1 p.2 m) := by
  rw [applyC, if_pos h, applyC, applyP, if_neg h2]
theorem may_big (n : Nat) (h : n ≤ 1048576) : mayP (kc, big n) = true := by
  unfold mayP
  rw [big_len]
  exact decide_eq_true ⟨show 1 ≤ kc.length by decide, show kc.length ≤ 40 by decide, h⟩
theorem big_ne (n : Nat) (h : 0 < n) : big n ≠ [] := fun e => by have := big_len n; rw [e] at this; simp at this; omega
theorem m3_len : (image m3).length = 510 := by
  unfold m3
  rw [m39_image, List.length_append, List.length_append, cput_length, big_len]
  rfl
theorem m9_len : (image m9).length = 910 := by
  unfold m9
  rw [m39_image, List.length_append, List.length_append, cput_length, big_len]
  rfl
def N3 : Nm := ⟨3, 4, 510, more 0#32 (image m3)⟩
def s3 : Sto := ⟨N3, 0, 3, false, m3⟩
def S3 : List (List By) := putS (putS S2 4 (parts (image m3))) 0 [N3.laid]
def D3 : Dev := ⟨false, false, 0, 0, 6, S3⟩
theorem commit3 : commitR D2 s2 [(kc, big 500)] = (0, s3, D3) := by
  have hl := m3_len
  rw [commit_done D2 s2 _ m3 (image m3) 4 4 N3 (applyC_one (kc, big 500) _ (may_big _ (by decide)) (big_ne _ (by decide))) rfl rfl (by rw [hl]; decide) rfl (by rw [hl]; decide) (by decide) rfl rfl (by rw [hl]; decide) (by rw [hl]; decide) (by decide) (by decide) (by rw [hl]; rfl)]
  rfl
theorem commit9 : commitR D2 s2 [(kc, big 900)] = (7, s2, D2) := by
  have hl : (image m9).length = 910 := m9_len
  have h1 : applyC [(kc, big 900)] s2.m = some m9 := applyC_one (kc, big 900) _ (may_big _ (by decide)) (big_ne _ (by decide))
  have h2 : PM.eqb m9 s2.m = false := rfl
  unfold commitR
  rw [h1]
  simp only
  rw [h2, hl, if_neg (by simp), if_neg (by decide), if_pos (.inl (by decide))]
theorem commitE : commitR D2 s2 [([], [49#8])] = (2, s2, D2) := rfl
theorem commit41 : commitR D2 s2 [(big 41, [49#8])] = (2, s2, D2) := by
  have : applyC [(big 41, [49#8])] s2.m = none := by
    rw [applyC, if_neg]
    unfold mayP
    rw [big_len]
    decide
  unfold commitR
  rw [this]
theorem commitA : commitR D2 s2 [(ka, [49#8])] = (0, s2, D2) := rfl

/-! The last device: two sectors written over. -/
def S4 : List (List By) := putS (putS S3 3 [[9#8]]) 4 [[9#8]]
def D4 : Dev := ⟨false, false, 0, 0, 8, S4⟩
theorem m3_image : image m3 = [2#8, 1#8, 97#8, 1#8, 49#8, 1#8, 99#8, 253#8, 244#8, 1#8] ++ big 500 := by
  unfold m3
  rw [m39_image]
  rfl
def raw4 : List By := pad [9#8] ++ ([2#8, 1#8, 97#8, 1#8, 49#8, 1#8, 99#8, 253#8, 244#8, 1#8] ++ big 500).drop 128
theorem sums_differ : decide (more 0#32 raw4 = more 0#32 ([2#8, 1#8, 97#8, 1#8, 49#8, 1#8, 99#8, 253#8, 244#8, 1#8] ++ big 500)) = false := by kernel_rfl

theorem raw4_eq : rawImg S4 N3 = raw4 := by
  have hp : (parts (image m3)).length = 4 := by rw [parts_len, m3_len]; rfl
  have e1 : readR S4 4 4 = pad [9#8] ++ (((parts (image m3)).map pad).drop 1).flatten := by
    unfold S4 S3
    obtain ⟨a, b, c, e, hpe⟩ : ∃ a b c e, parts (image m3) = [a, b, c, e] := by
      match h : parts (image m3), hp with
      | [a, b, c, e], _ => exact ⟨a, b, c, e, rfl⟩
    rw [hpe]
    rfl
  have e2 : ((parts (image m3)).map pad).drop 1 = (parts ((image m3).drop 128)).map pad := by
    rw [m3_image]
    kernel_rfl
  obtain ⟨z, hz⟩ := parts_flat ((image m3).drop 128).length ((image m3).drop 128) (Nat.le_refl _)
  unfold rawImg
  show (readR S4 4 4).take 510 = raw4
  rw [e1, e2]
  unfold parts
  rw [hz]
  have hl : ((image m3).drop 128).length = 382 := by rw [List.length_drop, m3_len]
  have h9 : (pad [9#8] ++ (image m3).drop 128).length = 510 := by rw [List.length_append, hl]; rfl
  rw [← List.append_assoc, List.take_left' h9]
  unfold raw4
  rw [m3_image]
theorem newer4 : newer 8 (S4.getD 0 []) (S4.getD 1 []) = (N3, 0) := by
  have e0 : S4.getD 0 [] = N3.laid := by
    unfold S4 S3
    have hp : (parts (image m3)).length = 4 := by rw [parts_len, m3_len]; rfl
    have hl2 : S2.length = 8 := rfl
    rw [getD_beside _ _ 4 0 (by rw [putS_length, putS_length, putS_length]; decide) (.inl (by decide)), getD_beside _ _ 3 0 (by rw [putS_length, putS_length]; decide) (.inl (by decide)), getD_written _ _ 0 (by rw [putS_length]; decide), pad_full (laid_len _)]
  have e1 : S4.getD 1 [] = N2.laid := by
    unfold S4 S3
    have hp : (parts (image m3)).length = 4 := by rw [parts_len, m3_len]; rfl
    rw [getD_beside _ _ 4 1 (by rw [putS_length, putS_length, putS_length]; decide) (.inl (by decide)), getD_beside _ _ 3 1 (by rw [putS_length, putS_length]; decide) (.inl (by decide)), getD_beside _ _ 0 1 (by rw [putS_length]; decide) (.inr (by decide)), getD_beside _ _ 4 1 (by rw [hp]; decide) (.inl (by decide))]
    rfl
  rw [e0, e1]
  unfold newer
  rw [nameOf_laid N3 8 (by decide) (by decide) (by decide) (by decide) (by decide) (by decide), nameOf_laid N2 8 (by decide) (by decide) (by decide) (by decide) (by decide) (by decide)]
  rfl
theorem open4 : openR D4 = .err 4 := by
  have hl : D4.S.length = 8 := by
    show S4.length = 8
    unfold S4 S3
    rw [putS_length, putS_length, putS_length, putS_length]
    rfl
  rw [openR_of (d := D4) (x := N3) (p := 0) (by omega) rfl (by rw [hl]; exact newer4)]
  unfold openN
  show (if N3.number = 0 then _ else if more 0#32 (rawImg S4 N3) ≠ N3.sum then OpenR.err 4 else _) = _
  rw [raw4_eq, if_neg (by decide), if_pos]
  intro h
  have := sums_differ
  rw [← m3_image] at this
  have h2 : more 0#32 raw4 = more 0#32 (image m3) := h
  rw [h2] at this
  simp at this
end Pv

namespace Pv
open Go

theorem B18_law (d : Dev) (k : Int → Nat → Bool → Bool → Int → Int → Int → List PV → Prop) (h : k d.wr d.S.length d.off d.cut d.wh d.ke d.wr (d.S.map sec)) : B18 d.S.length d.off d.cut d.wh d.ke d.wr (d.S.map sec) k := h
theorem elemOk36 (a b : ByteArray) : elemOk pvT 36 (.agg [.str a, .str b]) := by
  refine ⟨rfl, fun c hc => ?_⟩
  simp only [flat, flats, List.mem_append, List.mem_singleton] at hc
  rcases hc with rfl | rfl | hc
  · trivial
  · trivial
  · cases hc
theorem B15_law (k : List PV → Prop) (h : k (enl givenM)) : B15 k := ⟨elemOk36 _ _, elemOk36 _ _, h⟩
theorem B14_law (k0 : Prop) (k1 : Nat → Bool → Bool → Int → Int → Int → Int → Int → Int → Int → Int → Int → List PV → List PV → Prop)
    (h : k1 (newD 8).S.length (newD 8).off (newD 8).cut (newD 8).wh (newD 8).ke (newD 8).wr newSto.now.number newSto.now.first newSto.now.long newSto.now.sum.toNat newSto.place newSto.top ((newD 8).S.map sec) (enc newSto.m)) : B14 k0 k1 := by
  unfold B14
  refine B6_law 8 _ _ (fun h => by omega) fun _ _ => ?_
  refine (show B7 8 false false 0 0 0 (List.replicate 8 (sec zsec)) _ _ from ?_)
  exact B7_new (by omega) (by omega) _ _ h

/-- A commit whose outcome is known. -/
theorem B10_is (d : Dev) (hd : d.Ok) (hwr : d.wr < 100000) (hn : 2 ≤ d.S.length) (s : Sto) (hp : s.place ≤ 1) (htop : s.top ≤ mostN) (hf : s.now.first + secN s.now.long ≤ d.S.length) (l : List (Tx × Tx)) (hl : l.length ≤ 1000000)
    (hsz : ∀ next, applyC l s.m = some next → KeysOk next ∧ (image next).length ≤ 50000000) (r : Int) (s' : Sto) (d' : Dev) (hc : commitR d s l = (r, s', d'))
    (k0 : Int → Int → Int → Int → Int → Int → Int → Bool → Nat → Bool → Bool → Int → Int → Int → List PV → List PV → Prop) (k1 : Int → Int → Int → Int → Int → Int → Bool → Nat → Bool → Bool → Int → Int → Int → List PV → List PV → List PV → Prop)
    (h0 : s'.m = s.m → k0 r s'.now.number s'.now.first s'.now.long s'.now.sum.toNat s'.place s'.top s'.off d'.S.length d'.off d'.cut d'.wh d'.ke d'.wr (enc s.m) (d'.S.map sec))
    (h1 : r = 0 → k1 s'.now.number s'.now.first s'.now.long s'.now.sum.toNat s'.place s'.top s'.off d'.S.length d'.off d'.cut d'.wh d'.ke d'.wr (enc s.m) (d'.S.map sec) (enc s'.m)) :
    B10 (enl l) s.now.number s.now.first s.now.long s.now.sum.toNat s.place s.top s.off d.S.length d.off d.cut d.wh d.ke d.wr (enc s.m) (d.S.map sec) k0 k1 :=
  B10_law d hd hwr hn s hp htop hf l hl hsz k0 k1 (fun r2 s2 d2 h hm => by
    rw [hc] at h
    cases h
    exact h0 hm) (fun s2 d2 h => by
    rw [hc] at h
    cases h
    exact h1 rfl)

theorem givenS_secs : Secs givenS := by
  intro s hs
  unfold givenS at hs
  simp only [List.mem_cons, List.not_mem_nil, or_false] at hs
  have hz : zsec.length = 128 := by simp [zsec]
  have hp : (pad (image givenM)).length = 128 := pad_len (by rw [given_image]; decide)
  rcases hs with e | e | e | e | e | e | e | e <;> rw [e]
  · exact laid_len _
  · exact hz
  · exact hp
  · exact hz
  · exact hz
  · exact hz
  · exact hz
  · exact hz
theorem D1_ok : D1.Ok := ⟨by decide, givenS_secs, by decide, by decide, by decide⟩
theorem S2_secs : Secs S2 := by
  intro s hs
  unfold S2 at hs
  simp only [List.mem_cons, List.not_mem_nil, or_false] at hs
  have hz : zsec.length = 128 := by simp [zsec]
  have hp : (pad (image givenM)).length = 128 := pad_len (by rw [given_image]; decide)
  have hq : (pad (image m1)).length = 128 := pad_len (by rw [m1_image]; decide)
  rcases hs with e | e | e | e | e | e | e | e <;> rw [e]
  · exact laid_len _
  · exact laid_len _
  · exact hp
  · exact hq
  · exact hz
  · exact hz
  · exact hz
  · exact hz
theorem D2_ok : D2.Ok := ⟨by decide, S2_secs, by decide, by decide, by decide⟩
theorem D3_ok : D3.Ok := by
  have h : D3.S.length = 8 := by
    show S3.length = 8
    unfold S3
    rw [putS_length, putS_length]
    rfl
  refine ⟨by omega, ?_, by decide, by decide, by decide⟩
  show Secs S3
  unfold S3
  refine putS_secs _ _ _ (putS_secs _ _ _ S2_secs (partsF_le _ _)) (fun c hc => ?_)
  rw [List.mem_singleton] at hc
  rw [hc, laid_len]
  exact Nat.le_refl _

theorem small (l : List (Tx × Tx)) (m : PM) (h : ∀ next, applyC l m = some next → KeysOk next ∧ (image next).length ≤ 50000000) : ∀ next, applyC l m = some next → KeysOk next ∧ (image next).length ≤ 50000000 := h
theorem size_big (n : Nat) (h1 : 0 < n) (h : n ≤ 1048576) : ∀ next, applyC [(kc, big n)] m1 = some next → KeysOk next ∧ (image next).length ≤ 50000000 := by
  intro next e
  rw [applyC_one (kc, big n) _ (may_big _ h) (big_ne _ h1)] at e
  cases e
  refine ⟨⟨(show 2 ≤ 1000000 by decide), fun x hx => ?_, ?_⟩, ?_⟩
  · rcases List.mem_cons.1 hx with rfl | hx
    · decide
    · rcases List.mem_cons.1 hx with rfl | hx
      · show kc.length ≤ 65536
        decide
      · cases hx
  · unfold Keyed
    show ([ka, kc] : List Tx).Nodup
    decide
  · show (image [(ka, [49#8]), (kc, big n)]).length ≤ 50000000
    rw [m39_image, List.length_append, List.length_append, big_len, cput_length]
    have : csize n ≤ 9 := by unfold csize; split <;> (try split) <;> (try split) <;> omega
    simp only [List.length_cons, List.length_nil]
    omega

theorem rep_big (n : Nat) : repT (ByteArray.mk #[120]) n = ba (big n) := by
  unfold repT big ba
  rw [Int.toNat_natCast]
  congr 2
  induction n with
  | zero => rfl
  | succ n ih => rw [List.replicate_succ, List.flatten_cons, ih, List.replicate_succ, List.map_cons]; rfl

theorem J23_law (ai aj ak al av aw : Int) (ax : Bool) (k : Bool → Prop) (h : k true) : J4_23 2 1 false 4 ai aj ak al av aw ax k := by
  unfold J4_23
  refine cond_t (by decide) (cond_t (by decide) (B15_law _ ⟨by decide, ?_⟩))
  exact h
theorem write9 (d : Dev) (hd : d.Ok) (ho : d.off = false) (hc : d.cut = false) (p : Nat) (hp : p < d.S.length) : d.writeG p [9#8] = (0, { d with wr := d.wr + 1, S := putS d.S p [[9#8]] }) := by
  obtain ⟨off, cut, wh, ke, wr, S⟩ := d
  simp only at *
  subst ho hc
  unfold Dev.writeG Dev.write
  have : mayR S.length false (p : Int) (secN ([9#8] : List By).length) = 0 := by
    unfold mayR
    have e : secN ([9#8] : List By).length = 1 := rfl
    rw [e, if_neg (by omega), if_neg (by omega)]
    rfl
  simp only
  rw [this, if_neg (by simp), if_neg (by simp), Int.toNat_natCast]
  rfl
theorem J14_law (k : Bool → Prop) (h : k true) : J4_14 D3.S.length D3.off D3.cut D3.wh D3.ke D3.wr (D3.S.map sec) k := by
  have hl : D3.S.length = 8 := by
    show S3.length = 8
    unfold S3
    rw [putS_length, putS_length]
    rfl
  have key : J4_16 2 D3.S.length D3.off D3.cut D3.wh D3.ke D3.wr (D3.S.map sec) k := by
    unfold J4_16 B7n B23n J4_17 J4_18 J4_19 B20n B29n J4_20
    refine ⟨by decide, ?_⟩
    refine (show B21 (3 : Nat) (bys [9#8]) D3.S.length D3.off D3.cut D3.wh D3.ke D3.wr (D3.S.map sec) _ from ?_)
    refine B21_g D3 D3_ok [9#8] (by decide) _ _ ?_
    rw [write9 D3 D3_ok rfl rfl 3 (by omega)]
    unfold J4_21
    refine ⟨by decide, ?_⟩
    have hd2 : ({ D3 with wr := D3.wr + 1, S := putS D3.S 3 [[9#8]] } : Dev).Ok :=
      ⟨by rw [show ({ D3 with wr := D3.wr + 1, S := putS D3.S 3 [[9#8]] } : Dev).S = putS D3.S 3 [[9#8]] from rfl, putS_length]; omega, putS_secs _ _ _ D3_ok.secs (fun c hc => by rw [List.mem_singleton] at hc; rw [hc]; decide), by decide, by decide, by decide⟩
    refine (show B21 (4 : Nat) (bys [9#8]) ({ D3 with wr := D3.wr + 1, S := putS D3.S 3 [[9#8]] } : Dev).S.length ({ D3 with wr := D3.wr + 1, S := putS D3.S 3 [[9#8]] } : Dev).off ({ D3 with wr := D3.wr + 1, S := putS D3.S 3 [[9#8]] } : Dev).cut ({ D3 with wr := D3.wr + 1, S := putS D3.S 3 [[9#8]] } : Dev).wh ({ D3 with wr := D3.wr + 1, S := putS D3.S 3 [[9#8]] } : Dev).ke ({ D3 with wr := D3.wr + 1, S := putS D3.S 3 [[9#8]] } : Dev).wr (({ D3 with wr := D3.wr + 1, S := putS D3.S 3 [[9#8]] } : Dev).S.map sec) _ from ?_)
    refine B21_g _ hd2 [9#8] (by decide) _ _ ?_
    rw [write9 _ hd2 rfl rfl 4 (by rw [show ({ D3 with wr := D3.wr + 1, S := putS D3.S 3 [[9#8]] } : Dev).S = putS D3.S 3 [[9#8]] from rfl, putS_length]; omega)]
    unfold J4_22
    have hd4 : D4.Ok := ⟨by show S4.length ≤ 700; unfold S4; rw [putS_length, putS_length]; show D3.S.length ≤ 700; omega, by
      show Secs S4
      unfold S4
      exact putS_secs _ _ _ (putS_secs _ _ _ D3_ok.secs (fun c hc => by rw [List.mem_singleton] at hc; rw [hc]; decide)) (fun c hc => by rw [List.mem_singleton] at hc; rw [hc]; decide), by decide, by decide, by decide⟩
    refine (show B7 D4.S.length D4.off D4.cut D4.wh D4.ke D4.wr (D4.S.map sec) _ _ from ?_)
    refine B7_law D4 hd4 _ _ (fun e he => ?_) (fun s hs => by rw [open4] at hs; cases hs)
    rw [open4] at he
    cases he
    exact J23_law _ _ _ _ _ _ _ _ h
  unfold J4_14
  refine B6_law 2 _ _ (fun h => by omega) fun _ _ => ?_
  refine (show B7 2 false false 0 0 0 (List.replicate 2 (sec zsec)) _ _ from ?_)
  have := B7_law (newD 2) (newD_ok (by omega)) (fun aj _ _ _ _ _ _ _ => J4_16 aj D3.S.length D3.off D3.cut D3.wh D3.ke D3.wr (D3.S.map sec) k) (fun _ _ _ _ _ _ _ _ _ _ _ _ _ _ => J4_16 0 D3.S.length D3.off D3.cut D3.wh D3.ke D3.wr (D3.S.map sec) k) (fun e he => by
    cases he
    exact key) (fun s hs => by cases hs)
  exact this
end Pv

namespace Pv
open Go

theorem s2_hyp : s2.now.first + secN s2.now.long ≤ D2.S.length := by decide
theorem m1_ok : KeysOk m1 := ⟨by decide, by decide, m1_keyed⟩
theorem sz_none (l : List (Tx × Tx)) (m : PM) (h : applyC l m = none) : ∀ next, applyC l m = some next → KeysOk next ∧ (image next).length ≤ 50000000 := fun next e => by rw [h] at e; cases e
theorem take_big (a b : Nat) (h : a ≤ b) : (big b).take a = big a := by
  unfold big
  rw [List.take_replicate, Nat.min_eq_left h]
theorem J12_law (k : Bool → Prop) (h : k true) : J4_12 4 (ba (big 900)) D2.S.length D2.off D2.cut D2.wh D2.ke D2.wr s2.now.number s2.now.first s2.now.long s2.now.sum.toNat s2.place s2.top s2.off (D2.S.map sec) (enc s2.m) k := by
  unfold J4_12
  refine ⟨elemOk36 _ _, by decide, ?_⟩
  refine (show B10 (enl [(kc, big 900)]) s2.now.number s2.now.first s2.now.long s2.now.sum.toNat s2.place s2.top s2.off D2.S.length D2.off D2.cut D2.wh D2.ke D2.wr (enc s2.m) (D2.S.map sec) _ _ from ?_)
  refine B10_is D2 D2_ok (by decide) (by decide) s2 (by decide) (by decide) s2_hyp [(kc, big 900)] (by simp) (size_big 900 (by decide) (by decide)) 7 s2 D2 commit9 _ _ (fun _ => ?_) (fun h => by cases h)
  refine cond_t (by decide) ⟨elemOk36 _ _, by decide, ?_⟩
  refine (show B10 (enl [(([] : Tx), [49#8])]) s2.now.number s2.now.first s2.now.long s2.now.sum.toNat s2.place s2.top s2.off D2.S.length D2.off D2.cut D2.wh D2.ke D2.wr (enc s2.m) (D2.S.map sec) _ _ from ?_)
  refine B10_is D2 D2_ok (by decide) (by decide) s2 (by decide) (by decide) s2_hyp [([], [49#8])] (by simp) (sz_none _ _ (by decide)) 2 s2 D2 commitE _ _ (fun _ => ?_) (fun h => by cases h)
  refine cond_t (by decide) ⟨by decide, by decide, by rw [ba_size, big_len]; decide, elemOk36 _ _, by decide, ?_⟩
  have e41 : (ba (big 900)).extract 0 41 = ba (big 41) := by
    rw [extract_ba _ _ (by rw [big_len]; decide)]
    exact congrArg ba (take_big 41 900 (by decide))
  have e500 : (ba (big 900)).extract 0 500 = ba (big 500) := by
    rw [extract_ba _ _ (by rw [big_len]; decide)]
    exact congrArg ba (take_big 500 900 (by decide))
  rw [e41, e500]
  refine (show B10 (enl [(big 41, [49#8])]) s2.now.number s2.now.first s2.now.long s2.now.sum.toNat s2.place s2.top s2.off D2.S.length D2.off D2.cut D2.wh D2.ke D2.wr (enc s2.m) (D2.S.map sec) _ _ from ?_)
  have h41 : applyC [(big 41, [49#8])] s2.m = none := by
    rw [applyC, if_neg]
    unfold mayP
    rw [big_len]
    decide
  refine B10_is D2 D2_ok (by decide) (by decide) s2 (by decide) (by decide) s2_hyp [(big 41, [49#8])] (by simp) (sz_none _ _ h41) 2 s2 D2 commit41 _ _ (fun _ => ?_) (fun h => by cases h)
  refine cond_t (by decide) ⟨elemOk36 _ _, by decide, ?_⟩
  refine (show B10 (enl [(ka, [49#8])]) s2.now.number s2.now.first s2.now.long s2.now.sum.toNat s2.place s2.top s2.off D2.S.length D2.off D2.cut D2.wh D2.ke D2.wr (enc s2.m) (D2.S.map sec) _ _ from ?_)
  have last : B18 D2.S.length D2.off D2.cut D2.wh D2.ke D2.wr (D2.S.map sec) (fun b2 aA bd be bf bg bh b3 => cond (!(!decide (b2 = 4)))
      (0 ≤ (0 : Int) ∧ (0 : Int) ≤ (500 : Int) ∧ (500 : Int) ≤ (Int.ofNat (ByteArray.size (ba (big 900)))) ∧ elemOk pvT 36 (.agg [(.str (ByteArray.mk #[99])), (.str (ba (big 500)))]) ∧ (0 + 1 ≤ (List.length (α := PV) [(.agg [(.str (ByteArray.mk #[99])), (.str (ba (big 500)))])]) ∧ B10 (rowPart [(.agg [(.str (ByteArray.mk #[99])), (.str (ba (big 500)))])] 0 1) s2.now.number s2.now.first s2.now.long s2.now.sum.toNat s2.place s2.top s2.off aA bd be bf bg bh (enc s2.m) b3 (fun b4 _ _ _ _ _ _ _ aB bi bj bk bl bm _ b5 => cond (!decide (b4 = 0)) (k false) (J4_14 aB bi bj bk bl bm b5 (fun b6 => k b6))) (fun _ _ _ _ _ _ _ aC bn bo bp bq br _ b7 _ => J4_14 aC bn bo bp bq br b7 (fun b8 => k b8))))
      (k false)) := by
    refine B18_law D2 _ (cond_t (by decide) ⟨by decide, by decide, by rw [ba_size, big_len]; decide, elemOk36 _ _, by decide, ?_⟩)
    refine (show B10 (enl [(kc, big 500)]) s2.now.number s2.now.first s2.now.long s2.now.sum.toNat s2.place s2.top s2.off D2.S.length D2.off D2.cut D2.wh D2.ke D2.wr (enc s2.m) (D2.S.map sec) _ _ from ?_)
    exact B10_is D2 D2_ok (by decide) (by decide) s2 (by decide) (by decide) s2_hyp [(kc, big 500)] (by simp) (size_big 500 (by decide) (by decide)) 0 s3 D3 commit3 _ _ (fun _ => cond_f (by decide) (J14_law k h)) (fun _ => J14_law k h)
  refine B10_is D2 D2_ok (by decide) (by decide) s2 (by decide) (by decide) s2_hyp [(ka, [49#8])] (by simp) (fun next e => ?_) 0 s2 D2 commitA _ _ (fun _ => cond_t (by decide) ?_) (fun _ => ?_)
  · have : applyC [(ka, [49#8])] s2.m = some m1 := by decide
    rw [this] at e
    cases e
    exact ⟨m1_ok, by rw [m1_image]; decide⟩
  · exact last
  · exact last
set_option maxRecDepth 20000 in
theorem J7_law (k : Bool → Prop) (h : k true) : J4_7 D2.S.length D2.off D2.cut D2.wh D2.ke D2.wr (D2.S.map sec) k := by
  unfold J4_7
  have hop : openR D2 = .ok s2 := by
    have hn : newer D2.S.length (D2.S.getD 0 []) (D2.S.getD 1 []) = (N2, 1) := by
      show newer 8 givenN.laid N2.laid = (N2, 1)
      unfold newer
      rw [nameOf_laid N2 8 (by decide) (by decide) (by decide) (by decide) (by decide) (by decide), nameOf_laid givenN 8 (by decide) (by decide) (by decide) (by decide) (by decide) (by decide)]
      rfl
    rw [openR_of (d := D2) (x := N2) (p := 1) (by decide) rfl hn]
    have hraw : rawImg D2.S N2 = image m1 := by
      show (pad (image m1) ++ []).take 5 = image m1
      rw [m1_image]
      rfl
    have hst : stateR (image m1) = some (sorted m1) := state_image m1 ⟨m1_keyed, by decide⟩ (image_length_ge m1) (by decide)
    have hso : sorted m1 = m1 := by
      unfold sorted
      rw [m1_sort]
      rfl
    unfold openN
    rw [if_neg (by decide), hraw, if_neg (by simp [N2]), hst, hso]
    rfl
  refine B7_law D2 D2_ok _ _ (fun e he => by rw [hop] at he; cases he) (fun s hs => ?_)
  rw [hop] at hs
  cases hs
  refine (show B16 s2.now.number s2.now.first s2.now.long s2.now.sum.toNat s2.place s2.top s2.off D2.S.length D2.off D2.cut D2.wh D2.ke D2.wr (enc s2.m) (D2.S.map sec) _ from ?_)
  refine B16_law D2 s2 m1_ok _ ?_
  have es : (sortK s2.m).map (fun x => PV.str (ba x)) = strs [ka] := by
    show strs (sortK m1) = _
    rw [m1_sort]
  rw [es]
  refine cond_t (by decide) ?_
  refine (show B16 s2.now.number s2.now.first s2.now.long s2.now.sum.toNat s2.place s2.top s2.off D2.S.length D2.off D2.cut D2.wh D2.ke D2.wr (enc s2.m) (D2.S.map sec) _ from ?_)
  refine B16_law D2 s2 m1_ok _ ?_
  rw [es]
  refine ⟨by decide, ?_⟩
  refine (show elemAt (strs [ka]) 0 _ from ?_)
  refine elem_strs (by decide) ?_
  refine (show cond (!(!(ByteArray.toList (ba ka) == ByteArray.toList (ba ka)))) _ _ from ?_)
  refine cond_t (by rw [ba_beq]; rfl) ?_
  refine (show B17 (1 : Nat) (ba [83#8, 80#8, 73#8, 78#8, 78#8, 69#8, 89#8, 49#8, 2#8, 0#8, 0#8, 0#8, 0#8, 0#8, 0#8, 0#8, 3#8]) D2.S.length D2.off D2.cut D2.wh D2.ke D2.wr (D2.S.map sec) _ from ?_)
  refine B17_law D2 S2_secs (by decide) rfl 1 (by decide) _ _ ?_
  have hp1 : prefixB (D2.S.getD 1 []) [83#8, 80#8, 73#8, 78#8, 78#8, 69#8, 89#8, 49#8, 2#8, 0#8, 0#8, 0#8, 0#8, 0#8, 0#8, 0#8, 3#8] = true :=
    decide_eq_true ⟨by show _ ≤ N2.laid.length; rw [laid_len]; decide, rfl⟩
  rw [hp1]
  refine cond_t rfl ?_
  refine (show B17 (3 : Nat) (ba [1#8, 1#8, 97#8, 1#8, 49#8, 0#8]) D2.S.length D2.off D2.cut D2.wh D2.ke D2.wr (D2.S.map sec) _ from ?_)
  refine B17_law D2 S2_secs (by decide) rfl 3 (by decide) _ _ ?_
  have hp3 : prefixB (D2.S.getD 3 []) [1#8, 1#8, 97#8, 1#8, 49#8, 0#8] = true := by
    show prefixB (pad (image m1)) _ = true
    rw [m1_image]
    rfl
  rw [hp3]
  refine cond_f rfl ?_
  unfold J4_10
  refine B18_law D2 _ ?_
  unfold J4_11
  refine ⟨by decide, by decide, by decide, by decide, ?_⟩
  have hrep := rep_big 900
  rw [show ((900 : Nat) : Int) = 900 from rfl] at hrep
  rw [hrep]
  exact J12_law k h
theorem J5_law (k : Bool → Prop) (h : k true) : J4_5 D1.S.length D1.off D1.cut D1.wh D1.ke D1.wr s1.now.number s1.now.first s1.now.long s1.now.sum.toNat s1.place s1.top s1.off (D1.S.map sec) (enc s1.m) k := by
  unfold J4_5
  refine ⟨elemOk36 _ _, by decide, ?_⟩
  refine (show B10 (enl [([98#8], [])]) s1.now.number s1.now.first s1.now.long s1.now.sum.toNat s1.place s1.top s1.off D1.S.length D1.off D1.cut D1.wh D1.ke D1.wr (enc s1.m) (D1.S.map sec) _ _ from ?_)
  refine B10_is D1 D1_ok (by decide) (by decide) s1 (by decide) (by decide) (by decide) [([98#8], [])] (by simp) (fun next e => ?_) 0 s2 D2 commit2 _ _ (fun _ => cond_f (by decide) (J7_law k h)) (fun _ => J7_law k h)
  have : applyC [([98#8], [])] s1.m = some m1 := by decide
  rw [this] at e
  cases e
  exact ⟨m1_ok, by rw [m1_image]; decide⟩
theorem B4_law (k : Bool → Prop) (h : k true) : B4 k := by
  unfold B4 J4_1
  refine B14_law _ _ (B5_law _ (cond_t rfl ?_))
  unfold J4_4
  refine B15_law _ ⟨by decide, ?_⟩
  refine (show B10 (enl givenM) newSto.now.number newSto.now.first newSto.now.long newSto.now.sum.toNat newSto.place newSto.top newSto.off (newD 8).S.length (newD 8).off (newD 8).cut (newD 8).wh (newD 8).ke (newD 8).wr (enc newSto.m) ((newD 8).S.map sec) _ _ from ?_)
  refine B10_is (newD 8) (newD_ok (by omega)) (by decide) (by decide) newSto (by decide) (by decide) (by decide) givenM (by decide) (fun next hnext => ?_) 0 s1 D1 given_commit _ _ (fun hm => by cases hm) (fun _ => ?_)
  · have : applyC givenM newSto.m = some givenM := by decide
    rw [this] at hnext
    cases hnext
    exact ⟨⟨by decide, by decide, given_keyed⟩, by rw [given_image]; decide⟩
  · exact J5_law k h
end Pv
