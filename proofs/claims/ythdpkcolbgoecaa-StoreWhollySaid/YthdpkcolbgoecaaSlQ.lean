/- Plain laws of the store: a new device, and the chapters first answers. -/
import Derived.Test.YthdpkcolbgoecaaSlJ

namespace Pv
open Go

theorem extract_ba (s : Tx) (n : Nat) (h : n ≤ s.length) : (ba s).extract 0 n = ba (s.take n) := by
  apply ByteArray.ext
  apply Array.toList_inj.1
  simp [ba, ByteArray.data_extract, Array.toList_extract, List.map_take]
def prefixB (s w : Tx) : Bool := decide (w.length ≤ s.length ∧ s.take w.length = w)
theorem B60_law (s w : Tx) (k : Bool → Prop) (h : k (prefixB s w)) : B60 (ba s) (ba w) k := by
  unfold B60
  unfold prefixB at h
  simp only [ba_size]
  by_cases h1 : w.length ≤ s.length
  · refine cond_t (decide_eq_true (by rw [Int.ofNat_eq_natCast, Int.ofNat_eq_natCast]; omega)) ⟨Int.le_refl _, by rw [Int.ofNat_eq_natCast]; omega, by rw [Int.ofNat_eq_natCast, Int.ofNat_eq_natCast]; omega, ?_⟩
    rw [extract_ba s _ h1, ba_beq]
    have e : decide (s.take w.length = w) = decide (w.length ≤ s.length ∧ s.take w.length = w) := by
      rw [decide_eq_decide]; exact ⟨fun h => ⟨h1, h⟩, fun h => h.2⟩
    rw [e]; exact h
  · rw [decide_eq_false (fun h => h1 h.1)] at h
    exact cond_f (decide_eq_false (by rw [Int.ofNat_eq_natCast, Int.ofNat_eq_natCast]; omega)) h
theorem B38_law (s w : Tx) (k : Bool → Prop) (h : k (prefixB s w)) : B38 (ba s) (ba w) k := B60_law s w k h
theorem B17_law (d : Dev) (hS : Secs d.S) (hn : d.S.length ≤ 1000000) (ho : d.off = false) (p : Nat) (hp : p < d.S.length) (w : Tx) (k : Bool → Nat → Bool → Bool → Int → Int → Int → List PV → Prop) (h : k (prefixB (d.S.getD p []) w) d.S.length d.off d.cut d.wh d.ke d.wr (d.S.map sec)) : B17 p (ba w) d.S.length d.off d.cut d.wh d.ke d.wr (d.S.map sec) k := by
  unfold B17
  have hm : mayR d.S.length d.off p 1 = 0 := by
    unfold mayR; rw [if_neg (by omega), if_neg (by omega), ho]; rfl
  refine B25_law d.S hS hn p 1 d.off d.cut d.wh d.ke d.wr _ (fun g => absurd hm g) fun _ => cond_t (by decide) ?_
  have e : readR d.S (p : Int).toNat (1 : Int).toNat = d.S.getD p [] := by
    rw [Int.toNat_natCast]
    show readR d.S p 1 = _
    rw [readR_one d.S p hp, List.getD_eq_getElem?_getD, List.getElem?_eq_getElem hp]
    rfl
  rw [e, asBytes_bys]
  exact B38_law _ _ _ h

/-! A new device. -/
def newS (n : Nat) : List (List By) := List.replicate n zsec
def newD (n : Nat) : Dev := ⟨false, false, 0, 0, 0, newS n⟩
def newSto : Sto := ⟨.zero, 1, 0, false, []⟩
theorem newS_length (n : Nat) : (newS n).length = n := by simp [newS]
theorem newS_sec (n : Nat) : (newS n).map sec = List.replicate n (sec zsec) := by simp [newS]
theorem newD_ok {n : Nat} (h : n ≤ 700) : (newD n).Ok := ⟨by rw [show (newD n).S.length = n from newS_length n]; exact h, fun s hs => by
  have : s = zsec := List.eq_of_mem_replicate hs
  rw [this]; simp [zsec], Nat.zero_le _, Nat.zero_le _, Nat.zero_le _⟩
theorem newS_newer {n : Nat} (h : 3 ≤ n) : newer n ((newS n).getD 0 []) ((newS n).getD 1 []) = (.zero, 1) := by
  have e : ∀ i, i < n → (newS n).getD i [] = zsec := fun i hi => by
    rw [List.getD_eq_getElem?_getD, newS, List.getElem?_replicate, if_pos hi]; rfl
  rw [e 0 (by omega), e 1 (by omega)]
  unfold newer
  rw [nameOf_zsec]
  rfl
theorem newS_rep {n : Nat} (h : 3 ≤ n) : RepM (newS n) .zero 1 [] := by
  refine ⟨?_, ⟨by simp [Keyed], fun x hx => by cases hx⟩, .inl ⟨rfl, rfl⟩⟩
  rw [newS_length]
  exact newS_newer h
theorem openR_of {d : Dev} {x : Nm} {p : Nat} (hn : 3 ≤ d.S.length) (ho : d.off = false) (h : newer d.S.length (d.S.getD 0 []) (d.S.getD 1 []) = (x, p)) : openR d = openN d.S x p := by
  unfold openR
  rw [if_neg (by omega), if_neg (by omega), if_neg (by simp [ho]), h]
theorem open_new {n : Nat} (h : 3 ≤ n) : openR (newD n) = .ok newSto := by
  have hl : (newD n).S.length = n := newS_length n
  rw [openR_of (x := .zero) (p := 1) (by omega) rfl (by rw [hl]; exact newS_newer h)]
  rfl
theorem B7_new {n : Nat} (h : 3 ≤ n) (h2 : n ≤ 700) (k0 : Int → Nat → Bool → Bool → Int → Int → Int → List PV → Prop) (k1 : Nat → Bool → Bool → Int → Int → Int → List PV → Int → Int → Int → Int → Int → Int → List PV → Prop)
    (hk : k1 (newD n).S.length (newD n).off (newD n).cut (newD n).wh (newD n).ke (newD n).wr ((newD n).S.map sec) newSto.now.number newSto.now.first newSto.now.long newSto.now.sum.toNat newSto.place newSto.top (enc newSto.m)) :
    B7 n false false 0 0 0 (List.replicate n (sec zsec)) k0 k1 := by
  have := B7_law (newD n) (newD_ok h2) k0 k1 (fun e he => by rw [open_new h] at he; cases he) (fun s hs => by
    rw [open_new h] at hs
    cases hs
    exact hk)
  rw [show (newD n).S.length = n from newS_length n, show (newD n).S.map sec = List.replicate n (sec zsec) from newS_sec n] at this
  exact this

/-! The chapters first answers. -/
def givenM : PM := [([97#8], [49#8]), ([98#8], [50#8, 50#8])]
theorem given_keyed : Keyed givenM := by unfold Keyed; decide
theorem given_sort : sortK givenM = [[97#8], [98#8]] := by
  unfold sortK
  have : (givenM.map fun x => x.1.map UInt8.ofBitVec) = [[97], [98]] := rfl
  rw [this, List.mergeSort_of_pairwise (by decide)]
  rfl
theorem given_image : image givenM = [2#8, 1#8, 97#8, 1#8, 49#8, 1#8, 98#8, 2#8, 50#8, 50#8] := by
  unfold image
  rw [given_sort]
  rfl
def givenN : Nm := ⟨1, 2, 10, more 0#32 (image givenM)⟩
def givenS : List (List By) := [givenN.laid, zsec, pad (image givenM), zsec, zsec, zsec, zsec, zsec]
theorem given_commit : commitR (newD 8) newSto givenM = (0, ⟨givenN, 0, 1, false, givenM⟩, ⟨false, false, 0, 0, 2, givenS⟩) := by
  have e1 : applyC givenM newSto.m = some givenM := by decide
  have e2 : PM.eqb givenM newSto.m = false := by decide
  have hl : (image givenM).length = 10 := by rw [given_image]; rfl
  have hsec : secN (image givenM).length = 1 := by rw [hl]; rfl
  have hg : gapR (newD 8).S.length newSto.now (1 : Nat) = (2, 6) := by decide
  have hparts : parts (image givenM) = [image givenM] := by rw [given_image]; rfl
  have hw1 : (newD 8).writeG 2 (image givenM) = (0, ⟨false, false, 0, 0, 1, putS (newS 8) 2 [image givenM]⟩) := by
    unfold Dev.writeG Dev.write
    rw [hsec, hparts]
    rfl
  have hw2 : ∀ S : List (List By), S.length = 8 → (⟨false, false, 0, 0, 1, S⟩ : Dev).writeG ((1 - 1 : Nat) : Int) givenN.laid = (0, ⟨false, false, 0, 0, 2, putS S 0 [givenN.laid]⟩) := by
    intro S hS
    have hps := parts_single (laid_len givenN)
    unfold Dev.writeG Dev.write
    rw [hps, laid_len]
    simp only
    rw [hS]
    rfl
  unfold commitR
  rw [e1]
  simp only
  rw [e2, hsec, hg]
  simp only
  rw [hw1]
  simp only
  have hn : (⟨newSto.top + 1, (2 : Int).toNat, (image givenM).length, more 0#32 (image givenM)⟩ : Nm) = givenN := by rw [hl]; rfl
  rw [hn, show newSto.place = 1 from rfl, hw2 _ (by rw [putS_length, newS_length])]
  have hS : putS (putS (newS 8) 2 [image givenM]) 0 [givenN.laid] = givenS := by
    simp [putS, newS, List.replicate, givenS, pad_full (laid_len givenN)]
  simp only
  rw [hS]
  rfl

set_option maxRecDepth 20000 in
theorem B5_law (k : Bool → Prop) (h : k true) : B5 k := by
  unfold B5 B14
  refine B6_law 8 _ _ (fun h => by omega) fun _ _ => ?_
  refine (show B7 8 false false 0 0 0 (List.replicate 8 (sec zsec)) _ _ from ?_)
  have hok : (newD 8).Ok := newD_ok (by omega)
  have hl8 : (newD 8).S.length = 8 := rfl
  refine B7_new (by omega) (by omega) _ _ ?_
  refine B16_law (newD 8) newSto ⟨by decide, (fun x hx => by cases hx), by simp [Keyed, newSto]⟩ _ ?_
  have es : sortK newSto.m = [] := by simp [sortK, newSto]
  rw [es]
  refine cond_t (by decide) ?_
  refine B22_law (newD 8) newSto (by omega) (by omega) (by decide) _ ?_
  have er : roomR (newD 8).S.length newSto.now = 768 := by decide
  rw [er]
  refine cond_t (by decide) ?_
  refine ⟨⟨rfl, ?_⟩, ⟨rfl, ?_⟩, by decide, ?_⟩
  · intro c hc
    simp only [flat, flats, List.mem_append, List.mem_singleton] at hc
    rcases hc with rfl | rfl | hc
    · trivial
    · trivial
    · cases hc
  · intro c hc
    simp only [flat, flats, List.mem_append, List.mem_singleton] at hc
    rcases hc with rfl | rfl | hc
    · trivial
    · trivial
    · cases hc
  refine (show B10 (enl givenM) newSto.now.number newSto.now.first newSto.now.long newSto.now.sum.toNat newSto.place newSto.top newSto.off (newD 8).S.length (newD 8).off (newD 8).cut (newD 8).wh (newD 8).ke (newD 8).wr (enc newSto.m) ((newD 8).S.map sec) _ _ from ?_)
  refine B10_law (newD 8) hok (by decide) (by omega) newSto (by decide) (by decide) (by decide) givenM (by decide) (fun next hnext => ?_) _ _ (fun r s' d' hc hm => ?_) (fun s' d' hc => ?_)
  · have : applyC givenM newSto.m = some givenM := by decide
    rw [this] at hnext
    cases hnext
    exact ⟨⟨by decide, by decide, given_keyed⟩, by rw [given_image]; decide⟩
  · rw [given_commit] at hc
    cases hc
    cases hm
  · rw [given_commit] at hc
    cases hc
    unfold J5_4
    have hd' : (⟨false, false, 0, 0, 2, givenS⟩ : Dev).Ok := ⟨by decide, fun s hs => by
      unfold givenS at hs
      simp only [List.mem_cons, List.not_mem_nil, or_false] at hs
      have hz : zsec.length = 128 := by simp [zsec]
      have hp : (pad (image givenM)).length = 128 := pad_len (by rw [given_image]; decide)
      rcases hs with e | e | e | e | e | e | e | e <;> rw [e]
      · exact laid_len _
      · exact hz
      · exact hp
      · exact hz
      · exact hz
      · exact hz
      · exact hz
      · exact hz, by decide, by decide, by decide⟩
    refine (show B20 (ba [98#8]) _ _ _ _ _ _ _ _ _ _ _ _ _ _ _ _ from ?_)
    refine B20_law [98#8] ⟨false, false, 0, 0, 2, givenS⟩ ⟨givenN, 0, 1, false, givenM⟩ _ ?_
    refine cond_t (by decide) (cond_t (show ((ba [50#8, 50#8]).toList == (ba [50#8, 50#8]).toList) = true by rw [ba_beq]; rfl) ?_)
    refine B16_law ⟨false, false, 0, 0, 2, givenS⟩ ⟨givenN, 0, 1, false, givenM⟩ ⟨by decide, by decide, given_keyed⟩ _ ?_
    refine cond_t ?_ ?_
    · show decide (Int.ofNat (strs (sortK givenM)).length = 2) = true
      rw [given_sort]; rfl
    · refine (show B17 (0 : Nat) (ba [83#8, 80#8, 73#8, 78#8, 78#8, 69#8, 89#8, 49#8, 1#8, 0#8, 0#8, 0#8, 0#8, 0#8, 0#8, 0#8, 2#8, 0#8, 0#8, 0#8, 10#8]) _ _ _ _ _ _ _ _ from ?_)
      refine B17_law ⟨false, false, 0, 0, 2, givenS⟩ hd'.secs (by decide) rfl 0 (by decide) _ _ ?_
      refine cond_t ?_ ?_
      · exact decide_eq_true ⟨by show _ ≤ givenN.laid.length; rw [laid_len]; decide, rfl⟩
      · refine (show B17 (2 : Nat) (ba [2#8, 1#8, 97#8, 1#8, 49#8, 1#8, 98#8, 2#8, 50#8, 50#8, 0#8]) _ _ _ _ _ _ _ _ from ?_)
        refine B17_law ⟨false, false, 0, 0, 2, givenS⟩ hd'.secs (by decide) rfl 2 (by decide) _ _ ?_
        have : prefixB (givenS.getD 2 []) [2#8, 1#8, 97#8, 1#8, 49#8, 1#8, 98#8, 2#8, 50#8, 50#8, 0#8] = true := by
          show prefixB (pad (image givenM)) _ = true
          rw [given_image]
          rfl
        rw [this]
        exact h

end Pv

namespace Pv
open Go

structure Bat where
  L : List (Tx × Tx)
  cut : Bool
  wh : Nat
  ke : Nat
def enB (b : Bat) : PV := .agg [.list 36 (enl b.L), .bool b.cut, .int .u8 b.wh, .int .u8 b.ke]
def enBs (l : List Bat) : List PV := l.map enB
theorem enBs_length (l : List Bat) : (enBs l).length = l.length := by simp [enBs]
theorem elem_enBs {l : List Bat} {i : Nat} {K : PV → Prop} (h : i < l.length) (hK : K (enB l[i])) : elemAt (enBs l) i K := by
  unfold elemAt enBs
  rw [List.getElem?_map, List.getElem?_eq_getElem h]
  exact hK
theorem sub_enB0 (b : Bat) (K : PV → Prop) : subK (enB b) [0] K = K (.list 36 (enl b.L)) := rfl
theorem sub_enB1 (b : Bat) (K : PV → Prop) : subK (enB b) [1] K = K (.bool b.cut) := rfl
theorem sub_enB2 (b : Bat) (K : PV → Prop) : subK (enB b) [2] K = K (.int .u8 b.wh) := rfl
theorem sub_enB3 (b : Bat) (K : PV → Prop) : subK (enB b) [3] K = K (.int .u8 b.ke) := rfl
theorem sub_enP1 (p : Tx × Tx) (K : PV → Prop) : subK (enP p) [1] K = K (.str (ba p.2)) := rfl
theorem asList_36 (l : List PV) (K : List PV → Prop) : asListK 36 (.list 36 l) K = K l := rfl
theorem asBool_b (b : Bool) (K : Bool → Prop) : asBoolK (.bool b) K = K b := rfl
theorem asInt_u8 (n : Int) (K : Int → Prop) : asIntK .u8 (.int .u8 n) K = K n := rfl

/-- What is true ahead of a batch. -/
structure Inv (i : Nat) (now : PM) (d : Dev) (s : Sto) : Prop where
  ok : d.Ok
  off : d.off = false
  lo : 3 ≤ d.S.length
  wr : d.wr ≤ 2 * i
  ex : ∃ (m m' : PM) (x : Nm) (p : Nat), RepM d.S x p m ∧ s = ⟨x, p, x.number, false, m'⟩ ∧ m'.Perm m ∧ now.Perm m ∧ x.number ≤ i ∧ m.length ≤ 8 * i ∧ ∀ y ∈ m, y.2.length ≤ 2000

abbrev K3 := List PV → Nat → Bool → Bool → Int → Int → Int → Int → Int → Int → Int → Int → Int → Bool → List PV → List PV → Prop
def K3.at (k : K3) (now : PM) (d : Dev) (s : Sto) : Prop := k (enc now) d.S.length d.off d.cut d.wh d.ke d.wr s.now.number s.now.first s.now.long s.now.sum.toNat s.place s.top s.off (d.S.map sec) (enc s.m)

theorem J3_33_law (t1 : List PV) (now next : PM) (i : Int) (d : Dev) (s : Sto) (hs : KeysOk s.m) (off : Bool) (k : K3) (h1 : off = false → K3.at k now d s) (h2 : off = true → hasR s.m next = true → K3.at k next d s) (h3 : off = true → hasR s.m next = false → K3.at k now d s) :
    J3_33 t1 (enc now) i (enc next) off d.S.length d.off d.cut d.wh d.ke d.wr s.now.number s.now.first s.now.long s.now.sum.toNat s.place s.top s.off (d.S.map sec) (enc s.m) k := by
  unfold J3_33
  cases off with
  | false => exact cond_f rfl (h1 rfl)
  | true =>
    refine cond_t rfl (B11_law next d s hs _ ?_)
    cases hh : hasR s.m next with
    | true => exact cond_t rfl (h2 rfl hh)
    | false => exact cond_f rfl (h3 rfl hh)

def Dev.re (d : Dev) : Dev := { d with off := false, cut := false }
/-- Started anew, and opened: the state is that which is held. -/
theorem J3_26_law (t1 : List PV) (now next : PM) (i : Nat) (d : Dev) (hd : d.Ok) (hn : 3 ≤ d.S.length) (hw : d.wr ≤ 2 * i) (g : Int) (hg : d.off = decide (g = 36)) (m : PM) (x : Nm) (p : Nat) (hr : RepM d.S x p m) (hxi : x.number ≤ i) (hml : m.length ≤ 8 * i) (hi : i ≤ 1000) (hv : ∀ y ∈ m, y.2.length ≤ 2000)
    (hkn : Keyed now) (hkx : Keyed next) (hor : now.Perm m ∨ d.off = true ∧ next.Perm m) (ii : Int) (k0 : Prop) (k1 : K3)
    (h : ∀ now' d' s', Inv i now' d' s' → K3.at k1 now' d' s') :
    J3_26 t1 (enc now) ii (enc next) g d.S.length d.off d.cut d.wh d.ke d.wr (d.S.map sec) k0 k1 := by
  unfold J3_26
  refine B12_law d (by omega) _ ?_
  refine cond_f (by rw [hg]; simp) (B13_law d (by omega) _ ?_)
  -- the device, started anew
  obtain ⟨m2, hp2, ho2⟩ := open_rep hr (by omega)
  have hd' : d.re.Ok := ⟨hd.len, hd.secs, hd.wh, hd.ke, hd.wr⟩
  have hop : openR d.re = .ok ⟨x, p, x.number, false, m2⟩ := by
    rw [openR_of (d := d.re) (x := x) (p := p) hn rfl hr.1]; exact ho2
  have hkm : Keyed m2 := hr.2.1.1.perm hp2.symm
  have hko : KeysOk m2 := by
    refine ⟨by have := hp2.length_eq; omega, fun y hy => ?_, hkm⟩
    have := hr.2.1.2 y (hp2.mem_iff.1 hy)
    omega
  have inv : ∀ now' : PM, now'.Perm m → Inv i now' d.re ⟨x, p, x.number, false, m2⟩ := fun now' hp => ⟨hd', rfl, hn, hw, m, m2, x, p, hr, rfl, hp2, hp, hxi, hml, hv⟩
  refine B7_law d.re hd' _ _ (fun e he => by rw [hop] at he; cases he) (fun s hs => ?_)
  rw [hop] at hs
  cases hs
  refine B11_law now d.re ⟨x, p, x.number, false, m2⟩ hko _ ?_
  have last : (hasR m2 now = true ∨ d.off = true ∧ hasR m2 next = true) → J3_33 t1 (enc now) ii (enc next) d.off d.re.S.length d.re.off d.re.cut d.re.wh d.re.ke d.re.wr (⟨x, p, x.number, false, m2⟩ : Sto).now.number (⟨x, p, x.number, false, m2⟩ : Sto).now.first (⟨x, p, x.number, false, m2⟩ : Sto).now.long (⟨x, p, x.number, false, m2⟩ : Sto).now.sum.toNat (⟨x, p, x.number, false, m2⟩ : Sto).place (⟨x, p, x.number, false, m2⟩ : Sto).top (⟨x, p, x.number, false, m2⟩ : Sto).off (d.re.S.map sec) (enc m2) (fun a b1 b2 b3 b4 b5 b6 c1 c2 c3 c4 c5 c6 c7 e f => k1 a b1 b2 b3 b4 b5 b6 c1 c2 c3 c4 c5 c6 c7 e f) := by
    intro hx
    refine J3_33_law t1 now next ii d.re ⟨x, p, x.number, false, m2⟩ hko d.off _ (fun hf => ?_) (fun ht hh => ?_) (fun ht hh => ?_)
    · rcases hx with hx | hx
      · exact h now _ _ (inv now ((perm_hasR hkm hx).symm.trans hp2))
      · rw [hx.1] at hf; cases hf
    · exact h next _ _ (inv next ((perm_hasR hkm hh).symm.trans hp2))
    · rcases hx with hx | hx
      · exact h now _ _ (inv now ((perm_hasR hkm hx).symm.trans hp2))
      · rw [hx.2] at hh; cases hh
  cases hnow : hasR m2 now with
  | true => exact cond_f rfl (last (.inl hnow))
  | false =>
    refine cond_t rfl ?_
    rcases hor with hor | ⟨hof, hnx⟩
    · rw [hasR_perm hkm (hp2.trans hor.symm)] at hnow; cases hnow
    · have hnn : hasR m2 next = true := hasR_perm hkm (hp2.trans hnx.symm)
      refine cond_t hof (B11_law next d.re ⟨x, p, x.number, false, m2⟩ hko _ ?_)
      exact cond_f (by simp [hnn]) (last (.inr ⟨hof, hnn⟩))

end Pv

namespace Pv
open Go

theorem chk_loop (bats : List Bat) (i : Nat) (hi : i < bats.length) (hl : bats[i].L.length ≤ 8) (t9 : List PV) (d : Dev) (s : Sto) (z : List PV) (k0 : Bool → Prop) (k1 : Int → Prop) (h0 : k0 true)
    (h1 : (∀ p ∈ bats[i].L, ¬ (2000 < p.2.length ∧ p.2.length ≤ 1048576)) → ∀ z, k1 z) : ∀ (c j : Nat), j + c = bats[i].L.length → (∀ p ∈ bats[i].L.take j, ¬ (2000 < p.2.length ∧ p.2.length ≤ 1048576)) →
    R3_14 (enBs bats) t9 i d.S.length d.off d.cut d.wh d.ke d.wr s.now.number s.now.first s.now.long s.now.sum.toNat s.place s.top s.off (d.S.map sec) z k0 k1 (c + 1) j := by
  intro c
  induction c with
  | zero =>
    intro j hj hp
    rw [R3_14]
    unfold S3_14
    refine ⟨by omega, ?_⟩
    rw [Int.toNat_natCast]
    refine elem_enBs hi ?_
    rw [sub_enB0, asList_36, enl_length]
    refine cond_f (decide_eq_false (by rw [Int.ofNat_eq_natCast]; omega)) (h1 ?_ _)
    have e : j = bats[i].L.length := by omega
    rw [e, List.take_length] at hp
    exact hp
  | succ c ih =>
    intro j hj hp
    have hlt : j < bats[i].L.length := by omega
    rw [R3_14]
    unfold S3_14
    refine ⟨by omega, ?_⟩
    rw [Int.toNat_natCast]
    refine elem_enBs hi ?_
    rw [sub_enB0, asList_36, enl_length]
    refine cond_t (decide_eq_true (by rw [Int.ofNat_eq_natCast]; omega)) ⟨by omega, elem_enBs hi ?_⟩
    rw [sub_enB0, asList_36, Int.toNat_natCast]
    refine ⟨by omega, elem_enl hlt ?_⟩
    rw [sub_enP1, asStr_str, ba_size]
    have e1 : IntKind.wrap .i64 ((j : Int) + 1) = ((j + 1 : Nat) : Int) := by rw [w64 (by omega) (by omega)]; simp
    rw [e1]
    have next : ¬ (2000 < bats[i].L[j].2.length ∧ bats[i].L[j].2.length ≤ 1048576) → R3_14 (enBs bats) t9 i d.S.length d.off d.cut d.wh d.ke d.wr s.now.number s.now.first s.now.long s.now.sum.toNat s.place s.top s.off (d.S.map sec) z k0 k1 (c + 1) ((j + 1 : Nat) : Int) := by
      intro hh
      refine ih (j + 1) (by omega) (fun p hp' => ?_)
      rw [List.take_succ_eq_append_getElem hlt, List.mem_append, List.mem_singleton] at hp'
      rcases hp' with hp' | rfl
      · exact hp p hp'
      · exact hh
    by_cases ha : 2000 < bats[i].L[j].2.length
    · refine cond_t (decide_eq_true (by rw [Int.ofNat_eq_natCast]; omega)) ⟨by omega, elem_enBs hi ?_⟩
      rw [sub_enB0, asList_36]
      refine ⟨by omega, elem_enl hlt ?_⟩
      rw [sub_enP1, asStr_str, ba_size]
      by_cases hb : bats[i].L[j].2.length ≤ 1048576
      · exact cond_t (decide_eq_true (by rw [Int.ofNat_eq_natCast]; omega)) (B5_law _ h0)
      · exact cond_f (decide_eq_false (by rw [Int.ofNat_eq_natCast]; omega)) (next fun g => hb g.2)
    · exact cond_f (decide_eq_false (by rw [Int.ofNat_eq_natCast]; omega)) (next fun g => ha g.1)

theorem image_small (m : PM) (hm : PairsOk m) (hl : m.length ≤ 1000) (hv : ∀ y ∈ m, y.2.length ≤ 2000) : KeysOk m ∧ (image m).length ≤ 50000000 := by
  refine ⟨⟨by omega, fun y hy => by have := (hm.2 y hy).2.1; omega, hm.1⟩, ?_⟩
  unfold image
  have h9 : ∀ n, (cput n).length ≤ 9 := fun n => by rw [cput_length]; unfold csize; split <;> (try split) <;> (try split) <;> omega
  have hk : ∀ ks : List Tx, (∀ k ∈ ks, k ∈ m.map (·.1)) → (ks.flatMap (imgK m)).length ≤ ks.length * 3000 := by
    intro ks
    induction ks with
    | nil => intro _; simp
    | cons k r ih =>
      intro h
      have h1 := ih (fun k hk => h k (by simp [hk]))
      obtain ⟨x, hx, rfl⟩ := List.mem_map.1 (h k (by simp))
      rw [List.flatMap_cons, List.length_append, List.length_cons]
      have h2 : (imgK m x.1).length ≤ 3000 := by
        unfold imgK
        rw [get_mem hm.1 hx]
        have a := hm.2 x hx
        have b := hv x hx
        have c1 := h9 x.1.length
        have c2 := h9 x.2.length
        simp only [List.length_append, Option.getD_some]
        omega
      omega
  have h3 := hk (sortK m) (fun k h => (sortK_perm m).mem_iff.1 h)
  rw [sortK_length] at h3
  rw [List.length_append]
  have := h9 m.length
  omega

theorem J3_20_law (bats : List Bat) (i : Nat) (hi : i < bats.length) (hi2 : i ≤ 12) (hl : bats[i].L.length ≤ 8) (hv : ∀ p ∈ bats[i].L, ¬ (2000 < p.2.length ∧ p.2.length ≤ 1048576)) (now : PM) (d : Dev) (s : Sto)
    (hok : d.Ok) (hoff : d.off = false) (hlo : 3 ≤ d.S.length) (hwr : d.wr ≤ 2 * i)
    (hex : ∃ (m m' : PM) (x : Nm) (p : Nat), RepM d.S x p m ∧ s = ⟨x, p, x.number, false, m'⟩ ∧ m'.Perm m ∧ now.Perm m ∧ x.number ≤ i ∧ m.length ≤ 8 * i ∧ ∀ y ∈ m, y.2.length ≤ 2000)
    (k0 : Prop) (k1 : K3) (h : ∀ now' d' s', Inv (i + 1) now' d' s' → K3.at k1 now' d' s') :
    J3_20 (enBs bats) (enc now) i d.S.length d.off d.cut d.wh d.ke d.wr s.now.number s.now.first s.now.long s.now.sum.toNat s.place s.top s.off (d.S.map sec) (enc s.m) k0 k1 := by
  obtain ⟨m, m', x, p, hr, rfl, hm', hnow, hxi, hml, hmv⟩ := hex
  obtain ⟨hr1, hr2, hr3⟩ := id hr
  have hlen := hok.len
  have hkm' : Keyed m' := hr2.1.perm hm'.symm
  have hkn : Keyed now := hr2.1.perm hnow.symm
  have hpm' : PairsOk m' := ⟨hkm', fun y hy => hr2.2 y (hm'.mem_iff.1 hy)⟩
  have hml' : m'.length ≤ 8 * i := by rw [hm'.length_eq]; exact hml
  have hko' : KeysOk m' := ⟨by omega, fun y hy => by have := hpm'.2 y hy; omega, hkm'⟩
  unfold J3_20
  refine ⟨by omega, ?_⟩
  rw [Int.toNat_natCast]
  refine elem_enBs hi ?_
  rw [sub_enB0, asList_36]
  refine B9_law now hkn _ (by omega) _ fun o ho => ⟨by omega, elem_enBs hi ?_⟩
  rw [sub_enB0, asList_36]
  have hko : Keyed o := hkn.perm ho.symm
  have hon : Keyed (applyL bats[i].L o) := applyL_keyed _ hko
  have hom' : (applyL bats[i].L o).Perm (applyL bats[i].L m') := applyL_perm _ ((ho.trans hnow).trans hm'.symm) hko
  have hsz : ∀ next, applyC bats[i].L m' = some next → PairsOk next ∧ next.length ≤ 8 * (i + 1) ∧ ∀ y ∈ next, y.2.length ≤ 2000 := by
    intro next hn
    obtain ⟨e, hmay⟩ := applyC_eq _ _ _ hn
    refine ⟨pairsOk_apply hpm' hn, ?_, fun y hy => ?_⟩
    · have := applyL_length bats[i].L m'
      rw [← e] at this
      omega
    · rw [e] at hy
      rcases applyL_mem _ hkm' hy with ⟨hy, -⟩ | hy
      · have h1 := of_decide_eq_true (hmay y hy)
        have h2 := hv y hy
        omega
      · exact hmv y (hm'.mem_iff.1 hy)
  have hin := newer_in d.S.length (d.S.getD 0 []) (d.S.getD 1 [])
  obtain ⟨hp, -, -⟩ := newer_place hr1
  rw [hr1] at hin
  simp only at hin
  have hxm : x.number < mostN := by unfold mostN; omega
  -- what follows on a commit: of each outcome
  have J24 : ∀ (g : Int) (t9 : PM) (d' : Dev) (s' : Sto), KeysOk s'.m → Keyed s'.m → (g = 0 → s'.m.Perm (applyL bats[i].L o)) → (g ≠ 0 → s'.m.Perm t9) →
      J3_26 (enBs bats) (enc t9) i (enc (applyL bats[i].L o)) g d'.S.length d'.off d'.cut d'.wh d'.ke d'.wr (d'.S.map sec) k0 k1 → J3_24 (enBs bats) (enc t9) i (enc (applyL bats[i].L o)) g d'.S.length d'.off d'.cut d'.wh d'.ke d'.wr s'.now.number s'.now.first s'.now.long s'.now.sum.toNat s'.place s'.top s'.off (d'.S.map sec) (enc s'.m) k0 k1 := by
    intro g t9 d' s' hks hkk hg0 hg1 hJ
    unfold J3_24
    by_cases hg : g = 0
    · refine cond_t (decide_eq_true hg) (B11_law _ d' s' hks _ ?_)
      rw [hasR_perm hkk (hg0 hg)]
      exact cond_t rfl (cond_f (by simp [hg]) hJ)
    · refine cond_f (decide_eq_false hg) (cond_t (by simp [hg]) (B11_law _ d' s' hks _ ?_))
      rw [hasR_perm hkk (hg1 hg)]
      exact cond_f rfl hJ
  have hleft := commit_left d hok hlo hoff (by omega) x p m m' hr hm' hxm bats[i].L
  have main : ∀ (g : Int) (d' : Dev) (s' : Sto), commitR d ⟨x, p, x.number, false, m'⟩ bats[i].L = (g, s', d') → J3_22 (enBs bats) (enc now) i (enc (applyL bats[i].L o)) g d'.S.length d'.off d'.cut d'.wh d'.ke d'.wr s'.now.number s'.now.first s'.now.long s'.now.sum.toNat s'.place s'.top s'.off (d'.S.map sec) (enc s'.m) k0 k1 := by
    intro g d' s' hc
    rw [hc] at hleft
    unfold J3_22
    cases hleft with
    | same e he =>
      have hg36 : d.off = decide (g = 36) := by
        rw [hoff]
        rcases he with rfl | rfl | ⟨rfl, -⟩ <;> rfl
      by_cases hg : g = 0
      · have hpe : (applyL bats[i].L m').Perm m' := by
          rcases he with rfl | rfl | ⟨-, h⟩
          · cases hg
          · cases hg
          · exact h
        have hnx : (applyL bats[i].L o).Perm m := (hom'.trans hpe).trans hm'
        refine cond_t (decide_eq_true hg) (J24 g _ d ⟨x, p, x.number, false, m'⟩ hko' hkm' (fun _ => (hm'.trans hnx.symm)) (fun h => absurd hg h) ?_)
        exact J3_26_law _ _ _ (i + 1) d hok hlo (by omega) g hg36 m x p hr (by omega) (by omega) (by omega) hmv hon hon (.inl hnx) i k0 k1 h
      · refine cond_f (decide_eq_false hg) (J24 g _ d ⟨x, p, x.number, false, m'⟩ hko' hkm' (fun h => absurd h hg) (fun _ => hm'.trans hnow.symm) ?_)
        exact J3_26_law _ _ _ (i + 1) d hok hlo (by omega) g hg36 m x p hr (by omega) (by omega) (by omega) hmv hkn hon (.inl hnow) i k0 k1 h
    | done next y d' hC hy hry ho2 hok2 hl2 hw2 hc2 =>
      obtain ⟨hpn, hln, hvn⟩ := hsz next hC
      have hnx : (applyL bats[i].L o).Perm next := by rw [(applyC_eq _ _ _ hC).1]; exact hom'
      refine cond_t (by decide) (J24 0 _ d' ⟨y, 1 - p, x.number + 1, false, next⟩ ⟨by simp only; omega, fun z hz => by have := hpn.2 z hz; omega, hpn.1⟩ hpn.1 (fun _ => hnx.symm) (fun h => absurd rfl h) ?_)
      exact J3_26_law _ _ _ (i + 1) d' hok2 (by omega) (by omega) 0 (by rw [ho2]; rfl) next y (1 - p) hry (by omega) hln (by omega) hvn hon hon (.inl hnx) i k0 k1 h
    | cut next d' hC hrr ho2 hok2 hl2 hw2 =>
      obtain ⟨hpn, hln, hvn⟩ := hsz next hC
      have hnx : (applyL bats[i].L o).Perm next := by rw [(applyC_eq _ _ _ hC).1]; exact hom'
      refine cond_f (by decide) (J24 36 _ d' ⟨x, p, x.number, true, m'⟩ hko' hkm' (fun h => by cases h) (fun _ => hm'.trans hnow.symm) ?_)
      rcases hrr with hry | ⟨y, hy, hry⟩
      · exact J3_26_law _ _ _ (i + 1) d' hok2 (by omega) (by omega) 36 (by rw [ho2]; rfl) m x p hry (by omega) (by omega) (by omega) hmv hkn hon (.inl hnow) i k0 k1 h
      · exact J3_26_law _ _ _ (i + 1) d' hok2 (by omega) (by omega) 36 (by rw [ho2]; rfl) next y (1 - p) hry (by omega) hln (by omega) hvn hkn hon (.inr ⟨ho2, hnx⟩) i k0 k1 h
  refine B10_law d hok (by omega) (by omega) ⟨x, p, x.number, false, m'⟩ hp (by simp only; omega) hin.1 bats[i].L (by omega) (fun next hn => ?_) _ _ (fun g s' d' hc hm => ?_) (fun s' d' hc => ?_)
  · obtain ⟨h1, h2, h3⟩ := hsz next hn
    exact image_small next h1 (by omega) h3
  · have := main g d' s' hc
    rw [hm] at this
    exact this
  · exact main 0 d' s' hc

end Pv

namespace Pv
open Go

theorem main_loop (bats : List Bat) (hb : ∀ b ∈ bats, b.wh < 256 ∧ b.ke < 256) (hlen : bats.length ≤ 12) (k0 : Bool → Prop) (k1 : List PV → Int → Nat → Bool → Bool → Int → Int → Int → Int → Int → Int → Int → Int → Int → Bool → List PV → List PV → Prop) (h0 : k0 true) (h1 : ∀ a i b1 b2 b3 b4 b5 b6 c1 c2 c3 c4 c5 c6 c7 e f, k1 a i b1 b2 b3 b4 b5 b6 c1 c2 c3 c4 c5 c6 c7 e f) :
    ∀ (c i : Nat) (now : PM) (d : Dev) (s : Sto), i + c = bats.length → Inv i now d s → R3_9 (enBs bats) k0 k1 (c + 1) (enc now) i d.S.length d.off d.cut d.wh d.ke d.wr s.now.number s.now.first s.now.long s.now.sum.toNat s.place s.top s.off (d.S.map sec) (enc s.m)
  | 0, i, now, d, s, hi, hinv => by
    rw [R3_9]
    unfold S3_9
    rw [enBs_length]
    exact cond_f (decide_eq_false (by rw [Int.ofNat_eq_natCast]; omega)) (h1 _ _ _ _ _ _ _ _ _ _ _ _ _ _ _ _ _)
  | c + 1, i, now, d, s, hi, hinv => by
    have hlt : i < bats.length := by omega
    have hbi := hb bats[i] (List.getElem_mem hlt)
    rw [R3_9]
    unfold S3_9
    rw [enBs_length]
    refine cond_t (decide_eq_true (by rw [Int.ofNat_eq_natCast]; omega)) ⟨by omega, ?_⟩
    rw [Int.toNat_natCast]
    refine elem_enBs hlt ?_
    rw [sub_enB0, asList_36, enl_length]
    by_cases hL : bats[i].L.length > 8
    · exact cond_t (decide_eq_true (by rw [Int.ofNat_eq_natCast]; omega)) (B5_law _ h0)
    refine cond_f (decide_eq_false (by rw [Int.ofNat_eq_natCast]; omega)) ⟨bats[i].L.length + 1, ?_⟩
    refine chk_loop bats i hlt (by omega) (enc now) d s (enc s.m) _ _ h0 (fun hv z => ⟨by omega, elem_enBs hlt ?_⟩) bats[i].L.length 0 (by omega) (fun p hp => by simp at hp)
    rw [sub_enB1, asBool_b]
    have e1 : IntKind.wrap .i64 ((i : Int) + 1) = ((i + 1 : Nat) : Int) := by rw [w64 (by omega) (by omega)]; simp
    have step : ∀ d2 : Dev, d2.Ok → d2.off = false → 3 ≤ d2.S.length → d2.wr ≤ 2 * i → d2.S = d.S → J3_20 (enBs bats) (enc now) i d2.S.length d2.off d2.cut d2.wh d2.ke d2.wr s.now.number s.now.first s.now.long s.now.sum.toNat s.place s.top s.off (d2.S.map sec) (enc s.m) (k0 false) (fun a b1 b2 b3 b4 b5 b6 c1 c2 c3 c4 c5 c6 c7 e f => R3_9 (enBs bats) k0 k1 (c + 1) a (IntKind.wrap .i64 ((i : Int) + 1)) b1 b2 b3 b4 b5 b6 c1 c2 c3 c4 c5 c6 c7 e f) := by
      intro d2 a1 a2 a3 a4 a5
      refine J3_20_law bats i hlt (by omega) (by omega) hv now d2 s a1 a2 a3 a4 ?_ _ _ (fun now' d' s' hinv' => ?_)
      · obtain ⟨m, m', x, p, g⟩ := hinv.ex
        exact ⟨m, m', x, p, by rw [a5]; exact g⟩
      · show R3_9 (enBs bats) k0 k1 (c + 1) (enc now') (IntKind.wrap .i64 ((i : Int) + 1)) d'.S.length d'.off d'.cut d'.wh d'.ke d'.wr s'.now.number s'.now.first s'.now.long s'.now.sum.toNat s'.place s'.top s'.off (d'.S.map sec) (enc s'.m)
        rw [e1]
        exact main_loop bats hb hlen k0 k1 h0 h1 c (i + 1) now' d' s' (by omega) hinv'
    cases hcut : bats[i].cut with
    | true =>
      refine cond_t rfl ⟨by omega, elem_enBs hlt ⟨by omega, elem_enBs hlt ?_⟩⟩
      simp only [sub_enB2, sub_enB3, asInt_u8, cj_eq, and_self]
      have e3 : IntKind.wrap .i64 (Int.tmod (bats[i].wh : Int) 3) = ((bats[i].wh % 3 : Nat) : Int) := by
        have : Int.tmod (bats[i].wh : Int) 3 = ((bats[i].wh % 3 : Nat) : Int) := rfl
        rw [this, w64 (by omega) (by omega)]
      have e4 : IntKind.wrap .i64 (bats[i].ke : Int) = (bats[i].ke : Int) := w64 (by omega) (by omega)
      rw [e3, e4]
      refine ⟨by decide, B8_law d (by have := hinv.lo; omega) _ _ _ ?_⟩
      exact step { d with cut := true, wh := bats[i].wh % 3, ke := bats[i].ke } ⟨hinv.ok.len, hinv.ok.secs, by simp only; omega, by simp only; omega, hinv.ok.wr⟩ hinv.off hinv.lo hinv.wr rfl
    | false => exact cond_f rfl (step d hinv.ok hinv.off hinv.lo hinv.wr rfl)

theorem B3_law (n : Nat) (hn : n < 256) (bats : List Bat) (hb : ∀ b ∈ bats, b.wh < 256 ∧ b.ke < 256) (k : Bool → Prop) (h : k true) : B3 n (enBs bats) k := by
  unfold B3
  rw [enBs_length]
  by_cases hl : bats.length > 12
  · exact cond_t (decide_eq_true (by rw [Int.ofNat_eq_natCast]; omega)) (B5_law _ h)
  refine cond_f (decide_eq_false (by rw [Int.ofNat_eq_natCast]; omega)) ⟨by decide, ?_⟩
  have e : IntKind.wrap .i64 (3 + Int.tmod (IntKind.wrap .i64 (n : Int)) 48) = ((3 + n % 48 : Nat) : Int) := by
    rw [w64 (n := (n : Int)) (by omega) (by omega)]
    have : Int.tmod (n : Int) 48 = ((n % 48 : Nat) : Int) := rfl
    rw [this, w64 (by omega) (by omega)]
    omega
  rw [e]
  refine B6_law _ _ _ (fun g => by omega) fun _ _ => ?_
  rw [Int.toNat_natCast]
  have hlen : (newD (3 + n % 48)).S.length = 3 + n % 48 := newS_length _
  refine B7_new (by omega) (by omega) _ _ ⟨bats.length + 1, ?_⟩
  refine main_loop bats hb (by omega) _ _ h (fun _ _ _ _ _ _ _ _ _ _ _ _ _ _ _ _ _ => B5_law _ h) bats.length 0 [] (newD (3 + n % 48)) newSto (by omega) ?_
  exact ⟨newD_ok (by omega), rfl, by omega, Nat.zero_le _, [], [], .zero, 1, newS_rep (by omega), rfl, List.Perm.refl _, List.Perm.refl _, Nat.le_refl _, Nat.le_refl _, fun y hy => by cases hy⟩

end Pv
