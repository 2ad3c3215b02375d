/- The frames fourteenth part: each operation that is no call of a function does as is said. -/
import Derived.Test.YthdpkcolbgoecaaFy

namespace Pv
open Go

section
variable {P : Program} {T : Tab} {hb : Nat} {w : World} {μ : Nat → Option Nat} {ro : Nat → Prop} {L : Heap}

theorem evIndex_sound (hF : tabFits P T 0 T = true) (hT : tabSized T = true) {t : Nat} {x ix : PV} {v u : Value} {K : PV → Prop} (h : evIndex T t x ix K) (hx : Rep T w μ ro x v) (hix : Rep T w μ ro ix u) :
    ∃ r, (Instr.index t v u).run P w = .ok r w ∧ ∃ pv, K pv ∧ Rep T w μ ro pv r := by
  unfold evIndex at h
  split at h
  · rename_i k j
    obtain rfl := hix.int_inv
    split at h
    · rename_i s ek
      obtain ⟨i1, d, z, hi⟩ := under_of hF ek (by simp)
      obtain rfl := hx.str_inv
      obtain ⟨hj, h⟩ := h
      obtain ⟨b, hb, hK⟩ := elemAt_some h
      refine ⟨.int .u8 b.toNat, ?_, _, hK, .int _ _⟩
      have hlt := (List.getElem?_eq_some_iff.1 hb).1
      have hlt' : j.toNat < s.size := by simpa using hlt
      have hb' : s[j.toNat]? = some b := by
        have e1 : s.data.toList[j.toNat] = b := by
          have := List.getElem?_eq_getElem hlt
          rw [this] at hb; exact Option.some.inj hb
        rw [getElem?_pos s j.toNat hlt']
        congr 1
      simp [Instr.index, asIntOf_run, run_underlying (hi.kd_str ek), hj, hb']
    · rename_i n e n' xs ek
      obtain ⟨i1, d, z, hi⟩ := under_of hF ek (by simp)
      obtain ⟨hc, hj, hel⟩ := cond_and h
      simp only [Bool.and_eq_true, Nat.beq_eq, Bool.not_eq_true'] at hc
      obtain ⟨⟨rfl, hna⟩, hno⟩ := hc
      obtain ⟨y, hy, hK⟩ := elemAt_some hel
      have hK := decK_same _ _ _ _ hK
      obtain ⟨vs, rfl, hs, hl, hr, -⟩ := hx.agg_inv rfl
      obtain ⟨i2, d2, z2, hi2⟩ := tiOk_of hF e (by intro e; rw [e] at hno; simp [Kd.isOther] at hno)
      have h1 := size_scalar hT hna hno
      have hlt := (List.getElem?_eq_some_iff.1 hy).1
      have hjn : 0 ≤ j ∧ j < (n : Int) := ⟨hj, by have := hs.1; omega⟩
      have hv : vs[j.toNat]? = some (vs[j.toNat]'(by rw [flat] at hl; omega)) := Array.getElem?_eq_getElem _
      refine ⟨_, ?_, y, hK, hr j.toNat y _ hy hv⟩
      simp [Instr.index, asIntOf_run, run_underlying (hi.kd_array ek), hjn, hi2.run_sizeOf, part, hi2.run_isAgg, hna, h1, hv]
    · exact h.elim
  · exact h.elim

theorem evField_sound (hF : tabFits P T 0 T = true) (hT : tabSized T = true) {t f : Nat} {x : PV} {v : Value} {K : PV → Prop} (h : evField T t f x K) (hx : Rep T w μ ro x v) :
    ∃ r, (Instr.field t v f).run P w = .ok r w ∧ ∃ pv, K pv ∧ Rep T w μ ro pv r := by
  unfold evField at h
  split at h
  · rename_i l ek
    obtain ⟨i1, d, z, hi⟩ := under_of hF ek (by simp)
    obtain ⟨fs, hu, hl⟩ := hi.kd_struct ek
    split at h
    · rename_i o ft hq
      have hq0 := hq
      rw [← hl] at hq
      simp only [List.getElem?_map, Option.map_eq_some_iff] at hq
      obtain ⟨fd, hfd, hfe⟩ := hq
      simp only [Prod.mk.injEq] at hfe
      have hfd' : fs[f]? = some fd := by simpa using hfd
      unfold asAggK at h
      split at h
      · rename_i gs
        obtain ⟨hfit, h⟩ := cond_and h
        obtain ⟨y, hy, h⟩ := elemAt_some h
        obtain ⟨hfy, hK⟩ := cond_and h
        obtain ⟨vs, rfl, hs, hlen, hr, hcc⟩ := hx.agg_inv rfl
        have hz := at_sized hT t
        rw [sizeOk, ek] at hz
        rw [fits, ek] at hfit
        obtain ⟨-, hsy, -, hle, hcel⟩ := field_cells hT l gs 0 _ f o ft y hfit hs hz hq0 hy
        have hno := other_of_fits hfy
        obtain ⟨i2, d2, z2, hi2⟩ := tiOk_of hF ft (by intro e; rw [e] at hno; simp [Kd.isOther] at hno)
        have hly := flat_length hT ft y hfy hsy
        have hlg : (flats gs).length = (T.at t).size := by have := flats_length hT l gs 0 _ hfit hs hz; omega
        have hvs : vs.size = (T.at t).size := by rw [← hlen, flat, hlg]
        cases ha : (T.at ft).kd.isAgg with
        | true =>
          refine ⟨.agg (vs.extract o (o + (T.at ft).size)), by simp [Instr.field, run_underlying hu, hfd', part, hfe.1, hfe.2, hi2.run_isAgg, ha, hi2.run_sizeOf, asAgg], y, hK, ?_⟩
          have hay : isAggV y = true := by rw [fits_isAgg hfy]; exact ha
          refine .agg y _ hay hsy (by simp only [Array.size_extract]; omega) (fun k c v hk hv => ?_) (fits_cells ft y hfy hsy)
          have hlt : k < (T.at ft).size := by rw [← hly]; exact (List.getElem?_eq_some_iff.1 hk).1
          rw [hcel k hlt] at hk
          rw [Array.getElem?_extract, if_pos (by omega)] at hv
          exact hr (o - 0 + k) c v hk (by rw [← hv]; congr 1)
        | false =>
          have h1 := size_scalar hT ha hno
          have hv : vs[o]? = some (vs[o]'(by omega)) := Array.getElem?_eq_getElem _
          refine ⟨_, by simp [Instr.field, run_underlying hu, hfd', part, hfe.1, hfe.2, hi2.run_isAgg, ha, asAgg, hv]; rfl, y, hK, ?_⟩
          have hay : isAggV y = false := by rw [fits_isAgg hfy]; exact ha
          have := hcel 0 (by omega)
          rw [flat_scalar hay] at this
          exact hr o y _ (by rw [flat]; simpa using this.symm) hv
      · exact h.elim
    · exact h.elim
  · exact h.elim

theorem foldW_min {K : PV → Prop} : ∀ (r : List PV) (x : PV) (v : Value) (vs : List Value), foldW minW x r K → Rep T w μ ro x v → r.length = vs.length → (∀ (i : Nat) y u, r[i]? = some y → vs[i]? = some u → Rep T w μ ro y u) →
    ∃ q, (vs.foldlM Builtin.min2 v).run P w = .ok q w ∧ ∃ pv, K pv ∧ Rep T w μ ro pv q
  | [], x, v, [], h, hx, _, _ => ⟨v, rfl, x, h, hx⟩
  | [], _, _, _ :: _, _, _, hl, _ => by simp at hl
  | _ :: _, _, _, [], _, _, hl, _ => by simp at hl
  | y :: r, x, v, u :: vs, h, hx, hl, hr => by
    have hy := hr 0 y u rfl rfl
    simp only [foldW, minW] at h
    split at h
    · rename_i k a k' b
      obtain ⟨hk, h9⟩ := cond_and h
      simp only [decide_eq_true_eq] at hk; subst hk
      obtain rfl := hx.int_inv
      obtain rfl := hy.int_inv
      obtain ⟨q, h1, h2⟩ := foldW_min r _ (.int k (if b < a then b else a)) vs h9 (.int _ _) (by simpa using hl) (fun i y u h1 h2 => hr (i + 1) y u (by simpa using h1) (by simpa using h2))
      exact ⟨q, by simp only [List.foldlM_cons, Sem.run_bind]; exact h1, h2⟩
    · exact h.elim

theorem foldW_max {K : PV → Prop} : ∀ (r : List PV) (x : PV) (v : Value) (vs : List Value), foldW maxW x r K → Rep T w μ ro x v → r.length = vs.length → (∀ (i : Nat) y u, r[i]? = some y → vs[i]? = some u → Rep T w μ ro y u) →
    ∃ q, (vs.foldlM Builtin.max2 v).run P w = .ok q w ∧ ∃ pv, K pv ∧ Rep T w μ ro pv q
  | [], x, v, [], h, hx, _, _ => ⟨v, rfl, x, h, hx⟩
  | [], _, _, _ :: _, _, _, hl, _ => by simp at hl
  | _ :: _, _, _, [], _, _, hl, _ => by simp at hl
  | y :: r, x, v, u :: vs, h, hx, hl, hr => by
    have hy := hr 0 y u rfl rfl
    simp only [foldW, maxW] at h
    split at h
    · rename_i k a k' b
      obtain ⟨hk, h9⟩ := cond_and h
      simp only [decide_eq_true_eq] at hk; subst hk
      obtain rfl := hx.int_inv
      obtain rfl := hy.int_inv
      obtain ⟨q, h1, h2⟩ := foldW_max r _ (.int k (if b > a then b else a)) vs h9 (.int _ _) (by simpa using hl) (fun i y u h1 h2 => hr (i + 1) y u (by simpa using h1) (by simpa using h2))
      exact ⟨q, by simp only [List.foldlM_cons, Sem.run_bind]; exact h1, h2⟩
    · exact h.elim

theorem rep_map {ρ' : Operand → PV} {ρ : Operand → Value} (hρ : ∀ x, Rep T w μ ro (ρ' x) (ρ x)) (l : List Operand) : ∀ (i : Nat) y u, (l.map ρ')[i]? = some y → (l.map ρ)[i]? = some u → Rep T w μ ro y u := by
  intro i y u h1 h2
  simp only [List.getElem?_map, Option.map_eq_some_iff] at h1 h2
  obtain ⟨a, ha, rfl⟩ := h1
  obtain ⟨b, hb, rfl⟩ := h2
  rw [ha] at hb; cases hb
  exact hρ a

theorem buildInto_sound (hT : tabSized T = true) {l : List (Nat × Nat)} {n : Nat} (hp : placesOk T 0 l n = true) : ∀ (parts : List (Nat × PV)) (vparts : List (Nat × Value)) (cs ds : List PV) (cells : Array Value),
    buildInto T l parts cs = some ds → parts.length = vparts.length → (∀ (i : Nat) p q, parts[i]? = some p → vparts[i]? = some q → p.1 = q.1 ∧ Rep T w μ ro p.2 q.2) → fitsL T (l.map (·.2)) cs = true → Shps cs → cells.size = n →
    (∀ (k : Nat) pc, (flats cs)[k]? = some pc → ∃ v, cells[k]? = some v ∧ Rep T w μ ro pc v) →
    ∃ cells', Instr.fill (fun i => (l[i]?).map fun f => (f.1, (T.at f.2).size)) cells vparts = some cells' ∧ cells'.size = n ∧ fitsL T (l.map (·.2)) ds = true ∧ Shps ds ∧ ∀ (k : Nat) pc, (flats ds)[k]? = some pc → ∃ v, cells'[k]? = some v ∧ Rep T w μ ro pc v
  | [], [], cs, ds, cells, h, _, _, hf, hs, hn, hc => by
    simp [buildInto] at h; subst h
    exact ⟨cells, rfl, hn, hf, hs, hc⟩
  | [], _ :: _, _, _, _, _, hl, _, _, _, _, _ => by simp at hl
  | _ :: _, [], _, _, _, _, hl, _, _, _, _, _ => by simp at hl
  | (i, x) :: r, (i', v) :: vr, cs, ds, cells, h, hl, hr, hf, hs, hn, hc => by
    obtain ⟨rfl, hx⟩ := hr 0 _ _ rfl rfl
    simp only at hx
    simp only [buildInto] at h
    split at h
    · rename_i o ft hlf
      cases hfit : fits T ft x with
      | false => rw [hfit] at h; simp at h
      | true =>
        rw [hfit] at h
        simp only [cond_true] at h
        obtain ⟨hsx, hsz, hcx⟩ := rep_cells hT hfit hx
        have hlc := flats_length hT l cs 0 n hf hs hp
        -- the field is there
        have hil : i < cs.length := by
          have h1 := (List.getElem?_eq_some_iff.1 hlf).1
          have : ∀ (ts : List Nat) (fs : List PV), fitsL T ts fs = true → ts.length = fs.length := by
            intro ts
            induction ts with
            | nil => intro fs h; cases fs with
              | nil => rfl
              | cons => simp [fitsL] at h
            | cons t ts ih => intro fs h; cases fs with
              | nil => simp [fitsL] at h
              | cons x fs => simp only [fitsL, Bool.and_eq_true] at h; simp [ih fs h.2]
          have := this _ _ hf
          simp at this; omega
        obtain ⟨-, -, -, hle, -⟩ := field_cells hT l cs 0 n i o ft _ hf hs hp hlf (List.getElem?_eq_getElem hil)
        obtain ⟨-, hset⟩ := flats_set hT l cs 0 n i o ft x hf hs hp hlf hfit hsx
        obtain ⟨h1, h2⟩ := layInto' v.cells o cells
        obtain ⟨cells', e1, e2, e3, e4, e5⟩ := buildInto_sound hT hp r vr (cs.set i x) ds (v.cells.zipIdx.foldl (fun (cs : Array Value) (x : Value × Nat) => cs.setIfInBounds (o + x.2) x.1) cells) h (by simpa using hl)
          (fun j p q hp hq => hr (j + 1) p q (by simpa using hp) (by simpa using hq)) (fitsL_set _ _ i ft x hf (by simp [hlf]) hfit) (by
            rw [Shps_iff]; intro y hy
            rcases List.mem_or_eq_of_mem_set hy with hy | rfl
            · exact (Shps_iff cs).1 hs y hy
            · exact hsx) (by rw [h1, hn]) (fun k pc hk => by
            rw [hset k] at hk
            rw [h2 k]
            by_cases hin : o - 0 ≤ k ∧ k < o - 0 + (T.at ft).size
            · rw [if_pos hin] at hk
              rw [if_pos (by omega)]
              obtain ⟨u, hu, hru, -⟩ := hcx _ pc hk
              exact ⟨u, by simpa using hu, hru⟩
            · rw [if_neg hin] at hk
              rw [if_neg (by omega)]
              exact hc k pc hk)
        refine ⟨cells', ?_, e2, e3, e4, e5⟩
        simp only [Instr.fill, hlf, Option.map_some]
        rw [if_neg]
        · exact e1
        · simp only [hsz, ne_eq, not_true_eq_false, decide_false, Bool.false_or, decide_eq_true_eq]; omega
    · simp at h


theorem buildArr_sound (hT : tabSized T = true) {e n : Nat} (hna : (T.at e).kd.isAgg = false) (hno : (T.at e).kd.isOther = false) : ∀ (parts : List (Nat × PV)) (vparts : List (Nat × Value)) (cs : List PV) (cells : Array Value),
    (∀ p ∈ parts, p.1 < n ∧ elemOk T e p.2) → parts.length = vparts.length → (∀ (i : Nat) p q, parts[i]? = some p → vparts[i]? = some q → p.1 = q.1 ∧ Rep T w μ ro p.2 q.2) → cs.length = n → (∀ c ∈ cs, pureC c) → cells.size = n →
    (∀ (k : Nat) pc, cs[k]? = some pc → ∃ v, cells[k]? = some v ∧ Rep T w μ ro pc v) →
    ∃ cells', Instr.fill (fun i => some (i * (T.at e).size, (T.at e).size)) cells vparts = some cells' ∧ cells'.size = n ∧ (parts.foldl (fun cs x => cs.set x.1 x.2) cs).length = n ∧ (∀ c ∈ parts.foldl (fun cs x => cs.set x.1 x.2) cs, pureC c) ∧
      ∀ (k : Nat) pc, (parts.foldl (fun cs x => cs.set x.1 x.2) cs)[k]? = some pc → ∃ v, cells'[k]? = some v ∧ Rep T w μ ro pc v
  | [], [], cs, cells, _, _, _, hcs, hp, hn, hc => ⟨cells, rfl, hn, hcs, hp, hc⟩
  | [], _ :: _, _, _, _, hl, _, _, _, _, _ => by simp at hl
  | _ :: _, [], _, _, _, hl, _, _, _, _, _ => by simp at hl
  | (i, x) :: r, (i', v) :: vr, cs, cells, hok, hl, hr, hcs, hp, hn, hc => by
    obtain ⟨rfl, hx⟩ := hr 0 _ _ rfl rfl
    simp only at hx
    obtain ⟨hin, hfit, hpx⟩ := hok (i, x) (by simp)
    simp only at hin hfit hpx
    obtain ⟨hsx, hsz, hcx⟩ := rep_cells hT hfit hx
    have h1 := size_scalar hT hna hno
    have hax : isAggV x = false := by rw [fits_isAgg hfit]; exact hna
    have hpcx : pureC x := hpx x (by rw [flat_scalar hax]; simp)
    obtain ⟨u, hu, hru, -⟩ := hcx 0 x (by rw [flat_scalar hax]; rfl)
    obtain ⟨g1, g2⟩ := layInto' v.cells (i * (T.at e).size) cells
    obtain ⟨cells', e1, e2, e3, e4, e5⟩ := buildArr_sound hT hna hno r vr (cs.set i x) (v.cells.zipIdx.foldl (fun (cs : Array Value) (x : Value × Nat) => cs.setIfInBounds (i * (T.at e).size + x.2) x.1) cells)
      (fun p hp => hok p (by simp [hp])) (by simpa using hl) (fun j p q hp hq => hr (j + 1) p q (by simpa using hp) (by simpa using hq)) (by simpa using hcs) (fun c hcm => by
        rcases List.mem_or_eq_of_mem_set hcm with h | rfl
        · exact hp c h
        · exact hpcx) (by rw [g1, hn]) (fun k pc hk => by
        rw [List.getElem?_set] at hk
        rw [g2 k, hsz, h1]
        by_cases hik : i = k
        · subst hik
          rw [if_pos rfl, if_pos (by omega)] at hk
          cases hk
          rw [if_pos (by omega)]
          exact ⟨u, by simpa using hu, hru⟩
        · rw [if_neg hik] at hk
          rw [if_neg (by omega)]
          exact hc k pc hk)
    refine ⟨cells', ?_, e2, e3, e4, e5⟩
    simp only [Instr.fill]
    rw [if_neg]
    · exact e1
    · simp only [hsz, ne_eq, not_true_eq_false, decide_false, Bool.false_or, decide_eq_true_eq, h1]; omega

theorem run_places : ∀ (fs : List Field), (∀ f ∈ fs, (T.at f.type).kd.isOther = false) → tabFits P T 0 T = true →
    (fs.mapM fun f => (do pure (f.offset, ← sizeOf f.type) : Sem (Nat × Nat))).run P w = .ok (fs.map fun f => (f.offset, (T.at f.type).size)) w
  | [], _, _ => rfl
  | f :: r, h, hF => by
    obtain ⟨i2, d2, z2, hi2⟩ := tiOk_of hF f.type (by intro e; have := h f (by simp); rw [e] at this; simp [Kd.isOther] at this)
    simp only [List.mapM_cons, Sem.run_bind, hi2.run_sizeOf, Result.andThen_ok, Sem.run_pure, run_places r (fun x hx => h x (by simp [hx])) hF, List.map_cons]

theorem evBuild_sound (hF : tabFits P T 0 T = true) (hT : tabSized T = true) {t : Nat} {parts : Array (Nat × Operand)} {ρ' : Operand → PV} {ρ : Operand → Value} {K : PV → Prop}
    (h : evBuild T t (parts.toList.map fun (i, x) => (i, ρ' x)) K) (hρ : ∀ x, Rep T w μ ro (ρ' x) (ρ x)) :
    ∃ r, (Instr.build t (parts.map fun (i, x) => (i, ρ x))).run P w = .ok r w ∧ ∃ pv, K pv ∧ Rep T w μ ro pv r := by
  have hparts : ∀ (i : Nat) p q, (parts.toList.map fun (i, x) => (i, ρ' x))[i]? = some p → ((parts.map fun (i, x) => (i, ρ x)).toList)[i]? = some q → p.1 = q.1 ∧ Rep T w μ ro p.2 q.2 := by
    intro i p q h1 h2
    simp only [Array.toList_map, List.getElem?_map, Option.map_eq_some_iff] at h1 h2
    obtain ⟨a, ha, rfl⟩ := h1
    obtain ⟨b, hb, rfl⟩ := h2
    rw [ha] at hb; cases hb
    exact ⟨rfl, hρ _⟩
  have hlen : (parts.toList.map fun (i, x) => (i, ρ' x)).length = ((parts.map fun (i, x) => (i, ρ x)).toList).length := by simp
  unfold evBuild at h
  split at h
  · rename_i l zs ek ez
    obtain ⟨hnoth, h⟩ := cond_and h
    obtain ⟨i1, d, z, hi⟩ := under_of hF ek (by simp)
    obtain ⟨fs, hu, hl⟩ := hi.kd_struct ek
    split at h
    · rename_i cs hcs
      have hz := zeroEq_rep (T := T) (w := w) (μ := μ) (ro := ro) hi.zeroEq
      rw [ez] at hz
      obtain ⟨vs, hvs, hs, hlz, hr, -⟩ := hz.1.agg_inv rfl
      have hfz := hi.zeroFits
      rw [ez, fits, ek] at hfz
      have hsz := at_sized hT t
      rw [sizeOk, ek] at hsz
      have hlf : (flats zs).length = (T.at t).size := by have := flats_length hT l zs 0 _ hfz hs hsz; omega
      obtain ⟨cells', e1, e2, e3, e4, e5⟩ := buildInto_sound hT hsz _ _ zs cs vs hcs hlen hparts hfz hs (by rw [← hlz, flat, hlf]) (fun k pc hk => by
        have hlt := (List.getElem?_eq_some_iff.1 hk).1
        have hv : vs[k]? = some (vs[k]'(by rw [← hlz, flat]; exact hlt)) := Array.getElem?_eq_getElem _
        exact ⟨_, hv, hr k pc _ hk hv⟩)
      have hfit : fits T t (.agg cs) = true := by rw [fits, ek]; exact e3
      have hlc := flat_length hT t _ hfit e4
      refine ⟨.agg cells', ?_, _, h, ?_⟩
      · have hpl : (fs.mapM fun f => (do pure (f.offset, ← sizeOf f.type) : Sem (Nat × Nat))).run P w = .ok (fs.map fun f => (f.offset, (T.at f.type).size)) w := by
          obtain ⟨fl⟩ := fs
          have := run_places (P := P) (T := T) (w := w) fl (fun f hf => by
            simp only [List.all_eq_true, Bool.not_eq_true'] at hnoth
            exact hnoth (f.offset, f.type) (by rw [← hl]; simp; exact ⟨f, hf, rfl, rfl⟩)) hF
          rw [List.mapM_toArray]
          simp only [Sem.run_map, this, Result.andThen_ok]
          simp
        have hfun : (fun i => (fs.map fun f => (f.offset, (T.at f.type).size))[i]?) = fun (i : Nat) => (l[i]?).map fun (f : Nat × Nat) => (f.1, (T.at f.2).size) := by
          funext i
          rw [← hl]
          simp only [Array.getElem?_map, List.getElem?_map, Array.getElem?_toList, Option.map_map]
          rfl
        simp only [Instr.build, Sem.run_bind, hi.run_zero, Result.andThen_ok, run_underlying hu, hpl, hvs, Value.cells]
        rw [hfun, e1]
        rfl
      · refine .agg _ cells' rfl e4 (by rw [hlc, e2]) (fun k c v hk hv => ?_) (fits_cells t _ hfit e4)
        obtain ⟨u, hu, hru⟩ := e5 k c hk
        rw [hv] at hu; cases hu; exact hru
    · exact h.elim
  · rename_i n e n' zs ek ez
    obtain ⟨hc, h⟩ := cond_and h
    obtain ⟨hel, hK⟩ := elemsOkK_spec h
    simp only [Bool.and_eq_true, Nat.beq_eq, Bool.not_eq_true', List.all_eq_true, Nat.blt_eq] at hc
    obtain ⟨⟨⟨rfl, hlt⟩, hna⟩, hno⟩ := hc
    obtain ⟨i1, d, z, hi⟩ := under_of hF ek (by simp)
    obtain ⟨i2, d2, z2, hi2⟩ := tiOk_of hF e (by intro e; rw [e] at hno; simp [Kd.isOther] at hno)
    have hz := zeroEq_rep (T := T) (w := w) (μ := μ) (ro := ro) hi.zeroEq
    rw [ez] at hz
    obtain ⟨vs, hvs, hs, hlz, hr, -⟩ := hz.1.agg_inv rfl
    rw [flat] at hlz hr
    obtain ⟨cells', e1, e2, e3, e4, e5⟩ := buildArr_sound (w := w) (μ := μ) (ro := ro) (n := n) hT hna hno _ _ zs vs (fun p hp => ⟨hlt p hp, hel _ (List.mem_map_of_mem hp)⟩) hlen hparts hs.1 hs.2 (by rw [← hlz, hs.1]) (fun k pc hk => by
      have hlt := (List.getElem?_eq_some_iff.1 hk).1
      have hv : vs[k]? = some (vs[k]'(by rw [← hlz]; exact hlt)) := Array.getElem?_eq_getElem _
      exact ⟨_, hv, hr k pc _ hk hv⟩)
    refine ⟨.agg cells', ?_, _, hK, ?_⟩
    · simp only [Instr.build, Sem.run_bind, hi.run_zero, Result.andThen_ok, run_underlying (hi.kd_array ek), hi2.run_sizeOf, hvs, Value.cells]
      rw [e1]
      rfl
    · refine .agg _ cells' rfl ⟨e3, e4⟩ (by rw [flat, e3, e2]) (fun k c v hk hv => ?_) (fun c hc => cellC_of_pureC (e4 c hc))
      obtain ⟨u, hu, hru⟩ := e5 k c hk
      rw [hv] at hu; cases hu; exact hru
  · exact h.elim

end
end Pv
