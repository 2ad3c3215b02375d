/- The frames ninth part: operations that make memory, one by one. -/
import Derived.Test.YthdpkcolbgoecaaFq

namespace Pv
open Go

/-- Cells laid into a row, one behind the other. -/
theorem layInto (vs : List Value) : ∀ (off j : Nat) (cells : Array Value),
    ((vs.zipIdx j).foldl (fun (cs : Array Value) (x : Value × Nat) => cs.setIfInBounds (off + x.2) x.1) cells).size = cells.size ∧
    ∀ k, ((vs.zipIdx j).foldl (fun (cs : Array Value) (x : Value × Nat) => cs.setIfInBounds (off + x.2) x.1) cells)[k]? =
      if off + j ≤ k ∧ k < off + j + vs.length ∧ k < cells.size then vs[k - (off + j)]? else cells[k]? := by
  induction vs with
  | nil => intro off j cells; refine ⟨rfl, fun k => ?_⟩; rw [if_neg (by simp; omega)]; rfl
  | cons v r ih =>
    intro off j cells
    simp only [List.zipIdx_cons, List.foldl_cons]
    obtain ⟨h1, h2⟩ := ih off (j + 1) (cells.setIfInBounds (off + j) v)
    refine ⟨by rw [h1]; simp, fun k => ?_⟩
    rw [h2 k]
    simp only [Array.size_setIfInBounds, List.length_cons, Array.getElem?_setIfInBounds]
    by_cases e : k = off + j
    · subst e
      rw [if_neg (show ¬ (off + (j + 1) ≤ off + j ∧ off + j < off + (j + 1) + r.length ∧ off + j < cells.size) by omega), if_pos rfl]
      by_cases hlt : off + j < cells.size
      · rw [if_pos hlt, if_pos (show off + j ≤ off + j ∧ off + j < off + j + (r.length + 1) ∧ off + j < cells.size by omega)]; simp
      · rw [if_neg hlt, if_neg (show ¬ (off + j ≤ off + j ∧ off + j < off + j + (r.length + 1) ∧ off + j < cells.size) by omega)]
        exact (Array.getElem?_eq_none (by omega)).symm
    · rw [if_neg (show ¬ off + j = k by omega)]
      by_cases hin : off + (j + 1) ≤ k ∧ k < off + (j + 1) + r.length ∧ k < cells.size
      · rw [if_pos hin, if_pos (show off + j ≤ k ∧ k < off + j + (r.length + 1) ∧ k < cells.size by omega)]
        rw [show k - (off + j) = (k - (off + (j + 1))) + 1 by omega, List.getElem?_cons_succ]
      · rw [if_neg hin, if_neg (show ¬ (off + j ≤ k ∧ k < off + j + (r.length + 1) ∧ k < cells.size) by omega)]

theorem layInto' (vs : Array Value) (off : Nat) (cells : Array Value) :
    (vs.zipIdx.foldl (fun (cs : Array Value) (x : Value × Nat) => cs.setIfInBounds (off + x.2) x.1) cells).size = cells.size ∧
    ∀ k, (vs.zipIdx.foldl (fun (cs : Array Value) (x : Value × Nat) => cs.setIfInBounds (off + x.2) x.1) cells)[k]? =
      if off ≤ k ∧ k < off + vs.size ∧ k < cells.size then vs[k - off]? else cells[k]? := by
  have := layInto vs.toList off 0 cells
  rw [← Array.foldl_toList, Array.toList_zipIdx]
  simpa using this

section
variable {P : Program} {T : Tab} {hb : Nat} {w : World} {μ : Nat → Option Nat} {ro : Nat → Prop} {L : Heap} {K : PV → Ups → Prop}

theorem run_newRow (t : TypeId) (c : Array Value) : (newRow t c).run P w = .ok ⟨w.heap.size, 0, none⟩ { w with heap := w.heap.push (.cells c t) } := rfl

theorem grew_push (o : Obj) : Grew w { w with heap := w.heap.push o } o := ⟨rfl, rfl, rfl, rfl⟩

theorem TiOk.run_zero {t : Nat} {i : TypeInfo} {d : TypeDesc} {z : Value} (h : TiOk P T t (T.at t) i d z) : (zeroValue t).run P w = .ok z w := by
  simp [zeroValue, typeInfo, h.info, h.zero]

theorem box_sound (hT : tabSized T = true) {t : Nat} {x : PV} {v : Value} (hK : K (.ptr hb t 0 []) [(hb, .box true t x)]) (hf : fits T t x = true) (hr : Rep T w μ ro x v) (hL : HRel T w μ ro L) (hfr : Fresh hb μ L) :
    ∃ r w', (Instr.box t v).run P w = .ok r w' ∧ Out T hb L μ ro w K r w' := by
  obtain ⟨hs, hsz, hc⟩ := rep_cells hT hf hr
  refine ⟨_, _, by simp only [Instr.box, newVar, Sem.run_bind, run_newRow, Result.andThen_ok]; rfl, ?_⟩
  exact out_box (grew_push _) hL hfr hs hf (by rw [hsz]; exact flat_length hT t x hf hs) (fun k pc hk => let ⟨u, h1, h2, _⟩ := hc k pc hk; ⟨u, h1, h2⟩) hK

theorem alloc_sound (hF : tabFits P T 0 T = true) (hT : tabSized T = true) {t : Nat} (hK : K (.ptr hb t 0 []) [(hb, .box true t (T.at t).zero)]) (hf : fits T t (T.at t).zero = true) (hL : HRel T w μ ro L) (hfr : Fresh hb μ L) :
    ∃ r w', (Instr.alloc t true (.tuple #[])).run P w = .ok r w' ∧ Out T hb L μ ro w K r w' := by
  have hno : (T.at t).kd ≠ .other := by
    intro e
    have := other_of_fits hf
    rw [e] at this; simp [Kd.isOther] at this
  obtain ⟨i, d, z, hi⟩ := tiOk_of hF t hno
  have hz := zeroEq_rep (T := T) (w := w) (μ := μ) (ro := ro) hi.zeroEq
  obtain ⟨hs, hsz, hc⟩ := rep_cells hT hf hz.1
  refine ⟨_, _, by simp only [Instr.alloc, Sem.run_bind, hi.run_zero, Result.andThen_ok, newVar, run_newRow]; rfl, ?_⟩
  exact out_box (grew_push _) hL hfr hs hf (by rw [hsz]; exact flat_length hT t _ hf hs) (fun k pc hk => let ⟨u, h1, h2, _⟩ := hc k pc hk; ⟨u, h1, h2⟩) hK

/-- Parts that are laid one behind the other. -/
theorem fill_row {size : Nat} : ∀ (parts : List (Nat × Value)) (i : Nat) (cells : Array Value), (∀ j p, parts[j]? = some p → p.1 = i + j ∧ p.2.cells.size = size) → (i + parts.length) * size ≤ cells.size →
    ∃ c, Instr.fill (fun i => some (i * size, size)) cells parts = some c ∧ c.size = cells.size ∧ (∀ k, k < i * size → c[k]? = cells[k]?) ∧
      ∀ j p, parts[j]? = some p → ∀ k, k < size → c[(i + j) * size + k]? = p.2.cells[k]?
  | [], i, cells, _, _ => ⟨cells, rfl, rfl, fun _ _ => rfl, fun j p h => by simp at h⟩
  | (i', v) :: r, i, cells, hp, hl => by
    obtain ⟨hi', hv⟩ := hp 0 _ rfl
    simp only [Nat.add_zero] at hi' hv
    subst hi'
    have hle : i' * size + size ≤ cells.size := by
      simp only [List.length_cons] at hl
      have : (i' + 1) * size ≤ (i' + (r.length + 1)) * size := Nat.mul_le_mul_right _ (by omega)
      rw [Nat.add_mul, Nat.one_mul] at this
      omega
    obtain ⟨h1, h2⟩ := layInto' v.cells (i' * size) cells
    obtain ⟨c, hc1, hc2, hc3, hc4⟩ := fill_row r (i' + 1) (v.cells.zipIdx.foldl (fun (cs : Array Value) (x : Value × Nat) => cs.setIfInBounds (i' * size + x.2) x.1) cells)
      (fun j p h => by have := hp (j + 1) p (by simpa using h); exact ⟨by omega, this.2⟩) (by rw [h1]; simp only [List.length_cons] at hl; rw [show i' + 1 + r.length = i' + (r.length + 1) by omega]; exact hl)
    refine ⟨c, ?_, by rw [hc2, h1], fun k hk => ?_, fun j p h k hk => ?_⟩
    · simp only [Instr.fill]
      rw [if_neg]
      · exact hc1
      · simp only [hv, ne_eq, not_true_eq_false, decide_false, Bool.false_or, decide_eq_true_eq]
        omega
    · have : k < (i' + 1) * size := by rw [Nat.add_mul]; omega
      rw [hc3 k this, h2 k, if_neg (by omega)]
    · cases j with
      | zero =>
        simp at h; subst h
        have : i' * size + k < (i' + 1) * size := by rw [Nat.add_mul]; omega
        rw [Nat.add_zero, hc3 _ this, h2, if_pos ⟨by omega, by omega, by omega⟩]
        congr 1
        omega
      | succ j =>
        have := hc4 j p (by simpa using h) k hk
        rw [show i' + (j + 1) = i' + 1 + j by omega]
        exact this

theorem litElems_get : ∀ (i : Nat) (parts : List (Nat × PV)) (xs : List PV), litElems i parts = some xs → xs.length = parts.length ∧ ∀ j p, parts[j]? = some p → p.1 = i + j ∧ xs[j]? = some p.2
  | i, [], xs, h => by simp [litElems] at h; subst h; exact ⟨rfl, fun j p h => by simp at h⟩
  | i, (j', v) :: r, xs, h => by
    simp only [litElems] at h
    cases e : Nat.beq i j' with
    | false => rw [e] at h; simp at h
    | true =>
      rw [e] at h
      simp only [cond_true, Option.map_eq_some_iff] at h
      obtain ⟨ys, hy, rfl⟩ := h
      obtain ⟨h1, h2⟩ := litElems_get (i + 1) r ys hy
      refine ⟨by simp [h1], fun j p hp => ?_⟩
      cases j with
      | zero => simp at hp; subst hp; exact ⟨by simp; exact (Nat.eq_of_beq_eq_true e).symm, by simp⟩
      | succ j => simp at hp; have := h2 j p hp; exact ⟨by omega, by simpa using this.2⟩

theorem buildSlice_sound (hF : tabFits P T 0 T = true) (hT : tabSized T = true) {t n : Nat} {parts : Array (Nat × Operand)} {ρ' : Operand → PV} {ρ : Operand → Value}
    (h : evBuildSlice T hb t n (parts.toList.map fun (i, x) => (i, ρ' x)) K) (hρ : ∀ x, Rep T w μ ro (ρ' x) (ρ x)) (hL : HRel T w μ ro L) (hfr : Fresh hb μ L) :
    ∃ r w', (Instr.buildSlice t n (parts.map fun (i, x) => (i, ρ x))).run P w = .ok r w' ∧ Out T hb L μ ro w K r w' := by
  unfold evBuildSlice at h
  split at h
  · rename_i e ek
    obtain ⟨i1, d, z, hi1⟩ := under_of hF ek (by simp)
    have hu := hi1.kd_slice ek
    split at h
    · rename_i xs hxs
      obtain ⟨hc, h⟩ := cond_and h
      obtain ⟨helem, hK⟩ := elemsOkK_spec h
      simp only [Bool.and_eq_true, Nat.beq_eq, Nat.ble_eq, Nat.blt_eq, Bool.not_eq_true'] at hc
      obtain ⟨⟨⟨hlen, hsmall⟩, hsz0⟩, hno⟩ := hc
      obtain ⟨hl1, hl2⟩ := litElems_get 0 _ xs hxs
      simp only [List.length_map, Array.length_toList] at hl1
      have hnp : n = parts.size := by omega
      -- each part, as it is given
      have hpart : ∀ (j : Nat) (p : Nat × Value), ((parts.map fun (i, x) => (i, ρ x)).toList)[j]? = some p → ∃ x, xs[j]? = some x ∧ p.1 = j ∧ Rep T w μ ro x p.2 := by
        intro j p hp
        simp only [Array.toList_map, List.getElem?_map, Option.map_eq_some_iff] at hp
        obtain ⟨⟨i', o⟩, hq, rfl⟩ := hp
        have := hl2 j (i', ρ' o) (by simp only [List.getElem?_map, hq, Option.map_some])
        simp only [Nat.zero_add] at this
        exact ⟨_, this.2, this.1, hρ o⟩
      have hrow : RowOk T e xs := by
        intro x hx
        have he := helem x hx
        obtain ⟨j, hj, rfl⟩ := List.getElem_of_mem hx
        have hjp : j < ((parts.map fun (i, x) => (i, ρ x)).toList).length := by simp; omega
        obtain ⟨y, hy, -, hr⟩ := hpart j _ (List.getElem?_eq_getElem hjp)
        rw [List.getElem?_eq_getElem hj] at hy; cases hy
        exact ⟨(rep_cells hT he.1 hr).1, he.1, he.2⟩
      obtain ⟨i2, d2, z2, hi2⟩ := tiOk_of hF e (by intro e; rw [e] at hno; simp [Kd.isOther] at hno)
      obtain ⟨c0, hc0, hrun⟩ : ∃ c0 : Array Value, c0.size = n * (T.at e).size ∧ ∀ c, Instr.fill (fun i => some (i * (T.at e).size, (T.at e).size)) c0 (parts.map fun (i, x) => (i, ρ x)).toList = some c →
          (Instr.buildSlice t n (parts.map fun (i, x) => (i, ρ x))).run P w = .ok (.slice (some ⟨w.heap.size, 0, none⟩) n n) { w with heap := w.heap.push (.cells c e) } := by
        by_cases hs0 : n * (T.at e).size = 0
        · refine ⟨(Array.range (n * (T.at e).size)).map ((#[] : Array Value)[· % (#[] : Array Value).size]!), by simp, fun c hc => ?_⟩
          simp only [Instr.buildSlice, Sem.run_bind, run_underlying hu, Result.andThen_ok, hi2.run_sizeOf]
          rw [if_neg (show ¬ n * (T.at e).size > 2 ^ 24 by omega)]
          simp only [Sem.run_bind, Sem.run_pure, Result.andThen_ok, if_pos hs0, hc, run_newRow]
        · refine ⟨(Array.range (n * (T.at e).size)).map (z2.cells[· % z2.cells.size]!), by simp, fun c hc => ?_⟩
          simp only [Instr.buildSlice, Sem.run_bind, run_underlying hu, Result.andThen_ok, hi2.run_sizeOf]
          rw [if_neg (show ¬ n * (T.at e).size > 2 ^ 24 by omega)]
          simp only [Sem.run_bind, Sem.run_pure, Result.andThen_ok, if_neg hs0, hi2.run_zero, hc, run_newRow]
      have hparts : ∀ j p, ((parts.map fun (i, x) => (i, ρ x)).toList)[j]? = some p → p.1 = 0 + j ∧ p.2.cells.size = (T.at e).size := by
        intro j p hp
        obtain ⟨x, hx, h1, hr⟩ := hpart j p hp
        have hxm := List.mem_of_getElem? hx
        exact ⟨by omega, (rep_cells hT (hrow x hxm).2.1 hr).2.1⟩
      obtain ⟨c, hc1, hc2, -, hc4⟩ := fill_row (size := (T.at e).size) (parts.map fun (i, x) => (i, ρ x)).toList 0 c0 hparts (by simp [hc0, hnp])
      refine ⟨_, _, hrun c hc1, ?_⟩
      refine out_row (grew_push _) hL hfr hrow (by rw [flats_row_length hT xs hrow, hc2, hc0, hlen]; exact Nat.le_refl _) (fun k pc hk => ?_) (.inl rfl) (Nat.le_refl _) (by rw [hc2, hc0]; exact Nat.le_refl _) hK
      -- the cell k lies in element k / size
      have hlt : k < n * (T.at e).size := by
        have := (List.getElem?_eq_some_iff.1 hk).1
        rw [flats_row_length hT xs hrow, hlen] at this; exact this
      have hq : k / (T.at e).size < n := (Nat.div_lt_iff_lt_mul hsz0).2 hlt
      have hmod : k % (T.at e).size < (T.at e).size := Nat.mod_lt _ hsz0
      have hjp : k / (T.at e).size < ((parts.map fun (i, x) => (i, ρ x)).toList).length := by simp; omega
      obtain ⟨x, hx, h1, hr⟩ := hpart _ _ (List.getElem?_eq_getElem hjp)
      have hfx := (hrow x (List.mem_of_getElem? hx)).2.1
      have hcell := hc4 _ _ (List.getElem?_eq_getElem hjp) _ hmod
      have hflat := row_cells hT xs _ x hrow hx _ hmod
      have hkk : k / (T.at e).size * (T.at e).size + k % (T.at e).size = k := Nat.div_add_mod' _ _
      rw [hkk] at hflat
      rw [Nat.zero_add, hkk] at hcell
      rw [← hflat] at hk
      obtain ⟨u, hu1, hu2, -⟩ := (rep_cells hT hfx hr).2.2 _ pc hk
      exact ⟨u, by rw [hcell]; exact hu1, hu2⟩
    · exact h.elim
  · exact h.elim

end
end Pv
