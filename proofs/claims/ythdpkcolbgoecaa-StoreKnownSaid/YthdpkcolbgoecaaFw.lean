/- The frames eleventh part: stores. -/
import Derived.Test.YthdpkcolbgoecaaFu

namespace Pv
open Go

/-- A block that was written. -/
structure Wrote (w w' : World) (b : Nat) (c : Array Value) (t : TypeId) (fr : Nat × Nat) : Prop where
  at_ : w'.heap[b]? = some (.cells c t fr)
  other : ∀ j, j ≠ b → w'.heap[j]? = w.heap[j]?
  size : w'.heap.size = w.heap.size
  os : w'.os = w.os
  tape : w'.tape = w.tape
  output : w'.output = w.output

theorem setCell_wrote {w : World} {b o : Nat} {c : Array Value} {t : TypeId} {fr : Nat × Nat} (v : Value) (h : w.heap[b]? = some (.cells c t fr)) : Wrote w (w.setCell ⟨b, o, none⟩ v) b (c.setIfInBounds o v) t fr := by
  refine ⟨?_, fun j hj => ?_, ?_, rfl, rfl, rfl⟩
  · simp only [World.setCell, Array.getElem?_modify, h, Option.map_some]
    simp
  · simp only [World.setCell, Array.getElem?_modify]
    rw [if_neg (by simpa using fun e => hj e.symm)]
  · simp [World.setCell]

theorem run_store_cell {P : Program} {w : World} {b o : Nat} {c : Array Value} {t : TypeId} {lo hi : Nat} {v : Value} (h : w.heap[b]? = some (.cells c t (lo, hi))) (ho : o < c.size)
    (hfr : (decide (lo ≤ o) && decide (o < hi)) = false) (hv : oneCell v = true) : (store ⟨b, o, none⟩ v).run P w = .ok () (w.setCell ⟨b, o, none⟩ v) := by
  have hcell : w.cell? ⟨b, o, none⟩ = some c[o] := by simp [World.cell?, h, ho]
  have hf : w.frozen? ⟨b, o, none⟩ = false := by simp only [World.frozen?, h]; exact hfr
  cases v <;> simp [oneCell] at hv <;> simp [store, Sem.run, hcell, hf]

theorem run_storeCells_wrote {P : Program} {b off : Nat} {t : TypeId} {lo hi : Nat} : ∀ (vs : List Value) (i : Nat) (c : Array Value) (w : World), w.heap[b]? = some (.cells c t (lo, hi)) → off + i + vs.length ≤ c.size →
    (∀ o, o < c.size → (decide (lo ≤ o) && decide (o < hi)) = false) → (∀ v ∈ vs, oneCell v = true) →
    ∃ c' w', (storeCells ⟨b, off, none⟩ vs i).run P w = .ok () w' ∧ Wrote w w' b c' t (lo, hi) ∧ c'.size = c.size ∧ ∀ k, c'[k]? = if off + i ≤ k ∧ k < off + i + vs.length then vs[k - (off + i)]? else c[k]?
  | [], i, c, w, h, _, _, _ => ⟨c, w, rfl, ⟨h, fun _ _ => rfl, rfl, rfl, rfl, rfl⟩, rfl, fun k => by rw [if_neg (by simp only [List.length_nil]; omega)]⟩
  | v :: r, i, c, w, h, hl, hfr, hv => by
    simp only [List.length_cons] at hl
    have ho : off + i < c.size := by omega
    have h1 := run_store_cell (P := P) h ho (hfr _ ho) (hv v (by simp))
    have hw := setCell_wrote (o := off + i) v h
    obtain ⟨c', w', h2, h3, h4, h5⟩ := run_storeCells_wrote (P := P) (off := off) r (i + 1) (c.setIfInBounds (off + i) v) (w.setCell ⟨b, off + i, none⟩ v) hw.at_ (by simp; omega) (by simpa using hfr) (fun x hx => hv x (by simp [hx]))
    refine ⟨c', w', by simp only [storeCells, Sem.run_bind, add_none, h1, Result.andThen_ok, h2], ⟨h3.at_, fun j hj => (h3.other j hj).trans (hw.other j hj), h3.size.trans hw.size, h3.os.trans hw.os, h3.tape.trans hw.tape, h3.output.trans hw.output⟩, by rw [h4]; simp, fun k => ?_⟩
    rw [h5 k]
    simp only [List.length_cons, Array.getElem?_setIfInBounds]
    by_cases e : k = off + i
    · subst e
      rw [if_neg (show ¬ (off + (i + 1) ≤ off + i ∧ off + i < off + (i + 1) + r.length) by omega), if_pos rfl, if_pos ho, if_pos (show off + i ≤ off + i ∧ off + i < off + i + (r.length + 1) by omega)]
      simp
    · rw [if_neg (show ¬ off + i = k by omega)]
      by_cases hin : off + (i + 1) ≤ k ∧ k < off + (i + 1) + r.length
      · rw [if_pos hin, if_pos (show off + i ≤ k ∧ k < off + i + (r.length + 1) by omega), show k - (off + i) = (k - (off + (i + 1))) + 1 by omega, List.getElem?_cons_succ]
      · rw [if_neg hin, if_neg (show ¬ (off + i ≤ k ∧ k < off + i + (r.length + 1)) by omega)]

theorem fitsL_set {T : Tab} : ∀ (ts : List Nat) (fs : List PV) (j t : Nat) (v : PV), fitsL T ts fs = true → ts[j]? = some t → fits T t v = true → fitsL T ts (fs.set j v) = true
  | [], fs, j, t, v, _, h, _ => by simp at h
  | _ :: _, [], _, _, _, h, _, _ => by simp [fitsL] at h
  | t' :: ts, x :: fs, 0, t, v, h, ht, hv => by
    simp at ht; subst ht
    simp only [fitsL, Bool.and_eq_true, List.set_cons_zero] at h ⊢
    exact ⟨hv, h.2⟩
  | t' :: ts, x :: fs, j + 1, t, v, h, ht, hv => by
    simp at ht
    simp only [fitsL, Bool.and_eq_true, List.set_cons_succ] at h ⊢
    exact ⟨h.1, fitsL_set ts fs j t v h.2 ht hv⟩

theorem flats_set {T : Tab} (hT : tabSized T = true) : ∀ (l : List (Nat × Nat)) (fs : List PV) (acc n j : Nat) (o ft : Nat) (v : PV), fitsL T (l.map (·.2)) fs = true → Shps fs → placesOk T acc l n = true →
    l[j]? = some (o, ft) → fits T ft v = true → Shp v → acc ≤ o ∧ ∀ k, (flats (fs.set j v))[k]? = if o - acc ≤ k ∧ k < o - acc + (T.at ft).size then (flat v)[k - (o - acc)]? else (flats fs)[k]?
  | [], _, _, _, _, _, _, _, _, _, _, hl, _, _ => by simp at hl
  | _ :: _, [], _, _, _, _, _, _, h, _, _, _, _, _ => by simp [fitsL] at h
  | (o', ft') :: r, x :: xs, acc, n, 0, o, ft, v, hf, hs, hp, hl, hv, hsv => by
    simp at hl
    obtain ⟨rfl, rfl⟩ := hl
    simp only [List.map_cons, fitsL, Bool.and_eq_true] at hf
    simp only [placesOk, Bool.and_eq_true, Nat.beq_eq] at hp
    have h1 := flat_length hT _ _ hf.1 hs.1
    have h2 := flat_length hT _ _ hv hsv
    refine ⟨by omega, fun k => ?_⟩
    rw [List.set_cons_zero, flats, flats]
    by_cases hlt : k < (T.at ft').size
    · rw [List.getElem?_append_left (by omega), if_pos (by omega)]; congr 1; omega
    · rw [List.getElem?_append_right (by omega), List.getElem?_append_right (by omega), if_neg (by omega), h1, h2]
  | (o', ft') :: r, x :: xs, acc, n, j + 1, o, ft, v, hf, hs, hp, hl, hv, hsv => by
    simp at hl
    simp only [List.map_cons, fitsL, Bool.and_eq_true] at hf
    simp only [placesOk, Bool.and_eq_true, Nat.beq_eq] at hp
    have h1 := flat_length hT _ _ hf.1 hs.1
    obtain ⟨ha, hk⟩ := flats_set hT r xs _ n j o ft v hf.2 hs.2 hp.2 hl hv hsv
    refine ⟨by omega, fun k => ?_⟩
    rw [List.set_cons_succ, flats, flats]
    by_cases hlt : k < (T.at ft').size
    · rw [List.getElem?_append_left (by omega), List.getElem?_append_left (by omega), if_neg (by omega)]
    · rw [List.getElem?_append_right (by omega), List.getElem?_append_right (by omega), hk, h1]
      by_cases hin : o - acc ≤ k ∧ k < o - acc + (T.at ft).size
      · rw [if_pos hin, if_pos (by omega)]; congr 1; omega
      · rw [if_neg hin, if_neg (by omega)]


theorem modify_eq_set {α : Type} (f : α → α) : ∀ (l : List α) (j : Nat) (y : α), l[j]? = some y → l.modify j f = l.set j (f y)
  | [], j, y, h => by simp at h
  | a :: r, 0, y, h => by simp at h; subst h; simp [List.modify]
  | a :: r, j + 1, y, h => by
    simp at h
    have := modify_eq_set f r j y h
    simp only [List.modify_succ_cons, List.set_cons_succ, this]

/-- A value with another part: its shape, its cells. -/
theorem putIn_sound {T : Tab} (hT : tabSized T = true) {t : Nat} {v : PV} (hv : fits T t v = true) (hsv : Shp v) : ∀ (p : List Nat) (ty : Nat) (x : PV) (K : PV → Prop), fits T ty x = true → Shp x → tyAt T ty p = some t → subK x p K →
    (arrPath T ty p = true → pureV v) →
    fits T ty (putIn x p v) = true ∧ Shp (putIn x p v) ∧ ∀ k, (flat (putIn x p v))[k]? = if offAt T ty p ≤ k ∧ k < offAt T ty p + (T.at t).size then (flat v)[k - offAt T ty p]? else (flat x)[k]?
  | [], ty, x, K, hf, hs, ht, h, _ => by
    simp [tyAt] at ht; subst ht
    refine ⟨hv, hsv, fun k => ?_⟩
    simp only [putIn, offAt, Nat.zero_add, Nat.zero_le, true_and, Nat.sub_zero]
    split
    · rfl
    · rename_i hk
      rw [List.getElem?_eq_none (by rw [flat_length hT ty v hv hsv]; omega), List.getElem?_eq_none (by rw [flat_length hT ty x hf hs]; omega)]
  | j :: p, ty, x, K, hf, hs, ht, h, hpure => by
    have hz := at_sized hT ty
    simp only [subK, fieldK] at h
    split at h
    · rename_i fs
      obtain ⟨z, hz1, hz2⟩ := elemAt_some h
      rw [fits] at hf
      split at hf
      · rename_i l e
        rw [sizeOk, e] at hz
        simp only [tyAt, e] at ht
        cases hl : l[j]? with
        | none => simp [hl] at ht
        | some f =>
          obtain ⟨o, ft⟩ := f
          simp only [hl] at ht
          obtain ⟨a, b, c, d, g⟩ := field_cells hT l fs 0 _ j o ft z hf hs hz hl hz1
          obtain ⟨h1, h2, h3⟩ := putIn_sound hT hv hsv p ft z K a b ht hz2 (by intro hp; apply hpure; simp [arrPath, e, hl, hp])
          have hmod : fs.modify j (fun y => putIn y p v) = fs.set j (putIn z p v) := modify_eq_set _ fs j z hz1
          simp only [putIn, hmod]
          obtain ⟨-, h4⟩ := flats_set hT l fs 0 _ j o ft (putIn z p v) hf hs hz hl h1 h2
          refine ⟨?_, ?_, fun k => ?_⟩
          · rw [fits, e]
            exact fitsL_set _ _ j ft _ hf (by simp [hl]) h1
          · rw [Shp, Shps_iff]
            intro y hy
            rcases List.mem_or_eq_of_mem_set hy with hy | rfl
            · exact (Shps_iff fs).1 hs y hy
            · exact h2
          · simp only [flat, offAt, e, hl]
            rw [h4 k]
            obtain ⟨y, -, -, -, hle, -⟩ := sub_sound hT p ft t z K a b ht hz2
            by_cases hin : o - 0 ≤ k ∧ k < o - 0 + (T.at ft).size
            · rw [if_pos hin, h3]
              by_cases hin2 : offAt T ft p ≤ k - (o - 0) ∧ k - (o - 0) < offAt T ft p + (T.at t).size
              · rw [if_pos hin2, if_pos (show o + offAt T ft p ≤ k ∧ k < o + offAt T ft p + (T.at t).size by omega)]
                congr 1; omega
              · rw [if_neg hin2, if_neg (show ¬ (o + offAt T ft p ≤ k ∧ k < o + offAt T ft p + (T.at t).size) by omega), g _ (by omega)]
                congr 1; omega
            · rw [if_neg hin, if_neg (show ¬ (o + offAt T ft p ≤ k ∧ k < o + offAt T ft p + (T.at t).size) by omega)]
      · simp at hf
    · rename_i n xs
      obtain ⟨z, hz1, hz2⟩ := elemAt_some h
      rw [fits] at hf
      split at hf
      · rename_i n' e' e
        rw [sizeOk, e] at hz
        have hf0 := hf
        simp only [Bool.and_eq_true, Nat.beq_eq, Bool.not_eq_true'] at hf hz
        obtain ⟨⟨⟨rfl, hone⟩, hna⟩, hno⟩ := hf
        simp only [tyAt, e] at ht
        have hpv := hpure (by simp [arrPath, e])
        have hlt := (List.getElem?_eq_some_iff.1 hz1).1
        have hpz := hs.2 z (List.mem_of_getElem? hz1)
        have hzs := isAgg_of_pureC hpz
        have hshz : Shp z := by cases z <;> first | trivial | simp [isAggV] at hzs
        obtain ⟨h1, h2, h3⟩ := putIn_sound hT hv hsv p e' z K (fits_scalar (cellC_of_pureC hpz) hna hno) hshz ht hz2 (fun _ => hpv)
        have hmod : xs.modify j (fun y => putIn y p v) = xs.set j (putIn z p v) := modify_eq_set _ xs j z hz1
        simp only [putIn, hmod]
        -- the new part is one cell of data
        obtain ⟨y, -, -, -, hle, -⟩ := sub_sound hT p e' t z K (fits_scalar (cellC_of_pureC hpz) hna hno) hshz ht hz2
        have hag : isAggV (putIn z p v) = false := by rw [fits_isAgg h1]; exact hna
        have hcell : flat (putIn z p v) = [putIn z p v] := flat_scalar hag
        have hnewp : pureC (putIn z p v) := by
          have h30 := h3 0
          rw [hcell] at h30
          by_cases hin : offAt T e' p ≤ 0 ∧ 0 < offAt T e' p + (T.at t).size
          · rw [if_pos hin] at h30
            simp only [List.getElem?_cons_zero] at h30
            exact hpv _ (List.mem_of_getElem? h30.symm)
          · rw [if_neg hin, flat_scalar hzs] at h30
            simp only [List.getElem?_cons_zero, Option.some.injEq] at h30
            rw [h30]; exact hpz
        refine ⟨?_, ⟨by simpa using hs.1, fun y hy => ?_⟩, fun k => ?_⟩
        · rw [fits, e]; exact hf0
        · rcases List.mem_or_eq_of_mem_set hy with hy | rfl
          · exact hs.2 y hy
          · exact hnewp
        · simp only [flat, offAt, e, hone, Nat.mul_one, List.getElem?_set]
          have h30 := h3 0
          rw [hcell] at h30
          simp only [List.getElem?_cons_zero] at h30
          by_cases hjk : j = k
          · subst hjk
            rw [if_pos rfl, if_pos hlt, h30]
            by_cases hin : offAt T e' p ≤ 0 ∧ 0 < offAt T e' p + (T.at t).size
            · rw [if_pos hin, if_pos (show j + offAt T e' p ≤ j ∧ j < j + offAt T e' p + (T.at t).size by omega)]; congr 1; omega
            · rw [if_neg hin, if_neg (show ¬ (j + offAt T e' p ≤ j ∧ j < j + offAt T e' p + (T.at t).size) by omega), flat_scalar hzs, hz1]; rfl
          · rw [if_neg hjk, if_neg (show ¬ (j + offAt T e' p ≤ k ∧ k < j + offAt T e' p + (T.at t).size) by omega)]
      · simp at hf
    · exact h.elim


theorem upd_same (L : Heap) (h : Nat) (k : Blk) : upd L h k h = k := by unfold upd; simp
theorem upd_other {L : Heap} {h x : Nat} {k : Blk} (hx : x ≠ h) : upd L h k x = L x := by unfold upd; rw [nbeq hx]; rfl

section
variable {P : Program} {T : Tab} {hb : Nat} {w : World} {μ : Nat → Option Nat} {ro : Nat → Prop} {L : Heap}

theorem Wrote.keeps {w' : World} {b : Nat} {c c0 : Array Value} {t : TypeId} {fr fr0 : Nat × Nat} (hw : Wrote w w' b c t fr) (hro : ¬ ro b) (hold : w.heap[b]? = some (.cells c0 t fr0)) (hsz : c.size = c0.size) : Keeps μ μ ro ro w w' := by
  refine ⟨fun _ _ h => h, fun _ h => h, fun x hx => hw.other x (fun e => hro (e ▸ hx)), fun x c' t' fr' hc => ?_⟩
  by_cases e : x = b
  · subst e; rw [hold] at hc; cases hc; exact ⟨c, fr, hw.at_, hsz⟩
  · exact ⟨c', fr', by rw [hw.other x e]; exact hc, rfl⟩

/-- One block that lives is written. -/
theorem hrel_upd {w' : World} {h b : Nat} {k : Blk} (hkeep : Keeps μ μ ro ro w w') (hother : ∀ x, x ≠ b → w'.heap[x]? = w.heap[x]?) (hsize : w'.heap.size = w.heap.size) (hL : HRel T w μ ro L) (hlive : (L h).live = true) (hmu : μ h = some b)
    (hk : BRel T w' μ ro (some b) k) : HRel T w' μ ro (upd L h k) := by
  have hro := hL.apart h b hlive hmu
  refine ⟨fun x y hx => by rw [hsize]; exact hL.lt x y hx, fun x y hl hx => ?_, fun y hy => by rw [hsize]; exact hL.ro_lt y hy, fun x y z hlx hly hx hy => ?_, fun x => ?_⟩
  · by_cases e : x = h
    · subst e; exact hL.apart x y hlive hx
    · rw [upd_other e] at hl; exact hL.apart x y hl hx
  · have live' : ∀ q, (upd L h k q).live = true → (L q).live = true := fun q hq => by
      by_cases e : q = h
      · subst e; exact hlive
      · rwa [upd_other e] at hq
    exact hL.inj x y z (live' x hlx) (live' y hly) hx hy
  · by_cases e : x = h
    · subst e; rw [upd_same, hmu]; exact hk
    · rw [upd_other e]
      have hbx := hL.blk x
      by_cases hbb : μ x = some b
      · -- another name of the block that is written: it says nothing of it
        rw [hbb] at hbx ⊢
        cases hLx : L x with
        | gone => trivial
        | row l ty xs =>
          rw [hLx] at hbx
          cases l with
          | true => exact absurd (hL.inj x h b (by rw [hLx]; rfl) hlive hbb hmu) e
          | false => exact absurd ((hbx.2.2 b rfl).1 rfl) hro
        | box l ty y =>
          rw [hLx] at hbx
          cases l with
          | true => exact absurd (hL.inj x h b (by rw [hLx]; rfl) hlive hbb hmu) e
          | false => obtain ⟨-, -, -, b', e1, h2, -⟩ := hbx; cases e1; exact absurd (h2 rfl) hro
        | map l kt et en =>
          rw [hLx] at hbx
          cases l with
          | true => exact absurd (hL.inj x h b (by rw [hLx]; rfl) hlive hbb hmu) e
          | false => obtain ⟨-, b', e1, h2, -⟩ := hbx; cases e1; exact absurd (h2 rfl) hro
        | iter l kt et rest cur =>
          rw [hLx] at hbx
          cases l with
          | true => exact absurd (hL.inj x h b (by rw [hLx]; rfl) hlive hbb hmu) e
          | false => obtain ⟨-, b', e1, h2, -⟩ := hbx; cases e1; exact absurd (h2 rfl) hro
      · exact hbx.keep hkeep (fun y hy => hother y (fun e => hbb (e ▸ hy)))

theorem Wrote.hrel {w' : World} {h b : Nat} {c c0 : Array Value} {t : TypeId} {fr fr0 : Nat × Nat} {k : Blk} (hw : Wrote w w' b c t fr) (hL : HRel T w μ ro L) (hlive : (L h).live = true) (hmu : μ h = some b)
    (hold : w.heap[b]? = some (.cells c0 t fr0)) (hsz : c.size = c0.size) (hk : BRel T w' μ ro (some b) k) : HRel T w' μ ro (upd L h k) :=
  hrel_upd (hw.keeps (hL.apart h b hlive hmu) hold hsz) hw.other hw.size hL hlive hmu hk

/-- What is no row of cells is written: another object in its place. -/
structure WroteO (w w' : World) (b : Nat) (o : Obj) : Prop where
  at_ : w'.heap[b]? = some o
  other : ∀ x, x ≠ b → w'.heap[x]? = w.heap[x]?
  size : w'.heap.size = w.heap.size
  os : w'.os = w.os
  tape : w'.tape = w.tape
  output : w'.output = w.output

theorem WroteO.keeps {w' : World} {b : Nat} {o o0 : Obj} (hw : WroteO w w' b o) (hro : ¬ ro b) (hold : w.heap[b]? = some o0) (hc : ∀ c t fr, o0 ≠ .cells c t fr) : Keeps μ μ ro ro w w' := by
  refine ⟨fun _ _ h => h, fun _ h => h, fun x hx => hw.other x (fun e => hro (e ▸ hx)), fun x c' t' fr' h => ?_⟩
  by_cases e : x = b
  · subst e; rw [hold] at h; cases h; exact absurd rfl (hc c' t' fr')
  · exact ⟨c', fr', by rw [hw.other x e]; exact h, rfl⟩
theorem WroteO.chg {w' : World} {h b : Nat} {o : Obj} (hw : WroteO w w' b o) (hlive : (L h).live = true) (hmu : μ h = some b) : Chg μ L w w' :=
  ⟨hw.os, hw.tape, hw.output, by rw [hw.size]; exact Nat.le_refl _, fun x _ hx => hw.other x (fun e => hx h hlive (e ▸ hmu))⟩
theorem WroteO.hrel {w' : World} {h b : Nat} {o o0 : Obj} {k : Blk} (hw : WroteO w w' b o) (hL : HRel T w μ ro L) (hlive : (L h).live = true) (hmu : μ h = some b) (hold : w.heap[b]? = some o0) (hc : ∀ c t fr, o0 ≠ .cells c t fr)
    (hk : BRel T w' μ ro (some b) k) : HRel T w' μ ro (upd L h k) :=
  hrel_upd (hw.keeps (hL.apart h b hlive hmu) hold hc) hw.other hw.size hL hlive hmu hk

theorem Wrote.chg {w' : World} {h b : Nat} {c : Array Value} {t : TypeId} {fr : Nat × Nat} (hw : Wrote w w' b c t fr) (hlive : (L h).live = true) (hmu : μ h = some b) : Chg μ L w w' :=
  ⟨hw.os, hw.tape, hw.output, by rw [hw.size]; exact Nat.le_refl _, fun x _ hx => hw.other x (fun e => hx h hlive (e ▸ hmu))⟩

theorem freeze_wrote {b : Nat} {c : Array Value} {t : TypeId} {lo hi : Nat} (h : w.heap[b]? = some (.cells c t (lo, hi))) (hfr : lo = hi ∨ c.size ≤ lo) :
    ∃ lo' hi', Wrote w (w.freeze ⟨b, c.size, none⟩ 1) b c t (lo', hi') ∧ (lo' = hi' ∨ c.size ≤ lo') := by
  refine ⟨if lo == hi then c.size else min lo c.size, if lo == hi then c.size + 1 else max hi (c.size + 1), ⟨?_, fun j hj => ?_, ?_, rfl, rfl, rfl⟩, ?_⟩
  · unfold World.freeze
    rw [if_neg (by decide)]
    simp only [Array.getElem?_modify, h, Option.map_some, if_true]
    by_cases e : lo = hi
    · subst e; simp
    · simp [e]
  · unfold World.freeze
    rw [if_neg (by decide)]
    simp only [Array.getElem?_modify]
    rw [if_neg (by simpa using fun e => hj e.symm)]
  · simp [World.freeze]
  · by_cases e : lo = hi
    · subst e; simp
    · right
      have : c.size ≤ lo := by omega
      simp [e]; omega

/-- Bytes of a constant text. -/
theorem convert2_sound {K : PV → Ups → Prop} (hF : tabFits P T 0 T = true) (hT : tabSized T = true) {src dst : Nat} {x : PV} {v : Value} (h : evConv2 T hb L src dst x K) (hx : Rep T w μ ro x v) (hL : HRel T w μ ro L) (hfr : Fresh hb μ L) :
    ∃ r w', (convert src dst v).run P w = .ok r w' ∧ Out T hb L μ ro w K r w' := by
  unfold evConv2 at h
  split at h
  · rename_i q e i n
    split at h
    · split at h
      · rename_i e' e2 ty xs ek1 ek2 eL
        rename_i e3 ek3
        obtain ⟨hc, hK⟩ := cond_and h
        simp only [Bool.and_eq_true, Nat.beq_eq, Nat.blt_eq] at hc
        obtain ⟨⟨rfl, rfl⟩, hn⟩ := hc
        obtain ⟨i1, d1, z1, hi1⟩ := under_of hF ek1 (by simp)
        obtain ⟨i2, d2, z2, hi2⟩ := under_of hF ek2 (by simp)
        rcases hx.sl_inv with ⟨e0, -⟩ | ⟨b, cap, c, t, fr, hmu, hcap, hcells, hsz, rfl⟩
        · omega
        have hlive : (L q).live = true := by rw [eL]; rfl
        have hblk := hL.blk q
        rw [eL, hmu] at hblk
        obtain ⟨hrow, -, h3⟩ := hblk
        obtain ⟨h4, c', tt, lo, hi, hcells', hnf, hlen, hrep⟩ := h3 b rfl
        rw [hcells] at hcells'; cases hcells'
        obtain ⟨lo', hi', hw, hnf'⟩ := freeze_wrote hcells (hnf rfl)
        have hkeep := hw.keeps (μ := μ) (hL.apart q b hlive hmu) hcells rfl
        refine ⟨_, w.freeze ⟨b, c.size, none⟩ 1, ?_, _, [], μ, hK, hx.keep hkeep, ?_, hkeep, hw.chg hlive hmu, fun _ _ => rfl, fun _ _ h => h, fun k b' hl hm => .inl ⟨k, hl, hm⟩⟩
        · have hsh : w.shape? b = some (t, c.size) := by simp [World.shape?, hcells]
          simp [convert, run_underlying (hi1.kd_slice ek1), run_underlying (hi2.kd_int ek2), markStringish, hsh]
        · have := hw.hrel hL hlive hmu hcells rfl (k := L q) (by
            rw [eL]
            refine ⟨hrow, (fun h => by cases h), fun b' e => ?_⟩
            cases e
            exact ⟨h4, c, t, lo', hi', hw.at_, fun _ => hnf', hlen, fun k pc hk => let ⟨v, h1, h2⟩ := hrep k pc hk; ⟨v, h1, h2.keep hkeep⟩⟩)
          have e : upd L q (L q) = L := by
            funext y
            by_cases hy : y = q
            · subst hy; exact upd_same _ _ _
            · exact upd_other hy
          rw [e] at this
          exact this
      · exact h.elim
    · exact convert_sound hF hT h hx hL hfr
  · exact convert_sound hF hT h hx hL hfr

/-- A rows cells behind a change of one element. -/
theorem flats_row_set (hT : tabSized T = true) {ty : Nat} : ∀ (xs : List PV) (i : Nat) (v : PV), RowOk T ty xs → i < xs.length → fits T ty v = true → Shp v → ∀ k, (flats (xs.set i v))[k]? = if i * (T.at ty).size ≤ k ∧ k < i * (T.at ty).size + (T.at ty).size then (flat v)[k - i * (T.at ty).size]? else (flats xs)[k]?
  | [], i, _, _, hi, _, _, _ => by simp at hi
  | x :: r, 0, v, hr, _, hv, hsv, k => by
    have h1 := flat_length hT ty x (hr x (by simp)).2.1 (hr x (by simp)).1
    have h2 := flat_length hT ty v hv hsv
    rw [List.set_cons_zero, flats, flats]
    by_cases hlt : k < (T.at ty).size
    · rw [List.getElem?_append_left (by omega), if_pos (by omega)]; congr 1; omega
    · rw [List.getElem?_append_right (by omega), List.getElem?_append_right (by omega), if_neg (by omega), h1, h2]
  | x :: r, i + 1, v, hr, hi, hv, hsv, k => by
    have h1 := flat_length hT ty x (hr x (by simp)).2.1 (hr x (by simp)).1
    have ih := flats_row_set hT r i v (fun y hy => hr y (by simp [hy])) (by simpa using hi) hv hsv (k - (T.at ty).size)
    have hm : (i + 1) * (T.at ty).size = i * (T.at ty).size + (T.at ty).size := by rw [Nat.add_mul, Nat.one_mul]
    rw [List.set_cons_succ, flats, flats]
    by_cases hlt : k < (T.at ty).size
    · rw [List.getElem?_append_left (by omega), List.getElem?_append_left (by omega), if_neg (by omega)]
    · rw [List.getElem?_append_right (by omega), List.getElem?_append_right (by omega), h1, ih]
      by_cases hin : i * (T.at ty).size ≤ k - (T.at ty).size ∧ k - (T.at ty).size < i * (T.at ty).size + (T.at ty).size
      · rw [if_pos hin, if_pos (by omega)]; congr 1; omega
      · rw [if_neg hin, if_neg (by omega)]

theorem run_storeVar {t : Nat} {i : TypeInfo} {d : TypeDesc} {z : Value} (h : TiOk P T t (T.at t) i d z) {a : Addr} {v : Value} (hv : v.cells.size = (T.at t).size) :
    (storeVar t a v).run P w = (storeCells a v.cells.toList).run P w := by
  simp only [storeVar, Sem.run_bind, h.run_sizeOf, Result.andThen_ok]
  rw [if_neg (by simp [hv])]

theorem evStore_sound (hF : tabFits P T 0 T = true) (hT : tabSized T = true) {t : Nat} {a x : PV} {va vx : Value} {K : Ups → Prop} (h : evStore T L t a x K) (ha : Rep T w μ ro a va) (hx : Rep T w μ ro x vx) (hL : HRel T w μ ro L) :
    ∃ w', (Instr.storeAt t va vx).run P w = .ok () w' ∧ Out T hb L μ ro w (fun _ u => K u) undef w' := by
  unfold evStore at h
  split at h
  · rename_i h' ty i p
    obtain ⟨b, hmu, rfl⟩ := ha.ptr_inv
    have hrun : ∀ (a : Addr), (Instr.storeAt t (.pointer (some a)) vx).run P w = (storeVar t a vx).run P w := fun a => by simp [Instr.storeAt, Instr.sureAddr]
    rw [hrun]
    have hblk := hL.blk h'
    split at h
    · rename_i ty' xs eL
      obtain ⟨hc, h⟩ := cond_and h
      obtain ⟨⟨hfx, hpx⟩, h2⟩ := elemOkK_spec h
      simp only [Bool.and_eq_true, Nat.beq_eq, beq_iff_eq] at hc
      obtain ⟨rfl, hty⟩ := hc
      obtain ⟨y, hy, h3⟩ := elemAt_some h2
      obtain ⟨i1, d1, z1, hi1⟩ := tiOk_of hF t (by intro e; have := other_of_fits hfx; rw [e] at this; simp [Kd.isOther] at this)
      obtain ⟨hsx, hszx, hcx⟩ := rep_cells hT hfx hx
      have hK : subK y p fun _ => K [(h', .row true ty' (xs.set i (putIn y p x)))] := by
        cases p with
        | nil => exact h3
        | cons => exact h3
      clear h h2 h3
      rw [eL] at hblk
      obtain ⟨hrow, -, h3⟩ := hblk
      obtain ⟨-, c, tt, lo, hi, hcells, hnf, hlen, hrep⟩ := h3 b hmu
      obtain ⟨hsy, hfy, hpy⟩ := hrow y (List.mem_of_getElem? hy)
      obtain ⟨hf', hs', hcel⟩ := putIn_sound hT hfx hsx p ty' y _ hfy hsy hty hK (fun _ => hpx)
      obtain ⟨q, hKq, -, -, hle, -⟩ := sub_sound hT p ty' t y _ hfy hsy hty hK
      have hilt := (List.getElem?_eq_some_iff.1 hy).1
      have hbound : i * (T.at ty').size + (T.at ty').size ≤ (flats xs).length := by
        rw [flats_row_length hT xs hrow]
        have := Nat.mul_le_mul_right (T.at ty').size (show i + 1 ≤ xs.length by omega)
        rw [Nat.add_mul] at this; omega
      rw [run_storeVar hi1 hszx]
      obtain ⟨c', w', hst, hw, hcs, hck⟩ := run_storeCells_wrote (P := P) (off := i * (T.at ty').size + offAt T ty' p) vx.cells.toList 0 c w hcells (by simp [hszx]; omega) (nofr (hnf rfl)) (by
        intro v hv
        obtain ⟨k, hk, rfl⟩ := List.getElem_of_mem hv
        have hk' : k < (flat x).length := by rw [flat_length hT t x hfx hsx]; simpa [hszx] using hk
        obtain ⟨u, hu, -, ho⟩ := hcx k _ (List.getElem?_eq_getElem hk')
        have : vx.cells.toList[k]? = some u := by simpa using hu
        rw [List.getElem?_eq_getElem hk] at this
        cases this; exact ho)
      have hlive : (L h').live = true := by rw [eL]; rfl
      have hkeep := hw.keeps (μ := μ) (hL.apart h' b hlive hmu) hcells hcs
      refine ⟨w', hst, .undef, _, μ, hKq, .undef _, ?_, hkeep, hw.chg hlive hmu, fun _ _ => rfl, fun q hq hg => ?_, fun q b' hl hm => .inl ?_⟩
      · refine hw.hrel hL hlive hmu hcells hcs ⟨?_, (fun e => by cases e), fun b' hb' => ?_⟩
        · intro z hz
          rcases List.mem_or_eq_of_mem_set hz with hz | rfl
          · exact hrow z hz
          · refine ⟨hs', hf', fun cc hcc => ?_⟩
            obtain ⟨k, hk, rfl⟩ := List.getElem_of_mem hcc
            have := hcel k
            rw [List.getElem?_eq_getElem hk] at this
            split at this
            · exact hpx _ (List.mem_of_getElem? this.symm)
            · exact hpy _ (List.mem_of_getElem? this.symm)
        · cases hb'
          refine ⟨(fun e => by cases e), c', tt, lo, hi, hw.at_, fun _ => by have := hnf rfl; omega, ?_, fun k pc hk => ?_⟩
          · rw [flats_row_length hT _ (by
              intro z hz
              rcases List.mem_or_eq_of_mem_set hz with hz | rfl
              · exact hrow z hz
              · refine ⟨hs', hf', fun cc hcc => ?_⟩
                obtain ⟨k, hk, rfl⟩ := List.getElem_of_mem hcc
                have := hcel k
                rw [List.getElem?_eq_getElem hk] at this
                split at this
                · exact hpx _ (List.mem_of_getElem? this.symm)
                · exact hpy _ (List.mem_of_getElem? this.symm)), List.length_set, ← flats_row_length hT xs hrow, hcs]
            exact hlen
          · rw [flats_row_set hT xs i _ hrow hilt hf' hs' k] at hk
            rw [hck k]
            simp only [Nat.add_zero, Array.length_toList, hszx]
            by_cases hin : i * (T.at ty').size ≤ k ∧ k < i * (T.at ty').size + (T.at ty').size
            · rw [if_pos hin, hcel] at hk
              by_cases hin2 : offAt T ty' p ≤ k - i * (T.at ty').size ∧ k - i * (T.at ty').size < offAt T ty' p + (T.at t).size
              · rw [if_pos hin2] at hk
                rw [if_pos (by omega)]
                obtain ⟨u, hu, hr, -⟩ := hcx _ pc hk
                refine ⟨u, ?_, hr.keep hkeep⟩
                rw [show k - (i * (T.at ty').size + offAt T ty' p) = k - i * (T.at ty').size - offAt T ty' p by omega]
                simpa using hu
              · rw [if_neg hin2] at hk
                rw [if_neg (by omega)]
                obtain ⟨v, hv, hr⟩ := hrep k pc (by
                  have := row_cells hT xs i y hrow hy (k - i * (T.at ty').size) (by omega)
                  rw [show i * (T.at ty').size + (k - i * (T.at ty').size) = k by omega] at this
                  rw [← this]; exact hk)
                exact ⟨v, hv, hr.keep hkeep⟩
            · rw [if_neg hin] at hk
              rw [if_neg (by omega)]
              obtain ⟨v, hv, hr⟩ := hrep k pc hk
              exact ⟨v, hv, hr.keep hkeep⟩
      · simp only [upds]
        rw [upd_other (by rintro rfl; rw [eL] at hg; cases hg)]
        exact hg
      · by_cases e : q = h'
        · subst e; exact ⟨q, hlive, hm⟩
        · simp only [upds] at hl; rw [upd_other e] at hl; exact ⟨q, hl, hm⟩
    · rename_i ty' y eL
      obtain ⟨hc, h2⟩ := cond_and h
      simp only [Bool.and_eq_true, Nat.beq_eq, beq_iff_eq] at hc
      obtain ⟨⟨⟨rfl, rfl⟩, hty⟩, hfx⟩ := hc
      obtain ⟨i1, d1, z1, hi1⟩ := tiOk_of hF t (by intro e; have := other_of_fits hfx; rw [e] at this; simp [Kd.isOther] at this)
      obtain ⟨hsx, hszx, hcx⟩ := rep_cells hT hfx hx
      rw [eL] at hblk
      obtain ⟨hsy, hfy, hcy, b', hb', -, c, tt, lo, hi, hcells, hnf, hlen, hrep⟩ := hblk
      rw [hmu] at hb'; cases hb'
      obtain ⟨q, hKq, -, -, hle, -⟩ := sub_sound hT p ty' t y _ hfy hsy hty h2
      have hK : K [(h', .box true ty' (putIn y p x))] ∧ (arrPath T ty' p = true → pureV x) := by
        cases hp : arrPath T ty' p with
        | true => rw [hp] at hKq; exact ⟨(pureVK_spec hKq).2, fun _ => (pureVK_spec hKq).1⟩
        | false => rw [hp] at hKq; exact ⟨hKq, fun e => by cases e⟩
      obtain ⟨hf', hs', hcel⟩ := putIn_sound hT hfx hsx p ty' y _ hfy hsy hty h2 hK.2
      have hly := flat_length hT ty' y hfy hsy
      rw [run_storeVar hi1 hszx]
      obtain ⟨c', w', hst, hw, hcs, hck⟩ := run_storeCells_wrote (P := P) (off := 0 * (T.at ty').size + offAt T ty' p) vx.cells.toList 0 c w hcells (by simp [hszx]; omega) (nofr (hnf rfl)) (by
        intro v hv
        obtain ⟨k, hk, rfl⟩ := List.getElem_of_mem hv
        have hk' : k < (flat x).length := by rw [flat_length hT t x hfx hsx]; simpa [hszx] using hk
        obtain ⟨u, hu, -, ho⟩ := hcx k _ (List.getElem?_eq_getElem hk')
        have : vx.cells.toList[k]? = some u := by simpa using hu
        rw [List.getElem?_eq_getElem hk] at this
        cases this; exact ho)
      have hlive : (L h').live = true := by rw [eL]; rfl
      have hkeep := hw.keeps (μ := μ) (hL.apart h' b hlive hmu) hcells hcs
      refine ⟨w', hst, .undef, _, μ, hK.1, .undef _, ?_, hkeep, hw.chg hlive hmu, fun _ _ => rfl, fun q hq hg => ?_, fun q b' hl hm => .inl ?_⟩
      · refine hw.hrel hL hlive hmu hcells hcs ⟨hs', hf', fits_cells _ _ hf' hs', b, rfl, (fun e => by cases e), c', tt, lo, hi, hw.at_, fun _ => by have := hnf rfl; omega, ?_, fun k pc hk => ?_⟩
        · rw [flat_length hT ty' _ hf' hs', hcs, ← hlen, hly]
        · rw [hcel k] at hk
          rw [hck k]
          simp only [Nat.add_zero, Nat.zero_mul, Nat.zero_add, Array.length_toList, hszx]
          by_cases hin2 : offAt T ty' p ≤ k ∧ k < offAt T ty' p + (T.at t).size
          · rw [if_pos hin2] at hk
            rw [if_pos hin2]
            obtain ⟨u, hu, hr, -⟩ := hcx _ pc hk
            exact ⟨u, by simpa using hu, hr.keep hkeep⟩
          · rw [if_neg hin2] at hk
            rw [if_neg hin2]
            obtain ⟨v, hv, hr⟩ := hrep k pc hk
            exact ⟨v, hv, hr.keep hkeep⟩
      · simp only [upds]
        rw [upd_other (by rintro rfl; rw [eL] at hg; cases hg)]
        exact hg
      · by_cases e : q = h'
        · subst e; exact ⟨q, hlive, hm⟩
        · simp only [upds] at hl; rw [upd_other e] at hl; exact ⟨q, hl, hm⟩
    · exact h.elim
  · exact h.elim

end
end Pv
