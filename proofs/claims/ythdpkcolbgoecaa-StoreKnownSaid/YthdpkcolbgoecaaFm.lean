/- The frames fifth part: what is read from memory. -/
import Derived.Test.YthdpkcolbgoecaaFo

namespace Pv
open Go

theorem fieldsK_same {f : Nat → PV → (PV → Prop) → Prop} (hf : ∀ t x K, f t x K → K x) : ∀ (ts : List Nat) (l : List PV) (K : List PV → Prop), fieldsK f ts l K → K l
  | [], [], _, h => h
  | [], _ :: _, _, h => h.elim
  | _ :: _, [], _, h => h.elim
  | _ :: ts, _ :: r, _, h => fieldsK_same hf ts r _ (hf _ _ _ h)

theorem beq_eq {a b : Nat} {p q : Prop} (h : cond (Nat.beq a b) p q) (hq : ¬ q) : a = b ∧ p := by
  cases e : Nat.beq a b with
  | true => rw [e] at h; exact ⟨Nat.eq_of_beq_eq_true e, h⟩
  | false => rw [e] at h; exact absurd h hq

theorem cond_and {c : Bool} {p : Prop} (h : cond c p False) : c = true ∧ p := by
  cases c <;> simp_all

theorem decK_same {T : Tab} : ∀ (fuel ty : Nat) (x : PV) (K : PV → Prop), decK T fuel ty x K → K x
  | 0, _, _, _, h => h.elim
  | fuel + 1, ty, x, K, h => by
    unfold decK at h
    split at h
    · unfold asIntK at h; split at h
      · have := cond_and h
        simp only [decide_eq_true_eq] at this
        rw [← this.1]; exact this.2
      · exact h.elim
    · unfold asBoolK at h; split at h
      · exact h
      · exact h.elim
    · unfold asStrK at h; split at h
      · exact h
      · exact h.elim
    · unfold asListK at h; split at h
      · have := cond_and h
        simp only [Nat.beq_eq] at this
        rw [this.1]; exact this.2
      · exact h.elim
    · unfold asArrK at h; split at h
      · have := cond_and h
        simp only [Nat.beq_eq] at this
        rw [this.1]; exact this.2
      · exact h.elim
    · unfold asAggK at h; split at h
      · exact fieldsK_same (decK_same fuel) _ _ _ h
      · exact h.elim
    · exact h.elim

theorem elemAt_some {α : Type} {xs : List α} {i : Nat} {K : α → Prop} (h : elemAt xs i K) : ∃ x, xs[i]? = some x ∧ K x := by
  unfold elemAt at h
  split at h
  · exact ⟨_, ‹_›, h⟩
  · exact h.elim

theorem fits_scalar {T : Tab} {t : Nat} {x : PV} (hx : cellC x = true) (h1 : (T.at t).kd.isAgg = false) (h2 : (T.at t).kd.isOther = false) : fits T t x = true := by
  cases x <;> simp [cellC] at hx <;> simp [fits, h1, h2]

theorem fits_isAgg {T : Tab} {t : Nat} {x : PV} (h : fits T t x = true) : isAggV x = (T.at t).kd.isAgg := by
  cases x <;> simp only [fits] at h <;> simp only [isAggV]
  case agg => split at h <;> simp_all [Kd.isAgg]
  case arr => split at h <;> simp_all [Kd.isAgg]
  all_goals simp_all

theorem isAgg_of_pureC {x : PV} (h : pureC x) : isAggV x = false := by cases x <;> simp_all [pureC, isAggV]

theorem flat_scalar {x : PV} (h : isAggV x = false) : flat x = [x] := by cases x <;> simp_all [isAggV, flat]

/-- A field among a structs cells. -/
theorem field_cells {T : Tab} (hT : tabSized T = true) : ∀ (l : List (Nat × Nat)) (fs : List PV) (acc n j : Nat) (o ft : Nat) (y : PV), fitsL T (l.map (·.2)) fs = true → Shps fs → placesOk T acc l n = true →
    l[j]? = some (o, ft) → fs[j]? = some y → fits T ft y = true ∧ Shp y ∧ acc ≤ o ∧ o + (T.at ft).size ≤ n ∧ ∀ k, k < (T.at ft).size → (flat y)[k]? = (flats fs)[o - acc + k]?
  | [], _, _, _, _, _, _, _, _, _, _, hl, _ => by simp at hl
  | _ :: _, [], _, _, _, _, _, _, h, _, _, _, _ => by simp [fitsL] at h
  | (o', ft') :: r, x :: xs, acc, n, 0, o, ft, y, hf, hs, hp, hl, hy => by
    simp at hl hy
    obtain ⟨rfl, rfl⟩ := hl
    subst hy
    simp only [List.map_cons, fitsL, Bool.and_eq_true] at hf
    simp only [placesOk, Bool.and_eq_true, Nat.beq_eq] at hp
    have h1 := flat_length hT _ _ hf.1 hs.1
    have h2 := flats_length hT r xs _ n hf.2 hs.2 hp.2
    refine ⟨hf.1, hs.1, by omega, by omega, fun k hk => ?_⟩
    rw [flats, List.getElem?_append_left (by omega)]
    congr 1
    omega
  | (o', ft') :: r, x :: xs, acc, n, j + 1, o, ft, y, hf, hs, hp, hl, hy => by
    simp at hl hy
    simp only [List.map_cons, fitsL, Bool.and_eq_true] at hf
    simp only [placesOk, Bool.and_eq_true, Nat.beq_eq] at hp
    have h1 := flat_length hT _ _ hf.1 hs.1
    obtain ⟨a, b, c, d, e⟩ := field_cells hT r xs _ n j o ft y hf.2 hs.2 hp.2 hl hy
    refine ⟨a, b, by omega, d, fun k hk => ?_⟩
    rw [flats, List.getElem?_append_right (by omega), e k hk]
    congr 1
    omega

/-- The part at a path is a part of the cells. -/
theorem sub_sound {T : Tab} (hT : tabSized T = true) : ∀ (p : List Nat) (ty t : Nat) (x : PV) (K : PV → Prop), fits T ty x = true → Shp x → tyAt T ty p = some t → subK x p K →
    ∃ y, K y ∧ fits T t y = true ∧ Shp y ∧ offAt T ty p + (T.at t).size ≤ (T.at ty).size ∧ ∀ k, k < (T.at t).size → (flat y)[k]? = (flat x)[offAt T ty p + k]?
  | [], ty, t, x, K, hf, hs, ht, h => by
    simp [tyAt] at ht; subst ht
    exact ⟨x, h, hf, hs, by simp [offAt], fun k _ => by simp [offAt]⟩
  | j :: p, ty, t, x, K, hf, hs, ht, h => by
    have hz := at_sized hT ty
    simp only [subK, fieldK] at h
    split at h
    · rename_i fs
      obtain ⟨z, hz1, hz2⟩ := elemAt_some h
      rw [fits] at hf
      split at hf
      · rename_i l e
        rw [sizeOk, e] at hz
        simp only [tyAt, e] at ht
        cases hl : l[j]? with
        | none => simp [hl] at ht
        | some f =>
          obtain ⟨o, ft⟩ := f
          simp only [hl] at ht
          obtain ⟨a, b, c, d, g⟩ := field_cells hT l fs 0 _ j o ft z hf hs hz hl hz1
          obtain ⟨y, hK, h1, h2, h3, h4⟩ := sub_sound hT p ft t z K a b ht hz2
          refine ⟨y, hK, h1, h2, ?_, fun k hk => ?_⟩
          · simp only [offAt, e, hl]; omega
          · simp only [offAt, e, hl]
            rw [h4 k hk, g _ (by omega), flat]
            congr 1
            omega
      · simp at hf
    · rename_i n xs
      obtain ⟨z, hz1, hz2⟩ := elemAt_some h
      rw [fits] at hf
      split at hf
      · rename_i n' e' e
        rw [sizeOk, e] at hz
        simp only [Bool.and_eq_true, Nat.beq_eq, Bool.not_eq_true'] at hf hz
        obtain ⟨⟨⟨rfl, hone⟩, hna⟩, hno⟩ := hf
        simp only [tyAt, e] at ht
        have hlt := (List.getElem?_eq_some_iff.1 hz1).1
        have hpz := hs.2 z (List.mem_of_getElem? hz1)
        have hzs := isAgg_of_pureC hpz
        obtain ⟨y, hK, h1, h2, h3, h4⟩ := sub_sound hT p e' t z K (fits_scalar (cellC_of_pureC hpz) hna hno) (by cases z <;> first | trivial | simp [isAggV] at hzs) ht hz2
        refine ⟨y, hK, h1, h2, ?_, fun k hk => ?_⟩
        · simp only [offAt, e]; rw [hz, hone]; have := hs.1; rw [hone] at h3; omega
        · simp only [offAt, e]
          rw [h4 k hk, flat_scalar hzs, flat, hone]
          have : offAt T e' p + k = 0 := by omega
          rw [this]
          have h5 : j * 1 + offAt T e' p + k = j := by omega
          rw [h5, hz1]
          rfl
      · simp at hf
    · exact h.elim

theorem tyAt_append {T : Tab} : ∀ (p q : List Nat) (ty t : Nat), tyAt T ty p = some t → tyAt T ty (p ++ q) = tyAt T t q ∧ offAt T ty (p ++ q) = offAt T ty p + offAt T t q
  | [], q, ty, t, h => by simp [tyAt] at h; subst h; simp [offAt]
  | j :: p, q, ty, t, h => by
    rw [tyAt] at h
    rw [List.cons_append, tyAt, offAt, offAt]
    cases e : (T.at ty).kd <;> simp only [e] at h ⊢ <;> first | (simp at h; done) | skip
    · rename_i l
      cases hl : l[j]? with
      | none => simp [hl] at h
      | some f =>
        rw [hl] at h
        have := tyAt_append p q _ t h
        exact ⟨this.1, by simp only [this.2]; omega⟩
    · have := tyAt_append p q _ t h
      exact ⟨this.1, by rw [this.2]; omega⟩

theorem fitsL_get {T : Tab} : ∀ (ts : List Nat) (fs : List PV) (j : Nat) (y : PV), fitsL T ts fs = true → fs[j]? = some y → ∃ t, ts[j]? = some t ∧ fits T t y = true
  | [], [], _, _, _, h => by simp at h
  | [], _ :: _, _, _, h, _ => by simp [fitsL] at h
  | _ :: _, [], _, _, h, _ => by simp [fitsL] at h
  | t :: ts, x :: fs, 0, y, h, hy => by
    simp at hy; subst hy
    simp only [fitsL, Bool.and_eq_true] at h
    exact ⟨t, rfl, h.1⟩
  | t :: ts, x :: fs, j + 1, y, h, hy => by
    simp at hy
    simp only [fitsL, Bool.and_eq_true] at h
    exact fitsL_get ts fs j y h.2 hy

theorem sub_ty {T : Tab} : ∀ (p : List Nat) (ty : Nat) (x : PV) (K : PV → Prop), fits T ty x = true → Shp x → subK x p K → ∃ t, tyAt T ty p = some t
  | [], ty, x, K, _, _, _ => ⟨ty, rfl⟩
  | j :: p, ty, x, K, hf, hs, h => by
    simp only [subK, fieldK] at h
    split at h
    · rename_i fs
      obtain ⟨z, hz1, hz2⟩ := elemAt_some h
      rw [fits] at hf
      split at hf
      · rename_i l e
        obtain ⟨t, ht, hfz⟩ := fitsL_get _ _ j z hf hz1
        simp only [List.getElem?_map, Option.map_eq_some_iff] at ht
        obtain ⟨⟨o, ft⟩, hl, rfl⟩ := ht
        simp only [tyAt, e, hl]
        exact sub_ty p ft z K hfz ((Shps_iff fs).1 hs z (List.mem_of_getElem? hz1)) hz2
      · simp at hf
    · rename_i n xs
      obtain ⟨z, hz1, hz2⟩ := elemAt_some h
      rw [fits] at hf
      split at hf
      · rename_i n' e' e
        simp only [Bool.and_eq_true, Nat.beq_eq, Bool.not_eq_true'] at hf
        simp only [tyAt, e]
        have hpz := hs.2 z (List.mem_of_getElem? hz1)
        have hzs := isAgg_of_pureC hpz
        exact sub_ty p e' z K (fits_scalar (cellC_of_pureC hpz) hf.1.2 hf.2) (by cases z <;> first | trivial | simp [isAggV] at hzs) hz2
      · simp at hf
    · exact h.elim

@[simp] theorem add_none (b o n : Nat) : (⟨b, o, none⟩ : Addr).add n = ⟨b, o + n, none⟩ := by
  unfold Addr.add; split <;> simp_all

section
variable {P : Program} {T : Tab} {w : World} {μ : Nat → Option Nat} {ro : Nat → Prop}

theorem TiOk.run_isAgg {t : Nat} {i : TypeInfo} {d : TypeDesc} {z : Value} (h : TiOk P T t (T.at t) i d z) : (isAgg t).run P w = .ok (T.at t).kd.isAgg w := by
  have := h.kd
  simp only [Go.isAgg, Sem.run_bind, run_underlying h.under, Result.andThen_ok]
  cases d <;> cases hk : (T.at t).kd <;> simp_all [kdFits, Kd.isAgg]
theorem TiOk.run_sizeOf {t : Nat} {i : TypeInfo} {d : TypeDesc} {z : Value} (h : TiOk P T t (T.at t) i d z) : (Go.sizeOf t).run P w = .ok (T.at t).size w := by
  simp [Go.sizeOf, typeInfo, h.info, h.size]

theorem run_program : (program).run P w = .ok P w := rfl

/-- What is read at a place of memory whose cells are known. -/
theorem run_loadVar {t : Nat} {i : TypeInfo} {d : TypeDesc} {z : Value} (h : TiOk P T t (T.at t) i d z) (hT : tabSized T = true) (hno : (T.at t).kd.isOther = false) (b off : Nat) (val : Nat → Value)
    (hv : ∀ k, k < (T.at t).size → w.cell? ⟨b, off + k, none⟩ = some (val k)) :
    (loadVar t ⟨b, off, none⟩).run P w = .ok (cond (T.at t).kd.isAgg (.agg ((List.range (T.at t).size).map val).toArray) (val 0)) w := by
  simp only [loadVar, Sem.run_bind, h.run_isAgg, Result.andThen_ok]
  cases hk : (T.at t).kd.isAgg with
  | true =>
    simp only [if_true, Sem.run_bind, h.run_sizeOf, Result.andThen_ok]
    rw [run_loadCells w ⟨b, off, none⟩ (T.at t).size val (fun j hj => by rw [add_none]; exact hv j hj)]
    rfl
  | false =>
    have hz := at_sized hT t
    have h1 : (T.at t).size = 1 := by
      unfold sizeOk at hz
      split at hz <;> simp_all [Kd.isAgg, Kd.isOther]
    have := hv 0 (by omega)
    simp only [Nat.add_zero] at this
    simp [this]

/-- What is read stands for the part that is read. -/
theorem rep_read {t : Nat} {y : PV} (hT : tabSized T = true) (hf : fits T t y = true) (hs : Shp y) (val : Nat → Value) (hc : ∀ c ∈ flat y, cellC c = true) (hr : ∀ (k : Nat) c, (flat y)[k]? = some c → Rep T w μ ro c (val k)) :
    Rep T w μ ro y (cond (T.at t).kd.isAgg (.agg ((List.range (T.at t).size).map val).toArray) (val 0)) := by
  have hl := flat_length hT t y hf hs
  have ha := fits_isAgg hf
  cases hk : (T.at t).kd.isAgg with
  | true =>
    rw [hk] at ha
    simp only [cond_true]
    refine .agg y _ ha hs (by simp [hl]) (fun k c v h1 h2 => ?_) hc
    have hlt : k < (T.at t).size := by rw [← hl]; exact (List.getElem?_eq_some_iff.1 h1).1
    simp [hlt] at h2
    subst h2
    exact hr k c h1
  | false =>
    rw [hk] at ha
    simp only [cond_false]
    exact hr 0 y (by rw [flat_scalar ha]; rfl)

end
end Pv
