/- The frames seventh part: further operations that leave memory alone. -/
import Derived.Test.YthdpkcolbgoecaaFl

namespace Pv
open Go

section
variable {P : Program} {T : Tab} {w : World} {μ : Nat → Option Nat} {ro : Nat → Prop} {L : Heap}

theorem lenOf_sound (hF : tabFits P T 0 T = true) {t : Nat} {x : PV} {v : Value} {K : Int → Prop} (h : lenOf (T.at t).kd L x K) (hx : Rep T w μ ro x v) (hL : HRel T w μ ro L) (ty : TypeId) :
    ∃ n, (Builtin.len_ #[t] ty #[v]).run P w = .ok (goInt n) w ∧ K n := by
  unfold lenOf at h
  split at h
  · rename_i e xs ek
    obtain ⟨i, d, z, hi⟩ := under_of hF ek (by simp)
    have hu := hi.kd_slice ek
    obtain ⟨a, cap, rfl, -⟩ := hx.list_inv
    exact ⟨_, by simp [Builtin.len_, run_underlying hu], h⟩
  · rename_i e ek
    obtain ⟨i, d, z, hi⟩ := under_of hF ek (by simp)
    have hu := hi.kd_slice ek
    obtain rfl := hx.nilsl_inv
    exact ⟨_, by simp [Builtin.len_, run_underlying hu], h⟩
  · rename_i e _ _ _ n ek
    obtain ⟨i, d, z, hi⟩ := under_of hF ek (by simp)
    have hu := hi.kd_slice ek
    rcases hx.sl_inv with ⟨rfl, a, rfl⟩ | ⟨b, cap, c, t, fr, -, -, -, -, rfl⟩
    · exact ⟨_, by simp [Builtin.len_, run_underlying hu], h⟩
    · exact ⟨_, by simp [Builtin.len_, run_underlying hu], h⟩
  · rename_i e _ _ _ _ _ _ n ek
    obtain ⟨i, d, z, hi⟩ := under_of hF ek (by simp)
    have hu := hi.kd_slice ek
    rcases hx.sla_inv with ⟨rfl, a, rfl⟩ | ⟨b, cap, -, -, rfl⟩
    · exact ⟨_, by simp [Builtin.len_, run_underlying hu], h⟩
    · exact ⟨_, by simp [Builtin.len_, run_underlying hu], h⟩
  · rename_i s ek
    obtain ⟨i, d, z, hi⟩ := under_of hF ek (by simp)
    have hu := hi.kd_str ek
    obtain rfl := hx.str_inv
    exact ⟨_, by simp [Builtin.len_, run_underlying hu], h⟩
  · rename_i k e h' ek
    obtain ⟨i, d, z, hi⟩ := under_of hF ek (by simp)
    have hu := hi.kd_map ek
    split at h
    · rename_i l kt et en eL
      have hb := hL.blk h'
      rw [eL] at hb
      obtain ⟨b, rfl, hm⟩ := hx.mapr_inv
      obtain ⟨_, b', e', _, es, clock, h3, h4, _⟩ := hb
      rw [hm] at e'; cases e'
      exact ⟨_, by simp [Builtin.len_, run_underlying hu, getObj, Sem.run, h3, Result.andThen], h4 ▸ h⟩
    · exact h.elim
  · rename_i k e kt et en ek
    obtain ⟨i, d, z, hi⟩ := under_of hF ek (by simp)
    have hu := hi.kd_map ek
    rcases hx.dmap_inv with ⟨rfl, rfl⟩ | ⟨b, es, clock, rfl, _, h3, h4, _⟩
    · exact ⟨_, by simp [Builtin.len_, run_underlying hu], h⟩
    · exact ⟨_, by simp [Builtin.len_, run_underlying hu, getObj, Sem.run, h3, Result.andThen], h4 ▸ h⟩
  · rename_i k e ek
    obtain ⟨i, d, z, hi⟩ := under_of hF ek (by simp)
    have hu := hi.kd_map ek
    obtain rfl := hx.nilm_inv
    exact ⟨_, by simp [Builtin.len_, run_underlying hu], h⟩
  · exact h.elim

theorem extract_sound {vs : List PV} {i : Nat} {v : Value} {K : PV → Prop} (h : elemAt vs i K) (hx : Rep T w μ ro (.tup vs) v) : ∃ r, (Instr.extract v i).run P w = .ok r w ∧ ∃ pv, K pv ∧ Rep T w μ ro pv r := by
  obtain ⟨us, rfl, hl, hr⟩ := hx.tup_inv
  obtain ⟨x, hx, hK⟩ := elemAt_some h
  have hlt := (List.getElem?_eq_some_iff.1 hx).1
  have hu : us[i]? = some (us[i]'(by omega)) := Array.getElem?_eq_getElem _
  exact ⟨_, by simp [Instr.extract, hu], x, hK, hr i x _ hx hu⟩

theorem asIntOf_run (k : IntKind) (n : Int) : (asIntOf (.int k n)).run P w = .ok (k, n) w := rfl

theorem evIndexAddr_sound (hF : tabFits P T 0 T = true) (hT : tabSized T = true) {t : Nat} {x ix : PV} {v u : Value} {K : PV → Prop} (h : evIndexAddr T t x ix K) (hx : Rep T w μ ro x v) (hix : Rep T w μ ro ix u) :
    ∃ r, (∀ w' : World, (Instr.indexAt t v u).run P w' = .ok r w') ∧ ∃ pv, K pv ∧ Rep T w μ ro pv r := by
  unfold evIndexAddr at h
  split at h
  · rename_i k j
    obtain rfl := hix.int_inv
    split at h
    · rename_i e e' xs ek
      obtain ⟨i, d, z, hi⟩ := under_of hF ek (by simp)
      have hu := hi.kd_slice ek
      obtain ⟨hc, hj, h⟩ := cond_and h
      simp only [Nat.beq_eq] at hc; subst hc
      obtain ⟨y, hy, hK⟩ := elemAt_some h
      obtain ⟨a, cap, rfl, hcap, hrow, hne⟩ := hx.list_inv
      have hlt := (List.getElem?_eq_some_iff.1 hy).1
      obtain ⟨b, off, rfl, hro, hm⟩ := hne (by intro e; rw [e] at hlt; simp at hlt)
      obtain ⟨hsy, hfy, hpy⟩ := hrow y (List.mem_of_getElem? hy)
      obtain ⟨i2, d2, z2, hi2⟩ := tiOk_of hF e' (by intro e; have := other_of_fits hfy; rw [e] at this; simp [Kd.isOther] at this)
      have hjl : 0 ≤ j ∧ j < (xs.length : Int) := ⟨hj, by omega⟩
      refine ⟨_, by intro w'; simp [Instr.indexAt, asIntOf_run, run_underlying hu, hjl, hi2.run_sizeOf]; rfl, _, hK, ?_⟩
      have := Rep.vptr (T := T) (w := w) (μ := μ) (ro := ro) e' y [] b (off + j.toNat * (T.at e').size) (fun k => (w.cell? ⟨b, off + j.toNat * (T.at e').size + k, none⟩).getD default) ⟨hsy, hfy, hpy⟩ hro
      simp only [offAt, Nat.add_zero] at this
      refine this (fun k hk => ?_) (fun k c hk => ?_)
      · have hks : k < (T.at e').size := by rw [← flat_length hT _ _ hfy hsy]; exact hk
        have := row_cells hT xs j.toNat y hrow hy k hks
        rw [List.getElem?_eq_getElem hk] at this
        obtain ⟨v, hv, -⟩ := hm _ _ this.symm
        rw [Nat.add_assoc, hv]; rfl
      · have hks : k < (T.at e').size := by rw [← flat_length hT _ _ hfy hsy]; exact (List.getElem?_eq_some_iff.1 hk).1
        have := row_cells hT xs j.toNat y hrow hy k hks
        rw [hk] at this
        obtain ⟨v, hv, hr⟩ := hm _ _ this.symm
        rw [Nat.add_assoc, hv]; exact hr
    · rename_i e h' e' i n ek
      obtain ⟨i1, d, z, hi⟩ := under_of hF ek (by simp)
      have hu := hi.kd_slice ek
      obtain ⟨hc, hj, hjn, hK⟩ := cond_and h
      simp only [Bool.and_eq_true, Nat.beq_eq, Bool.not_eq_true'] at hc
      obtain ⟨rfl, hno⟩ := hc
      rcases hx.sl_inv with ⟨rfl, a, rfl⟩ | ⟨b, cap, c, t', fr, hmu, hcap, hcells, hsz, rfl⟩
      · exact absurd hjn (by omega)
      · obtain ⟨i2, d2, z2, hi2⟩ := tiOk_of hF e' (by intro e; rw [e] at hno; simp [Kd.isOther] at hno)
        have hjl : 0 ≤ j ∧ j < (n : Int) := ⟨hj, hjn⟩
        refine ⟨_, by intro w'; simp [Instr.indexAt, asIntOf_run, run_underlying hu, hjl, hi2.run_sizeOf]; rfl, _, hK, ?_⟩
        have := Rep.ptr (T := T) (w := w) (μ := μ) (ro := ro) h' e' (i + j.toNat) [] b hmu
        simp only [offAt, Nat.add_zero, Nat.add_mul] at this
        exact this
    · rename_i e h' ty i p e' o n ek
      obtain ⟨i1, d, z, hi⟩ := under_of hF ek (by simp)
      have hu := hi.kd_slice ek
      obtain ⟨hc, hj, hjn, hK⟩ := cond_and h
      simp only [Bool.and_eq_true, Nat.beq_eq, Bool.not_eq_true'] at hc
      obtain ⟨⟨rfl, hno⟩, harr⟩ := hc
      rcases hx.sla_inv with ⟨rfl, a, rfl⟩ | ⟨b, cap, hmu, hcap, rfl⟩
      · exact absurd hjn (by omega)
      · obtain ⟨i2, d2, z2, hi2⟩ := tiOk_of hF e' (by intro e; rw [e] at hno; simp [Kd.isOther] at hno)
        have hjl : 0 ≤ j ∧ j < (n : Int) := ⟨hj, hjn⟩
        refine ⟨_, by intro w'; simp [Instr.indexAt, asIntOf_run, run_underlying hu, hjl, hi2.run_sizeOf]; rfl, _, hK, ?_⟩
        have := Rep.ptr (T := T) (w := w) (μ := μ) (ro := ro) h' ty i (p ++ [o + j.toNat]) b hmu
        unfold arrOf at harr
        split at harr
        · rename_i ta hta
          split at harr
          · rename_i n' e'' ea
            have hh := (tyAt_append p [o + j.toNat] ty ta hta).2
            simp only [offAt, ea] at hh
            simp only [Nat.beq_eq] at harr
            subst harr
            rw [hh] at this
            simp only [Nat.add_mul, Nat.add_zero] at this
            simp only [Nat.add_assoc] at this ⊢
            exact this
          · simp at harr
        · simp at harr
    · rename_i m e h' ty i p ek
      obtain ⟨i1, d, z, hi⟩ := under_of hF ek (by simp)
      have hu := hi.kd_array ek
      obtain ⟨hc, hj, hjn, hK⟩ := cond_and h
      simp only [Bool.and_eq_true, beq_iff_eq, Bool.not_eq_true'] at hc
      obtain ⟨hty, hno⟩ := hc
      obtain ⟨b, hmu, rfl⟩ := hx.ptr_inv
      obtain ⟨i2, d2, z2, hi2⟩ := tiOk_of hF e (by intro e; rw [e] at hno; simp [Kd.isOther] at hno)
      have hjl : 0 ≤ j ∧ j < (m : Int) := ⟨hj, hjn⟩
      refine ⟨_, by intro w'; simp [Instr.indexAt, Instr.sureAddr, asIntOf_run, run_underlying hu, hjl, hi2.run_sizeOf]; rfl, _, hK, ?_⟩
      have := Rep.ptr (T := T) (w := w) (μ := μ) (ro := ro) h' ty i (p ++ [j.toNat]) b hmu
      rw [(tyAt_append p [j.toNat] ty t hty).2] at this
      simp only [offAt, ek, Nat.add_zero] at this
      simp only [Nat.add_assoc] at this ⊢
      exact this
    · rename_i m e ty x p ek
      obtain ⟨i1, d, z, hi⟩ := under_of hF ek (by simp)
      have hu := hi.kd_array ek
      obtain ⟨hc, hj, hjn, hK⟩ := cond_and h
      simp only [Bool.and_eq_true, beq_iff_eq, Bool.not_eq_true'] at hc
      obtain ⟨hty, hno⟩ := hc
      obtain ⟨i2, d2, z2, hi2⟩ := tiOk_of hF e (by intro e; rw [e] at hno; simp [Kd.isOther] at hno)
      have hjl : 0 ≤ j ∧ j < (m : Int) := ⟨hj, hjn⟩
      cases hx with
      | vptr _ _ _ b off val h1 h2 h3 h4 =>
        refine ⟨_, by intro w'; simp [Instr.indexAt, Instr.sureAddr, asIntOf_run, run_underlying hu, hjl, hi2.run_sizeOf]; rfl, _, hK, ?_⟩
        have := Rep.vptr (T := T) (w := w) (μ := μ) (ro := ro) ty x (p ++ [j.toNat]) b off val h1 h2 h3 h4
        rw [(tyAt_append p [j.toNat] ty t hty).2] at this
        simp only [offAt, ek, Nat.add_zero] at this
        simp only [Nat.add_assoc] at this ⊢
        exact this
      | agg _ _ h1 => simp [isAggV] at h1
    · exact h.elim
  · exact h.elim

theorem evFieldAddr_sound (hF : tabFits P T 0 T = true) {t f : Nat} {x : PV} {v : Value} {K : PV → Prop} (h : evFieldAddr T t f x K) (hx : Rep T w μ ro x v) :
    ∃ r, (∀ w' : World, (Instr.fieldAt t v f).run P w' = .ok r w') ∧ ∃ pv, K pv ∧ Rep T w μ ro pv r := by
  unfold evFieldAddr at h
  split at h
  · rename_i l ek
    obtain ⟨i1, d, z, hi⟩ := under_of hF ek (by simp)
    obtain ⟨fs, hu, hl⟩ := hi.kd_struct ek
    split at h
    · rename_i o ft hq
      have hq0 := hq
      rw [← hl] at hq
      simp only [List.getElem?_map, Option.map_eq_some_iff] at hq
      obtain ⟨fd, hfd, hfe⟩ := hq
      simp only [Prod.mk.injEq] at hfe
      have hfd' : fs[f]? = some fd := by simpa using hfd
      split at h
      · rename_i h' ty i p
        obtain ⟨hc, hK⟩ := cond_and h
        simp only [Bool.and_eq_true, beq_iff_eq, Bool.not_eq_true', Nat.blt_eq] at hc
        obtain ⟨⟨hty, hno⟩, hpos⟩ := hc
        obtain ⟨b, hmu, rfl⟩ := hx.ptr_inv
        obtain ⟨i2, d2, z2, hi2⟩ := tiOk_of hF ft (by intro e; rw [e] at hno; simp [Kd.isOther] at hno)
        have hne : (T.at ft).size ≠ 0 := by omega
        refine ⟨.pointer (some ⟨b, i * (T.at ty).size + offAt T ty p + o, none⟩), by intro w'; simp [Instr.fieldAt, Instr.sureAddr, run_underlying hu, hfd', fieldPlace, hfe.1, hfe.2, hi2.run_sizeOf, hne], _, hK, ?_⟩
        have := Rep.ptr (T := T) (w := w) (μ := μ) (ro := ro) h' ty i (p ++ [f]) b hmu
        rw [(tyAt_append p [f] ty t hty).2] at this
        simp only [offAt, ek, hq0, Nat.add_zero] at this
        simp only [Nat.add_assoc] at this ⊢
        exact this
      · rename_i ty x p
        obtain ⟨hc, hK⟩ := cond_and h
        simp only [Bool.and_eq_true, beq_iff_eq, Bool.not_eq_true', Nat.blt_eq] at hc
        obtain ⟨⟨hty, hno⟩, hpos⟩ := hc
        obtain ⟨i2, d2, z2, hi2⟩ := tiOk_of hF ft (by intro e; rw [e] at hno; simp [Kd.isOther] at hno)
        have hne : (T.at ft).size ≠ 0 := by omega
        cases hx with
        | vptr _ _ _ b off val h1 h2 h3 h4 =>
          refine ⟨.pointer (some ⟨b, off + offAt T ty p + o, none⟩), by intro w'; simp [Instr.fieldAt, Instr.sureAddr, run_underlying hu, hfd', fieldPlace, hfe.1, hfe.2, hi2.run_sizeOf, hne], _, hK, ?_⟩
          have := Rep.vptr (T := T) (w := w) (μ := μ) (ro := ro) ty x (p ++ [f]) b off val h1 h2 h3 h4
          rw [(tyAt_append p [f] ty t hty).2] at this
          simp only [offAt, ek, hq0, Nat.add_zero] at this
          simp only [Nat.add_assoc] at this ⊢
          exact this
        | agg _ _ h1 => simp [isAggV] at h1
      · exact h.elim
    · exact h.elim
  · exact h.elim


/-- Bounds stand for bounds. -/
def RepB (T : Tab) (w : World) (μ : Nat → Option Nat) (ro : Nat → Prop) : Option PV → Option Value → Prop
  | none, none => True
  | some x, some v => Rep T w μ ro x v
  | _, _ => False

theorem sliceBound_run {k : IntKind} {i : Int} {y : Nat} (code : Instr.sliceBound (.int k i) y = Instr.sliceBound (.int k i) y) : True := trivial

theorem boundK_cases {x : Option PV} {v : Option Value} {d : Int} {K : Int → Prop} (h : boundK x d K) (hx : RepB T w μ ro x v) :
    (v = none ∧ K d) ∨ ∃ k j, v = some (.int k j) ∧ K j := by
  cases x with
  | none => cases v with
    | none => exact .inl ⟨rfl, h⟩
    | some => exact False.elim hx
  | some x => cases v with
    | none => exact hx.elim
    | some v =>
      unfold boundK at h
      split at h
      · rename_i e; cases e
      · rename_i k j e; cases e
        have := Rep.int_inv hx
        subst this
        exact .inr ⟨k, j, rfl, h⟩
      · exact h.elim

theorem boundK_ex {x : Option PV} {v : Option Value} {d : Int} {K : Int → Prop} (h : boundK x d K) (hx : RepB T w μ ro x v) :
    ∃ j, ((v = none ∧ j = d) ∨ ∃ k, v = some (.int k j)) ∧ K j := by
  rcases boundK_cases h hx with ⟨e, hk⟩ | ⟨k, j, e, hk⟩
  · exact ⟨d, .inl ⟨e, rfl⟩, hk⟩
  · exact ⟨j, .inr ⟨k, e⟩, hk⟩

/-- Bounds that lie right. -/
theorem bounds_run {isS : Bool} {len cap : Nat} {lo hi : Option Value} {l h : Int} (hl : (lo = none ∧ l = 0) ∨ ∃ k, lo = some (.int k l)) (hh : (hi = none ∧ h = len) ∨ ∃ k, hi = some (.int k h))
    (h0 : 0 ≤ l) (h1 : l ≤ h) (h2 : h ≤ cap) : (Instr.sliceBounds isS len cap lo hi none).run P w = .ok (l.toNat, h.toNat, cap) w := by
  have e1 : ∀ (k : IntKind) (c : BoundsCode), (Instr.sliceBound (.int k h) cap c).run P w = .ok h.toNat w := fun k c => by
    simp only [Instr.sliceBound, Sem.run_bind, asIntOf_run, Result.andThen_ok]
    rw [if_pos ⟨by omega, h2⟩]; rfl
  have e2 : ∀ (k : IntKind) (c : BoundsCode), (Instr.sliceBound (.int k l) h.toNat c).run P w = .ok l.toNat w := fun k c => by
    simp only [Instr.sliceBound, Sem.run_bind, asIntOf_run, Result.andThen_ok]
    rw [if_pos ⟨h0, by omega⟩]; rfl
  rcases hl with ⟨rfl, rfl⟩ | ⟨k, rfl⟩ <;> rcases hh with ⟨rfl, rfl⟩ | ⟨k', rfl⟩
  · simp [Instr.sliceBounds]
  · simp [Instr.sliceBounds, e1]
  · have e3 := e2 k .sliceB
    simp only [Int.toNat_natCast] at e3
    simp [Instr.sliceBounds, e3]
  · simp [Instr.sliceBounds, e1, e2]

theorem bounds_run3 {len cap : Nat} {lo : Option Value} {l h j : Int} {k1 k2 : IntKind} (hl : (lo = none ∧ l = 0) ∨ ∃ k, lo = some (.int k l))
    (h0 : 0 ≤ l) (h1 : l ≤ h) (h2 : h ≤ j) (h3 : j ≤ cap) : (Instr.sliceBounds true len cap lo (some (.int k1 h)) (some (.int k2 j))).run P w = .ok (l.toNat, h.toNat, j.toNat) w := by
  have e0 : ∀ (c : BoundsCode), (Instr.sliceBound (.int k2 j) cap c).run P w = .ok j.toNat w := fun c => by
    simp only [Instr.sliceBound, Sem.run_bind, asIntOf_run, Result.andThen_ok]
    rw [if_pos ⟨by omega, h3⟩]; rfl
  have e1 : ∀ (c : BoundsCode), (Instr.sliceBound (.int k1 h) j.toNat c).run P w = .ok h.toNat w := fun c => by
    simp only [Instr.sliceBound, Sem.run_bind, asIntOf_run, Result.andThen_ok]
    rw [if_pos ⟨by omega, by omega⟩]; rfl
  have e2 : ∀ (k : IntKind) (c : BoundsCode), (Instr.sliceBound (.int k l) h.toNat c).run P w = .ok l.toNat w := fun k c => by
    simp only [Instr.sliceBound, Sem.run_bind, asIntOf_run, Result.andThen_ok]
    rw [if_pos ⟨h0, by omega⟩]; rfl
  rcases hl with ⟨rfl, rfl⟩ | ⟨k, rfl⟩
  · simp [Instr.sliceBounds, e0, e1]
  · simp [Instr.sliceBounds, e0, e1, e2]

theorem cutL_rowPart (xs : List PV) (l h : Nat) : cutL xs l h = rowPart xs l (h - l) := by
  unfold cutL rowPart
  cases e : Nat.beq l 0 with
  | true => have : l = 0 := by simpa using e
            subst this; simp
  | false => rw [List.drop_take]; rfl

theorem run_sliceAt_other {t : Nat} {v : Value} {lo hi mx : Option Value} {d : TypeDesc} (hu : P.underlying t = some d) (hn : ∀ n e, d ≠ .array n e) :
    (Instr.sliceAt t v lo hi mx).run P w = (Instr.slice t v lo hi mx).run P w := by
  unfold Instr.sliceAt
  simp only [Sem.run_bind, run_underlying hu, Result.andThen_ok]

theorem evSlice_sound (hF : tabFits P T 0 T = true) (hT : tabSized T = true) {t : Nat} {x : PV} {v : Value} {lo hi mx : Option PV} {lo' hi' mx' : Option Value} {K : PV → Prop} (h : evSlice T t x lo hi mx K)
    (hx : Rep T w μ ro x v) (hlo : RepB T w μ ro lo lo') (hhi : RepB T w μ ro hi hi') (hmx : RepB T w μ ro mx mx') :
    ∃ r, (∀ w' : World, (Instr.sliceAt t v lo' hi' mx').run P w' = .ok r w') ∧ ∃ pv, K pv ∧ Rep T w μ ro pv r := by
  unfold evSlice at h
  split at h
  · obtain rfl : mx' = none := by cases mx' with
      | some => exact hmx.elim
      | none => rfl
    obtain ⟨l, hl, h'⟩ := boundK_ex h hlo
    clear h; have h := h'; clear h'
    have hb : ∀ {d : Int} {K : Int → Prop}, boundK hi d K → ∃ h, ((hi' = none ∧ h = d) ∨ ∃ k, hi' = some (.int k h)) ∧ K h := fun hk => boundK_ex hk hhi
    split at h
    · rename_i s ek
      obtain ⟨i1, d, z, hi1⟩ := under_of hF ek (by simp)
      have hu := hi1.kd_str ek
      obtain rfl := hx.str_inv
      obtain ⟨q, hh, h0, h1, h2, hK⟩ := hb h
      refine ⟨_, ?_, _, hK, .str _⟩
      intro w'
      rw [run_sliceAt_other hu (by simp)]
      simp [Instr.slice, run_underlying hu, bounds_run hl hh h0 h1 h2]
    · rename_i e e' xs ek
      obtain ⟨i1, d, z, hi1⟩ := under_of hF ek (by simp)
      have hu := hi1.kd_slice ek
      obtain ⟨hc, h⟩ := cond_and h
      simp only [Bool.and_eq_true, Nat.beq_eq, Bool.not_eq_true'] at hc
      obtain ⟨rfl, hno⟩ := hc
      obtain ⟨i2, d2, z2, hi2⟩ := tiOk_of hF e' (by intro e; rw [e] at hno; simp [Kd.isOther] at hno)
      obtain ⟨q, hh, h0, h1, h2, hK⟩ := hb h
      obtain ⟨a, cap, rfl, hcap, hrow, hne⟩ := hx.list_inv
      have hbr := fun w' : World => bounds_run (P := P) (w := w') (isS := true) (len := xs.length) (cap := cap) hl hh h0 h1 (by omega)
      refine ⟨_, by intro w'; rw [run_sliceAt_other hu (by simp)]; simp [Instr.slice, run_underlying hu, hbr, hi2.run_sizeOf]; rfl, _, hK, ?_⟩
      have hin : l.toNat + (q.toNat - l.toNat) ≤ xs.length := by omega
      have hlen : (cutL xs l.toNat q.toNat).length = q.toNat - l.toNat := by rw [cutL_rowPart]; exact rowPart_length hin
      by_cases hz : q.toNat - l.toNat = 0
      · rw [hz] at hlen
        rw [List.length_eq_zero_iff.1 hlen, hz]
        exact .listE _ _ _
      · obtain ⟨b, off, rfl, hro, hm⟩ := hne (by intro e; subst e; simp at h2; omega)
        rw [if_neg (by omega), ← hlen]
        simp only [Option.map_some, add_none]
        have hsub : RowOk T e' (cutL xs l.toNat q.toNat) := fun y hy => hrow y (by rw [cutL_rowPart] at hy; exact rowPart_mem hy)
        have hfl : (flats (cutL xs l.toNat q.toNat)).length = (q.toNat - l.toNat) * (T.at e').size := by rw [flats_row_length hT _ hsub, hlen]
        have hg : ∀ k, k < (q.toNat - l.toNat) * (T.at e').size → (flats (cutL xs l.toNat q.toNat))[k]? = (flats xs)[l.toNat * (T.at e').size + k]? := fun k hk => by
          rw [cutL_rowPart]; exact rowPart_flats hT hrow hin k hk
        refine .list e' _ b _ _ (fun k => (w.cell? ⟨b, off + l.toNat * (T.at e').size + k, none⟩).getD default) (by omega) hsub hro (fun k hk => ?_) (fun k c hk => ?_)
        · have := hg k (by omega)
          rw [List.getElem?_eq_getElem hk] at this
          obtain ⟨v, hv, -⟩ := hm _ _ this.symm
          rw [Nat.add_assoc, hv]; rfl
        · have := hg k (by have := (List.getElem?_eq_some_iff.1 hk).1; omega)
          rw [hk] at this
          obtain ⟨v, hv, hr⟩ := hm _ _ this.symm
          rw [Nat.add_assoc, hv]; exact hr
    · rename_i e ek
      obtain ⟨i1, d, z, hi1⟩ := under_of hF ek (by simp)
      have hu := hi1.kd_slice ek
      obtain ⟨hc, h⟩ := cond_and h
      simp only [Bool.not_eq_true'] at hc
      obtain ⟨i2, d2, z2, hi2⟩ := tiOk_of hF e (by intro e; rw [e] at hc; simp [Kd.isOther] at hc)
      obtain ⟨q, hh, h0, h1, hK⟩ := hb h
      subst h0; subst h1
      obtain rfl := hx.nilsl_inv
      have hbr := fun w' : World => bounds_run (P := P) (w := w') (isS := true) (len := 0) (cap := 0) hl hh (by omega) (by omega) (by omega)
      exact ⟨_, by intro w'; rw [run_sliceAt_other hu (by simp)]; simp [Instr.slice, run_underlying hu, hbr, hi2.run_sizeOf], _, hK, .nilsl⟩
    · rename_i e b' e' i n ek
      obtain ⟨i1, d, z, hi1⟩ := under_of hF ek (by simp)
      have hu := hi1.kd_slice ek
      obtain ⟨hc, h⟩ := cond_and h
      simp only [Bool.and_eq_true, Nat.beq_eq, Bool.not_eq_true'] at hc
      obtain ⟨rfl, hno⟩ := hc
      obtain ⟨i2, d2, z2, hi2⟩ := tiOk_of hF e' (by intro e; rw [e] at hno; simp [Kd.isOther] at hno)
      obtain ⟨q, hh, h0, h1, h2, hK⟩ := hb h
      rcases hx.sl_inv with ⟨rfl, a, rfl⟩ | ⟨b, cap, c, t', fr, hmu, hcap, hcells, hsz, rfl⟩
      · have hbr := fun w' : World => bounds_run (P := P) (w := w') (isS := true) (len := 0) (cap := 0) hl hh h0 h1 (by omega)
        refine ⟨_, by intro w'; rw [run_sliceAt_other hu (by simp)]; simp [Instr.slice, run_underlying hu, hbr, hi2.run_sizeOf]; rfl, _, hK, ?_⟩
        have e1 : q.toNat - l.toNat = 0 := by omega
        rw [e1]
        exact .slE _ _ _ _
      · have hbr := fun w' : World => bounds_run (P := P) (w := w') (isS := true) (len := n) (cap := cap) hl hh h0 h1 (by omega)
        refine ⟨_, by intro w'; rw [run_sliceAt_other hu (by simp)]; simp [Instr.slice, run_underlying hu, hbr, hi2.run_sizeOf]; rfl, _, hK, ?_⟩
        by_cases hz : cap = l.toNat
        · have e1 : q.toNat - l.toNat = 0 := by omega
          have e2 : cap - l.toNat = 0 := by omega
          rw [e1, e2]
          exact .slE _ _ _ _
        · rw [if_neg hz]
          try simp only [Option.map_some, add_none]
          have := Rep.sl (T := T) (w := w) (μ := μ) (ro := ro) b' e' (i + l.toNat) (q.toNat - l.toNat) (cap - l.toNat) b c t' fr hmu (by omega) hcells (by
            rw [show i + l.toNat + (cap - l.toNat) = i + cap by omega]; exact hsz)
          rw [Nat.add_mul] at this
          exact this
    · rename_i e b' ty i p e' o n ek
      obtain ⟨i1, d, z, hi1⟩ := under_of hF ek (by simp)
      have hu := hi1.kd_slice ek
      obtain ⟨hc, h⟩ := cond_and h
      simp only [Bool.and_eq_true, Nat.beq_eq, Bool.not_eq_true'] at hc
      obtain ⟨rfl, hno⟩ := hc
      obtain ⟨i2, d2, z2, hi2⟩ := tiOk_of hF e' (by intro e; rw [e] at hno; simp [Kd.isOther] at hno)
      obtain ⟨q, hh, h0, h1, h2, hK⟩ := hb h
      rcases hx.sla_inv with ⟨rfl, a, rfl⟩ | ⟨b, cap, hmu, hcap, rfl⟩
      · have hbr := fun w' : World => bounds_run (P := P) (w := w') (isS := true) (len := 0) (cap := 0) hl hh h0 h1 (by omega)
        refine ⟨_, by intro w'; rw [run_sliceAt_other hu (by simp)]; simp [Instr.slice, run_underlying hu, hbr, hi2.run_sizeOf]; rfl, _, hK, ?_⟩
        have e1 : q.toNat - l.toNat = 0 := by omega
        rw [e1]
        exact .slaE _ _ _ _ _ _ _
      · have hbr := fun w' : World => bounds_run (P := P) (w := w') (isS := true) (len := n) (cap := cap) hl hh h0 h1 (by omega)
        refine ⟨_, by intro w'; rw [run_sliceAt_other hu (by simp)]; simp [Instr.slice, run_underlying hu, hbr, hi2.run_sizeOf]; rfl, _, hK, ?_⟩
        by_cases hz : cap = l.toNat
        · have e1 : q.toNat - l.toNat = 0 := by omega
          have e2 : cap - l.toNat = 0 := by omega
          rw [e1, e2]
          exact .slaE _ _ _ _ _ _ _
        · rw [if_neg hz]
          try simp only [Option.map_some, add_none]
          have := Rep.sla (T := T) (w := w) (μ := μ) (ro := ro) b' ty i p e' (o + l.toNat) (q.toNat - l.toNat) (cap - l.toNat) b hmu (by omega)
          rw [Nat.add_mul] at this
          simp only [Nat.add_assoc] at this ⊢
          exact this
    · rename_i n e b' ty i p ek
      obtain ⟨i1, d, z, hi1⟩ := under_of hF ek (by simp)
      have hu := hi1.kd_array ek
      obtain ⟨hc, h⟩ := cond_and h
      simp only [Bool.and_eq_true, beq_iff_eq, Bool.not_eq_true'] at hc
      obtain ⟨i2, d2, z2, hi2⟩ := tiOk_of hF e (by intro e; rw [e] at hc; simp [Kd.isOther] at hc)
      obtain ⟨q, hh, h0, h1, h2, hK⟩ := hb h
      obtain ⟨b, hmu, rfl⟩ := hx.ptr_inv
      have hbr := fun w' : World => bounds_run (P := P) (w := w') (isS := false) (len := n) (cap := n) hl hh h0 h1 (by omega)
      refine ⟨_, by simp [Instr.sliceAt, Instr.sureAddr, run_underlying hu, hbr, hi2.run_sizeOf]; rfl, _, hK, ?_⟩
      by_cases hz : n = l.toNat
      · have e1 : q.toNat - l.toNat = 0 := by omega
        have e2 : n - l.toNat = 0 := by omega
        rw [e1, e2]
        exact .slaE _ _ _ _ _ _ _
      · rw [if_neg hz]
        try simp only [add_none]
        exact .sla b' ty i p e l.toNat (q.toNat - l.toNat) (n - l.toNat) b hmu (by omega)
    · exact h.elim
  · rename_i m
    split at h
    · rename_i k2 j k1 q e e' xs ek
      obtain ⟨i1, d, z, hi1⟩ := under_of hF ek (by simp)
      have hu := hi1.kd_slice ek
      obtain ⟨l, hl, h'⟩ := boundK_ex h hlo
      obtain ⟨hc, h0, h1, h2, h3, hK⟩ := cond_and h'
      simp only [Bool.and_eq_true, Nat.beq_eq, Bool.not_eq_true'] at hc
      obtain ⟨rfl, hno⟩ := hc
      obtain ⟨i2, d2, z2, hi2⟩ := tiOk_of hF e' (by intro e; rw [e] at hno; simp [Kd.isOther] at hno)
      obtain ⟨v1, rfl⟩ : ∃ v1, hi' = some v1 := by
        cases hi' with
        | none => exact hhi.elim
        | some v1 => exact ⟨v1, rfl⟩
      obtain ⟨v2, rfl⟩ : ∃ v2, mx' = some v2 := by
        cases mx' with
        | none => exact hmx.elim
        | some v2 => exact ⟨v2, rfl⟩
      have ev1 : v1 = .int k1 q := Rep.int_inv hhi
      have ev2 : v2 = .int k2 j := Rep.int_inv hmx
      subst ev1; subst ev2
      obtain ⟨a, cap, rfl, hcap, hrow, hne⟩ := hx.list_inv
      have hbr := fun w' : World => bounds_run3 (P := P) (w := w') (len := xs.length) (cap := cap) (k1 := k1) (k2 := k2) hl h0 h1 h2 (by omega)
      refine ⟨_, by intro w'; rw [run_sliceAt_other hu (by simp)]; simp [Instr.slice, run_underlying hu, hbr, hi2.run_sizeOf]; rfl, _, hK, ?_⟩
      have hin : l.toNat + (q.toNat - l.toNat) ≤ xs.length := by omega
      have hlen : (cutL xs l.toNat q.toNat).length = q.toNat - l.toNat := by rw [cutL_rowPart]; exact rowPart_length hin
      by_cases hz : q.toNat - l.toNat = 0
      · rw [hz] at hlen
        rw [List.length_eq_zero_iff.1 hlen, hz]
        exact .listE _ _ _
      · obtain ⟨b, off, rfl, hro, hm⟩ := hne (by intro e; subst e; simp at h3; omega)
        rw [if_neg (by omega), ← hlen]
        simp only [Option.map_some, add_none]
        have hsub : RowOk T e' (cutL xs l.toNat q.toNat) := fun y hy => hrow y (by rw [cutL_rowPart] at hy; exact rowPart_mem hy)
        have hfl : (flats (cutL xs l.toNat q.toNat)).length = (q.toNat - l.toNat) * (T.at e').size := by rw [flats_row_length hT _ hsub, hlen]
        have hg : ∀ k, k < (q.toNat - l.toNat) * (T.at e').size → (flats (cutL xs l.toNat q.toNat))[k]? = (flats xs)[l.toNat * (T.at e').size + k]? := fun k hk => by
          rw [cutL_rowPart]; exact rowPart_flats hT hrow hin k hk
        refine .list e' _ b _ _ (fun k => (w.cell? ⟨b, off + l.toNat * (T.at e').size + k, none⟩).getD default) (by omega) hsub hro (fun k hk => ?_) (fun k c hk => ?_)
        · have := hg k (by omega)
          rw [List.getElem?_eq_getElem hk] at this
          obtain ⟨v, hv, -⟩ := hm _ _ this.symm
          rw [Nat.add_assoc, hv]; rfl
        · have := hg k (by have := (List.getElem?_eq_some_iff.1 hk).1; omega)
          rw [hk] at this
          obtain ⟨v, hv, hr⟩ := hm _ _ this.symm
          rw [Nat.add_assoc, hv]; exact hr
    · exact h.elim

end
end Pv
