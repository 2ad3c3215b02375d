/- The frames twenty-first part, end: code; the results. -/
import Derived.Test.YthdpkcolbgoecaaGc

namespace Pv
open Go

section
variable {P : Program}

theorem evC_sound : ∀ (c : Code) (C : Ctx) (_ : Base P C) (r : Option Nat) (n : Nat) (_ : r = none ∨ noRange c = true) (w0 : World) (μ0 : Nat → Option Nat) (ro0 : Nat → Prop) (L0 : Heap) (s : St) (a : Act) (w : World) (μ : Nat → Option Nat) (ro : Nat → Prop) (K : Ex → St → Prop), LoopsOk C c → evC C c s K → SR C w0 μ0 ro0 L0 (fun _ => False) s a w μ ro →
    c.wpIn (Fw r) n P (QK C w0 μ0 ro0 L0 K) a w
  | .skip, C, hB, r, n, hr, w0, μ0, ro0, L0, s, a, w, μ, ro, K, _, hev, h => wpIn_skip ⟨s, μ, ro, hev, h⟩
  | .region id ops draw, C, hB, r, n, hr, w0, μ0, ro0, L0, s, a, w, μ, ro, K, _, hev, h => by
    rw [evC] at hev
    cases draw with
    | false =>
      simp only [cond_false] at hev
      refine wpIn_region_list (evOps_sound hB ops.toList 0 s a w μ ro hev (h.mono (by intro i hi; exact hi.elim)) ?_)
      intro s' a' w' μ' ro' hK h'
      have hD : ∀ i, i < 0 + ops.toList.length → i < ops.size := fun i hi => by simpa using hi
      obtain ⟨s2, μ2, ro2, h2, h3⟩ := clean_sound hB.sized hK h' hD
      exact ⟨s2, μ2, ro2, h2, h3⟩
    | true =>
      simp only [cond_true] at hev
      obtain ⟨hc, hev⟩ := cond_and hev
      simp only [Bool.and_eq_true] at hc
      have h1 : SR C w0 μ0 ro0 L0 (fun i => (Array.replicate ops.size false).getD i false = true) s a { w with drawn := w.drawn + 1 } μ ro := (h.drew).mono (by intro i hi; exact hi.elim)
      refine wpIn_region_any (hB.mixed hc.1.2) (wpAny_round hc.2 _ _ _ _ (evAny_sound hB hc.1.1 (fun c a w hq => (show False from hq)) _ _ s a _ μ ro hev h1 ?_))
      intro s' a' w' μ' ro' D hD hK h'
      obtain ⟨s2, μ2, ro2, h2, h3⟩ := clean_sound hB.sized hK h' (by simpa using hD)
      exact ⟨s2, μ2, ro2, h2, h3⟩
  | .seq x y, C, hB, r, n, hr, w0, μ0, ro0, L0, s, a, w, μ, ro, K, hl, hev, h => by
    refine wpIn_seq (wpIn_mono (evC_sound x C hB r n (hr.imp (fun h => h) (fun h => (by simp only [noRange, Bool.and_eq_true] at h; exact h.1))) w0 μ0 ro0 L0 s a w μ ro _ hl.2.1 hev h) ?_)
    intro e a' w' hq
    cases e with
    | normal =>
      obtain ⟨s', μ', ro', hK, h'⟩ := hq
      simp only at hK
      split at hK
      · rename_i l hJ
        have h1 := hl.1 l hJ _ _ _ hK
        rw [← h'.eqMk] at h1
        exact wpIn_mono (evC_sound y C hB r n (hr.imp (fun h => h) (fun h => (by simp only [noRange, Bool.and_eq_true] at h; exact h.2))) w0 μ0 ro0 L0 s' a' w' μ' ro' _ hl.2.2 h1 h') (fun _ _ _ h => h.of_on)
      · exact evC_sound y C hB r n (hr.imp (fun h => h) (fun h => (by simp only [noRange, Bool.and_eq_true] at h; exact h.2))) w0 μ0 ro0 L0 s' a' w' μ' ro' K hl.2.2 hK h'
    | exit id => exact hq
    | ret => exact hq
    | goto l => exact hq
    | panic ch => exact hq
    | outgrown => exact hq
  | .cond c x y, C, hB, r, n, hr, w0, μ0, ro0, L0, s, a, w, μ, ro, K, hl, hev, h => by
    rw [evC] at hev
    split at hev
    · rename_i g hg
      have hc := h.eval c
      simp only at hc
      rw [hg] at hc
      have h' : SR C w0 μ0 ro0 L0 (fun _ => False) ⟨dropT c s.t, s.L, s.nx⟩ a w μ ro := by
        cases c <;> first | exact h | exact h.set (fun v _ => .undef v)
      refine wpIn_cond_split hc.bool_inv (fun e => ?_) (fun e => ?_)
      · subst e; exact evC_sound x C hB r n (hr.imp (fun h => h) (fun h => (by simp only [noRange, Bool.and_eq_true] at h; exact h.1))) w0 μ0 ro0 L0 _ a w μ ro K hl.1 hev h'
      · subst e; exact evC_sound y C hB r n (hr.imp (fun h => h) (fun h => (by simp only [noRange, Bool.and_eq_true] at h; exact h.2))) w0 μ0 ro0 L0 _ a w μ ro K hl.2 hev h'
    · exact hev.elim
  | .block id c, C, hB, r, n, hr, w0, μ0, ro0, L0, s, a, w, μ, ro, K, hl, hev, h => by
    refine wpIn_block (wpIn_mono (evC_sound c C hB r n (hr.imp (fun h => h) (fun h => h)) w0 μ0 ro0 L0 s a w μ ro _ hl hev h) ?_)
    intro e a' w' hq
    cases e with
    | normal => exact hq
    | exit i =>
      obtain ⟨s', μ', ro', hK, h'⟩ := hq
      simp only [Exit.inBlock]
      simp only at hK
      by_cases e : i = id
      · subst e; rw [if_pos rfl]; simp only [Nat.beq_refl, cond_true] at hK; exact ⟨s', μ', ro', hK, h'⟩
      · rw [if_neg e]; rw [nbeq e] at hK; exact ⟨s', μ', ro', hK, h'⟩
    | ret => exact hq
    | goto l => exact hq
    | panic ch => exact hq
    | outgrown => exact hq
  | .loop c, C, hB, r, n, hr, w0, μ0, ro0, L0, s, a, w, μ, ro, K, hl, hev, h => by
    rw [evC] at hev
    split at hev
    · rename_i l hΛ
      obtain ⟨m, hm⟩ := hl.1 l hΛ _ _ _ hev
      rw [← h.eqMk] at hm
      have ih := evC_sound c C hB r n (hr.imp (fun h => h) (fun h => h)) w0 μ0 ro0 L0
      have rounds : ∀ (m : Nat) (s : St) (a : Act) (w : World) (μ : Nat → Option Nat) (ro : Nat → Prop) (K : Ex → St → Prop), evLoop C c m s K → SR C w0 μ0 ro0 L0 (fun _ => False) s a w μ ro → Code.roundsIn (Fw r) n P c (QK C w0 μ0 ro0 L0 K) m a w := by
        intro m
        induction m with
        | zero => intro s a w μ ro K hm; exact hm.elim
        | succ m ihm =>
          intro s a w μ ro K hm h
          rw [roundsIn_succ]
          refine wpIn_mono (ih s a w μ ro _ hl.2 hm h) ?_
          intro e a' w' hq
          cases e with
          | normal => obtain ⟨s', μ', ro', hK, h'⟩ := hq; exact ihm s' a' w' μ' ro' K hK h'
          | exit id => exact hq
          | ret => exact hq
          | goto l => exact hq
          | panic ch => exact hq
          | outgrown => exact hq
      exact wpIn_mono (wpIn_loop_rounds m (rounds m s a w μ ro _ hm h)) (fun _ _ _ h => h.of_on)
    · exact hev.elim
  | .exit id, C, hB, r, n, hr, w0, μ0, ro0, L0, s, a, w, μ, ro, K, _, hev, h => wpIn_exit ⟨s, μ, ro, hev, h⟩
  | .ret, C, hB, r, n, hr, w0, μ0, ro0, L0, s, a, w, μ, ro, K, _, hev, h => wpIn_ret ⟨s, μ, ro, hev, h⟩
  | .rangeFunc f ps x y, C, hB, r, n, hr, w0, μ0, ro0, L0, s, a, w, μ, ro, K, hl, hev, h => by
    obtain rfl : r = none := hr.resolve_right (by simp [noRange])
    exact rangeF_sound hB (fun p hn r n w0 μ0 ro0 L0 s a w μ ro K => evC_sound x { C with p := p } (hB.withP p) r n (.inr hn) w0 μ0 ro0 L0 s a w μ ro K)
      (fun p hn r n w0 μ0 ro0 L0 s a w μ ro K => evC_sound y { C with p := p } (hB.withP p) r n (.inr hn) w0 μ0 ro0 L0 s a w μ ro K) hl hev h
  | .scope _, _, _, _, _, _, _, _, _, _, _, _, _, _, _, _, _, hev, _ => hev.elim
  | .label _, _, _, _, _, _, _, _, _, _, _, _, _, _, _, _, _, hev, _ => hev.elim
  | .goto _, _, _, _, _, _, _, _, _, _, _, _, _, _, _, _, _, hev, _ => hev.elim
  | .refuse _, _, _, _, _, _, _, _, _, _, _, _, _, _, _, _, _, hev, _ => hev.elim

section
variable {C : Ctx} {w0 : World} {μ0 : Nat → Option Nat} {ro0 : Nat → Prop} {L0 : Heap}

/-- The results, read. -/
theorem ress_sound (hB : Base P C) {a : Act} {w : World} {μ : Nat → Option Nat} {ro : Nat → Prop} {s : St} {D : Nat → Prop} (h : SR C w0 μ0 ro0 L0 D s a w μ ro) : ∀ (rs : List ResultVar) (K : List PV → Prop), ress C.T s.t s.L rs K →
    ∃ (vs : List Value) (xs : List PV), (rs.mapM fun | .tmp t => pure (a.tmps.getD t undef) | .cell p t => do loadVar t (← asAddr (a.tmps.getD p undef)) : Sem (List Value)).run P w = .ok vs w ∧ K xs ∧ xs.length = vs.length ∧ ∀ (i : Nat) x v, xs[i]? = some x → vs[i]? = some v → Rep C.T w μ ro x v
  | [], K, hev => ⟨[], [], by simp, hev, rfl, fun i x v hx _ => by simp at hx⟩
  | rv :: rs, K, hev => by
    have one : ∃ v x, ((fun | .tmp t => pure (a.tmps.getD t undef) | .cell p t => do loadVar t (← asAddr (a.tmps.getD p undef)) : ResultVar → Sem Value) rv).run P w = .ok v w ∧ ress C.T s.t s.L rs (fun xs => K (x :: xs)) ∧ Rep C.T w μ ro x v := by
      cases rv with
      | tmp t => exact ⟨a.tmps.getD t undef, _, by simp, hev, h.eval (.tmp t)⟩
      | cell p t =>
        obtain ⟨v, h1, x, h2, h3⟩ := evLoad_sound (P := P) hB.fitsT hB.sized hev (h.eval (.tmp p)) h.heap
        refine ⟨v, x, ?_, h2, h3⟩
        have hpv := h.eval (.tmp p)
        simp only [Act.eval] at h1 hpv
        have hp2 : ∃ q, a.tmps.getD p undef = .pointer (some q) := by
          simp only [ress, resOf] at hev
          unfold evLoad at hev
          split at hev
          · rename_i e
            simp only [St.ev, e] at hpv
            obtain ⟨b, -, hv⟩ := hpv.ptr_inv
            exact ⟨_, hv⟩
          · rename_i e
            simp only [St.ev, e] at hpv
            obtain ⟨b, off, hv, -⟩ := hpv.vptr_inv
            exact ⟨_, hv⟩
          · exact hev.elim
        obtain ⟨q, hq⟩ := hp2
        rw [hq] at h1
        simp only [hq]
        simpa [Instr.loadAt, Instr.sureAddr, asAddr] using h1
    obtain ⟨v, x, h1, h2, h3⟩ := one
    obtain ⟨vs, xs, h4, h5, h6, h7⟩ := ress_sound hB h rs _ h2
    refine ⟨v :: vs, x :: xs, ?_, h5, by simp [h6], fun i y u hy hu => ?_⟩
    · rw [List.mapM_cons]
      simp only [Sem.run_bind, h1, Result.andThen_ok, h4, Sem.run_pure]
    · cases i with
      | zero => simp at hy hu; subst hy; subst hu; exact h3
      | succ i => exact h7 i y u (by simpa using hy) (by simpa using hu)

end
end
end Pv
