/- The frame: operations that answer alike in every world. -/
import Derived.Test.YthdpkcolbgoecaaFa

namespace Pv
open Go

section
variable {P : Program} {T : Tab} {hb : Nat} {w : World} {μ : Nat → Option Nat} {ro : Nat → Prop} {L : Heap} {K : PV → Ups → Prop}

theorem scalarRep {w w' : World} {μ μ' : Nat → Option Nat} {ro ro' : Nat → Prop} {x : PV} {v : Value} (hs : scalar x = true) (h : Rep T w μ ro x v) : Rep T w' μ' ro' x v := by
  cases x <;> simp [scalar] at hs
  · rw [h.bool_inv]; exact .bool _
  · rw [h.int_inv]; exact .int _ _
  · rw [h.str_inv]; exact .str _

theorem scalar_uniq {w w' : World} {μ μ' : Nat → Option Nat} {ro ro' : Nat → Prop} {x : PV} {v u : Value} (hs : scalar x = true) (h : Rep T w μ ro x v) (h' : Rep T w' μ' ro' x u) : v = u := by
  cases x <;> simp [scalar] at hs
  · rw [h.bool_inv, h'.bool_inv]
  · rw [h.int_inv, h'.int_inv]
  · rw [h.str_inv, h'.str_inv]

/-- Of bools, whole numbers and strings one answer. -/
theorem evBin_det {ti : Ti} {op : BinOp} {x y : PV} {K : PV → Prop} (hx : scalar x = true) (hy : scalar y = true) (h : evBin ti op x y K) : ∃ z, scalar z = true ∧ K z ∧ evBin ti op x y fun u => u = z := by
  cases x <;> simp [scalar] at hx <;> cases y <;> simp [scalar] at hy <;> simp only [evBin] at h ⊢
  · split at h
    · unfold evKnown at h ⊢
      split at h
      · exact ⟨_, rfl, h, by simp⟩
      · exact ⟨_, rfl, h, by simp⟩
      · exact h.elim
    · exact h.elim
  · rename_i k a k' b
    unfold evIntBin at h ⊢
    split at h
    · exact ⟨_, rfl, h.2, h.1, rfl⟩
    · exact ⟨_, rfl, h.2, h.1, rfl⟩
    · obtain ⟨hk, h⟩ := cond_and h
      simp only [hk, cond_true]
      split at h <;> first | exact ⟨_, rfl, h, rfl⟩ | exact ⟨_, rfl, h.2, h.1, rfl⟩ | exact h.elim
  · unfold evStrBin at h ⊢
    split at h <;> first | exact ⟨_, rfl, h, rfl⟩ | exact ⟨_, rfl, h.2, h.1, rfl⟩ | exact h.elim

theorem known_now {s : Sem Value} {r : Value} (h : ∀ w : World, s.run P w = .ok r w) {o : Oper} {ρ : Operand → Value} (he : execOp ρ o = (do pure (.value (← s)) : Sem Next)) : ∀ w : World, (execOp ρ o).run P w = .ok (.value r) w := fun w => by
  rw [he]; simp [h w]

def noVal : PV → Prop
  | .undef | .tup _ => True
  | _ => False
theorem scl_of {x : PV} (h : sclU x = true) : noVal x ∨ scalar x = true := by
  cases x <;> simp_all [sclU, scalar, noVal]

theorem evBin_undef_l {ti : Ti} {op : BinOp} {x y : PV} {K : PV → Prop} (hx : noVal x) (h : evBin ti op x y K) : False := by
  cases x <;> first | exact hx | exact h
theorem evBin_undef_r {ti : Ti} {op : BinOp} {x y : PV} {K : PV → Prop} (hy : noVal y) (h : evBin ti op x y K) : False := by
  cases y <;> first | exact hy.elim | (cases x <;> exact h)
theorem evUn_undef {op : UnOp} {x : PV} {K : PV → Prop} (hx : noVal x) (h : evUn op x K) : False := by
  cases x <;> first | exact hx | (cases op <;> exact h)

theorem len_now (hF : tabFits P T 0 T = true) {t : Nat} {x : PV} {v : Value} {K : Int → Prop} (hs : sliceU x = true) (h : lenOf (T.at t).kd L x K) (hx : Rep T w μ ro x v) (ty : TypeId) :
    ∃ n, (∀ w' : World, (Builtin.len_ #[t] ty #[v]).run P w' = .ok (goInt n) w') ∧ K n := by
  unfold lenOf at h
  split at h
  · rename_i e xs ek
    obtain ⟨i, d, z, hi⟩ := under_of hF ek (by simp)
    have hu := hi.kd_slice ek
    obtain ⟨a, cap, rfl, -⟩ := hx.list_inv
    exact ⟨_, by intro w'; simp [Builtin.len_, run_underlying hu], h⟩
  · rename_i e ek
    obtain ⟨i, d, z, hi⟩ := under_of hF ek (by simp)
    have hu := hi.kd_slice ek
    obtain rfl := hx.nilsl_inv
    exact ⟨_, by intro w'; simp [Builtin.len_, run_underlying hu], h⟩
  · rename_i e _ _ _ n ek
    obtain ⟨i, d, z, hi⟩ := under_of hF ek (by simp)
    have hu := hi.kd_slice ek
    rcases hx.sl_inv with ⟨rfl, a, rfl⟩ | ⟨b, cap, c, t, fr, -, -, -, -, rfl⟩
    · exact ⟨_, by intro w'; simp [Builtin.len_, run_underlying hu], h⟩
    · exact ⟨_, by intro w'; simp [Builtin.len_, run_underlying hu], h⟩
  · rename_i e _ _ _ _ _ _ n ek
    obtain ⟨i, d, z, hi⟩ := under_of hF ek (by simp)
    have hu := hi.kd_slice ek
    rcases hx.sla_inv with ⟨rfl, a, rfl⟩ | ⟨b, cap, -, -, rfl⟩
    · exact ⟨_, by intro w'; simp [Builtin.len_, run_underlying hu], h⟩
    · exact ⟨_, by intro w'; simp [Builtin.len_, run_underlying hu], h⟩
  · rename_i s ek
    obtain ⟨i, d, z, hi⟩ := under_of hF ek (by simp)
    have hu := hi.kd_str ek
    obtain rfl := hx.str_inv
    exact ⟨_, by intro w'; simp [Builtin.len_, run_underlying hu], h⟩
  · simp [sliceU] at hs
  · simp [sliceU] at hs
  · simp [sliceU] at hs
  · exact h.elim

/-- An operation that answers alike in every world. -/
theorem pure_sound (hF : tabFits P T 0 T = true) (hT : tabSized T = true) (hE : EqSound P T) {o : Oper} {ρ' : Operand → PV} {ρ : Operand → Value} (hp : pureNow o.op ρ' = true) (h : evOp T hb ρ' L o.op K) (hρ : ∀ x, Rep T w μ ro (ρ' x) (ρ x)) :
    ∃ r pv, (∀ w' : World, (execOp ρ o).run P w' = .ok (.value r) w') ∧ K pv [] ∧ Rep T w μ ro pv r := by
  obtain ⟨dst, op, type, pos, after, guard⟩ := o
  simp only at h hp
  unfold pureNow at hp
  split at hp
  · exact ⟨_, _, fun _ => rfl, h, hρ _⟩
  · exact ⟨_, _, fun _ => rfl, h, hρ _⟩
  · rename_i c a b
    simp only [evOp] at h
    unfold asBoolK at h
    split at h
    · rename_i g hg
      have hc := hρ c
      rw [hg] at hc
      have hcv := hc.bool_inv
      have hd : ∀ w' : World, (execOp ρ ⟨dst, .pick c a b, type, pos, after, guard⟩).run P w' = .ok (.value (if g then ρ a else ρ b)) w' := fun w' => by simp [execOp, hcv, asBool]
      split at h
      · rename_i x y hx hy
        have ha := hρ a; have hb' := hρ b
        rw [hx] at ha; rw [hy] at hb'
        refine ⟨_, _, hd, h, ?_⟩
        rw [ha.bool_inv, hb'.bool_inv]
        cases g <;> exact .bool _
      · cases g with
        | true => exact ⟨_, _, hd, h, hρ a⟩
        | false => exact ⟨_, _, hd, h, hρ b⟩
    · exact h.elim
  · rename_i x i
    simp only [evOp] at h
    split at h
    · rename_i vs hx
      have hr := hρ x
      rw [hx] at hr
      obtain ⟨r, h1, pv, h2, h3⟩ := extract_sound (P := P) (K := fun v => K v []) h hr
      obtain ⟨us, hu, -⟩ := hr.tup_inv
      refine ⟨r, pv, fun w' => ?_, h2, h3⟩
      rw [hu] at h1
      simp only [execOp, hu, Sem.run_bind]
      have : (Instr.extract (.tuple us) i).run P w' = .ok r w' := by
        simp only [Instr.extract] at h1 ⊢
        cases e : us[i]? with
        | none => simp [e] at h1
        | some y => simp [e] at h1 ⊢; exact h1
      simp [this]
    · exact h.elim
  · rename_i op t x y yt
    simp only [evOp] at h
    simp only [Bool.and_eq_true] at hp
    rcases scl_of hp.1 with e1 | hs1
    · exact (evBin_undef_l e1 h).elim
    rcases scl_of hp.2 with e2 | hs2
    · exact (evBin_undef_r e2 h).elim
    obtain ⟨z, hz, hK, hz2⟩ := evBin_det hs1 hs2 h
    obtain ⟨r, h1, pv, h2, h3⟩ := evBin_sound (P := P) (w := w) (μ := μ) (ro := ro) hF hE hz2 x y (hρ x) (hρ y)
    subst h2
    refine ⟨r, pv, fun w' => ?_, hK, h3⟩
    obtain ⟨r', h1', pv', h2', h3'⟩ := evBin_sound (P := P) (w := w') (μ := μ) (ro := ro) hF hE hz2 x y (scalarRep hs1 (hρ x)) (scalarRep hs2 (hρ y))
    subst h2'
    have := scalar_uniq hz h3' h3
    subst this
    simp only [execOp]
    rw [Sem.run_bind, h1']
    rfl
  · rename_i op t x
    simp only [evOp] at h
    rcases scl_of hp with e1 | hs1
    · exact (evUn_undef e1 h).elim
    unfold evUn at h
    split at h
    · rename_i b e
      have := hρ x
      rw [e] at this
      exact ⟨.bool (!b), _, fun w' => by simp [execOp, this.bool_inv, Op.unary], h, .bool _⟩
    · rename_i k m e
      have := hρ x
      rw [e] at this
      obtain ⟨r, h1, pv, h2, h3⟩ := evUn_sound (P := P) (w := w) (μ := μ) (ro := ro) (op := .neg) (K := fun z => z = .int k (k.wrap (0 - m))) (x := .int k m) rfl this
      subst h2
      refine ⟨r, _, fun w' => ?_, h, h3⟩
      obtain ⟨r', h1', pv', h2', h3'⟩ := evUn_sound (P := P) (w := w') (μ := μ) (ro := ro) (op := .neg) (K := fun z => z = .int k (k.wrap (0 - m))) (x := .int k m) rfl (scalarRep rfl this)
      subst h2'
      have := scalar_uniq rfl h3' h3
      subst this
      simp only [execOp]
      rw [Sem.run_bind, h1']; rfl
    · rename_i k m e
      have := hρ x
      rw [e] at this
      obtain ⟨r, h1, pv, h2, h3⟩ := evUn_sound (P := P) (w := w) (μ := μ) (ro := ro) (op := .xor) (K := fun z => z = .int k (bitsW .xor k (cond k.signed (-1) k.max) m)) (x := .int k m) rfl this
      subst h2
      refine ⟨r, _, fun w' => ?_, h, h3⟩
      obtain ⟨r', h1', pv', h2', h3'⟩ := evUn_sound (P := P) (w := w') (μ := μ) (ro := ro) (op := .xor) (K := fun z => z = .int k (bitsW .xor k (cond k.signed (-1) k.max) m)) (x := .int k m) rfl (scalarRep rfl this)
      subst h2'
      have := scalar_uniq rfl h3' h3
      subst this
      simp only [execOp]
      rw [Sem.run_bind, h1']; rfl
    · exact h.elim
  · rename_i src d x
    simp only [evOp] at h
    have hi : ρ' x = .undef ∨ (∃ l, ρ' x = .tup l) ∨ ∃ k n, ρ' x = .int k n := by
      cases e : ρ' x <;> simp_all [intU]
    rcases hi with e | ⟨l, e⟩ | ⟨k, m, e⟩
    · rw [e] at h; simp only [evConv2] at h; unfold evConv at h; split at h <;> first | exact h.elim | simp_all
    · rw [e] at h; simp only [evConv2] at h; unfold evConv at h; split at h <;> first | exact h.elim | simp_all
    rw [e] at h
    simp only [evConv2] at h
    unfold evConv at h
    split at h
    case h_1 k' k2 k'' m2 e1 e2 e3 =>
      cases e3
      obtain ⟨i1, d1, z1, hi1⟩ := under_of hF e1 (by simp)
      obtain ⟨i2, d2, z2, hi2⟩ := under_of hF e2 (by simp)
      have := hρ x
      rw [e] at this
      refine ⟨.int k2 (k2.wrap m), _, fun w' => ?_, h, .int _ _⟩
      simp [execOp, this.int_inv, convert, run_underlying (hi1.kd_int e1), run_underlying (hi2.kd_int e2), Conv.intToInt]
    all_goals first | exact h.elim | contradiction
  · rename_i t x lo hi mx
    simp only [evOp] at h
    obtain ⟨r, h1, pv, h2, h3⟩ := evSlice_sound (P := P) (K := fun v => K v []) hF hT h (hρ x) (repB hρ lo) (repB hρ hi) (repB hρ mx)
    exact ⟨r, pv, fun w' => by simp only [execOp]; rw [Sem.run_bind, h1 w']; rfl, h2, h3⟩
  · rename_i t a
    simp only [evOp] at h
    cases e : ρ' a <;> simp [undefV, e] at hp <;> (rw [e] at h; exact (show False from h).elim)
  · rename_i t x ix
    simp only [evOp] at h
    obtain ⟨r, h1, pv, h2, h3⟩ := evIndexAddr_sound (P := P) (K := fun v => K v []) hF hT h (hρ x) (hρ ix)
    exact ⟨r, pv, fun w' => by simp only [execOp]; rw [Sem.run_bind, h1 w']; rfl, h2, h3⟩
  · rename_i t x f
    simp only [evOp] at h
    obtain ⟨r, h1, pv, h2, h3⟩ := evFieldAddr_sound (P := P) (K := fun v => K v []) hF h (hρ x)
    exact ⟨r, pv, fun w' => by simp only [execOp]; rw [Sem.run_bind, h1 w']; rfl, h2, h3⟩
  · rename_i x
    simp only [evOp] at h
    split at h
    · rename_i q ty i p e
      have hr := hρ x
      rw [e] at hr
      obtain ⟨b, -, hv⟩ := hr.ptr_inv
      exact ⟨_, _, fun w' => by simp [execOp, hv], h, hr⟩
    · rename_i ty y p e
      have hr := hρ x
      rw [e] at hr
      obtain ⟨b, off, hv, -⟩ := hr.vptr_inv
      exact ⟨_, _, fun w' => by simp [execOp, hv], h, hr⟩
    · exact h.elim
  · rename_i args argTypes
    simp only [evOp] at h
    split at h
    · rename_i x t e1 e2
      rw [e1] at hp
      obtain ⟨n, h1, h2⟩ := len_now (P := P) hF hp h (hρ x) type
      have e3 : args = #[x] := by rw [← Array.toArray_toList (xs := args), e1]
      have e4 : argTypes = #[t] := by rw [← Array.toArray_toList (xs := argTypes), e2]
      subst e3; subst e4
      refine ⟨_, _, fun w' => ?_, h2, .int _ _⟩
      have := h1 w'
      simp [execOp, resolve, invoke, builtin, this]
      rfl
    · exact h.elim
  · cases hp

end
end Pv
