/- The frames fifteenth part: an operation that is no call of a function. -/
import Derived.Test.YthdpkcolbgoecaaFk

namespace Pv
open Go

section
variable {P : Program} {T : Tab} {hb : Nat} {w : World} {μ : Nat → Option Nat} {ro : Nat → Prop} {L : Heap} {K : PV → Ups → Prop}

/-- What the machine does with an operation. -/
def Does (P : Program) (ρ : Operand → Value) (o : Oper) (w : World) (r : Value) (w' : World) : Prop :=
  (execOp ρ o).run P w = .ok (.value r) w' ∨ ((execOp ρ o).run P w = .ok .skip w' ∧ r = undef)

theorem does_value {ρ : Operand → Value} {o : Oper} {s : Sem Value} {r : Value} {w' : World} (he : execOp ρ o = (do pure (.value (← s)) : Sem Next)) (hs : s.run P w = .ok r w') : Does P ρ o w r w' := by
  left; rw [he]; simp [hs]

theorem repB {ρ' : Operand → PV} {ρ : Operand → Value} (hρ : ∀ x, Rep T w μ ro (ρ' x) (ρ x)) (x : Option Operand) : RepB T w μ ro (x.map ρ') (x.map ρ) := by
  cases x with
  | none => trivial
  | some x => exact hρ x

theorem out2_of {ρ : Operand → Value} {o : Oper} (h : ∃ r w', Does P ρ o w r w' ∧ Out T hb L μ ro w K r w') : ∃ r w', Does P ρ o w r w' ∧ Out2 T hb L μ ro w K r w' :=
  let ⟨r, w', h1, h2⟩ := h
  ⟨r, w', h1, h2.out2⟩

theorem evOp_sound (hF : tabFits P T 0 T = true) (hT : tabSized T = true) (hE : EqSound P T) {o : Oper} {ρ' : Operand → PV} {ρ : Operand → Value} (h : evOp T hb ρ' L o.op K) (hρ : ∀ x, Rep T w μ ro (ρ' x) (ρ x)) (hL : HRel T w μ ro L) (hf : Fresh hb μ L) :
    ∃ r w', Does P ρ o w r w' ∧ Out2 T hb L μ ro w K r w' := by
  obtain ⟨dst, op, type, pos, after, guard⟩ := o
  simp only at h
  unfold evOp at h
  split at h
  · exact out2_of ⟨_, w, .inl rfl, Out.same h (hρ _) hL⟩
  · exact out2_of ⟨_, w, .inl rfl, Out.same h (hρ _) hL⟩
  · refine out2_of ?_
    -- pick
    rename_i c a b
    unfold asBoolK at h
    split at h
    · rename_i g hg
      have hc := hρ c
      rw [hg] at hc
      have hcv := hc.bool_inv
      have hd : Does P ρ ⟨dst, .pick c a b, type, pos, after, guard⟩ w (if g then ρ a else ρ b) w := by
        left
        simp [execOp, hcv, asBool]
      refine ⟨_, w, hd, ?_⟩
      split at h
      · rename_i x y hx hy
        have ha := hρ a; have hb' := hρ b
        rw [hx] at ha; rw [hy] at hb'
        refine Out.same h ?_ hL
        rw [ha.bool_inv, hb'.bool_inv]
        cases g <;> exact .bool _
      · cases g with
        | true => exact Out.same h (hρ a) hL
        | false => exact Out.same h (hρ b) hL
    · exact h.elim
  · refine out2_of ?_
    rename_i op t x y yt
    obtain ⟨r, h1, h2⟩ := evBin_sound (P := P) (K := fun v => K v []) hF hE h x y (hρ x) (hρ y)
    exact ⟨r, w, does_value rfl h1, Out.of_pure h2 hL⟩
  · refine out2_of ?_
    rename_i op t x
    obtain ⟨r, h1, h2⟩ := evUn_sound (P := P) (K := fun v => K v []) h (hρ x)
    exact ⟨r, w, does_value rfl h1, Out.of_pure h2 hL⟩
  · refine out2_of ?_
    rename_i src d x
    obtain ⟨r, w', h1, h2⟩ := convert2_sound hF hT h (hρ x) hL hf
    exact ⟨r, w', does_value rfl h1, h2⟩
  · refine out2_of ?_
    rename_i x i
    split at h
    · rename_i vs hx
      have hr := hρ x
      rw [hx] at hr
      obtain ⟨r, h1, h2⟩ := extract_sound (P := P) (K := fun v => K v []) h hr
      exact ⟨r, w, does_value rfl h1, Out.of_pure h2 hL⟩
    · exact h.elim
  · refine out2_of ?_
    rename_i t x ix
    obtain ⟨r, h1, h2⟩ := evIndexAddr_sound (P := P) (K := fun v => K v []) hF hT h (hρ x) (hρ ix)
    exact ⟨r, w, does_value rfl (h1 w), Out.of_pure h2 hL⟩
  · refine out2_of ?_
    rename_i t x ix
    obtain ⟨r, h1, h2⟩ := evIndex_sound (K := fun v => K v []) hF hT h (hρ x) (hρ ix)
    exact ⟨r, w, does_value rfl h1, Out.of_pure h2 hL⟩
  · refine out2_of ?_
    rename_i t x lo hi mx
    obtain ⟨r, h1, h2⟩ := evSlice_sound (K := fun v => K v []) hF hT h (hρ x) (repB hρ lo) (repB hρ hi) (repB hρ mx)
    exact ⟨r, w, does_value rfl (h1 w), Out.of_pure h2 hL⟩
  · refine out2_of ?_
    rename_i t a
    obtain ⟨r, h1, h2⟩ := evLoad_sound (K := fun v => K v []) hF hT h (hρ a) hL
    exact ⟨r, w, does_value rfl h1, Out.of_pure h2 hL⟩
  · refine out2_of ?_
    rename_i t a v
    obtain ⟨w', h1, pv, ups, μ', hK, h2⟩ := evStore_sound (hb := hb) (K := fun u => K .undef u) hF hT h (hρ a) (hρ v) hL
    exact ⟨undef, w', .inr ⟨by simp [execOp, h1], rfl⟩, .undef, ups, μ', hK, .undef _, h2.2⟩
  · refine out2_of ?_
    rename_i t parts
    obtain ⟨r, h1, h2⟩ := evBuild_sound (K := fun v => K v []) hF hT h hρ
    exact ⟨r, w, does_value rfl h1, Out.of_pure h2 hL⟩
  · refine out2_of ?_
    rename_i t n parts
    obtain ⟨r, w', h1, h2⟩ := buildSlice_sound hF hT h hρ hL hf
    exact ⟨r, w', does_value rfl h1, h2⟩
  · refine out2_of ?_
    rename_i t l c
    obtain ⟨r, w', h1, h2⟩ := makeSlice_sound hF hT h (hρ l) (hρ c) hL hf
    exact ⟨r, w', does_value rfl h1, h2⟩
  · refine out2_of ?_
    rename_i t x f
    obtain ⟨r, h1, h2⟩ := evField_sound (K := fun v => K v []) hF hT h (hρ x)
    exact ⟨r, w, does_value rfl h1, Out.of_pure h2 hL⟩
  · refine out2_of ?_
    rename_i t x f
    obtain ⟨r, h1, h2⟩ := evFieldAddr_sound (P := P) (K := fun v => K v []) hF h (hρ x)
    exact ⟨r, w, does_value rfl (h1 w), Out.of_pure h2 hL⟩
  · refine out2_of ?_
    rename_i t
    obtain ⟨hfit, hK⟩ := cond_and h
    obtain ⟨r, w', h1, h2⟩ := alloc_sound hF hT hK hfit hL hf
    exact ⟨r, w', does_value rfl h1, h2⟩
  · refine out2_of ?_
    rename_i t x
    obtain ⟨hfit, hK⟩ := cond_and h
    obtain ⟨r, w', h1, h2⟩ := box_sound (P := P) hT hK hfit (hρ x) hL hf
    exact ⟨r, w', does_value rfl h1, h2⟩
  · refine out2_of ?_
    -- nilCheck
    rename_i x
    split at h
    · rename_i h' ty i p hx
      have hr := hρ x
      rw [hx] at hr
      obtain ⟨b, -, hv⟩ := hr.ptr_inv
      refine ⟨_, w, .inl ?_, Out.same h hr hL⟩
      simp [execOp, hv]
    · rename_i ty y p hx
      have hr := hρ x
      rw [hx] at hr
      obtain ⟨b, off, hv, -⟩ := hr.vptr_inv
      refine ⟨_, w, .inl ?_, Out.same h hr hL⟩
      simp [execOp, hv]
    · exact h.elim
  · rename_i t r
    obtain ⟨v, w', h1, h2⟩ := makeMap_sound hF h (repB hρ r) hL hf
    exact out2_of ⟨v, w', does_value rfl h1, h2⟩
  · rename_i t x ix ok
    obtain ⟨r, h1, h2⟩ := lookup_sound (K := fun v => K v []) hF h (hρ x) (hρ ix) hL
    exact out2_of ⟨r, w, does_value rfl h1, Out.of_pure h2 hL⟩
  · rename_i t m k v
    obtain ⟨w', h1, pv, ups, μ', hK, h2⟩ := mapUpdate_sound (hb := hb) (K := fun u => K .undef u) hF h (hρ m) (hρ k) (hρ v) hL
    exact out2_of ⟨undef, w', .inr ⟨by simp [execOp, h1], rfl⟩, .undef, ups, μ', hK, .undef _, h2.2⟩
  · rename_i t x
    obtain ⟨r, w', h1, h2⟩ := range_sound hF h (hρ x) hL hf
    exact ⟨r, w', does_value rfl h1, h2⟩
  · rename_i it s
    obtain ⟨r, w', h1, h2⟩ := next_sound (ty := type) h (hρ it) hL
    exact out2_of ⟨r, w', does_value rfl h1, h2⟩
  · rename_i it
    obtain ⟨r, h1, h2⟩ := entry_sound (P := P) (hb := hb) h (hρ it) hL
    exact out2_of ⟨r, w, does_value rfl h1, h2⟩
  · -- makeFunc
    rename_i g first captured
    obtain ⟨hc, hK⟩ := cond_and h
    have hfe : first = #[] := by simpa using hc
    subst hfe
    refine out2_of ⟨.func (.func g) #[] (captured.map ρ), w, does_value rfl (by simp [Instr.makeFunc]), Out.same hK (.fn g _ _ (by simp) (fun i y u hy hu => ?_)) hL⟩
    rw [List.getElem?_map, Option.map_eq_some_iff] at hy
    obtain ⟨q, hq, rfl⟩ := hy
    have hq' : captured[i]? = some q := by simpa using hq
    rw [Array.getElem?_map, hq', Option.map_some, Option.some.injEq] at hu
    subst hu
    exact hρ q
  · -- delete
    rename_i args argTypes
    split at h
    · rename_i x k t ts hx ht
      have ha : args = #[x, k] := by cases args; simp at hx; rw [hx]
      have hat : argTypes = (t :: ts).toArray := by cases argTypes; simp at ht; rw [ht]
      subst ha; subst hat
      obtain ⟨w', h1, pv, ups, μ', ⟨rfl, hK⟩, h2⟩ := delete_sound (hb := hb) (ts := ts) (ty := type) (K := fun u => K (.tup []) u) hF h (hρ x) (hρ k) hL
      exact out2_of ⟨.tuple #[], w', .inl (by simp [execOp, resolve, invoke, builtin, h1]), .tup [], ups, μ', hK, h2⟩
    · exact h.elim
  · -- copy
    rename_i args argTypes
    split at h
    · rename_i x y t ts hx ht
      have ha : args = #[x, y] := by cases args; simp at hx; rw [hx]
      have hat : argTypes = (t :: ts).toArray := by cases argTypes; simp at ht; rw [ht]
      subst ha; subst hat
      obtain ⟨r, w', h1, h2⟩ := copy_sound (hb := hb) (ts := ts) (ty := type) hF hT h (hρ x) (hρ y) hL
      exact out2_of ⟨r, w', .inl (by simp [execOp, resolve, invoke, builtin, h1]), h2⟩
    · exact h.elim
  · refine out2_of ?_
    -- len
    rename_i args argTypes
    split at h
    · rename_i x t hx ht
      obtain ⟨n, h1, h2⟩ := lenOf_sound (P := P) (K := fun n => K (.int .i64 n) []) hF h (hρ x) hL type
      have ha : args = #[x] := by cases args; simp at hx; rw [hx]
      have hat : argTypes = #[t] := by cases argTypes; simp at ht; rw [ht]
      subst ha; subst hat
      exact ⟨goInt n, w, .inl (by simp [execOp, resolve, invoke, builtin, h1]), Out.same h2 (.int _ _) hL⟩
    · exact h.elim
  · refine out2_of ?_
    -- append
    rename_i args argTypes
    split at h
    · rename_i x y t u hx ht
      have ha : args = #[x, y] := by cases args; simp at hx; rw [hx]
      have hat : argTypes = #[t, u] := by cases argTypes; simp at ht; rw [ht]
      subst ha; subst hat
      have hcase : ((∃ d, P.underlying u = some d ∧ ∀ k, d ≠ .int k) ∧ evAppend T hb L t (ρ' x) (ρ' y) K) ∨ ((∃ k, P.underlying u = some (.int k)) ∧ evAppendZ T hb L t (ρ' x) (ρ' y) K) := by
        split at h
        · rename_i e ek
          obtain ⟨i1, d1, z1, hi⟩ := under_of hF ek (by simp)
          exact .inl ⟨⟨_, hi.kd_slice ek, fun k e => by cases e⟩, h⟩
        · rename_i ek
          obtain ⟨i1, d1, z1, hi⟩ := under_of hF ek (by simp)
          exact .inl ⟨⟨_, hi.kd_str ek, fun k e => by cases e⟩, h⟩
        · rename_i k ek
          obtain ⟨i1, d1, z1, hi⟩ := under_of hF ek (by simp)
          exact .inr ⟨⟨k, hi.kd_int ek⟩, h⟩
        · exact h.elim
      rcases hcase with ⟨hu, h⟩ | ⟨⟨ku, hu⟩, h⟩
      rotate_left
      · unfold evAppendZ at h
        split at h
        · rename_i e k n ek hy
          obtain ⟨hc, h0, hroom, hev⟩ := cond_and h
          simp only [Bool.and_eq_true, Bool.not_eq_true', Nat.blt_eq] at hc
          have hr := hρ y
          rw [hy] at hr
          obtain ⟨new, hfeed⟩ := feed_zeros (w := w) (μ := μ) (ro := ro) (k := k) hF hT ek hu hc.1 hc.2 h0 hroom type
          obtain ⟨r, w', h1, h2⟩ := evAppendTo_sound hT hev (hρ x) hL hf hfeed
          rw [← hr.int_inv] at h1
          exact ⟨r, w', .inl (by simp [execOp, resolve, invoke, builtin, h1]), h2⟩
        · exact h.elim
      unfold evAppend at h
      split at h
      · rename_i e ek
        obtain ⟨hc, h⟩ := cond_and h
        simp only [Bool.and_eq_true, Bool.not_eq_true', Nat.blt_eq] at hc
        have key : ∀ ys, evAppendTo hb L e (T.at e).bytes (ρ' x) ys K → Src P T w μ ro e (ρ y) ys → ∃ r w', Does P ρ ⟨dst, .call { callee := .builtin .append, args := #[x, y], argTypes := #[t, u] }, type, pos, after, guard⟩ w r w' ∧ Out T hb L μ ro w K r w' := by
          intro ys hev hsrc
          obtain ⟨new, hfeed⟩ := feed_src hF hT ek hu hc.1 hc.2 hsrc type
          obtain ⟨r, w', h1, h2⟩ := evAppendTo_sound hT hev (hρ x) hL hf hfeed
          exact ⟨r, w', .inl (by simp [execOp, resolve, invoke, builtin, h1]), h2⟩
        split at h
        · rename_i s hs
          split at h
          · rename_i e8
            have hr := hρ y
            rw [hs] at hr
            exact key _ h (by rw [hr.str_inv]; exact src_of_str hT e8 s)
          · exact h.elim
        · rename_i hs
          obtain ⟨ys, hev, hsh⟩ := showK_sound hT h (hρ y) hL
          exact key ys hev (src_of_shows hT hsh)
      · exact h.elim
    · exact h.elim
  · refine out2_of ?_
    -- min
    rename_i args argTypes
    split at h
    · rename_i x r hx
      have hm : (args.map ρ).toList = args.toList.map ρ := by simp
      cases hv : args.toList with
      | nil => rw [hv] at hx; simp at hx
      | cons a0 as =>
        rw [hv] at hx
        simp only [List.map_cons, List.cons.injEq] at hx
        obtain ⟨rfl, rfl⟩ := hx
        obtain ⟨q, h1, h2⟩ := foldW_min (P := P) (K := fun v => K v []) _ _ _ (as.map ρ) h (hρ a0) (by simp) (rep_map hρ as)
        refine ⟨q, w, .inl ?_, Out.of_pure h2 hL⟩
        simp [execOp, resolve, invoke, builtin, Builtin.min_, hv, h1]
    · exact h.elim
  · refine out2_of ?_
    -- max
    rename_i args argTypes
    split at h
    · rename_i x r hx
      cases hv : args.toList with
      | nil => rw [hv] at hx; simp at hx
      | cons a0 as =>
        rw [hv] at hx
        simp only [List.map_cons, List.cons.injEq] at hx
        obtain ⟨rfl, rfl⟩ := hx
        obtain ⟨q, h1, h2⟩ := foldW_max (P := P) (K := fun v => K v []) _ _ _ (as.map ρ) h (hρ a0) (by simp) (rep_map hρ as)
        refine ⟨q, w, .inl ?_, Out.of_pure h2 hL⟩
        simp [execOp, resolve, invoke, builtin, Builtin.max_, hv, h1]
    · exact h.elim
  · exact h.elim

end
end Pv
