/- The frames seventeenth part: what is handed to a function. -/
import Derived.Test.YthdpkcolbgoecaaFb

namespace Pv
open Go

/-- Blocks that are not written any more, and those that are lent. -/
def roF (μ : Nat → Option Nat) (ro : Nat → Prop) (F : List Nat) : Nat → Prop := fun b => ro b ∨ ∃ h ∈ F, μ h = some b

section
variable {P : Program} {T : Tab} {w : World} {μ : Nat → Option Nat} {ro : Nat → Prop} {L : Heap}

theorem Rep.roF_mono {F G : List Nat} (hFG : ∀ h ∈ F, h ∈ G) {x : PV} {v : Value} (h : Rep T w μ (roF μ ro F) x v) : Rep T w μ (roF μ ro G) x v :=
  h.keep ⟨fun _ _ h => h, fun b hb => hb.imp id (fun ⟨q, hq, e⟩ => ⟨q, hFG q hq, e⟩), fun _ _ => rfl, fun _ c t fr h => ⟨c, fr, h, rfl⟩⟩

theorem Rep.roF {F : List Nat} {x : PV} {v : Value} (h : Rep T w μ ro x v) : Rep T w μ (Pv.roF μ ro F) x v :=
  h.keep ⟨fun _ _ h => h, fun _ hb => .inl hb, fun _ _ => rfl, fun _ c t fr h => ⟨c, fr, h, rfl⟩⟩

/-- What a slice shows, as what it holds. -/
theorem list_of_row (hT : tabSized T = true) {h ty i n : Nat} {l : Bool} {xs : List PV} {v : Value} (hx : Rep T w μ ro (.sl h ty i n) v) (hL : HRel T w μ ro L) (eL : L h = .row l ty xs) (hin : i + n ≤ xs.length) :
    Rep T w μ (roF μ ro [h]) (.list ty (rowPart xs i n)) v := by
  have hs := sl_shows hT hx hL eL hin
  have hlen := rowPart_length hin
  rcases hx.sl_inv with ⟨rfl, a, rfl⟩ | ⟨b, cap, c, t, fr, hmu, hcap, hcells, hsz, rfl⟩
  · rw [List.length_eq_zero_iff.1 hlen]; exact .listE _ _ _
  · obtain ⟨a, cap', e, hc', hne⟩ := hs.val
    by_cases hz : rowPart xs i n = []
    · have : n = 0 := by rw [← hlen, hz]; rfl
      rw [hz, this]; exact .listE _ _ _
    · obtain ⟨b', off, rfl, hm⟩ := hne hz
      simp only [Value.slice.injEq, Option.some.injEq, Addr.mk.injEq] at e
      obtain ⟨⟨rfl, rfl, -⟩, e2, rfl⟩ := e
      have key := Rep.list (T := T) (w := w) (μ := μ) (ro := roF μ ro [h]) ty (rowPart xs i n) b (i * (T.at ty).size) cap (fun k => (w.cell? ⟨b, i * (T.at ty).size + k, none⟩).getD default) (by omega) hs.row (Or.inr ⟨h, by simp, hmu⟩)
      rw [hlen] at key
      refine key (fun k hk => ?_) (fun k pc hk => ?_)
      · obtain ⟨v, hv, -⟩ := hm k _ (List.getElem?_eq_getElem hk)
        rw [hv]; rfl
      · obtain ⟨v, hv, hr⟩ := hm k pc hk
        rw [hv]; exact hr.roF

theorem list_of_shows (hT : tabSized T = true) {h e : Nat} {v : Value} {ys : List PV} (hs : Shows T w μ ro e v ys) (hb : ys ≠ [] → ∃ a n c, v = .slice (some a) n c ∧ μ h = some a.block) : Rep T w μ (roF μ ro [h]) (.list e ys) v := by
  obtain ⟨a, cap, rfl, hcap, hne⟩ := hs.val
  by_cases hz : ys = []
  · subst hz; exact .listE _ _ _
  · obtain ⟨b, off, rfl, hm⟩ := hne hz
    obtain ⟨a', n, c, e1, hmu⟩ := hb hz
    cases e1
    refine .list e _ b off cap (fun k => (w.cell? ⟨b, off + k, none⟩).getD default) hcap hs.row (show roF μ ro [h] _ from Or.inr ⟨h, by simp, hmu⟩) (fun k hk => ?_) (fun k pc hk => ?_)
    · obtain ⟨v, hv, -⟩ := hm k _ (List.getElem?_eq_getElem hk)
      rw [hv]; rfl
    · obtain ⟨v, hv, hr⟩ := hm k pc hk
      rw [hv]; exact hr.roF

/-- What a value is as that which is handed over. -/
structure Pur (T : Tab) (w : World) (μ : Nat → Option Nat) (ro : Nat → Prop) (L : Heap) (F : List Nat) (cs ds : List PV) : Prop where
  len : ds.length = cs.length
  cell : ∀ (k : Nat) d, ds[k]? = some d → ∃ c, cs[k]? = some c ∧ (cellC c = true → cellC d = true) ∧ ∀ v, Rep T w μ ro c v → Rep T w μ (roF μ ro F) d v

theorem Pur.append {F G : List Nat} {cs ds cs' ds' : List PV} (h : Pur T w μ ro L F cs ds) (h' : Pur T w μ ro L G cs' ds') : Pur T w μ ro L (F ++ G) (cs ++ cs') (ds ++ ds') := by
  refine ⟨by simp [h.len, h'.len], fun k d hk => ?_⟩
  by_cases hlt : k < ds.length
  · rw [List.getElem?_append_left hlt] at hk
    obtain ⟨c, h1, h2, h3⟩ := h.cell k d hk
    exact ⟨c, by rw [List.getElem?_append_left (by rw [← h.len]; exact hlt)]; exact h1, h2, fun v hv => (h3 v hv).roF_mono (fun q hq => by simp [hq])⟩
  · rw [List.getElem?_append_right (by omega)] at hk
    obtain ⟨c, h1, h2, h3⟩ := h'.cell _ d hk
    exact ⟨c, by rw [List.getElem?_append_right (by rw [← h.len]; omega), ← h.len]; exact h1, h2, fun v hv => (h3 v hv).roF_mono (fun q hq => by simp [hq])⟩

theorem Pur.one {F : List Nat} {x y : PV} (hc : cellC x = true → cellC y = true) (h : ∀ v, Rep T w μ ro x v → Rep T w μ (roF μ ro F) y v) : Pur T w μ ro L F [x] [y] :=
  ⟨rfl, fun k d hk => by
    have : k = 0 := by have := (List.getElem?_eq_some_iff.1 hk).1; simp at this; omega
    subst this
    simp at hk; subst hk
    exact ⟨x, rfl, hc, h⟩⟩

theorem Pur.same {F : List Nat} (cs : List PV) : Pur T w μ ro L F cs cs := ⟨rfl, fun _ d hk => ⟨d, hk, id, fun _ h => h.roF⟩⟩

/-- A block that is lent: a row or a variable. -/
def lendable : Blk → Prop
  | .row _ _ _ | .box _ _ _ | .map _ _ _ _ => True
  | _ => False

mutual
theorem purK_sound (hT : tabSized T = true) (hL : HRel T w μ ro L) : ∀ (x : PV) (K : PV → List Nat → Prop), purK T L x K → Shp x →
    ∃ y F, K y F ∧ Shp y ∧ isAggV y = isAggV x ∧ Pur T w μ ro L F (flat x) (flat y) ∧ ∀ h ∈ F, lendable (L h)
  | .sl h ty i n, K, hp, _ => by
    simp only [purK] at hp
    split at hp
    · rename_i l ty' xs eL
      obtain ⟨hc, hin, hK⟩ := cond_and hp
      simp only [Nat.beq_eq] at hc; subst hc
      exact ⟨_, _, hK, trivial, rfl, Pur.one (fun _ => rfl) (fun v hv => list_of_row hT hv hL eL hin), fun q hq => by simp at hq; subst hq; rw [eL]; trivial⟩
    · exact hp.elim
  | .sla h ty i p e j n, K, hp, _ => by
    simp only [purK] at hp
    -- whatever the value is, what it shows is told
    have key : ∃ ys, K (.list e ys) [h] ∧ lendable (L h) ∧ ∀ v, Rep T w μ ro (.sla h ty i p e j n) v → Rep T w μ (roF μ ro [h]) (.list e ys) v := by
      have hp0 := hp
      unfold showK at hp
      simp only at hp
      split at hp
      · rename_i l ty' x eL
        obtain ⟨hc, hs⟩ := cond_and hp
        simp only [Bool.and_eq_true, Nat.beq_eq, Bool.not_eq_true'] at hc
        have hb := hL.blk h
        rw [eL] at hb
        obtain ⟨hsx, hfx, -⟩ := hb
        -- the array there
        have harr : ∃ ys, K (.list e ys) [h] ∧ ∀ (K' : List PV → Prop), K' ys → showK T e L (.sla h ty i p e j n) K' := by
          obtain ⟨t, ht⟩ := sub_ty p ty' x _ hfx hsx hs
          have gen : ∀ (p : List Nat) (x : PV) (A : List PV → Prop), (subK x p fun y => match y with | .arr _ cs => rowK cs j n A | _ => False) →
              ∃ ys, A ys ∧ ∀ (B : List PV → Prop), B ys → subK x p fun y => match y with | .arr _ cs => rowK cs j n B | _ => False := by
            intro p
            induction p with
            | nil =>
              intro x A hA
              simp only [subK] at hA
              split at hA
              · rename_i m cs
                exact ⟨_, hA.2, fun B hB => ⟨hA.1, hB⟩⟩
              · exact hA.elim
            | cons q p ih =>
              intro x A hA
              simp only [subK, fieldK] at hA
              split at hA
              · obtain ⟨z, hz, hz2⟩ := elemAt_some hA
                obtain ⟨ys, h1, h2⟩ := ih z A hz2
                refine ⟨ys, h1, fun B hB => ?_⟩
                simp only [subK, fieldK, elemAt, hz]
                exact h2 B hB
              · obtain ⟨z, hz, hz2⟩ := elemAt_some hA
                obtain ⟨ys, h1, h2⟩ := ih z A hz2
                refine ⟨ys, h1, fun B hB => ?_⟩
                simp only [subK, fieldK, elemAt, hz]
                exact h2 B hB
              · exact hA.elim
          obtain ⟨ys, h1, h2⟩ := gen p x _ hs
          refine ⟨ys, h1, fun K' hK' => ?_⟩
          unfold showK
          simp only [eL]
          have : (Nat.beq ty' ty && Nat.beq e e && Nat.beq i 0 && !(T.at e).kd.isAgg && !(T.at e).kd.isOther) = true := by
            simp only [Bool.and_eq_true, Nat.beq_eq, Bool.not_eq_true']; exact hc
          rw [this]
          exact h2 K' hK'
        obtain ⟨ys, h1, h2⟩ := harr
        refine ⟨ys, h1, by rw [eL]; trivial, fun v hv => ?_⟩
        obtain ⟨zs, hz, hsh⟩ := showK_sound hT (h2 (fun zs => zs = ys) rfl) hv hL
        subst hz
        refine list_of_shows hT hsh (fun hne => ?_)
        rcases hv.sla_inv with ⟨rfl, a, rfl⟩ | ⟨b, cap, hmu, hcap, rfl⟩
        · obtain ⟨a', cap', e', -⟩ := hsh.val
          simp only [Value.slice.injEq] at e'
          exact absurd (List.length_eq_zero_iff.1 e'.2.1.symm) hne
        · exact ⟨_, _, _, rfl, hmu⟩
      · exact hp.elim
    obtain ⟨ys, h1, hle, h2⟩ := key
    exact ⟨_, _, h1, trivial, rfl, Pur.one (fun _ => rfl) h2, fun q hq => by simp at hq; subst hq; exact hle⟩
  | .agg fs, K, hp, hs => by
    simp only [purK] at hp
    obtain ⟨gs, F, hK, hsg, hpur, hle⟩ := pursK_sound hT hL fs _ hp hs
    exact ⟨.agg gs, F, hK, hsg, rfl, by rw [flat, flat]; exact hpur, hle⟩
  | .mapr h, K, hp, _ => by
    simp only [purK] at hp
    split at hp
    · rename_i l kt et en eL
      refine ⟨_, _, hp, trivial, rfl, Pur.one (fun _ => rfl) (fun v hv => ?_), fun q hq => by simp at hq; subst hq; rw [eL]; trivial⟩
      have hb := hL.blk h
      rw [eL] at hb
      obtain ⟨b, rfl, hm⟩ := hv.mapr_inv
      obtain ⟨h1, b', e', _, es, clock, h3, h4, h5, h6⟩ := hb
      rw [hm] at e'; cases e'
      exact .dmap kt et en b es clock (.inr ⟨h, by simp, hm⟩) h3 h4 h1 (fun i k v e hx he => (h6 i k v e hx he).1.roF) (fun i k v e hx he => (h6 i k v e hx he).2.roF) h5
    · exact hp.elim
  | .nilsl, K, hp, hs | .undef, K, hp, hs | .bool _, K, hp, hs | .int _ _, K, hp, hs | .str _, K, hp, hs | .arr _ _, K, hp, hs | .tup _, K, hp, hs | .list _ _, K, hp, hs | .ptr _ _ _ _, K, hp, hs | .vptr _ _ _, K, hp, hs | .nilp, K, hp, hs | .dmap _ _ _, K, hp, hs
  | .nilm, K, hp, hs | .fn _ _, K, hp, hs | .nilf, K, hp, hs => ⟨_, [], hp, hs, rfl, Pur.same _, fun _ h => by simp at h⟩
theorem pursK_sound (hT : tabSized T = true) (hL : HRel T w μ ro L) : ∀ (l : List PV) (K : List PV → List Nat → Prop), pursK T L l K → Shps l →
    ∃ ys F, K ys F ∧ Shps ys ∧ Pur T w μ ro L F (flats l) (flats ys) ∧ ∀ h ∈ F, lendable (L h)
  | [], K, hp, _ => ⟨[], [], hp, trivial, Pur.same _, fun _ h => by simp at h⟩
  | x :: r, K, hp, hs => by
    simp only [pursK] at hp
    obtain ⟨y, F, h1, h2, -, h4, h8⟩ := purK_sound hT hL x _ hp hs.1
    obtain ⟨ys, G, h5, h6, h7, h9⟩ := pursK_sound hT hL r _ h1 hs.2
    exact ⟨y :: ys, F ++ G, h5, ⟨h2, h6⟩, by rw [flats, flats]; exact h4.append h7, fun q hq => (List.mem_append.1 hq).elim (h8 q) (h9 q)⟩
end

theorem purK_rep (hT : tabSized T = true) (hL : HRel T w μ ro L) {x : PV} {v : Value} {K : PV → List Nat → Prop} (h : purK T L x K) (hx : Rep T w μ ro x v) : ∃ y F, K y F ∧ (∀ h ∈ F, lendable (L h)) ∧ Rep T w μ (roF μ ro F) y v := by
  obtain ⟨y, F, hK, hs, ha, hp, hle⟩ := purK_sound hT hL x K h (shp_of_rep hx)
  refine ⟨y, F, hK, hle, ?_⟩
  cases hax : isAggV x with
  | true =>
    obtain ⟨vs, rfl, -, h3, h4, h5⟩ := hx.agg_inv hax
    refine .agg y vs (by rw [ha, hax]) hs (by rw [hp.len, h3]) (fun i c v hc hv => ?_) (fun c hc => ?_)
    · obtain ⟨c0, e1, -, e3⟩ := hp.cell i c hc
      exact e3 v (h4 i c0 v e1 hv)
    · obtain ⟨i, hi, rfl⟩ := List.getElem_of_mem hc
      obtain ⟨c0, e1, e2, -⟩ := hp.cell i _ (List.getElem?_eq_getElem hi)
      exact e2 (h5 c0 (List.mem_of_getElem? e1))
  | false =>
    have hay : isAggV y = false := by rw [ha, hax]
    rw [flat_scalar hax, flat_scalar hay] at hp
    obtain ⟨c, e1, -, e3⟩ := hp.cell 0 y rfl
    simp at e1; subst e1
    exact e3 v hx

theorem argsK_sound (hT : tabSized T = true) (hL : HRel T w μ ro L) {ref : Nat → Bool} : ∀ (xs : List PV) (i : Nat) (vs : List Value) (K : List PV → List Nat → Prop), argsK T L ref i xs K → xs.length = vs.length → (∀ (k : Nat) x v, xs[k]? = some x → vs[k]? = some v → Rep T w μ ro x v) →
    ∃ ys F, K ys F ∧ (∀ h ∈ F, lendable (L h)) ∧ ys.length = vs.length ∧ ∀ (k : Nat) y v, ys[k]? = some y → vs[k]? = some v → Rep T w μ (roF μ ro F) y v
  | [], _, [], K, h, _, _ => ⟨[], [], h, fun _ h => by simp at h, rfl, fun k y v hy => by simp at hy⟩
  | [], _, _ :: _, _, _, hl, _ => by simp at hl
  | _ :: _, _, [], _, _, hl, _ => by simp at hl
  | x :: r, i, v :: vs, K, h, hl, hr => by
    have hx := hr 0 x v rfl rfl
    simp only [argsK] at h
    cases hc : ref i with
    | true =>
      rw [hc] at h
      obtain ⟨ys, F, h1, h9, h2, h3⟩ := argsK_sound hT hL r (i + 1) vs _ h (by simpa using hl) (fun k y u h1 h2 => hr (k + 1) y u (by simpa using h1) (by simpa using h2))
      refine ⟨x :: ys, F, h1, h9, by simp [h2], fun k y u hy hu => ?_⟩
      cases k with
      | zero => simp at hy hu; subst hy; subst hu; exact hx.roF
      | succ k => exact h3 k y u (by simpa using hy) (by simpa using hu)
    | false =>
      rw [hc] at h
      obtain ⟨y, F, h1, h8, h2⟩ := purK_rep hT hL h hx
      obtain ⟨ys, G, h3, h9, h4, h5⟩ := argsK_sound hT hL r (i + 1) vs _ h1 (by simpa using hl) (fun k y u h1 h2 => hr (k + 1) y u (by simpa using h1) (by simpa using h2))
      refine ⟨y :: ys, F ++ G, h3, fun q hq => (List.mem_append.1 hq).elim (h8 q) (h9 q), by simp [h4], fun k z u hz hu => ?_⟩
      cases k with
      | zero => simp at hz hu; subst hz; subst hu; exact h2.roF_mono (fun q hq => by simp [hq])
      | succ k => exact (h5 k z u (by simpa using hz) (by simpa using hu)).roF_mono (fun q hq => by simp [hq])

end
end Pv
