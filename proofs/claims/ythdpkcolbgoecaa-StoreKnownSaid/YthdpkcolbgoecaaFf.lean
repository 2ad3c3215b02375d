/- The frames twentieth part: a regions operations, one by one; what lives on behind it. -/
import Derived.Test.YthdpkcolbgoecaaFe
import Derived.TacticsIn
import Derived.RangeFuncNested
import Derived.RangeFuncLeaves

namespace Pv
open Go

/-- Marks among the calls that are put off: what ranges over functions leave behind. -/
def Marks (w0 w : World) (ro : Nat → Prop) (ds : List Deferred) : Prop :=
  ∃ Ds : List Nat, ds = Ds.map (fun D => ({ target := .collected D, args := #[] } : Deferred)) ∧ Ds.Nodup ∧ ∀ D ∈ Ds, w.heap[D]? = some (.deferred (some [])) ∧ w0.heap.size ≤ D ∧ ¬ ro D

theorem Marks.nil (w0 w : World) (ro : Nat → Prop) : Marks w0 w ro [] := ⟨[], rfl, List.nodup_nil, fun D h => by simp at h⟩

/-- What is no row of cells, no map and no walk is no block of the frames. -/
theorem not_live {T : Tab} {w : World} {μ : Nat → Option Nat} {ro : Nat → Prop} {L : Heap} (hL : HRel T w μ ro L) {h b : Nat} {o : Obj} (hl : (L h).live = true) (hm : μ h = some b) (ho : w.heap[b]? = some o)
    (h1 : ∀ c t fr, o ≠ .cells c t fr) (h2 : ∀ es c, o ≠ .map es c) (h3 : ∀ m s n c, o ≠ .mapIter m s n c) : False := by
  have hb := hL.blk h
  rw [hm] at hb
  cases e : L h with
  | gone => rw [e] at hl; cases hl
  | row l ty xs => rw [e] at hb; obtain ⟨_, _, hb⟩ := hb; obtain ⟨_, c, t, lo, hi, hc, _⟩ := hb b rfl; rw [ho] at hc; cases hc; exact h1 _ _ _ rfl
  | box l ty x => rw [e] at hb; obtain ⟨_, _, _, b', e', _, c, t, lo, hi, hc, _⟩ := hb; cases e'; rw [ho] at hc; cases hc; exact h1 _ _ _ rfl
  | map l kt et en => rw [e] at hb; obtain ⟨_, b', e', _, es, c, hc, _⟩ := hb; cases e'; rw [ho] at hc; cases hc; exact h2 _ _ rfl
  | iter l kt et rest cur => rw [e] at hb; obtain ⟨_, b', e', _, m, s, n, c, hc, _⟩ := hb; cases e'; rw [ho] at hc; cases hc; exact h3 _ _ _ _ rfl

theorem Marks.step {T : Tab} {w0 w w' : World} {μ : Nat → Option Nat} {ro ro' : Nat → Prop} {L : Heap} {ds : List Deferred} (h : Marks w0 w ro ds) (hL : HRel T w μ ro L) (hc : Chg μ L w w')
    (hr : ∀ b, ro' b → ro b ∨ w.heap.size ≤ b ∨ ∃ h, (L h).live = true ∧ μ h = some b) : Marks w0 w' ro' ds := by
  obtain ⟨Ds, h1, h2, h3⟩ := h
  refine ⟨Ds, h1, h2, fun D hD => ?_⟩
  obtain ⟨h4, h5, h6⟩ := h3 D hD
  have hlt : D < w.heap.size := (Array.getElem?_eq_some_iff.1 h4).1
  have hnl : ∀ h, (L h).live = true → μ h ≠ some D := fun q hq hm => not_live hL hq hm h4 (by simp) (by simp) (by simp)
  refine ⟨(hc.same D hlt hnl).trans h4, h5, fun hro => ?_⟩
  rcases hr D hro with h | h | ⟨q, hq, hm⟩
  · exact h6 h
  · omega
  · exact hnl q hq hm

/-- How the frames state stands for the machines, where the operations of the places D of a region are done. -/
structure SR (C : Ctx) (w0 : World) (μ0 : Nat → Option Nat) (ro0 : Nat → Prop) (L0 : Heap) (D : Nat → Prop) (s : St) (a : Act) (w : World) (μ : Nat → Option Nat) (ro : Nat → Prop) : Prop where
  defers : Marks w0 w ro a.defers
  len : s.t.length = a.tmps.size
  tmps : ∀ (i : Nat) x v, s.t[i]? = some x → a.tmps[i]? = some v → Rep C.T w μ ro x v
  heap : HRel C.T w μ ro s.L
  fresh : ∀ h, s.nx ≤ h → ¬ D ((h - s.nx) / 8) → s.L h = .gone ∧ μ h = none
  glob : GRel C.T C.Γ w μ ro
  since : Since w0 μ0 ro0 L0 C.p w μ ro s.L
  pn : C.p ≤ s.nx

theorem ofValue_rep {T : Tab} {w : World} {μ : Nat → Option Nat} {ro : Nat → Prop} (v : Value) : Rep T w μ ro (ofValue v) v := by
  unfold ofValue
  split
  · exact .bool _
  · exact .int _ _
  · exact .str _
  · exact .nilsl
  · exact .nilp
  · exact .nilm
  · exact .nilf
  · exact .undef _

theorem evCalled {o : Op} {f : Operand} {args : List Operand} (h : calleeOf o = some (f, args)) : ∃ c : Call, o = .call c ∧ c.callee = .value f ∧ c.args.toList = args := by
  unfold calleeOf at h
  split at h
  · rename_i c
    cases h; exact ⟨_, rfl, rfl, rfl⟩
  · cases h

section
variable {P : Program} {C : Ctx} {w0 : World} {μ0 : Nat → Option Nat} {ro0 : Nat → Prop} {L0 : Heap} {r : Option Nat} {n : Nat}

theorem SR.eval {D : Nat → Prop} {s : St} {a : Act} {w : World} {μ : Nat → Option Nat} {ro : Nat → Prop} (h : SR C w0 μ0 ro0 L0 D s a w μ ro) (x : Operand) : Rep C.T w μ ro (s.t |> fun t => St.ev C.Γ t x) (a.eval x) := by
  cases x with
  | tmp i =>
    simp only [St.ev, Act.eval]
    rcases Nat.lt_or_ge i s.t.length with hi | hi
    · have hi2 : i < a.tmps.size := by rw [← h.len]; exact hi
      exact h.tmps i (s.t.getD i .undef) (a.tmps.getD i undef) (by simp [List.getD, hi]) (by simp [hi2])
    · simp only [List.getD, List.getElem?_eq_none hi, Option.getD_none]
      exact .undef _
  | const v => exact ofValue_rep v
  | func f => exact .fn f [] #[] rfl (fun i x v hx _ => by simp at hx)
  | global g =>
    simp only [St.ev, Act.eval]
    split
    · rename_i ty x e
      exact h.glob g ty x e
    · exact .undef _

theorem SR.mono {D D' : Nat → Prop} {s : St} {a : Act} {w : World} {μ : Nat → Option Nat} {ro : Nat → Prop} (h : SR C w0 μ0 ro0 L0 D s a w μ ro) (hD : ∀ i, D i → D' i) : SR C w0 μ0 ro0 L0 D' s a w μ ro :=
  ⟨h.defers, h.len, h.tmps, h.heap, fun q h1 h2 => h.fresh q h1 (fun h3 => h2 (hD _ h3)), h.glob, h.since, h.pn⟩

theorem SR.put {D : Nat → Prop} {j : Nat} {s : St} {a : Act} {w w' : World} {μ μ' : Nat → Option Nat} {ro ro' : Nat → Prop} (h : SR C w0 μ0 ro0 L0 D s a w μ ro) {d : Option Nat} {pv : PV} {v : Value} {ups : Ups} (hr : Rep C.T w' μ' ro' pv v) (hL : HRel C.T w' μ' ro' (upds s.L ups))
    (hk : Keeps μ μ' ro ro' w w') (hc : Chg μ s.L w w') (hm : ∀ h, (h < s.nx + 8 * j ∨ s.nx + 8 * j + 8 ≤ h) → μ' h = μ h) (hg : ∀ h, (h < s.nx + 8 * j ∨ s.nx + 8 * j + 8 ≤ h) → s.L h = .gone → upds s.L ups h = .gone) (ho : Own μ μ' s.L (upds s.L ups) w)
    (hro : ∀ b, ro' b → ro b ∨ w.heap.size ≤ b ∨ ∃ h, (s.L h).live = true ∧ μ h = some b) : SR C w0 μ0 ro0 L0 (fun i => D i ∨ i = j) ⟨putD s.t d pv, upds s.L ups, s.nx⟩ (a.put d v) w' μ' ro' := by
  refine ⟨?_, ?_, fun i x v' hx hv => ?_, hL, fun q hq hD => ?_, h.glob.keep hk, h.since.step hk hc ho hro (fun q hq => hm q (.inl ?_)), h.pn⟩
  · cases d <;> exact h.defers.step h.heap hc hro
  · cases d with
    | none => exact h.len
    | some d => simp [putD, Act.put, h.len]
  · cases d with
    | none => exact (h.tmps i x v' hx hv).keep hk
    | some d =>
      simp only [putD, Act.put, List.getElem?_set, Array.getElem?_setIfInBounds] at hx hv
      by_cases e : d = i
      · subst e
        simp only [if_true] at hx hv
        split at hx
        · cases hx
          split at hv
          · cases hv; exact hr
          · cases hv
        · cases hx
      · rw [if_neg e] at hx hv
        exact (h.tmps i x v' hx hv).keep hk
  · have h4 : (q - s.nx) / 8 ≠ j := fun e => hD (.inr e)
    have h5 : q < s.nx + 8 * j ∨ s.nx + 8 * j + 8 ≤ q := by
      simp only at hq
      omega
    obtain ⟨h2, h3⟩ := h.fresh q hq (fun e => hD (.inl e))
    exact ⟨hg q h5 h2, (hm q h5).trans h3⟩
  · have := h.pn; omega

/-- What an iterator may turn. -/
structure PrivChg (priv : Nat → Prop) (A B : World) : Prop where
  os : B.os = A.os
  tape : B.tape = A.tape
  output : B.output = A.output
  size : A.heap.size ≤ B.heap.size
  same : ∀ b, b < A.heap.size → ¬ priv b → B.heap[b]? = A.heap[b]?
  shape : ∀ (b : Nat) c t fr, A.heap[b]? = some (.cells c t fr) → ∃ c' fr', B.heap[b]? = some (.cells c' t fr') ∧ c'.size = c.size

/-- What an iterator does that goes through a list, of these values: fix: blocks that nobody writes; priv: blocks that it alone writes. -/
def SeqRuns (P : Program) (g : FuncId) (vs : Array Value) (fix priv : Nat → Prop) (w : World) (encs : List (Array Value)) : Prop :=
  ∀ (n l : Nat) (J Jx : Nat → World → Prop) (W : World), (∀ b, fix b ∨ priv b → W.heap[b]? = w.heap[b]?) → w.heap.size ≤ W.heap.size →
    (∀ i A B, J i A → PrivChg priv A B → J i B) → (∀ i A B, Jx i A → PrivChg priv A B → Jx i B) →
    (∀ i x A, encs[i]? = some x → J i A → (∀ b, fix b → A.heap[b]? = w.heap[b]?) → YieldAt (Fw none) (n - 1) P l x A fun e B =>
      (e = .returned (.bool true) ∧ J (i + 1) B ∧ (∀ b, fix b ∨ priv b → B.heap[b]? = A.heap[b]?) ∧ A.heap.size ≤ B.heap.size) ∨ (e = .returned (.bool false) ∧ Jx (i + 1) B)) →
    J 0 W → CallsIn (Fw none) n P g (#[.func (.yield l) #[] #[]] ++ vs) W fun e B => (∃ v, e = .returned v) ∧ (J encs.length B ∨ ∃ i, i ≤ encs.length ∧ Jx i B)

/-- An iterator keeps its contract. -/
def ItSound (P : Program) (T : Tab) (Γ : Globs) (g : FuncId) (φ : ItSem) : Prop :=
  ∀ bs caps K, φ bs caps K → ∀ (w : World) (μ : Nat → Option Nat) (ro : Nat → Prop) (vs : Array Value), caps.length = vs.size → (∀ (i : Nat) x v, caps[i]? = some x → vs[i]? = some v → Rep T w μ ro x v) →
    HRel T w μ ro (hp bs) → GRel T Γ w μ ro →
    ∃ (xs : List (List PV)) (encs : List (Array Value)), K xs ∧ xs.length = encs.length ∧
      (∀ (i : Nat) x v, xs[i]? = some x → encs[i]? = some v → x.length = v.size ∧ (∀ y ∈ x, pureV y) ∧ ∀ (j : Nat) y u, x[j]? = some y → v[j]? = some u → Rep T w μ ro y u) ∧
      SeqRuns P g vs ro (fun b => ∃ h, (hp bs h).live = true ∧ μ h = some b) w encs

/-- What the frame stands on: a program, its types, its contracts. -/
structure Base (P : Program) (C : Ctx) : Prop where
  fitsT : tabFits P C.T 0 C.T = true
  sized : tabSized C.T = true
  eq : EqSound P C.T
  sound : ∀ f φ, C.Φ f = some φ → Sound P C.T C.Γ f φ
  enters : ∀ f φ, C.Φ f = some φ → Enters P f
  mixed : C.mixed = true → P.follows .mixedOrders = true
  it : ∀ g φ, C.It g = some φ → ItSound P C.T C.Γ g φ ∧ Enters P g

/-- An operation that is wanted. -/
theorem evRun_sound (hB : Base P C) {D : Nat → Prop} {j : Nat} (hD : ¬ D j) {s : St} {a : Act} {w : World} {μ : Nat → Option Nat} {ro : Nat → Prop} (h : SR C w0 μ0 ro0 L0 D s a w μ ro) {o : Oper} {K : St → Prop} {next : Act → World → Prop} {Q : Exit → Act → World → Prop}
    (hev : evRun C (s.nx + 8 * j) s.t s.L o.op fun v u => K ⟨putD s.t o.dst v, upds s.L u, s.nx⟩)
    (hn : ∀ s' a' w' μ' ro', K s' → SR C w0 μ0 ro0 L0 (fun i => D i ∨ i = j) s' a' w' μ' ro' → next a' w') : o.wpIn (Fw r) n P a w next Q := by
  refine ⟨fun _ _ => trivial, ?_⟩
  have hfr : Fresh (s.nx + 8 * j) μ s.L := fun q h1 h2 => by
    have e : (q - s.nx) / 8 = j := by omega
    exact h.fresh q (by omega) (by rw [e]; exact hD)
  have hdef : ∀ c, o.op ≠ .defer c := by
    intro c e
    rw [e] at hev
    exact hev
  rw [Oper.semAt_eq (Fw r).round a.eval o hdef]
  unfold evRun at hev
  split at hev
  · rename_i f args hcal
    obtain ⟨c, e1, e2, e3⟩ := evCalled hcal
    split at hev
    · rename_i g caps hg
      have hgr := h.eval f
      simp only at hgr
      rw [hg] at hgr
      obtain ⟨vs, hfv, hcl, hcr⟩ := hgr.fn_inv
      have hΦ : ∃ φ, C.Φ g = some φ := by
        unfold evCall at hev
        split at hev
        · exact hev.elim
        · exact ⟨_, by assumption⟩
      obtain ⟨φ, hφ⟩ := hΦ
      have hrun : (execOp a.eval o).run P w = .ok (.enter g (c.args.map a.eval ++ vs)) w := by
        have h1 : (callFunc g (c.args.map a.eval ++ vs)).run P w = .ok (.enter g (c.args.map a.eval ++ vs)) w := hB.enters g φ hφ _ _
        simp only [execOp, e1, resolve, e2, hfv, Deferred.ofValue, invoke, Sem.run_bind, Sem.run_pure, Result.andThen, Array.empty_append]
        simpa using h1
      rw [hrun]
      have hlen : (args.map (St.ev C.Γ s.t) ++ caps).length = (c.args.map a.eval ++ vs).size := by
        simp [← e3, hcl]
      have hreps : ∀ (i : Nat) x v, (args.map (St.ev C.Γ s.t) ++ caps)[i]? = some x → (c.args.map a.eval ++ vs)[i]? = some v → Rep C.T w μ ro x v := by
        intro i x v hx hv
        rw [← e3] at hx
        have hsz : (c.args.toList.map (St.ev C.Γ s.t)).length = (c.args.map a.eval).size := by simp
        rcases Nat.lt_or_ge i (c.args.map a.eval).size with hi | hi
        · rw [List.getElem?_append_left (by omega)] at hx
          rw [Array.getElem?_append_left hi] at hv
          simp only [List.getElem?_map, Array.getElem?_map, Option.map_eq_some_iff, Array.getElem?_toList] at hx hv
          obtain ⟨y, hy, rfl⟩ := hx
          obtain ⟨z, hz, rfl⟩ := hv
          rw [hy] at hz; cases hz
          exact h.eval y
        · rw [List.getElem?_append_right (by omega)] at hx
          rw [Array.getElem?_append_right hi] at hv
          rw [hsz] at hx
          exact hcr _ x v hx hv
      have hcall := evCall_sound hB.sized hB.sound hev hlen hreps h.heap hfr h.glob
      refine ⟨fun hd => by simp [Fw, Fence.wide] at hd, ?_⟩
      have hcall2 : CallsIn (Fw r) (n - 1) P g (c.args.map a.eval ++ vs) w fun e w' => ∃ v, e = .returned v ∧ Out2 C.T (s.nx + 8 * j) s.L μ ro w (fun v u => K ⟨putD s.t o.dst v, upds s.L u, s.nx⟩) v w' := by
        have h1 := (callsIn_wide (n := n - 1)).2 hcall
        refine ⟨trivial, fun cs hroom => ?_⟩
        obtain ⟨e, w', fr, r1, st, rest⟩ := h1.2 cs (room_wide _)
        exact ⟨e, w', fr, r1, st, rest⟩
      refine hcall2.mono ?_
      rintro e w' ⟨v, rfl, pv, ups, μ', ro', hK, h1, h2, h3, h4, h5, h6, h7, h8⟩
      exact hn _ _ w' μ' ro' hK (h.put h1 h2 h3 h4 h5 h6 h7 h8)
    · exact hev.elim
  · obtain ⟨v, w', hd, pv, ups, μ', ro', hK, h1, h2, h3, h4, h5, h6, h7, h8⟩ := evOp_sound (P := P) hB.fitsT hB.sized hB.eq (o := o) hev (fun x => h.eval x) h.heap hfr
    have hgo := hn _ (a.put o.dst v) w' μ' ro' hK (h.put h1 h2 h3 h4 h5 h6 h7 h8)
    rcases hd with hd | ⟨hd, rfl⟩
    · rw [hd]; exact hgo
    · rw [hd]; exact hgo

end
end Pv
