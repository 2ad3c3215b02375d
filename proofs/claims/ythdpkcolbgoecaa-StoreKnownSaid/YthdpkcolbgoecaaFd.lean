/- The frames eighteenth part: contracts of functions; calls. -/
import Derived.Test.YthdpkcolbgoecaaFc

namespace Pv
open Go

/-- How a place of the run stands to the functions beginning. -/
structure Since (w0 : World) (μ0 : Nat → Option Nat) (ro0 : Nat → Prop) (L0 : Heap) (p : Nat) (w : World) (μ : Nat → Option Nat) (ro : Nat → Prop) (L : Heap) : Prop where
  os : w.os = w0.os
  tape : w.tape = w0.tape
  output : w.output = w0.output
  size : w0.heap.size ≤ w.heap.size
  same : ∀ b, b < w0.heap.size → (∀ h, (L0 h).live = true → μ0 h ≠ some b) → w.heap[b]? = w0.heap[b]?
  shape : ∀ (b : Nat) c t fr, w0.heap[b]? = some (.cells c t fr) → ∃ c' fr', w.heap[b]? = some (.cells c' t fr') ∧ c'.size = c.size
  ro_mono : ∀ b, ro0 b → ro b
  ro_grow : ∀ b, ro b → ro0 b ∨ w0.heap.size ≤ b ∨ ∃ h, (L0 h).live = true ∧ μ0 h = some b
  own : ∀ h b, (L h).live = true → μ h = some b → (∃ h1, (L0 h1).live = true ∧ μ0 h1 = some b) ∨ w0.heap.size ≤ b
  mup : ∀ h, h < p → μ h = μ0 h

theorem Since.refl (w : World) (μ : Nat → Option Nat) (ro : Nat → Prop) (L : Heap) (p : Nat) : Since w μ ro L p w μ ro L :=
  ⟨rfl, rfl, rfl, Nat.le_refl _, fun _ _ _ => rfl, fun _ c t fr h => ⟨c, fr, h, rfl⟩, fun _ h => h, fun _ h => .inl h, fun h b hl hm => .inl ⟨h, hl, hm⟩, fun _ _ => rfl⟩

/-- A step behind it. -/
theorem Since.step {w0 : World} {μ0 : Nat → Option Nat} {ro0 : Nat → Prop} {L0 : Heap} {p : Nat} {w w' : World} {μ μ' : Nat → Option Nat} {ro ro' : Nat → Prop} {L L' : Heap} (hs : Since w0 μ0 ro0 L0 p w μ ro L)
    (hk : Keeps μ μ' ro ro' w w') (hc : Chg μ L w w') (ho : Own μ μ' L L' w) (hr : ∀ b, ro' b → ro b ∨ w.heap.size ≤ b ∨ ∃ h, (L h).live = true ∧ μ h = some b) (hm : ∀ h, h < p → μ' h = μ h) : Since w0 μ0 ro0 L0 p w' μ' ro' L' := by
  refine ⟨hc.os.trans hs.os, hc.tape.trans hs.tape, hc.output.trans hs.output, Nat.le_trans hs.size hc.size, fun b hb hn => ?_, fun b c t fr h => ?_, fun b h => hk.ro_mono b (hs.ro_mono b h), fun b h => ?_, fun h b hl hmu => ?_, fun h hp => (hm h hp).trans (hs.mup h hp)⟩
  · rw [hc.same b (Nat.lt_of_lt_of_le hb hs.size) (fun h hl hmu => ?_), hs.same b hb hn]
    rcases hs.own h b hl hmu with ⟨h1, h2, h3⟩ | h1
    · exact hn h1 h2 h3
    · omega
  · obtain ⟨c', fr', h1, h2⟩ := hs.shape b c t fr h
    obtain ⟨c'', fr'', h3, h4⟩ := hk.shape b c' t fr' h1
    exact ⟨c'', fr'', h3, h4.trans h2⟩
  · rcases hr b h with h | h | ⟨q, hl, hmu⟩
    · exact hs.ro_grow b h
    · exact .inr (.inl (Nat.le_trans hs.size h))
    · rcases hs.own q b hl hmu with h | h
      · exact .inr (.inr h)
      · exact .inr (.inl h)
  · rcases ho h b hl hmu with ⟨q, hl, hmu⟩ | h
    · exact hs.own q b hl hmu
    · exact .inr (Nat.le_trans hs.size h)

def GRel (T : Tab) (Γ : Globs) (w : World) (μ : Nat → Option Nat) (ro : Nat → Prop) : Prop := ∀ g ty x, Γ g = some (ty, x) → Rep T w μ ro (.vptr ty x []) (.pointer (some ⟨g, 0, none⟩))

theorem GRel.keep {T : Tab} {Γ : Globs} {w w' : World} {μ μ' : Nat → Option Nat} {ro ro' : Nat → Prop} (h : GRel T Γ w μ ro) (hk : Keeps μ μ' ro ro' w w') : GRel T Γ w' μ' ro' := fun g ty x e => (h g ty x e).keep hk

theorem GRel.mu {T : Tab} {Γ : Globs} {w : World} {μ μ' : Nat → Option Nat} {ro : Nat → Prop} (h : GRel T Γ w μ ro) : GRel T Γ w μ' ro := fun g ty x e => (h g ty x e).pure_mu (.inl trivial)

/-- The fence of a frame: none, but for the round it may be in. -/
def Fw (r : Option Nat) : Fence := { Fence.wide with round := r }

/-- What a functions contract says of the machine. -/
def Sound (P : Program) (T : Tab) (Γ : Globs) (f : FuncId) (φ : FnSem) : Prop :=
  ∀ bs args K, φ bs args K → ∀ (w : World) (μ : Nat → Option Nat) (ro : Nat → Prop) (vs : Array Value), args.length = vs.size → (∀ (i : Nat) x v, args[i]? = some x → vs[i]? = some v → Rep T w μ ro x v) →
    HRel T w μ ro (hp bs) → (∀ h, bs.length ≤ h → μ h = none) → GRel T Γ w μ ro →
    Calls P f vs w fun e w' => ∃ v bs' res μ' ro', e = .returned v ∧ K bs' res ∧ Rep T w' μ' ro' (oneRes res) v ∧ HRel T w' μ' ro' (hp bs') ∧ (∀ h, bs'.length ≤ h → μ' h = none) ∧ bs.length ≤ bs'.length ∧ Since w μ ro (hp bs) bs.length w' μ' ro' (hp bs')

/-- A call enters the function. -/
def Enters (P : Program) (f : FuncId) : Prop := ∀ (args : Array Value) (w : World), (callFunc f args).run P w = .ok (.enter f args) w

theorem hp_get (bs : List Blk) (k : Nat) : hp bs k = bs.getD k .gone := rfl
theorem hp_gone {bs : List Blk} {k : Nat} (h : bs.length ≤ k) : hp bs k = .gone := by simp [hp, List.getD, List.getElem?_eq_none h]

theorem upds_notin {L : Heap} : ∀ (ups : Ups) (h : Nat), (∀ u ∈ ups, u.1 ≠ h) → upds L ups h = L h
  | [], _, _ => rfl
  | (q, b) :: r, h, hn => by
    rw [upds, upds_notin r h (fun u hu => hn u (by simp [hu])), upd_other (fun e => hn (q, b) (by simp) e.symm)]

theorem upds_in {h : Nat} {b : Blk} : ∀ (ups : Ups) (L : Heap), (h, b) ∈ ups → (ups.map (·.1)).Nodup → upds L ups h = b
  | [], _, hm, _ => by simp at hm
  | (q, b') :: r, L, hm, hn => by
    simp only [List.map_cons, List.nodup_cons] at hn
    rcases List.mem_cons.1 hm with e | hm
    · cases e
      rw [upds, upds_notin r h (fun u hu e => hn.1 (by rw [← e]; exact List.mem_map_of_mem hu)), upd_same]
    · rw [upds]; exact upds_in r _ hm hn.2

theorem upds_append (L : Heap) : ∀ (a b : Ups), upds L (a ++ b) = upds (upds L a) b
  | [], _ => rfl
  | (q, k) :: r, b => by rw [List.cons_append, upds, upds, upds_append _ r b]

section
variable {P : Program} {T : Tab} {hb : Nat} {w : World} {μ : Nat → Option Nat} {ro : Nat → Prop} {L : Heap} {K : PV → Ups → Prop}

theorem upds_freeze : ∀ (F : List Nat) (M : Heap), (∀ h ∈ F, M h = L h ∨ M h = freeze (L h)) → ∀ x, upds M (F.map fun h => (h, freeze (L h))) x = if x ∈ F then freeze (L x) else M x
  | [], _, _, x => by simp [upds]
  | h :: r, M, hM, x => by
    rw [List.map_cons, upds, upds_freeze r (upd M h (freeze (L h))) (fun q hq => by
      by_cases e : q = h
      · subst e; right; exact upd_same _ _ _
      · rw [upd_other e]; exact hM q (by simp [hq]))]
    by_cases hr : x ∈ r
    · rw [if_pos hr, if_pos (by simp [hr])]
    · rw [if_neg hr]
      by_cases e : x = h
      · subst e; rw [upd_same, if_pos (by simp)]
      · rw [upd_other e, if_neg (by simp [e, hr])]

theorem live_freeze (k : Blk) : (freeze k).live = false := by cases k <;> rfl

end
end Pv
