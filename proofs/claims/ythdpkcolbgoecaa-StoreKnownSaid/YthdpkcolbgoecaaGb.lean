/- The frame: what stays of the frames state in the rounds of a range over a function. -/
import Derived.Test.YthdpkcolbgoecaaGa

namespace Pv
open Go

mutual
theorem ren_id : ∀ y : PV, y.ren id = y
  | .agg fs => by rw [PV.ren, rens_id fs]
  | .tup vs => by rw [PV.ren, rens_id vs]
  | .fn g cs => by rw [PV.ren, rens_id cs]
  | .sl _ _ _ _ => rfl
  | .sla _ _ _ _ _ _ _ => rfl
  | .ptr _ _ _ _ => rfl
  | .mapr _ => rfl
  | .undef => rfl
  | .bool _ => rfl
  | .int _ _ => rfl
  | .str _ => rfl
  | .arr _ _ => rfl
  | .list _ _ => rfl
  | .nilsl => rfl
  | .vptr _ _ _ => rfl
  | .nilp => rfl
  | .dmap _ _ _ => rfl
  | .nilm => rfl
  | .nilf => rfl
theorem rens_id : ∀ l : List PV, PV.rens id l = l
  | [] => rfl
  | x :: r => by rw [PV.rens, ren_id x, rens_id r]
end

section
variable {T : Tab} {w0 w w' : World} {μ0 μ μ' : Nat → Option Nat} {ro0 ro ro' : Nat → Prop} {L0 L : Heap}

/-- The world turns where the frame does not look. -/
structure Aside (μ : Nat → Option Nat) (ro : Nat → Prop) (L : Heap) (A B : World) : Prop where
  os : B.os = A.os
  tape : B.tape = A.tape
  output : B.output = A.output
  size : A.heap.size ≤ B.heap.size
  same : ∀ b, b < A.heap.size → B.heap[b]? ≠ A.heap[b]? → ¬ ro b ∧ ∀ h, (L h).live = true → μ h ≠ some b
  shape : ∀ (b : Nat) c t fr, A.heap[b]? = some (.cells c t fr) → ∃ c' fr', B.heap[b]? = some (.cells c' t fr') ∧ c'.size = c.size

theorem Aside.refl (μ : Nat → Option Nat) (ro : Nat → Prop) (L : Heap) (A : World) : Aside μ ro L A A :=
  ⟨rfl, rfl, rfl, Nat.le_refl _, fun _ _ h => absurd rfl h, fun _ c _ fr h => ⟨c, fr, h, rfl⟩⟩

theorem Aside.keeps {A B : World} (h : Aside μ ro L A B) (hL : HRel T A μ ro L) : Keeps μ μ ro ro A B :=
  ⟨fun _ _ h => h, fun _ h => h, fun b hb => Classical.byContradiction fun hn => (h.same b (hL.ro_lt b hb) hn).1 hb, h.shape⟩

theorem Aside.hrel {A B : World} (h : Aside μ ro L A B) (hL : HRel T A μ ro L) : HRel T B μ ro L := by
  have hk := h.keeps hL
  refine ⟨fun x y hx => Nat.lt_of_lt_of_le (hL.lt x y hx) h.size, hL.apart, fun b hb => Nat.lt_of_lt_of_le (hL.ro_lt b hb) h.size, hL.inj, fun x => ?_⟩
  have hbx := hL.blk x
  by_cases hs : ∀ b, μ x = some b → B.heap[b]? = A.heap[b]?
  · exact hbx.keep hk hs
  · obtain ⟨b, hb⟩ := Classical.not_forall.1 hs
    obtain ⟨hm, hne⟩ := Classical.not_imp.1 hb
    obtain ⟨hro, hnl⟩ := h.same b (hL.lt x b hm) hne
    rw [hm] at hbx ⊢
    cases e : L x with
    | gone => trivial
    | row l ty xs =>
      rw [e] at hbx
      cases l with
      | true => exact absurd hm (hnl x (by rw [e]; rfl))
      | false => exact absurd ((hbx.2.2 b rfl).1 rfl) hro
    | box l ty y =>
      rw [e] at hbx
      cases l with
      | true => exact absurd hm (hnl x (by rw [e]; rfl))
      | false => obtain ⟨-, -, -, b', e1, h2, -⟩ := hbx; cases e1; exact absurd (h2 rfl) hro
    | map l kt et en =>
      rw [e] at hbx
      cases l with
      | true => exact absurd hm (hnl x (by rw [e]; rfl))
      | false => obtain ⟨-, b', e1, h2, -⟩ := hbx; cases e1; exact absurd (h2 rfl) hro
    | iter l kt et rest cur =>
      rw [e] at hbx
      cases l with
      | true => exact absurd hm (hnl x (by rw [e]; rfl))
      | false => obtain ⟨-, b', e1, h2, -⟩ := hbx; cases e1; exact absurd (h2 rfl) hro

theorem Aside.since {p : Nat} {A B : World} (h : Aside μ ro L A B) (hs : Since w0 μ0 ro0 L0 p A μ ro L) (hold : ∀ b, b < w0.heap.size → (∀ h, (L0 h).live = true → μ0 h ≠ some b) → B.heap[b]? = A.heap[b]?) : Since w0 μ0 ro0 L0 p B μ ro L :=
  ⟨h.os.trans hs.os, h.tape.trans hs.tape, h.output.trans hs.output, Nat.le_trans hs.size h.size, fun b hb hn => (hold b hb hn).trans (hs.same b hb hn), fun b c t fr hc => by
    obtain ⟨c', fr', h1, h2⟩ := hs.shape b c t fr hc
    obtain ⟨c'', fr'', h3, h4⟩ := h.shape b c' t fr' h1
    exact ⟨c'', fr'', h3, h4.trans h2⟩, hs.ro_mono, hs.ro_grow, hs.own, hs.mup⟩

/-- A call that is put off: a mark. -/
abbrev mark (D : Nat) : Deferred := { target := .collected D, args := #[] }

theorem Marks.aside {A B : World} {ds : List Deferred} (h : Marks w0 A ro ds) (hs : ∀ D, mark D ∈ ds → A.heap[D]? = some (.deferred (some [])) → B.heap[D]? = A.heap[D]?) : Marks w0 B ro ds := by
  obtain ⟨Ds, h1, h2, h3⟩ := h
  exact ⟨Ds, h1, h2, fun D hD => let ⟨a, b, c⟩ := h3 D hD; ⟨(hs D (by rw [h1]; exact List.mem_map.2 ⟨D, hD, rfl⟩) a).trans a, b, c⟩⟩

theorem Marks.spec {A : World} {ds : List Deferred} (h : Marks w0 A ro ds) {D : Nat} (hD : mark D ∈ ds) : A.heap[D]? = some (.deferred (some [])) ∧ w0.heap.size ≤ D ∧ ¬ ro D := by
  obtain ⟨Ds, h1, h2, h3⟩ := h
  rw [h1] at hD
  obtain ⟨D', hD', e⟩ := List.mem_map.1 hD
  simp only [mark, Deferred.mk.injEq, Target.collected.injEq, and_true] at e
  exact e ▸ h3 D' hD'

theorem Marks.cons {A : World} {ds : List Deferred} (h : Marks w0 A ro ds) {D : Nat} (hD : mark D ∉ ds) (h1 : A.heap[D]? = some (.deferred (some []))) (h2 : w0.heap.size ≤ D) (h3 : ¬ ro D) : Marks w0 A ro (mark D :: ds) := by
  obtain ⟨Ds, e, hn, hs⟩ := h
  refine ⟨D :: Ds, by rw [e]; rfl, List.nodup_cons.2 ⟨fun hm => hD (by rw [e]; exact List.mem_map.2 ⟨D, hm, rfl⟩), hn⟩, fun D' hD' => ?_⟩
  rcases List.mem_cons.1 hD' with rfl | hD'
  · exact ⟨h1, h2, h3⟩
  · exact hs D' hD'

theorem Marks.rosub {A : World} {ds : List Deferred} {ro' : Nat → Prop} (h : Marks w0 A ro ds) (hr : ∀ D, mark D ∈ ds → A.heap[D]? = some (.deferred (some [])) → ro' D → ro D) : Marks w0 A ro' ds := by
  obtain ⟨Ds, h1, h2, h3⟩ := h
  exact ⟨Ds, h1, h2, fun D hD => let ⟨a, b, c⟩ := h3 D hD; ⟨a, b, fun h => c (hr D (by rw [h1]; exact List.mem_map.2 ⟨D, hD, rfl⟩) a h)⟩⟩

/-- Two stretches of a run. -/
theorem Since.trans {p p' : Nat} {A B : World} {LA LB : Heap} {μA μB : Nat → Option Nat} {roA roB : Nat → Prop} (h : Since w0 μ0 ro0 L0 p A μA roA LA) (k : Since A μA roA LA p' B μB roB LB) (hp : p ≤ p') : Since w0 μ0 ro0 L0 p B μB roB LB := by
  refine ⟨k.os.trans h.os, k.tape.trans h.tape, k.output.trans h.output, Nat.le_trans h.size k.size, fun b hb hn => ?_, fun b c t fr hc => ?_, fun b hb => k.ro_mono b (h.ro_mono b hb), fun b hb => ?_, fun x b hl hm => ?_, fun x hx => (k.mup x (by omega)).trans (h.mup x hx)⟩
  · rw [k.same b (Nat.lt_of_lt_of_le hb h.size) (fun x hl hm => ?_), h.same b hb hn]
    rcases h.own x b hl hm with ⟨y, hy, hm⟩ | hge
    · exact hn y hy hm
    · omega
  · obtain ⟨c', fr', h1, h2⟩ := h.shape b c t fr hc
    obtain ⟨c'', fr'', h3, h4⟩ := k.shape b c' t fr' h1
    exact ⟨c'', fr'', h3, h4.trans h2⟩
  · rcases k.ro_grow b hb with hb | hb | ⟨x, hl, hm⟩
    · exact h.ro_grow b hb
    · exact .inr (.inl (Nat.le_trans h.size hb))
    · rcases h.own x b hl hm with hq | hge
      · exact .inr (.inr hq)
      · exact .inr (.inl hge)
  · rcases k.own x b hl hm with ⟨y, hy, hm'⟩ | hge
    · exact h.own y b hy hm'
    · exact .inr (Nat.le_trans h.size hge)

/-- Only blocks of these numbers count. -/
theorem Rep.low {p : Nat} {x : PV} {v : Value} (h : Rep T w μ ro x v) (hx : ∀ q ∈ x.hs, q < p) (hμ : ∀ q, q < p → μ' q = μ q) (hro : ∀ b, ro b → ro' b) (hsame : ∀ b, ro b → w'.heap[b]? = w.heap[b]?)
    (hshape : ∀ (b : Nat) c t fr, w.heap[b]? = some (.cells c t fr) → ∃ c' fr', w'.heap[b]? = some (.cells c' t fr') ∧ c'.size = c.size) : Rep T w' μ' ro' x v := by
  have h1 : Rep T w (fun q => if q < p then μ q else none) ro (x.ren id) v := h.ren (f := id) (fun q hq => by simp [hx q hq])
  have hid : ∀ y : PV, y.ren id = y := fun y => ren_id y
  rw [hid] at h1
  refine h1.keep ⟨fun q b hq => ?_, hro, hsame, hshape⟩
  by_cases hlt : q < p
  · rw [if_pos hlt] at hq; rw [hμ q hlt]; exact hq
  · rw [if_neg hlt] at hq; cases hq

end
end Pv
