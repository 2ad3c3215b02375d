/- The frame: a range over a function. -/
import Derived.Test.YthdpkcolbgoecaaFg

namespace Pv
open Go

/-- The temporaries of a round. -/
theorem setP_reps {T : Tab} {w : World} {μ : Nat → Option Nat} {ro : Nat → Prop} : ∀ (ps : List Nat) (xs : List PV) (vs : List Value) (t : List PV) (vt : Array Value), xs.length = vs.length → (∀ (j : Nat) y u, xs[j]? = some y → vs[j]? = some u → Rep T w μ ro y u) → t.length = vt.size →
    (∀ (i : Nat) x v, t[i]? = some x → vt[i]? = some v → Rep T w μ ro x v) → (setP ps xs t).length = ((ps.zip vs).foldl (fun (t : Array Value) (p, v) => t.setIfInBounds p v) vt).size ∧
      ∀ (i : Nat) x v, (setP ps xs t)[i]? = some x → ((ps.zip vs).foldl (fun (t : Array Value) (p, v) => t.setIfInBounds p v) vt)[i]? = some v → Rep T w μ ro x v
  | [], xs, vs, t, vt, _, _, h3, h4 => by simpa [setP] using ⟨h3, h4⟩
  | p :: ps, [], [], t, vt, _, _, h3, h4 => by simpa [setP] using ⟨h3, h4⟩
  | p :: ps, [], _ :: _, t, vt, h1, _, _, _ => by cases h1
  | p :: ps, _ :: _, [], t, vt, h1, _, _, _ => by cases h1
  | p :: ps, x :: xs, v :: vs, t, vt, h1, h2, h3, h4 => by
    rw [setP]
    simp only [List.zip_cons_cons, List.foldl_cons]
    refine setP_reps ps xs vs _ _ (by simpa using h1) (fun j y u hy hu => h2 (j + 1) y u (by simpa using hy) (by simpa using hu)) (by simpa using h3) (fun i y u hy hu => ?_)
    rw [List.getElem?_set] at hy
    rw [Array.getElem?_setIfInBounds] at hu
    by_cases e : p = i
    · subst e
      simp only [if_true] at hy hu
      split at hy
      · cases hy
        split at hu
        · cases hu; exact h2 0 _ _ rfl rfl
        · cases hu
      · cases hy
    · rw [if_neg e] at hy hu; exact h4 i y u hy hu

theorem upds_gone {L : Heap} : ∀ (Q : List Nat) (x : Nat), upds L (Q.map fun h => (h, Blk.gone)) x = if x ∈ Q then .gone else L x := by
  have : ∀ (Q : List Nat) (M : Heap) (x : Nat), upds M (Q.map fun h => (h, Blk.gone)) x = if x ∈ Q then .gone else M x := by
    intro Q
    induction Q with
    | nil => intro M x; simp [upds]
    | cons h r ih =>
      intro M x
      rw [List.map_cons, upds, ih]
      by_cases hr : x ∈ r
      · rw [if_pos hr, if_pos (by simp [hr])]
      · rw [if_neg hr]
        by_cases e : x = h
        · subst e; rw [upd_same, if_pos (by simp)]
        · rw [upd_other e, if_neg (by simp [e, hr])]
  exact fun Q x => this Q L x

section
variable {P : Program} {C C' : Ctx} {w0 w : World} {μ0 μ μ' : Nat → Option Nat} {ro0 ro ro' priv : Nat → Prop} {L0 L : Heap} {n p' : Nat} {a : Act} {t2 : List PV}

theorem SR.aside {D : Nat → Prop} {s : St} {A B : World} (h : SR C w0 μ0 ro0 L0 D s a A μ ro) (k : Aside μ ro s.L A B) (hold : ∀ b, b < w0.heap.size → (∀ h, (L0 h).live = true → μ0 h ≠ some b) → B.heap[b]? = A.heap[b]?)
    (hm : ∀ D, mark D ∈ a.defers → A.heap[D]? = some (.deferred (some [])) → B.heap[D]? = A.heap[D]?) : SR C w0 μ0 ro0 L0 D s a B μ ro :=
  have hk := k.keeps h.heap
  ⟨h.defers.aside hm, h.len, fun i x v hx hv => (h.tmps i x v hx hv).keep hk, k.hrel h.heap, h.fresh, h.glob.keep hk, k.since h.since hold, h.pn⟩

theorem SR.forget {D : Nat → Prop} {s : St} {A : World} (h : SR C w0 μ0 ro0 L0 D s a A μ ro) (Q : List Nat) : SR C w0 μ0 ro0 L0 D ⟨s.t, upds s.L (Q.map fun h => (h, .gone)), s.nx⟩ a A μ ro := by
  have hl0 : ∀ q, (upds s.L (Q.map fun h => (h, Blk.gone)) q).live = true → (s.L q).live = true := fun q hq => by
    rw [upds_gone] at hq
    split at hq
    · cases hq
    · exact hq
  refine ⟨h.defers, h.len, h.tmps, ⟨h.heap.lt, fun q b hq => h.heap.apart q b (hl0 q hq), h.heap.ro_lt, fun q q2 b hq hq2 => h.heap.inj q q2 b (hl0 q hq) (hl0 q2 hq2), fun q => ?_⟩, fun q hq hD => ?_, h.glob, ?_, h.pn⟩
  · show BRel _ _ _ _ _ (upds s.L _ q)
    rw [upds_gone]
    split
    · trivial
    · exact h.heap.blk q
  · obtain ⟨h1, h2⟩ := h.fresh q hq hD
    refine ⟨?_, h2⟩
    simp only
    rw [upds_gone]
    split
    · rfl
    · exact h1
  · exact ⟨h.since.os, h.since.tape, h.since.output, h.since.size, h.since.same, h.since.shape, h.since.ro_mono, h.since.ro_grow, fun q b hq => h.since.own q b (hl0 q hq), h.since.mup⟩

/-- Where the rounds stand. -/
def Rnd (C : Ctx) (w0 : World) (μ0 : Nat → Option Nat) (ro0 : Nat → Prop) (L0 : Heap) (p' : Nat) (t2 : List PV) (a : Act) (w : World) (ro priv : Nat → Prop) (X : Heap → Nat → Prop) (A : World) : Prop :=
  ∃ L nx μ' ro', X L nx ∧ SR C w0 μ0 ro0 L0 (fun _ => False) ⟨t2, L, nx⟩ a A μ' ro' ∧ p' ≤ nx ∧ ¬ ro' w.heap.size ∧ ¬ ro' (w.heap.size + 1) ∧ (∀ b, ro b → ro' b) ∧ (∀ b, priv b → ¬ ro' b ∧ ∀ h, (L h).live = true → μ' h ≠ some b) ∧
    w.heap.size + 2 ≤ A.heap.size ∧ ∀ (b : Nat) c t fr, w.heap[b]? = some (.cells c t fr) → ∃ c' fr', A.heap[b]? = some (.cells c' t fr') ∧ c'.size = c.size

theorem Rnd.turn {X : Heap → Nat → Prop} {A B : World} (hJ : Rnd C w0 μ0 ro0 L0 p' t2 a w ro priv X A) (os : B.os = A.os) (tape : B.tape = A.tape) (output : B.output = A.output) (size : A.heap.size ≤ B.heap.size)
    (hch : ∀ b, b < A.heap.size → B.heap[b]? ≠ A.heap[b]? → priv b ∨ (b = w.heap.size + 1 ∧ ∃ o, A.heap[b]? = some (.loop o)))
    (shape : ∀ (b : Nat) c t fr, A.heap[b]? = some (.cells c t fr) → ∃ c' fr', B.heap[b]? = some (.cells c' t fr') ∧ c'.size = c.size)
    (hmk : ∀ D, mark D ∈ a.defers → D < w.heap.size ∧ ¬ priv D) (hpv : ∀ b, priv b → (∃ h1, (L0 h1).live = true ∧ μ0 h1 = some b) ∨ w0.heap.size ≤ b) (hw : w0.heap.size ≤ w.heap.size) : Rnd C w0 μ0 ro0 L0 p' t2 a w ro priv X B := by
  obtain ⟨L, nx, μ', ro', h1, h2, h3, h4, h5, h6, h7, h8, h9⟩ := hJ
  refine ⟨L, nx, μ', ro', h1, h2.aside ⟨os, tape, output, size, fun b hb hne => ?_, shape⟩ (fun b hb hn => Classical.byContradiction fun hne => ?_) (fun D hD hA => Classical.byContradiction fun hne => ?_), h3, h4, h5, h6, h7, by omega, fun b c t fr hc => ?_⟩
  · rcases hch b hb hne with hp | ⟨rfl, o, ho⟩
    · exact h7 b hp
    · exact ⟨h5, fun h hl hm => not_live h2.heap hl hm ho (by simp) (by simp) (by simp)⟩
  · have hlt : b < A.heap.size := by omega
    rcases hch b hlt hne with hp | ⟨rfl, o, ho⟩
    · rcases hpv b hp with ⟨h1', hl, hm⟩ | hge
      · exact hn h1' hl hm
      · omega
    · omega
  · have hlt : D < A.heap.size := (Array.getElem?_eq_some_iff.1 hA).1
    have hm := hmk D hD
    rcases hch D hlt hne with hp | ⟨rfl, o, ho⟩
    · exact hm.2 hp
    · omega
  · obtain ⟨c', fr', e1, e2⟩ := h9 b c t fr hc
    obtain ⟨c'', fr'', e3, e4⟩ := shape b c' t fr' e1
    exact ⟨c'', fr'', e3, e4.trans e2⟩

/-- A round has gone by. -/
theorem Rnd.next {X : Heap → Nat → Prop} {A A' B : World} {nx : Nat} {o o' : Loop} {s2 : St} {a2 : Act} {μ2 : Nat → Option Nat} {ro2 : Nat → Prop} {L : Heap} (hs : SR C w0 μ0 ro0 L0 (fun _ => False) ⟨t2, L, nx⟩ a A μ' ro') (h4 : ¬ ro' w.heap.size) (h5 : ¬ ro' (w.heap.size + 1)) (h6 : ∀ b, ro b → ro' b)
    (h7 : ∀ b, priv b → b < w.heap.size ∧ ¬ ro' b ∧ ∀ h, (L h).live = true → μ' h ≠ some b) (h8 : w.heap.size + 2 ≤ A.heap.size) (h9 : ∀ (b : Nat) c t fr, w.heap[b]? = some (.cells c t fr) → ∃ c' fr', A.heap[b]? = some (.cells c' t fr') ∧ c'.size = c.size)
    (hD : A.heap[w.heap.size]? = some (.deferred (some []))) (hl : A.heap[w.heap.size + 1]? = some (.loop o)) (hA' : A' = A.putObj (w.heap.size + 1) (.loop o')) (ht : ∀ x ∈ t2, ∀ q ∈ x.hs, q < p') (hp : C.p ≤ p') (hp2 : C'.p = p') (hmk : ∀ D, mark D ∈ a.defers → D < w.heap.size) (hw : w0.heap.size ≤ w.heap.size) (hT : C'.T = C.T) (hΓ : C'.Γ = C.Γ)
    (hk : SR C' A' μ' ro' L (fun _ => False) s2 a2 B μ2 ro2) (hX : X s2.L s2.nx) : Rnd C w0 μ0 ro0 L0 p' t2 a w ro priv X B := by
  have hput : ∀ x, x ≠ w.heap.size + 1 → A'.heap[x]? = A.heap[x]? := fun x hx => by rw [hA']; exact World.putObj_heap_other hx
  have hsz : A'.heap.size = A.heap.size := by rw [hA']; exact (putObj_grown A _ _).2
  have hnl : ∀ h, (L h).live = true → μ' h ≠ some (w.heap.size + 1) := fun h hlv hm => not_live hs.heap hlv hm hl (by simp) (by simp) (by simp)
  have hnD : ∀ h, (L h).live = true → μ' h ≠ some w.heap.size := fun h hlv hm => not_live hs.heap hlv hm hD (by simp) (by simp) (by simp)
  have has : Aside μ' ro' L A A' := ⟨by rw [hA']; rfl, by rw [hA']; rfl, by rw [hA']; rfl, by omega, fun b hb hne => by
      by_cases e : b = w.heap.size + 1
      · subst e; exact ⟨h5, hnl⟩
      · exact absurd (hput b e) hne, fun b c t fr hc => ⟨c, fr, by
      have : b ≠ w.heap.size + 1 := fun e => by subst e; rw [hl] at hc; cases hc
      rw [hput b this]; exact hc, rfl⟩⟩
  have hs' := hs.aside has (fun b hb _ => hput b (by omega)) (fun D hD _ => hput D (by have := hmk D hD; omega))
  have hgrow : ∀ b, b < w.heap.size + 2 → ¬ ro' b → (∀ h, (L h).live = true → μ' h ≠ some b) → ¬ ro2 b := fun b hb hr hl hr2 => by
    rcases hk.since.ro_grow b hr2 with h | h | ⟨q, hq, hm⟩
    · exact hr h
    · omega
    · exact hl q hq hm
  have hkeep : ∀ b, ro' b → B.heap[b]? = A'.heap[b]? := fun b hb => hk.since.same b (hs'.heap.ro_lt b hb) (fun h hl hm => hs'.heap.apart h b hl hm hb)
  have hks := hk.since
  rw [hp2] at hks
  have htr := hs'.since.trans hks hp
  refine ⟨s2.L, s2.nx, μ2, ro2, hX, ⟨?_, hs.len, fun i x v hx hv => ?_, ?_, hk.fresh, ?_, htr, ?_⟩, by rw [← hp2]; exact hk.pn, hgrow _ (by omega) h4 hnD, hgrow _ (by omega) h5 hnl, fun b hb => hk.since.ro_mono b (h6 b hb), fun b hb => ?_, ?_, fun b c t fr hc => ?_⟩
  · refine (hs'.defers.aside (fun D hD hA => ?_)).rosub (fun D hD hA hr => ?_)
    · have hlt : D < A'.heap.size := (Array.getElem?_eq_some_iff.1 hA).1
      exact hk.since.same D hlt (fun h hl hm => not_live hs'.heap hl hm hA (by simp) (by simp) (by simp))
    · have h1 := hs'.defers.spec hD
      rcases hk.since.ro_grow D hr with h | h | ⟨q, hq, hm⟩
      · exact h
      · have := (Array.getElem?_eq_some_iff.1 h1.1).1; omega
      · exact (not_live hs'.heap hq hm h1.1 (by simp) (by simp) (by simp)).elim
  · exact (hs'.tmps i x v hx hv).low (fun q hq => ht x (List.mem_of_getElem? hx) q hq) (fun q hq => hk.since.mup q (by rw [hp2]; exact hq)) hk.since.ro_mono hkeep hk.since.shape
  · rw [← hT]; exact hk.heap
  · rw [← hT, ← hΓ]; exact hk.glob
  · have := hk.pn; rw [hp2] at this; simp only; omega
  · obtain ⟨hlt, h10, h11⟩ := h7 b hb
    refine ⟨hgrow b (by omega) h10 h11, fun h hl hm => ?_⟩
    rcases hk.since.own h b hl hm with ⟨q, hq, hm⟩ | hge
    · exact h11 q hq hm
    · omega
  · have := hk.since.size; omega
  · obtain ⟨c', fr', e1, e2⟩ := h9 b c t fr hc
    obtain ⟨c1, fr1, e5, e6⟩ := has.shape b c' t fr' e1
    obtain ⟨c'', fr'', e3, e4⟩ := hk.since.shape b c1 t fr1 e5
    exact ⟨c'', fr'', e3, e4.trans (e6.trans e2)⟩

/-- Both worlds turned alike at one place. -/
theorem Since.both {A B : World} {LA LB : Heap} {μA μB : Nat → Option Nat} {roA roB : Nat → Prop} {o : Loop} {l : Nat} {x : Obj} (h : Since A μA roA LA p' B μB roB LB) (hA : A.heap[l]? = some (.loop o)) (hB : B.heap[l]? = some (.loop o)) : Since (A.putObj l x) μA roA LA p' (B.putObj l x) μB roB LB := by
  have hsA := (putObj_grown A l x).2
  have hsB := (putObj_grown B l x).2
  have hlA := (Array.getElem?_eq_some_iff.1 hA).1
  have hlB := (Array.getElem?_eq_some_iff.1 hB).1
  refine ⟨h.os, h.tape, h.output, by rw [hsA, hsB]; exact h.size, fun b hb hn => ?_, fun b c t fr hc => ?_, h.ro_mono, fun b hb => ?_, fun q b hl hm => ?_, h.mup⟩
  · by_cases e : b = l
    · subst e; rw [World.putObj_heap_same hlA, World.putObj_heap_same hlB]
    · rw [World.putObj_heap_other e, World.putObj_heap_other e]; exact h.same b (by omega) hn
  · by_cases e : b = l
    · subst e
      rw [World.putObj_heap_same hlA] at hc
      cases hc
      exact ⟨c, fr, World.putObj_heap_same hlB, rfl⟩
    · rw [World.putObj_heap_other e] at hc ⊢; exact h.shape b c t fr hc
  · rw [hsA]; exact h.ro_grow b hb
  · rw [hsA]; exact h.own q b hl hm

theorem Base.withP (hB : Base P C) (p : Nat) : Base P { C with p := p } := ⟨hB.fitsT, hB.sized, hB.eq, hB.sound, hB.enters, hB.mixed, hB.it⟩

theorem reach_pre {p : Nat} {l : List Nat} {L : Heap} {fuel : Nat} : ∃ q, reach L fuel 0 (addNew (List.range p) l) = List.range p ++ q ∧ (reach L fuel 0 (addNew (List.range p) l)).Nodup := by
  obtain ⟨h1, q1, e1⟩ := addNew_spec l (List.range p) List.nodup_range
  obtain ⟨h2, q2, e2⟩ := reach_spec L fuel 0 _ h1
  exact ⟨q1 ++ q2, by rw [e2, e1, List.append_assoc], h2⟩

theorem reach_nodup {l : List Nat} {L : Heap} {fuel : Nat} : (reach L fuel 0 (addNew [] l)).Nodup :=
  (reach_spec L fuel 0 _ (addNew_spec l [] List.nodup_nil).1).1

theorem SR.renum {D : Nat → Prop} {s : St} {A : World} {R q : List Nat} (h : SR C w0 μ0 ro0 L0 D s a A μ ro) (hR : R = List.range C.p ++ q) (hn : R.Nodup) (hc : closedIn R s.L s.t = true) :
    SR C w0 μ0 ro0 L0 (fun _ => False) ⟨PV.rens (idx R) s.t, hp (R.map fun h => (s.L h).ren (idx R)), R.length⟩ a A (muOf R μ) ro := by
  obtain ⟨hc1, hc2⟩ := closed_spec hc
  refine ⟨h.defers, by simp [rens_eq, h.len], fun i x v hx hv => ?_, h.heap.renum hn hc, fun k hk _ => ?_, h.glob.mu, h.since.renum hR, by simp [hR]⟩
  · simp only [rens_eq, List.getElem?_map, Option.map_eq_some_iff] at hx
    obtain ⟨y, hy, rfl⟩ := hx
    exact Rep.ren (h.tmps i y v hy hv) (fun q hq => muOf_idx (hc1 y (List.mem_of_getElem? hy) q hq))
  · simp only at hk
    refine ⟨hp_gone (by simpa using hk), ?_⟩
    unfold muOf; rw [List.getElem?_eq_none hk]; rfl

theorem rangeF_sound (hB : Base P C) {f : Operand} {ps : Array Tmp} {ca cb : Code} {s : St} {A : World} {K : Ex → St → Prop}
    (ha : ∀ p, noRange ca = true → ∀ (r : Option Nat) (n : Nat) (w0 : World) (μ0 : Nat → Option Nat) (ro0 : Nat → Prop) (L0 : Heap) (s : St) (a : Act) (w : World) (μ : Nat → Option Nat) (ro : Nat → Prop) (K : Ex → St → Prop), LoopsOk { C with p := p } ca → evC { C with p := p } ca s K →
      SR { C with p := p } w0 μ0 ro0 L0 (fun _ => False) s a w μ ro → ca.wpIn (Fw r) n P (QK { C with p := p } w0 μ0 ro0 L0 K) a w)
    (hb : ∀ p, noRange cb = true → ∀ (r : Option Nat) (n : Nat) (w0 : World) (μ0 : Nat → Option Nat) (ro0 : Nat → Prop) (L0 : Heap) (s : St) (a : Act) (w : World) (μ : Nat → Option Nat) (ro : Nat → Prop) (K : Ex → St → Prop), LoopsOk { C with p := p } cb → evC { C with p := p } cb s K →
      SR { C with p := p } w0 μ0 ro0 L0 (fun _ => False) s a w μ ro → cb.wpIn (Fw r) n P (QK { C with p := p } w0 μ0 ro0 L0 K) a w)
    (hl : LoopsOk C (.rangeFunc f ps ca cb)) (hev : evC C (.rangeFunc f ps ca cb) s K) (h : SR C w0 μ0 ro0 L0 (fun _ => False) s a A μ ro) : (Code.rangeFunc f ps ca cb).wpIn (Fw none) n P (QK C w0 μ0 ro0 L0 K) a A := by
  rw [evC] at hev
  split at hev
  rotate_left
  · exact hev.elim
  rename_i g caps hg
  split at hev
  rotate_left
  · exact hev.elim
  rename_i φ pins l hφ hRl
  rw [forceNs_eq] at hev
  have hfr := h.eval f
  simp only at hfr
  rw [hg] at hfr
  obtain ⟨vs, hfv, hcl, hcr⟩ := hfr.fn_inv
  obtain ⟨hit, hen⟩ := hB.it g φ hφ
  have hQn : (reach s.L 60 0 (addNew [] (PV.hss caps))).Nodup := reach_nodup
  generalize reach s.L 60 0 (addNew [] (PV.hss caps)) = Q at hev hQn
  obtain ⟨hc, hev⟩ := cond_and hev
  simp only [Bool.and_eq_true] at hc
  obtain ⟨⟨⟨hcQ, -⟩, hna⟩, hnb⟩ := hc
  obtain ⟨hcQ1, hcQ2⟩ := closed_spec hcQ
  obtain ⟨xs, encs, hK, hlen, helt, hseq⟩ := hit _ _ _ hev A (muOf Q μ) ro vs (by rw [rens_eq]; simpa using hcl) (fun i x v hx hv => by
    rw [rens_eq, List.getElem?_map, Option.map_eq_some_iff] at hx
    obtain ⟨y, hy, rfl⟩ := hx
    exact (hcr i y v hy hv).ren (fun q hq => muOf_idx (hcQ1 y (List.mem_of_getElem? hy) q hq))) (h.heap.renum hQn hcQ) h.glob.mu
  rw [forceNs_eq] at hK
  obtain ⟨q, hR, hRn⟩ := reach_pre (p := C.p) (l := pins ++ PV.hss (dropT f s.t)) (L := upds s.L (Q.map fun h => (h, .gone))) (fuel := 60)
  generalize reach (upds s.L (Q.map fun h => (h, .gone))) 60 0 (addNew (List.range C.p) (pins ++ PV.hss (dropT f s.t))) = R at hK hR hRn
  obtain ⟨hc, hK⟩ := cond_and hK
  simp only [Bool.and_eq_true] at hc
  obtain ⟨⟨⟨hcR, hple⟩, hts⟩, hxl⟩ := hc
  have hple := Nat.le_of_ble_eq_true hple
  obtain ⟨hl1, hl2, hl3⟩ := hl pins l hRl
  have hKK := hl1 _ _ _ _ hK
  have hd : SR C w0 μ0 ro0 L0 (fun _ => False) ⟨dropT f s.t, s.L, s.nx⟩ a A μ ro := by
    cases f <;> first | exact h | exact h.set (fun v _ => .undef v)
  have h2 := (hd.forget Q).renum hR hRn hcR
  have htb : ∀ x ∈ PV.rens (idx R) (dropT f s.t), ∀ q ∈ x.hs, q < C.p + pins.length := fun x hx q hq => by
    rw [List.all_eq_true] at hts
    have := hts q (by rw [hss_eq, List.mem_flatMap]; exact ⟨x, hx, hq⟩)
    rwa [Nat.blt_eq] at this
  generalize hT2 : PV.rens (idx R) (dropT f s.t) = t2 at hKK h2 htb
  generalize hKKe : (onSt fun e t bs => K e (mkSt t bs)) = KK at hKK
  have hprv : ∀ b, (∃ k, (hp (Q.map fun h => (s.L h).ren (idx Q)) k).live = true ∧ muOf Q μ k = some b) → ∃ k ∈ Q, (s.L k).live = true ∧ μ k = some b := by
    rintro b ⟨k, hk, hm⟩
    rw [hp_map_get] at hk
    unfold muOf at hm
    cases e : Q[k]? with
    | none => rw [e] at hm; cases hm
    | some x => rw [e] at hm hk; simp only [live_ren] at hk; exact ⟨x, List.mem_of_getElem? e, hk, hm⟩
  generalize hpe : (fun b => ∃ k, (hp (Q.map fun h => (s.L h).ren (idx Q)) k).live = true ∧ muOf Q μ k = some b) = priv at hseq
  have hpriv : ∀ b, priv b → ∃ k ∈ Q, (s.L k).live = true ∧ μ k = some b := fun b hb => hprv b (by rw [← hpe] at hb; exact hb)
  have hw := h.since.size
  have hmk : ∀ D, mark D ∈ a.defers → D < A.heap.size ∧ ¬ priv D := fun D hD => by
    obtain ⟨m1, m2, m3⟩ := h.defers.spec hD
    refine ⟨(Array.getElem?_eq_some_iff.1 m1).1, fun hp => ?_⟩
    obtain ⟨k, -, hk, hm⟩ := hpriv D hp
    exact not_live h.heap hk hm m1 (by simp) (by simp) (by simp)
  have hpv : ∀ b, priv b → (∃ h1, (L0 h1).live = true ∧ μ0 h1 = some b) ∨ w0.heap.size ≤ b := fun b hb => by
    obtain ⟨k, -, hk, hm⟩ := hpriv b hb
    exact h.since.own k b hk hm
  have hplt : ∀ b, priv b → b < A.heap.size := fun b hb => by
    obtain ⟨k, -, hk, hm⟩ := hpriv b hb
    exact h.heap.lt k b hm
  have hfixlt : ∀ b, ro b ∨ priv b → b < A.heap.size := fun b hb => hb.elim (h.heap.ro_lt b) (hplt b)
  refine wpIn_mono (Q := QK C w0 μ0 ro0 L0 KK) ?_ (fun e a' w' hq => by rw [← hKKe] at hq; exact hq.of_on)
  refine wpIn_rangeSeq hfv (fun args w => hen args w) hfixlt hseq (fun x hx => ?_)
    (fun i => Rnd C w0 μ0 ro0 L0 (C.p + pins.length) t2 a A ro priv fun L nx => evRange { C with p := C.p + pins.length } ps.toList ca cb t2 (xs.drop i) L nx KK)
    (fun c _ => match c with
      | .ret => Rnd C w0 μ0 ro0 L0 (C.p + pins.length) t2 a A ro priv fun L nx => KK .ret ⟨t2, L, nx⟩
      | .exit id => Rnd C w0 μ0 ro0 L0 (C.p + pins.length) t2 a A ro priv fun L nx => KK (.exit id) ⟨t2, L, nx⟩
      | _ => fun _ => False)
    ?_ ?_ ?_ ?_ ?_ ?_ ?_ ?_
  · obtain ⟨i, hi⟩ := List.getElem?_of_mem hx
    have hlt : i < xs.length := by rw [hlen]; exact (List.getElem?_eq_some_iff.1 hi).1
    have h3 := (helt i _ x (List.getElem?_eq_getElem hlt) hi).1
    rw [List.all_eq_true] at hxl
    have h4 := Nat.eq_of_beq_eq_true (hxl _ (List.getElem_mem hlt))
    omega
  · intro i B B' hJ hg
    exact hJ.turn hg.os hg.tape hg.output hg.size (fun b hb hne => .inl (Classical.byContradiction fun hn => hne (hg.same b hb hn))) hg.shape hmk hpv hw
  · intro c i B B' hJ hg
    split at hJ
    · exact hJ.turn hg.os hg.tape hg.output hg.size (fun b hb hne => .inl (Classical.byContradiction fun hn => hne (hg.same b hb hn))) hg.shape hmk hpv hw
    · exact hJ.turn hg.os hg.tape hg.output hg.size (fun b hb hne => .inl (Classical.byContradiction fun hn => hne (hg.same b hb hn))) hg.shape hmk hpv hw
    · exact hJ.elim
  · intro i B o o' hJ ho
    exact hJ.turn rfl rfl rfl (by rw [(putObj_grown B _ _).2]; exact Nat.le_refl _) (fun b hb hne => .inr (by
      have e : b = A.heap.size + 1 := Classical.byContradiction fun e => hne (World.putObj_heap_other e)
      exact ⟨e, o, by rw [e]; exact ho⟩)) (fun b c t fr hc => ⟨c, fr, by
      have e : b ≠ A.heap.size + 1 := fun e => by subst e; rw [ho] at hc; cases hc
      rw [World.putObj_heap_other e]; exact hc, rfl⟩) hmk hpv hw
  · have key : ∀ (X : Heap → Nat → Prop) (B : World) (o o' : Loop), Rnd C w0 μ0 ro0 L0 (C.p + pins.length) t2 a A ro priv X B → B.heap[A.heap.size + 1]? = some (.loop o) → Rnd C w0 μ0 ro0 L0 (C.p + pins.length) t2 a A ro priv X (B.putObj (A.heap.size + 1) (.loop o')) := by
      intro X B o o' hJ ho
      exact hJ.turn rfl rfl rfl (by rw [(putObj_grown B _ _).2]; exact Nat.le_refl _) (fun b hb hne => .inr (by
        have e : b = A.heap.size + 1 := Classical.byContradiction fun e => hne (World.putObj_heap_other e)
        exact ⟨e, o, by rw [e]; exact ho⟩)) (fun b c t fr hc => ⟨c, fr, by
        have e : b ≠ A.heap.size + 1 := fun e => by subst e; rw [ho] at hc; cases hc
        rw [World.putObj_heap_other e]; exact hc, rfl⟩) hmk hpv hw
    intro c i B o o' hJ ho
    split at hJ
    · exact key _ _ _ _ hJ ho
    · exact key _ _ _ _ hJ ho
    · exact hJ.elim
  · intro rec
    have hsz : ((A.alloc (.deferred (some []))).alloc (.loop rec)).heap.size = A.heap.size + 2 := by simp
    have hold : ∀ b, b < A.heap.size → ((A.alloc (.deferred (some []))).alloc (.loop rec)).heap[b]? = A.heap[b]? := fun b hb =>
      (Go.RowKit.Below.heap_alloc _ _ _ (by simp; omega)).trans (Go.RowKit.Below.heap_alloc _ _ _ hb)
    have hshape : ∀ (b : Nat) c t fr, A.heap[b]? = some (.cells c t fr) → ∃ c' fr', ((A.alloc (.deferred (some []))).alloc (.loop rec)).heap[b]? = some (.cells c' t fr') ∧ c'.size = c.size := fun b c t fr hc =>
      ⟨c, fr, by rw [hold b (Array.getElem?_eq_some_iff.1 hc).1]; exact hc, rfl⟩
    refine ⟨_, _, _, _, ?_, h2.aside ⟨rfl, rfl, rfl, by omega, fun b hb hne => absurd (hold b hb) hne, hshape⟩ (fun b hb _ => hold b (by omega)) (fun D hD hA => hold D (hmk D hD).1), hple, ?_, ?_, fun _ h => h, fun b hb => ?_, by omega, hshape⟩
    · simpa using hKK
    · exact fun hr => absurd (h.heap.ro_lt _ hr) (by omega)
    · exact fun hr => absurd (h.heap.ro_lt _ hr) (by omega)
    · obtain ⟨k, hkQ, hk, hm⟩ := hpriv b hb
      refine ⟨h.heap.apart k b hk hm, fun q hq hq2 => ?_⟩
      rw [hp_map_get] at hq
      unfold muOf at hq2
      cases e : R[q]? with
      | none => rw [e] at hq2; cases hq2
      | some x =>
        rw [e] at hq hq2
        simp only [live_ren] at hq
        rw [upds_gone] at hq
        split at hq
        · cases hq
        · rename_i hx
          have := h.heap.inj k x b hk hq hm hq2
          exact hx (this ▸ hkQ)
  · rintro i x B hx hJ hfx hD ⟨o, ho⟩
    obtain ⟨L, nx, μ', ro', hE, hS, hpn, h4, h5, h6, h7, h8, h9⟩ := hJ
    have hlt : i < xs.length := by rw [hlen]; exact (List.getElem?_eq_some_iff.1 hx).1
    rw [List.drop_eq_getElem_cons hlt, evRange] at hE
    obtain ⟨e1, e2, e3⟩ := helt i _ x (List.getElem?_eq_getElem hlt) hx
    have hkw : Keeps μ' μ' ro ro' A B := ⟨fun _ _ h => h, h6, hfx, h9⟩
    obtain ⟨l1, l2⟩ := setP_reps (T := C.T) (w := B) (μ := μ') (ro := ro') ps.toList xs[i] x.toList t2 a.tmps (by simpa using e1) (fun j y u hy hu => ((e3 j y u hy (by simpa using hu)).pure_mu (pureV_cases (e2 y (List.mem_of_getElem? hy)))).keep hkw) hS.len hS.tmps
    have hfold : (ps.zip x).foldl (fun (t : Array Value) (p, v) => t.setIfInBounds p v) a.tmps = (ps.toList.zip x.toList).foldl (fun (t : Array Value) (p, v) => t.setIfInBounds p v) a.tmps := by
      rw [← Array.foldl_toList, Array.toList_zip]
    have hS0 : SR { C with p := C.p + pins.length } B μ' ro' L (fun _ => False) ⟨setP ps.toList xs[i] t2, L, nx⟩ { tmps := (ps.zip x).foldl (fun t (p, v) => t.setIfInBounds p v) a.tmps, defers := [] } B μ' ro' :=
      ⟨Marks.nil _ _ _, by rw [hfold]; exact l1, by rw [hfold]; exact l2, hS.heap, hS.fresh, hS.glob, Since.refl _ _ _ _ _, hpn⟩
    have hnl : ∀ h, (L h).live = true → μ' h ≠ some (A.heap.size + 1) := fun h hlv hm => not_live hS.heap hlv hm ho (by simp) (by simp) (by simp)
    have hnD : ∀ h, (L h).live = true → μ' h ≠ some A.heap.size := fun h hlv hm => not_live hS.heap hlv hm hD (by simp) (by simp) (by simp)
    refine Code.wpIn_mono ?_ (ha _ hna (some (A.heap.size + 1)) (n - 1 - 1) B μ' ro' L _ _ B μ' ro' _ hl2 hE hS0)
    intro e a1 B1 hq
    cases e with
    | normal =>
      obtain ⟨s1, μ1, ro1, hE1, hS1⟩ := hq
      have hkl := hS1.since.same (A.heap.size + 1) (by omega) hnl
      have hgl : ¬ ro1 (A.heap.size + 1) := fun hr => by
        rcases hS1.since.ro_grow _ hr with h | h | ⟨q, hq, hm⟩
        · exact h5 h
        · omega
        · exact hnl q hq hm
      refine ⟨⟨hkl, hS1.since.same A.heap.size (by omega) hnD, fun b hb => ?_, hS1.since.size⟩, fun o1 o' ho1 => ?_⟩
      · rcases hb with hb | hb
        · exact hS1.since.same b (hS.heap.ro_lt b (h6 b hb)) (fun h hl hm => hS.heap.apart h b hl hm (h6 b hb))
        · exact hS1.since.same b (by have := hplt b hb; omega) (h7 b hb).2
      · have ho1' : B1.heap[A.heap.size + 1]? = some (.loop o) := hkl.trans ho
        have hput : ∀ x, x ≠ A.heap.size + 1 → (B1.putObj (A.heap.size + 1) (.loop o')).heap[x]? = B1.heap[x]? := fun x hx => World.putObj_heap_other hx
        have has : Aside μ1 ro1 s1.L B1 (B1.putObj (A.heap.size + 1) (.loop o')) := ⟨rfl, rfl, rfl, by rw [(putObj_grown B1 _ _).2]; exact Nat.le_refl _, fun b hb hne => by
            by_cases e : b = A.heap.size + 1
            · subst e; exact ⟨hgl, fun h hl hm => not_live hS1.heap hl hm ho1' (by simp) (by simp) (by simp)⟩
            · exact absurd (hput b e) hne, fun b c t fr hc => ⟨c, fr, by
            have : b ≠ A.heap.size + 1 := fun e => by subst e; rw [ho1'] at hc; cases hc
            rw [hput b this]; exact hc, rfl⟩⟩
        have hkk := has.keeps hS1.heap
        have hS1' : SR { C with p := C.p + pins.length } (B.putObj (A.heap.size + 1) (.loop o')) μ' ro' L (fun _ => False) s1 a1 (B1.putObj (A.heap.size + 1) (.loop o')) μ1 ro1 := by
          refine ⟨?_, hS1.len, fun i x v hx hv => (hS1.tmps i x v hx hv).keep hkk, has.hrel hS1.heap, hS1.fresh, hS1.glob.keep hkk, hS1.since.both ho ho1', hS1.pn⟩
          obtain ⟨Ds, m1, m2, m3⟩ := hS1.defers
          refine ⟨Ds, m1, m2, fun D hD => ?_⟩
          obtain ⟨a1, a2, a3⟩ := m3 D hD
          have : D ≠ A.heap.size + 1 := fun e => by rw [e, ho1'] at a1; cases a1
          exact ⟨(hput D this).trans a1, by rw [(putObj_grown B _ _).2]; exact a2, a3⟩
        refine Code.wpIn_mono ?_ (hb _ hnb (some (A.heap.size + 1)) (n - 1 - 1) _ μ' ro' L s1 a1 _ μ1 ro1 _ hl3 hE1 hS1')
        have hszA : (B.putObj (A.heap.size + 1) (.loop o')).heap.size = B.heap.size := (putObj_grown B _ _).2
        have hlA : (B.putObj (A.heap.size + 1) (.loop o')).heap[A.heap.size + 1]? = some (.loop o') := World.putObj_heap_same (Array.getElem?_eq_some_iff.1 ho).1
        have hDA : (B.putObj (A.heap.size + 1) (.loop o')).heap[A.heap.size]? = some (.deferred (some [])) := (World.putObj_heap_other (by omega)).trans hD
        have hrk : ∀ {s2 : St} {a2 : Act} {B2 : World} {μ2 : Nat → Option Nat} {ro2 : Nat → Prop}, SR { C with p := C.p + pins.length } (B.putObj (A.heap.size + 1) (.loop o')) μ' ro' L (fun _ => False) s2 a2 B2 μ2 ro2 → RKeeps ro priv (A.heap.size + 1) A.heap.size (B.putObj (A.heap.size + 1) (.loop o')) B2 := fun hS2 =>
          ⟨hS2.since.same _ (by omega) hnl, hS2.since.same _ (by omega) hnD, fun b hb => by
            rcases hb with hb | hb
            · exact hS2.since.same b (by rw [hszA]; exact hS.heap.ro_lt b (h6 b hb)) (fun h hl hm => hS.heap.apart h b hl hm (h6 b hb))
            · exact hS2.since.same b (by have := hplt b hb; omega) (h7 b hb).2, hS2.since.size⟩
        have hnx : ∀ {X : Heap → Nat → Prop} {s2 : St} {a2 : Act} {B2 : World} {μ2 : Nat → Option Nat} {ro2 : Nat → Prop}, SR { C with p := C.p + pins.length } (B.putObj (A.heap.size + 1) (.loop o')) μ' ro' L (fun _ => False) s2 a2 B2 μ2 ro2 → X s2.L s2.nx →
            Rnd C w0 μ0 ro0 L0 (C.p + pins.length) t2 a A ro priv X B2 := fun hS2 hX =>
          Rnd.next (C' := { C with p := C.p + pins.length }) hS h4 h5 h6 (fun b hb => ⟨hplt b hb, h7 b hb⟩) h8 h9 hD ho rfl htb (by omega) rfl (fun D hD => (hmk D hD).1) hw rfl rfl hS2 hX
        intro e a2 B2 hq2
        cases e with
        | normal => obtain ⟨s2, μ2, ro2, hE2, hS2⟩ := hq2; exact ⟨hrk hS2, hnx hS2 hE2⟩
        | ret => obtain ⟨s2, μ2, ro2, hE2, hS2⟩ := hq2; exact ⟨hrk hS2, hnx hS2 hE2⟩
        | exit id => obtain ⟨s2, μ2, ro2, hE2, hS2⟩ := hq2; exact ⟨hrk hS2, hnx hS2 hE2⟩
        | goto l => exact hq2.elim
        | panic ch => exact hq2.elim
        | outgrown => exact hq2.elim
    | ret => obtain ⟨s1, μ1, ro1, hE1, hS1⟩ := hq; exact hE1.elim
    | exit id => obtain ⟨s1, μ1, ro1, hE1, hS1⟩ := hq; exact hE1.elim
    | goto l => exact hq.elim
    | panic ch => exact hq.elim
    | outgrown => exact hq.elim
  · intro B hJ hD
    obtain ⟨L, nx, μ', ro', hE, hS, hpn, h4, h5, h6, h7, h8, h9⟩ := hJ
    rw [← hlen, List.drop_length, evRange] at hE
    exact ⟨_, μ', ro', hE, ⟨hS.defers.cons (fun hm => by have := (hmk _ hm).1; omega) hD hw h4, hS.len, hS.tmps, hS.heap, hS.fresh, hS.glob, hS.since, hS.pn⟩⟩
  · intro c i B _ hJ hD
    split at hJ
    · obtain ⟨L, nx, μ', ro', hE, hS, hpn, h4, h5, h6, h7, h8, h9⟩ := hJ
      exact wpIn_ret ⟨_, μ', ro', hE, ⟨hS.defers.cons (fun hm => by have := (hmk _ hm).1; omega) hD hw h4, hS.len, hS.tmps, hS.heap, hS.fresh, hS.glob, hS.since, hS.pn⟩⟩
    · obtain ⟨L, nx, μ', ro', hE, hS, hpn, h4, h5, h6, h7, h8, h9⟩ := hJ
      exact wpIn_exit ⟨_, μ', ro', hE, ⟨hS.defers.cons (fun hm => by have := (hmk _ hm).1; omega) hD hw h4, hS.len, hS.tmps, hS.heap, hS.fresh, hS.glob, hS.since, hS.pn⟩⟩
    · exact hJ.elim

end
end Pv
