/- The frames twenty-first part: code; a functions body. -/
import Derived.Test.YtmaahlifffjeoaaFf
import Derived.Test.YtmaahlifffjeoaaFi
import Derived.LoopNIn
namespace Pv
open Go

section
variable {P : Program} {C : Ctx} {w0 : World} {μ0 : Nat → Option Nat} {ro0 : Nat → Prop} {L0 : Heap} {r : Option Nat} {n : Nat} {ρ : Operand → PV}

theorem SR.set {D : Nat → Prop} {s : St} {a : Act} {w : World} {μ : Nat → Option Nat} {ro : Nat → Prop} (h : SR C w0 μ0 ro0 L0 D s a w μ ro) {d : Nat} {x : PV} (hx : ∀ v, a.tmps[d]? = some v → Rep C.T w μ ro x v) :
    SR C w0 μ0 ro0 L0 D ⟨s.t.set d x, s.L, s.nx⟩ a w μ ro := by
  refine ⟨h.defers, by simp [h.len], fun i y v hy hv => ?_, h.heap, h.fresh, h.glob, h.since, h.pn⟩
  simp only [List.getElem?_set] at hy
  by_cases e : d = i
  · subst e
    simp only [if_true] at hy
    split at hy
    · cases hy; exact hx v hv
    · cases hy
  · rw [if_neg e] at hy; exact h.tmps i y v hy hv

theorem SR.skip {D : Nat → Prop} {j : Nat} {s : St} {a : Act} {w : World} {μ : Nat → Option Nat} {ro : Nat → Prop} (h : SR C w0 μ0 ro0 L0 D s a w μ ro) (d : Option Nat) : SR C w0 μ0 ro0 L0 (fun i => D i ∨ i = j) ⟨putD s.t d .undef, s.L, s.nx⟩ (a.put d undef) w μ ro :=
  h.put (ups := []) (j := j) (.undef _) h.heap (Keeps.refl _ _ _) (Chg.refl _ _ _) (fun _ _ => rfl) (fun _ _ h => h) (Own.refl _ _ _) (fun _ hb => .inl hb)

theorem set_self {l : List PV} {d : Nat} {x : PV} (h : l.getD d .undef = x) (hd : d < l.length) : l.set d x = l := by
  have : l[d] = x := by rw [← h]; simp [List.getD, hd]
  rw [← this]; exact List.set_getElem_self hd

/-- Is it wanted? -/
theorem evOper_cases {ops : Array Oper} {D : Nat → Prop} {j : Nat} {o : Oper} {s : St} {a : Act} {w : World} {μ : Nat → Option Nat} {ro : Nat → Prop} {K : St → Prop}
    (hev : evOper C ops j o s K) (h : SR C w0 μ0 ro0 L0 D s a w μ ro) :
    (Region.wanted o (yielded ops a.tmps) = true ∧ evRun C (s.nx + 8 * j) s.t s.L o.op fun v u => K ⟨putD s.t o.dst v, upds s.L u, s.nx⟩) ∨
    (Region.wanted o (yielded ops a.tmps) = false ∧ K ⟨putD s.t o.dst .undef, s.L, s.nx⟩) := by
  unfold evOper at hev
  cases hg : o.guard with
  | none =>
    rw [hg] at hev
    exact .inl ⟨by simp [Region.wanted, hg], hev⟩
  | some gw =>
    obtain ⟨g, want⟩ := gw
    rw [hg] at hev
    simp only at hev
    split at hev
    · rename_i og hog
      split at hev
      · rename_i d hd
        split at hev
        · rename_i b hb
          have hdl : d < s.t.length := by
            rcases Nat.lt_or_ge d s.t.length with h1 | h1
            · exact h1
            · simp [List.getD, List.getElem?_eq_none h1] at hb
          have hda : d < a.tmps.size := by rw [← h.len]; exact hdl
          have hbv : a.tmps[d]? = some (.bool b) := by
            have h1 := h.tmps d (.bool b) a.tmps[d] (by rw [← hb]; simp [List.getD, hdl]) (by simp [hda])
            rw [Array.getElem?_eq_getElem hda, h1.bool_inv]
          have hy : yielded ops a.tmps g = some b := by simp [yielded, hog, hd, hbv]
          simp only [Region.wanted, hg, hy]
          cases hc : cond want b (!b) with
          | true =>
            rw [hc] at hev
            have e : want = b := (by decide : ∀ x y : Bool, cond x y (!y) = true → x = y) _ _ hc
            subst e
            rw [set_self hb hdl] at hev
            exact .inl ⟨by simp, hev⟩
          | false =>
            rw [hc] at hev
            have e : b = !want := (by decide : ∀ x y : Bool, cond x y (!y) = false → y = !x) _ _ hc
            rw [← e, set_self hb hdl] at hev
            exact .inr ⟨(by decide : ∀ x y : Bool, y = !x → (some y == some x) = false) _ _ e, hev⟩
        · exact hev.elim
      · exact hev.elim
    · exact hev.elim

theorem evOper_sound (hB : Base P C) {ops : Array Oper} {D : Nat → Prop} {j : Nat} (hD : ¬ D j) {o : Oper} {s : St} {a : Act} {w : World} {μ : Nat → Option Nat} {ro : Nat → Prop} {K : St → Prop} {next : Act → World → Prop} {Q : Exit → Act → World → Prop}
    (hev : evOper C ops j o s K) (h : SR C w0 μ0 ro0 L0 D s a w μ ro)
    (hn : ∀ s' a' w' μ' ro', K s' → SR C w0 μ0 ro0 L0 (fun i => D i ∨ i = j) s' a' w' μ' ro' → next a' w') :
    if Region.wanted o (yielded ops a.tmps) then o.wpIn (Fw r) n P a w next Q else (∀ f, o.about P w a.eval = some f → (Fw r).fn f) ∧ next (a.put o.dst undef) w := by
  rcases evOper_cases hev h with ⟨h1, h2⟩ | ⟨h1, h2⟩
  · rw [h1]; exact evRun_sound hB hD h h2 hn
  · rw [h1, if_neg (by simp)]
    exact ⟨fun _ _ => trivial, hn _ _ w μ ro h2 (h.skip o.dst)⟩

theorem evOps_sound (hB : Base P C) {ops : Array Oper} {Q : Exit → Act → World → Prop} {K : St → Prop} : ∀ (l : List Oper) (j : Nat) (s : St) (a : Act) (w : World) (μ : Nat → Option Nat) (ro : Nat → Prop), evOps C ops j l s K → SR C w0 μ0 ro0 L0 (· < j) s a w μ ro →
    (∀ s' a' w' μ' ro', K s' → SR C w0 μ0 ro0 L0 (· < j + l.length) s' a' w' μ' ro' → Q .normal a' w') → wpListIn (Fw r) n P ops Q l a w
  | [], j, s, a, w, μ, ro, hev, h, hn => hn s a w μ ro hev (by simpa using h)
  | o :: l, j, s, a, w, μ, ro, hev, h, hn => by
    have h1 := evOper_sound (r := r) (n := n) (Q := Q) hB (D := (· < j)) (Nat.lt_irrefl j) hev h (next := wpListIn (Fw r) n P ops Q l) (fun s' a' w' μ' ro' hK h' => evOps_sound hB l (j + 1) s' a' w' μ' ro' hK (h'.mono (by intro i; omega)) (fun s2 a2 w2 μ2 ro2 h2 h3 => hn s2 a2 w2 μ2 ro2 h2 (by
      exact h3.mono (by intro i; simp only [List.length_cons]; omega))))
    exact h1

theorem pure_noCall {op : Op} {ρ : Operand → PV} (h : pureNow op ρ = true) : calleeOf op = none := by
  unfold pureNow at h
  split at h <;> first | rfl | cases h

theorem pure_about {o : Oper} {a : Act} (hp : pureNow o.op ρ = true) (w : World) : o.about P w a.eval = none := by
  obtain ⟨dst, op, type, pos, after, guard⟩ := o
  simp only at hp
  unfold pureNow at hp
  split at hp <;> first | rfl | (cases hp; done)

theorem SR.drew {s : St} {a : Act} {w : World} {μ : Nat → Option Nat} {ro : Nat → Prop} {D : Nat → Prop} (h : SR C w0 μ0 ro0 L0 D s a w μ ro) : SR C w0 μ0 ro0 L0 D s a { w with drawn := w.drawn + 1 } μ ro := by
  have hk : Keeps μ μ ro ro w { w with drawn := w.drawn + 1 } := ⟨fun _ _ h => h, fun _ h => h, fun _ _ => rfl, fun _ c t fr h => ⟨c, fr, h, rfl⟩⟩
  refine ⟨h.defers, h.len, fun i x v hx hv => (h.tmps i x v hx hv).keep hk, ⟨h.heap.lt, h.heap.apart, h.heap.ro_lt, h.heap.inj, fun q => (h.heap.blk q).keep hk (fun _ _ => rfl)⟩, h.fresh, h.glob.keep hk,
    h.since.step hk ⟨rfl, rfl, rfl, Nat.le_refl _, fun _ _ _ => rfl⟩ (Own.refl _ _ _) (fun _ hb => .inl hb) (fun _ _ => rfl), h.pn⟩

theorem allP_spec {f : Nat → Prop} : ∀ {l : List Nat}, allP f l → ∀ i ∈ l, f i
  | [], _, _, hi => by simp at hi
  | [j], h, i, hi => by simp at hi; subst hi; exact h
  | j :: k :: r, h, i, hi => by
    rcases List.mem_cons.1 hi with e | hi
    · subst e; exact h.1
    · exact allP_spec h.2 i hi

theorem listed_mono {listed : Array Bool} {i : Nat} (hi : listed.getD i true = false) : ∀ k, (listed.getD k false = true ∨ k = i) → (listed.setIfInBounds i true).getD k false = true := by
  intro k hk
  have hil : i < listed.size := by
    rcases Nat.lt_or_ge i listed.size with h | h
    · exact h
    · simp [Array.getElem?_eq_none h] at hi
  by_cases e : k = i
  · subst e; simp [hil]
  · rcases hk with hk | hk
    · simp only [Array.getD_eq_getD_getElem?, Array.getElem?_setIfInBounds] at hk ⊢
      rw [if_neg (fun h => e h.symm)]; exact hk
    · exact absurd hk e

theorem listed_lt {listed : Array Bool} {i : Nat} (h : listed.getD i false = true) : i < listed.size := by
  rcases Nat.lt_or_ge i listed.size with h1 | h1
  · exact h1
  · simp [Array.getElem?_eq_none h1] at h

theorem evAny_sound (hB : Base P C) {ops : Array Oper} {Q : Exit → Act → World → Prop} (hs : Region.noSelect ops = true) (hQ : ∀ c a w, ¬ Q (.panic c) a w) {K : St → Prop} : ∀ (fuel : Nat) (listed : Array Bool) (s : St) (a : Act) (w : World) (μ : Nat → Option Nat) (ro : Nat → Prop), evAny C ops fuel listed s K →
    SR C w0 μ0 ro0 L0 (fun i => listed.getD i false = true) s a w μ ro →
    (∀ s' a' w' μ' ro' (D : Nat → Prop), (∀ i, D i → i < listed.size) → K s' → SR C w0 μ0 ro0 L0 D s' a' w' μ' ro' → Q .normal a' w') → wpAnyIn (Fw none) n P .any ops Q fuel listed a w
  | 0, listed, s, a, w, μ, ro, hev, h, hn => by
    unfold evAny at hev
    split at hev
    · rename_i e; exact ⟨e, hn s a w μ ro _ (fun i => listed_lt) hev h⟩
    · exact hev.elim
  | fuel + 1, listed, s, a, w, μ, ro, hev, h, hn => by
    unfold evAny at hev
    have step : ∀ i, i ∈ Region.ready .any ops listed → evAt C ops i s (fun s' => evAny C ops fuel (listed.setIfInBounds i true) s' K) → wpOpIn (Fw none) n P ops Q i (wpAnyIn (Fw none) n P .any ops Q fuel (listed.setIfInBounds i true)) a w := by
      intro i hi he
      obtain ⟨hun, o, ho, -⟩ := mem_ready.1 hi
      unfold evAt at he
      rw [ho] at he
      unfold wpOpIn
      rw [ho]
      refine evOper_sound hB (D := fun i => listed.getD i false = true) (j := i) ?_ he h (fun s' a' w' μ' ro' hK h' => evAny_sound hB hs hQ fuel _ s' a' w' μ' ro' hK (h'.mono (listed_mono hun)) (by simpa using hn))
      intro e
      have : i < listed.size := by
        rcases Nat.lt_or_ge i listed.size with h | h
        · exact h
        · simp [Array.getElem?_eq_none h] at e
      simp [this] at e hun
      rw [e] at hun; cases hun
    split at hev
    · rename_i i hf
      have hi := List.mem_of_find?_eq_some hf
      have hp := List.find?_some hf
      simp only [Bool.and_eq_true] at hp
      obtain ⟨hun, o, ho, -⟩ := mem_ready.1 hi
      unfold evAt at hev
      rw [ho] at hev
      have hpu : pureNow o.op (St.ev C.Γ s.t) = true := by have := hp.1; unfold pureAt at this; rw [ho] at this; exact this
      have key : ∃ v s', YieldsFenced P ops o v a ∧ evAny C ops fuel (listed.setIfInBounds i true) s' K ∧ SR C w0 μ0 ro0 L0 (fun k => (listed.setIfInBounds i true).getD k false = true) s' (a.put o.dst v) w μ ro := by
        rcases evOper_cases hev h with ⟨h1, h2⟩ | ⟨h1, h2⟩
        · unfold evRun at h2
          rw [pure_noCall hpu] at h2
          obtain ⟨v, pv, h3, h4, h5⟩ := pure_sound (P := P) hB.fitsT hB.sized hB.eq (o := o) hpu h2 (fun x => h.eval x)
          refine ⟨v, _, ⟨.inl ⟨h1, h3⟩, pure_about hpu⟩, h4, ?_⟩
          exact (h.put (ups := []) (j := i) h5 h.heap (Keeps.refl _ _ _) (Chg.refl _ _ _) (fun _ _ => rfl) (fun _ _ h => h) (Own.refl _ _ _) (fun _ hb => .inl hb)).mono (listed_mono hun)
        · exact ⟨undef, _, ⟨.inr ⟨h1, rfl⟩, pure_about hpu⟩, h2, (h.skip o.dst).mono (listed_mono hun)⟩
      obtain ⟨v, s', hy, he, h'⟩ := key
      exact wpAnyIn_take rfl ho hs hp.2 (by simpa using hi) (fun c a w hq => (hQ _ _ _ hq).elim) hy (evAny_sound hB hs hQ fuel _ s' _ w μ ro he h' (by simpa using hn))
    · split at hev
      · rename_i e; exact wpAnyIn_done e (hn s a w μ ro _ (fun i => listed_lt) hev h) _
      · rename_i j r e
        refine ⟨fun h0 => (by rw [e] at h0; cases h0), fun i hi => step i hi ?_⟩
        exact allP_spec hev i (by rw [← e]; exact hi)

theorem range_pre {p : Nat} {xs : List PV} {L : Heap} {fuel : Nat} : ∃ q, reach L fuel 0 (addNew (List.range p) (PV.hss xs)) = List.range p ++ q ∧ (reach L fuel 0 (addNew (List.range p) (PV.hss xs))).Nodup := by
  obtain ⟨h1, q1, e1⟩ := addNew_spec (PV.hss xs) (List.range p) List.nodup_range
  obtain ⟨h2, q2, e2⟩ := reach_spec L fuel 0 _ h1
  exact ⟨q1 ++ q2, by rw [e2, e1, List.append_assoc], h2⟩

theorem hp_map_get {R : List Nat} {g : Nat → Blk} (k : Nat) : hp (R.map g) k = match R[k]? with | some h => g h | none => .gone := by
  unfold hp
  cases e : R[k]? with
  | none => simp [List.getD, e]
  | some h => simp [List.getD, e]

/-- Renumbered, the frame stands as before. -/
theorem Since.renum {p : Nat} {w : World} {μ : Nat → Option Nat} {ro : Nat → Prop} {L : Heap} (h : Since w0 μ0 ro0 L0 p w μ ro L) {R q : List Nat} (hR : R = List.range p ++ q) : Since w0 μ0 ro0 L0 p w (muOf R μ) ro (hp (R.map fun h => (L h).ren (idx R))) := by
  refine ⟨h.os, h.tape, h.output, h.size, h.same, h.shape, h.ro_mono, h.ro_grow, fun k b hl hm => ?_, fun k hk => ?_⟩
  · rw [hp_map_get] at hl
    unfold muOf at hm
    cases e : R[k]? with
    | none => rw [e] at hm; cases hm
    | some x => rw [e] at hm hl; simp only [live_ren] at hl; exact h.own x b hl hm
  · have e : R[k]? = some k := by rw [hR, List.getElem?_append_left (by simpa using hk)]; simp [hk]
    unfold muOf; rw [e]; exact h.mup k hk

theorem tidy_sound {D : Nat → Prop} {s : St} {a : Act} {w : World} {μ : Nat → Option Nat} {ro : Nat → Prop} {K : St → Prop} (hev : tidy C.p s.t s.L fun t bs => K (mkSt t bs)) (h : SR C w0 μ0 ro0 L0 D s a w μ ro) :
    ∃ s' μ', K s' ∧ SR C w0 μ0 ro0 L0 (fun _ => False) s' a w μ' ro := by
  unfold tidy at hev
  simp only at hev
  obtain ⟨q, hR, hn⟩ := range_pre (p := C.p) (xs := s.t) (L := s.L) (fuel := 60)
  generalize reach s.L 60 0 (addNew (List.range C.p) (PV.hss s.t)) = R at hev hR hn
  obtain ⟨hc, hK⟩ := cond_and hev
  obtain ⟨hc1, hc2⟩ := closed_spec hc
  refine ⟨_, muOf R μ, hK, h.defers, ?_, fun i x v hx hv => ?_, h.heap.renum hn hc, fun k hk _ => ?_, h.glob.mu, h.since.renum hR, ?_⟩
  · simp [mkSt, rens_eq, h.len]
  · simp only [mkSt, rens_eq, List.getElem?_map, Option.map_eq_some_iff] at hx
    obtain ⟨y, hy, rfl⟩ := hx
    have hm := List.mem_of_getElem? hy
    exact Rep.ren (h.tmps i y v hy hv) (fun q hq => muOf_idx (hc1 y hm q hq))
  · simp only [mkSt, List.length_map] at hk
    refine ⟨hp_gone (by simpa using hk), ?_⟩
    unfold muOf; rw [List.getElem?_eq_none hk]; rfl
  · simp [mkSt, hR]

theorem SR.keep {D : Nat → Prop} {s : St} {a : Act} {w : World} {μ : Nat → Option Nat} {ro : Nat → Prop} (h : SR C w0 μ0 ro0 L0 D s a w μ ro) (k : List Nat) : SR C w0 μ0 ro0 L0 D ⟨keepT k s.t, s.L, s.nx⟩ a w μ ro := by
  refine ⟨h.defers, by simp [keepT, h.len], fun i x v hx hv => ?_, h.heap, h.fresh, h.glob, h.since, h.pn⟩
  simp only [keepT, List.getElem?_mapIdx, Option.map_eq_some_iff] at hx
  obtain ⟨z, hz, rfl⟩ := hx
  cases k.contains i with
  | true => exact h.tmps i z v hz hv
  | false => exact .undef _

/-- A block of no elements, that is nowhere. -/
theorem SR.empty {D : Nat → Prop} {s : St} {a : Act} {w : World} {μ : Nat → Option Nat} {ro : Nat → Prop} (h : SR C w0 μ0 ro0 L0 D s a w μ ro) {k : Nat} (hm : μ k = none) (ty : Nat) :
    SR C w0 μ0 ro0 L0 (fun i => D i ∨ i = (k - s.nx) / 8) ⟨s.t, upd s.L k (.row true ty []), s.nx⟩ a w μ ro := by
  have hne : ∀ q b, μ q = some b → q ≠ k := fun q b e hq => by subst hq; rw [hm] at e; cases e
  have hl0 : ∀ q b, μ q = some b → (upd s.L k (.row true ty []) q).live = true → (s.L q).live = true := fun q b hq hl => by rw [upd_other (hne q b hq)] at hl; exact hl
  refine ⟨h.defers, h.len, h.tmps, ⟨h.heap.lt, fun q b hl hq => h.heap.apart q b (hl0 q b hq hl) hq, h.heap.ro_lt, fun q q2 b hl hl2 hq hq2 => h.heap.inj q q2 b (hl0 q b hq hl) (hl0 q2 b hq2 hl2) hq hq2, fun q => ?_⟩, fun q hq hD => ?_, h.glob, ?_, h.pn⟩
  · show BRel C.T w μ ro (μ q) (upd s.L k (.row true ty []) q)
    by_cases e : q = k
    · subst e; rw [upd_same, hm]
      exact ⟨fun x hx => by simp at hx, fun _ => rfl, fun b e => by cases e⟩
    · rw [upd_other e]; exact h.heap.blk q
  · have : q ≠ k := fun e => by subst e; exact hD (.inr rfl)
    obtain ⟨h1, h2⟩ := h.fresh q hq (fun e => hD (.inl e))
    exact ⟨by simp only; rw [upd_other this]; exact h1, h2⟩
  · exact ⟨h.since.os, h.since.tape, h.since.output, h.since.size, h.since.same, h.since.shape, h.since.ro_mono, h.since.ro_grow, fun q b hl hq => h.since.own q b (hl0 q b hq hl) hq, h.since.mup⟩

theorem owned_sound {K : List PV → Heap → Prop} {a : Act} {w : World} {μ : Nat → Option Nat} {ro : Nat → Prop} : ∀ (l : List (Nat × Nat)) (hb : Nat) (s : St) (D : Nat → Prop), owned hb l s.t s.L K → SR C w0 μ0 ro0 L0 D s a w μ ro → s.nx ≤ hb → (∀ k, hb ≤ k → s.L k = .gone ∧ μ k = none) →
    ∃ s', K s'.t s'.L ∧ ∃ D', SR C w0 μ0 ro0 L0 D' s' a w μ ro
  | [], hb, s, D, hev, h, _, _ => ⟨s, hev, D, h⟩
  | (d, ty) :: r, hb, s, D, hev, h, hnx, hfr => by
    unfold owned at hev
    split at hev
    · rename_i e
      have h1 := h.empty (hfr hb (Nat.le_refl _)).2 ty
      have h2 := h1.set (d := d) (x := .sl hb ty 0 0) (fun v hv => by
        have h3 := h.tmps d .nilsl v (by
          have hdl : d < s.t.length := by
            rcases Nat.lt_or_ge d s.t.length with h4 | h4
            · exact h4
            · simp [List.getD, List.getElem?_eq_none h4] at e
          rw [List.getElem?_eq_getElem hdl, ← e]; simp [List.getD, hdl]) hv
        rw [h3.nilsl_inv]; exact .slE _ _ _ _)
      exact owned_sound r (hb + 1) ⟨s.t.set d (.sl hb ty 0 0), upd s.L hb (.row true ty []), s.nx⟩ _ hev h2 (by simp only; omega) (fun k hk => by
        have : k ≠ hb := by omega
        exact ⟨by simp only; rw [upd_other this]; exact (hfr k (by omega)).1, (hfr k (by omega)).2⟩)
    · exact owned_sound r hb s D hev h hnx hfr

theorem clean_sound {D : Nat → Prop} {id n : Nat} {s : St} {a : Act} {w : World} {μ : Nat → Option Nat} {ro : Nat → Prop} {K : St → Prop} (hev : clean C id n s K) (h : SR C w0 μ0 ro0 L0 D s a w μ ro) (hD : ∀ i, D i → i < n) :
    ∃ s' μ', K s' ∧ SR C w0 μ0 ro0 L0 (fun _ => False) s' a w μ' ro := by
  unfold clean at hev
  obtain ⟨s1, h1, D1, h2⟩ := owned_sound (C.own id) (s.nx + 8 * n) ⟨keepT (C.keep id) s.t, s.L, s.nx⟩ D hev (h.keep _) (by simp only; omega) (fun k hk => h.fresh k (by omega) (fun hd => by
    have := hD _ hd
    omega))
  exact tidy_sound h1 h2

theorem SR.eqMk {s : St} {a : Act} {w : World} {μ : Nat → Option Nat} {ro : Nat → Prop} (h : SR C w0 μ0 ro0 L0 (fun _ => False) s a w μ ro) : s = mkSt s.t s.bs := by
  obtain ⟨t, L, nx⟩ := s
  have hL : L = hp ((List.range nx).map L) := by
    funext k
    rw [hp_map_get]
    rcases Nat.lt_or_ge k nx with hk | hk
    · simp [hk]
    · have := (h.fresh k hk (fun x => x)).1
      simp only at this
      simp [this, List.getElem?_eq_none (show (List.range nx).length ≤ k by simpa using hk)]
  simp only [mkSt, St.bs, List.length_map, List.length_range]
  rw [← hL]

/-- The machines exits, and the frames. -/
def QK (C : Ctx) (w0 : World) (μ0 : Nat → Option Nat) (ro0 : Nat → Prop) (L0 : Heap) (K : Ex → St → Prop) : Exit → Act → World → Prop
  | .normal, a, w => ∃ s μ ro, K .normal s ∧ SR C w0 μ0 ro0 L0 (fun _ => False) s a w μ ro
  | .exit id, a, w => ∃ s μ ro, K (.exit id) s ∧ SR C w0 μ0 ro0 L0 (fun _ => False) s a w μ ro
  | .ret, a, w => ∃ s μ ro, K .ret s ∧ SR C w0 μ0 ro0 L0 (fun _ => False) s a w μ ro
  | _, _, _ => False

/-- A continuation of states, from one of temporaries and blocks. -/
def onSt (K : Ex → List PV → List Blk → Prop) : Ex → St → Prop := fun e s => K e s.t s.bs

/-- What the contracts of pieces of code say. -/
def LoopsOk (C : Ctx) : Code → Prop
  | .seq a b => (∀ l, C.J (firstRegion b) = some l → ∀ t bs K, l t bs K → evC C b (mkSt t bs) (onSt K)) ∧ LoopsOk C a ∧ LoopsOk C b
  | .cond _ a b => LoopsOk C a ∧ LoopsOk C b
  | .block _ c => LoopsOk C c
  | .loop c => (∀ l, C.Λ (firstRegion c) = some l → ∀ t bs K, l t bs K → ∃ n, evLoop C c n (mkSt t bs) (onSt K)) ∧ LoopsOk C c
  | _ => True

theorem QK.of_on {K : Ex → St → Prop} {e : Exit} {a : Act} {w : World} (h : QK C w0 μ0 ro0 L0 (onSt fun e t bs => K e (mkSt t bs)) e a w) : QK C w0 μ0 ro0 L0 K e a w := by
  cases e with
  | normal => obtain ⟨s, μ, ro, hK, h'⟩ := h; rw [onSt, ← h'.eqMk] at hK; exact ⟨s, μ, ro, hK, h'⟩
  | exit id => obtain ⟨s, μ, ro, hK, h'⟩ := h; rw [onSt, ← h'.eqMk] at hK; exact ⟨s, μ, ro, hK, h'⟩
  | ret => obtain ⟨s, μ, ro, hK, h'⟩ := h; rw [onSt, ← h'.eqMk] at hK; exact ⟨s, μ, ro, hK, h'⟩
  | goto l => exact h
  | panic ch => exact h
  | outgrown => exact h

theorem evC_sound (hB : Base P C) (hr : C.mixed = true → r = none) : ∀ (c : Code) (s : St) (a : Act) (w : World) (μ : Nat → Option Nat) (ro : Nat → Prop) (K : Ex → St → Prop), LoopsOk C c → evC C c s K → SR C w0 μ0 ro0 L0 (fun _ => False) s a w μ ro →
    c.wpIn (Fw r) n P (QK C w0 μ0 ro0 L0 K) a w
  | .skip, s, a, w, μ, ro, K, _, hev, h => wpIn_skip ⟨s, μ, ro, hev, h⟩
  | .region id ops draw, s, a, w, μ, ro, K, _, hev, h => by
    rw [evC] at hev
    cases draw with
    | false =>
      simp only [cond_false] at hev
      refine wpIn_region_list (evOps_sound hB ops.toList 0 s a w μ ro hev (h.mono (by intro i hi; exact hi.elim)) ?_)
      intro s' a' w' μ' ro' hK h'
      have hD : ∀ i, i < 0 + ops.toList.length → i < ops.size := fun i hi => by simpa using hi
      obtain ⟨s2, μ2, h2, h3⟩ := clean_sound hK h' hD
      exact ⟨s2, μ2, ro', h2, h3⟩
    | true =>
      simp only [cond_true] at hev
      obtain ⟨hc, hev⟩ := cond_and hev
      simp only [Bool.and_eq_true] at hc
      obtain rfl := hr hc.2
      have h1 : SR C w0 μ0 ro0 L0 (fun i => (Array.replicate ops.size false).getD i false = true) s a { w with drawn := w.drawn + 1 } μ ro := (h.drew).mono (by intro i hi; exact hi.elim)
      refine wpIn_region_any (hB.mixed hc.2) (evAny_sound hB hc.1 (fun c a w hq => (show False from hq)) _ _ s a _ μ ro hev h1 ?_)
      intro s' a' w' μ' ro' D hD hK h'
      obtain ⟨s2, μ2, h2, h3⟩ := clean_sound hK h' (by simpa using hD)
      exact ⟨s2, μ2, ro', h2, h3⟩
  | .seq x y, s, a, w, μ, ro, K, hl, hev, h => by
    refine wpIn_seq (wpIn_mono (evC_sound hB hr x s a w μ ro _ hl.2.1 hev h) ?_)
    intro e a' w' hq
    cases e with
    | normal =>
      obtain ⟨s', μ', ro', hK, h'⟩ := hq
      simp only at hK
      split at hK
      · rename_i l hJ
        have h1 := hl.1 l hJ _ _ _ hK
        rw [← h'.eqMk] at h1
        exact wpIn_mono (evC_sound hB hr y s' a' w' μ' ro' _ hl.2.2 h1 h') (fun _ _ _ h => h.of_on)
      · exact evC_sound hB hr y s' a' w' μ' ro' K hl.2.2 hK h'
    | exit id => exact hq
    | ret => exact hq
    | goto l => exact hq
    | panic ch => exact hq
    | outgrown => exact hq
  | .cond c x y, s, a, w, μ, ro, K, hl, hev, h => by
    rw [evC] at hev
    split at hev
    · rename_i g hg
      have hc := h.eval c
      simp only at hc
      rw [hg] at hc
      have h' : SR C w0 μ0 ro0 L0 (fun _ => False) ⟨dropT c s.t, s.L, s.nx⟩ a w μ ro := by
        cases c <;> first | exact h | exact h.set (fun v _ => .undef v)
      refine wpIn_cond_split hc.bool_inv (fun e => ?_) (fun e => ?_)
      · subst e; exact evC_sound hB hr x _ a w μ ro K hl.1 hev h'
      · subst e; exact evC_sound hB hr y _ a w μ ro K hl.2 hev h'
    · exact hev.elim
  | .block id c, s, a, w, μ, ro, K, hl, hev, h => by
    refine wpIn_block (wpIn_mono (evC_sound hB hr c s a w μ ro _ hl hev h) ?_)
    intro e a' w' hq
    cases e with
    | normal => exact hq
    | exit i =>
      obtain ⟨s', μ', ro', hK, h'⟩ := hq
      simp only [Exit.inBlock]
      simp only at hK
      by_cases e : i = id
      · subst e; rw [if_pos rfl]; simp only [Nat.beq_refl, cond_true] at hK; exact ⟨s', μ', ro', hK, h'⟩
      · rw [if_neg e]; rw [nbeq e] at hK; exact ⟨s', μ', ro', hK, h'⟩
    | ret => exact hq
    | goto l => exact hq
    | panic ch => exact hq
    | outgrown => exact hq
  | .loop c, s, a, w, μ, ro, K, hl, hev, h => by
    rw [evC] at hev
    split at hev
    · rename_i l hΛ
      obtain ⟨m, hm⟩ := hl.1 l hΛ _ _ _ hev
      rw [← h.eqMk] at hm
      have ih := evC_sound hB hr c
      have rounds : ∀ (m : Nat) (s : St) (a : Act) (w : World) (μ : Nat → Option Nat) (ro : Nat → Prop) (K : Ex → St → Prop), evLoop C c m s K → SR C w0 μ0 ro0 L0 (fun _ => False) s a w μ ro → Code.roundsIn (Fw r) n P c (QK C w0 μ0 ro0 L0 K) m a w := by
        intro m
        induction m with
        | zero => intro s a w μ ro K hm; exact hm.elim
        | succ m ihm =>
          intro s a w μ ro K hm h
          rw [roundsIn_succ]
          refine wpIn_mono (ih s a w μ ro _ hl.2 hm h) ?_
          intro e a' w' hq
          cases e with
          | normal => obtain ⟨s', μ', ro', hK, h'⟩ := hq; exact ihm s' a' w' μ' ro' K hK h'
          | exit id => exact hq
          | ret => exact hq
          | goto l => exact hq
          | panic ch => exact hq
          | outgrown => exact hq
      exact wpIn_mono (wpIn_loop_rounds m (rounds m s a w μ ro _ hm h)) (fun _ _ _ h => h.of_on)
    · exact hev.elim
  | .exit id, s, a, w, μ, ro, K, _, hev, h => wpIn_exit ⟨s, μ, ro, hev, h⟩
  | .ret, s, a, w, μ, ro, K, _, hev, h => wpIn_ret ⟨s, μ, ro, hev, h⟩
  | .rangeFunc .., _, _, _, _, _, _, _, hev, _ => hev.elim
  | .scope _, _, _, _, _, _, _, _, hev, _ => hev.elim
  | .label _, _, _, _, _, _, _, _, hev, _ => hev.elim
  | .goto _, _, _, _, _, _, _, _, hev, _ => hev.elim
  | .refuse _, _, _, _, _, _, _, _, hev, _ => hev.elim

/-- The results, read. -/
theorem ress_sound (hB : Base P C) {a : Act} {w : World} {μ : Nat → Option Nat} {ro : Nat → Prop} {s : St} {D : Nat → Prop} (h : SR C w0 μ0 ro0 L0 D s a w μ ro) : ∀ (rs : List ResultVar) (K : List PV → Prop), ress C.T s.t s.L rs K →
    ∃ (vs : List Value) (xs : List PV), (rs.mapM fun | .tmp t => pure (a.tmps.getD t undef) | .cell p t => do loadVar t (← asAddr (a.tmps.getD p undef)) : Sem (List Value)).run P w = .ok vs w ∧ K xs ∧ xs.length = vs.length ∧ ∀ (i : Nat) x v, xs[i]? = some x → vs[i]? = some v → Rep C.T w μ ro x v
  | [], K, hev => ⟨[], [], by simp, hev, rfl, fun i x v hx _ => by simp at hx⟩
  | rv :: rs, K, hev => by
    have one : ∃ v x, ((fun | .tmp t => pure (a.tmps.getD t undef) | .cell p t => do loadVar t (← asAddr (a.tmps.getD p undef)) : ResultVar → Sem Value) rv).run P w = .ok v w ∧ ress C.T s.t s.L rs (fun xs => K (x :: xs)) ∧ Rep C.T w μ ro x v := by
      cases rv with
      | tmp t => exact ⟨a.tmps.getD t undef, _, by simp, hev, h.eval (.tmp t)⟩
      | cell p t =>
        obtain ⟨v, h1, x, h2, h3⟩ := evLoad_sound (P := P) hB.fitsT hB.sized hev (h.eval (.tmp p)) h.heap
        refine ⟨v, x, ?_, h2, h3⟩
        have hpv := h.eval (.tmp p)
        simp only [Act.eval] at h1 hpv
        have hp2 : ∃ q, a.tmps.getD p undef = .pointer (some q) := by
          simp only [ress, resOf] at hev
          unfold evLoad at hev
          split at hev
          · rename_i e
            simp only [St.ev, e] at hpv
            obtain ⟨b, -, hv⟩ := hpv.ptr_inv
            exact ⟨_, hv⟩
          · rename_i e
            simp only [St.ev, e] at hpv
            obtain ⟨b, off, hv, -⟩ := hpv.vptr_inv
            exact ⟨_, hv⟩
          · exact hev.elim
        obtain ⟨q, hq⟩ := hp2
        rw [hq] at h1
        simp only [hq]
        simpa [Instr.loadAt, Instr.sureAddr, asAddr] using h1
    obtain ⟨v, x, h1, h2, h3⟩ := one
    obtain ⟨vs, xs, h4, h5, h6, h7⟩ := ress_sound hB h rs _ h2
    refine ⟨v :: vs, x :: xs, ?_, h5, by simp [h6], fun i y u hy hu => ?_⟩
    · rw [List.mapM_cons]
      simp only [Sem.run_bind, h1, Result.andThen_ok, h4, Sem.run_pure]
    · cases i with
      | zero => simp at hy hu; subst hy; subst hu; exact h3
      | succ i => exact h7 i y u (by simpa using hy) (by simpa using hu)

end
end Pv
