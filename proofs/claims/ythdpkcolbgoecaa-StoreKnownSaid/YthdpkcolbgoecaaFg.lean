/- The frames twenty-first part: code; a functions body. -/
import Derived.Test.YthdpkcolbgoecaaGb
import Derived.LoopNIn

namespace Pv
open Go

section
variable {P : Program} {C : Ctx} {w0 : World} {μ0 : Nat → Option Nat} {ro0 : Nat → Prop} {L0 : Heap} {r : Option Nat} {n : Nat} {ρ : Operand → PV}

theorem SR.set {D : Nat → Prop} {s : St} {a : Act} {w : World} {μ : Nat → Option Nat} {ro : Nat → Prop} (h : SR C w0 μ0 ro0 L0 D s a w μ ro) {d : Nat} {x : PV} (hx : ∀ v, a.tmps[d]? = some v → Rep C.T w μ ro x v) :
    SR C w0 μ0 ro0 L0 D ⟨s.t.set d x, s.L, s.nx⟩ a w μ ro := by
  refine ⟨h.defers, by simp [h.len], fun i y v hy hv => ?_, h.heap, h.fresh, h.glob, h.since, h.pn⟩
  simp only [List.getElem?_set] at hy
  by_cases e : d = i
  · subst e
    simp only [if_true] at hy
    split at hy
    · cases hy; exact hx v hv
    · cases hy
  · rw [if_neg e] at hy; exact h.tmps i y v hy hv

theorem SR.skip {D : Nat → Prop} {j : Nat} {s : St} {a : Act} {w : World} {μ : Nat → Option Nat} {ro : Nat → Prop} (h : SR C w0 μ0 ro0 L0 D s a w μ ro) (d : Option Nat) : SR C w0 μ0 ro0 L0 (fun i => D i ∨ i = j) ⟨putD s.t d (.tup []), s.L, s.nx⟩ (a.put d undef) w μ ro :=
  h.put (ups := []) (j := j) (.tup [] #[] rfl (fun i x v hx _ => by simp at hx)) h.heap (Keeps.refl _ _ _) (Chg.refl _ _ _) (fun _ _ => rfl) (fun _ _ h => h) (Own.refl _ _ _) (fun _ hb => .inl hb)

theorem set_self {l : List PV} {d : Nat} {x : PV} (h : l.getD d .undef = x) (hd : d < l.length) : l.set d x = l := by
  have : l[d] = x := by rw [← h]; simp [List.getD, hd]
  rw [← this]; exact List.set_getElem_self hd

/-- Is it wanted? -/
theorem evOper_cases {ops : Array Oper} {D : Nat → Prop} {j : Nat} {o : Oper} {s : St} {a : Act} {w : World} {μ : Nat → Option Nat} {ro : Nat → Prop} {K : St → Prop}
    (hev : evOper C ops j o s K) (h : SR C w0 μ0 ro0 L0 D s a w μ ro) :
    (Region.wanted o (yielded ops a.tmps) = true ∧ evRun C (s.nx + 8 * j) s.t s.L o.op fun v u => K ⟨putD s.t o.dst v, upds s.L u, s.nx⟩) ∨
    (Region.wanted o (yielded ops a.tmps) = false ∧ K ⟨putD s.t o.dst (.tup []), s.L, s.nx⟩) := by
  unfold evOper at hev
  simp only [setD_eq, setK_eq] at hev
  cases hg : o.guard with
  | none =>
    rw [hg] at hev
    exact .inl ⟨by simp [Region.wanted, hg], hev⟩
  | some gw =>
    obtain ⟨g, want⟩ := gw
    rw [hg] at hev
    simp only at hev
    split at hev
    · rename_i og hog
      split at hev
      · rename_i d hd
        split at hev
        · rename_i b hb
          have hdl : d < s.t.length := by
            rcases Nat.lt_or_ge d s.t.length with h1 | h1
            · exact h1
            · simp [List.getD, List.getElem?_eq_none h1] at hb
          have hda : d < a.tmps.size := by rw [← h.len]; exact hdl
          have hbv : a.tmps[d]? = some (.bool b) := by
            have h1 := h.tmps d (.bool b) a.tmps[d] (by rw [← hb]; simp [List.getD, hdl]) (by simp [hda])
            rw [Array.getElem?_eq_getElem hda, h1.bool_inv]
          have hy : yielded ops a.tmps g = some b := by simp [yielded, hog, hd, hbv]
          simp only [Region.wanted, hg, hy]
          cases hc : cond want b (!b) with
          | true =>
            rw [hc] at hev
            have e : want = b := (by decide : ∀ x y : Bool, cond x y (!y) = true → x = y) _ _ hc
            subst e
            rw [set_self hb hdl] at hev
            exact .inl ⟨by simp, hev⟩
          | false =>
            rw [hc] at hev
            have e : b = !want := (by decide : ∀ x y : Bool, cond x y (!y) = false → y = !x) _ _ hc
            rw [← e, set_self hb hdl] at hev
            exact .inr ⟨(by decide : ∀ x y : Bool, y = !x → (some y == some x) = false) _ _ e, hev⟩
        · rename_i hb
          have hdl : d < s.t.length := by
            rcases Nat.lt_or_ge d s.t.length with h1 | h1
            · exact h1
            · simp [List.getD, List.getElem?_eq_none h1] at hb
          have hda : d < a.tmps.size := by rw [← h.len]; exact hdl
          have hbv : a.tmps[d]? = some (.tuple #[]) := by
            have h1 := h.tmps d (.tup []) a.tmps[d] (by rw [← hb]; simp [List.getD, hdl]) (by simp [hda])
            obtain ⟨vs, e, h2, -⟩ := h1.tup_inv
            have : vs = #[] := Array.eq_empty_of_size_eq_zero (by simpa using h2.symm)
            rw [Array.getElem?_eq_getElem hda, e, this]
          have hy : yielded ops a.tmps g = none := by simp [yielded, hog, hd, hbv]
          exact .inr ⟨by simp [Region.wanted, hg, hy], hev⟩
        · exact hev.elim
      · exact hev.elim
    · exact hev.elim

theorem evOper_sound (hB : Base P C) {ops : Array Oper} {D : Nat → Prop} {j : Nat} (hD : ¬ D j) {o : Oper} {s : St} {a : Act} {w : World} {μ : Nat → Option Nat} {ro : Nat → Prop} {K : St → Prop} {next : Act → World → Prop} {Q : Exit → Act → World → Prop}
    (hev : evOper C ops j o s K) (h : SR C w0 μ0 ro0 L0 D s a w μ ro)
    (hn : ∀ s' a' w' μ' ro', K s' → SR C w0 μ0 ro0 L0 (fun i => D i ∨ i = j) s' a' w' μ' ro' → next a' w') :
    if Region.wanted o (yielded ops a.tmps) then o.wpIn (Fw r) n P a w next Q else (∀ f, o.about P w a.eval = some f → (Fw r).fn f) ∧ next (a.put o.dst undef) w := by
  rcases evOper_cases hev h with ⟨h1, h2⟩ | ⟨h1, h2⟩
  · rw [h1]; exact evRun_sound hB hD h h2 hn
  · rw [h1, if_neg (by simp)]
    exact ⟨fun _ _ => trivial, hn _ _ w μ ro h2 (h.skip o.dst)⟩

theorem evOps_sound (hB : Base P C) {ops : Array Oper} {Q : Exit → Act → World → Prop} {K : St → Prop} : ∀ (l : List Oper) (j : Nat) (s : St) (a : Act) (w : World) (μ : Nat → Option Nat) (ro : Nat → Prop), evOps C ops j l s K → SR C w0 μ0 ro0 L0 (· < j) s a w μ ro →
    (∀ s' a' w' μ' ro', K s' → SR C w0 μ0 ro0 L0 (· < j + l.length) s' a' w' μ' ro' → Q .normal a' w') → wpListIn (Fw r) n P ops Q l a w
  | [], j, s, a, w, μ, ro, hev, h, hn => hn s a w μ ro hev (by simpa using h)
  | o :: l, j, s, a, w, μ, ro, hev, h, hn => by
    have h1 := evOper_sound (r := r) (n := n) (Q := Q) hB (D := (· < j)) (Nat.lt_irrefl j) hev h (next := wpListIn (Fw r) n P ops Q l) (fun s' a' w' μ' ro' hK h' => evOps_sound hB l (j + 1) s' a' w' μ' ro' hK (h'.mono (by intro i; omega)) (fun s2 a2 w2 μ2 ro2 h2 h3 => hn s2 a2 w2 μ2 ro2 h2 (by
      exact h3.mono (by intro i; simp only [List.length_cons]; omega))))
    exact h1

theorem pure_noCall {op : Op} {ρ : Operand → PV} (h : pureNow op ρ = true) : calleeOf op = none := by
  unfold pureNow at h
  split at h <;> first | rfl | cases h

theorem pure_about {o : Oper} {a : Act} (hp : pureNow o.op ρ = true) (w : World) : o.about P w a.eval = none := by
  obtain ⟨dst, op, type, pos, after, guard⟩ := o
  simp only at hp
  unfold pureNow at hp
  split at hp <;> first | rfl | (cases hp; done)

theorem SR.drew {s : St} {a : Act} {w : World} {μ : Nat → Option Nat} {ro : Nat → Prop} {D : Nat → Prop} (h : SR C w0 μ0 ro0 L0 D s a w μ ro) : SR C w0 μ0 ro0 L0 D s a { w with drawn := w.drawn + 1 } μ ro := by
  have hk : Keeps μ μ ro ro w { w with drawn := w.drawn + 1 } := ⟨fun _ _ h => h, fun _ h => h, fun _ _ => rfl, fun _ c t fr h => ⟨c, fr, h, rfl⟩⟩
  refine ⟨h.defers, h.len, fun i x v hx hv => (h.tmps i x v hx hv).keep hk, ⟨h.heap.lt, h.heap.apart, h.heap.ro_lt, h.heap.inj, fun q => (h.heap.blk q).keep hk (fun _ _ => rfl)⟩, h.fresh, h.glob.keep hk,
    h.since.step hk ⟨rfl, rfl, rfl, Nat.le_refl _, fun _ _ _ => rfl⟩ (Own.refl _ _ _) (fun _ hb => .inl hb) (fun _ _ => rfl), h.pn⟩

theorem allP_spec {f : Nat → Prop} : ∀ {l : List Nat}, allP f l → ∀ i ∈ l, f i
  | [], _, _, hi => by simp at hi
  | [j], h, i, hi => by simp at hi; subst hi; exact h
  | j :: k :: r, h, i, hi => by
    rcases List.mem_cons.1 hi with e | hi
    · subst e; exact h.1
    · exact allP_spec h.2 i hi

theorem listed_mono {listed : Array Bool} {i : Nat} (hi : listed.getD i true = false) : ∀ k, (listed.getD k false = true ∨ k = i) → (listed.setIfInBounds i true).getD k false = true := by
  intro k hk
  have hil : i < listed.size := by
    rcases Nat.lt_or_ge i listed.size with h | h
    · exact h
    · simp [Array.getElem?_eq_none h] at hi
  by_cases e : k = i
  · subst e; simp [hil]
  · rcases hk with hk | hk
    · simp only [Array.getD_eq_getD_getElem?, Array.getElem?_setIfInBounds] at hk ⊢
      rw [if_neg (fun h => e h.symm)]; exact hk
    · exact absurd hk e

theorem listed_lt {listed : Array Bool} {i : Nat} (h : listed.getD i false = true) : i < listed.size := by
  rcases Nat.lt_or_ge i listed.size with h1 | h1
  · exact h1
  · simp [Array.getElem?_eq_none h1] at h

theorem evAny_sound (hB : Base P C) {ops : Array Oper} {Q : Exit → Act → World → Prop} (hs : Region.noSelect ops = true) (hQ : ∀ c a w, ¬ Q (.panic c) a w) {K : St → Prop} : ∀ (fuel : Nat) (listed : Array Bool) (s : St) (a : Act) (w : World) (μ : Nat → Option Nat) (ro : Nat → Prop), evAny C ops fuel listed s K →
    SR C w0 μ0 ro0 L0 (fun i => listed.getD i false = true) s a w μ ro →
    (∀ s' a' w' μ' ro' (D : Nat → Prop), (∀ i, D i → i < listed.size) → K s' → SR C w0 μ0 ro0 L0 D s' a' w' μ' ro' → Q .normal a' w') → wpAnyIn (Fw none) n P .any ops Q fuel listed a w
  | 0, listed, s, a, w, μ, ro, hev, h, hn => by
    unfold evAny at hev
    split at hev
    · rename_i e; exact ⟨e, hn s a w μ ro _ (fun i => listed_lt) hev h⟩
    · exact hev.elim
  | fuel + 1, listed, s, a, w, μ, ro, hev, h, hn => by
    unfold evAny at hev
    have step : ∀ i, i ∈ Region.ready .any ops listed → evAt C ops i s (fun s' => evAny C ops fuel (listed.setIfInBounds i true) s' K) → wpOpIn (Fw none) n P ops Q i (wpAnyIn (Fw none) n P .any ops Q fuel (listed.setIfInBounds i true)) a w := by
      intro i hi he
      obtain ⟨hun, o, ho, -⟩ := mem_ready.1 hi
      unfold evAt at he
      rw [ho] at he
      unfold wpOpIn
      rw [ho]
      refine evOper_sound hB (D := fun i => listed.getD i false = true) (j := i) ?_ he h (fun s' a' w' μ' ro' hK h' => evAny_sound hB hs hQ fuel _ s' a' w' μ' ro' hK (h'.mono (listed_mono hun)) (by simpa using hn))
      intro e
      have : i < listed.size := by
        rcases Nat.lt_or_ge i listed.size with h | h
        · exact h
        · simp [Array.getElem?_eq_none h] at e
      simp [this] at e hun
      rw [e] at hun; cases hun
    split at hev
    · rename_i i hf
      have hi := List.mem_of_find?_eq_some hf
      have hp := List.find?_some hf
      simp only [Bool.and_eq_true] at hp
      obtain ⟨hun, o, ho, -⟩ := mem_ready.1 hi
      unfold evAt at hev
      rw [ho] at hev
      have hpu : pureNow o.op (St.ev C.Γ s.t) = true := by have := hp.1; unfold pureAt at this; rw [ho] at this; exact this
      have key : ∃ v s', YieldsFenced P ops o v a ∧ evAny C ops fuel (listed.setIfInBounds i true) s' K ∧ SR C w0 μ0 ro0 L0 (fun k => (listed.setIfInBounds i true).getD k false = true) s' (a.put o.dst v) w μ ro := by
        rcases evOper_cases hev h with ⟨h1, h2⟩ | ⟨h1, h2⟩
        · unfold evRun at h2
          rw [pure_noCall hpu] at h2
          obtain ⟨v, pv, h3, h4, h5⟩ := pure_sound (P := P) hB.fitsT hB.sized hB.eq (o := o) hpu h2 (fun x => h.eval x)
          refine ⟨v, _, ⟨.inl ⟨h1, h3⟩, pure_about hpu⟩, h4, ?_⟩
          exact (h.put (ups := []) (j := i) h5 h.heap (Keeps.refl _ _ _) (Chg.refl _ _ _) (fun _ _ => rfl) (fun _ _ h => h) (Own.refl _ _ _) (fun _ hb => .inl hb)).mono (listed_mono hun)
        · exact ⟨undef, _, ⟨.inr ⟨h1, rfl⟩, pure_about hpu⟩, h2, (h.skip o.dst).mono (listed_mono hun)⟩
      obtain ⟨v, s', hy, he, h'⟩ := key
      exact wpAnyIn_take rfl ho hs hp.2 (by simpa using hi) (fun c a w hq => (hQ _ _ _ hq).elim) hy (evAny_sound hB hs hQ fuel _ s' _ w μ ro he h' (by simpa using hn))
    · split at hev
      · rename_i e; exact wpAnyIn_done e (hn s a w μ ro _ (fun i => listed_lt) hev h) _
      · rename_i j r e
        refine ⟨fun h0 => (by rw [e] at h0; cases h0), fun i hi => step i hi ?_⟩
        exact allP_spec hev i (by rw [← e]; exact hi)

theorem range_pre {p : Nat} {xs : List PV} {L : Heap} {fuel : Nat} : ∃ q, reach L fuel 0 (addNew (List.range p) (PV.hss xs)) = List.range p ++ q ∧ (reach L fuel 0 (addNew (List.range p) (PV.hss xs))).Nodup := by
  obtain ⟨h1, q1, e1⟩ := addNew_spec (PV.hss xs) (List.range p) List.nodup_range
  obtain ⟨h2, q2, e2⟩ := reach_spec L fuel 0 _ h1
  exact ⟨q1 ++ q2, by rw [e2, e1, List.append_assoc], h2⟩

theorem hp_map_get {R : List Nat} {g : Nat → Blk} (k : Nat) : hp (R.map g) k = match R[k]? with | some h => g h | none => .gone := by
  unfold hp
  cases e : R[k]? with
  | none => simp [List.getD, e]
  | some h => simp [List.getD, e]

/-- Renumbered, the frame stands as before. -/
theorem Since.renum {p : Nat} {w : World} {μ : Nat → Option Nat} {ro : Nat → Prop} {L : Heap} (h : Since w0 μ0 ro0 L0 p w μ ro L) {R q : List Nat} (hR : R = List.range p ++ q) : Since w0 μ0 ro0 L0 p w (muOf R μ) ro (hp (R.map fun h => (L h).ren (idx R))) := by
  refine ⟨h.os, h.tape, h.output, h.size, h.same, h.shape, h.ro_mono, h.ro_grow, fun k b hl hm => ?_, fun k hk => ?_⟩
  · rw [hp_map_get] at hl
    unfold muOf at hm
    cases e : R[k]? with
    | none => rw [e] at hm; cases hm
    | some x => rw [e] at hm hl; simp only [live_ren] at hl; exact h.own x b hl hm
  · have e : R[k]? = some k := by rw [hR, List.getElem?_append_left (by simpa using hk)]; simp [hk]
    unfold muOf; rw [e]; exact h.mup k hk

theorem tidy_sound {D : Nat → Prop} {s : St} {a : Act} {w : World} {μ : Nat → Option Nat} {ro : Nat → Prop} {K : St → Prop} (hev : tidy C.p s.t s.L fun t bs => forceN bs.length fun n => K ⟨t, hp bs, n⟩) (h : SR C w0 μ0 ro0 L0 D s a w μ ro) :
    ∃ s' μ', K s' ∧ SR C w0 μ0 ro0 L0 (fun _ => False) s' a w μ' ro := by
  unfold tidy at hev
  rw [forceNs_eq] at hev
  obtain ⟨q, hR, hn⟩ := range_pre (p := C.p) (xs := s.t) (L := s.L) (fuel := 60)
  generalize reach s.L 60 0 (addNew (List.range C.p) (PV.hss s.t)) = R at hev hR hn
  obtain ⟨hc, hK⟩ := cond_and hev
  rw [forceVs_eq, forceBs_eq, forceN_eq] at hK
  obtain ⟨hc1, hc2⟩ := closed_spec hc
  refine ⟨_, muOf R μ, hK, h.defers, ?_, fun i x v hx hv => ?_, h.heap.renum hn hc, fun k hk _ => ?_, h.glob.mu, h.since.renum hR, ?_⟩
  · simp [mkSt, rens_eq, h.len]
  · simp only [mkSt, rens_eq, List.getElem?_map, Option.map_eq_some_iff] at hx
    obtain ⟨y, hy, rfl⟩ := hx
    have hm := List.mem_of_getElem? hy
    exact Rep.ren (h.tmps i y v hy hv) (fun q hq => muOf_idx (hc1 y hm q hq))
  · simp only [mkSt, List.length_map] at hk
    refine ⟨hp_gone (by simpa using hk), ?_⟩
    unfold muOf; rw [List.getElem?_eq_none hk]; rfl
  · simp [mkSt, hR]

theorem keepG_len (k : List Nat) : ∀ (t : List PV) (i : Nat), (keepG k i t).length = t.length
  | [], _ => rfl
  | x :: r, i => by simp [keepG, keepG_len k r]
theorem keepG_get (k : List Nat) : ∀ (t : List PV) (i j : Nat), (keepG k i t)[j]? = t[j]? ∨ ∀ x, (keepG k i t)[j]? = some x → x = .undef
  | [], _, _ => .inl rfl
  | x :: r, i, 0 => by
    rw [keepG]
    cases memN i k with
    | true => exact .inl rfl
    | false => exact .inr fun y hy => by simp at hy; exact hy.symm
  | x :: r, i, j + 1 => by
    rw [keepG]
    simpa using keepG_get k r (i + 1) j

theorem SR.keep {D : Nat → Prop} {s : St} {a : Act} {w : World} {μ : Nat → Option Nat} {ro : Nat → Prop} (h : SR C w0 μ0 ro0 L0 D s a w μ ro) (k : List Nat) : SR C w0 μ0 ro0 L0 D ⟨keepT k s.t, s.L, s.nx⟩ a w μ ro := by
  refine ⟨h.defers, by simp [keepT, keepG_len, h.len], fun i x v hx hv => ?_, h.heap, h.fresh, h.glob, h.since, h.pn⟩
  rcases keepG_get k s.t 0 i with e | e
  · simp only [keepT] at hx; rw [e] at hx; exact h.tmps i x v hx hv
  · simp only [keepT] at hx; rw [e x hx]; exact .undef _

/-- A block of no elements, that is nowhere. -/
theorem SR.empty {D : Nat → Prop} {s : St} {a : Act} {w : World} {μ : Nat → Option Nat} {ro : Nat → Prop} (h : SR C w0 μ0 ro0 L0 D s a w μ ro) {k : Nat} (hm : μ k = none) (ty : Nat) :
    SR C w0 μ0 ro0 L0 (fun i => D i ∨ i = (k - s.nx) / 8) ⟨s.t, upd s.L k (.row true ty []), s.nx⟩ a w μ ro := by
  have hne : ∀ q b, μ q = some b → q ≠ k := fun q b e hq => by subst hq; rw [hm] at e; cases e
  have hl0 : ∀ q b, μ q = some b → (upd s.L k (.row true ty []) q).live = true → (s.L q).live = true := fun q b hq hl => by rw [upd_other (hne q b hq)] at hl; exact hl
  refine ⟨h.defers, h.len, h.tmps, ⟨h.heap.lt, fun q b hl hq => h.heap.apart q b (hl0 q b hq hl) hq, h.heap.ro_lt, fun q q2 b hl hl2 hq hq2 => h.heap.inj q q2 b (hl0 q b hq hl) (hl0 q2 b hq2 hl2) hq hq2, fun q => ?_⟩, fun q hq hD => ?_, h.glob, ?_, h.pn⟩
  · show BRel C.T w μ ro (μ q) (upd s.L k (.row true ty []) q)
    by_cases e : q = k
    · subst e; rw [upd_same, hm]
      exact ⟨fun x hx => by simp at hx, fun _ => rfl, fun b e => by cases e⟩
    · rw [upd_other e]; exact h.heap.blk q
  · have : q ≠ k := fun e => by subst e; exact hD (.inr rfl)
    obtain ⟨h1, h2⟩ := h.fresh q hq (fun e => hD (.inl e))
    exact ⟨by simp only; rw [upd_other this]; exact h1, h2⟩
  · exact ⟨h.since.os, h.since.tape, h.since.output, h.since.size, h.since.same, h.since.shape, h.since.ro_mono, h.since.ro_grow, fun q b hl hq => h.since.own q b (hl0 q b hq hl) hq, h.since.mup⟩

theorem SR.heapOf {D : Nat → Prop} {s : St} {a : Act} {w : World} {μ : Nat → Option Nat} {ro : Nat → Prop} (h : SR C w0 μ0 ro0 L0 D s a w μ ro) {k : Nat} {x : Blk} (hl : x.live = true → (s.L k).live = true) (hg : s.L k ≠ .gone) (hx : BRel C.T w μ ro (μ k) x) :
    SR C w0 μ0 ro0 L0 D ⟨s.t, upd s.L k x, s.nx⟩ a w μ ro := by
  have hl0 : ∀ q, (upd s.L k x q).live = true → (s.L q).live = true := fun q hq => by
    by_cases e : q = k
    · subst e; rw [upd_same] at hq; exact hl hq
    · rwa [upd_other e] at hq
  refine ⟨h.defers, h.len, h.tmps, ⟨h.heap.lt, fun q b hq => h.heap.apart q b (hl0 q hq), h.heap.ro_lt, fun q q2 b hq hq2 => h.heap.inj q q2 b (hl0 q hq) (hl0 q2 hq2), fun q => ?_⟩, fun q hq hD => ?_, h.glob, ?_, h.pn⟩
  · by_cases e : q = k
    · subst e; show BRel _ _ _ _ _ (upd s.L q x q); rw [upd_same]; exact hx
    · show BRel _ _ _ _ _ (upd s.L k x q); rw [upd_other e]; exact h.heap.blk q
  · obtain ⟨h1, h2⟩ := h.fresh q hq hD
    have : q ≠ k := fun e => hg (e ▸ h1)
    exact ⟨by simp only; rw [upd_other this]; exact h1, h2⟩
  · exact ⟨h.since.os, h.since.tape, h.since.output, h.since.size, h.since.same, h.since.shape, h.since.ro_mono, h.since.ro_grow, fun q b hq => h.since.own q b (hl0 q hq), h.since.mup⟩

theorem ownedB_sound (hT : tabSized C.T = true) {K : Heap → Prop} {a : Act} {w : World} {μ : Nat → Option Nat} {ro : Nat → Prop} : ∀ (l : List (Nat × List Nat × Nat)) (hb : Nat) (s : St) (D : Nat → Prop), ownedB C.T hb l s.L K → SR C w0 μ0 ro0 L0 D s a w μ ro → s.nx ≤ hb → (∀ k, hb ≤ k → s.L k = .gone ∧ μ k = none) →
    ∃ s', s'.t = s.t ∧ K s'.L ∧ ∃ D', SR C w0 μ0 ro0 L0 D' s' a w μ ro
  | [], hb, s, D, hev, h, _, _ => ⟨s, rfl, hev, D, h⟩
  | (k, p, ty) :: r, hb, s, D, hev, h, hnx, hfr => by
    unfold ownedB at hev
    split at hev
    · rename_i t x eL
      obtain ⟨hc, h2⟩ := cond_and hev
      simp only [Bool.and_eq_true, Bool.not_eq_true'] at hc
      obtain ⟨⟨hlt, hty⟩, hap⟩ := hc
      have hblk := h.heap.blk k
      rw [eL] at hblk
      obtain ⟨hsx, hfx, hcx, b, hb', -, c, tt, lo, hi, hcells, hnf, hlen, hrep⟩ := hblk
      cases hte : tyAt C.T t p with
      | none => rw [hte] at hty; cases hty
      | some e =>
        rw [hte] at hty
        have hke : ∃ u, (C.T.at e).kd = .slice u := by
          simp only [Option.any_some] at hty
          split at hty
          · exact ⟨_, by assumption⟩
          · cases hty
        obtain ⟨u, hke⟩ := hke
        have hfv : fits C.T e (.sl hb ty 0 0) = true := by simp [fits, hke, Kd.isAgg, Kd.isOther]
        obtain ⟨y, hKy, hfy, -, hle, hcy⟩ := sub_sound hT p t e x _ hfx hsx hte h2
        split at hKy
        · rename_i r'
          obtain ⟨hf', hs', hcel⟩ := putIn_sound hT hfv (by simp [Shp]) p t x _ hfx hsx hte h2 (by rw [hap]; intro h; cases h)
          have hsz1 : (C.T.at e).size = 1 := by
            have := at_sized hT e
            rw [sizeOk, hke] at this
            exact Nat.eq_of_beq_eq_true this
          have h3 := h.heapOf (k := k) (x := .box true t (putIn x p (.sl hb ty 0 0))) (fun _ => by rw [eL]; rfl) (by rw [eL]; simp) ⟨hs', hf', fits_cells _ _ hf' hs', b, hb', (fun e => by cases e), c, tt, lo, hi, hcells, hnf, by
            rw [flat_length hT t _ hf' hs', ← hlen, flat_length hT t _ hfx hsx], fun i pc hi => by
              rw [hcel i] at hi
              split at hi
              · rename_i hin
                rw [hsz1] at hin
                have ei : i = offAt C.T t p + 0 := by omega
                have hcy0 := hcy 0 (by omega)
                simp only [flat, List.getElem?_cons_zero] at hcy0
                subst ei
                obtain ⟨v, hv, hr⟩ := hrep _ _ hcy0.symm
                simp only [flat, Nat.add_sub_cancel_left, List.getElem?_cons_zero, Option.some.injEq] at hi
                subst hi
                rw [hr.nilsl_inv] at hv
                exact ⟨_, hv, .slE _ _ _ _⟩
              · exact hrep i pc hi⟩
          have hkb : hb ≠ k := fun e => by subst e; rw [(hfr hb (Nat.le_refl _)).1] at eL; cases eL
          have h4 := h3.empty (hfr hb (Nat.le_refl _)).2 ty
          obtain ⟨s', e1, h5, h6⟩ := ownedB_sound hT r (hb + 1) ⟨s.t, upd (upd s.L k (.box true t (putIn x p (.sl hb ty 0 0)))) hb (.row true ty []), s.nx⟩ _ hKy h4 (by simp only; omega) (fun q hq => by
            have hqb : q ≠ hb := by omega
            have hqk : q ≠ k := fun e => by subst e; rw [(hfr q (by omega)).1] at eL; cases eL
            exact ⟨by simp only; rw [upd_other hqb, upd_other hqk]; exact (hfr q (by omega)).1, (hfr q (by omega)).2⟩)
          exact ⟨s', e1, h5, h6⟩
        · exact ownedB_sound hT r hb s D hKy h hnx hfr
    · exact ownedB_sound hT r hb s D hev h hnx hfr

theorem owned_len {K : List PV → Heap → Prop} : ∀ (l : List (Nat × Nat)) (hb : Nat) (t : List PV) (L : Heap), owned hb l t L K → owned hb l t L fun t L' => K t L' ∧ ∀ k, hb + l.length ≤ k → L' k = L k
  | [], hb, t, L, h => ⟨h, fun _ _ => rfl⟩
  | (d, ty) :: r, hb, t, L, h => by
    unfold owned at h ⊢
    have mono : ∀ (l : List (Nat × Nat)) (hb : Nat) (t : List PV) (L : Heap) (K K' : List PV → Heap → Prop), (∀ t L, K t L → K' t L) → owned hb l t L K → owned hb l t L K' := by
      intro l
      induction l with
      | nil => intro hb t L K K' hm h; exact hm _ _ h
      | cons x r ih =>
        intro hb t L K K' hm h
        obtain ⟨d, ty⟩ := x
        unfold owned at h ⊢
        split
        · rename_i e; rw [e] at h; exact ih _ _ _ _ _ hm h
        · rename_i hne
          split at h
          · rename_i e; exact absurd e hne
          · exact ih _ _ _ _ _ hm h
    split
    · rename_i e
      rw [e] at h
      refine mono _ _ _ _ _ _ ?_ (owned_len r (hb + 1) _ _ h)
      rintro t' L' ⟨h1, h2⟩
      refine ⟨h1, fun k hk => ?_⟩
      simp only [List.length_cons] at hk
      rw [h2 k (by omega), upd_other (by omega)]
    · rename_i hne
      split at h
      · rename_i e; exact absurd e hne
      · refine mono _ _ _ _ _ _ ?_ (owned_len r hb _ _ h)
        rintro t' L' ⟨h1, h2⟩
        refine ⟨h1, fun k hk => ?_⟩
        simp only [List.length_cons] at hk
        exact h2 k (by omega)

theorem owned_nx {K : List PV → Heap → Prop} {a : Act} {w : World} {μ : Nat → Option Nat} {ro : Nat → Prop} : ∀ (l : List (Nat × Nat)) (hb : Nat) (s : St) (D : Nat → Prop), owned hb l s.t s.L K → SR C w0 μ0 ro0 L0 D s a w μ ro → s.nx ≤ hb → (∀ k, hb ≤ k → s.L k = .gone ∧ μ k = none) →
    ∃ s', s'.nx = s.nx ∧ K s'.t s'.L ∧ ∃ D', SR C w0 μ0 ro0 L0 D' s' a w μ ro
  | [], hb, s, D, hev, h, _, _ => ⟨s, rfl, hev, D, h⟩
  | (d, ty) :: r, hb, s, D, hev, h, hnx, hfr => by
    unfold owned at hev
    split at hev
    · rename_i e
      have h1 := h.empty (hfr hb (Nat.le_refl _)).2 ty
      have h2 := h1.set (d := d) (x := .sl hb ty 0 0) (fun v hv => by
        have h3 := h.tmps d .nilsl v (by
          have hdl : d < s.t.length := by
            rcases Nat.lt_or_ge d s.t.length with h4 | h4
            · exact h4
            · simp [List.getD, List.getElem?_eq_none h4] at e
          rw [List.getElem?_eq_getElem hdl, ← e]; simp [List.getD, hdl]) hv
        rw [h3.nilsl_inv]; exact .slE _ _ _ _)
      exact owned_nx r (hb + 1) ⟨s.t.set d (.sl hb ty 0 0), upd s.L hb (.row true ty []), s.nx⟩ _ hev h2 (by simp only; omega) (fun k hk => by
        have : k ≠ hb := by omega
        exact ⟨by simp only; rw [upd_other this]; exact (hfr k (by omega)).1, (hfr k (by omega)).2⟩)
    · exact owned_nx r hb s D hev h hnx hfr

theorem SR.freeze {D : Nat → Prop} {s : St} {a : Act} {w : World} {μ : Nat → Option Nat} {ro : Nat → Prop} (h : SR C w0 μ0 ro0 L0 D s a w μ ro) {F : List Nat} (hF : ∀ q ∈ F, lendable (s.L q)) :
    SR C w0 μ0 ro0 L0 D ⟨s.t, upds s.L (F.map fun q => (q, Pv.freeze (s.L q))), s.nx⟩ a w μ (roF μ ro F) := by
  have hup : ∀ x, upds s.L (F.map fun q => (q, Pv.freeze (s.L q))) x = if x ∈ F then Pv.freeze (s.L x) else s.L x := fun x => upds_freeze F s.L (fun _ _ => .inl rfl) x
  have hk : Keeps μ μ ro (roF μ ro F) w w := ⟨fun _ _ h => h, fun _ h => .inl h, fun _ _ => rfl, fun _ c t fr h => ⟨c, fr, h, rfl⟩⟩
  have hl0 : ∀ q, (upds s.L (F.map fun q => (q, Pv.freeze (s.L q))) q).live = true → q ∉ F ∧ (s.L q).live = true := fun q hq => by
    rw [hup] at hq
    split at hq
    · rw [live_freeze] at hq; cases hq
    · exact ⟨by assumption, hq⟩
  have hF2 : ∀ q ∈ F, ∀ b, μ q = some b → (s.L q).live = true ∨ ro b := fun q hq b hm => by
    cases e : (s.L q).live with
    | true => exact .inl rfl
    | false => exact .inr (lent_ro h.heap (hF q hq) hm e)
  refine ⟨h.defers.rosub (fun d _ hd hr => ?_), h.len, fun i x v hx hv => (h.tmps i x v hx hv).keep hk, ⟨h.heap.lt, fun q b hq hm hr => ?_, fun b hr => ?_, fun q q2 b hq hq2 => h.heap.inj q q2 b (hl0 q hq).2 (hl0 q2 hq2).2, fun q => ?_⟩, fun q hq hD => ?_, h.glob.keep hk, ?_, h.pn⟩
  · rcases hr with hr | ⟨q, hq, hm⟩
    · exact hr
    · rcases hF2 q hq d hm with hl | hr
      · exact (not_live h.heap hl hm hd (by simp) (by simp) (by simp)).elim
      · exact hr
  · rcases hr with hr | ⟨q2, hq2, hm2⟩
    · exact h.heap.apart q b (hl0 q hq).2 hm hr
    · rcases hF2 q2 hq2 b hm2 with hl | hr
      · have := h.heap.inj q q2 b (hl0 q hq).2 hl hm hm2
        subst this
        exact (hl0 q hq).1 hq2
      · exact h.heap.apart q b (hl0 q hq).2 hm hr
  · rcases hr with hr | ⟨q, hq, hm⟩
    · exact h.heap.ro_lt b hr
    · exact h.heap.lt q b hm
  · show BRel _ _ _ _ _ (upds s.L _ q)
    rw [hup]
    split
    · rename_i hq
      exact BRel.freeze hk (fun _ _ => rfl) (fun b hm => .inr ⟨q, hq, hm⟩) (h.heap.blk q)
    · exact (h.heap.blk q).keep hk (fun _ _ => rfl)
  · obtain ⟨h1, h2⟩ := h.fresh q hq hD
    refine ⟨?_, h2⟩
    simp only
    rw [hup, h1]
    split <;> rfl
  · refine ⟨h.since.os, h.since.tape, h.since.output, h.since.size, h.since.same, h.since.shape, fun b hb => .inl (h.since.ro_mono b hb), fun b hr => ?_, fun q b hq => h.since.own q b (hl0 q hq).2, h.since.mup⟩
    rcases hr with hr | ⟨q, hq, hm⟩
    · exact h.since.ro_grow b hr
    · rcases hF2 q hq b hm with hl | hr
      · rcases h.since.own q b hl hm with ho | ho
        · exact .inr (.inr ho)
        · exact .inr (.inl ho)
      · exact h.since.ro_grow b hr

theorem weak1_rep {T : Tab} {w : World} {μ : Nat → Option Nat} {ro : Nat → Prop} (t : Option (Nat × Option Nat)) {x : PV} {v : Value} (h : Rep T w μ ro x v) : Rep T w μ ro (weak1 t x) v := by
  unfold weak1
  split
  · rw [h.nilsl_inv]; exact .listE _ _ _
  · rw [h.nilm_inv]; exact .dmapE _ _
  · exact h

theorem frzK_sound (hT : tabSized C.T = true) {D : Nat → Prop} {K : List PV → Heap → Prop} {a : Act} {w : World} {μ : Nat → Option Nat} : ∀ (l : List (Nat × Option (Nat × Option Nat))) (s : St) (ro : Nat → Prop), frzK C.T l s.t s.L K → SR C w0 μ0 ro0 L0 D s a w μ ro →
    ∃ s' ro', K s'.t s'.L ∧ SR C w0 μ0 ro0 L0 D s' a w μ ro'
  | [], s, ro, hev, h => ⟨s, ro, hev, h⟩
  | (d, k) :: r, s, ro, hev, h => by
    unfold frzK at hev
    rcases Nat.lt_or_ge d s.t.length with hd | hd
    · have hda : d < a.tmps.size := by rw [← h.len]; exact hd
      have hrep := h.tmps d (s.t.getD d .undef) a.tmps[d] (by simp [List.getD, hd]) (by simp [hda])
      obtain ⟨y, F, hK, hF, hy⟩ := purK_rep hT h.heap hev hrep
      exact frzK_sound hT r ⟨s.t.set d (weak1 k y), upds s.L (F.map fun q => (q, Pv.freeze (s.L q))), s.nx⟩ _ hK ((h.freeze hF).set (fun v hv => by
        rw [Array.getElem?_eq_getElem hda] at hv
        cases hv; exact weak1_rep k hy))
    · have e : s.t.getD d .undef = .undef := by simp [List.getD, List.getElem?_eq_none hd]
      rw [e] at hev
      have ew : weak1 k .undef = .undef := by cases k with
        | none => rfl
        | some k => obtain ⟨a, b⟩ := k; cases b <;> rfl
      simp only [purK, List.map_nil, upds, ew] at hev
      exact frzK_sound hT r ⟨s.t.set d .undef, s.L, s.nx⟩ ro hev (h.set (fun v _ => .undef v))

theorem clean_sound (hT : tabSized C.T = true) {D : Nat → Prop} {id n : Nat} {s : St} {a : Act} {w : World} {μ : Nat → Option Nat} {ro : Nat → Prop} {K : St → Prop} (hev : clean C id n s K) (h : SR C w0 μ0 ro0 L0 D s a w μ ro) (hD : ∀ i, D i → i < n) :
    ∃ s' μ' ro', K s' ∧ SR C w0 μ0 ro0 L0 (fun _ => False) s' a w μ' ro' := by
  unfold clean at hev
  obtain ⟨-, hev⟩ := cond_and hev
  unfold cleanW at hev
  rw [keepK_eq] at hev
  have hfr : ∀ k, s.nx + 8 * n ≤ k → s.L k = .gone ∧ μ k = none := fun k hk => h.fresh k (by omega) (fun hd => by
    have := hD _ hd
    omega)
  obtain ⟨s1, e1, ⟨h1, hL1⟩, D1, h2⟩ := owned_nx (C.own id) (s.nx + 8 * n) ⟨keepT (C.keep id) s.t, s.L, s.nx⟩ D (owned_len _ _ _ _ hev) (h.keep _) (by simp only; omega) hfr
  obtain ⟨s2, e2, h3, D2, h4⟩ := ownedB_sound hT (C.ownB id) (s.nx + 8 * n + (C.own id).length) s1 D1 h1 h2 (by rw [e1]; simp only; omega) (fun k hk => ⟨(hL1 k hk).trans (hfr k (by omega)).1, (hfr k (by omega)).2⟩)
  rw [← e2] at h3
  obtain ⟨s3, ro3, h5, h6⟩ := frzK_sound hT (C.frz id) s2 ro h3 h4
  have h6' := h6.freeze (F := (C.frzB id).filter fun h => lendB (s3.L h)) (fun q hq => by
    have hq2 := (List.mem_filter.1 hq).2
    cases e : s3.L q <;> rw [e] at hq2 <;> first | trivial | cases hq2)
  obtain ⟨s4, μ4, h7, h8⟩ := tidy_sound (s := ⟨s3.t, frzL (C.frzB id) s3.L, s3.nx⟩) h5 h6'
  exact ⟨s4, μ4, _, h7, h8⟩

theorem SR.eqMk {s : St} {a : Act} {w : World} {μ : Nat → Option Nat} {ro : Nat → Prop} (h : SR C w0 μ0 ro0 L0 (fun _ => False) s a w μ ro) : s = mkSt s.t s.bs := by
  obtain ⟨t, L, nx⟩ := s
  have hL : L = hp ((List.range nx).map L) := by
    funext k
    rw [hp_map_get]
    rcases Nat.lt_or_ge k nx with hk | hk
    · simp [hk]
    · have := (h.fresh k hk (fun x => x)).1
      simp only at this
      simp [this, List.getElem?_eq_none (show (List.range nx).length ≤ k by simpa using hk)]
  simp only [mkSt, St.bs, List.length_map, List.length_range]
  rw [← hL]

/-- The machines exits, and the frames. -/
def QK (C : Ctx) (w0 : World) (μ0 : Nat → Option Nat) (ro0 : Nat → Prop) (L0 : Heap) (K : Ex → St → Prop) : Exit → Act → World → Prop
  | .normal, a, w => ∃ s μ ro, K .normal s ∧ SR C w0 μ0 ro0 L0 (fun _ => False) s a w μ ro
  | .exit id, a, w => ∃ s μ ro, K (.exit id) s ∧ SR C w0 μ0 ro0 L0 (fun _ => False) s a w μ ro
  | .ret, a, w => ∃ s μ ro, K .ret s ∧ SR C w0 μ0 ro0 L0 (fun _ => False) s a w μ ro
  | _, _, _ => False

/-- A continuation of states, from one of temporaries and blocks. -/
def onSt (K : Ex → List PV → List Blk → Prop) : Ex → St → Prop := fun e s => K e s.t s.bs

/-- What the contracts of pieces of code say. -/
def LoopsOk : Ctx → Code → Prop
  | C, .seq a b => (∀ l, C.J (firstRegion b) = some l → ∀ t bs K, l t bs K → evC C b (mkSt t bs) (onSt K)) ∧ LoopsOk C a ∧ LoopsOk C b
  | C, .cond _ a b => LoopsOk C a ∧ LoopsOk C b
  | C, .block _ c => LoopsOk C c
  | C, .loop c => (∀ l, C.Λ (firstRegion c) = some l → ∀ t bs K, l t bs K → ∃ n, evLoop C c n (mkSt t bs) (onSt K)) ∧ LoopsOk C c
  | C, .rangeFunc _ ps a b => ∀ pins l, C.R (firstRegion b) = some (pins, l) → (∀ xs t bs K, l xs t bs K → evRange { C with p := C.p + pins.length } ps.toList a b t xs (hp bs) bs.length (onSt K)) ∧
      LoopsOk { C with p := C.p + pins.length } a ∧ LoopsOk { C with p := C.p + pins.length } b
  | _, _ => True

theorem QK.of_on {K : Ex → St → Prop} {e : Exit} {a : Act} {w : World} (h : QK C w0 μ0 ro0 L0 (onSt fun e t bs => K e (mkSt t bs)) e a w) : QK C w0 μ0 ro0 L0 K e a w := by
  cases e with
  | normal => obtain ⟨s, μ, ro, hK, h'⟩ := h; rw [onSt, ← h'.eqMk] at hK; exact ⟨s, μ, ro, hK, h'⟩
  | exit id => obtain ⟨s, μ, ro, hK, h'⟩ := h; rw [onSt, ← h'.eqMk] at hK; exact ⟨s, μ, ro, hK, h'⟩
  | ret => obtain ⟨s, μ, ro, hK, h'⟩ := h; rw [onSt, ← h'.eqMk] at hK; exact ⟨s, μ, ro, hK, h'⟩
  | goto l => exact h
  | panic ch => exact h
  | outgrown => exact h

end
end Pv
