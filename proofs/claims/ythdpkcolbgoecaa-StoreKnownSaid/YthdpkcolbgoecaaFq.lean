/- The frames eighth part: operations that make memory. -/
import Derived.Test.YthdpkcolbgoecaaFp
import Derived.Lib.ConvBytes
import Derived.Laws.BytesString

namespace Pv
open Go

theorem nbeq {a b : Nat} (h : a ≠ b) : Nat.beq a b = false := by
  cases e : Nat.beq a b with
  | false => rfl
  | true => exact absurd (Nat.eq_of_beq_eq_true e) h

/-- The numbers for new blocks are free. -/
def Fresh (hb : Nat) (μ : Nat → Option Nat) (L : Heap) : Prop := ∀ h, hb ≤ h → h < hb + 8 → L h = .gone ∧ μ h = none

/-- Whose blocks may be written behind a step: blocks that could be written ahead of it, and new ones. -/
def Own (μ μ' : Nat → Option Nat) (L L' : Heap) (w : World) : Prop := ∀ h b, (L' h).live = true → μ' h = some b → (∃ h1, (L h1).live = true ∧ μ h1 = some b) ∨ w.heap.size ≤ b

theorem Own.refl (μ : Nat → Option Nat) (L : Heap) (w : World) : Own μ μ L L w := fun h _ hl hm => .inl ⟨h, hl, hm⟩

/-- What an operation leaves. -/
def Out (T : Tab) (hb : Nat) (L : Heap) (μ : Nat → Option Nat) (ro : Nat → Prop) (w : World) (K : PV → Ups → Prop) (v : Value) (w' : World) : Prop :=
  ∃ pv ups μ', K pv ups ∧ Rep T w' μ' ro pv v ∧ HRel T w' μ' ro (upds L ups) ∧ Keeps μ μ' ro ro w w' ∧ Chg μ L w w' ∧
    (∀ h, (h < hb ∨ hb + 8 ≤ h) → μ' h = μ h) ∧ (∀ h, (h < hb ∨ hb + 8 ≤ h) → L h = .gone → upds L ups h = .gone) ∧ Own μ μ' L (upds L ups) w

/-- What a call leaves. -/
def Out2 (T : Tab) (hb : Nat) (L : Heap) (μ : Nat → Option Nat) (ro : Nat → Prop) (w : World) (K : PV → Ups → Prop) (v : Value) (w' : World) : Prop :=
  ∃ pv ups μ' ro', K pv ups ∧ Rep T w' μ' ro' pv v ∧ HRel T w' μ' ro' (upds L ups) ∧ Keeps μ μ' ro ro' w w' ∧ Chg μ L w w' ∧
    (∀ h, (h < hb ∨ hb + 8 ≤ h) → μ' h = μ h) ∧ (∀ h, (h < hb ∨ hb + 8 ≤ h) → L h = .gone → upds L ups h = .gone) ∧ Own μ μ' L (upds L ups) w ∧
    (∀ b, ro' b → ro b ∨ w.heap.size ≤ b ∨ ∃ h, (L h).live = true ∧ μ h = some b)

theorem Out.out2 {T : Tab} {hb : Nat} {L : Heap} {μ : Nat → Option Nat} {ro : Nat → Prop} {w w' : World} {K : PV → Ups → Prop} {v : Value} (h : Out T hb L μ ro w K v w') : Out2 T hb L μ ro w K v w' :=
  let ⟨pv, ups, μ', h1, h2, h3, h4, h5, h6, h7, h8⟩ := h
  ⟨pv, ups, μ', ro, h1, h2, h3, h4, h5, h6, h7, h8, fun _ hb => .inl hb⟩

theorem Chg.refl (μ : Nat → Option Nat) (L : Heap) (w : World) : Chg μ L w w := ⟨rfl, rfl, rfl, Nat.le_refl _, fun _ _ _ => rfl⟩

section
variable {P : Program} {T : Tab} {hb : Nat} {w : World} {μ : Nat → Option Nat} {ro : Nat → Prop} {L : Heap} {K : PV → Ups → Prop}

theorem Out.same {pv : PV} {v : Value} (hK : K pv []) (hr : Rep T w μ ro pv v) (hL : HRel T w μ ro L) : Out T hb L μ ro w K v w :=
  ⟨pv, [], μ, hK, hr, hL, Keeps.refl _ _ _, Chg.refl _ _ _, fun _ _ => rfl, fun _ _ h => h, Own.refl _ _ _⟩

theorem Out.of_pure {v : Value} (h : ∃ pv, K pv [] ∧ Rep T w μ ro pv v) (hL : HRel T w μ ro L) : Out T hb L μ ro w K v w :=
  let ⟨_, hK, hr⟩ := h; Out.same hK hr hL

/-- A new block. -/
structure Grew (w w' : World) (o : Obj) : Prop where
  heap : w'.heap = w.heap.push o
  os : w'.os = w.os
  tape : w'.tape = w.tape
  output : w'.output = w.output

def muNew (μ : Nat → Option Nat) (h b : Nat) : Nat → Option Nat := fun x => if x = h then some b else μ x

theorem Grew.get {w' : World} {o : Obj} (h : Grew w w' o) (b : Nat) (hlt : b < w.heap.size) : w'.heap[b]? = w.heap[b]? := by
  rw [h.heap, Array.getElem?_push, if_neg (by omega)]

theorem Grew.keeps {w' : World} {o : Obj} (h : Grew w w' o) (hL : HRel T w μ ro L) (hmu : μ hb = none) : Keeps μ (muNew μ hb w.heap.size) ro ro w w' := by
  refine ⟨fun x b hx => ?_, fun _ h => h, fun b hb' => h.get b (hL.ro_lt b hb'), fun b c' t' fr' hc => ⟨c', fr', ?_, rfl⟩⟩
  · unfold muNew
    rw [if_neg (by rintro rfl; rw [hmu] at hx; cases hx)]
    exact hx
  · rw [h.get b (by rcases Nat.lt_or_ge b w.heap.size with h' | h'; · exact h'
                    · rw [Array.getElem?_eq_none h'] at hc; cases hc)]
    exact hc

theorem Grew.chg {w' : World} {o : Obj} (h : Grew w w' o) : Chg μ L w w' :=
  ⟨h.os, h.tape, h.output, by rw [h.heap]; simp, fun b hlt _ => h.get b hlt⟩

theorem Grew.hrel {w' : World} {o : Obj} (h : Grew w w' o) (hL : HRel T w μ ro L) (hmu : μ hb = none) {k : Blk}
    (hk : BRel T w' (muNew μ hb w.heap.size) ro (some w.heap.size) k) : HRel T w' (muNew μ hb w.heap.size) ro (upd L hb k) := by
  have hsz : w'.heap.size = w.heap.size + 1 := by rw [h.heap]; simp
  have hupd : ∀ x, x ≠ hb → upd L hb k x = L x := fun x hx => by
    unfold upd
    have : Nat.beq x hb = false := nbeq hx
    rw [this]; rfl
  have hupd0 : upd L hb k hb = k := by unfold upd; simp
  have hmn : ∀ x, x ≠ hb → muNew μ hb w.heap.size x = μ x := fun x hx => by unfold muNew; rw [if_neg hx]
  have hmn0 : muNew μ hb w.heap.size hb = some w.heap.size := by unfold muNew; rw [if_pos rfl]
  refine ⟨fun x b hx => ?_, fun x b hl hx => ?_, fun b hb' => ?_, fun x y b hlx hly hx hy => ?_, fun x => ?_⟩
  · by_cases e : x = hb
    · subst e; rw [hmn0] at hx; cases hx; omega
    · rw [hmn x e] at hx; have := hL.lt x b hx; omega
  · by_cases e : x = hb
    · subst e; rw [hmn0] at hx; cases hx
      exact fun hr => absurd (hL.ro_lt _ hr) (by omega)
    · rw [hmn x e] at hx; rw [hupd x e] at hl; exact hL.apart x b hl hx
  · have := hL.ro_lt b hb'; omega
  · by_cases e : x = hb <;> by_cases e' : y = hb
    · rw [e, e']
    · subst e; rw [hmn0] at hx; cases hx; rw [hmn y e'] at hy; have := hL.lt _ _ hy; omega
    · subst e'; rw [hmn0] at hy; cases hy; rw [hmn x e] at hx; have := hL.lt _ _ hx; omega
    · rw [hmn x e] at hx; rw [hmn y e'] at hy; rw [hupd x e] at hlx; rw [hupd y e'] at hly; exact hL.inj x y b hlx hly hx hy
  · by_cases e : x = hb
    · subst e; rw [hmn0, hupd0]; exact hk
    · rw [hmn x e, hupd x e]
      exact (hL.blk x).keep (h.keeps hL hmu) (fun b hb' => h.get b (hL.lt x b hb'))

theorem own_new (hb : Nat) (k : Blk) : Own μ (muNew μ hb w.heap.size) L (upds L [(hb, k)]) w := by
  intro h b hl hm
  by_cases e : h = hb
  · subst e
    unfold muNew at hm; rw [if_pos rfl] at hm; cases hm
    exact .inr (Nat.le_refl _)
  · unfold muNew at hm; rw [if_neg e] at hm
    simp only [upds, upd] at hl
    rw [nbeq e] at hl
    exact .inl ⟨h, hl, hm⟩

/-- A new row, its cells laid. -/
theorem out_row {w' : World} {e n cap : Nat} {xs : List PV} {c : Array Value} {t : TypeId} {lo hi : Nat} (h : Grew w w' (.cells c t (lo, hi))) (hL : HRel T w μ ro L) (hf : Fresh hb μ L)
    (hrow : RowOk T e xs) (hlen : (flats xs).length ≤ c.size) (hrep : ∀ (k : Nat) pc, (flats xs)[k]? = some pc → ∃ v, c[k]? = some v ∧ Rep T w μ ro pc v)
    (hfr : lo = hi ∨ c.size ≤ lo) (hn : n ≤ cap) (hcap : cap * (T.at e).size ≤ c.size) (hK : K (.sl hb e 0 n) [(hb, .row true e xs)]) :
    Out T hb L μ ro w K (.slice (some ⟨w.heap.size, 0, none⟩) n cap) w' := by
  have hmu := (hf hb (Nat.le_refl _) (by omega)).2
  have hkeep := h.keeps hL hmu
  have hget : w'.heap[w.heap.size]? = some (.cells c t (lo, hi)) := by rw [h.heap]; simp
  refine ⟨_, _, muNew μ hb w.heap.size, hK, ?_, ?_, hkeep, h.chg, fun x hx => ?_, fun x hx hg => ?_, own_new _ _⟩
  · have := Rep.sl (T := T) (w := w') (μ := muNew μ hb w.heap.size) (ro := ro) hb e 0 n cap w.heap.size c t (lo, hi) (by unfold muNew; rw [if_pos rfl]) hn hget (by simpa using hcap)
    simpa using this
  · refine h.hrel hL hmu ⟨hrow, (fun h => by cases h), fun b hb' => ?_⟩
    cases hb'
    exact ⟨(fun h => by cases h), c, t, lo, hi, hget, fun _ => hfr, hlen, fun k pc hk => let ⟨v, hv, hr⟩ := hrep k pc hk; ⟨v, hv, hr.keep hkeep⟩⟩
  · unfold muNew; rw [if_neg (by omega)]
  · simp only [upds, upd]
    have : Nat.beq x hb = false := nbeq (by omega)
    rw [this]; exact hg

/-- A new variable. -/
theorem out_box {w' : World} {e : Nat} {x : PV} {c : Array Value} {t : TypeId} (h : Grew w w' (.cells c t (0, 0))) (hL : HRel T w μ ro L) (hf : Fresh hb μ L)
    (hs : Shp x) (hfit : fits T e x = true) (hlen : (flat x).length = c.size) (hrep : ∀ (k : Nat) pc, (flat x)[k]? = some pc → ∃ v, c[k]? = some v ∧ Rep T w μ ro pc v)
    (hK : K (.ptr hb e 0 []) [(hb, .box true e x)]) : Out T hb L μ ro w K (.pointer (some ⟨w.heap.size, 0, none⟩)) w' := by
  have hmu := (hf hb (Nat.le_refl _) (by omega)).2
  have hkeep := h.keeps hL hmu
  have hget : w'.heap[w.heap.size]? = some (.cells c t (0, 0)) := by rw [h.heap]; simp
  refine ⟨_, _, muNew μ hb w.heap.size, hK, ?_, ?_, hkeep, h.chg, fun x hx => ?_, fun x hx hg => ?_, own_new _ _⟩
  · have := Rep.ptr (T := T) (w := w') (μ := muNew μ hb w.heap.size) (ro := ro) hb e 0 [] w.heap.size (by unfold muNew; rw [if_pos rfl])
    simpa [offAt] using this
  · refine h.hrel hL hmu ⟨hs, hfit, fits_cells e x hfit hs, w.heap.size, rfl, (fun h => by cases h), c, t, 0, 0, hget, (fun _ => .inl rfl), hlen, fun k pc hk => let ⟨v, hv, hr⟩ := hrep k pc hk; ⟨v, hv, hr.keep hkeep⟩⟩
  · unfold muNew; rw [if_neg (by omega)]
  · simp only [upds, upd]
    have : Nat.beq x hb = false := nbeq (by omega)
    rw [this]; exact hg

/-- The cells of a value stand for those of what it is. -/
theorem rep_cells (hT : tabSized T = true) {t : Nat} {x : PV} {v : Value} (hf : fits T t x = true) (hr : Rep T w μ ro x v) :
    Shp x ∧ v.cells.size = (T.at t).size ∧ (∀ (k : Nat) pc, (flat x)[k]? = some pc → ∃ u, v.cells[k]? = some u ∧ Rep T w μ ro pc u ∧ oneCell u = true) := by
  cases ha : isAggV x with
  | true =>
    obtain ⟨vs, rfl, hs, hl, hc, hcc⟩ := hr.agg_inv ha
    refine ⟨hs, by rw [← flat_length hT t x hf hs, hl]; rfl, fun k pc hk => ?_⟩
    have hlt : k < vs.size := by rw [← hl]; exact (List.getElem?_eq_some_iff.1 hk).1
    have hv : vs[k]? = some vs[k] := Array.getElem?_eq_getElem hlt
    exact ⟨vs[k], hv, hc k pc _ hk hv, (hc k pc _ hk hv).one (hcc pc (List.mem_of_getElem? hk))⟩
  | false =>
    have hcx : cellC x = true := by cases x <;> simp [isAggV] at ha <;> simp [fits] at hf <;> rfl
    have hone := hr.one hcx
    have hcells : v.cells = #[v] := by cases v <;> simp [oneCell] at hone <;> rfl
    have hs : Shp x := by cases x <;> first | trivial | simp [isAggV] at ha
    have hl := flat_length hT t x hf hs
    rw [flat_scalar ha] at hl
    refine ⟨hs, by rw [hcells]; simpa using hl, fun k pc hk => ?_⟩
    rw [flat_scalar ha] at hk
    have : k = 0 := by have := (List.getElem?_eq_some_iff.1 hk).1; simp at this; omega
    subst this
    simp at hk; subst hk
    exact ⟨v, by rw [hcells]; rfl, hr, hone⟩

end
end Pv
