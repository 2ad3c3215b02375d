/- The frames third part: the table of types, held against the programs. -/
import Derived.Test.YthdpkcolbgoecaaFr
import Derived.Laws.Entries

namespace Pv
open Go

def kdFits (P : Program) : TypeDesc → Kd → Bool
  | .int k, .int k' => decide (k = k')
  | .bool, .bool => true
  | .string, .str => true
  | .slice e, .slice e' => Nat.beq e e'
  | .struct fs, .struct l => (fs.toList.map fun f => (f.offset, f.type)) == l
  | .array n e, .array n' e' => Nat.beq n n' && Nat.beq e e'
  | .pointer e, .ptr e' => Nat.beq e e'
  | .map k e, .map k' e' => Nat.beq k k' && Nat.beq e e'
  | .func _ _ _, .func => true
  | _, _ => false

def cellEq : PV → Value → Bool
  | .bool a, .bool b => a == b
  | .int k a, .int k' b => decide (k = k') && decide (a = b)
  | .str s, .string t => decide (s = t)
  | .nilsl, .slice none 0 0 => true
  | .nilp, .pointer none => true
  | .nilm, .map none => true
  | .nilf, .nilFunc => true
  | _, _ => false
def cellsEq : List PV → List Value → Bool
  | [], [] => true
  | x :: r, v :: s => cellEq x v && cellsEq r s
  | _, _ => false

mutual
def shpB : PV → Bool
  | .agg fs => shpsB fs
  | .arr n xs => Nat.beq xs.length n && xs.all fun c => match c with
    | .bool _ | .int _ _ | .str _ | .nilp | .nilm | .nilf | .nilsl => true
    | _ => false
  | _ => true
def shpsB : List PV → Bool
  | [] => true
  | x :: r => shpB x && shpsB r
end

def zeroEq (x : PV) (v : Value) : Bool :=
  match x, v with
  | .agg fs, .agg vs => shpB (.agg fs) && cellsEq (flat (.agg fs)) vs.toList
  | .arr n xs, .agg vs => shpB (.arr n xs) && cellsEq (flat (.arr n xs)) vs.toList
  | x, v => cellEq x v

def tiFits (P : Program) (T : Tab) (t : Nat) (ti : Ti) : Bool :=
  match ti.kd with
  | .other => true
  | kd => match P.info? t, P.underlying t with
    | some i, some d => Nat.beq i.size ti.size && Nat.beq i.bytes ti.bytes && kdFits P d kd && fits T t ti.zero && (match i.zero with | some z => zeroEq ti.zero z | none => false)
    | _, _ => false

def tabFits (P : Program) (T' : Tab) : Nat → Tab → Bool
  | _, [] => true
  | t, ti :: r => tiFits P T' t ti && tabFits P T' (t + 1) r

theorem tabFits_at {P : Program} {T' : Tab} : ∀ (T : Tab) (k t : Nat), tabFits P T' k T = true → t < T.length → tiFits P T' (k + t) (T.getD t ⟨.other, 0, 0, .undef, []⟩) = true
  | [], _, _, _, h => by simp at h
  | ti :: r, k, 0, h, _ => by simp [tabFits] at h; simpa using h.1
  | ti :: r, k, t + 1, h, hl => by
    simp [tabFits] at h
    have := tabFits_at r (k + 1) t h.2 (by simpa using hl)
    rw [show k + 1 + t = k + (t + 1) by omega] at this
    simpa using this

/-- What the table says of a type is so. -/
structure TiOk (P : Program) (T : Tab) (t : Nat) (ti : Ti) (i : TypeInfo) (d : TypeDesc) (z : Value) : Prop where
  info : P.info? t = some i
  under : P.underlying t = some d
  size : i.size = ti.size
  bytes : i.bytes = ti.bytes
  kd : kdFits P d ti.kd = true
  zero : i.zero = some z
  zeroEq : zeroEq ti.zero z = true
  zeroFits : fits T t ti.zero = true

theorem tiOk_of {P : Program} {T : Tab} (hT : tabFits P T 0 T = true) (t : Nat) (hk : (T.at t).kd ≠ .other) : ∃ i d z, TiOk P T t (T.at t) i d z := by
  have hlt : t < T.length := by
    rcases Nat.lt_or_ge t T.length with h | h
    · exact h
    · exfalso; apply hk; simp [Tab.at, List.getD, List.getElem?_eq_none h]
  have h := tabFits_at T 0 t hT hlt
  rw [Nat.zero_add] at h
  change tiFits P T t (T.at t) = true at h
  unfold tiFits at h
  split at h
  · rename_i e; exact absurd e hk
  · split at h
    · rename_i i d hi hd
      simp only [Bool.and_eq_true, Nat.beq_eq] at h
      obtain ⟨⟨⟨⟨h1, h2⟩, h3⟩, h5⟩, h4⟩ := h
      cases hz : i.zero with
      | none => rw [hz] at h4; simp at h4
      | some z => rw [hz] at h4; exact ⟨i, d, z, hi, hd, h1, h2, h3, hz, h4, h5⟩
    · simp at h

theorem cellEq_rep {T : Tab} {w : World} {μ : Nat → Option Nat} {ro : Nat → Prop} {x : PV} {v : Value} (h : cellEq x v = true) : Rep T w μ ro x v ∧ cellC x = true ∧ pureC x := by
  unfold cellEq at h
  split at h <;> first | (simp at h; done) | skip
  · simp at h; subst h; exact ⟨.bool _, rfl, trivial⟩
  · simp at h; obtain ⟨rfl, rfl⟩ := h; exact ⟨.int _ _, rfl, trivial⟩
  · simp at h; subst h; exact ⟨.str _, rfl, trivial⟩
  · exact ⟨.nilsl, rfl, trivial⟩
  · exact ⟨.nilp, rfl, trivial⟩
  · exact ⟨.nilm, rfl, trivial⟩
  · exact ⟨.nilf, rfl, trivial⟩

theorem cellsEq_rep {T : Tab} {w : World} {μ : Nat → Option Nat} {ro : Nat → Prop} : ∀ {l : List PV} {vs : List Value}, cellsEq l vs = true → l.length = vs.length ∧ ∀ (i : Nat) c v, l[i]? = some c → vs[i]? = some v → Rep T w μ ro c v ∧ cellC c = true ∧ pureC c
  | [], [], _ => ⟨rfl, fun i c v h => by simp at h⟩
  | [], _ :: _, h => by simp [cellsEq] at h
  | _ :: _, [], h => by simp [cellsEq] at h
  | x :: r, v :: s, h => by
    simp only [cellsEq, Bool.and_eq_true] at h
    have ih := cellsEq_rep (T := T) (w := w) (μ := μ) (ro := ro) h.2
    refine ⟨by simp [ih.1], fun i c v hc hv => ?_⟩
    cases i with
    | zero => simp at hc hv; subst hc; subst hv; exact cellEq_rep h.1
    | succ i => simp at hc hv; exact ih.2 i c v hc hv

mutual
theorem shpB_shp : ∀ x : PV, shpB x = true → Shp x
  | .agg fs, h => by rw [Shp]; exact shpsB_shps fs (by simpa [shpB] using h)
  | .arr n xs, h => by
    simp only [shpB, Bool.and_eq_true, Nat.beq_eq, List.all_eq_true] at h
    refine ⟨h.1, fun c hc => ?_⟩
    have := h.2 c hc
    cases c <;> simp_all [pureC]
  | .undef, _ => trivial
  | .bool _, _ => trivial
  | .int _ _, _ => trivial
  | .str _, _ => trivial
  | .tup _, _ => trivial
  | .list _ _, _ => trivial
  | .nilsl, _ => trivial
  | .sl _ _ _ _, _ => trivial
  | .sla _ _ _ _ _ _ _, _ => trivial
  | .ptr _ _ _ _, _ => trivial
  | .vptr _ _ _, _ => trivial
  | .nilp, _ => trivial
  | .mapr _, _ => trivial
  | .dmap _ _ _, _ => trivial
  | .nilm, _ => trivial
  | .fn _ _, _ => trivial
  | .nilf, _ => trivial
theorem shpsB_shps : ∀ l : List PV, shpsB l = true → Shps l
  | [], _ => trivial
  | x :: r, h => by
    simp only [shpsB, Bool.and_eq_true] at h
    exact ⟨shpB_shp x h.1, shpsB_shps r h.2⟩
end

theorem zeroEq_rep {T : Tab} {w : World} {μ : Nat → Option Nat} {ro : Nat → Prop} {x : PV} {v : Value} (h : zeroEq x v = true) : Rep T w μ ro x v ∧ Shp x ∧ pureV x := by
  unfold zeroEq at h
  split at h
  · rename_i fs vs
    simp only [Bool.and_eq_true] at h
    have hs := shpB_shp _ h.1
    have hc := cellsEq_rep (T := T) (w := w) (μ := μ) (ro := ro) h.2
    have key : ∀ c ∈ flat (.agg fs), cellC c = true ∧ pureC c := fun c hcm => by
      obtain ⟨i, hi, rfl⟩ := List.getElem_of_mem hcm
      have hv : i < vs.toList.length := by rw [← hc.1]; exact hi
      exact (hc.2 i _ _ (List.getElem?_eq_getElem hi) (List.getElem?_eq_getElem hv)).2
    exact ⟨.agg _ vs rfl hs (by simpa using hc.1) (fun i c v h1 h2 => (hc.2 i c v h1 (by simpa using h2)).1) (fun c hcm => (key c hcm).1), hs, fun c hcm => (key c hcm).2⟩
  · rename_i n xs vs
    simp only [Bool.and_eq_true] at h
    have hs := shpB_shp _ h.1
    have hc := cellsEq_rep (T := T) (w := w) (μ := μ) (ro := ro) h.2
    have key : ∀ c ∈ flat (.arr n xs), cellC c = true ∧ pureC c := fun c hcm => by
      obtain ⟨i, hi, rfl⟩ := List.getElem_of_mem hcm
      have hv : i < vs.toList.length := by rw [← hc.1]; exact hi
      exact (hc.2 i _ _ (List.getElem?_eq_getElem hi) (List.getElem?_eq_getElem hv)).2
    exact ⟨.agg _ vs rfl hs (by simpa using hc.1) (fun i c v h1 h2 => (hc.2 i c v h1 (by simpa using h2)).1) (fun c hcm => (key c hcm).1), hs, fun c hcm => (key c hcm).2⟩
  · rename_i h1 h2
    have := cellEq_rep (T := T) (w := w) (μ := μ) (ro := ro) h
    refine ⟨this.1, ?_, ?_⟩
    · cases x <;> first | trivial | simp [cellEq] at h
    · intro c hc
      cases x <;> simp [cellEq] at h <;> (simp [flat] at hc; subst hc; exact this.2.2)

end Pv
