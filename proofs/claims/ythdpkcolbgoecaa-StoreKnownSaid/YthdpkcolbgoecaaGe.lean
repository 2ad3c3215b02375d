/- Steps of decoding, two in one; orders that are drawn and are alike. -/
import Derived.Test.YthdpkcolbgoecaaFh

namespace Pv
open Go

/-- n + 1 orders that are alike. -/
def cj : Nat → Prop → Prop
  | 0, p => p
  | n + 1, p => p ∧ cj n p
theorem cj_eq (n : Nat) (p : Prop) : cj n p = p := by
  induction n with
  | zero => rfl
  | succ n ih => rw [cj, ih, and_self]
/-- Orders of two kinds. -/
def cj2 : List Bool → Prop → Prop → Prop
  | [], p, _ => p
  | [b], p, q => cond b q p
  | b :: c :: r, p, q => cond b q p ∧ cj2 (c :: r) p q
theorem cj2_intro (l : List Bool) (p q : Prop) (hp : p) (hq : q) : cj2 l p q := by
  induction l with
  | nil => exact hp
  | cons b r ih =>
    have hb : cond b q p := by cases b <;> assumption
    cases r with
    | nil => exact hb
    | cons c r => exact ⟨hb, ih⟩

section
variable {l : List PV} {bs : List Blk}
theorem iI {k : IntKind} {K : Int → List PV → Prop} (h : consK l fun a r => asIntK k a fun n => K n r) : ∃ n r, l = .int k n :: r ∧ K n r := by
  obtain ⟨a, r, e, h⟩ := consK_inv h
  obtain ⟨n, e2, h⟩ := asIntK_inv h
  exact ⟨n, r, by rw [e, e2], h⟩
theorem bI {K : Bool → List PV → Prop} (h : consK l fun a r => asBoolK a fun n => K n r) : ∃ n r, l = .bool n :: r ∧ K n r := by
  obtain ⟨a, r, e, h⟩ := consK_inv h
  obtain ⟨n, e2, h⟩ := asBoolK_inv h
  exact ⟨n, r, by rw [e, e2], h⟩
theorem sI {K : ByteArray → List PV → Prop} (h : consK l fun a r => asStrK a fun n => K n r) : ∃ n r, l = .str n :: r ∧ K n r := by
  obtain ⟨a, r, e, h⟩ := consK_inv h
  obtain ⟨n, e2, h⟩ := asStrK_inv h
  exact ⟨n, r, by rw [e, e2], h⟩
theorem lI {ty : Nat} {K : List PV → List PV → Prop} (h : consK l fun a r => asListK ty a fun n => K n r) : ∃ n r, l = .list ty n :: r ∧ K n r := by
  obtain ⟨a, r, e, h⟩ := consK_inv h
  obtain ⟨n, e2, h⟩ := asListK_inv h
  exact ⟨n, r, by rw [e, e2], h⟩
theorem aI {K : List PV → List PV → Prop} (h : consK l fun a r => asAggK a fun n => K n r) : ∃ n r, l = .agg n :: r ∧ K n r := by
  obtain ⟨a, r, e, h⟩ := consK_inv h
  obtain ⟨n, e2, h⟩ := asAggK_inv h
  exact ⟨n, r, by rw [e, e2], h⟩
theorem zI {h' ty : Nat} {K : Nat → List PV → Prop} (h : consK l fun a r => slK0 h' ty a fun n => K n r) : ∃ n r, l = .sl h' ty 0 n :: r ∧ K n r := by
  obtain ⟨a, r, e, h⟩ := consK_inv h
  obtain ⟨n, e2, h⟩ := slK0_inv h
  exact ⟨n, r, by rw [e, e2], h⟩
theorem pI {h' ty i : Nat} {p : List Nat} {K : List PV → Prop} (h : consK l fun a r => ptrK h' ty i p a (K r)) : ∃ r, l = .ptr h' ty i p :: r ∧ K r := by
  obtain ⟨a, r, e, h⟩ := consK_inv h
  obtain ⟨e2, h⟩ := ptrK_inv h
  exact ⟨r, by rw [e, e2], h⟩
theorem mI {h' : Nat} {K : List PV → Prop} (h : consK l fun a r => maprK h' a (K r)) : ∃ r, l = .mapr h' :: r ∧ K r := by
  obtain ⟨a, r, e, h⟩ := consK_inv h
  obtain ⟨e2, h⟩ := maprK_inv h
  exact ⟨r, by rw [e, e2], h⟩
theorem bB {v : Bool} {ty : Nat} {K : PV → List Blk → Prop} (h : bConsK bs fun a r => bBoxK v ty a fun x => K x r) : ∃ x r, bs = .box v ty x :: r ∧ K x r := by
  obtain ⟨a, r, e, h⟩ := bConsK_inv h
  obtain ⟨x, e2, h⟩ := bBoxK_inv h
  exact ⟨x, r, by rw [e, e2], h⟩
theorem bA {v : Bool} {ty : Nat} {K : List PV → List Blk → Prop} (h : bConsK bs fun a r => bBoxK v ty a fun x => asAggK x fun fs => K fs r) : ∃ fs r, bs = .box v ty (.agg fs) :: r ∧ K fs r := by
  obtain ⟨a, r, e, h⟩ := bConsK_inv h
  obtain ⟨x, e2, h⟩ := bBoxK_inv h
  obtain ⟨fs, e3, h⟩ := asAggK_inv h
  exact ⟨fs, r, by rw [e, e2, e3], h⟩
theorem bR {v : Bool} {ty : Nat} {K : List PV → List Blk → Prop} (h : bConsK bs fun a r => bRowK v ty a fun x => K x r) : ∃ x r, bs = .row v ty x :: r ∧ K x r := by
  obtain ⟨a, r, e, h⟩ := bConsK_inv h
  obtain ⟨x, e2, h⟩ := bRowK_inv h
  exact ⟨x, r, by rw [e, e2], h⟩
theorem bM {v : Bool} {kt et : Nat} {K : List PV → List Blk → Prop} (h : bConsK bs fun a r => bMapK v kt et a fun x => K x r) : ∃ x r, bs = .map v kt et x :: r ∧ K x r := by
  obtain ⟨a, r, e, h⟩ := bConsK_inv h
  obtain ⟨x, e2, h⟩ := bMapK_inv h
  exact ⟨x, r, by rw [e, e2], h⟩
end
end Pv
