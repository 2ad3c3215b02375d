/- The examples of the chapter hold. No condition: for every input. -/
import Derived.Test.YtmaahlifffjeoaaFn
import Derived.Test.YtmaahlifffjeoaaCrcE
import Derived.Test.YtmaahlifffjeoaaRows
namespace Pv
open Go Go.Proofs Go.Proofs.Ytmaahlifffjeoaa

theorem crcOwn : ownKnob Try.prog.godebug = none := by kernel_rfl
theorem crcLaid : laidOutB Try.prog = true := by kernel_rfl

theorem u8_by {n : Int} (h : (Lit.int .u8 n).wf = true) : ∃ b : By, n = (b.toNat : Int) := by
  have : 0 ≤ n ∧ n ≤ 255 := by simpa [Lit.wf, IntKind.min, IntKind.max, IntKind.signed, IntKind.bits] using h
  exact ⟨BitVec.ofNat 8 n.toNat, by simp; omega⟩
theorem isBytes {M : Nat} {x : PV} (h : DataOf pvT M 8 22 x) : ∃ l : List By, x = .list 5 (bys l) := by
  obtain ⟨xs, rfl, h, _⟩ := h
  have : ∀ xs : List PV, (∀ y ∈ xs, DataOf pvT M 7 5 y) → ∃ l : List By, xs = bys l := by
    intro xs
    induction xs with
    | nil => exact fun _ => ⟨[], rfl⟩
    | cons a r ih =>
      intro h
      obtain ⟨l, rfl⟩ := ih (fun y hy => h y (by simp [hy]))
      obtain ⟨n, rfl, hn⟩ := h a (by simp)
      obtain ⟨b, rfl⟩ := u8_by hn
      exact ⟨b :: l, rfl⟩
  obtain ⟨l, rfl⟩ := this xs h
  exact ⟨l, rfl⟩
theorem isU16 {M : Nat} {x : PV} (t : Nat) (ht : t = 32 ∨ False) {n : Nat} (h : DataOf pvT M (n + 1) t x) : ∃ n : Nat, x = .int .u16 (n : Int) ∧ n < 65536 := by
  rcases ht with rfl | ht
  · obtain ⟨m, rfl, hm⟩ := h
    have : 0 ≤ m ∧ m ≤ 65535 := by simpa [Lit.wf, IntKind.min, IntKind.max, IntKind.signed, IntKind.bits] using hm
    exact ⟨m.toNat, by congr 1; omega, by omega⟩
  · exact ht.elim
theorem isU32 {M : Nat} {x : PV} (h : DataOf pvT M 8 24 x) : ∃ t : BitVec 32, x = .int .u32 (t.toNat : Int) := by
  obtain ⟨m, rfl, hm⟩ := h
  have : 0 ≤ m ∧ m ≤ 4294967295 := by simpa [Lit.wf, IntKind.min, IntKind.max, IntKind.signed, IntKind.bits] using hm
  exact ⟨BitVec.ofNat 32 m.toNat, by congr 1; simp; omega⟩
theorem isPair {M : Nat} {x : PV} (h : DataOf pvT M 8 35 x) : ∃ i j : Nat, x = .arr 2 [.int .u16 (i : Int), .int .u16 (j : Int)] ∧ i < 65536 ∧ j < 65536 := by
  obtain ⟨ys, rfl, hl, h⟩ := h
  match ys, hl with
  | [a, b], _ =>
    obtain ⟨i, rfl, hi⟩ := isU16 (n := 6) 32 (.inl rfl) (h a (by simp))
    obtain ⟨j, rfl, hj⟩ := isU16 (n := 6) 32 (.inl rfl) (h b (by simp))
    exact ⟨i, j, rfl, hi, hj⟩

theorem crcKnown_law (xs : List PV) (h : DatasOf pvT reachBytes 8 [] xs) : W8 [] xs (fun _ res => res = [.bool true]) := by
  match xs, h with
  | [], h => exact B8_law _ rfl
  | _ :: _, h => exact h.elim
set_option maxRecDepth 100000 in
theorem crcKnown_lifted (os : Os) (started : os.Started) (H : Type) (enc : TypeId × Value → H) :
    ReturnsInHanded {} Try.checked os 8 .any (Rows.crcKnownSpec.pre6 enc Try.prog Try.f8 Rows.crcKnownRow.domain false) (Rows.crcKnownSpec.post enc Try.prog Try.f8 false true false false) := by
  refine returnsInHanded_of_change_sized (C := Try.checked) crcOwn started (by kernel_rfl) Try.func8
    (ChangeSpec.witness6 (enc := enc) (C := Try.checked) false ⟨#[], #[], []⟩ 8 (by kernel_rfl) (by kernel_rfl) (by kernel_rfl) (by kernel_rfl)) ?_
  intro W base args ds gs before hval hW _ hsz _
  refine law_contract (n := 8) (rt := 4) pvT_fits pvT_sized crcLaid W8_ok (fun _ => rfl) Rows.crcKnownSpec rfl (fun ds h => ?_) ?_ (by kernel_rfl) (by kernel_rfl) base args ds gs before (fun xs h => ?_) hval hW hsz
  · match ds, h with
    | [], _ => rfl
  · have hp : Try.f8.params.toList = [] := by kernel_rfl
    rw [hp]
    have : ([] : List Nat).all (fun t => plainK pvT 8 t && Try.prog.readableRec t && decide (t < Try.prog.types.size)) = true := by kernel_rfl
    intro t ht
    have := List.all_eq_true.1 this t ht
    simpa [and_assoc] using this
  · have hp : Try.f8.params.toList = [] := by kernel_rfl
    rw [hp] at h
    exact crcKnown_law xs h
theorem crcKnown_proved : Rows.CrcKnownSaid :=
  OpenClaim.holds_of_wide 8 Try.f8 rfl rfl rfl rfl rfl rfl rfl ⟨rfl, rfl, rfl, rfl, rfl⟩ rfl rfl rfl rfl rfl (by kernel_rfl) Try.func8 (by kernel_rfl)
    (of_decide_eq_true (by kernel_rfl)) (by unfold Func.isWrapper; first | (rw [if_pos (by decide +kernel)]; kernel_rfl) | (rw [if_neg (by decide +kernel)]; exact ⟨rfl, rfl⟩))
    (fun os started H enc _ => crcKnown_lifted os started H enc)
end Pv
namespace Go.Proofs.Ytmaahlifffjeoaa
theorem crcKnown_holds : Rows.CrcKnownSaid := Pv.crcKnown_proved
end Go.Proofs.Ytmaahlifffjeoaa
