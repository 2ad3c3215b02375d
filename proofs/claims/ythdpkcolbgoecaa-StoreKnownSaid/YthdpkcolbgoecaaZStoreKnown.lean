/- The examples of the chapter hold, and stores that are none answer as the chapter says. No condition: the statement is closed. -/
import Derived.Test.YthdpkcolbgoecaaSkA
import Derived.Test.YthdpkcolbgoecaaStY
import Derived.Test.YthdpkcolbgoecaaRows

namespace Pv
open Go Go.Proofs Go.Proofs.Ythdpkcolbgoecaa

theorem stOwn : ownKnob Try.prog.godebug = none := by kernel_rfl
theorem stLaid : laidOutB Try.prog = true := by kernel_rfl
theorem storeKnown_law (xs : List PV) (h : DatasOf pvT reachBytes 8 [] xs) : W4 [] xs (fun _ res => res = [.bool true]) := by
  match xs, h with
  | [], h => exact B4_law (fun z => [PV.bool z] = [PV.bool true]) rfl
  | _ :: _, h => exact h.elim
set_option maxRecDepth 100000 in
theorem storeKnown_lifted (os : Os) (started : os.Started) (H : Type) (enc : TypeId × Value → H) :
    ReturnsInHanded {} Try.checked os 4 .any (Rows.storeKnownSpec.pre6 enc Try.prog Try.f4 Rows.storeKnownRow.domain false) (Rows.storeKnownSpec.post enc Try.prog Try.f4 false true false false) := by
  refine returnsInHanded_of_change_sized (C := Try.checked) stOwn started (by kernel_rfl) Try.func4
    (ChangeSpec.witness6 (enc := enc) (C := Try.checked) false ⟨#[], #[], []⟩ 8 (by kernel_rfl) (by kernel_rfl) (by kernel_rfl) (by kernel_rfl)) ?_
  intro W base args ds gs before hval hW _ hsz _
  refine law_contract (n := 8) (rt := 4) pvT_fits pvT_sized stLaid W4_ok (fun _ => rfl) Rows.storeKnownSpec rfl (fun ds h => ?_) ?_ (by kernel_rfl) (by kernel_rfl) base args ds gs before (fun xs h => ?_) hval hW hsz
  · match ds, h with
    | [], _ => rfl
  · have hp : Try.f4.params.toList = [] := by kernel_rfl
    rw [hp]
    intro t ht
    cases ht
  · have hp : Try.f4.params.toList = [] := by kernel_rfl
    rw [hp] at h
    exact storeKnown_law xs h
theorem storeKnown_proved : Rows.StoreKnownSaid :=
  OpenClaim.holds_of_wide 4 Try.f4 rfl rfl rfl rfl rfl rfl rfl ⟨rfl, rfl, rfl, rfl, rfl⟩ rfl rfl rfl rfl rfl (by kernel_rfl) Try.func4 (by kernel_rfl)
    (of_decide_eq_true (by kernel_rfl)) (by unfold Func.isWrapper; first | (rw [if_pos (by decide +kernel)]; kernel_rfl) | (rw [if_neg (by decide +kernel)]; exact ⟨rfl, rfl⟩))
    (fun os started H enc _ => storeKnown_lifted os started H enc)
end Pv
namespace Go.Proofs.Ythdpkcolbgoecaa
theorem storeKnown_holds : Rows.StoreKnownSaid := Pv.storeKnown_proved
#print axioms storeKnown_holds
end Go.Proofs.Ythdpkcolbgoecaa
