/- Whatever is committed, wherever writes are cut, the device opened anew has the state ahead of the cut Commit or the one behind it, each one that was OK is there, and one that is told to be full or wrong changed nothing. No condition: for every input. -/
import Derived.Test.YthdpkcolbgoecaaSzA
import Derived.Test.YthdpkcolbgoecaaRows

namespace Pv
open Go Go.Proofs Go.Proofs.Ythdpkcolbgoecaa

set_option maxRecDepth 100000 in
theorem storeWholly_lifted (os : Os) (started : os.Started) (H : Type) (enc : TypeId × Value → H) :
    ReturnsInHanded {} Try.checked os 3 .any (Rows.storeWhollySpec.pre6 enc Try.prog Try.f3 Rows.storeWhollyRow.domain false) (Rows.storeWhollySpec.post enc Try.prog Try.f3 false true false false) := by
  refine returnsInHanded_of_change_sized (C := Try.checked) stOwn started (by kernel_rfl) Try.func3
    (ChangeSpec.witness6 (enc := enc) (C := Try.checked) false ⟨#[], #[.int .u8 0, .slice none 0 0], []⟩ 8 (by kernel_rfl) (by kernel_rfl) (by kernel_rfl) (by kernel_rfl)) ?_
  intro W base args ds gs before hval hW _ hsz _
  refine law_contract (n := 8) (rt := 4) pvT_fits pvT_sized stLaid W3_ok (fun _ => rfl) Rows.storeWhollySpec rfl (fun ds h => ?_) ?_ (by kernel_rfl) (by kernel_rfl) base args ds gs before (fun xs h => ?_) hval hW hsz
  · match ds, h with
    | [d0, d1], _ => rfl
  · have hp : Try.f3.params.toList = [5, 22] := by kernel_rfl
    rw [hp]
    have : ([5, 22] : List Nat).all (fun t => plainK pvT 8 t && Try.prog.readableRec t && decide (t < Try.prog.types.size)) = true := by kernel_rfl
    intro t ht
    have := List.all_eq_true.1 this t ht
    simpa [and_assoc] using this
  · have hp : Try.f3.params.toList = [5, 22] := by kernel_rfl
    rw [hp] at h
    exact storeWholly_law xs h
theorem storeWholly_proved : Rows.StoreWhollySaid :=
  OpenClaim.holds_of_wide 3 Try.f3 rfl rfl rfl rfl rfl rfl rfl ⟨rfl, rfl, rfl, rfl, rfl⟩ rfl rfl rfl rfl rfl (by kernel_rfl) Try.func3 (by kernel_rfl)
    (of_decide_eq_true (by kernel_rfl)) (by unfold Func.isWrapper; first | (rw [if_pos (by decide +kernel)]; kernel_rfl) | (rw [if_neg (by decide +kernel)]; exact ⟨rfl, rfl⟩))
    (fun os started H enc _ => storeWholly_lifted os started H enc)
end Pv
namespace Go.Proofs.Ythdpkcolbgoecaa
theorem storeWholly_holds : Rows.StoreWhollySaid := Pv.storeWholly_proved
#print axioms storeWholly_holds
end Go.Proofs.Ythdpkcolbgoecaa
