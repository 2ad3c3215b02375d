/- A part of the proof. No conditions of its own beyond those that its theorems name. -/
import Derived.Test.YthdpkcolbgoecaaStQA
import Derived.Test.YthdpkcolbgoecaaStZ
import Derived.Test.YthdpkcolbgoecaaSmr

namespace Pv
open Go Go.Proofs

theorem T29n_ok : AllSound Try.prog pvT pvG T29n := U5_ok
theorem W29n_ok : Sound Try.prog pvT pvG 29 W29n := W29n_of T29n_ok
theorem T10n_ok : AllSound Try.prog pvT pvG T10n := ⟨⟨W29n_ok, fun a w => Try.call29 a w⟩, U5_ok⟩
theorem W10n_ok : Sound Try.prog pvT pvG 10 W10n := W10n_of T10n_ok
theorem T29z_ok : AllSound Try.prog pvT pvG T29z := U5_ok
theorem W29z_ok : Sound Try.prog pvT pvG 29 W29z := W29z_of T29z_ok
theorem T10z_ok : AllSound Try.prog pvT pvG T10z := ⟨⟨W29z_ok, fun a w => Try.call29 a w⟩, U5_ok⟩
theorem W10z_ok : Sound Try.prog pvT pvG 10 W10z := W10z_of T10z_ok
theorem T23n_ok : AllSound Try.prog pvT pvG T23n := U5_ok
theorem W23n_ok : Sound Try.prog pvT pvG 23 W23n := W23n_of T23n_ok
theorem T7n_ok : AllSound Try.prog pvT pvG T7n := ⟨⟨W23n_ok, fun a w => Try.call23 a w⟩, U5_ok⟩
theorem W7n_ok : Sound Try.prog pvT pvG 7 W7n := W7n_of T7n_ok
theorem T16n_ok : AllSound Try.prog pvT pvG T16n := ⟨⟨W29n_ok, fun a w => Try.call29 a w⟩, U5_ok⟩
theorem W16n_ok : Sound Try.prog pvT pvG 16 W16n := W16n_of T16n_ok
theorem U19_ok : AllSound Try.prog pvT pvG U19 := ⟨⟨W19_ok, fun a w => Try.call19 a w⟩, U5_ok⟩
theorem T20n_ok : AllSound Try.prog pvT pvG T20n := ⟨⟨W29n_ok, fun a w => Try.call29 a w⟩, U19_ok⟩
theorem W20n_ok : Sound Try.prog pvT pvG 20 W20n := W20n_of T20n_ok
theorem T22z_ok : AllSound Try.prog pvT pvG T22z := ⟨⟨W29z_ok, fun a w => Try.call29 a w⟩, U19_ok⟩
theorem W22z_ok : Sound Try.prog pvT pvG 22 W22z := W22z_of T22z_ok
theorem W7m_ok : Sound Try.prog pvT pvG 7 W7m := Sound.sel (fun _ t => isN t) W7n_ok (W7_ok)
theorem W10m_ok : Sound Try.prog pvT pvG 10 W10m := Sound.sel (fun _ t => isN t) W10n_ok (Sound.sel (fun bs _ => isZ bs) W10z_ok (W10_ok))
theorem W16m_ok : Sound Try.prog pvT pvG 16 W16m := Sound.sel (fun _ t => isN t) W16n_ok (W16_ok)
theorem W20m_ok : Sound Try.prog pvT pvG 20 W20m := Sound.sel (fun _ t => isN t) W20n_ok (W20_ok)
theorem W22m_ok : Sound Try.prog pvT pvG 22 W22m := Sound.sel (fun bs _ => isZ bs) W22z_ok (W22_ok)
theorem T4_ok : AllSound Try.prog pvT pvG T4 := ⟨⟨W22m_ok, fun a w => Try.call22 a w⟩, ⟨⟨W20m_ok, fun a w => Try.call20 a w⟩, ⟨⟨W16m_ok, fun a w => Try.call16 a w⟩, ⟨⟨W10m_ok, fun a w => Try.call10 a w⟩, ⟨⟨W7m_ok, fun a w => Try.call7 a w⟩, U19_ok⟩⟩⟩⟩⟩
theorem W4_ok : Sound Try.prog pvT pvG 4 W4 := W4_of T4_ok
theorem U4_ok : AllSound Try.prog pvT pvG U4 := ⟨⟨W4_ok, fun a w => Try.call4 a w⟩, U19_ok⟩
end Pv
