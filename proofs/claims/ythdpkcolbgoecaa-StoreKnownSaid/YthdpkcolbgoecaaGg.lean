/- A contract of several shapes: which one, by what is handed over. -/
import Derived.Test.YthdpkcolbgoecaaFh

namespace Pv
open Go

def isN : List PV → Bool
  | .nilp :: _ => true
  | _ => false
def isZ : List Blk → Bool
  | .box _ _ (.agg (.nilp :: _)) :: _ => true
  | _ => false
theorem Sound.sel {P : Program} {T : Tab} {Γ : Globs} {f : FuncId} {φ ψ : FnSem} (c : List Blk → List PV → Bool) (h1 : Sound P T Γ f φ) (h2 : Sound P T Γ f ψ) : Sound P T Γ f (fun bs t K => cond (c bs t) (φ bs t K) (ψ bs t K)) := by
  intro bs args K hK
  cases h : c bs args with
  | true => rw [h] at hK; exact h1 bs args K hK
  | false => rw [h] at hK; exact h2 bs args K hK
end Pv
