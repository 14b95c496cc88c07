/- Fork: the plain step. -/
import Derived.Test.YtogiegehkhnlmaaTfD
namespace Go.Proofs.Ytogiegehkhnlmaa
open Go.RowKit

/-- The first place from i on that is free, below 6. -/
def freeFrom (T : List PS) : Nat → Nat → Option Nat
  | 0, _ => none
  | n + 1, i => match getP T i with
    | .none => some i
    | _ => freeFrom T n (i + 1)
def forkN (T : List PS) (pid : Int) : Option Nat := match getP T pid with
  | .liv _ => freeFrom T 5 1
  | _ => none
def forkE (T : List PS) (pid : Int) : Int := match getP T pid with
  | .liv _ => (match freeFrom T 5 1 with
    | some _ => 0
    | none => 12)
  | _ => 5
def forkT (T : List PS) (pid : Int) : List PS := match forkN T pid with
  | some i => T.set i (.liv pid)
  | none => T

theorem freeFrom_step (T : List PS) (n i : Nat) (h : getP T i ≠ .none) : freeFrom T (n + 1) i = freeFrom T n (i + 1) := by
  show (match getP T i with | .none => some i | _ => freeFrom T n (i + 1)) = _
  cases hx : getP T i with
  | none => exact absurd hx h
  | liv p => rfl
  | dead p s => rfl
theorem freeFrom_hit (T : List PS) (n i : Nat) (h : getP T i = .none) : freeFrom T (n + 1) i = some i := by
  show (match getP T i with | .none => some i | _ => freeFrom T n (i + 1)) = _
  rw [h]

end Go.Proofs.Ytogiegehkhnlmaa
