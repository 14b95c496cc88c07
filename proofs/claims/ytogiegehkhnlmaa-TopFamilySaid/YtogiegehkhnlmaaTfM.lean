/- The reference's Children and Exit. -/
import Derived.Test.YtogiegehkhnlmaaTfH
namespace Go.Proofs.Ytogiegehkhnlmaa
open Go.RowKit

/-- The children of pid, rising. -/
def kids (T : List PS) (pid : Int) : List Nat := seen (fun _ => T) pid 5
def kidsOf (T : List PS) (pid : Int) : List Nat := match getP T pid with
  | .none => []
  | _ => kids T pid
theorem seen_le (G : List Nat → List PS) (pid : Int) : ∀ n, (seen G pid n).length ≤ n := by
  intro n
  induction n with
  | zero => simp [seen]
  | succ n ih =>
    unfold seen
    split
    · rw [List.length_append]; simp; omega
    · omega
end Go.Proofs.Ytogiegehkhnlmaa
