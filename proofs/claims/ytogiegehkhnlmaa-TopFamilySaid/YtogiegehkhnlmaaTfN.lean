/- The reference's Exit and Kill. -/
import Derived.Test.YtogiegehkhnlmaaTfM
namespace Go.Proofs.Ytogiegehkhnlmaa
open Go.RowKit

def orphP : PS → PS
  | .none => .none
  | .liv _ => .liv 0
  | .dead _ s => .dead 0 s
def orph (T : List PS) (x : Nat) : List PS := T.set x (orphP (getP T x))
/-- The children of pid among the places 1 .. m are left to 0. -/
def orphTo (T : List PS) (pid : Int) : Nat → List PS
  | 0 => T
  | m + 1 => if kidB (orphTo T pid m) pid (m + 1) then orph (orphTo T pid m) (m + 1) else orphTo T pid m
def exitE (T : List PS) (pid : Int) : Int := match getP T pid with
  | .liv _ => if pid = 0 then 7 else 0
  | _ => 5
def exitT (T : List PS) (pid s : Int) : List PS := match getP T pid with
  | .liv p => if pid = 0 then T else orphTo (T.set pid.toNat (.dead p s)) pid 5
  | _ => T
theorem orphTo_yes {T : List PS} {pid : Int} {m : Nat} (h : kidB (orphTo T pid m) pid (m + 1) = true) : orphTo T pid (m + 1) = orph (orphTo T pid m) (m + 1) := by
  show (if kidB (orphTo T pid m) pid (m + 1) then orph (orphTo T pid m) (m + 1) else orphTo T pid m) = _
  rw [if_pos h]
theorem orphTo_no {T : List PS} {pid : Int} {m : Nat} (h : kidB (orphTo T pid m) pid (m + 1) = false) : orphTo T pid (m + 1) = orphTo T pid m := by
  show (if kidB (orphTo T pid m) pid (m + 1) then orph (orphTo T pid m) (m + 1) else orphTo T pid m) = _
  rw [h]
  rfl
theorem getP_some {T : List PS} (hl : T.length = 6) {i : Int} (h : getP T i ≠ .none) : 0 ≤ i ∧ i < 6 := by
  rcases Int.lt_or_le i 0 with h1 | h1
  · exact absurd (getP_out hl (.inl h1)) h
  · rcases Int.lt_or_le i 6 with h2 | h2
    · exact ⟨h1, h2⟩
    · exact absurd (getP_out hl (.inr h2)) h

end Go.Proofs.Ytogiegehkhnlmaa
