/- New, Copy: the program's table and the reference's. -/
import Derived.Test.YtogiegehkhnlmaaTfB
namespace Go.Proofs.Ytogiegehkhnlmaa
open Go.RowKit

def newT : List PS := [.liv 0, .none, .none, .none, .none, .none]

theorem new_any (w : World) : Calls Try.prog 4 #[] w fun e w' => ∃ t, e = .returned (.pointer (some ⟨t, 0, none⟩)) ∧ TabAt w' t newT ∧ Upd [] w w' ∧ w.heap.size ≤ t := by
  go_enter Try.func4, Try.ntmps4
  go_wp2
  go_ret
  exact ⟨_, rfl, ⟨Blk.new _ _ _, rfl⟩, (Upd.refl _ _).alloc _, Nat.le_refl _⟩

end Go.Proofs.Ytogiegehkhnlmaa
