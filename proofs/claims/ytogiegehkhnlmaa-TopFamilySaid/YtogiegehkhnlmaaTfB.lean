/- The table out of its places. -/
import Derived.Test.YtogiegehkhnlmaaTfA
namespace Go.Proofs.Ytogiegehkhnlmaa
open Go.RowKit

theorem getP_out {T : List PS} (hl : T.length = 6) {i : Int} (h : i < 0 ∨ 6 ≤ i) : getP T i = .none := by
  unfold getP
  split
  · rw [List.getD, List.getElem?_eq_none (by omega)]; rfl
  · rfl


end Go.Proofs.Ytogiegehkhnlmaa
