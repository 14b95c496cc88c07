/- New; words on strings. -/
import Derived.Test.YtacddmapdakepaaTsE
import Derived.Test.YtacddmapdakepaaRow
namespace Go.Proofs.Ytacddmapdakepaa
open Go.RowKit

theorem new_any (w : World) : Calls Try.prog 4 #[] w fun e w' => e = .returned (.pointer (some ⟨w.heap.size, 0, none⟩)) ∧ PipeAt w' w.heap.size [] 0 0 ∧ Upd [] w w' := by
  go_enter Try.func4, Try.ntmps4
  go_wp2
  go_ret
  refine ⟨by simp, ⟨⟨List.replicate 24 0, 0, ?_, ⟨by simp, by omega, by simp, by simp⟩⟩, by omega, by omega⟩, (Upd.refl _ _).alloc _⟩
  exact Blk.new _ _ _

theorem new_ex (w : World) : Calls Try.prog 4 #[] w fun e w' => ∃ p, e = .returned (.pointer (some ⟨p, 0, none⟩)) ∧ PipeAt w' p [] 0 0 ∧ Upd [] w w' ∧ w.heap.size ≤ p :=
  (new_any w).mono fun _ _ ⟨h1, h2, h3⟩ => ⟨_, h1, h2, h3, Nat.le_refl _⟩

theorem str_nil (s : ByteArray) (h : bl s ≠ []) : s.toList.isEmpty = false := by
  rw [ByteArray.toList_eq]
  cases h' : s.data.toList with
  | nil => exact absurd h' h
  | cons a l => rfl
theorem str_size (L : List UInt8) : (⟨L.toArray⟩ : ByteArray).size = L.length := by
  show L.toArray.size = _
  simp
theorem str_bl (s : ByteArray) : (⟨(bl s).toArray⟩ : ByteArray) = s := bl_ext (by simp [bl])

theorem bl_cat2 (L : List UInt8) (t : ByteArray) : (⟨L.toArray⟩ : ByteArray) ++ t = ⟨(L ++ bl t).toArray⟩ := bl_ext (by
  show (ByteArray.append _ _).data.toList = _
  simp [ByteArray.append, ByteArray.copySlice, bl])
theorem bl_mk (L : List UInt8) : bl ⟨L.toArray⟩ = L := by simp [bl]

theorem wN_le (L : List UInt8) (rd : Nat) (s : List UInt8) : wN L rd s ≤ s.length ∧ wN L rd s ≤ 24 - L.length := by
  unfold wN
  split <;> omega
theorem wN_err (L : List UInt8) (rd : Nat) (s : List UInt8) (h : wE L rd s ≠ 0) : wN L rd s = 0 := by
  unfold wE at h
  unfold wN
  by_cases h0 : rd = 0
  · simp [h0]
  · rw [if_neg h0] at h
    by_cases h1 : s = []
    · simp [h1] at h
    · rw [if_neg h1] at h
      by_cases h2 : wAgain L s
      · simp [h2]
      · simp [h2] at h

end Go.Proofs.Ytacddmapdakepaa
