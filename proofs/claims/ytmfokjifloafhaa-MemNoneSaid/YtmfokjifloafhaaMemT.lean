/- The program's frames (package mem), the last part: New, Fork, Fill, and what a nil memory answers. -/
import Derived.Test.YtmfokjifloafhaaMemS
namespace Go.Proofs.Ytmfokjifloafhaa
open Go.RowKit

theorem zeros_bcs_get (j : Nat) (hj : j < 32) : zeros32[j]! = Value.int .u8 0 := by
  have h : zeros32 = Array.replicate 32 (Value.int .u8 0) := rfl
  rw [h]
  simp [hj]
theorem madeCells_zero (n : Nat) : (madeCells (Value.agg zeros32).cells (n * 32)).toList = bcs (List.replicate (32 * n) 0) := by
  apply List.ext_getElem?
  intro i
  simp only [madeCells, Value.cells, bcs, List.map_replicate]
  by_cases hi : i < n * 32
  · have h1 : (zeros32[i % zeros32.size]!) = Value.int .u8 0 := by
      have hs : zeros32.size = 32 := rfl
      rw [hs]
      have hm : i % 32 < 32 := Nat.mod_lt _ (by omega)
      generalize i % 32 = j at hm
      rw [zeros_bcs_get j hm]
    rw [List.getElem?_replicate, if_pos (by omega)]
    simp [hi, h1]
  · rw [List.getElem?_replicate, if_neg (by omega)]
    simp
    omega

theorem mem_new (n : Int) (w : World) :
    Calls Try.prog 30 #[.int .i64 n] w fun e w' =>
      if n < 1 ∨ 64 < n then e = .returned (.pointer none) ∧ w = w' else
      ∃ m fb, e = .returned (.pointer (some ⟨m, 0, none⟩)) ∧ MemAt w' m fb n.toNat (List.replicate (32 * n.toNat) 0) ∧ Upd [] w w' ∧ w.heap.size ≤ m ∧ w.heap.size ≤ fb := by
  by_cases hk : n < 1 ∨ 64 < n
  · simp only [if_pos hk]
    go_enter Try.func30, Try.ntmps30
    go_wp2
    all_goals (first | (go_ret; exact ⟨rfl, rfl⟩) | (exfalso; omega))
  · simp only [if_neg hk]
    obtain ⟨k, rfl⟩ : ∃ k : Nat, n = k := ⟨n.toNat, by omega⟩
    obtain ⟨i, hi, hz, hs, hb⟩ := info_parts info_frames
    have HI := Lib.hid hi
    have HZ := Lib.hid hz
    clear hi hz
    have h1 : (1 : Int) ≤ k := by omega
    have h2 : (k : Int) ≤ 64 := by omega
    rw [Int.toNat_natCast]
    clear hk
    go_enter Try.func30, Try.ntmps30
    go_wp2_with (refine wpList_make_full _ rfl _ _ 65 rfl w.heap.size 70 i (.agg zeros32) 32 under_frames HI.out HZ.out hs .i64 .i64 _ _ k rfl rfl rfl rfl (by rw [hb]; omega) (by unfold maxLen; omega) (by simp) ?_; intro w1 hown hgrow)
    go_ret
    have hb2 := (World.ownsRow.lt hown w.heap.size rfl).2
    rw [madeCells_zero] at hown
    rcases hown.2 with ⟨h, _⟩ | ⟨g, cap, cur, hv, _, hg, hle, _, hsz, htk⟩
    · injection h with h _ _; injection h
    · injection hv with ha _ hcap
      injection ha with ha
      injection ha with ha _ _
      subst ha hcap
      rw [List.take_of_length_le (by simp; omega)] at htk
      have hu : Upd [] w (w1.alloc (.cells #[.slice (some ⟨w.heap.size, 0, none⟩) k k] MemT)) := ((Upd.refl [] w).grown hgrow (fun _ h => by cases h)).alloc _
      refine ⟨w1.heap.size, w.heap.size, rfl, ⟨k, [], ⟨Blk.new _ _ _, ?_, by simp, by omega, by omega⟩⟩, hu, by omega, Nat.le_refl _⟩
      have hbk : Blk w1 w.heap.size FrT cur := hg
      have : cur = (bcs (List.replicate (32 * k) 0) ++ []).toArray := by rw [List.append_nil, ← htk]
      rw [← this]
      exact hbk.alloc _

end Go.Proofs.Ytmfokjifloafhaa
