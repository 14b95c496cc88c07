/- New, Copy: the program's table and the reference's. -/
import Derived.Test.YtocmochdgidcmaaProcB
namespace Go.Proofs.Ytocmochdgidcmaa
open Go.RowKit

def newT : List PS := [.liv 0, .none, .none, .none, .none, .none]

theorem new_any (w : World) : Calls Try.prog 24 #[] w fun e w' => ∃ t, e = .returned (.pointer (some ⟨t, 0, none⟩)) ∧ TabAt w' t newT ∧ Upd [] w w' ∧ w.heap.size ≤ t := by
  go_enter Try.func24, Try.ntmps24
  go_wp2
  go_ret
  exact ⟨_, rfl, ⟨Blk.new _ _ _, rfl⟩, (Upd.refl _ _).alloc _, Nat.le_refl _⟩

theorem rnew_any (w : World) : Calls Try.prog 25 #[] w fun e w' => ∃ t, e = .returned (.pointer (some ⟨t, 0, none⟩)) ∧ RTabAt w' t newT ∧ Upd [] w w' ∧ w.heap.size ≤ t := by
  go_enter Try.func25, Try.ntmps25
  go_wp2
  go_ret
  exact ⟨_, rfl, ⟨Blk.new _ _ _, rfl⟩, (Upd.refl _ _).alloc _, Nat.le_refl _⟩

theorem under_tab : Try.prog.underlying 66 = some (.struct (Try.prog.fieldsOf 66)) := by kernel_rfl
theorem info_tab : (Try.prog.info? 66).map (·.size) = some 6 := by kernel_rfl
theorem under_rtab : Try.prog.underlying 72 = some (.struct (Try.prog.fieldsOf 72)) := by kernel_rfl
theorem info_rtab : (Try.prog.info? 72).map (·.size) = some 18 := by kernel_rfl

set_option maxRecDepth 100000 in
theorem copy_any (t : Nat) (T : List PS) (w : World) (h : TabAt w t T) :
    Calls Try.prog 16 #[.pointer (some ⟨t, 0, none⟩)] w fun e w' =>
      ∃ q, e = .returned (.pointer (some ⟨q, 0, none⟩)) ∧ TabAt w' q T ∧ Upd [] w w' ∧ w.heap.size ≤ q := by
  obtain ⟨hb, hl⟩ := h
  have hra : w.rangeAt t 0 (T.map encP) := fun j v hv => hb.cellAt (by simpa using hv)
  have hlen : (T.map encP).length = 6 := by simp [hl]
  have HSZ := Lib.hid (show (Try.prog.info? 66).map (·.size) = some (T.map encP).length by rw [hlen]; exact info_tab)
  have HL := Lib.hid hlen
  have H1 : Hid ((T.map encP).toArray.all (·.oneCell') = true) := Lib.hid (by
    rw [Array.all_eq_true_iff_forall_mem]
    intro v hv
    simp only [List.mem_toArray, List.mem_map] at hv
    obtain ⟨x, _, rfl⟩ := hv
    cases x <;> rfl)
  have HT := Lib.hid hl
  clear hb hlen hl
  generalize hcs : T.map encP = cs at *
  have HC := Lib.hid hcs
  clear hcs
  go_enter Try.func16, Try.ntmps16
  go_wp2_with (first
    | (refine wpList_load_midg rfl 66 _ rfl t 0 rfl _ _ hra under_tab rfl HSZ.out ?_)
    | (refine wpList_store_new rfl 66 _ _ rfl _ rfl rfl 66 _ (by rw [List.size_toArray]; exact HSZ.out) (show 6 = cs.toArray.size by rw [List.size_toArray, HL.out]) H1.out ?_))
  go_ret
  refine ⟨_, rfl, ⟨?_, HT.out⟩, (Upd.refl _ _).alloc _, Nat.le_refl _⟩
  rw [HC.out]
  exact Blk.new _ _ _

set_option maxRecDepth 100000 in
theorem rcopy_any (t : Nat) (T : List PS) (w : World) (h : RTabAt w t T) :
    Calls Try.prog 19 #[.pointer (some ⟨t, 0, none⟩)] w fun e w' =>
      ∃ q, e = .returned (.pointer (some ⟨q, 0, none⟩)) ∧ RTabAt w' q T ∧ Upd [] w w' ∧ w.heap.size ≤ q := by
  obtain ⟨hb, hl⟩ := h
  have hra : w.rangeAt t 0 (T.flatMap encR) := fun j v hv => hb.cellAt (by simpa using hv)
  have hlen : (T.flatMap encR).length = 18 := by
    match T, hl with
    | [a, b, c, d, e, f], _ => simp [encR_length]
  have HSZ := Lib.hid (show (Try.prog.info? 72).map (·.size) = some (T.flatMap encR).length by rw [hlen]; exact info_rtab)
  have HL := Lib.hid hlen
  have H1 : Hid ((T.flatMap encR).toArray.all (·.oneCell') = true) := Lib.hid (by
    rw [Array.all_eq_true_iff_forall_mem]
    intro v hv
    simp only [List.mem_toArray, List.mem_flatMap] at hv
    obtain ⟨x, _, hx⟩ := hv
    cases x <;> (simp [encR] at hx; rcases hx with rfl | rfl | rfl <;> rfl))
  have HT := Lib.hid hl
  clear hb hlen hl
  generalize hcs : T.flatMap encR = cs at *
  have HC := Lib.hid hcs
  clear hcs
  go_enter Try.func19, Try.ntmps19
  go_wp2_with (first
    | (refine wpList_load_midg rfl 72 _ rfl t 0 rfl _ _ hra under_rtab rfl HSZ.out ?_)
    | (refine wpList_store_new rfl 72 _ _ rfl _ rfl rfl 72 _ (by rw [List.size_toArray]; exact HSZ.out) (show 18 = cs.toArray.size by rw [List.size_toArray, HL.out]) H1.out ?_))
  go_ret
  refine ⟨_, rfl, ⟨?_, HT.out⟩, (Upd.refl _ _).alloc _, Nat.le_refl _⟩
  rw [HC.out]
  exact Blk.new _ _ _

end Go.Proofs.Ytocmochdgidcmaa
