/- The walk of the statement on a nil table. -/
import Derived.Test.YtocmochdgidcmaaProcOpen
namespace Go.Proofs.Ytocmochdgidcmaa
open Go.RowKit

theorem at_nil (i : Int) (w : World) : Calls Try.prog 26 #[.pointer none, .int .i64 i] w fun e w' => e = .returned .nilIface ∧ w = w' := by
  go_enter Try.func26, Try.ntmps26
  go_wp2
  go_ret
  exact ⟨by simp, rfl⟩
theorem runs_nil (i : Int) (w : World) : Calls Try.prog 28 #[.pointer none, .int .i64 i] w fun e w' => e = .returned (.tuple #[.agg #[.int .i64 0], .int .i64 1]) ∧ Upd [] w w' := by
  go_enter Try.func28, Try.ntmps28
  go_wp2_with fail
  have hb := (Blk.new w 55 #[.int .i64 0])
  have hl := load_living _ w.heap.size (.int .i64 0) (hb.cellAt (i := 0) rfl)
  refine bodyPost_ret (v := .tuple #[.agg #[.int .i64 0], .int .i64 1]) (by rw [results_cell_tmp rfl]; simp [asAddr, hl, Result.andThen]) rfl ?_
  exact ⟨rfl, (Upd.refl _ _).alloc _⟩
set_option maxHeartbeats 1000000 in
theorem state_nil (i : Int) (w : World) : Calls Try.prog 11 #[.pointer none, .int .i64 i] w fun e w' => e = .returned (.int .u8 0) ∧ Upd [] w w' := by
  have e0 := eqN0
  have m0 := asL0
  have m1 := asE0
  go_enter Try.func11, Try.ntmps11
  go_wp2_with fail
  refine (at_nil i _).mono ?_; rintro e w' ⟨rfl, rfl⟩
  go_wp2_with fail
  go_ret
  exact ⟨by simp, by first | exact Upd.refl _ _ | exact (Upd.refl _ _).alloc _ | exact ((Upd.refl _ _).alloc _).alloc _⟩
set_option maxHeartbeats 1000000 in
theorem parent_nil (i : Int) (w : World) : Calls Try.prog 12 #[.pointer none, .int .i64 i] w fun e w' => e = .returned (.int .i64 (-1)) ∧ Upd [] w w' := by
  have e0 := eqN0
  have m0 := asL0
  have m1 := asE0
  go_enter Try.func12, Try.ntmps12
  go_wp2_with fail
  refine (at_nil i _).mono ?_; rintro e w' ⟨rfl, rfl⟩
  go_wp2_with fail
  go_ret
  exact ⟨by simp, by first | exact Upd.refl _ _ | exact (Upd.refl _ _).alloc _ | exact ((Upd.refl _ _).alloc _).alloc _⟩
set_option maxHeartbeats 1000000 in
theorem status_nil (i : Int) (w : World) : Calls Try.prog 15 #[.pointer none, .int .i64 i] w fun e w' => e = .returned (.int .i64 0) ∧ Upd [] w w' := by
  have e0 := eqN0
  have m0 := asL0
  have m1 := asE0
  go_enter Try.func15, Try.ntmps15
  go_wp2_with fail
  refine (at_nil i _).mono ?_; rintro e w' ⟨rfl, rfl⟩
  go_wp2_with fail
  go_ret
  exact ⟨by simp, by first | exact Upd.refl _ _ | exact (Upd.refl _ _).alloc _ | exact ((Upd.refl _ _).alloc _).alloc _⟩
set_option maxHeartbeats 1000000 in
theorem children_nil (i : Int) (w : World) : Calls Try.prog 13 #[.pointer none, .int .i64 i] w fun e w' => e = .returned (.slice none 0 0) ∧ Upd [] w w' := by
  have e0 := eqN0
  have m0 := asL0
  have m1 := asE0
  go_enter Try.func13, Try.ntmps13
  go_wp2_with fail
  refine (at_nil i _).mono ?_; rintro e w' ⟨rfl, rfl⟩
  go_wp2_with fail
  go_ret
  exact ⟨by simp, by first | exact Upd.refl _ _ | exact (Upd.refl _ _).alloc _ | exact ((Upd.refl _ _).alloc _).alloc _⟩
set_option maxHeartbeats 1000000 in
theorem fork_nil (i : Int) (w : World) : Calls Try.prog 21 #[.pointer none, .int .i64 i] w fun e w' => e = .returned (.tuple #[.int .i64 0, .int .i64 1]) ∧ Upd [] w w' := by
  have e0 := eqN0
  have m0 := asL0
  have m1 := asE0
  go_enter Try.func21, Try.ntmps21
  go_wp2_with fail
  refine (runs_nil i _).mono ?_; rintro e w1 ⟨rfl, hu⟩
  have HU := Lib.hid hu
  clear hu
  go_wp2_with fail
  go_ret2
  exact ⟨rfl, HU.out.alloc _⟩
set_option maxHeartbeats 1000000 in
theorem exit_nil (i s : Int) (w : World) : Calls Try.prog 17 #[.pointer none, .int .i64 i, .int .i64 s] w fun e w' => e = .returned (.int .i64 1) ∧ Upd [] w w' := by
  have e0 := eqN0
  have m0 := asL0
  have m1 := asE0
  go_enter Try.func17, Try.ntmps17
  go_wp2_with fail
  refine (runs_nil i _).mono ?_; rintro e w1 ⟨rfl, hu⟩
  have HU := Lib.hid hu
  clear hu
  go_wp2_with fail
  go_ret
  exact ⟨rfl, ((((Upd.refl [] w).alloc _).trans0 HU.out).alloc _)⟩
set_option maxHeartbeats 1000000 in
theorem wait_nil (i : Int) (w : World) : Calls Try.prog 14 #[.pointer none, .int .i64 i] w fun e w' => e = .returned (.tuple #[.int .i64 0, .int .i64 0, .int .i64 1]) ∧ Upd [] w w' := by
  go_enter Try.func14, Try.ntmps14
  go_wp2_with fail
  have u0 : Upd [] w ((((w.alloc (.cells #[.pointer none] 23)).alloc (.cells #[.int .i64 0] 3)).alloc (.cells #[.int .i64 0] 3)).alloc (.cells #[.int .i64 0] 34)) := ((((Upd.refl [] w).alloc _).alloc _).alloc _).alloc _
  have b4 := ((Blk.new (w.alloc (.cells #[.pointer none] 23)) 3 #[.int .i64 0]).alloc (.cells #[.int .i64 0] 3)).alloc (.cells #[.int .i64 0] 34)
  have b5 := (Blk.new ((w.alloc (.cells #[.pointer none] 23)).alloc (.cells #[.int .i64 0] 3)) 3 #[.int .i64 0]).alloc (.cells #[.int .i64 0] 34)
  have b6 := Blk.new (((w.alloc (.cells #[.pointer none] 23)).alloc (.cells #[.int .i64 0] 3)).alloc (.cells #[.int .i64 0] 3)) 34 #[.int .i64 0]
  simp only [World.size_alloc] at b4 b5 b6
  generalize ((((w.alloc (.cells #[.pointer none] 23)).alloc (.cells #[.int .i64 0] 3)).alloc (.cells #[.int .i64 0] 3)).alloc (.cells #[.int .i64 0] 34)) = W0 at *
  refine (runs_nil i _).mono ?_
  rintro e w1 ⟨rfl, hu⟩
  replace b4 := b4.upd hu (by simp)
  replace b5 := b5.upd hu (by simp)
  replace b6 := b6.upd hu (by simp)
  replace u0 := u0.trans0 hu
  clear hu
  have l6 := b6.lt
  generalize e6 : w.heap.size + 1 + 1 + 1 = N6 at *
  generalize e5 : w.heap.size + 1 + 1 = N5 at *
  generalize e4 : w.heap.size + 1 = N4 at *
  have q : Hid (w.heap.size < N4 ∧ N4 < N5 ∧ N5 < N6) := Lib.hid (by omega)
  have k4 := b4.lt
  have k5 := b5.lt
  have c4 : w1.cell? ⟨N4, 0, none⟩ = some (.int .i64 0) := b4.cellAt (i := 0) rfl
  have c5 : w1.cell? ⟨N5, 0, none⟩ = some (.int .i64 0) := b5.cellAt (i := 0) rfl
  have c6 : w1.cell? ⟨N6, 0, none⟩ = some (.int .i64 0) := b6.cellAt (i := 0) rfl
  have f4 := b4.frozen 0
  have f5 := b5.frozen 0
  have f6 := b6.frozen 0
  have n45 : N4 ≠ N5 := by omega
  have n46 : N4 ≠ N6 := by omega
  have n56 : N5 ≠ N6 := by omega
  have B4 := Lib.hid b4
  have B5 := Lib.hid b5
  have B6 := Lib.hid b6
  have HU := Lib.hid u0
  clear b4 b5 b6 u0 e4 e5 e6
  go_wp2_with fail
  have q := q.out
  refine bodyPost_ret (results_cell3 rfl _ _ rfl rfl rfl
    (load_int _ _ under_int _ _ (((((B4.out.set_ 0 (.int .i64 0)).far (by simp; omega) _).far (by simp; omega) _).alloc _).cellAt (i := 0) rfl))
    (load_int _ _ under_int _ _ (((((B5.out.far (by simp; omega) _).set_ 0 (.int .i64 0)).far (by simp; omega) _).alloc _).cellAt (i := 0) rfl))
    (load_int _ _ under_errno _ _ (((((B6.out.far (by simp; omega) _).far (by simp; omega) _).set_ 0 (.int .i64 1)).alloc _).cellAt (i := 0) rfl))) rfl ?_
  exact ⟨rfl, ((((HU.out.zero []).setCell (.inr (by simp; omega)) _).setCell (.inr (by simp; omega)) _).setCell (.inr (by simp; omega)) _).alloc _⟩

theorem kill_nil (i : Int) (w : World) : Calls Try.prog 22 #[.pointer none, .int .i64 i] w fun e w' => e = .returned (.int .i64 1) ∧ Upd [] w w' := by
  go_enter Try.func22, Try.ntmps22
  go_wp2_with fail
  refine (exit_nil i 137 _).mono ?_; rintro e w1 ⟨rfl, hu⟩
  have HU := Lib.hid hu
  clear hu
  go_wp2_with fail
  go_ret
  exact ⟨rfl, HU.out⟩
theorem copy_nil (w : World) : Calls Try.prog 16 #[.pointer none] w fun e w' => e = .returned (.pointer none) ∧ w = w' := by
  go_enter Try.func16, Try.ntmps16
  go_wp2
  go_ret
  exact ⟨by simp, rfl⟩
set_option maxHeartbeats 1000000 in
theorem running_nil (w : World) : Calls Try.prog 23 #[.pointer none] w fun e w' => e = .returned (.slice none 0 0) ∧ Upd [] w w' := by
  have HS := Lib.hid (fun k W => state_nil k W)
  go_enter Try.func23, Try.ntmps23
  go_wp2_with fail
  go_loopw [3, 5] (fun v c wr => ∃ k : Nat, k ≤ 6 ∧ v = .slice none 0 0 ∧ c = .int .i64 (k : Int) ∧ Upd [] w wr) (fun _ c _ => 6 - (intOf c).toNat)
  case atStart => exact ⟨0, by omega, rfl, rfl, Upd.refl _ _⟩
  case round =>
    obtain ⟨k, hk, rfl, rfl, hu⟩ := hrel
    have HU := Lib.hid hu
    clear hu
    by_cases hlt : k < 6
    · have i1 : (k : Int) < 6 := by omega
      go_wp2_with fail
      refine (HS.out _ _).mono ?_; rintro e w1 ⟨rfl, hu⟩
      have HU1 := Lib.hid (HU.out.trans0 hu)
      clear hu
      go_wp2_with fail
      go_roundw
      case rel => exact ⟨k + 1, by omega, by first | rfl | trivial, by go_num, HU1.out⟩
      case measure => simp [intOf]; omega
    · obtain rfl : k = 6 := by omega
      go_wp2_with fail
      go_ret
      exact ⟨by simp, HU.out⟩

set_option maxRecDepth 100000 in
set_option maxHeartbeats 2000000 in
theorem none_any (cs : List Value) (w : World) (hx : DeedOk cs) :
    Calls Try.prog 8 #[.agg cs.toArray] w (TruePost w) := by
  obtain ⟨K, n, b, rfl⟩ := hx
  go_enter Try.func8, Try.ntmps8
  go_wp2_with fail
  have hnew := Blk.new w 45 #[.int .i64 K, .int .i64 n, .int .i64 b]
  have hu0 := (Upd.refl [] w).alloc (.cells #[.int .i64 K, .int .i64 n, .int .i64 b] 45)
  generalize (w.alloc (.cells #[.int .i64 K, .int .i64 n, .int .i64 b] 45)) = W1 at *
  have c1 := hnew.cellAt (i := 1) rfl
  have c2 := hnew.cellAt (i := 2) rfl
  generalize w.heap.size = Nb at *
  have HU0 := Lib.hid hu0
  clear hnew hu0
  simp only [List.getElem_toArray, List.getElem_cons_succ, List.getElem_cons_zero] at c1 c2
  go_wp2_with fail
  refine (fork_nil n _).mono ?_; rintro e w2 ⟨rfl, hu⟩
  replace c1 := hu.cellAt c1 (by simp)
  replace c2 := hu.cellAt c2 (by simp)
  have HU1 := Lib.hid (HU0.out.trans0 hu)
  clear hu
  go_wp2_with fail
  refine (wait_nil n _).mono ?_; rintro e w3 ⟨rfl, hu⟩
  replace c1 := hu.cellAt c1 (by simp)
  replace c2 := hu.cellAt c2 (by simp)
  have HU2 := Lib.hid (HU1.out.trans0 hu)
  clear hu
  go_wp2_with fail
  refine (live_any _).mono ?_; rintro e w4 ⟨rfl, hu⟩
  replace c1 := hu.cellAt c1 (by simp)
  replace c2 := hu.cellAt c2 (by simp)
  have HU3 := Lib.hid (HU2.out.trans0 hu)
  clear hu
  go_wp2_with fail
  refine (exit_nil n b _).mono ?_; rintro e w5 ⟨rfl, hu⟩
  replace c1 := hu.cellAt c1 (by simp)
  replace c2 := hu.cellAt c2 (by simp)
  have HU4 := Lib.hid (HU3.out.trans0 hu)
  clear hu
  go_wp2_with fail
  refine (kill_nil n _).mono ?_; rintro e w6 ⟨rfl, hu⟩
  replace c1 := hu.cellAt c1 (by simp)
  replace c2 := hu.cellAt c2 (by simp)
  have HU5 := Lib.hid (HU4.out.trans0 hu)
  clear hu
  go_wp2_with fail
  refine (state_nil n _).mono ?_; rintro e w7 ⟨rfl, hu⟩
  replace c1 := hu.cellAt c1 (by simp)
  replace c2 := hu.cellAt c2 (by simp)
  have HU6 := Lib.hid (HU5.out.trans0 hu)
  clear hu
  go_wp2_with fail
  refine (parent_nil n _).mono ?_; rintro e w8 ⟨rfl, hu⟩
  replace c1 := hu.cellAt c1 (by simp)
  replace c2 := hu.cellAt c2 (by simp)
  have HU7 := Lib.hid (HU6.out.trans0 hu)
  clear hu
  go_wp2_with fail
  refine (children_nil n _).mono ?_; rintro e w9 ⟨rfl, hu⟩
  replace c1 := hu.cellAt c1 (by simp)
  replace c2 := hu.cellAt c2 (by simp)
  have HU8 := Lib.hid (HU7.out.trans0 hu)
  clear hu
  go_wp2_with fail
  refine (status_nil n _).mono ?_; rintro e w10 ⟨rfl, hu⟩
  replace c1 := hu.cellAt c1 (by simp)
  replace c2 := hu.cellAt c2 (by simp)
  have HU9 := Lib.hid (HU8.out.trans0 hu)
  clear hu
  go_wp2_with fail
  refine (running_nil _).mono ?_; rintro e w11 ⟨rfl, hu⟩
  replace c1 := hu.cellAt c1 (by simp)
  replace c2 := hu.cellAt c2 (by simp)
  have HU10 := Lib.hid (HU9.out.trans0 hu)
  clear hu
  go_wp2_with fail
  refine (copy_nil _).mono ?_; rintro e w' ⟨rfl, rfl⟩
  go_wp2_with fail
  go_ret
  exact ⟨by simp, HU10.out⟩

end Go.Proofs.Ytocmochdgidcmaa
