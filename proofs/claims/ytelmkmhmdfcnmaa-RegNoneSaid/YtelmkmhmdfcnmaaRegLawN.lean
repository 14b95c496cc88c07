/- The walk of the statement on a nil registry. -/
import Derived.Test.YtelmkmhmdfcnmaaRegOpen
namespace Go.Proofs.Ytelmkmhmdfcnmaa
open Go.RowKit Go.Maps

section
open Go.ChangeShapes Go.WideShapes Go.ChangeAt Go.Deep
variable {H : Type} {enc : TypeId × Value → H} {w : World} {spare : Nat → Bool} {held : Bool}
theorem open_deed {r : Reach} {b0 : Nat} {v : Value} {d : DataW H} {p : List MemPlace} (hv : Value.okWide Try.prog w r b0 49 v) (h : DataW.Trod enc Try.prog w 0 spare held 49 v d p) :
    ∃ cs : List Value, v = .agg cs.toArray ∧ DeedOk cs := by
  obtain ⟨cs, rfl, hsz⟩ := okWide_struct (fs := deedFs) under_deed hv
  obtain ⟨fuel, hf⟩ := h
  have hd := deed_trod hf
  refine ⟨cs.toList, by rw [Array.toArray_toList], ?_⟩
  simpa [Value.cells] using hd
end

theorem may_nil (n : Nat) (b : Bool) (w : World) : Calls Try.prog 26 #[.pointer none, .int .u8 n, .bool b] w fun e w' => e = .returned (.int .i64 1) ∧ w' = w := by
  go_enter Try.func26, Try.ntmps26
  go_wp2_with fail
  go_ret
  exact ⟨by simp, rfl⟩
theorem unbind_nil (n : Nat) (w : World) : Calls Try.prog 12 #[.pointer none, .int .u8 n] w fun e w' => e = .returned (.tuple #[.int .i64 0, .int .i64 1]) ∧ w' = w := by
  go_enter Try.func12, Try.ntmps12
  go_wp2_with fail
  refine (may_nil n true _).mono ?_; rintro e w' ⟨rfl, rfl⟩
  go_wp2_with fail
  go_ret2
  exact ⟨by simp, rfl⟩
theorem sector_nil (n : Nat) (w : World) : Calls Try.prog 11 #[.pointer none, .int .u8 n] w fun e w' => e = .returned (.tuple #[.int .i64 0, .bool false]) ∧ w' = w := by
  go_enter Try.func11, Try.ntmps11
  go_wp2_with fail
  refine (may_nil n true _).mono ?_; rintro e w' ⟨rfl, rfl⟩
  go_wp2_with fail
  go_ret2
  exact ⟨by simp, rfl⟩
theorem frame_nil (s : Int) (w : World) : Calls Try.prog 18 #[.pointer none, .int .i64 s] w fun e w' => e = .returned (.tuple #[.int .u8 0, .bool false]) ∧ w' = w := by
  go_enter Try.func18, Try.ntmps18
  go_wp2_with fail
  go_ret2
  exact ⟨by simp, rfl⟩
theorem bind_nil (n : Nat) (s : Int) (w : World) : Calls Try.prog 15 #[.pointer none, .int .u8 n, .int .i64 s] w fun e w' => e = .returned (.int .i64 1) ∧ w' = w := by
  go_enter Try.func15, Try.ntmps15
  go_wp2_with fail
  refine (may_nil n false _).mono ?_; rintro e w' ⟨rfl, rfl⟩
  go_wp2_with fail
  go_ret
  exact ⟨by simp, rfl⟩
theorem dirty_nil (n : Nat) (b : Bool) (w : World) : Calls Try.prog 13 #[.pointer none, .int .u8 n, .bool b] w fun e w' => e = .returned (.int .i64 1) ∧ w' = w := by
  go_enter Try.func13, Try.ntmps13
  go_wp2_with fail
  refine (may_nil n true _).mono ?_; rintro e w' ⟨rfl, rfl⟩
  go_wp2_with fail
  go_ret
  exact ⟨by simp, rfl⟩
theorem move_nil (a b : Nat) (w : World) : Calls Try.prog 19 #[.pointer none, .int .u8 a, .int .u8 b] w fun e w' => e = .returned (.int .i64 1) ∧ w' = w := by
  go_enter Try.func19, Try.ntmps19
  go_wp2_with fail
  refine (may_nil a false _).mono ?_; rintro e w' ⟨rfl, rfl⟩
  go_wp2_with fail
  go_ret
  exact ⟨by simp, rfl⟩
theorem written_nil (n : Nat) (w : World) : Calls Try.prog 14 #[.pointer none, .int .u8 n] w fun e w' => e = .returned (.bool false) ∧ w' = w := by
  go_enter Try.func14, Try.ntmps14
  go_wp2_with fail
  go_ret
  exact ⟨by simp, rfl⟩
theorem frames_nil (w : World) : Calls Try.prog 17 #[.pointer none] w fun e w' => e = .returned (.slice none 0 0) ∧ w' = w := by
  go_enter Try.func17, Try.ntmps17
  go_wp2_with fail
  go_ret
  exact ⟨by simp, rfl⟩
theorem fork_nil (w : World) : Calls Try.prog 20 #[.pointer none] w fun e w' => e = .returned (.pointer none) ∧ w' = w := by
  go_enter Try.func20, Try.ntmps20
  go_wp2_with fail
  go_ret
  exact ⟨by simp, rfl⟩
set_option maxRecDepth 100000 in
set_option maxHeartbeats 1000000 in
theorem clear_nil (g n : Nat) (w : World) (hc : w.cell? ⟨g, 0, none⟩ = some (.int .u8 n)) : Calls Try.prog 23 #[.pointer none, .slice (some ⟨g, 0, none⟩) 1 1] w fun e w' => e = .returned (.int .i64 0) ∧ w' = w := by
  have HC := Lib.hid hc
  clear hc
  go_enter Try.func23, Try.ntmps23
  go_wp2_with fail
  go_loopw [5, 10] (fun vn vi W => ∃ j : Nat, j ≤ 1 ∧ vi = .int .i64 (j : Int) ∧ vn = .int .i64 0 ∧ W = w) (fun _ vi _ => 1 - (intOf vi).toNat)
  case atStart => exact ⟨0, by omega, rfl, rfl, rfl⟩
  case round =>
    obtain ⟨j, hj, rfl, rfl, rfl⟩ := hrel
    by_cases hlt : j < 1
    · have hc : wr.cell? ⟨g, j, none⟩ = some (.int .u8 n) := by
        have : j = 0 := by omega
        subst this
        exact HC.out
      have i0 : (0 : Int) ≤ (j : Int) := by omega
      have i1 : (j : Int) < 1 := by omega
      go_wp2_with fail
      refine (may_nil n true _).mono ?_; rintro e w' ⟨rfl, rfl⟩
      go_wp2_with fail
      go_roundw
      case rel => exact ⟨j + 1, by omega, by go_num, (by first | rfl | trivial), (by first | rfl | trivial)⟩
      case measure => simp [intOf]; omega
    · have i1 : ¬ (j : Int) < 1 := by omega
      go_wp2_with fail
      go_ret
      exact ⟨by simp, rfl⟩

set_option maxRecDepth 100000 in
set_option maxHeartbeats 4000000 in
theorem none_any (cs : List Value) (w : World) (hx : DeedOk cs) :
    Calls Try.prog 8 #[.agg cs.toArray] w (TruePost w) := by
  obtain ⟨K, s, f, g, on, rfl, _⟩ := hx
  have hb0 := Blk.new w 49 #[.int .i64 K, .int .i64 s, .int .u8 f, .int .u8 g, .bool on]
  have HU0 := Lib.hid ((Upd.refl [] w).alloc (.cells #[.int .i64 K, .int .i64 s, .int .u8 f, .int .u8 g, .bool on] 49))
  have HB0 := Lib.hid hb0
  have c1 := hb0.cellAt (i := 1) (v := .int .i64 s) rfl
  have c2 := hb0.cellAt (i := 2) (v := .int .u8 f) rfl
  clear hb0
  unfold deedCs
  go_enter Try.func8, Try.ntmps8
  go_wp2_with fail
  refine (unbind_nil f _).mono ?_; rintro e w' ⟨rfl, rfl⟩
  go_wp2_with fail
  refine (sector_nil f _).mono ?_; rintro e w' ⟨rfl, rfl⟩
  go_wp2_with fail
  refine (frame_nil s _).mono ?_; rintro e w' ⟨rfl, rfl⟩
  go_wp2_with fail
  refine (live_any _).mono ?_; rintro e w2 ⟨rfl, hu2⟩
  have HU2 := Lib.hid (HU0.out.trans0 hu2)
  have hb2 := HB0.out.upd hu2 (by simp)
  have d1 := hb2.cellAt (i := 1) (v := .int .i64 s) rfl
  have d2 := hb2.cellAt (i := 2) (v := .int .u8 f) rfl
  have d3 := hb2.cellAt (i := 3) (v := .int .u8 g) rfl
  have hb3 := hb2.alloc (.cells #[.int .u8 f] 5)
  have q2 := hb3.cellAt (i := 2) (v := .int .u8 f) rfl
  have q4 := (Blk.new w2 5 #[.int .u8 f]).cellAt (i := 0) (v := .int .u8 f) rfl
  have HQ := Lib.hid q4
  clear hu2 hb2 hb3 q4
  go_wp2_with fail
  refine (bind_nil f s _).mono ?_; rintro e w' ⟨rfl, rfl⟩
  go_wp2_with fail
  refine (dirty_nil f true _).mono ?_; rintro e w' ⟨rfl, rfl⟩
  go_wp2_with fail
  refine (move_nil f g _).mono ?_; rintro e w' ⟨rfl, rfl⟩
  go_wp2_with fail
  refine (clear_nil _ f _ HQ.out).mono ?_; rintro e w' ⟨rfl, rfl⟩
  go_wp2_with fail
  refine (written_nil f _).mono ?_; rintro e w' ⟨rfl, rfl⟩
  go_wp2_with fail
  refine (frames_nil _).mono ?_; rintro e w' ⟨rfl, rfl⟩
  go_wp2_with fail
  refine (fork_nil _).mono ?_; rintro e w' ⟨rfl, rfl⟩
  go_wp2_with fail
  go_ret
  exact ⟨by simp, HU2.out.alloc _⟩

end Go.Proofs.Ytelmkmhmdfcnmaa
