/- The walk of the statement on a nil pipe. -/
import Derived.Test.YtdcecihojidiaaaPipeOpen
namespace Go.Proofs.Ytdcecihojidiaaa
open Go.RowKit

theorem open_nil (b : Bool) (w : World) : Calls Try.prog 10 #[.pointer none, .bool b] w fun e w' => e = .returned (.int .i64 1) ∧ w = w' := by
  go_enter Try.func10, Try.ntmps10
  go_wp2
  go_ret
  exact ⟨by simp, rfl⟩
theorem close_nil (b : Bool) (w : World) : Calls Try.prog 19 #[.pointer none, .bool b] w fun e w' => e = .returned (.int .i64 1) ∧ w = w' := by
  go_enter Try.func19, Try.ntmps19
  go_wp2
  go_ret
  exact ⟨by simp, rfl⟩
theorem count_nil (b : Bool) (w : World) : Calls Try.prog 18 #[.pointer none, .bool b] w fun e w' => e = .returned (.int .i64 0) ∧ w = w' := by
  go_enter Try.func18, Try.ntmps18
  go_wp2
  go_ret
  exact ⟨by simp, rfl⟩
theorem text_nil (w : World) : Calls Try.prog 14 #[.pointer none] w fun e w' => e = .returned (.string ⟨#[]⟩) ∧ w = w' := by
  go_enter Try.func14, Try.ntmps14
  go_wp2
  go_ret
  exact ⟨by simp, rfl⟩
theorem fork_nil (w : World) : Calls Try.prog 20 #[.pointer none] w fun e w' => e = .returned (.pointer none) ∧ w = w' := by
  go_enter Try.func20, Try.ntmps20
  go_wp2
  go_ret
  exact ⟨by simp, rfl⟩
theorem write_nil (s : ByteArray) (w : World) : Calls Try.prog 11 #[.pointer none, .string s] w fun e w' => e = .returned (.tuple #[.int .i64 0, .int .i64 1]) ∧ w = w' := by
  go_enter Try.func11, Try.ntmps11
  go_wp2
  go_ret2
  exact ⟨by simp, rfl⟩
theorem read_nil (n : Int) (w : World) : Calls Try.prog 13 #[.pointer none, .int .i64 n] w fun e w' => e = .returned (.tuple #[.string ⟨#[]⟩, .int .i64 1]) ∧ w = w' := by
  go_enter Try.func13, Try.ntmps13
  go_wp2
  go_ret2
  exact ⟨by simp, rfl⟩

set_option maxRecDepth 100000 in
set_option maxHeartbeats 2000000 in
theorem none_any (cs : List Value) (w : World) (hx : DeedOk cs) :
    Calls Try.prog 8 #[.agg cs.toArray] w (TruePost w) := by
  obtain ⟨K, n, b, s, rfl⟩ := hx
  go_enter Try.func8, Try.ntmps8
  go_wp2_with fail
  have hnew := Blk.new w 47 #[.int .i64 K, .int .i64 n, .bool b, .string s]
  have hu0 := (Upd.refl [] w).alloc (.cells #[.int .i64 K, .int .i64 n, .bool b, .string s] 47)
  generalize (w.alloc (.cells #[.int .i64 K, .int .i64 n, .bool b, .string s] 47)) = W1 at *
  have c1 := hnew.cellAt (i := 1) rfl
  have c2 := hnew.cellAt (i := 2) rfl
  have c3 := hnew.cellAt (i := 3) rfl
  generalize w.heap.size = Nb at *
  have HU0 := Lib.hid hu0
  clear hnew hu0
  simp only [List.getElem_toArray, List.getElem_cons_succ, List.getElem_cons_zero] at c1 c2 c3
  go_wp2_with fail
  refine (write_nil s _).mono ?_; rintro e w' ⟨rfl, rfl⟩
  go_wp2_with fail
  refine (read_nil n _).mono ?_; rintro e w' ⟨rfl, rfl⟩
  go_wp2_with fail
  refine (live_any _).mono ?_; rintro e w2 ⟨rfl, hu2⟩
  have d2 := hu2.cellAt c2 (by simp)
  have HU2 := Lib.hid (HU0.out.trans0 hu2)
  clear hu2
  go_wp2_with fail
  refine (open_nil b _).mono ?_; rintro e w' ⟨rfl, rfl⟩
  go_wp2_with fail
  refine (close_nil b _).mono ?_; rintro e w' ⟨rfl, rfl⟩
  go_wp2_with fail
  refine (count_nil b _).mono ?_; rintro e w' ⟨rfl, rfl⟩
  go_wp2_with fail
  refine (text_nil _).mono ?_; rintro e w' ⟨rfl, rfl⟩
  go_wp2_with fail
  refine (fork_nil _).mono ?_; rintro e w' ⟨rfl, rfl⟩
  go_wp2_with fail
  go_ret
  exact ⟨by simp, HU2.out⟩

end Go.Proofs.Ytdcecihojidiaaa
