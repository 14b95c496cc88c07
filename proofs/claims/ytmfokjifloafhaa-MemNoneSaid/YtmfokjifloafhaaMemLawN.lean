/- The walk of the statement on a nil memory. -/
import Derived.Test.YtmfokjifloafhaaMemLaws
namespace Go.Proofs.Ytmfokjifloafhaa
open Go.RowKit

theorem nil_word (f o : Int) (w : World) :
    Calls Try.prog 16 #[.pointer none, .int .i64 f, .int .i64 o] w fun e w' => e = .returned (.tuple #[.int .u16 0, .int .i64 1]) ∧ w = w' := by
  go_enter Try.func16, Try.ntmps16
  go_wp2_with (go_at_call 32; refine (mem_at_nil _ _ _ _).mono ?_; rintro e w' ⟨rfl, rfl⟩)
  go_ret2
  exact ⟨by simp, rfl⟩

theorem nil_byte (f o : Int) (w : World) :
    Calls Try.prog 15 #[.pointer none, .int .i64 f, .int .i64 o] w fun e w' => e = .returned (.tuple #[.int .u8 0, .int .i64 1]) ∧ w = w' := by
  go_enter Try.func15, Try.ntmps15
  go_wp2_with (go_at_call 32; refine (mem_at_nil _ _ _ _).mono ?_; rintro e w' ⟨rfl, rfl⟩)
  go_ret2
  exact ⟨by simp, rfl⟩

theorem clone_nil (w : World) : Calls Try.prog 42 #[.slice none 0 0] w fun e w' => e = .returned (.slice none 0 0) ∧ w = w' := by
  have heq := fun w a n c => Lib.run_eql_slice_nil (P := Try.prog) w 24 5 a n c 0 0 under_bytes
  go_enter Try.func42, Try.ntmps42
  go_wp2
  go_ret
  exact ⟨by simp, rfl⟩

theorem nil_frame (f : Int) (w : World) :
    Calls Try.prog 22 #[.pointer none, .int .i64 f] w fun e w' => e = .returned (.tuple #[.slice none 0 0, .int .i64 1]) ∧ w = w' := by
  go_enter Try.func22, Try.ntmps22
  go_wp2_with (first | (go_at_call 32; refine (mem_at_nil _ _ _ _).mono ?_; rintro e w' ⟨rfl, rfl⟩) | (go_at_call 42; refine (clone_nil _).mono ?_; rintro e w' ⟨rfl, rfl⟩))
  go_ret2
  exact ⟨by simp, rfl⟩

theorem nil_setWord (f o x : Int) (w : World) :
    Calls Try.prog 19 #[.pointer none, .int .i64 f, .int .i64 o, .int .u16 x] w fun e w' => e = .returned (.int .i64 1) ∧ w = w' := by
  go_enter Try.func19, Try.ntmps19
  go_wp2_with (go_at_call 32; refine (mem_at_nil _ _ _ _).mono ?_; rintro e w' ⟨rfl, rfl⟩)
  go_ret
  exact ⟨by simp, rfl⟩

theorem nil_setByte (f o x : Int) (w : World) :
    Calls Try.prog 29 #[.pointer none, .int .i64 f, .int .i64 o, .int .u8 x] w fun e w' => e = .returned (.int .i64 1) ∧ w = w' := by
  go_enter Try.func29, Try.ntmps29
  go_wp2_with (go_at_call 32; refine (mem_at_nil _ _ _ _).mono ?_; rintro e w' ⟨rfl, rfl⟩)
  go_ret
  exact ⟨by simp, rfl⟩

theorem nil_zero (f : Int) (w : World) :
    Calls Try.prog 24 #[.pointer none, .int .i64 f] w fun e w' => e = .returned (.int .i64 1) ∧ w = w' := by
  have hcl := fun w ty => run_clear_nil (P := Try.prog) w 24 5 ty 0 0 under_bytes
  go_enter Try.func24, Try.ntmps24
  go_wp2_with (go_at_call 32; refine (mem_at_nil _ _ _ _).mono ?_; rintro e w' ⟨rfl, rfl⟩)
  go_ret
  exact ⟨by simp, rfl⟩

theorem nil_copy (f o : Int) (w : World) :
    Calls Try.prog 21 #[.pointer none, .int .i64 f, .int .i64 o] w fun e w' => e = .returned (.int .i64 1) ∧ w = w' := by
  go_enter Try.func21, Try.ntmps21
  go_wp2_with (go_at_call 32; refine (mem_at_nil _ _ _ _).mono ?_; rintro e w' ⟨rfl, rfl⟩)
  go_ret
  exact ⟨by simp, rfl⟩

theorem nil_fill (f o : Int) (w : World) :
    Calls Try.prog 14 #[.pointer none, .int .i64 f, .int .i64 o, .slice none 0 0] w fun e w' => e = .returned (.int .i64 1) ∧ w = w' := by
  go_enter Try.func14, Try.ntmps14
  go_wp2_with (go_at_call 32; refine (mem_at_nil _ _ _ _).mono ?_; rintro e w' ⟨rfl, rfl⟩)
  go_ret
  exact ⟨by simp, rfl⟩

theorem nil_size (w : World) :
    Calls Try.prog 13 #[.pointer none] w fun e w' => e = .returned (.int .i64 0) ∧ w = w' := by
  go_enter Try.func13, Try.ntmps13
  go_wp2_with (go_at_call 32; refine (mem_at_nil _ _ _ _).mono ?_; rintro e w' ⟨rfl, rfl⟩)
  go_ret
  exact ⟨by simp, rfl⟩

theorem nil_clean (f : Int) (w : World) :
    Calls Try.prog 25 #[.pointer none, .int .i64 f] w fun e w' => e = .returned (.bool false) ∧ w = w' := by
  go_enter Try.func25, Try.ntmps25
  go_wp2_with (go_at_call 32; refine (mem_at_nil _ _ _ _).mono ?_; rintro e w' ⟨rfl, rfl⟩)
  go_ret
  exact ⟨by simp, rfl⟩

theorem nil_same (f : Int) (w : World) :
    Calls Try.prog 23 #[.pointer none, .int .i64 f] w fun e w' => e = .returned (.slice none 0 0) ∧ w = w' := by
  go_enter Try.func23, Try.ntmps23
  go_wp2_with (go_at_call 32; refine (mem_at_nil _ _ _ _).mono ?_; rintro e w' ⟨rfl, rfl⟩)
  go_ret
  exact ⟨by simp, rfl⟩

theorem nil_fork (w : World) :
    Calls Try.prog 26 #[.pointer none] w fun e w' => e = .returned (.pointer none) ∧ w = w' := by
  go_enter Try.func26, Try.ntmps26
  go_wp2_with (go_at_call 32; refine (mem_at_nil _ _ _ _).mono ?_; rintro e w' ⟨rfl, rfl⟩)
  go_ret
  exact ⟨by simp, rfl⟩

set_option maxRecDepth 100000 in
set_option maxHeartbeats 4000000 in
theorem none_any (cs : List Value) (n : Int) (w : World) (hx : DeedOk w cs) :
    Calls Try.prog 9 #[.agg cs.toArray, .int .i64 n] w (TruePost w) := by
  obtain ⟨kind, f, o, x, B, c, bs, rfl, x0, x1, hc, hr⟩ := hx
  generalize bs.length = bl at *
  clear hr hc
  have hup := (Upd.refl [] w).alloc (.cells #[.int .i64 kind, .int .i64 f, .int .i64 o, .int .u16 x, .slice B bl c] 44)
  have hn1 := Blk.new w 44 #[.int .i64 kind, .int .i64 f, .int .i64 o, .int .u16 x, .slice B bl c]
  have HUP := Lib.hid hup
  have HN1 := Lib.hid hn1
  have HNEW := Lib.hid (mem_new n)
  clear hup hn1
  go_enter Try.func9, Try.ntmps9
  go_wp2_with (first | (go_at_call 16; refine (nil_word _ _ _).mono ?_; rintro e w' ⟨rfl, rfl⟩) | (go_at_call 15; refine (nil_byte _ _ _).mono ?_; rintro e w' ⟨rfl, rfl⟩) | (go_at_call 22; refine (nil_frame _ _).mono ?_; rintro e w' ⟨rfl, rfl⟩) | (go_at_call 19; refine (nil_setWord _ _ _ _).mono ?_; rintro e w' ⟨rfl, rfl⟩) | (go_at_call 29; refine (nil_setByte _ _ _ _).mono ?_; rintro e w' ⟨rfl, rfl⟩) | (go_at_call 24; refine (nil_zero _ _).mono ?_; rintro e w' ⟨rfl, rfl⟩) | (go_at_call 21; refine (nil_copy _ _ _).mono ?_; rintro e w' ⟨rfl, rfl⟩) | (go_at_call 14; refine (nil_fill _ _ _).mono ?_; rintro e w' ⟨rfl, rfl⟩) | (go_at_call 13; refine (nil_size _).mono ?_; rintro e w' ⟨rfl, rfl⟩) | (go_at_call 25; refine (nil_clean _ _).mono ?_; rintro e w' ⟨rfl, rfl⟩) | (go_at_call 23; refine (nil_same _ _).mono ?_; rintro e w' ⟨rfl, rfl⟩) | (go_at_call 26; refine (nil_fork _).mono ?_; rintro e w' ⟨rfl, rfl⟩) | (go_at_call 11; fail))
  generalize (w.alloc (.cells #[.int .i64 kind, .int .i64 f, .int .i64 o, .int .u16 x, .slice B bl c] 44)) = W1 at *
  have g1 := HN1.out.cellAt (i := 1) rfl
  have g2 := HN1.out.cellAt (i := 2) rfl
  have g3 := HN1.out.cellAt (i := 3) rfl
  simp only [List.getElem_toArray, List.getElem_cons_succ, List.getElem_cons_zero] at g1 g2 g3
  generalize w.heap.size = N1 at *
  refine (live_any _).mono ?_; rintro e w2 ⟨rfl, hu2⟩
  have d1 := hu2.lt_old g1
  have d2 := hu2.lt_old g2
  have d3 := hu2.lt_old g3
  have HU2 := Lib.hid (HUP.out.trans0 hu2)
  clear hu2 g1 g2 g3
  by_cases hn : n < 1 ∨ 64 < n
  · have hnew := fun W => mem_new n W
    simp only [if_pos hn] at hnew
    have HNW := Lib.hid hnew
    clear hnew
    have hb : decide (n < 1) = true ∨ decide (64 < n) = true := by simpa using hn
    go_wp2_with (first | (go_at_call 16; refine (nil_word _ _ _).mono ?_; rintro e w' ⟨rfl, rfl⟩) | (go_at_call 15; refine (nil_byte _ _ _).mono ?_; rintro e w' ⟨rfl, rfl⟩) | (go_at_call 22; refine (nil_frame _ _).mono ?_; rintro e w' ⟨rfl, rfl⟩) | (go_at_call 19; refine (nil_setWord _ _ _ _).mono ?_; rintro e w' ⟨rfl, rfl⟩) | (go_at_call 29; refine (nil_setByte _ _ _ _).mono ?_; rintro e w' ⟨rfl, rfl⟩) | (go_at_call 24; refine (nil_zero _ _).mono ?_; rintro e w' ⟨rfl, rfl⟩) | (go_at_call 21; refine (nil_copy _ _ _).mono ?_; rintro e w' ⟨rfl, rfl⟩) | (go_at_call 14; refine (nil_fill _ _ _).mono ?_; rintro e w' ⟨rfl, rfl⟩) | (go_at_call 13; refine (nil_size _).mono ?_; rintro e w' ⟨rfl, rfl⟩) | (go_at_call 25; refine (nil_clean _ _).mono ?_; rintro e w' ⟨rfl, rfl⟩) | (go_at_call 23; refine (nil_same _ _).mono ?_; rintro e w' ⟨rfl, rfl⟩) | (go_at_call 26; refine (nil_fork _).mono ?_; rintro e w' ⟨rfl, rfl⟩) | (go_at_call 30; refine (HNW.out _).mono ?_; rintro e w' ⟨rfl, rfl⟩))
    all_goals (first | (exfalso; omega) | (go_ret; refine ⟨?_, HU2.out⟩; simp <;> omega) | skip)
  · have hnew := fun W => mem_new n W
    simp only [if_neg hn] at hnew
    have HNW := Lib.hid hnew
    clear hnew
    go_wp2_with (first | (go_at_call 16; refine (nil_word _ _ _).mono ?_; rintro e w' ⟨rfl, rfl⟩) | (go_at_call 15; refine (nil_byte _ _ _).mono ?_; rintro e w' ⟨rfl, rfl⟩) | (go_at_call 22; refine (nil_frame _ _).mono ?_; rintro e w' ⟨rfl, rfl⟩) | (go_at_call 19; refine (nil_setWord _ _ _ _).mono ?_; rintro e w' ⟨rfl, rfl⟩) | (go_at_call 29; refine (nil_setByte _ _ _ _).mono ?_; rintro e w' ⟨rfl, rfl⟩) | (go_at_call 24; refine (nil_zero _ _).mono ?_; rintro e w' ⟨rfl, rfl⟩) | (go_at_call 21; refine (nil_copy _ _ _).mono ?_; rintro e w' ⟨rfl, rfl⟩) | (go_at_call 14; refine (nil_fill _ _ _).mono ?_; rintro e w' ⟨rfl, rfl⟩) | (go_at_call 13; refine (nil_size _).mono ?_; rintro e w' ⟨rfl, rfl⟩) | (go_at_call 25; refine (nil_clean _ _).mono ?_; rintro e w' ⟨rfl, rfl⟩) | (go_at_call 23; refine (nil_same _ _).mono ?_; rintro e w' ⟨rfl, rfl⟩) | (go_at_call 26; refine (nil_fork _).mono ?_; rintro e w' ⟨rfl, rfl⟩) | (go_at_call 30; refine (HNW.out _).mono ?_; rintro e w9 ⟨m9, fb9, rfl, hm9, hu9, _, _⟩; have HU9 := Lib.hid (HU2.out.trans0 hu9); clear hm9 hu9))
    all_goals (first | (exfalso; omega) | (go_ret; refine ⟨?_, HU9.out⟩; simp <;> omega) | skip)

end Go.Proofs.Ytmfokjifloafhaa
