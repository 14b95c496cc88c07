/- A nil table. -/
import Derived.Test.YtedaffkdfniikaaFdsOpen
namespace Go.Proofs.Ytedaffkdfniikaa
open Go.RowKit Go.Shelf

theorem of_nil (p : Int) (w : World) : Calls Try.prog 28 #[.pointer none, .int .i64 p] w fun e w' => e = .returned (.tuple #[.pointer none, .int .i64 1]) ∧ w' = w := by
  go_enter Try.func28, Try.ntmps28
  go_wp2_with fail
  go_ret2
  exact ⟨by simp, rfl⟩
theorem fresh_nil (p : Int) (w : World) : Calls Try.prog 27 #[.pointer none, .int .i64 p] w fun e w' => e = .returned (.int .i64 1) ∧ w' = w := by
  go_enter Try.func27, Try.ntmps27
  go_wp2_with fail
  go_ret
  exact ⟨by simp, rfl⟩
theorem at_nil (p k : Int) (w : World) : Calls Try.prog 31 #[.pointer none, .int .i64 p, .int .i64 k] w fun e w' => e = .returned (.tuple #[.pointer none, .pointer none, .int .i64 1]) ∧ w' = w := by
  go_enter Try.func31, Try.ntmps31
  go_wp2_with fail
  refine (of_nil p w).mono ?_; rintro e w' ⟨rfl, rfl⟩
  go_wp2_with fail
  go_ret3
  exact ⟨by simp, rfl⟩
theorem begin_nil (p : Int) (w : World) : Calls Try.prog 11 #[.pointer none, .int .i64 p] w fun e w' => e = .returned (.int .i64 1) ∧ w' = w := by
  go_enter Try.func11, Try.ntmps11
  go_wp2_with fail
  refine (fresh_nil p w).mono ?_; rintro e w' ⟨rfl, rfl⟩
  go_wp2_with fail
  go_ret
  exact ⟨by simp, rfl⟩
theorem end_nil (p : Int) (w : World) : Calls Try.prog 12 #[.pointer none, .int .i64 p] w fun e w' => e = .returned (.tuple #[.slice none 0 0, .int .i64 1]) ∧ w' = w := by
  go_enter Try.func12, Try.ntmps12
  go_wp2_with fail
  refine (of_nil p w).mono ?_; rintro e w' ⟨rfl, rfl⟩
  go_wp2_with fail
  go_ret2
  exact ⟨by simp, rfl⟩
theorem fork_nil (p q : Int) (w : World) : Calls Try.prog 13 #[.pointer none, .int .i64 p, .int .i64 q] w fun e w' => e = .returned (.int .i64 1) ∧ w' = w := by
  go_enter Try.func13, Try.ntmps13
  go_wp2_with fail
  refine (of_nil p w).mono ?_; rintro e w' ⟨rfl, rfl⟩
  go_wp2_with fail
  go_ret
  exact ⟨by simp, rfl⟩
theorem dup_nil (p q : Int) (w : World) : Calls Try.prog 15 #[.pointer none, .int .i64 p, .int .i64 q] w fun e w' => e = .returned (.tuple #[.int .i64 0, .int .i64 1]) ∧ w' = w := by
  go_enter Try.func15, Try.ntmps15
  go_wp2_with fail
  refine (at_nil p q w).mono ?_; rintro e w' ⟨rfl, rfl⟩
  go_wp2_with fail
  go_ret2
  exact ⟨by simp, rfl⟩
theorem move_nil (p q x : Int) (w : World) : Calls Try.prog 20 #[.pointer none, .int .i64 p, .int .i64 q, .int .i64 x] w fun e w' => e = .returned (.int .i64 1) ∧ w' = w := by
  go_enter Try.func20, Try.ntmps20
  go_wp2_with fail
  refine (at_nil p q w).mono ?_; rintro e w' ⟨rfl, rfl⟩
  go_wp2_with fail
  go_ret
  exact ⟨by simp, rfl⟩
theorem list_nil (p : Int) (w : World) : Calls Try.prog 21 #[.pointer none, .int .i64 p] w fun e w' => e = .returned (.slice none 0 0) ∧ w' = w := by
  go_enter Try.func21, Try.ntmps21
  go_wp2_with fail
  refine (of_nil p w).mono ?_; rintro e w' ⟨rfl, rfl⟩
  go_wp2_with fail
  go_ret
  exact ⟨by simp, rfl⟩
theorem room_nil (p : Int) (w : World) : Calls Try.prog 22 #[.pointer none, .int .i64 p] w fun e w' => e = .returned (.int .i64 0) ∧ w' = w := by
  go_enter Try.func22, Try.ntmps22
  go_wp2_with fail
  refine (of_nil p w).mono ?_; rintro e w' ⟨rfl, rfl⟩
  go_wp2_with fail
  go_ret
  exact ⟨by simp, rfl⟩
theorem same_nil (p a q b : Int) (w : World) : Calls Try.prog 19 #[.pointer none, .int .i64 p, .int .i64 a, .int .i64 q, .int .i64 b] w fun e w' => e = .returned (.bool false) ∧ w' = w := by
  go_enter Try.func19, Try.ntmps19
  go_wp2_with fail
  refine (at_nil p a w).mono ?_; rintro e w' ⟨rfl, rfl⟩
  go_wp2_with fail
  refine (at_nil q b _).mono ?_; rintro e w' ⟨rfl, rfl⟩
  go_wp2_with fail
  go_ret
  exact ⟨by simp, rfl⟩
theorem copy_nil  (w : World) : Calls Try.prog 24 #[.pointer none] w fun e w' => e = .returned (.pointer none) ∧ w' = w := by
  go_enter Try.func24, Try.ntmps24
  go_wp2_with fail
  go_ret
  exact ⟨by simp, rfl⟩
theorem open_nil (p : Int) (o : Op) (w : World) : Calls Try.prog 14 #[.pointer none, .int .i64 p, .agg #[.int .u8 o.k, .int .i64 o.r, .int .i64 o.p]] w fun e w' => e = .returned (.tuple #[.int .i64 0, .int .i64 1]) ∧ Upd [] w w' := by
  go_enter Try.func14, Try.ntmps14
  go_wp2_with fail
  refine (of_nil p _).mono ?_; rintro e w' ⟨rfl, rfl⟩
  go_wp2_with fail
  go_ret2
  exact ⟨by simp, (Upd.refl [] w).alloc _⟩
theorem close_nil (p k : Int) (w : World) : Calls Try.prog 16 #[.pointer none, .int .i64 p, .int .i64 k] w fun e w' => e = .returned (.tuple #[.agg #[.int .u8 0, .int .i64 0, .int .i64 0], .bool false, .int .i64 1]) ∧ Upd [] w w' := by
  have HB : Hid (Blk (w.alloc (.cells #[.int .u8 0, .int .i64 0, .int .i64 0] 30)) w.heap.size OpenT (encO opZ).toArray) := Lib.hid (Blk.new w OpenT (encO opZ).toArray)
  have HU := Lib.hid ((Upd.refl [] w).alloc (.cells #[.int .u8 0, .int .i64 0, .int .i64 0] 30))
  go_enter Try.func16, Try.ntmps16
  go_wp2_with fail
  refine (at_nil p k _).mono ?_; rintro e w' ⟨rfl, rfl⟩
  have hbb := HB.out
  generalize (w.alloc (.cells #[.int .u8 0, .int .i64 0, .int .i64 0] 30)) = W at *
  go_wp2_with (refine wpList_store_op rfl _ _ rfl w.heap.size opZ opZ rfl rfl hbb ?_; intro w2 hb2 hu2)
  refine bodyPost_ret (res_ctt rfl _ _ w.heap.size opZ rfl hb2 _ _ rfl rfl) rfl ?_
  exact ⟨by simp [encO, opZ], HU.out.trans hu2 (by simp)⟩
theorem get_nil (p k : Int) (w : World) : Calls Try.prog 18 #[.pointer none, .int .i64 p, .int .i64 k] w fun e w' => e = .returned (.tuple #[.agg #[.int .u8 0, .int .i64 0, .int .i64 0], .int .i64 1]) ∧ Upd [] w w' := by
  have HB : Hid (Blk (w.alloc (.cells #[.int .u8 0, .int .i64 0, .int .i64 0] 30)) w.heap.size OpenT (encO opZ).toArray) := Lib.hid (Blk.new w OpenT (encO opZ).toArray)
  have HU := Lib.hid ((Upd.refl [] w).alloc (.cells #[.int .u8 0, .int .i64 0, .int .i64 0] 30))
  go_enter Try.func18, Try.ntmps18
  go_wp2_with fail
  refine (at_nil p k _).mono ?_; rintro e w' ⟨rfl, rfl⟩
  have hbb := HB.out
  generalize (w.alloc (.cells #[.int .u8 0, .int .i64 0, .int .i64 0] 30)) = W at *
  go_wp2_with (refine wpList_store_op rfl _ _ rfl w.heap.size opZ opZ rfl rfl hbb ?_; intro w2 hb2 hu2)
  refine bodyPost_ret (res_ct rfl _ _ w.heap.size opZ rfl hb2 _ rfl) rfl ?_
  exact ⟨by simp [encO, opZ], HU.out.trans hu2 (by simp)⟩

set_option maxRecDepth 100000 in
set_option maxHeartbeats 4000000 in
theorem none_any (cs : List Value) (w : World) (hx : DeedOk cs) :
    Calls Try.prog 8 #[.agg cs.toArray] w (TruePost w) := by
  obtain ⟨K, P, Q, N, o, rfl, _⟩ := hx
  have hb := Blk.new w 32 #[.int .i64 K, .int .i64 P, .int .i64 Q, .int .i64 N, .int .u8 o.k, .int .i64 o.r, .int .i64 o.p]
  have HU := Lib.hid ((Upd.refl [] w).alloc (.cells #[.int .i64 K, .int .i64 P, .int .i64 Q, .int .i64 N, .int .u8 o.k, .int .i64 o.r, .int .i64 o.p] 32))
  have HB := Lib.hid hb
  have he := eql_open
  have hgd := guard_open
  have c1 := hb.cellAt (i := 1) (v := .int .i64 P) rfl
  have c2 := hb.cellAt (i := 2) (v := .int .i64 Q) rfl
  have c3 := hb.cellAt (i := 3) (v := .int .i64 N) rfl
  have c4 := hb.cellAt (i := 4) (v := .int .u8 o.k) rfl
  have c5 := hb.cellAt (i := 5) (v := .int .i64 o.r) rfl
  have c6 := hb.cellAt (i := 6) (v := .int .i64 o.p) rfl
  clear hb
  unfold deedCs
  go_enter Try.func8, Try.ntmps8
  go_wp2_with fail
  refine (end_nil P _).mono ?_; rintro e w' ⟨rfl, rfl⟩
  go_wp2_with fail
  refine (open_nil P o _).mono ?_; rintro e w2 ⟨rfl, hu⟩
  have HB2 := Lib.hid (HB.out.upd hu (by simp))
  have HU2 := Lib.hid (HU.out.trans0 hu)
  have hb := HB2.out
  have c2_1 := hb.cellAt (i := 1) (v := .int .i64 P) rfl
  have c2_2 := hb.cellAt (i := 2) (v := .int .i64 Q) rfl
  have c2_3 := hb.cellAt (i := 3) (v := .int .i64 N) rfl
  have c2_4 := hb.cellAt (i := 4) (v := .int .u8 o.k) rfl
  have c2_5 := hb.cellAt (i := 5) (v := .int .i64 o.r) rfl
  have c2_6 := hb.cellAt (i := 6) (v := .int .i64 o.p) rfl
  clear hu hb
  go_wp2_with fail
  refine (dup_nil P N _).mono ?_; rintro e w' ⟨rfl, rfl⟩
  go_wp2_with fail
  refine (close_nil P N _).mono ?_; rintro e w3 ⟨rfl, hu⟩
  have HU3 : Hid (Upd [] w (w3.alloc (.cells #[.int .u8 0, .int .i64 0, .int .i64 0] 30))) := Lib.hid ((HU2.out.trans0 hu).alloc _)
  have HB3 : Hid (Blk (w3.alloc (.cells #[.int .u8 0, .int .i64 0, .int .i64 0] 30)) w.heap.size 32 #[.int .i64 K, .int .i64 P, .int .i64 Q, .int .i64 N, .int .u8 o.k, .int .i64 o.r, .int .i64 o.p]) := Lib.hid ((HB2.out.upd hu (by simp)).alloc _)
  have HC3 : Hid (Blk (w3.alloc (.cells #[.int .u8 0, .int .i64 0, .int .i64 0] 30)) w3.heap.size OpenT (encO opZ).toArray) := Lib.hid (Blk.new w3 OpenT (encO opZ).toArray)
  have hb := HB3.out
  have c3_1 := hb.cellAt (i := 1) (v := .int .i64 P) rfl
  have c3_2 := hb.cellAt (i := 2) (v := .int .i64 Q) rfl
  have c3_3 := hb.cellAt (i := 3) (v := .int .i64 N) rfl
  have c3_4 := hb.cellAt (i := 4) (v := .int .u8 o.k) rfl
  have c3_5 := hb.cellAt (i := 5) (v := .int .i64 o.r) rfl
  have c3_6 := hb.cellAt (i := 6) (v := .int .i64 o.p) rfl
  clear hu hb
  go_wp2_with fail
  refine (get_nil P N _).mono ?_; rintro e w4 ⟨rfl, hu⟩
  have HU4 : Hid (Upd [] w (w4.alloc (.cells #[.int .u8 0, .int .i64 0, .int .i64 0] 30))) := Lib.hid ((HU3.out.trans0 hu).alloc _)
  have HB4 : Hid (Blk (w4.alloc (.cells #[.int .u8 0, .int .i64 0, .int .i64 0] 30)) w.heap.size 32 #[.int .i64 K, .int .i64 P, .int .i64 Q, .int .i64 N, .int .u8 o.k, .int .i64 o.r, .int .i64 o.p]) := Lib.hid ((HB3.out.upd hu (by simp)).alloc _)
  have HC4 : Hid (Blk (w4.alloc (.cells #[.int .u8 0, .int .i64 0, .int .i64 0] 30)) w4.heap.size OpenT (encO opZ).toArray) := Lib.hid (Blk.new w4 OpenT (encO opZ).toArray)
  have HC3_4 : Hid (Blk (w4.alloc (.cells #[.int .u8 0, .int .i64 0, .int .i64 0] 30)) w3.heap.size OpenT (encO opZ).toArray) := Lib.hid ((HC3.out.upd hu (by simp)).alloc _)
  have hb := HB4.out
  have c4_1 := hb.cellAt (i := 1) (v := .int .i64 P) rfl
  have c4_2 := hb.cellAt (i := 2) (v := .int .i64 Q) rfl
  have c4_3 := hb.cellAt (i := 3) (v := .int .i64 N) rfl
  have c4_4 := hb.cellAt (i := 4) (v := .int .u8 o.k) rfl
  have c4_5 := hb.cellAt (i := 5) (v := .int .i64 o.r) rfl
  have c4_6 := hb.cellAt (i := 6) (v := .int .i64 o.p) rfl
  clear hu hb
  go_wp2_with fail
  refine (live_any _).mono ?_; rintro e w5 ⟨rfl, hu⟩
  have HU5 := Lib.hid (HU4.out.trans0 hu)
  have HB5 := Lib.hid (HB4.out.upd hu (by simp))
  have hb := HB5.out
  have c5_1 := hb.cellAt (i := 1) (v := .int .i64 P) rfl
  have c5_2 := hb.cellAt (i := 2) (v := .int .i64 Q) rfl
  have c5_3 := hb.cellAt (i := 3) (v := .int .i64 N) rfl
  have c5_4 := hb.cellAt (i := 4) (v := .int .u8 o.k) rfl
  have c5_5 := hb.cellAt (i := 5) (v := .int .i64 o.r) rfl
  have c5_6 := hb.cellAt (i := 6) (v := .int .i64 o.p) rfl
  have hc := HC3_4.out.upd hu (by simp)
  have d0 := hc.cellAt (i := 0) (v := .int .u8 0) rfl
  have d1 := hc.cellAt (i := 1) (v := .int .i64 0) rfl
  have d2 := hc.cellAt (i := 2) (v := .int .i64 0) rfl
  have hc' := HC4.out.upd hu (by simp)
  have e0 := hc'.cellAt (i := 0) (v := .int .u8 0) rfl
  have e1 := hc'.cellAt (i := 1) (v := .int .i64 0) rfl
  have e2 := hc'.cellAt (i := 2) (v := .int .i64 0) rfl
  clear hu hb hc hc'
  go_wp2_with fail
  refine (begin_nil P _).mono ?_; rintro e w' ⟨rfl, rfl⟩
  go_wp2_with fail
  refine (fork_nil P Q _).mono ?_; rintro e w' ⟨rfl, rfl⟩
  go_wp2_with fail
  refine (move_nil P N 0 _).mono ?_; rintro e w' ⟨rfl, rfl⟩
  go_wp2_with fail
  refine (list_nil P _).mono ?_; rintro e w' ⟨rfl, rfl⟩
  go_wp2_with fail
  refine (room_nil P _).mono ?_; rintro e w' ⟨rfl, rfl⟩
  go_wp2_with fail
  refine (same_nil P N Q N _).mono ?_; rintro e w' ⟨rfl, rfl⟩
  go_wp2_with fail
  refine (copy_nil _).mono ?_; rintro e w' ⟨rfl, rfl⟩
  go_wp2_with fail
  go_ret
  exact ⟨by simp, HU5.out⟩

end Go.Proofs.Ytedaffkdfniikaa
