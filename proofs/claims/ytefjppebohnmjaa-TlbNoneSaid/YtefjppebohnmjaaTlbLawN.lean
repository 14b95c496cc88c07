/- The walk of the statement on a nil table. -/
import Derived.Test.YtefjppebohnmjaaTlbLaws
namespace Go.Proofs.Ytefjppebohnmjaa
open Go.RowKit Go.Shelf

theorem ins_nil (m : Mp) (w : World) :
    Calls Try.prog 21 #[.pointer none, .agg (encM m).toArray] w fun e w' => e = .returned (.tuple #[.agg (encM mz).toArray, .bool false, .int .i64 1]) ∧ Upd [] w w' := by
  have hb4 := Blk.new (w.alloc (.cells (encM m).toArray 24)) 24 (encM mz).toArray
  rw [World.size_alloc] at hb4
  have hy4 := blk_range hb4
  have HU0 := Lib.hid (((Upd.refl [] w).alloc (.cells (encM m).toArray 24)).alloc (.cells #[.int .u8 0, .int .u8 0, .int .u8 0, .bool false] 24))
  go_enter Try.func21, Try.ntmps21
  go_wp2_with (first
    | (refine wpList_load_map rfl _ rfl (w.heap.size + 1) 0 mz rfl hy4 ?_)
    | (refine wpList_store_map rfl _ _ rfl (w.heap.size + 1) mz mz rfl rfl hb4 ?_; intro w2 hb2 hu2))
  refine bodyPost_ret (res_ctt rfl _ _ (w.heap.size + 1) mz rfl hb2 _ _ rfl rfl) rfl ?_
  exact ⟨rfl, HU0.out.trans hu2 (by intro s hs; simp at hs; right; omega)⟩
theorem at_nil (a p : Nat) (w : World) :
    Calls Try.prog 29 #[.pointer none, .int .u8 a, .int .u8 p] w fun e w' => e = .returned (.int .i64 (-1)) ∧ w' = w := by
  go_enter Try.func29, Try.ntmps29
  go_wp2_with fail
  go_ret
  exact ⟨by simp, rfl⟩
theorem find_nil (a p : Nat) (w : World) :
    Calls Try.prog 12 #[.pointer none, .int .u8 a, .int .u8 p] w fun e w' => e = .returned (.tuple #[.agg (encM mz).toArray, .bool false]) ∧ Upd [] w w' := by
  have hb4 := Blk.new w 24 (encM mz).toArray
  go_enter Try.func12, Try.ntmps12
  go_wp2_with fail
  refine (at_nil a p _).mono ?_; rintro e w' ⟨rfl, rfl⟩
  go_wp2_with (refine wpList_store_map rfl _ _ rfl w.heap.size mz mz rfl rfl hb4 ?_; intro w2 hb2 hu2)
  refine bodyPost_ret (res_ct rfl _ _ w.heap.size mz rfl hb2 _ rfl) rfl ?_
  exact ⟨rfl, ((Upd.refl [] w).alloc _).trans hu2 (by intro s hs; simp at hs; right; omega)⟩
theorem trans_nil (a x : Nat) (b : Bool) (w : World) :
    Calls Try.prog 14 #[.pointer none, .int .u8 a, .int .u16 x, .bool b] w fun e w' => e = .returned (.tuple #[.int .i64 0, .int .i64 0, .int .i64 1]) ∧ Upd [] w w' := by
  go_enter Try.func14, Try.ntmps14
  go_wp2_with fail
  refine bodyPost_ret (res_ttt rfl _ _ _ _ _ rfl rfl rfl) rfl ?_
  exact ⟨rfl, Upd.refl _ _⟩
theorem out_nil (v : Value) (w : World) :
    Calls Try.prog 32 #[.pointer none, v] w fun e w' => e = .returned (.int .i64 0) ∧ w' = w := by
  go_enter Try.func32, Try.ntmps32
  go_wp2_with fail
  go_ret
  exact ⟨by simp, rfl⟩
theorem drop_nil (a p : Nat) (w : World) :
    Calls Try.prog 25 #[.pointer none, .int .u8 a, .int .u8 p] w fun e w' => e = .returned (.bool false) ∧ Upd [] w w' := by
  go_enter Try.func25, Try.ntmps25
  go_wp2_with fail
  refine (of_any a p w).mono ?_; rintro e w1 ⟨rfl, rfl⟩
  go_wp2_with fail
  refine (out_nil _ _).mono ?_; rintro e w' ⟨rfl, rfl⟩
  go_wp2_with fail
  go_ret
  exact ⟨by simp, ((Upd.refl [] w).alloc _).alloc _⟩
theorem asid_nil (a : Nat) (w : World) :
    Calls Try.prog 19 #[.pointer none, .int .u8 a] w fun e w' => e = .returned (.int .i64 0) ∧ Upd [] w w' := by
  go_enter Try.func19, Try.ntmps19
  go_wp2_with fail
  refine (out_nil _ _).mono ?_; rintro e w' ⟨rfl, rfl⟩
  go_wp2_with fail
  go_ret
  exact ⟨by simp, (Upd.refl [] w).alloc _⟩
theorem frame_nil (a : Nat) (w : World) :
    Calls Try.prog 20 #[.pointer none, .int .u8 a] w fun e w' => e = .returned (.int .i64 0) ∧ Upd [] w w' := by
  go_enter Try.func20, Try.ntmps20
  go_wp2_with fail
  refine (out_nil _ _).mono ?_; rintro e w' ⟨rfl, rfl⟩
  go_wp2_with fail
  go_ret
  exact ⟨by simp, (Upd.refl [] w).alloc _⟩
theorem prot_nil (a p : Nat) (b : Bool) (w : World) :
    Calls Try.prog 26 #[.pointer none, .int .u8 a, .int .u8 p, .bool b] w fun e w' => e = .returned (.bool false) ∧ Upd [] w w' := by
  go_enter Try.func26, Try.ntmps26
  go_wp2_with fail
  refine (at_nil a p _).mono ?_; rintro e w' ⟨rfl, rfl⟩
  go_wp2_with fail
  go_ret
  exact ⟨by simp, Upd.refl _ _⟩
theorem list_nil (w : World) :
    Calls Try.prog 17 #[.pointer none] w fun e w' => e = .returned (.slice none 0 0) ∧ w' = w := by
  go_enter Try.func17, Try.ntmps17
  go_wp2_with fail
  go_ret
  exact ⟨by simp, rfl⟩
theorem fork_nil (w : World) :
    Calls Try.prog 22 #[.pointer none] w fun e w' => e = .returned (.pointer none) ∧ w' = w := by
  go_enter Try.func22, Try.ntmps22
  go_wp2_with fail
  go_ret
  exact ⟨by simp, rfl⟩

set_option maxRecDepth 100000 in
set_option maxHeartbeats 4000000 in
theorem none_any (m : Mp) (x : Nat) (w : World) (_hx : x < 65536) :
    Calls Try.prog 9 #[.agg (encM m).toArray, .int .u16 x] w (TruePost w) := by
  have hb0 := Blk.new w 24 (encM m).toArray
  have HU0 := Lib.hid ((Upd.refl [] w).alloc (.cells (encM m).toArray 24))
  have hy0 := blk_range hb0
  have HB0 : Hid (∀ W, Upd [] (w.alloc (.cells (encM m).toArray 24)) W → Blk W w.heap.size 24 (encM m).toArray) := Lib.hid (fun W hW => hb0.upd hW (by simp))
  have heq : ∀ w : World, (Op.equalIn 10000 24 (.agg #[.int .u8 0, .int .u8 0, .int .u8 0, .bool false]) (.agg #[.int .u8 0, .int .u8 0, .int .u8 0, .bool false])).run Try.prog w = .ok true w := fun w => (eqM mz mz w).trans (by simp)
  clear hb0
  go_enter Try.func9, Try.ntmps9
  go_wp2_with (refine wpList_load_map rfl _ rfl w.heap.size 0 m rfl hy0 ?_)
  refine (ins_nil m _).mono ?_; rintro e w1 ⟨rfl, hu1⟩
  have HU1 := Lib.hid hu1
  have hs1 := hu1.size
  clear hu1
  go_wp2_with (refine wpList_store_map rfl _ _ rfl w1.heap.size mz mz rfl rfl (Blk.new w1 24 (encM mz).toArray) ?_; intro w2 hb2 hu2; have HB2 := Lib.hid hb2; have HU2 := Lib.hid (HU1.out.trans0 (((Upd.refl [] w1).alloc _).trans hu2 (by intro s hs; simp at hs; right; omega))); have hbm := HB0.out w2 HU2.out; have a0 := hbm.cellAt (i := 0) (v := .int .u8 m.a) rfl; have a1 := hbm.cellAt (i := 1) (v := .int .u8 m.p) rfl; clear hb2 hu2 hbm)
  refine (find_nil m.a m.p _).mono ?_; rintro e w3 ⟨rfl, hu3⟩
  have HU3 := Lib.hid hu3
  have hs3 := hu3.size
  clear hu3
  go_wp2_with (refine wpList_store_map rfl _ _ rfl w3.heap.size mz mz rfl rfl (Blk.new w3 24 (encM mz).toArray) ?_; intro w4 hb4 hu4; have HB4 := Lib.hid hb4; have HU4 := Lib.hid (HU3.out.trans0 (((Upd.refl [] w3).alloc _).trans hu4 (by intro s hs; simp at hs; right; omega))); have hbm := HB0.out w4 (HU2.out.trans0 HU4.out); have c0 := hbm.cellAt (i := 0) (v := .int .u8 m.a) rfl; have c3 := hbm.cellAt (i := 3) (v := .bool m.w) rfl; clear hb4 hu4 hbm)
  refine (trans_nil m.a x m.w _).mono ?_; rintro e w5 ⟨rfl, hu5⟩
  have HU5 := Lib.hid (HU4.out.trans0 hu5)
  have HX5 := Lib.hid hu5
  clear hu5
  go_wp2_with fail
  refine (live_any _).mono ?_; rintro e w6 ⟨rfl, hu6⟩
  have HU6 := Lib.hid (HU5.out.trans0 hu6)
  have hbm := HB0.out w6 (HU2.out.trans0 HU6.out)
  have d0 := hbm.cellAt (i := 0) (v := .int .u8 m.a) rfl
  have d1 := hbm.cellAt (i := 1) (v := .int .u8 m.p) rfl
  have x2 := HB2.out.upd HU6.out (by simp)
  have x4 := HB4.out.upd (HX5.out.trans0 hu6) (by simp)
  have y0 := x2.cellAt (i := 0) (v := .int .u8 0) rfl
  have y1 := x2.cellAt (i := 1) (v := .int .u8 0) rfl
  have y2 := x2.cellAt (i := 2) (v := .int .u8 0) rfl
  have y3 := x2.cellAt (i := 3) (v := .bool false) rfl
  have z0 := x4.cellAt (i := 0) (v := .int .u8 0) rfl
  have z1 := x4.cellAt (i := 1) (v := .int .u8 0) rfl
  have z2 := x4.cellAt (i := 2) (v := .int .u8 0) rfl
  have z3 := x4.cellAt (i := 3) (v := .bool false) rfl
  clear x2 x4
  clear hu6 hbm
  go_wp2_with fail
  refine (drop_nil m.a m.p _).mono ?_; rintro e w7 ⟨rfl, hu7⟩
  have HU7 := Lib.hid (HU6.out.trans0 hu7)
  have hbm := HB0.out w7 (HU2.out.trans0 HU7.out)
  have e0 := hbm.cellAt (i := 0) (v := .int .u8 m.a) rfl
  clear hu7 hbm
  go_wp2_with fail
  refine (asid_nil m.a _).mono ?_; rintro e w8 ⟨rfl, hu8⟩
  have HU8 := Lib.hid (HU7.out.trans0 hu8)
  have hbm := HB0.out w8 (HU2.out.trans0 HU8.out)
  have f2 := hbm.cellAt (i := 2) (v := .int .u8 m.f) rfl
  clear hu8 hbm
  go_wp2_with fail
  refine (frame_nil m.f _).mono ?_; rintro e w9 ⟨rfl, hu9⟩
  have HU9 := Lib.hid (HU8.out.trans0 hu9)
  have hbm := HB0.out w9 (HU2.out.trans0 HU9.out)
  have g0 := hbm.cellAt (i := 0) (v := .int .u8 m.a) rfl
  have g1 := hbm.cellAt (i := 1) (v := .int .u8 m.p) rfl
  clear hu9 hbm
  go_wp2_with fail
  refine (prot_nil m.a m.p true _).mono ?_; rintro e wa ⟨rfl, hua⟩
  have HUa := Lib.hid (HU9.out.trans0 hua)
  clear hua
  go_wp2_with fail
  refine (list_nil _).mono ?_; rintro e w' ⟨rfl, rfl⟩
  go_wp2_with fail
  refine (fork_nil _).mono ?_; rintro e w' ⟨rfl, rfl⟩
  go_wp2_with fail
  go_ret
  exact ⟨by simp, (HU0.out.trans0 HU2.out).trans0 HUa.out⟩

end Go.Proofs.Ytefjppebohnmjaa
