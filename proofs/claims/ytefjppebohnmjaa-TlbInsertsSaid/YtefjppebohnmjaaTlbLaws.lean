/- The walks of the statements on tables of mappings: what is at hand; what is told. -/
import Derived.Test.YtefjppebohnmjaaTlbOpen
namespace Go.Proofs.Ytefjppebohnmjaa
open Go.RowKit Go.Shelf

set_option maxHeartbeats 1000000 in
theorem plays_any (A : Option Addr) (len cap : Nat) (w : World) (hd : Deeds w A len) (hlen : len ≤ 9223372036854775807) :
    Calls Try.prog 4 #[.slice A len cap] w (TruePost w) := by
  have HD := Lib.hid hd
  clear hd
  go_enter Try.func4, Try.ntmps4
  go_wp2_with fail
  refine (play_any A len cap _ HD.out hlen).mono ?_; rintro e w1 ⟨t, r, L, rfl, hb, hu⟩
  have HB := Lib.hid hb
  have HU := Lib.hid hu
  clear hb hu
  go_wp2_with fail
  refine (live_any _).mono ?_; rintro e w2 ⟨rfl, hu2⟩
  have HU2 := Lib.hid (HU.out.trans0 hu2)
  obtain ⟨⟨o1, o2, hh⟩, hg⟩ := HB.out.upd0 hu2
  have hle := hg.len
  have HH := Lib.hid hh
  clear hu2 hh hg
  go_wp2_with fail
  refine (list_any t o1 L _ HH.out.tab).mono ?_; rintro e w3 ⟨A1, c1, rfl, hr3, _, hu3⟩
  have HR3 := Lib.hid hr3
  have HU3 := Lib.hid hu3
  clear hr3 hu3
  go_wp2_with fail
  refine (rlist_any r o2 L _ (HH.out.ref.upd0 HU3.out)).mono ?_; rintro e w4 ⟨A2, c2, rfl, hr4, _, hu4⟩
  have HR4 := Lib.hid hr4
  have HU4 := Lib.hid hu4
  clear hr4 hu4
  go_wp2_with fail
  refine (same_any w4 A1 A2 L L _ _ c1 c2 (HR3.out.upd HU4.out (by simp)).reads HR4.out.reads rfl rfl (by omega) (by omega)).mono ?_; rintro e w5 ⟨rfl, hu5⟩
  have HU5 := Lib.hid hu5
  clear hu5
  go_wp2_with fail
  go_ret
  exact ⟨by simp, (((HU2.out.trans0 HU3.out).trans0 HU4.out).trans0 HU5.out)⟩

theorem transV_shape (a x : Nat) (wr : Bool) (L : List Mp) : ∃ p q e : Nat, transV a x wr L = .tuple #[.int .i64 (p : Int), .int .i64 (q : Int), .int .i64 (e : Int)] := by
  unfold transV
  split
  · exact ⟨0, 0, 2, rfl⟩
  · split
    · exact ⟨0, 0, 10, rfl⟩
    · exact ⟨_, _, 0, rfl⟩

set_option maxRecDepth 100000 in
set_option maxHeartbeats 4000000 in
theorem tells_any (A : Option Addr) (len cap : Nat) (m : Mp) (x : Nat) (w : World) (hd : Deeds w A len) (hlen : len ≤ 9223372036854775807) (hx : x < 65536) :
    Calls Try.prog 3 #[.slice A len cap, .agg (encM m).toArray, .int .u16 x] w (TruePost w) := by
  have hb0 := Blk.new w 24 (encM m).toArray
  have hu0 := (Upd.refl [] w).alloc (.cells (encM m).toArray 24)
  have HD := Lib.hid (hd.upd hu0)
  have HB0 := Lib.hid hb0
  have HU0 := Lib.hid hu0
  clear hd hb0 hu0
  go_enter Try.func3, Try.ntmps3
  go_wp2_with fail
  refine (play_any A len cap _ HD.out hlen).mono ?_; rintro e w1 ⟨t, r, L, rfl, hb, hu⟩
  have HB := Lib.hid hb
  have HU := Lib.hid hu
  clear hb hu
  go_wp2_with fail
  refine (live_any _).mono ?_; rintro e w2 ⟨rfl, hu2⟩
  have HU2 := Lib.hid (HU.out.trans0 hu2)
  obtain ⟨⟨o1, o2, hh⟩, hg⟩ := HB.out.upd0 hu2
  have HBX : Hid (∀ W, Upd [] w2 W → Blk W w.heap.size 24 (encM m).toArray) := Lib.hid (fun W hW => (HB0.out.upd HU2.out (by simp)).upd hW (by simp))
  have hfb := find_bound m.a (x / 32) hg
  have HF1 := Lib.hid (fun W (hW : At TlbT W t o1 L) => find_any t o1 L W hW m.a m.p)
  have HF2 := Lib.hid (fun W (hW : At RefT W r o2 L) => rfind_any r o2 L W hW m.a m.p)
  have HT1 := Lib.hid (fun W (hW : At TlbT W t o1 L) => trans_any t o1 L W hW m.a x m.w hx hfb)
  have HT2 := Lib.hid (fun W (hW : At RefT W r o2 L) => rtrans_any r o2 L W hW m.a x m.w hx hfb)
  obtain ⟨p, q, er, hV⟩ := transV_shape m.a x m.w L
  rw [hV] at HT1 HT2
  generalize findM m.a m.p L = fm at *
  generalize hasM m.a m.p L = fh at *
  have HH := Lib.hid hh
  have heq : ∀ w : World, (Op.equalIn 10000 24 (.agg (encM fm).toArray) (.agg (encM fm).toArray)).run Try.prog w = .ok true w := fun w => (eqM _ _ w).trans (by simp)
  have hb2 := HBX.out _ (Upd.refl [] w2)
  have q0 := hb2.cellAt (i := 0) (v := .int .u8 m.a) rfl
  have q1 := hb2.cellAt (i := 1) (v := .int .u8 m.p) rfl
  have k1 : ((p : Int) == (p : Int)) = true := by simp
  have k2 : ((q : Int) == (q : Int)) = true := by simp
  have k3 : ((er : Int) == (er : Int)) = true := by simp
  have k4 : (fh == fh) = true := by simp
  clear hu2 hh hg hV hfb hb2
  go_wp2_with fail
  refine (HF1.out _ HH.out.tab).mono ?_; rintro e w3 ⟨rfl, hu3⟩
  have HU3 := Lib.hid hu3
  have hsz3 := hu3.size
  clear hu3
  go_wp2_with (refine wpList_store_map rfl _ _ rfl w3.heap.size fm mz rfl rfl (Blk.new w3 24 (encM mz).toArray) ?_; intro w4 hb4 hu4; have HB4 := Lib.hid hb4; have HU4 := Lib.hid (HU3.out.trans0 (((Upd.refl [] w3).alloc _).trans hu4 (by intro s hs; simp at hs; right; omega))); have hbm := HBX.out w4 HU4.out; have a0 := hbm.cellAt (i := 0) (v := .int .u8 m.a) rfl; have a1 := hbm.cellAt (i := 1) (v := .int .u8 m.p) rfl; clear hb4 hu4 hbm)
  refine (HF2.out _ (HH.out.ref.upd0 HU4.out)).mono ?_; rintro e w5 ⟨rfl, hu5⟩
  have HU5 := Lib.hid hu5
  have hsz5 := hu5.size
  clear hu5
  go_wp2_with (refine wpList_store_map rfl _ _ rfl w5.heap.size fm mz rfl rfl (Blk.new w5 24 (encM mz).toArray) ?_; intro w6 hb6 hu6; have HB6 := Lib.hid hb6; have HU6 := Lib.hid (HU5.out.trans0 (((Upd.refl [] w5).alloc _).trans hu6 (by intro s hs; simp at hs; right; omega))); have hbm := HBX.out w6 (HU4.out.trans0 HU6.out); have e0 := hbm.cellAt (i := 0) (v := .int .u8 m.a) rfl; have e3 := hbm.cellAt (i := 3) (v := .bool m.w) rfl; clear hb6 hu6 hbm)
  refine (HT1.out _ (HH.out.tab.upd0 (HU4.out.trans0 HU6.out))).mono ?_; rintro e w7 ⟨rfl, hu7⟩
  have HU7 := Lib.hid ((HU4.out.trans0 HU6.out).trans0 hu7)
  have hbm := HBX.out w7 HU7.out
  have f0 := hbm.cellAt (i := 0) (v := .int .u8 m.a) rfl
  have f3 := hbm.cellAt (i := 3) (v := .bool m.w) rfl
  have HX7 := Lib.hid hu7
  clear hu7 hbm
  go_wp2_with fail
  refine (HT2.out _ (HH.out.ref.upd0 HU7.out)).mono ?_; rintro e w8 ⟨rfl, hu8⟩
  have hy4 := blk_range ((HB4.out.upd HU6.out (by simp)).upd (HX7.out.trans0 hu8) (by simp))
  have hy6 := blk_range (HB6.out.upd (HX7.out.trans0 hu8) (by simp))
  have HU8 := Lib.hid (HU7.out.trans0 hu8)
  clear hu8
  go_wp2_with (first
    | (refine wpList_load_map rfl _ rfl w3.heap.size 0 fm rfl hy4 ?_)
    | (refine wpList_load_map rfl _ rfl w5.heap.size 0 fm rfl hy6 ?_))
  go_ret
  exact ⟨by simp, (HU0.out.trans0 (HU2.out.trans0 HU8.out))⟩

end Go.Proofs.Ytefjppebohnmjaa
