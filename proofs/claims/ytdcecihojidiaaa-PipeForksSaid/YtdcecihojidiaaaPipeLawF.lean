/- Forks of a pipe, and the walk of the statement on them. -/
import Derived.Test.YtdcecihojidiaaaPipeOpen
namespace Go.Proofs.Ytdcecihojidiaaa
open Go.RowKit

theorem under_pipe : Try.prog.underlying 55 = some (.struct (Try.prog.fieldsOf 55)) := by kernel_rfl
theorem info_pipe : (Try.prog.info? 55).map (·.size) = some 28 := by kernel_rfl
theorem under_rpipe : Try.prog.underlying 64 = some (.struct (Try.prog.fieldsOf 64)) := by kernel_rfl
theorem info_rpipe : (Try.prog.info? 64).map (·.size) = some 3 := by kernel_rfl

theorem ring_one (B : List UInt8) (f n rd wr : Nat) : (ringCells B f n rd wr).toArray.all (·.oneCell') = true := by
  rw [Array.all_eq_true_iff_forall_mem]
  intro v hv
  simp only [ringCells, List.mem_toArray, List.mem_append, List.mem_cons, List.not_mem_nil, or_false] at hv
  rcases hv with hv | rfl | rfl | rfl | rfl
  · exact bcs_one B v hv
  all_goals rfl
theorem ring_length (B : List UInt8) (f n rd wr : Nat) (h : B.length = 24) : (ringCells B f n rd wr).length = 28 := by simp [ringCells, bcs_length, h]

set_option maxRecDepth 100000 in
set_option maxHeartbeats 2000000 in
theorem fork_any (p : Nat) (L : List UInt8) (rd wr : Nat) (w : World) (h : PipeAt w p L rd wr) :
    Calls Try.prog 20 #[.pointer (some ⟨p, 0, none⟩)] w fun e w' =>
      ∃ q, e = .returned (.pointer (some ⟨q, 0, none⟩)) ∧ PipeAt w' q L rd wr ∧ Upd [] w w' ∧ w.heap.size ≤ q := by
  obtain ⟨⟨B, f, hb, hr⟩, h1, h2⟩ := h
  have hra : w.rangeAt p 0 (ringCells B f L.length rd wr) := fun j v hv => hb.cellAt (by simpa using hv)
  have hlen := ring_length B f L.length rd wr hr.len
  have HSZ := Lib.hid (show (Try.prog.info? 55).map (·.size) = some (ringCells B f L.length rd wr).length by rw [hlen]; exact info_pipe)
  have HL := Lib.hid hlen
  have H1 := Lib.hid (ring_one B f L.length rd wr)
  have HB := Lib.hid hb
  have HR := Lib.hid hr
  clear hlen hb hr
  generalize hcs : ringCells B f L.length rd wr = cs at *
  have HC := Lib.hid hcs
  clear hcs
  go_enter Try.func20, Try.ntmps20
  go_wp2_with (first
    | (refine wpList_load_midg rfl 55 _ rfl p 0 rfl _ _ hra under_pipe rfl HSZ.out ?_)
    | (refine wpList_store_new rfl 55 _ _ rfl _ rfl rfl 55 _ (by rw [List.size_toArray]; exact HSZ.out) (show 28 = cs.toArray.size by rw [List.size_toArray, HL.out]) H1.out ?_))
  go_ret
  refine ⟨_, rfl, ⟨⟨B, f, ?_, HR.out⟩, h1, h2⟩, (Upd.refl _ _).alloc _, Nat.le_refl _⟩
  rw [HC.out]
  exact Blk.new _ _ _

set_option maxRecDepth 100000 in
set_option maxHeartbeats 2000000 in
theorem rfork_any (r : Nat) (L : List UInt8) (rd wr : Nat) (w : World) (h : RefAt w r L rd wr) :
    Calls Try.prog 21 #[.pointer (some ⟨r, 0, none⟩)] w fun e w' =>
      ∃ q, e = .returned (.pointer (some ⟨q, 0, none⟩)) ∧ RefAt w' q L rd wr ∧ Upd [] w w' ∧ w.heap.size ≤ q := by
  obtain ⟨hb, h0, h1, h2⟩ := h
  have hra : w.rangeAt r 0 [.string ⟨L.toArray⟩, .int .i64 rd, .int .i64 wr] := fun j v hv => hb.cellAt (by simpa using hv)
  have HSZ := Lib.hid (show (Try.prog.info? 64).map (·.size) = some ([.string ⟨L.toArray⟩, .int .i64 rd, .int .i64 wr] : List Value).length from info_rpipe)
  have H1 : Hid (([.string ⟨L.toArray⟩, .int .i64 rd, .int .i64 wr] : List Value).toArray.all (·.oneCell') = true) := Lib.hid (by rw [Array.all_eq_true_iff_forall_mem]; intro v hv; simp at hv; rcases hv with rfl | rfl | rfl <;> rfl)
  have HL : Hid (([.string ⟨L.toArray⟩, .int .i64 rd, .int .i64 wr] : List Value).length = 3) := Lib.hid rfl
  clear hb
  generalize hcs : ([.string ⟨L.toArray⟩, .int .i64 rd, .int .i64 wr] : List Value) = cs at *
  have HC := Lib.hid hcs
  clear hcs
  go_enter Try.func21, Try.ntmps21
  go_wp2_with (first
    | (refine wpList_load_midg rfl 64 _ rfl r 0 rfl _ _ hra under_rpipe rfl HSZ.out ?_)
    | (refine wpList_store_new rfl 64 _ _ rfl _ rfl rfl 64 _ (by rw [List.size_toArray]; exact HSZ.out) (show 3 = cs.toArray.size by rw [List.size_toArray, HL.out]) H1.out ?_))
  go_ret
  refine ⟨_, rfl, ⟨?_, h0, h1, h2⟩, (Upd.refl _ _).alloc _, Nat.le_refl _⟩
  have := Blk.new w RefT cs.toArray
  rw [← HC.out] at this
  rw [← HC.out]
  exact this

set_option maxRecDepth 100000 in
set_option maxHeartbeats 4000000 in
theorem forks_any (A : Option Addr) (len cap : Nat) (B : Option Addr) (len2 cap2 : Nat) (w : World) (hd : Deeds w A len) (hlen : len ≤ 9223372036854775807) (hd2 : Deeds w B len2) (hlen2 : len2 ≤ 9223372036854775807) :
    Calls Try.prog 7 #[.slice A len cap, .slice B len2 cap2] w (TruePost w) := by
  have HD := Lib.hid hd
  have HD2 := Lib.hid hd2
  clear hd hd2
  go_enter Try.func7, Try.ntmps7
  go_wp2_with fail
  refine (play_any A len cap _ HD.out hlen).mono ?_; rintro e w1 ⟨p, r, L, rd, wr, rfl, hb, hu, p1, p2⟩
  have HB := Lib.hid hb
  have HU := Lib.hid hu
  clear hb hu
  go_wp2_with fail
  refine (live_any _).mono ?_; rintro e w2 ⟨rfl, hu2⟩
  have HB2 := Lib.hid (HB.out.upd hu2 (by simp) (by simp))
  have HU2 := Lib.hid (HU.out.trans0 hu2)
  clear hu2
  go_wp2_with fail
  refine (fork_any p L rd wr _ HB2.out.pipe).mono ?_; rintro e w3 ⟨p', rfl, hm3, hu3, q1⟩
  have HB3 := Lib.hid (HB2.out.upd hu3 (by simp) (by simp))
  have HU3 := Lib.hid (HU2.out.trans0 hu3)
  have HM3 := Lib.hid hm3
  have l2 := HB2.out.lt
  have s3 := hu3.size
  clear hm3 hu3
  go_wp2_with fail
  refine (rfork_any r L rd wr _ HB3.out.ref).mono ?_; rintro e w4 ⟨r', rfl, hr4, hu4, q3⟩
  have HB4 := Lib.hid (HB3.out.upd hu4 (by simp) (by simp))
  have HU4 := Lib.hid (HU3.out.trans0 hu4)
  have HF4 : Hid (Both w4 p' r' L rd wr) := ⟨HM3.out.upd hu4 (by simp), hr4⟩
  have l3 := HB3.out.lt
  have sz := HU2.out.size
  clear hr4 hu4
  go_wp2_with fail
  go_loopw [10] (fun v W => ∃ j : Nat, j ≤ len2 ∧ j ≤ 14 ∧ v = .int .i64 (j : Int) ∧ (∃ L' rd' wr', Both W p' r' L' rd' wr') ∧ Both W p r L rd wr ∧ Upd [] w W) (fun v _ => len2 - (intOf v).toNat)
  case atStart => exact ⟨0, by omega, by omega, rfl, ⟨_, _, _, HF4.out⟩, HB4.out, HU4.out⟩
  case round =>
    obtain ⟨j, hj, hj12, rfl, ⟨L', rd', wr', hf⟩, hb, hu⟩ := hrel
    have HF := Lib.hid hf
    have HBr := Lib.hid hb
    have HUr := Lib.hid hu
    by_cases hlt : j < len2 ∧ j < 14
    · obtain ⟨l1, l2'⟩ := hlt
      obtain ⟨b, o, rfl, hc⟩ := HD2.out (by omega)
      obtain ⟨cs, hdk, hra0⟩ := hc j l1
      have hra : World.rangeAt _ b (o + j * 4) cs := fun i v hi => hu.lt_old (hra0 i v hi)
      have HK := Lib.hid hdk
      have HSZ := Lib.hid (show (Try.prog.info? 47).map (·.size) = some cs.length by rw [hdk.length]; exact info_deed)
      have i0 : (0 : Int) ≤ (j : Int) := by omega
      have i1 : (j : Int) < (len2 : Int) := by omega
      clear hra0 hdk hf hb hu hc
      go_wp2_with (refine wpList_load_midg rfl 47 _ rfl b (o + j * 4) rfl _ _ hra under_deed rfl HSZ.out ?_)
      refine (do_cs p' r' L' rd' wr' _ HF.out cs HK.out).mono ?_
      rintro e w5 ⟨rfl, hb5, hu5⟩
      have hu6 := HUr.out.trans hu5 (fun s hs => .inr (by simp at hs; omega))
      have HB5 := Lib.hid (HBr.out.upd hu5 (by simp; omega) (by simp; omega))
      have HF5 := Lib.hid hb5
      have HU6 := Lib.hid hu6
      clear hb5 hu5 hu6
      go_wp2_with fail
      go_roundw
      case rel => exact ⟨j + 1, by omega, by omega, by go_num, HF5.out, HB5.out, HU6.out⟩
      case measure => simp [intOf]; omega
    · clear hf hb hu
      have hge : ¬ ((j : Int) < (len2 : Int)) ∨ ¬ ((j : Int) < 14) := by omega
      clear hlt
      have hs1 := Lib.hid (same_any p r L rd _ _ HBr.out)
      by_cases hl2 : (j : Int) < (len2 : Int)
      · have hge2 : ¬ ((j : Int) < 14) := by omega
        clear hge
        go_wp2_with fail
        refine hs1.out.mono ?_; rintro e w6 ⟨rfl, hu6⟩
        have HF6 := Lib.hid (HF.out.upd hu6 (by simp) (by simp))
        have HU6 := Lib.hid (HUr.out.trans0 hu6)
        clear hu6
        go_wp2_with fail
        refine (same_any p' r' L' rd' wr' _ HF6.out).mono ?_; rintro e w7 ⟨rfl, hu7⟩
        have HU7 := Lib.hid (HU6.out.trans0 hu7)
        clear hu7
        go_wp2_with fail
        go_ret
        exact ⟨by simp, HU7.out⟩
      · clear hge
        go_wp2_with fail
        refine hs1.out.mono ?_; rintro e w6 ⟨rfl, hu6⟩
        have HF6 := Lib.hid (HF.out.upd hu6 (by simp) (by simp))
        have HU6 := Lib.hid (HUr.out.trans0 hu6)
        clear hu6
        go_wp2_with fail
        refine (same_any p' r' L' rd' wr' _ HF6.out).mono ?_; rintro e w7 ⟨rfl, hu7⟩
        have HU7 := Lib.hid (HU6.out.trans0 hu7)
        clear hu7
        go_wp2_with fail
        go_ret
        exact ⟨by simp, HU7.out⟩

end Go.Proofs.Ytdcecihojidiaaa
