/- The walk of the statement on a Copy. -/
import Derived.Test.YtocmochdgidcmaaProcOpen
namespace Go.Proofs.Ytocmochdgidcmaa
open Go.RowKit

set_option maxRecDepth 100000 in
set_option maxHeartbeats 4000000 in
theorem forks_any (A : Option Addr) (len cap : Nat) (B : Option Addr) (len2 cap2 : Nat) (w : World) (hd : Deeds w A len) (hlen : len ≤ 9223372036854775807) (hd2 : Deeds w B len2) (hlen2 : len2 ≤ 9223372036854775807) :
    Calls Try.prog 7 #[.slice A len cap, .slice B len2 cap2] w (TruePost w) := by
  have HD := Lib.hid hd
  have HD2 := Lib.hid hd2
  clear hd hd2
  go_enter Try.func7, Try.ntmps7
  go_wp2_with fail
  refine (play_any A len cap _ HD.out hlen).mono ?_; rintro e w1 ⟨p, r, T, rfl, hb, hu, p1, p2⟩
  have HB := Lib.hid hb
  have HU := Lib.hid hu
  clear hb hu
  go_wp2_with fail
  refine (live_any _).mono ?_; rintro e w2 ⟨rfl, hu2⟩
  have HB2 := Lib.hid (HB.out.upd hu2 (by simp) (by simp))
  have HU2 := Lib.hid (HU.out.trans0 hu2)
  clear hu2
  go_wp2_with fail
  refine (copy_any p T _ HB2.out.tab).mono ?_; rintro e w3 ⟨p', rfl, hm3, hu3, q1⟩
  have HB3 := Lib.hid (HB2.out.upd hu3 (by simp) (by simp))
  have HU3 := Lib.hid (HU2.out.trans0 hu3)
  have HM3 := Lib.hid hm3
  have l2 := HB2.out.lt
  have s3 := hu3.size
  clear hm3 hu3
  go_wp2_with fail
  refine (rcopy_any r T _ HB3.out.ref).mono ?_; rintro e w4 ⟨r', rfl, hr4, hu4, q3⟩
  have HB4 := Lib.hid (HB3.out.upd hu4 (by simp) (by simp))
  have HU4 := Lib.hid (HU3.out.trans0 hu4)
  have HF4 : Hid (Both w4 p' r' T) := ⟨HM3.out.upd hu4 (by simp), hr4, HB3.out.good⟩
  have l3 := HB3.out.lt
  have sz := HU2.out.size
  clear hr4 hu4
  go_wp2_with fail
  go_loopw [10] (fun v W => ∃ j : Nat, j ≤ len2 ∧ j ≤ 14 ∧ v = .int .i64 (j : Int) ∧ (∃ T', Both W p' r' T') ∧ Both W p r T ∧ Upd [] w W) (fun v _ => len2 - (intOf v).toNat)
  case atStart => exact ⟨0, by omega, by omega, rfl, ⟨_, HF4.out⟩, HB4.out, HU4.out⟩
  case round =>
    obtain ⟨j, hj, hj12, rfl, ⟨T', hf⟩, hb, hu⟩ := hrel
    have HF := Lib.hid hf
    have HBr := Lib.hid hb
    have HUr := Lib.hid hu
    by_cases hlt : j < len2 ∧ j < 14
    · obtain ⟨l1, l2'⟩ := hlt
      obtain ⟨b, o, rfl, hc⟩ := HD2.out (by omega)
      obtain ⟨cs, hdk, hra0⟩ := hc j l1
      have hra : World.rangeAt _ b (o + j * 3) cs := fun i v hi => hu.lt_old (hra0 i v hi)
      have HK := Lib.hid hdk
      have HSZ := Lib.hid (show (Try.prog.info? 45).map (·.size) = some cs.length by rw [hdk.length]; exact info_deed)
      have i0 : (0 : Int) ≤ (j : Int) := by omega
      have i1 : (j : Int) < (len2 : Int) := by omega
      clear hra0 hdk hf hb hu hc
      go_wp2_with (refine wpList_load_midg rfl 45 _ rfl b (o + j * 3) rfl _ _ hra under_deed rfl HSZ.out ?_)
      refine (do_cs p' r' T' _ HF.out cs HK.out).mono ?_
      rintro e w5 ⟨rfl, hb5, hu5⟩
      have hu6 := HUr.out.trans hu5 (fun s hs => .inr (by simp at hs; omega))
      have HB5 := Lib.hid (HBr.out.upd hu5 (by simp; omega) (by simp; omega))
      have HF5 := Lib.hid hb5
      have HU6 := Lib.hid hu6
      clear hb5 hu5 hu6
      go_wp2_with fail
      go_roundw
      case rel => exact ⟨j + 1, by omega, by omega, by go_num, HF5.out, HB5.out, HU6.out⟩
      case measure => simp [intOf]; omega
    · clear hf hb hu
      have hge : ¬ ((j : Int) < (len2 : Int)) ∨ ¬ ((j : Int) < 14) := by omega
      clear hlt
      have hs1 := Lib.hid (same_any p r T _ HBr.out)
      by_cases hl2 : (j : Int) < (len2 : Int)
      · have hge2 : ¬ ((j : Int) < 14) := by omega
        clear hge
        go_wp2_with fail
        refine hs1.out.mono ?_; rintro e w6 ⟨rfl, hu6⟩
        have HF6 := Lib.hid (HF.out.upd hu6 (by simp) (by simp))
        have HU6 := Lib.hid (HUr.out.trans0 hu6)
        clear hu6
        go_wp2_with fail
        refine (same_any p' r' T' _ HF6.out).mono ?_; rintro e w7 ⟨rfl, hu7⟩
        have HU7 := Lib.hid (HU6.out.trans0 hu7)
        clear hu7
        go_wp2_with fail
        go_ret
        exact ⟨by simp, HU7.out⟩
      · clear hge
        go_wp2_with fail
        refine hs1.out.mono ?_; rintro e w6 ⟨rfl, hu6⟩
        have HF6 := Lib.hid (HF.out.upd hu6 (by simp) (by simp))
        have HU6 := Lib.hid (HUr.out.trans0 hu6)
        clear hu6
        go_wp2_with fail
        refine (same_any p' r' T' _ HF6.out).mono ?_; rintro e w7 ⟨rfl, hu7⟩
        have HU7 := Lib.hid (HU6.out.trans0 hu7)
        clear hu7
        go_wp2_with fail
        go_ret
        exact ⟨by simp, HU7.out⟩

end Go.Proofs.Ytocmochdgidcmaa
