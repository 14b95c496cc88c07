/- The walk of the statement on a Fork. -/
import Derived.Test.YtefjppebohnmjaaTlbLaws
namespace Go.Proofs.Ytefjppebohnmjaa
open Go.RowKit Go.Shelf

set_option maxRecDepth 100000 in
set_option maxHeartbeats 4000000 in
theorem forks_any (A : Option Addr) (len cap : Nat) (B : Option Addr) (len2 cap2 : Nat) (w : World) (hd : Deeds w A len) (hlen : len ≤ 9223372036854775807) (hd2 : Deeds w B len2) (hlen2 : len2 ≤ 9223372036854775807) :
    Calls Try.prog 8 #[.slice A len cap, .slice B len2 cap2] w (TruePost w) := by
  have HD := Lib.hid hd
  have HD2 := Lib.hid hd2
  clear hd hd2
  go_enter Try.func8, Try.ntmps8
  go_wp2_with fail
  refine (play_any A len cap _ HD.out hlen).mono ?_; rintro e w1 ⟨t, r, L, rfl, hb, hu⟩
  have HB := Lib.hid hb
  have HU := Lib.hid hu
  clear hb hu
  go_wp2_with fail
  refine (live_any _).mono ?_; rintro e w2 ⟨rfl, hu2⟩
  have HU2 := Lib.hid (HU.out.trans0 hu2)
  have HB2 := Lib.hid (HB.out.upd0 hu2)
  obtain ⟨⟨o1, o2, hh⟩, hg⟩ := HB2.out
  have hle := hg.len
  have HH := Lib.hid hh
  have HG := Lib.hid hg
  clear hu2 hh hg HB
  go_wp2_with fail
  refine (fork_any t o1 L _ HH.out.tab).mono ?_; rintro e w3 ⟨t', o1', rfl, ht3, hf1, hf2, hu3⟩
  have HT3 := Lib.hid ht3
  have HU3 := Lib.hid hu3
  have HF3 := Lib.hid hf2
  have hol := Lib.hid ht3.ownlt
  have hs3 := hu3.size
  clear ht3 hu3 hf2
  go_wp2_with fail
  refine (rfork_any r o2 L _ (HH.out.ref.upd0 HU3.out)).mono ?_; rintro e w4 ⟨r', o2', rfl, hr4, hg1, hg2, hu4⟩
  have HBF : Hid (Both w4 w2.heap.size t' r' L) := Lib.hid ⟨⟨o1', o2', HT3.out.upd0 hu4, hr4, fun g hg hg' => by have h1 := hol.out g hg; have h2 := hg2 g hg'; omega, hf1, by omega, HF3.out, fun g hg => by have := hg2 g hg; omega⟩, HG.out⟩
  have HU4 := Lib.hid (HU3.out.trans0 hu4)
  clear hr4 hg1 hg2 hu4 hf1 hs3
  go_wp2_with fail
  go_loopw [10] (fun v W => ∃ j : Nat, j ≤ len2 ∧ j ≤ 20 ∧ v = .int .i64 (j : Int) ∧ (∃ L', Both W w2.heap.size t' r' L') ∧ Upd [] w2 W) (fun v _ => len2 - (intOf v).toNat)
  case atStart => exact ⟨0, by omega, by omega, rfl, ⟨_, HBF.out⟩, HU4.out⟩
  case round =>
    obtain ⟨j, hj, hj12, rfl, ⟨L', hf⟩, hu⟩ := hrel
    have HF := Lib.hid hf
    have HUr := Lib.hid hu
    by_cases hlt : j < len2 ∧ j < 20
    · obtain ⟨l1, l2'⟩ := hlt
      obtain ⟨b, o, rfl, hc⟩ := HD2.out (by omega)
      obtain ⟨cs, hdk, hra0⟩ := hc j l1
      have hra : World.rangeAt _ b (o + j * 5) cs := fun i v hi => (HU2.out.trans0 hu).lt_old (hra0 i v hi)
      have HK := Lib.hid hdk
      have HSZ := Lib.hid (show (Try.prog.info? 51).map (·.size) = some cs.length by rw [hdk.length]; exact info_deed)
      have i0 : (0 : Int) ≤ (j : Int) := by omega
      have i1 : (j : Int) < (len2 : Int) := by omega
      clear hra0 hdk hf hu hc
      go_wp2_with (refine wpList_load_midg rfl 51 _ rfl b (o + j * 5) rfl _ _ hra under_deed rfl HSZ.out ?_)
      refine (do_cs _ t' r' L' _ HF.out cs HK.out).mono ?_
      rintro e w5 ⟨rfl, hb5, hf5⟩
      have HF5 := Lib.hid hb5
      have HU6 := Lib.hid (hf5.upd HUr.out (Nat.le_refl _))
      clear hb5 hf5
      go_wp2_with fail
      go_roundw
      case rel => exact ⟨j + 1, by omega, by omega, by go_num, HF5.out, HU6.out⟩
      case measure => simp [intOf]; omega
    · clear hf hu
      have hge : ¬ ((j : Int) < (len2 : Int)) ∨ ¬ ((j : Int) < 20) := by omega
      clear hlt
      obtain ⟨⟨p1, p2, hp⟩, hpg⟩ := HF.out
      have hle2 := hpg.len
      have HP := Lib.hid hp
      have HHr := Lib.hid (HH.out.upd0 HUr.out)
      clear hp hpg
      by_cases hl2 : (j : Int) < (len2 : Int)
      · have hge2 : ¬ ((j : Int) < 20) := by omega
        clear hge
        go_wp2_with fail
        refine (list_any t o1 L _ HHr.out.tab).mono ?_; rintro e w6 ⟨A1, c1, rfl, hr6, _, hu6⟩
        have HR6 := Lib.hid hr6
        have HU6 := Lib.hid hu6
        clear hr6 hu6
        go_wp2_with fail
        refine (rlist_any r o2 L _ (HHr.out.ref.upd0 HU6.out)).mono ?_; rintro e w7 ⟨A2, c2, rfl, hr7, _, hu7⟩
        have HR7 := Lib.hid hr7
        have HU7 := Lib.hid hu7
        clear hr7 hu7
        go_wp2_with fail
        refine (same_any w7 A1 A2 L L _ _ c1 c2 (HR6.out.upd HU7.out (by simp)).reads HR7.out.reads rfl rfl (by omega) (by omega)).mono ?_; rintro e w8 ⟨rfl, hu8⟩
        have HU8 := Lib.hid ((HU6.out.trans0 HU7.out).trans0 hu8)
        clear hu8
        go_wp2_with fail
        refine (list_any t' p1 L' _ (HP.out.tab.upd0 HU8.out)).mono ?_; rintro e w9 ⟨A3, c3, rfl, hr9, _, hu9⟩
        have HR9 := Lib.hid hr9
        have HU9 := Lib.hid (HU8.out.trans0 hu9)
        clear hr9 hu9
        go_wp2_with fail
        refine (rlist_any r' p2 L' _ (HP.out.ref.upd0 HU9.out)).mono ?_; rintro e wa ⟨A4, c4, rfl, hra, _, hua⟩
        have HRa := Lib.hid hra
        have HUa := Lib.hid hua
        clear hra hua
        go_wp2_with fail
        refine (same_any wa A3 A4 L' L' _ _ c3 c4 (HR9.out.upd HUa.out (by simp)).reads HRa.out.reads rfl rfl (by omega) (by omega)).mono ?_; rintro e wb ⟨rfl, hub⟩
        have HUb := Lib.hid hub
        clear hub
        go_wp2_with fail
        go_ret
        exact ⟨by simp, (HU2.out.trans0 HUr.out).trans0 ((HU9.out.trans0 HUa.out).trans0 HUb.out)⟩
      · clear hge
        go_wp2_with fail
        refine (list_any t o1 L _ HHr.out.tab).mono ?_; rintro e w6 ⟨A1, c1, rfl, hr6, _, hu6⟩
        have HR6 := Lib.hid hr6
        have HU6 := Lib.hid hu6
        clear hr6 hu6
        go_wp2_with fail
        refine (rlist_any r o2 L _ (HHr.out.ref.upd0 HU6.out)).mono ?_; rintro e w7 ⟨A2, c2, rfl, hr7, _, hu7⟩
        have HR7 := Lib.hid hr7
        have HU7 := Lib.hid hu7
        clear hr7 hu7
        go_wp2_with fail
        refine (same_any w7 A1 A2 L L _ _ c1 c2 (HR6.out.upd HU7.out (by simp)).reads HR7.out.reads rfl rfl (by omega) (by omega)).mono ?_; rintro e w8 ⟨rfl, hu8⟩
        have HU8 := Lib.hid ((HU6.out.trans0 HU7.out).trans0 hu8)
        clear hu8
        go_wp2_with fail
        refine (list_any t' p1 L' _ (HP.out.tab.upd0 HU8.out)).mono ?_; rintro e w9 ⟨A3, c3, rfl, hr9, _, hu9⟩
        have HR9 := Lib.hid hr9
        have HU9 := Lib.hid (HU8.out.trans0 hu9)
        clear hr9 hu9
        go_wp2_with fail
        refine (rlist_any r' p2 L' _ (HP.out.ref.upd0 HU9.out)).mono ?_; rintro e wa ⟨A4, c4, rfl, hra, _, hua⟩
        have HRa := Lib.hid hra
        have HUa := Lib.hid hua
        clear hra hua
        go_wp2_with fail
        refine (same_any wa A3 A4 L' L' _ _ c3 c4 (HR9.out.upd HUa.out (by simp)).reads HRa.out.reads rfl rfl (by omega) (by omega)).mono ?_; rintro e wb ⟨rfl, hub⟩
        have HUb := Lib.hid hub
        clear hub
        go_wp2_with fail
        go_ret
        exact ⟨by simp, (HU2.out.trans0 HUr.out).trans0 ((HU9.out.trans0 HUa.out).trans0 HUb.out)⟩

end Go.Proofs.Ytefjppebohnmjaa
