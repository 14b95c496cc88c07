/- same, live, play. -/
import Derived.Test.YtocmochdgidcmaaProcW
namespace Go.Proofs.Ytocmochdgidcmaa
open Go.RowKit

set_option maxRecDepth 100000 in
set_option maxHeartbeats 4000000 in
theorem same_any (t r : Nat) (T : List PS) (w : World) (h : Both w t r T) :
    Calls Try.prog 18 #[.pointer (some ⟨t, 0, none⟩), .pointer (some ⟨r, 0, none⟩)] w (TruePost w) := by
  have HB := Lib.hid h
  clear h
  go_enter Try.func18, Try.ntmps18
  go_wp2_with fail
  go_loopw [5] (fun v wr => ∃ j : Nat, j ≤ 8 ∧ v = .int .i64 ((j : Int) - 1) ∧ Upd [] w wr) (fun v _ => (7 - intOf v).toNat)
  case atStart => exact ⟨0, by omega, by go_num, Upd.refl _ _⟩
  case round =>
    obtain ⟨j, hj, rfl, hu⟩ := hrel
    have HB0 := Lib.hid (HB.out.upd hu (by simp) (by simp))
    have HU := Lib.hid hu
    clear hu
    by_cases hlt : j < 8
    · have hle : ((j : Int) - 1) ≤ 6 := by omega
      have HS := Lib.hid (state_any t T ((j : Int) - 1) _ HB0.out.tab)
      have HSr := Lib.hid (rstate_any r T ((j : Int) - 1) _ HB0.out.ref)
      have HP := Lib.hid (fun W h => parent_any t T ((j : Int) - 1) W h)
      have HPr := Lib.hid (fun W h => rparent_any r T ((j : Int) - 1) W h)
      have HC := Lib.hid (fun W h => pchildren_any t T ((j : Int) - 1) W h)
      have HCr := Lib.hid (fun W h => rchildren_any r T ((j : Int) - 1) W h)
      have HT := Lib.hid (fun W h => status_any t T ((j : Int) - 1) W h)
      have HTr := Lib.hid (fun W h => rstatus_any r T ((j : Int) - 1) W h)
      have HL : Hid ((kidsOf T ((j : Int) - 1)).length ≤ 5) := Lib.hid (by
        unfold kidsOf
        split
        · simp
        · exact seen_le _ _ 5)
      generalize stP (getP T ((j : Int) - 1)) = q at *
      generalize parP (getP T ((j : Int) - 1)) = pp at *
      generalize statP (getP T ((j : Int) - 1)) = ss at *
      generalize kidsOf T ((j : Int) - 1) = ks at *
      have kq : ((q : Int) != (q : Int)) = false := by simp
      have kp : (pp != pp) = false := by simp
      have ks' : (ss != ss) = false := by simp
      go_wp2_with fail
      refine HS.out.mono ?_; rintro e w' ⟨rfl, rfl⟩
      go_wp2_with fail
      refine HSr.out.mono ?_; rintro e w' ⟨rfl, rfl⟩
      go_wp2_with fail
      refine (HP.out _ HB0.out.tab).mono ?_; rintro e w1 ⟨rfl, hu1⟩
      have HB1 := Lib.hid (HB0.out.upd hu1 (by simp) (by simp))
      have HU1 := Lib.hid (HU.out.trans0 hu1)
      clear hu1
      go_wp2_with fail
      refine (HPr.out _ HB1.out.ref).mono ?_; rintro e w' ⟨rfl, rfl⟩
      go_wp2_with fail
      refine (HC.out _ HB1.out.tab).mono ?_; rintro e w2 ⟨v2, rfl, hown, hu2⟩
      rw [ints_nums] at hown
      obtain ⟨A2, c2, rfl, hle2, hrd2, hlo2⟩ := RdV.of_own hown
      have HB2 := Lib.hid (HB1.out.upd hu2 (by simp) (by simp))
      have HU2 := Lib.hid (HU1.out.trans0 hu2)
      have HR2 := Lib.hid hrd2
      clear hown hu2 hrd2 hlo2
      go_wp2_with fail
      refine (HCr.out _ HB2.out.ref).mono ?_; rintro e w3 ⟨v3, rfl, hown, hu3⟩
      rw [ints_nums] at hown
      obtain ⟨A3, c3, rfl, hle3, hrd3, hlo3⟩ := RdV.of_own hown
      have HB3 := Lib.hid (HB2.out.upd hu3 (by simp) (by simp))
      have HU3 := Lib.hid (HU2.out.trans0 hu3)
      have HR3 := Lib.hid hrd3
      have HR2 := Lib.hid (HR2.out.upd hu3 (by simp))
      have HSI := Lib.hid (sameInts_any w3 A2 A3 (nums ks) (nums ks) c2 c3 HR2.out HR3.out (by rw [nums_length]; have := HL.out; omega) (by rw [nums_length]; have := HL.out; omega))
      rw [nums_length, decide_eq_true rfl] at HSI
      clear hown hu3 hrd3 hlo3
      go_wp2_with fail
      refine HSI.out.mono ?_; rintro e w4 ⟨rfl, k4, rfl⟩
      have HB4 : Hid (Both (w3.drewN k4) t r T) := Lib.hid ⟨⟨HB3.out.tab.1, HB3.out.tab.2⟩, ⟨HB3.out.ref.1, HB3.out.ref.2⟩, HB3.out.good⟩
      have HU4 := Lib.hid (HU3.out.drewN k4)
      generalize w3.drewN k4 = w4 at *
      go_wp2_with fail
      refine (HT.out _ HB4.out.tab).mono ?_; rintro e w5 ⟨rfl, hu5⟩
      have HB5 := Lib.hid (HB4.out.upd hu5 (by simp) (by simp))
      have HU5 := Lib.hid (HU4.out.trans0 hu5)
      clear hu5
      go_wp2_with fail
      refine (HTr.out _ HB5.out.ref).mono ?_; rintro e w' ⟨rfl, rfl⟩
      go_wp2_with fail
      go_roundw
      case rel => exact ⟨j + 1, by omega, by go_num, HU5.out⟩
      case measure => simp [intOf]; omega
    · obtain rfl : j = 8 := by omega
      go_wp2_with fail
      refine (running_any t T _ HB0.out.tab).mono ?_; rintro e w2 ⟨v2, rfl, hown, hu2⟩
      rw [ints_nums] at hown
      obtain ⟨A2, c2, rfl, hle2, hrd2, hlo2⟩ := RdV.of_own hown
      have HB2 := Lib.hid (HB0.out.upd hu2 (by simp) (by simp))
      have HU2 := Lib.hid (HU.out.trans0 hu2)
      have HR2 := Lib.hid hrd2
      clear hown hu2 hrd2 hlo2
      go_wp2_with fail
      refine (rrunning_any r T _ HB2.out.ref).mono ?_; rintro e w3 ⟨v3, rfl, hown, hu3⟩
      rw [ints_nums] at hown
      obtain ⟨A3, c3, rfl, hle3, hrd3, hlo3⟩ := RdV.of_own hown
      have HU3 := Lib.hid (HU2.out.trans0 hu3)
      have HR3 := Lib.hid hrd3
      have HR2 := Lib.hid (HR2.out.upd hu3 (by simp))
      have HL := Lib.hid (runTo_le T 6)
      have HSI := Lib.hid (sameInts_any w3 A2 A3 (nums (runTo T 6)) (nums (runTo T 6)) c2 c3 HR2.out HR3.out (by rw [nums_length]; have := HL.out; omega) (by rw [nums_length]; have := HL.out; omega))
      rw [nums_length, decide_eq_true rfl] at HSI
      clear hown hu3 hrd3 hlo3
      go_wp2_with fail
      refine HSI.out.mono ?_; rintro e w4 ⟨rfl, k4, rfl⟩
      go_wp2_with fail
      go_ret
      exact ⟨by simp, HU3.out.drewN _⟩

def T1 : List PS := [.liv 0, .liv 0, .none, .none, .none, .none]
def T2 : List PS := [.liv 0, .dead 0 5, .none, .none, .none, .none]

set_option maxRecDepth 100000 in
set_option maxHeartbeats 2000000 in
theorem live_any (w : World) : Calls Try.prog 10 #[] w (TruePost w) := by
  go_enter Try.func10, Try.ntmps10
  go_wp2_with fail
  refine (new_any _).mono ?_; rintro e w1 ⟨p, rfl, hp, hu, hs⟩
  have H1 := Lib.hid hp
  have U1 := Lib.hid hu
  clear hp hu
  go_wp2_with fail
  refine (show Calls _ _ _ _ (fun e w' => e = .returned (.tuple #[.int .i64 1, .int .i64 0]) ∧ TabAt w' p T1 ∧ Upd [p] w1 w') from fork_any p newT 0 w1 H1.out (by intro h; cases h)).mono ?_; rintro e w2 ⟨rfl, hp, hu⟩
  have H2 := Lib.hid hp
  have U2 := Lib.hid (U1.out.trans hu (fun s hs => .inr (by simp at hs; omega)))
  clear hp hu
  go_wp2_with fail
  refine (show Calls _ _ _ _ (fun e w' => e = .returned (.int .i64 0) ∧ TabAt w' p T2 ∧ Upd [p] w2 w') from exit_any p T1 1 5 w2 H2.out).mono ?_; rintro e w3 ⟨rfl, hp, hu⟩
  have H3 := Lib.hid hp
  have U3 := Lib.hid (U2.out.trans hu (fun s hs => .inr (by simp at hs; omega)))
  clear hp hu
  go_wp2_with fail
  refine (show Calls _ _ _ _ (fun e w' => e = .returned (.tuple #[.int .i64 1, .int .i64 5, .int .i64 0]) ∧ TabAt w' p newT ∧ Upd [p] w3 w') from wait_any p T2 0 w3 H3.out).mono ?_; rintro e w4 ⟨rfl, hp, hu⟩
  have H4 := Lib.hid hp
  have U4 := Lib.hid (U3.out.trans hu (fun s hs => .inr (by simp at hs; omega)))
  clear hp hu
  go_wp2_with fail
  refine (show Calls _ _ _ _ (fun e w' => e = .returned (.tuple #[.int .i64 0, .int .i64 0, .int .i64 3]) ∧ TabAt w' p newT ∧ Upd [p] w4 w') from wait_any p newT 0 w4 H4.out).mono ?_; rintro e w5 ⟨rfl, hp, hu⟩
  have H5 := Lib.hid hp
  have U5 := Lib.hid (U4.out.trans hu (fun s hs => .inr (by simp at hs; omega)))
  clear hp hu
  go_wp2_with fail
  refine (show Calls _ _ _ _ (fun e w' => e = .returned (.int .i64 7) ∧ TabAt w' p newT ∧ Upd [p] w5 w') from exit_any p newT 0 0 w5 H5.out).mono ?_; rintro e w6 ⟨rfl, hp, hu⟩
  have U6 := Lib.hid (U5.out.trans hu (fun s hs => .inr (by simp at hs; omega)))
  clear hp hu
  go_wp2_with fail
  go_ret
  exact ⟨by simp, U6.out⟩

/-- The cells of a deed. -/
def DeedOk (cs : List Value) : Prop := ∃ (K P S : Int), cs = [.int .i64 K, .int .i64 P, .int .i64 S]
/-- n deeds from an address on. -/
def Deeds (w : World) (A : Option Addr) (n : Nat) : Prop :=
  0 < n → ∃ b o, A = some ⟨b, o, none⟩ ∧ ∀ i, i < n → ∃ cs, DeedOk cs ∧ w.rangeAt b (o + i * 3) cs
theorem Deeds.upd {w w' : World} {A : Option Addr} {n : Nat} (h : Deeds w A n) (hu : Upd [] w w') : Deeds w' A n := by
  intro hn
  obtain ⟨b, o, rfl, hc⟩ := h hn
  refine ⟨b, o, rfl, fun i hi => ?_⟩
  obtain ⟨cs, h1, h2⟩ := hc i hi
  exact ⟨cs, h1, fun j v hj => hu.lt_old (h2 j v hj)⟩
theorem DeedOk.length {cs : List Value} (h : DeedOk cs) : cs.length = 3 := by
  obtain ⟨K, P, S, rfl⟩ := h
  rfl

def PlayPost (w : World) (e : Ending) (w' : World) : Prop :=
  ∃ t r T, e = .returned (.tuple #[.pointer (some ⟨t, 0, none⟩), .pointer (some ⟨r, 0, none⟩), .bool true]) ∧ Both w' t r T ∧ Upd [] w w' ∧ w.heap.size ≤ t ∧ w.heap.size ≤ r

theorem under_deed : Try.prog.underlying 45 = some (.struct (Try.prog.fieldsOf 45)) := by kernel_rfl
theorem info_deed : (Try.prog.info? 45).map (·.size) = some 3 := by kernel_rfl

theorem do_cs (t r : Nat) (T : List PS) (w : World) (h : Both w t r T) (cs : List Value) (hd : DeedOk cs) :
    Calls Try.prog 20 #[.pointer (some ⟨t, 0, none⟩), .pointer (some ⟨r, 0, none⟩), .agg cs.toArray] w (fun e w' => e = .returned (.bool true) ∧ (∃ T', Both w' t r T') ∧ Upd [t, r] w w') := by
  obtain ⟨K, P, S, rfl⟩ := hd
  exact (do_any t r T w h K P S).mono fun e w' hh => ⟨hh.1, ⟨_, hh.2.1⟩, hh.2.2⟩

set_option maxRecDepth 100000 in
set_option maxHeartbeats 2000000 in
theorem play_any (A : Option Addr) (len cap : Nat) (w : World) (hd : Deeds w A len) (hlen : len ≤ 9223372036854775807) :
    Calls Try.prog 9 #[.slice A len cap] w (PlayPost w) := by
  have HD := Lib.hid hd
  clear hd
  go_enter Try.func9, Try.ntmps9
  go_wp2_with fail
  refine (new_any _).mono ?_; rintro e w1 ⟨t, rfl, hm, hu1, hp1⟩
  have HM1 := Lib.hid hm
  have HU1 := Lib.hid hu1
  clear hm hu1
  go_wp2_with fail
  refine (rnew_any _).mono ?_; rintro e w2 ⟨r, rfl, hr, hu2, hr1⟩
  have HB2 : Hid (Both w2 t r newT) := ⟨HM1.out.upd hu2 (by simp), hr, good_new⟩
  have HU2 := Lib.hid (HU1.out.trans0 hu2)
  have s1 := HU1.out.size
  have s2 := hu2.size
  clear hr hu2
  go_wp2_with fail
  go_loopw [7] (fun v wr => ∃ j : Nat, j ≤ len ∧ j ≤ 60 ∧ v = .int .i64 (j : Int) ∧ (∃ T, Both wr t r T) ∧ Upd [] w wr) (fun v _ => len - (intOf v).toNat)
  case atStart => exact ⟨0, by omega, by omega, rfl, ⟨_, HB2.out⟩, HU2.out⟩
  case round =>
    obtain ⟨j, hj, hj30, rfl, ⟨T, hb⟩, hu⟩ := hrel
    by_cases hlt : j < len ∧ j < 60
    · obtain ⟨l1, l2⟩ := hlt
      obtain ⟨b, o, rfl, hc⟩ := HD.out (by omega)
      obtain ⟨cs, hdk, hra0⟩ := hc j l1
      have hra : wr.rangeAt b (o + j * 3) cs := fun i v hi => hu.lt_old (hra0 i v hi)
      have HK := Lib.hid hdk
      have HSZ := Lib.hid (show (Try.prog.info? 45).map (·.size) = some cs.length by rw [hdk.length]; exact info_deed)
      have HB := Lib.hid hb
      have HU := Lib.hid hu
      have i0 : (0 : Int) ≤ (j : Int) := by omega
      have i1 : (j : Int) < (len : Int) := by omega
      clear hra0 hdk hb hu hc
      go_wp2_with (refine wpList_load_midg rfl 45 _ rfl b (o + j * 3) rfl _ _ hra under_deed rfl HSZ.out ?_)
      refine (do_cs t r T _ HB.out cs HK.out).mono ?_
      rintro e w3 ⟨rfl, hb3, hu3⟩
      have hu4 := HU.out.trans hu3 (fun s hs => .inr (by simp at hs; omega))
      have HB3 := Lib.hid hb3
      have HU4 := Lib.hid hu4
      clear hb3 hu3 hu4
      go_wp2_with fail
      go_roundw
      case rel => exact ⟨j + 1, by omega, by omega, by go_num, HB3.out, HU4.out⟩
      case measure => simp [intOf]; omega
    · have HB := Lib.hid hb
      have HU := Lib.hid hu
      clear hb hu
      have hge : ¬ ((j : Int) < (len : Int)) ∨ ¬ ((j : Int) < 60) := by omega
      clear hlt
      rcases hge with hge | hge
      · go_wp2_with fail
        all_goals (first | (go_ret3; exact ⟨t, r, T, by simp, HB.out, HU.out, by omega, by omega⟩) | (exfalso; omega))
      · by_cases hl2 : (j : Int) < (len : Int)
        · go_wp2_with fail
          all_goals (first | (go_ret3; exact ⟨t, r, T, by simp, HB.out, HU.out, by omega, by omega⟩) | (exfalso; omega))
        · go_wp2_with fail
          all_goals (first | (go_ret3; exact ⟨t, r, T, by simp, HB.out, HU.out, by omega, by omega⟩) | (exfalso; omega))

end Go.Proofs.Ytocmochdgidcmaa
