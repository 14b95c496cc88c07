/- play. -/
import Derived.Test.YtedaffkdfniikaaFdsY
namespace Go.Proofs.Ytedaffkdfniikaa
open Go.RowKit Go.Shelf

theorem BLive.mono {w0 W : World} {t r N N' : Nat} {X : List Nat} {Sp Sr : St} (h : BLive w0 t r X N Sp Sr W) (hN : N ≤ N') : BLive w0 t r X N' Sp Sr W := by
  obtain ⟨ot, og, h⟩ := h
  exact ⟨ot, og, h.p, h.rf, h.d, h.lt, h.lr, h.x, h.u, h.g, h.s, Nat.le_trans h.n hN⟩
set_option maxRecDepth 100000 in
set_option maxHeartbeats 4000000 in
theorem do_other (w0 : World) (t r N : Nat) (S : St) (w : World) (h : BLive w0 t r [] N S S w) (K P Q M : Int) (o : Op)
    (k0 : (K == 0) = false) (k1 : (K == 1) = false) (k2 : (K == 2) = false) (k3 : (K == 3) = false) (k4 : (K == 4) = false) (k5 : (K == 5) = false) (k6 : (K == 6) = false) :
    Calls Try.prog 26 #[.pointer (some ⟨t, 0, none⟩), .pointer (some ⟨r, 0, none⟩), .agg #[.int .i64 K, .int .i64 P, .int .i64 Q, .int .i64 M, .int .u8 o.k, .int .i64 o.r, .int .i64 o.p]] w (DoPost w0 t r N w) := by
  have hnew := Blk.new w 32 #[.int .i64 K, .int .i64 P, .int .i64 Q, .int .i64 M, .int .u8 o.k, .int .i64 o.r, .int .i64 o.p]
  have c0 := hnew.cellAt (i := 0) (v := .int .i64 K) rfl
  have HH := Lib.hid ((h.mono (Nat.le_succ N)).upd0 ((Upd.refl [] w).alloc (.cells #[.int .i64 K, .int .i64 P, .int .i64 Q, .int .i64 M, .int .u8 o.k, .int .i64 o.r, .int .i64 o.p] 32)))
  clear hnew h
  go_enter Try.func26, Try.ntmps26
  go_wp2_with fail
  go_ret
  exact ⟨by simp, S, HH.out⟩
theorem do_any (w0 : World) (t r N : Nat) (S : St) (w : World) (h : BLive w0 t r [] N S S w) (hN : N ≤ 499) (cs : List Value) (hd : DeedOk cs) :
    Calls Try.prog 26 #[.pointer (some ⟨t, 0, none⟩), .pointer (some ⟨r, 0, none⟩), .agg cs.toArray] w (DoPost w0 t r N w) := by
  obtain ⟨K, P, Q, M, o, rfl, ho⟩ := hd
  unfold deedCs
  by_cases k0 : K = 0
  · subst k0; exact do_0 w0 t r N S w h hN P Q M o ho
  by_cases k1 : K = 1
  · subst k1; exact do_1 w0 t r N S w h hN P Q M o ho
  by_cases k2 : K = 2
  · subst k2; exact do_2 w0 t r N S w h hN P Q M o ho
  by_cases k3 : K = 3
  · subst k3; exact do_3 w0 t r N S w h hN P Q M o ho
  by_cases k4 : K = 4
  · subst k4; exact do_4 w0 t r N S w h hN P Q M o ho
  by_cases k5 : K = 5
  · subst k5; exact do_5 w0 t r N S w h hN P Q M o ho
  by_cases k6 : K = 6
  · subst k6; exact do_6 w0 t r N S w h hN P Q M o ho
  exact do_other w0 t r N S w h K P Q M o (by simp [k0]) (by simp [k1]) (by simp [k2]) (by simp [k3]) (by simp [k4]) (by simp [k5]) (by simp [k6])
theorem DeedOk.length {cs : List Value} (h : DeedOk cs) : cs.length = 7 := by
  obtain ⟨K, P, Q, M, o, rfl, _⟩ := h
  rfl
def PlayPost (w : World) (e : Ending) (w' : World) : Prop :=
  ∃ t r S, e = .returned (.tuple #[.pointer (some ⟨t, 0, none⟩), .pointer (some ⟨r, 0, none⟩), .bool true]) ∧ BLive w t r [] 51 S S w'

set_option maxRecDepth 100000 in
set_option maxHeartbeats 2000000 in
theorem play_any (A : Option Addr) (len cap : Nat) (w : World) (hd : Deeds w A len) (hlen : len ≤ 9223372036854775807) :
    Calls Try.prog 17 #[.slice A len cap] w (PlayPost w) := by
  have HD := Lib.hid hd
  have HZ : Hid (DeedOk [.int .i64 0, .int .i64 0, .int .i64 0, .int .i64 0, .int .u8 0, .int .i64 0, .int .i64 0]) := Lib.hid ⟨0, 0, 0, 0, ⟨0, 0, 0⟩, rfl, by decide⟩
  clear hd
  go_enter Try.func17, Try.ntmps17
  go_wp2_with fail
  refine (lnew w).mono ?_; rintro e w1 ⟨t, rfl, h1⟩
  have P1 := Lib.hid h1
  clear h1
  go_wp2_with fail
  refine (rnew_any w1).mono ?_; rintro e w2 ⟨rfl, h2, hu2⟩
  have HB2 : Hid (BLive w t w1.heap.size [] 0 newS newS w2) := Lib.hid (by
    obtain ⟨ot, hp, hl, hu⟩ := P1.out
    refine ⟨ot, [w1.heap.size], hp.upd hu2 (by simp), ⟨none, 0, h2⟩, fun g hg hm => ?_, hl, P1.out.upd.size, by simp, hu.trans' hu2, good_new, small_new, Nat.le_refl _⟩
    simp at hm
    subst hm
    have := hp.lt _ hg
    omega)
  clear h2 hu2
  generalize w1.heap.size = r at *
  go_wp2_with fail
  refine (do_any w t r 0 newS w2 HB2.out (by omega) _ HZ.out).mono ?_; rintro e w3 ⟨rfl, h3⟩
  have HB3 := Lib.hid h3
  clear h3
  go_wp2_with fail
  go_loopw [7] (fun v wr => ∃ j : Nat, j ≤ len ∧ j ≤ 50 ∧ v = .int .i64 (j : Int) ∧ ∃ S, BLive w t r [] (j + 1) S S wr) (fun v _ => len - (intOf v).toNat)
  case atStart => exact ⟨0, by omega, by omega, rfl, HB3.out⟩
  case round =>
    obtain ⟨j, hj, hj50, rfl, S, hb⟩ := hrel
    by_cases hlt : j < len ∧ j < 50
    · obtain ⟨l1, l2⟩ := hlt
      obtain ⟨b, o, rfl, hc⟩ := HD.out (by omega)
      obtain ⟨cs, hdk, hra0⟩ := hc j l1
      have hra : wr.rangeAt b (o + j * 7) cs := fun i v hi => hb.upd.lt_old (hra0 i v hi)
      have HK := Lib.hid hdk
      have HSZ := Lib.hid (show (Try.prog.info? 32).map (·.size) = some cs.length by rw [hdk.length]; exact info_deed)
      have HB := Lib.hid hb
      have i0 : (0 : Int) ≤ (j : Int) := by omega
      have i1 : (j : Int) < (len : Int) := by omega
      clear hra0 hdk hb hc
      go_wp2_with (refine wpList_load_midg rfl 32 _ rfl b (o + j * 7) rfl _ _ hra under_deed rfl HSZ.out ?_)
      refine (do_any w t r (j + 1) S _ HB.out (by omega) cs HK.out).mono ?_
      rintro e w3 ⟨rfl, hb3⟩
      have HB4 := Lib.hid hb3
      clear hb3
      go_wp2_with fail
      go_roundw
      case rel => exact ⟨j + 1, by omega, by omega, by go_num, HB4.out⟩
      case measure => simp [intOf]; omega
    · have HB := Lib.hid (hb.mono (show j + 1 ≤ 51 by omega))
      clear hb
      by_cases hl2 : (j : Int) < (len : Int)
      · have i2 : ¬ (j : Int) < 50 := by omega
        clear hlt
        go_wp2_with fail
        go_ret3
        exact ⟨t, r, S, by simp, HB.out⟩
      · clear hlt
        go_wp2_with fail
        go_ret3
        exact ⟨t, r, S, by simp, HB.out⟩

end Go.Proofs.Ytedaffkdfniikaa
