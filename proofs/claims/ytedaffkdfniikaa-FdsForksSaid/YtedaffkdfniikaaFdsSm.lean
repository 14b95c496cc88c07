/- What both tell: same. -/
import Derived.Test.YtedaffkdfniikaaFdsPl
namespace Go.Proofs.Ytedaffkdfniikaa
open Go.RowKit Go.Shelf

section
variable {w0 W : World} {t r N : Nat} {X : List Nat} {S Sr : St} (h : BLive w0 t r X N S Sr W)
include h
theorem tList (p : Int) : Calls Try.prog 21 #[.pointer (some ⟨t, 0, none⟩), .int .i64 p] W fun e w' => ∃ A c, e = .returned (.slice A (lisO S p).length c) ∧ RdV w' A (ints (lisO S p)) ∧ Upd [] W w' := by
  obtain ⟨ot, og, h⟩ := h
  obtain ⟨pb, sb, hp⟩ := h.p
  refine (list_any t ot S pb sb W hp p).mono fun e w' ⟨v, he, hown, hu⟩ => ?_
  obtain ⟨A, c, rfl, _, hrd, _⟩ := RdV.of_own hown
  exact ⟨A, c, he, hrd, hu⟩
theorem tRoom (p : Int) : Calls Try.prog 22 #[.pointer (some ⟨t, 0, none⟩), .int .i64 p] W fun e w' => e = .returned (.int .i64 (roomO S p)) ∧ Upd [] W w' := by
  obtain ⟨ot, og, h⟩ := h
  obtain ⟨pb, sb, hp⟩ := h.p
  exact room_any t ot S pb sb W hp p
theorem tGet (p k : Int) : Calls Try.prog 18 #[.pointer (some ⟨t, 0, none⟩), .int .i64 p, .int .i64 k] W fun e w' => e = .returned (.tuple #[.agg #[.int .u8 (getO S p k).k, .int .i64 (getO S p k).r, .int .i64 (getO S p k).p], .int .i64 (atE S p k)]) ∧ Upd [] W w' := by
  obtain ⟨ot, og, h⟩ := h
  obtain ⟨pb, sb, hp⟩ := h.p
  exact get_any t ot S pb sb W hp p k
theorem tSame (p a q b : Int) : Calls Try.prog 19 #[.pointer (some ⟨t, 0, none⟩), .int .i64 p, .int .i64 a, .int .i64 q, .int .i64 b] W fun e w' => e = .returned (.bool (samB S p a q b)) ∧ Upd [] W w' := by
  obtain ⟨ot, og, h⟩ := h
  obtain ⟨pb, sb, hp⟩ := h.p
  exact same_any1 t ot S pb sb W hp p a q b
end
section
variable {w0 W : World} {t r N : Nat} {X : List Nat} {S Sp : St} (h : BLive w0 t r X N Sp S W)
include h
theorem uList (p : Int) : Calls Try.prog 34 #[.pointer (some ⟨r, 0, none⟩), .int .i64 p] W fun e w' => ∃ A c, e = .returned (.slice A (lisO S p).length c) ∧ RdV w' A (ints (lisO S p)) ∧ Upd [] W w' := by
  obtain ⟨ot, og, h⟩ := h
  obtain ⟨A, cap, hx⟩ := h.rf
  refine (rlist_any r og S A cap W hx p).mono fun e w' ⟨v, he, hown, hu⟩ => ?_
  obtain ⟨A, c, rfl, _, hrd, _⟩ := RdV.of_own hown
  exact ⟨A, c, he, hrd, hu⟩
theorem uRoom (p : Int) : Calls Try.prog 35 #[.pointer (some ⟨r, 0, none⟩), .int .i64 p] W fun e w' => e = .returned (.int .i64 (roomO S p)) ∧ Upd [] W w' := by
  obtain ⟨ot, og, h⟩ := h
  obtain ⟨A, cap, hx⟩ := h.rf
  exact rroom_any r og S A cap W hx p
theorem uGet (p k : Int) : Calls Try.prog 36 #[.pointer (some ⟨r, 0, none⟩), .int .i64 p, .int .i64 k] W fun e w' => e = .returned (.tuple #[.agg #[.int .u8 (getO S p k).k, .int .i64 (getO S p k).r, .int .i64 (getO S p k).p], .int .i64 (atE S p k)]) ∧ Upd [] W w' := by
  obtain ⟨ot, og, h⟩ := h
  obtain ⟨A, cap, hx⟩ := h.rf
  exact rget_any r og S A cap W hx h.g p k
theorem uSame (p a q b : Int) : Calls Try.prog 37 #[.pointer (some ⟨r, 0, none⟩), .int .i64 p, .int .i64 a, .int .i64 q, .int .i64 b] W fun e w' => e = .returned (.bool (samB S p a q b)) ∧ Upd [] W w' := by
  obtain ⟨ot, og, h⟩ := h
  obtain ⟨A, cap, hx⟩ := h.rf
  exact rsame_any r og S A cap W hx p a q b
end
theorem RdV.upd0 {w w' : World} {A : Option Addr} {cs : List Value} (h : RdV w A cs) (hu : Upd [] w w') : RdV w' A cs := h.upd hu (by simp)
theorem lisO_le (S : St) (p : Int) : (lisO S p).length ≤ 8 := by
  unfold lisO
  split
  · exact lisL_le S.fd p.toNat 8
  · simp

set_option maxRecDepth 100000 in
set_option maxHeartbeats 8000000 in
theorem same_any (w0 : World) (t r N : Nat) (X : List Nat) (S : St) (w : World) (h : BLive w0 t r X N S S w) :
    Calls Try.prog 23 #[.pointer (some ⟨t, 0, none⟩), .pointer (some ⟨r, 0, none⟩)] w (TruePost w) := by
  have H := Lib.hid h
  have hq := neq_open
  have hgd := guard_open
  clear h
  go_enter Try.func23, Try.ntmps23
  go_wp2_with fail
  go_loopw [5] (fun v wr => ∃ j : Nat, j ≤ 8 ∧ v = .int .i64 ((j : Int) - 1) ∧ Upd [] w wr) (fun v _ => (7 - intOf v).toNat)
  case atStart => exact ⟨0, by omega, by go_num, Upd.refl _ _⟩
  case round =>
    obtain ⟨j, hj, rfl, hu⟩ := hrel
    rename World => wo
    have HU := Lib.hid hu
    have HB := Lib.hid (H.out.upd0 hu)
    clear hu
    by_cases hlt : j ≤ 7
    · obtain ⟨p, hp⟩ : ∃ p : Int, p = (j : Int) - 1 := ⟨_, rfl⟩
      rw [← hp]
      have p6 : p ≤ 6 := by omega
      have pl : -1 ≤ p := by omega
      have HPJ := Lib.hid hp
      have HLE := Lib.hid (lisO_le S p)
      clear hp
      have hbr : (roomO S p == roomO S p) = true := by simp
      have hbr' : (roomO S p != roomO S p) = false := by simp
      go_wp2_with fail
      refine (tList HB.out p).mono ?_; rintro e w1 ⟨A1, c1, rfl, hr1, hu1⟩
      have HU1 := Lib.hid hu1
      have HR1 := Lib.hid hr1
      clear hu1 hr1
      go_wp2_with fail
      refine (uList (HB.out.upd0 HU1.out) p).mono ?_; rintro e w2 ⟨A2, c2, rfl, hr2, hu2⟩
      have HU2 := Lib.hid (HU1.out.trans' hu2)
      have HSI := Lib.hid (sameInts_any w2 A1 A2 (nums (lisO S p)) (nums (lisO S p)) c1 c2 (by rw [← ints_nums]; exact HR1.out.upd0 hu2) (by rw [← ints_nums]; exact hr2) (by rw [nums_length]; have := HLE.out; omega) (by rw [nums_length]; have := HLE.out; omega))
      rw [nums_length, decide_eq_true (show nums (lisO S p) = nums (lisO S p) from rfl)] at HSI
      clear hu2 hr2
      go_wp2_with fail
      refine HSI.out.mono ?_; rintro e w3 ⟨rfl, k3, rfl⟩
      have HU3 := Lib.hid (HU2.out.drewN k3)
      generalize w2.drewN k3 = w3 at *
      go_wp2_with fail
      refine (tRoom (HB.out.upd0 HU3.out) p).mono ?_; rintro e w4 ⟨rfl, hu4⟩
      have HU4 := Lib.hid (HU3.out.trans' hu4)
      clear hu4
      go_wp2_with fail
      refine (uRoom (HB.out.upd0 HU4.out) p).mono ?_; rintro e w5 ⟨rfl, hu5⟩
      have HU5 := Lib.hid (HU4.out.trans' hu5)
      clear hu5
      generalize roomO S p = rm at *
      go_wp2_with fail
      go_loopw [6] (fun v wr' => ∃ k : Nat, k ≤ 10 ∧ v = .int .i64 ((k : Int) - 1) ∧ Upd [] wo wr') (fun v _ => (9 - intOf v).toNat)
      case atStart => exact ⟨0, by omega, by go_num, HU5.out⟩
      case round =>
        obtain ⟨k, hk, rfl, huk⟩ := hrel
        have HUK := Lib.hid huk
        clear huk
        by_cases hltk : k ≤ 9
        · obtain ⟨n, hn⟩ : ∃ n : Int, n = (k : Int) - 1 := ⟨_, rfl⟩
          rw [← hn]
          have n8 : n ≤ 8 := by omega
          have nl : -1 ≤ n := by omega
          have HNK := Lib.hid hn
          clear hn
          have HG1 := Lib.hid (fun W (hW : BLive w0 t r X N S S W) => tGet hW p n)
          have HG2 := Lib.hid (fun W (hW : BLive w0 t r X N S S W) => uGet hW p n)
          have HS1 := Lib.hid (fun W (hW : BLive w0 t r X N S S W) => tSame hW p n 0 0)
          have HS2 := Lib.hid (fun W (hW : BLive w0 t r X N S S W) => uSame hW p n 0 0)
          have HS3 := Lib.hid (fun W (hW : BLive w0 t r X N S S W) => tSame hW 0 1 p n)
          have HS4 := Lib.hid (fun W (hW : BLive w0 t r X N S S W) => uSame hW 0 1 p n)
          generalize getO S p n = u at *
          generalize atE S p n = ev at *
          generalize samB S p n 0 0 = s1 at *
          generalize samB S 0 1 p n = s2 at *
          have hbe : (ev == ev) = true := by simp
          have hbe' : (ev != ev) = false := by simp
          have hb1 : (s1 != s1) = false := by simp
          have hb2 : (s2 != s2) = false := by simp
          go_wp2_with fail
          refine (HG1.out _ (HB.out.upd0 HUK.out)).mono ?_; rintro e v1 ⟨rfl, hv1⟩
          have HV1 : Hid (Upd [] wo (v1.alloc (.cells #[.int .u8 u.k, .int .i64 u.r, .int .i64 u.p] 30))) := Lib.hid ((HUK.out.trans' hv1).alloc _)
          have HK1 : Hid (Blk (v1.alloc (.cells #[.int .u8 u.k, .int .i64 u.r, .int .i64 u.p] 30)) v1.heap.size 30 #[.int .u8 u.k, .int .i64 u.r, .int .i64 u.p]) := Lib.hid (Blk.new v1 _ _)
          clear hv1
          go_wp2_with fail
          refine (HG2.out _ (HB.out.upd0 HV1.out)).mono ?_; rintro e v2 ⟨rfl, hv2⟩
          have HV2 := Lib.hid ((HV1.out.trans' hv2).alloc (.cells #[.int .u8 u.k, .int .i64 u.r, .int .i64 u.p] 30))
          have hk1 := (HK1.out.upd hv2 (by simp)).alloc (.cells #[.int .u8 u.k, .int .i64 u.r, .int .i64 u.p] 30)
          have a0 := hk1.cellAt (i := 0) (v := .int .u8 u.k) rfl
          have a1 := hk1.cellAt (i := 1) (v := .int .i64 u.r) rfl
          have a2 := hk1.cellAt (i := 2) (v := .int .i64 u.p) rfl
          clear hv2 hk1
          go_wp2_with fail
          refine (HS1.out _ (HB.out.upd0 HV2.out)).mono ?_; rintro e v3 ⟨rfl, hv3⟩
          have HV3 := Lib.hid (HV2.out.trans' hv3)
          clear hv3
          go_wp2_with fail
          refine (HS2.out _ (HB.out.upd0 HV3.out)).mono ?_; rintro e v4 ⟨rfl, hv4⟩
          have HV4 := Lib.hid (HV3.out.trans' hv4)
          clear hv4
          go_wp2_with fail
          refine (HS3.out _ (HB.out.upd0 HV4.out)).mono ?_; rintro e v5 ⟨rfl, hv5⟩
          have HV5 := Lib.hid (HV4.out.trans' hv5)
          clear hv5
          go_wp2_with fail
          refine (HS4.out _ (HB.out.upd0 HV5.out)).mono ?_; rintro e v6 ⟨rfl, hv6⟩
          have HV6 := Lib.hid (HV5.out.trans' hv6)
          clear hv6
          go_wp2_with fail
          go_roundw
          case rel => exact ⟨k + 1, by omega, by have := HNK.out; go_num, HV6.out⟩
          case measure => have := HNK.out; simp [intOf]; omega
        · obtain rfl : k = 10 := by omega
          have HUF := Lib.hid (HU.out.trans' HUK.out)
          go_wp2_with fail
          go_roundw
          case rel => exact ⟨j + 1, by omega, by have := HPJ.out; go_num, HUF.out⟩
          case measure => have := HPJ.out; simp [intOf]; omega
    · obtain rfl : j = 8 := by omega
      go_wp2_with fail
      go_ret
      exact ⟨by simp, HU.out⟩

end Go.Proofs.Ytedaffkdfniikaa
