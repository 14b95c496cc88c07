/- The walk of the statement on what is written. -/
import Derived.Test.YtelmkmhmdfcnmaaRegOpen
namespace Go.Proofs.Ytelmkmhmdfcnmaa
open Go.RowKit Go.Maps

theorem may_two {S : St} {n : Nat} (h : mayE S n true ≠ 0) : mayE S n true = 2 ∨ mayE S n true = 5 := by
  unfold mayE at h ⊢
  split
  · exact .inl rfl
  · rename_i h1
    rw [if_neg h1] at h
    split
    · exact .inr rfl
    · rename_i h2
      rw [if_neg h2] at h
      exact absurd rfl h
theorem may_wr {S : St} (hg : GoodS S) {n : Nat} (h : mayE S n true ≠ 0) : S.wr n = false := by
  cases hq : S.wr n with
  | false => rfl
  | true =>
    exfalso
    apply h
    have h0 := hg.wr n hq
    have hn : n < 64 := by
      rcases Nat.lt_or_ge n 64 with hlt | hge
      · exact hlt
      · exact absurd (hg.big n hge).1 h0
    unfold mayE
    rw [if_neg (by omega), if_neg (fun hh => h0 hh.2)]
theorem unb_dirty {S : St} {n : Nat} (h : mayE S n true = 0) : unbE (dirS S n false) n = 0 ∧ unbV (dirS S n false) n = (S.sec n : Int) - 1 := by
  have hd : dirS S n false = ⟨S.sec, S.fr, fun i => if i = n then false else S.wr i⟩ := by unfold dirS; rw [if_pos h]
  have hm : mayE (dirS S n false) n true = 0 := by rw [hd]; exact h
  have hE : unbE (dirS S n false) n = 0 := by
    unfold unbE
    rw [if_neg (fun hh => hh hm), hd]
    simp
  refine ⟨hE, ?_⟩
  unfold unbV
  rw [if_pos hE, hd]
theorem bind_cut {S : St} (hg : GoodS S) {n : Nat} (h : mayE S n true = 0) : bindE (cutS S n) n ((S.sec n : Int) - 1) = 0 := by
  obtain ⟨hn, h0⟩ := may_zero h
  have hle := hg.le n
  unfold bindE
  rw [if_neg (by omega), if_neg (by omega), if_neg]
  unfold cutS
  simp
theorem bind_cut_wr {S : St} (hg : GoodS S) {n : Nat} (h : mayE S n true = 0) : (bindS (cutS S n) n ((S.sec n : Int) - 1)).wr n = false := by
  unfold bindS
  rw [if_pos (bind_cut hg h)]
  unfold putS cutS
  simp

set_option maxRecDepth 100000 in
set_option maxHeartbeats 4000000 in
theorem keeps_any (A : Option Addr) (len cap : Nat) (n : Nat) (w : World) (hd : Deeds w A len) (hlen : len ≤ 9223372036854775807) (hn : n < 256) :
    Calls Try.prog 3 #[.slice A len cap, .int .u8 n] w (TruePost w) := by
  have HD := Lib.hid hd
  clear hd
  go_enter Try.func3, Try.ntmps3
  go_wp2_with fail
  refine (play_any A len cap _ HD.out hlen).mono ?_; rintro e w1 ⟨c, b1, b2, b3, r, S, rfl, hb, hu, k1, k2, k3⟩
  have HB := Lib.hid hb
  have HU := Lib.hid hu
  clear hb hu
  go_wp2_with fail
  refine (live_any _).mono ?_; rintro e w2 ⟨rfl, hu2⟩
  have hb2 := HB.out.upd0 hu2
  have HR := Lib.hid hb2.reg
  have hg := hb2.good
  have HU2 := Lib.hid (HU.out.trans0 hu2)
  have HSEC := Lib.hid (sector_any c b1 b2 b3 S w2 hb2.reg n hn)
  clear hu2 hb2 HB
  by_cases hm : mayE S n true = 0
  · rw [if_pos hm, show decide (mayE S n true = 0) = true from by simp [hm]] at HSEC
    obtain ⟨hn64, h0⟩ := may_zero hm
    have hle := hg.le n
    have HW := Lib.hid (written_any c b1 b2 b3 S w2 HR.out n hn)
    have HUN := Lib.hid (unbind_any c b1 b2 b3 S w2 HR.out n hn hg.le)
    cases hw : S.wr n with
    | true =>
      have hE : unbE S n = 8 := by unfold unbE; simp [hm, hw]
      have hV : unbV S n = 0 := by unfold unbV; simp [hE]
      have hS : unbS S n = S := by unfold unbS; simp [hE]
      rw [hE, hV, hS] at HUN
      rw [hw] at HW
      have HDI := Lib.hid (fun W hW => dirty_any c b1 b2 b3 S W hW n hn false)
      rw [hm] at HDI
      obtain ⟨q1, q2⟩ := unb_dirty hm
      have HUX := Lib.hid (fun W hW => unbind_any c b1 b2 b3 (dirS S n false) W hW n hn (good_dir hg n false).le)
      rw [q1, q2] at HUX
      generalize ((S.sec n : Int) - 1) = v at *
      have hbv : (v == v) = true := by simp
      clear hE hV hS hw hm h0 hle hg q1 q2
      go_wp2_with fail
      refine HSEC.out.mono ?_; rintro e w' ⟨rfl, rfl⟩
      go_wp2_with fail
      refine HW.out.mono ?_; rintro e w' ⟨rfl, rfl⟩
      go_wp2_with fail
      refine HUN.out.mono ?_; rintro e w3 ⟨rfl, h3, hu3⟩
      have R3 := Lib.hid h3
      have HU3 := Lib.hid (HU2.out.trans hu3 (by intro s hs; right; simp at hs; omega))
      clear h3 hu3
      go_wp2_with fail
      refine (HDI.out _ R3.out).mono ?_; rintro e w4 ⟨rfl, h4, hu4⟩
      have R4 := Lib.hid h4
      have HU4 := Lib.hid (HU3.out.trans hu4 (by intro s hs; right; simp at hs; omega))
      clear h4 hu4
      go_wp2_with fail
      refine (HUX.out _ R4.out).mono ?_; rintro e w5 ⟨rfl, h5, hu5⟩
      have HU5 := Lib.hid (HU4.out.trans hu5 (by intro s hs; right; simp at hs; omega))
      clear h5 hu5
      go_wp2_with fail
      go_ret
      exact ⟨by simp, HU5.out⟩
    | false =>
      have hE : unbE S n = 0 := by unfold unbE; simp [hm, hw]
      have hV : unbV S n = (S.sec n : Int) - 1 := by unfold unbV; simp [hE]
      have hS : unbS S n = cutS S n := by unfold unbS; simp [hE]
      rw [hE, hV, hS] at HUN
      rw [hw] at HW
      have HBI := Lib.hid (fun W hW => bind_any c b1 b2 b3 (cutS S n) W hW n hn ((S.sec n : Int) - 1) (by omega) (by omega))
      rw [bind_cut hg hm] at HBI
      have HWX := Lib.hid (fun W hW => written_any c b1 b2 b3 (bindS (cutS S n) n ((S.sec n : Int) - 1)) W hW n hn)
      rw [bind_cut_wr hg hm] at HWX
      generalize bindS (cutS S n) n ((S.sec n : Int) - 1) = S' at *
      generalize ((S.sec n : Int) - 1) = v at *
      clear hE hV hS hw hm h0 hle hg
      go_wp2_with fail
      refine HSEC.out.mono ?_; rintro e w' ⟨rfl, rfl⟩
      go_wp2_with fail
      refine HW.out.mono ?_; rintro e w' ⟨rfl, rfl⟩
      go_wp2_with fail
      refine HUN.out.mono ?_; rintro e w3 ⟨rfl, h3, hu3⟩
      have R3 := Lib.hid h3
      have HU3 := Lib.hid (HU2.out.trans hu3 (by intro s hs; right; simp at hs; omega))
      clear h3 hu3
      go_wp2_with fail
      refine (HBI.out _ R3.out).mono ?_; rintro e w4 ⟨rfl, h4, hu4⟩
      have R4 := Lib.hid h4
      have HU4 := Lib.hid (HU3.out.trans hu4 (by intro s hs; right; simp at hs; omega))
      clear h4 hu4
      go_wp2_with fail
      refine (HWX.out _ R4.out).mono ?_; rintro e w' ⟨rfl, rfl⟩
      go_wp2_with fail
      go_ret
      exact ⟨by simp, HU4.out⟩
  · rw [if_neg hm, show decide (mayE S n true = 0) = false from by simp [hm]] at HSEC
    have HUN := Lib.hid (unbind_any c b1 b2 b3 S w2 HR.out n hn hg.le)
    have hE : unbE S n = mayE S n true := by unfold unbE; simp [hm]
    have hV : unbV S n = 0 := by unfold unbV; simp [hE, hm]
    have hS : unbS S n = S := by unfold unbS; simp [hE, hm]
    rw [hE, hV, hS] at HUN
    have HDI := Lib.hid (fun W hW => dirty_any c b1 b2 b3 S W hW n hn true)
    have hdi : dirS S n true = S := by unfold dirS; rw [if_neg hm]
    rw [hdi] at HDI
    have HW := Lib.hid (fun W hW => written_any c b1 b2 b3 S W hW n hn)
    rw [may_wr hg hm] at HW
    have h25 := may_two hm
    clear hE hV hS hdi hg
    rcases h25 with h25 | h25
    all_goals
      rw [h25] at HUN HDI
      clear hm h25
      go_wp2_with fail
      refine HSEC.out.mono ?_; rintro e w' ⟨rfl, rfl⟩
      go_wp2_with fail
      refine HUN.out.mono ?_; rintro e w3 ⟨rfl, h3, hu3⟩
      have R3 := Lib.hid h3
      have HU3 := Lib.hid (HU2.out.trans hu3 (by intro s hs; right; simp at hs; omega))
      clear h3 hu3
      go_wp2_with fail
      refine (HDI.out _ R3.out).mono ?_; rintro e w4 ⟨rfl, h4, hu4⟩
      have R4 := Lib.hid h4
      have HU4 := Lib.hid (HU3.out.trans hu4 (by intro s hs; right; simp at hs; omega))
      clear h4 hu4
      go_wp2_with fail
      refine (HW.out _ R4.out).mono ?_; rintro e w' ⟨rfl, rfl⟩
      go_wp2_with fail
      go_ret
      exact ⟨by simp, HU4.out⟩

end Go.Proofs.Ytelmkmhmdfcnmaa
