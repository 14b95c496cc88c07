/- The reference's Fork and Move. -/
import Derived.Test.YtedaffkdfniikaaFdsQ
namespace Go.Proofs.Ytedaffkdfniikaa
open Go.RowKit Go.Shelf

theorem RX.frk1H {w : World} {r : Nat} {own : List Nat} {S : St} {A : Option Addr} {cap i j k : Nat} (h : RX w r own (Go.Proofs.Ytedaffkdfniikaa.setH (frkL S i j k) j true) A cap) (hj : j < 6) (hk : k < 8) :
    RX (w.setCell ⟨r, 6 + j * 8 + k, none⟩ (.int .i64 (S.fd i k : Int))) r own (Go.Proofs.Ytedaffkdfniikaa.setH (frkL S i j (k + 1)) j true) A cap := by
  rw [frkL_succ]
  exact h.setF hj hk _

set_option maxRecDepth 100000 in
set_option maxHeartbeats 4000000 in
theorem rfork_any (r : Nat) (own : List Nat) (S : St) (A : Option Addr) (cap : Nat) (w : World) (h : RX w r own S A cap) (p q : Int) :
    Calls Try.prog 42 #[.pointer (some ⟨r, 0, none⟩), .int .i64 p, .int .i64 q] w (RChg w r own (.int .i64 (frkE S p q)) (frkS S p q)) := by
  have HF := Lib.hid (rmay_any r own S A cap w h p)
  have HR := Lib.hid (rfresh_any r own S A cap w h q)
  have H := Lib.hid h
  by_cases he : ofE S p = 0
  · obtain ⟨p0, p1, hh⟩ := ofE_ok he
    have hEq : frkE S p q = frE S q := by unfold frkE; rw [if_pos he]
    by_cases hf : frE S q = 0
    · rw [hf] at HR hEq
      obtain ⟨q0, q1, hq⟩ := frE_ok hf
      have HS := Lib.hid (show frkS S p q = setH (frkL S p.toNat q.toNat 8) q.toNat true by unfold frkS; rw [if_pos hEq])
      have HEQ := Lib.hid hEq
      rw [he] at HF
      obtain ⟨i, hi⟩ : ∃ i, i = p.toNat := ⟨_, rfl⟩
      have hpi : p = (i : Int) := by omega
      subst hpi
      obtain ⟨j, hj0⟩ : ∃ j, j = q.toNat := ⟨_, rfl⟩
      have hqj : q = (j : Int) := by omega
      subst hqj
      simp only [Int.toNat_natCast] at HS
      have hi6 : i < 6 := by omega
      have hj : j < 6 := by omega
      have i0 : (0 : Int) ≤ (i : Int) := by omega
      have i1 : (i : Int) < 6 := by omega
      have b0 := h.cellH hj
      have g0 := h.frz j
      have c0 := h.cellF (i := i) (k := 0) (by omega) (by omega)
      have e0 := h.cellF (i := j) (k := 0) (by omega) (by omega)
      have f0 := h.frz (6 + j * 8 + 0)
      have c1 := h.cellF (i := i) (k := 1) (by omega) (by omega)
      have e1 := h.cellF (i := j) (k := 1) (by omega) (by omega)
      have f1 := h.frz (6 + j * 8 + 1)
      have c2 := h.cellF (i := i) (k := 2) (by omega) (by omega)
      have e2 := h.cellF (i := j) (k := 2) (by omega) (by omega)
      have f2 := h.frz (6 + j * 8 + 2)
      have c3 := h.cellF (i := i) (k := 3) (by omega) (by omega)
      have e3 := h.cellF (i := j) (k := 3) (by omega) (by omega)
      have f3 := h.frz (6 + j * 8 + 3)
      have c4 := h.cellF (i := i) (k := 4) (by omega) (by omega)
      have e4 := h.cellF (i := j) (k := 4) (by omega) (by omega)
      have f4 := h.frz (6 + j * 8 + 4)
      have c5 := h.cellF (i := i) (k := 5) (by omega) (by omega)
      have e5 := h.cellF (i := j) (k := 5) (by omega) (by omega)
      have f5 := h.frz (6 + j * 8 + 5)
      have c6 := h.cellF (i := i) (k := 6) (by omega) (by omega)
      have e6 := h.cellF (i := j) (k := 6) (by omega) (by omega)
      have f6 := h.frz (6 + j * 8 + 6)
      have c7 := h.cellF (i := i) (k := 7) (by omega) (by omega)
      have e7 := h.cellF (i := j) (k := 7) (by omega) (by omega)
      have f7 := h.frz (6 + j * 8 + 7)
      rw [Nat.add_zero] at c0 e0 f0
      have hd := h
      have y0 : RX (w.setCell ⟨r, j, none⟩ (.bool true)) r own (setH (frkL S i j 0) j true) A cap := hd.setH hj true
      have y1 := y0.frk1H hj (k := 0) (by omega)
      rw [Nat.add_zero] at y1
      have y2 := y1.frk1H hj (k := 1) (by omega)
      have y3 := y2.frk1H hj (k := 2) (by omega)
      have y4 := y3.frk1H hj (k := 3) (by omega)
      have y5 := y4.frk1H hj (k := 4) (by omega)
      have y6 := y5.frk1H hj (k := 5) (by omega)
      have y7 := y6.frk1H hj (k := 6) (by omega)
      have y8 := y7.frk1H hj (k := 7) (by omega)
      have HX0 := Lib.hid y8
      have HU0 := Lib.hid (((((((((((Upd.refl [r] w).setCell (.inl (by simp)) _).setCell (.inl (by simp)) _).setCell (.inl (by simp)) _).setCell (.inl (by simp)) _).setCell (.inl (by simp)) _).setCell (.inl (by simp)) _).setCell (.inl (by simp)) _).setCell (.inl (by simp)) _).setCell (.inl (by simp)) _) : Upd [r] w (((((((((w.setCell ⟨r, j, none⟩ (.bool true)).setCell ⟨r, 6 + j * 8, none⟩ (.int .i64 (S.fd i 0 : Int))).setCell ⟨r, 6 + j * 8 + 1, none⟩ (.int .i64 (S.fd i 1 : Int))).setCell ⟨r, 6 + j * 8 + 2, none⟩ (.int .i64 (S.fd i 2 : Int))).setCell ⟨r, 6 + j * 8 + 3, none⟩ (.int .i64 (S.fd i 3 : Int))).setCell ⟨r, 6 + j * 8 + 4, none⟩ (.int .i64 (S.fd i 4 : Int))).setCell ⟨r, 6 + j * 8 + 5, none⟩ (.int .i64 (S.fd i 5 : Int))).setCell ⟨r, 6 + j * 8 + 6, none⟩ (.int .i64 (S.fd i 6 : Int))).setCell ⟨r, 6 + j * 8 + 7, none⟩ (.int .i64 (S.fd i 7 : Int))))
      clear hd y0 y1 y2 y3 y4 y5 y6 y7 y8
      generalize S.has j = bj at *
      clear h he hh hf hq hEq hi hj0
      go_enter Try.func42, Try.ntmps42
      go_wp2_with fail
      refine HF.out.mono ?_; rintro e w' ⟨rfl, rfl⟩
      go_wp2_with fail
      refine HR.out.mono ?_; rintro e w' ⟨rfl, rfl⟩
      go_wp2_with fail
      go_region
      all_goals go_wp2_with fail
      all_goals go_ret
      all_goals
        rw [HEQ.out, HS.out]
        simp
        exact RChg.of (HX0.out.upd0 ((Upd.refl [] _).drew)) HU0.out.drew
    · have HEQ := Lib.hid hEq
      have HS := Lib.hid (show frkS S p q = S by unfold frkS; rw [hEq, if_neg hf])
      have hb : (frE S q == 0) = false := by simp [hf]
      have hb' : (frE S q != 0) = true := by simp [hf]
      rw [he] at HF
      generalize frE S q = ev at *
      clear h he hf hh hEq
      go_enter Try.func42, Try.ntmps42
      go_wp2_with fail
      refine HF.out.mono ?_; rintro e w' ⟨rfl, rfl⟩
      go_wp2_with fail
      refine HR.out.mono ?_; rintro e w' ⟨rfl, rfl⟩
      go_wp2_with fail
      go_ret
      simp
      rw [HEQ.out, HS.out]
      exact RChg.same H.out (Upd.refl _ _)
  · have hO := ofE_no he
    have HEQ := Lib.hid (show frkE S p q = 5 by unfold frkE; rw [if_neg he])
    have HS := Lib.hid (show frkS S p q = S by unfold frkS frkE; rw [if_neg he, if_neg (by decide)])
    rw [hO] at HF
    clear h he hO
    go_enter Try.func42, Try.ntmps42
    go_wp2_with fail
    refine HF.out.mono ?_; rintro e w' ⟨rfl, rfl⟩
    go_wp2_with fail
    go_ret
    simp
    rw [HEQ.out, HS.out]
    exact RChg.same H.out (Upd.refl _ _)

end Go.Proofs.Ytedaffkdfniikaa
