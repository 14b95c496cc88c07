/- The reference's List, Room, Same, New. -/
import Derived.Test.YtedaffkdfniikaaFdsS
namespace Go.Proofs.Ytedaffkdfniikaa
open Go.RowKit Go.Shelf

section
variable (r : Nat) (own : List Nat) (S : St) (A : Option Addr) (cap : Nat) (w : World) (h : RX w r own S A cap)
include h

set_option maxRecDepth 100000 in
set_option maxHeartbeats 2000000 in
theorem rlist_any (p : Int) :
    Calls Try.prog 34 #[.pointer (some ⟨r, 0, none⟩), .int .i64 p] w fun e w' =>
      ∃ v, e = .returned v ∧ w'.ownsRow w.heap.size 3 1 v (lisO S p).length (ints (lisO S p)) ∧ Upd [] w w' := by
  have HF := Lib.hid (fun W (hW : RX W r own S A cap) => rmay_any r own S A cap W hW p)
  have H := Lib.hid h
  by_cases he : ofE S p = 0
  · obtain ⟨p0, p1, hh⟩ := ofE_ok he
    rw [he] at HF
    have HO := Lib.hid (show lisO S p = lisL S.fd p.toNat 8 by unfold lisO; rw [if_pos he])
    obtain ⟨i, hi⟩ : ∃ i, i = p.toNat := ⟨_, rfl⟩
    have hpi : p = (i : Int) := by omega
    subst hpi
    rw [← hi] at HO hh
    have i6 : i < 6 := by omega
    have HC := Lib.hid (fun W (hW : RX W r own S A cap) k (hk : k < 8) => hW.cellF i6 hk)
    have HLE := Lib.hid (lisL_le S.fd i)
    have i0 : (0 : Int) ≤ (i : Int) := by omega
    have i1 : (i : Int) < 6 := by omega
    clear h he hh hi
    go_enter Try.func34, Try.ntmps34
    go_wp2_with fail
    go_loopw [5, 6] (fun vo v wr => ∃ j : Nat, j ≤ 8 ∧ v = .int .i64 (j : Int) ∧ wr.ownsRow w.heap.size 3 1 vo (lisL S.fd i j).length (ints (lisL S.fd i j)) ∧ Upd [] w wr) (fun _ v _ => 8 - (intOf v).toNat)
    case atStart => exact ⟨0, by omega, rfl, by simpa [lisL, ints] using World.ownsRow_nil w w.heap.size 3 1, Upd.refl _ _⟩
    case round =>
      obtain ⟨j, hj, rfl, hown, hu⟩ := hrel
      have HOW := Lib.hid hown
      have HU := Lib.hid hu
      have HR := Lib.hid (H.out.upd0 hu)
      by_cases hlt : j < 8
      · have j0 : (0 : Int) ≤ (j : Int) := by omega
        have j1 : (j : Int) < 8 := by omega
        have hc := HC.out wr HR.out j hlt
        by_cases h0 : S.fd i j = 0
        · have HZ := Lib.hid (show lisL S.fd i (j + 1) = lisL S.fd i j by conv => lhs; unfold lisL; rw [if_pos h0])
          rw [h0] at hc
          clear hown hu h0
          go_wp2_with fail
          refine (HF.out _ HR.out).mono ?_; rintro e w' ⟨rfl, rfl⟩
          go_wp2_with fail
          go_roundw
          case rel => exact ⟨j + 1, by omega, by go_num, by rw [HZ.out]; exact HOW.out, HU.out⟩
          case measure => simp [intOf]; omega
        · have HZ := Lib.hid (show lisL S.fd i (j + 1) = lisL S.fd i j ++ [j] by conv => lhs; unfold lisL; rw [if_neg h0])
          have hz0 : (((S.fd i j : Nat) : Int) == 0) = false := by rw [beq_eq_false_iff_ne]; omega
          have hz1 : (((S.fd i j : Nat) : Int) != 0) = true := by rw [bne, hz0]; rfl
          obtain ⟨ii, hi, hz, hsi, hb⟩ := info_parts info_int
          have HI := Lib.hid hi
          generalize ((S.fd i j : Nat) : Int) = z at *
          have hsz := HU.out.size
          clear hown hu h0 hi
          go_wp2_with fail
          refine (HF.out _ HR.out).mono ?_; rintro e w2 ⟨rfl, rfl⟩
          go_wp2_with (at_builtin; refine wpList_append_own_at _ rfl _ _ 52 rfl w.heap.size 3 ii (.int .i64 0) 1 8 under_ints HI.out hz hsi hb rfl (by decide) _ _ _ rfl (HOW.out.alloc _) ⟨w2.heap.size, 0, none⟩ 1 1 [.int .i64 (j : Int)] rfl rfl (cell_one_new _ _ _) (by simp [Value.oneCell']) (by have := HLE.out j; unfold maxLen; omega) (by have := HLE.out j; omega) (by simp; omega) ?_; intro v' w3 hown' hgrow hnil hat)
          have HF3 := Lib.hid (show w3.ownsRow w.heap.size 3 1 v' (lisL S.fd i (j + 1)).length (ints (lisL S.fd i (j + 1))) by
            rw [HZ.out]
            simpa [ints] using hown')
          have HU3 := Lib.hid (((HU.out.alloc _).grown hgrow (S := []) (fun j hj => .inr (HOW.out.lt j hj).1)) : Upd [] w w3)
          clear hown' hgrow hnil hat
          go_wp2_with fail
          go_roundw
          case rel => exact ⟨j + 1, by omega, by go_num, HF3.out, HU3.out⟩
          case measure => simp [intOf]; omega
      · obtain rfl : j = 8 := by omega
        clear hown hu
        go_wp2_with fail
        refine (HF.out _ HR.out).mono ?_; rintro e w2 ⟨rfl, rfl⟩
        go_wp2_with fail
        go_ret
        exact ⟨_, rfl, by rw [HO.out]; exact HOW.out, HU.out⟩
  · have hO := ofE_no he
    have HO := Lib.hid (show lisO S p = [] by unfold lisO; rw [if_neg he])
    rw [hO] at HF
    clear h he hO
    go_enter Try.func34, Try.ntmps34
    go_wp2_with fail
    go_loopw [5, 6] (fun vo v wr => vo = .slice none 0 0 ∧ v = .int .i64 0 ∧ wr = w) (fun _ _ _ => 0)
    case atStart => exact ⟨rfl, rfl, rfl⟩
    case round =>
      obtain ⟨rfl, rfl, rfl⟩ := hrel
      go_wp2_with fail
      refine (HF.out _ H.out).mono ?_; rintro e w' ⟨rfl, rfl⟩
      go_wp2_with fail
      go_ret
      exact ⟨_, rfl, by rw [HO.out]; simpa [ints] using World.ownsRow_nil w' w'.heap.size 3 1, Upd.refl _ _⟩

set_option maxHeartbeats 1000000 in
theorem rroom_any (p : Int) :
    Calls Try.prog 35 #[.pointer (some ⟨r, 0, none⟩), .int .i64 p] w fun e w' => e = .returned (.int .i64 (roomO S p)) ∧ Upd [] w w' := by
  have HF := Lib.hid (rmay_any r own S A cap w h p)
  by_cases he : ofE S p = 0
  · have HL := Lib.hid (rlist_any r own S A cap w h p)
    have HO := Lib.hid (show roomO S p = 8 - ((lisO S p).length : Int) by unfold roomO lisO; rw [if_pos he, if_pos he])
    have hle := lisL_le S.fd p.toNat 8
    have e1 : lisO S p = lisL S.fd p.toNat 8 := by unfold lisO; rw [if_pos he]
    rw [← e1] at hle
    rw [he] at HF
    generalize lisO S p = l at *
    have HLE := Lib.hid hle
    clear h he e1 hle
    go_enter Try.func35, Try.ntmps35
    go_wp2_with fail
    refine HF.out.mono ?_; rintro e w' ⟨rfl, rfl⟩
    go_wp2_with fail
    refine HL.out.mono ?_; rintro e w1 ⟨v, rfl, hown, hu⟩
    rw [ints_nums] at hown
    obtain ⟨A2, c, rfl, _, _, _⟩ := RdV.of_own hown
    have HU := Lib.hid hu
    have hle := HLE.out
    have i0 : (0 : Int) ≤ (l.length : Int) := by omega
    have i1 : (l.length : Int) ≤ 8 := by omega
    clear hown hu
    go_wp2_with fail
    go_ret
    exact ⟨by rw [HO.out]; simp, HU.out⟩
  · have hO := ofE_no he
    have HO := Lib.hid (show roomO S p = 0 by unfold roomO; rw [if_neg he])
    rw [hO] at HF
    clear h he hO
    go_enter Try.func35, Try.ntmps35
    go_wp2_with fail
    refine HF.out.mono ?_; rintro e w' ⟨rfl, rfl⟩
    go_wp2_with fail
    go_ret
    exact ⟨by rw [HO.out]; simp, Upd.refl _ _⟩

set_option maxRecDepth 100000 in
set_option maxHeartbeats 2000000 in
theorem rsame_any (p a q b : Int) :
    Calls Try.prog 37 #[.pointer (some ⟨r, 0, none⟩), .int .i64 p, .int .i64 a, .int .i64 q, .int .i64 b] w fun e w' => e = .returned (.bool (samB S p a q b)) ∧ Upd [] w w' := by
  have HA := Lib.hid (fun n p a => rat_any r own S A cap _ (h.upd0 ((Upd.refl [] w).drewN n)) p a)
  by_cases h1 : atE S p a = 0
  · by_cases h2 : atE S q b = 0
    · obtain ⟨⟨p0, p1, _⟩, a0, a1, _⟩ := atE_ok h1
      obtain ⟨⟨q0, q1, _⟩, b0, b1, _⟩ := atE_ok h2
      obtain ⟨i, hi⟩ : ∃ i, i = p.toNat := ⟨_, rfl⟩
      have hpi : p = (i : Int) := by omega
      subst hpi
      obtain ⟨j, hj⟩ : ∃ j, j = q.toNat := ⟨_, rfl⟩
      have hqj : q = (j : Int) := by omega
      subst hqj
      obtain ⟨k, hk⟩ : ∃ k, k = a.toNat := ⟨_, rfl⟩
      have hak : a = (k : Int) := by omega
      subst hak
      obtain ⟨l, hl⟩ : ∃ l, l = b.toNat := ⟨_, rfl⟩
      have hbl : b = (l : Int) := by omega
      subst hbl
      have HS := Lib.hid (show samB S (i : Int) (k : Int) (j : Int) (l : Int) = (((S.fd i k : Nat) : Int) == ((S.fd j l : Nat) : Int)) by
        unfold samB
        rw [Bool.eq_iff_iff, decide_eq_true_eq, beq_iff_eq]
        simp only [h1, h2, true_and, Int.toNat_natCast]
        omega)
      have c1 := h.cellF (i := i) (k := k) (by omega) (by omega)
      have c2 := h.cellF (i := j) (k := l) (by omega) (by omega)
      have hb1 : (atE S (i : Int) (k : Int) == 0) = true := by simp [h1]
      have hb2 : (atE S (j : Int) (l : Int) == 0) = true := by simp [h2]
      generalize ((S.fd i k : Nat) : Int) = u at *
      generalize ((S.fd j l : Nat) : Int) = v at *
      generalize samB S (i : Int) (k : Int) (j : Int) (l : Int) = sB at *
      clear h h1 h2 hi hj hk hl
      go_enter Try.func37, Try.ntmps37
      go_wp2_with fail
      go_quiet ((go_at_call 49; exact Calls.quiet_of_same ((HA.out _ _ _).mono fun e w' ⟨h1, h2⟩ => ⟨h1, h2⟩)))
      rename_i nq
      go_wp2_with fail
      go_ret
      exact ⟨by rw [HS.out]; rfl, (Upd.refl [] w).drewN nq⟩
    · have HS := Lib.hid (show samB S p a q b = false by unfold samB; simp [h2])
      have hb1 : (atE S p a == 0) = true := by simp [h1]
      have hb : (atE S q b == 0) = false := by simp [h2]
      generalize samB S p a q b = sB at *
      clear h h1 h2
      go_enter Try.func37, Try.ntmps37
      go_wp2_with fail
      go_quiet ((go_at_call 49; exact Calls.quiet_of_same ((HA.out _ _ _).mono fun e w' ⟨h1, h2⟩ => ⟨h1, h2⟩)))
      rename_i nq
      go_wp2_with fail
      go_ret
      exact ⟨by rw [HS.out]; rfl, (Upd.refl [] w).drewN nq⟩
  · have HS := Lib.hid (show samB S p a q b = false by unfold samB; simp [h1])
    have hb : (atE S p a == 0) = false := by simp [h1]
    generalize samB S p a q b = sB at *
    clear h h1
    go_enter Try.func37, Try.ntmps37
    go_wp2_with fail
    go_quiet ((go_at_call 49; exact Calls.quiet_of_same ((HA.out _ _ _).mono fun e w' ⟨h1, h2⟩ => ⟨h1, h2⟩)))
    rename_i nq
    go_wp2_with fail
    go_ret
    exact ⟨by rw [HS.out]; rfl, (Upd.refl [] w).drewN nq⟩
end

theorem rnew_any (w : World) :
    Calls Try.prog 32 #[] w fun e w' => e = .returned (.pointer (some ⟨w.heap.size, 0, none⟩)) ∧ RX w' w.heap.size [w.heap.size] newS none 0 ∧ Upd [] w w' := by
  go_enter Try.func32, Try.ntmps32
  go_wp2_with fail
  go_ret
  exact ⟨by simp, ⟨Blk.new w RefT _, .inl ⟨rfl, rfl, rfl⟩, rfl⟩, (Upd.refl [] w).alloc _⟩

end Go.Proofs.Ytedaffkdfniikaa
