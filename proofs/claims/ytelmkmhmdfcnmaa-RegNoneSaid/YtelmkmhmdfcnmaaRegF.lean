/- The reference's Bind, Unbind, Dirty. -/
import Derived.Test.YtelmkmhmdfcnmaaRegE
namespace Go.Proofs.Ytelmkmhmdfcnmaa
open Go.RowKit Go.Maps

section
variable (r : Nat) (S : St) (w : World) (h : RegR w r S) (hg : GoodS S)
include h hg

set_option maxHeartbeats 2000000 in
theorem rbind_any (n : Nat) (s : Int) (hs0 : -9223372036854775808 ≤ s) (hs1 : s ≤ 9223372036854775807) :
    Calls Try.prog 37 #[.pointer (some ⟨r, 0, none⟩), .int .u8 n, .int .i64 s] w (RRChg w r (.int .i64 (bindE S n s)) (bindS S n s)) := by
  have HM := Lib.hid (rmay_any r w n)
  have H := Lib.hid h
  by_cases h64 : 64 ≤ n
  · have hE : bindE S n s = 2 := by unfold bindE; simp [h64]
    have hS : bindS S n s = S := by unfold bindS; simp [hE]
    rw [hE, hS]
    rw [if_pos h64] at HM
    clear h hg h64 hE hS
    go_enter Try.func37, Try.ntmps37
    go_wp2_with fail
    refine HM.out.mono ?_; rintro e w' ⟨rfl, rfl⟩
    go_wp2_with fail
    go_ret
    exact ⟨by simp, H.out, Upd.refl _ _⟩
  · rw [if_neg h64] at HM
    by_cases hr : s < 0 ∨ 64 ≤ s
    · have hE : bindE S n s = 2 := by unfold bindE; rw [if_neg h64, if_pos hr]
      have hS : bindS S n s = S := by unfold bindS; simp [hE]
      rw [hE, hS]
      clear h hg h64 hE hS
      rcases hr with hr | hr
      · go_enter Try.func37, Try.ntmps37
        go_wp2_with fail
        refine HM.out.mono ?_; rintro e w' ⟨rfl, rfl⟩
        go_wp2_with fail
        go_ret
        exact ⟨by simp, H.out, Upd.refl _ _⟩
      · have hr0 : ¬ s < 0 := by omega
        go_enter Try.func37, Try.ntmps37
        go_wp2_with fail
        refine HM.out.mono ?_; rintro e w' ⟨rfl, rfl⟩
        go_wp2_with fail
        go_ret
        exact ⟨by simp, H.out, Upd.refl _ _⟩
    · have hr0 : ¬ s < 0 := by omega
      have hr1 : ¬ 64 ≤ s := by omega
      have HF := Lib.hid (rframe_any r S w h hg s hs0 hs1)
      have hc := h.cellS n (by omega)
      have hfz := h.frozen n
      have i0 : (0 : Int) ≤ (n : Int) := by omega
      have i1 : (n : Int) < 64 := by omega
      cases hf : S.fr s with
      | some i =>
        have hE : bindE S n s = 6 := by unfold bindE; rw [if_neg h64, if_neg hr]; simp [hf]
        have hS : bindS S n s = S := by unfold bindS; simp [hE]
        rw [hE, hS]
        rw [hf, Option.getD_some, Option.isSome_some] at HF
        clear h hg h64 hr hE hS hf
        go_enter Try.func37, Try.ntmps37
        go_wp2_with fail
        refine HM.out.mono ?_; rintro e w' ⟨rfl, rfl⟩
        go_wp2_with fail
        refine HF.out.mono ?_; rintro e w' ⟨rfl, rfl⟩
        go_wp2_with fail
        go_ret
        exact ⟨by simp, H.out, Upd.refl _ _⟩
      | none =>
        rw [hf, Option.isSome_none] at HF
        by_cases h0 : S.sec n = 0
        · have hE : bindE S n s = 0 := by unfold bindE; rw [if_neg h64, if_neg hr]; simp [hf, h0]
          have hS : bindS S n s = putS S n s.toNat false := by unfold bindS; simp [hE]
          rw [hE, hS]
          have HR := Lib.hid ((h.setS n (by omega) (s.toNat + 1)).congr (S' := putS S n s.toNat false) (fun i _ => rfl) (fun i _ => by simp [putS]))
          have hsn : ((s.toNat + 1 : Nat) : Int) = s + 1 := by omega
          rw [hsn] at HR
          rw [h0] at hc
          clear h hg h64 hr hE hS hf h0 hsn
          go_enter Try.func37, Try.ntmps37
          go_wp2_with fail
          refine HM.out.mono ?_; rintro e w' ⟨rfl, rfl⟩
          go_wp2_with fail
          refine HF.out.mono ?_; rintro e w' ⟨rfl, rfl⟩
          go_wp2_with fail
          go_ret
          exact ⟨by simp, HR.out, (Upd.refl _ _).setCell (.inl (by simp)) _⟩
        · have hE : bindE S n s = 6 := by unfold bindE; rw [if_neg h64, if_neg hr]; simp [h0]
          have hS : bindS S n s = S := by unfold bindS; simp [hE]
          rw [hE, hS]
          have hz : (((S.sec n : Nat) : Int) == 0) = false := by rw [beq_eq_false_iff_ne]; omega
          have hz' : (((S.sec n : Nat) : Int) != 0) = true := by rw [bne, hz]; rfl
          generalize S.sec n = t at *
          clear h hg h64 hr hE hS hf h0
          go_enter Try.func37, Try.ntmps37
          go_wp2_with fail
          refine HM.out.mono ?_; rintro e w' ⟨rfl, rfl⟩
          go_wp2_with fail
          refine HF.out.mono ?_; rintro e w' ⟨rfl, rfl⟩
          go_wp2_with fail
          go_ret
          exact ⟨by simp, H.out, Upd.refl _ _⟩

set_option maxHeartbeats 2000000 in
theorem runbind_any (n : Nat) :
    Calls Try.prog 38 #[.pointer (some ⟨r, 0, none⟩), .int .u8 n] w (RRChg w r (.tuple #[.int .i64 (unbV S n), .int .i64 (unbE S n)]) (unbS S n)) := by
  have HM := Lib.hid (rholds_any r S w h n)
  have H := Lib.hid h
  by_cases hm : mayE S n true = 0
  · obtain ⟨hn, h0⟩ := may_zero hm
    rw [hm] at HM
    have hcs := h.cellS n hn
    have hcw := h.cellW n hn
    have hfz := h.frozen n
    have i0 : (0 : Int) ≤ (n : Int) := by omega
    have i1 : (n : Int) < 64 := by omega
    cases hw : S.wr n with
    | true =>
      have hE : unbE S n = 8 := by unfold unbE; simp [hm, hw]
      have hV : unbV S n = 0 := by unfold unbV; simp [hE]
      have hS : unbS S n = S := by unfold unbS; simp [hE]
      rw [hV, hS, hE]
      rw [hw] at hcw
      clear hE hV hS h hg hm h0 hw
      go_enter Try.func38, Try.ntmps38
      go_wp2_with fail
      refine HM.out.mono ?_; rintro e w' ⟨rfl, rfl⟩
      go_wp2_with fail
      go_ret2
      exact ⟨by simp, H.out, Upd.refl _ _⟩
    | false =>
      have hE : unbE S n = 0 := by unfold unbE; simp [hm, hw]
      have hV : unbV S n = (S.sec n : Int) - 1 := by unfold unbV; simp [hE]
      have hS : unbS S n = cutS S n := by unfold unbS; simp [hE]
      rw [hV, hS, hE]
      rw [hw] at hcw
      have HR : Hid (RegR (w.setCell ⟨r, n, none⟩ (.int .i64 0)) r (cutS S n)) := Lib.hid ((h.setS n hn 0).congr (fun i _ => rfl) (fun i _ => by
        unfold cutS
        simp only
        by_cases hi : i = n
        · rw [if_pos hi, hi, hw]
        · rw [if_neg hi]))
      have hle := hg.le n
      generalize S.sec n = t at *
      clear hE hV hS h hg hm hw
      go_enter Try.func38, Try.ntmps38
      go_wp2_with fail
      refine HM.out.mono ?_; rintro e w' ⟨rfl, rfl⟩
      go_wp2_with fail
      go_ret2
      exact ⟨by simp, HR.out, (Upd.refl _ _).setCell (.inl (by simp)) _⟩
  · have hE : unbE S n = mayE S n true := by unfold unbE; simp [hm]
    have hV : unbV S n = 0 := by unfold unbV; simp [hE, hm]
    have hS : unbS S n = S := by unfold unbS; simp [hE, hm]
    rw [hV, hS, hE]
    clear hE hV hS
    have hb : (mayE S n true == 0) = false := by simp [hm]
    have hb' : (mayE S n true != 0) = true := by simp [hm]
    generalize mayE S n true = ev at *
    clear h hg hm
    go_enter Try.func38, Try.ntmps38
    go_wp2_with fail
    refine HM.out.mono ?_; rintro e w' ⟨rfl, rfl⟩
    go_wp2_with fail
    go_ret2
    exact ⟨by simp, H.out, Upd.refl _ _⟩

end

set_option maxHeartbeats 2000000 in
theorem rdirty_any (r : Nat) (S : St) (w : World) (h : RegR w r S) (n : Nat) (on : Bool) :
    Calls Try.prog 39 #[.pointer (some ⟨r, 0, none⟩), .int .u8 n, .bool on] w (RRChg w r (.int .i64 (mayE S n true)) (dirS S n on)) := by
  have HM := Lib.hid (rholds_any r S w h n)
  have H := Lib.hid h
  unfold dirS
  by_cases hm : mayE S n true = 0
  · obtain ⟨hn, h0⟩ := may_zero hm
    rw [if_pos hm]
    rw [hm] at HM ⊢
    have hcw := h.cellW n hn
    have hfz := h.frozen (64 + n)
    have i0 : (0 : Int) ≤ (n : Int) := by omega
    have i1 : (n : Int) < 64 := by omega
    have HR := Lib.hid (h.setW n hn on)
    clear h hm h0
    go_enter Try.func39, Try.ntmps39
    go_wp2_with fail
    refine HM.out.mono ?_; rintro e w' ⟨rfl, rfl⟩
    go_wp2_with fail
    go_ret
    exact ⟨by simp, HR.out, (Upd.refl _ _).setCell (.inl (by simp)) _⟩
  · rw [if_neg hm]
    have hb : (mayE S n true == 0) = false := by simp [hm]
    have hb' : (mayE S n true != 0) = true := by simp [hm]
    generalize mayE S n true = ev at *
    clear h hm
    go_enter Try.func39, Try.ntmps39
    go_wp2_with fail
    refine HM.out.mono ?_; rintro e w' ⟨rfl, rfl⟩
    go_wp2_with fail
    go_ret
    exact ⟨by simp, H.out, Upd.refl _ _⟩

end Go.Proofs.Ytelmkmhmdfcnmaa
