/- The reference's Move and Clear. -/
import Derived.Test.YtelmkmhmdfcnmaaRegF
import Derived.BigRegion
namespace Go.Proofs.Ytelmkmhmdfcnmaa
open Go.RowKit Go.Maps

theorem movS_ok {S : St} {a b : Nat} (hE : movE S a b = 0) : a < 64 ∧ b < 64 ∧ S.sec a ≠ 0 ∧ S.sec b = 0 ∧ movS S a b = putS (cutS S a) b (S.sec a - 1) (S.wr a) := by
  have hS : movS S a b = putS (cutS S a) b (S.sec a - 1) (S.wr a) := by unfold movS; simp [hE]
  unfold movE at hE
  split at hE
  · rename_i h; exact absurd hE h
  · split at hE
    · rename_i h; exact absurd hE h
    · rename_i h2
      split at hE
      · rename_i h; exact absurd hE h
      · rename_i h3
        split at hE
        · cases hE
        · rename_i h4
          obtain ⟨h5, h6⟩ := may_zero (Decidable.not_not.1 h3)
          refine ⟨h5, ?_, h6, Decidable.not_not.1 h4, hS⟩
          rcases Nat.lt_or_ge b 64 with hlt | hge
          · exact hlt
          · exfalso
            apply h2
            unfold mayE
            rw [if_pos hge]
            decide
theorem RegR.drew {w : World} {r : Nat} {S : St} (h : RegR w r S) : RegR w.drew r S := h
theorem may_false (S : St) (n : Nat) : mayE S n false = if 64 ≤ n then 2 else 0 := by unfold mayE; simp
section
variable (r : Nat) (S : St) (w : World) (h : RegR w r S) (hg : GoodS S)
include h hg

set_option maxRecDepth 100000 in
set_option maxHeartbeats 4000000 in
theorem rmove_any (a b : Nat) :
    Calls Try.prog 40 #[.pointer (some ⟨r, 0, none⟩), .int .u8 a, .int .u8 b] w (RRChg w r (.int .i64 (movE S a b)) (movS S a b)) := by
  have M1 := Lib.hid (rmay_any r w a)
  have M2 := Lib.hid (rmay_any r w b)
  have H := Lib.hid h
  by_cases ha : 64 ≤ a
  · have hE : movE S a b = 2 := by unfold movE; simp [may_false, ha]
    have hS : movS S a b = S := by unfold movS; simp [hE]
    rw [hE, hS]
    rw [if_pos ha] at M1
    clear h hg ha hE hS
    go_enter Try.func40, Try.ntmps40
    go_wp2_with fail
    refine M1.out.mono ?_; rintro e w' ⟨rfl, rfl⟩
    go_wp2_with fail
    go_ret
    exact ⟨by simp, H.out, Upd.refl _ _⟩
  · rw [if_neg ha] at M1
    by_cases hb : 64 ≤ b
    · have hE : movE S a b = 2 := by unfold movE; simp [may_false, ha, hb]
      have hS : movS S a b = S := by unfold movS; simp [hE]
      rw [hE, hS]
      rw [if_pos hb] at M2
      clear h hg ha hb hE hS
      go_enter Try.func40, Try.ntmps40
      go_wp2_with fail
      refine M1.out.mono ?_; rintro e w' ⟨rfl, rfl⟩
      go_wp2_with fail
      refine M2.out.mono ?_; rintro e w' ⟨rfl, rfl⟩
      go_wp2_with fail
      go_ret
      exact ⟨by simp, H.out, Upd.refl _ _⟩
    · rw [if_neg hb] at M2
      have cs1 := h.cellS a (by omega)
      have cs2 := h.cellS b (by omega)
      have cw1 := h.cellW a (by omega)
      have cw2 := h.cellW b (by omega)
      have i0 : (0 : Int) ≤ (a : Int) := by omega
      have i1 : (a : Int) < 64 := by omega
      have i2 : (0 : Int) ≤ (b : Int) := by omega
      have i3 : (b : Int) < 64 := by omega
      by_cases h0 : S.sec a = 0
      · have hE : movE S a b = 5 := by unfold movE; simp [may_false, ha, hb]; unfold mayE; simp [ha, h0]
        have hS : movS S a b = S := by unfold movS; simp [hE]
        rw [hE, hS]
        rw [h0] at cs1
        clear h hg ha hb hE hS h0
        go_enter Try.func40, Try.ntmps40
        go_wp2_with fail
        refine M1.out.mono ?_; rintro e w' ⟨rfl, rfl⟩
        go_wp2_with fail
        refine M2.out.mono ?_; rintro e w' ⟨rfl, rfl⟩
        go_wp2_with fail
        go_ret
        exact ⟨by simp, H.out, Upd.refl _ _⟩
      · have z1 : (((S.sec a : Nat) : Int) == 0) = false := by rw [beq_eq_false_iff_ne]; omega
        by_cases h1 : S.sec b = 0
        · have hE : movE S a b = 0 := by unfold movE; simp [may_false, ha, hb, h1]; unfold mayE; simp [ha, h0]
          obtain ⟨_, _, _, _, hS⟩ := movS_ok hE
          rw [hE, hS]
          have hab : a ≠ b := fun hh => h0 (hh ▸ h1)
          have hwb : S.wr b = false := by
            cases hq : S.wr b with
            | false => rfl
            | true => exact absurd h1 (hg.wr b hq)
          have HSA := Lib.hid (show ∀ i, (putS (cutS S a) b (S.sec a - 1) (S.wr a)).sec i = if i = a then 0 else if i = b then S.sec a else S.sec i from fun i => by
            unfold putS cutS
            simp only
            by_cases hia : i = a
            · subst hia; simp [hab]
            · by_cases hib : i = b
              · rw [if_pos hib, if_neg hia, if_pos hib]; omega
              · simp [hia, hib])
          have HWA := Lib.hid (show ∀ i, (putS (cutS S a) b (S.sec a - 1) (S.wr a)).wr i = if i = a then false else if i = b then S.wr a else S.wr i from fun i => by
            unfold putS cutS
            simp only
            by_cases hia : i = a
            · subst hia; simp [hab]
            · by_cases hib : i = b
              · subst hib; cases hwa : S.wr a <;> simp [hia, hwb]
              · simp [hia, hib])
          have HAB := Lib.hid hab
          rw [h1] at cs2
          rw [hwb] at cw2
          have f1 := h.frozen a
          have f2 := h.frozen b
          have f3 := h.frozen (64 + a)
          have f4 := h.frozen (64 + b)
          have a1 : ¬ a = b := hab
          have a2 : ¬ b = a := fun e => hab e.symm
          have a3 : ¬ 64 + a = b := by omega
          have a4 : ¬ 64 + b = a := by omega
          have a5 : ¬ a = 64 + b := by omega
          have a6 : ¬ b = 64 + a := by omega
          have HA64 := Lib.hid ha
          have HB64 := Lib.hid hb
          generalize putS (cutS S a) b (S.sec a - 1) (S.wr a) = S' at *
          generalize hsa : S.sec a = t at *
          generalize hwa : S.wr a = v at *
          clear h hg ha hb hE hS h0 h1 hab hwb hsa hwa
          go_enter Try.func40, Try.ntmps40
          go_wp2_with fail
          refine M1.out.mono ?_; rintro e w' ⟨rfl, rfl⟩
          go_wp2_with fail
          refine M2.out.mono ?_; rintro e w' ⟨rfl, rfl⟩
          go_wp2_with fail
          go_region
          all_goals go_wp2_with fail
          all_goals go_region
          all_goals go_wp2_with fail
          all_goals
            go_ret
            have ha' : a < 64 := by have := HA64.out; omega
            have hb' : b < 64 := by have := HB64.out; omega
            refine ⟨by simp, ?_, ?_⟩
            · first
              | exact RegR.congr (RegR.drew ((((RegR.drew ((H.out.setS b hb' t).setW b hb' v)).setS a ha' 0).setW a ha' false))) (fun i _ => (HSA.out i).symm) (fun i _ => (HWA.out i).symm)
              | exact RegR.congr (RegR.drew ((((RegR.drew ((H.out.setS b hb' t).setW b hb' v)).setW a ha' false).setS a ha' 0))) (fun i _ => (HSA.out i).symm) (fun i _ => (HWA.out i).symm)
              | exact RegR.congr (RegR.drew ((((RegR.drew ((H.out.setW b hb' v).setS b hb' t)).setS a ha' 0).setW a ha' false))) (fun i _ => (HSA.out i).symm) (fun i _ => (HWA.out i).symm)
              | exact RegR.congr (RegR.drew ((((RegR.drew ((H.out.setW b hb' v).setS b hb' t)).setW a ha' false).setS a ha' 0))) (fun i _ => (HSA.out i).symm) (fun i _ => (HWA.out i).symm)
            · exact ((((((Upd.refl _ _).setCell (.inl (by simp)) _).setCell (.inl (by simp)) _).drew).setCell (.inl (by simp)) _).setCell (.inl (by simp)) _).drew
        · have hE : movE S a b = 6 := by unfold movE; simp [may_false, ha, hb, h1]; unfold mayE; simp [ha, h0]
          have hS : movS S a b = S := by unfold movS; simp [hE]
          rw [hE, hS]
          have z2 : (((S.sec b : Nat) : Int) == 0) = false := by rw [beq_eq_false_iff_ne]; omega
          have z3 : (((S.sec b : Nat) : Int) != 0) = true := by rw [bne, z2]; rfl
          generalize S.sec a = t at *
          generalize S.sec b = t2 at *
          clear h hg ha hb hE hS h0 h1
          go_enter Try.func40, Try.ntmps40
          go_wp2_with fail
          refine M1.out.mono ?_; rintro e w' ⟨rfl, rfl⟩
          go_wp2_with fail
          refine M2.out.mono ?_; rintro e w' ⟨rfl, rfl⟩
          go_wp2_with fail
          go_ret
          exact ⟨by simp, H.out, Upd.refl _ _⟩
end

theorem clr_sec {S : St} {n : Nat} : (cutS S n).sec = fun i => if i = n then 0 else S.sec i := rfl

set_option maxRecDepth 100000 in
set_option maxHeartbeats 4000000 in
theorem rclear_any (r : Nat) (S : St) (w : World) (h : RegR w r S) (g o len cap : Nat) (xs : List Nat) (hl : xs.length = len) (hn : len ≤ 1000) (hx : ∀ (j x : Nat), xs[j]? = some x → x < 256 ∧ w.cell? ⟨g, o + j, none⟩ = some (.int .u8 x)) (hgr : g ≠ r) :
    Calls Try.prog 41 #[.pointer (some ⟨r, 0, none⟩), .slice (some ⟨g, o, none⟩) len cap] w (RRChg w r (.int .i64 ((clrL S xs).2 : Int)) (clrL S xs).1) := by
  have H := Lib.hid h
  have HX := Lib.hid hx
  have HL := Lib.hid hl
  have HG := Lib.hid hgr
  clear h hx hl hgr
  go_enter Try.func41, Try.ntmps41
  go_wp2_with fail
  go_loopw [5, 6] (fun vn vi W => ∃ (j k : Nat) (S' : St), j ≤ len ∧ vi = .int .i64 (j : Int) ∧ vn = .int .i64 (k : Int) ∧ clrL S (xs.take j) = (S', k) ∧ RegR W r S' ∧ Upd [r] w W) (fun _ vi _ => len - (intOf vi).toNat)
  case atStart => exact ⟨0, 0, S, by omega, rfl, rfl, rfl, H.out, Upd.refl _ _⟩
  case round =>
    obtain ⟨j, k, S', hj, rfl, rfl, hcl, hreg, hu⟩ := hrel
    have HCL := Lib.hid hcl
    have HR := Lib.hid hreg
    have HU := Lib.hid hu
    have hkj : k ≤ j := by have := clrL_count S j xs; rw [hcl] at this; exact this
    by_cases hlt : j < len
    · obtain ⟨x, hxj⟩ : ∃ x, xs[j]? = some x := ⟨_, List.getElem?_eq_getElem (by rw [HL.out]; exact hlt)⟩
      obtain ⟨hx8, hcx⟩ := HX.out j x hxj
      have hc : wr.cell? ⟨g, o + j, none⟩ = some (.int .u8 x) := hu.cellAt hcx (by simp; exact HG.out)
      have HM := Lib.hid (rholds_any r S' wr hreg x)
      have i0 : (0 : Int) ≤ (j : Int) := by omega
      have i1 : (j : Int) < (len : Int) := by omega
      by_cases hm : mayE S' x true = 0
      · obtain ⟨hx64, h0⟩ := may_zero hm
        rw [hm] at HM
        have HQ := Lib.hid (show clrL S (xs.take (j + 1)) = (cutS S' x, k + 1) by rw [clrL_take S xs j x hxj, hcl]; unfold clr1; rw [if_pos hm])
        have c1 := hreg.cellS x hx64
        have c2 := hreg.cellW x hx64
        have f1 := hreg.frozen x
        have f2 := hreg.frozen (64 + x)
        have i2 : (0 : Int) ≤ (x : Int) := by omega
        have i3 : (x : Int) < 64 := by omega
        have a1 : ¬ 64 + x = x := by omega
        have a2 : ¬ x = 64 + x := by omega
        have a3 : ¬ g = r := HG.out
        have a4 : ¬ r = g := fun e => HG.out e.symm
        clear hcl hreg hu hm h0 hcx hxj
        go_wp2_with fail
        refine HM.out.mono ?_; rintro e w' ⟨rfl, rfl⟩
        go_wp2_with fail
        go_region
        all_goals go_wp2_with fail
        all_goals go_roundw
        all_goals first
          | exact ⟨j + 1, k + 1, cutS S' x, by omega, by go_num, by go_num, HQ.out, (RegR.drew ((HR.out.setS x hx64 0).setW x hx64 false)).congr (fun i _ => rfl) (fun i _ => rfl), (((HU.out.setCell (.inl (by simp)) _).setCell (.inl (by simp)) _).drew)⟩
          | exact ⟨j + 1, k + 1, cutS S' x, by omega, by go_num, by go_num, HQ.out, (RegR.drew ((HR.out.setW x hx64 false).setS x hx64 0)).congr (fun i _ => rfl) (fun i _ => rfl), (((HU.out.setCell (.inl (by simp)) _).setCell (.inl (by simp)) _).drew)⟩
          | (simp [intOf]; omega)
      · have HQ := Lib.hid (show clrL S (xs.take (j + 1)) = (S', k) by rw [clrL_take S xs j x hxj, hcl]; unfold clr1; rw [if_neg hm])
        have hb1 : (mayE S' x true == 0) = false := by simp [hm]
        have hb2 : (mayE S' x true != 0) = true := by simp [hm]
        generalize mayE S' x true = ev at *
        clear hcl hreg hu hm hcx hxj
        go_wp2_with fail
        refine HM.out.mono ?_; rintro e w' ⟨rfl, rfl⟩
        go_wp2_with fail
        go_roundw
        case rel => exact ⟨j + 1, k, S', by omega, by go_num, rfl, HQ.out, HR.out, HU.out⟩
        case measure => simp [intOf]; omega
    · obtain rfl : j = len := by omega
      clear hcl hreg hu
      go_wp2_with fail
      go_ret
      have hq := HCL.out
      rw [List.take_of_length_le (by rw [HL.out]; exact Nat.le_refl _)] at hq
      exact ⟨by rw [hq]; simp, by rw [hq]; exact HR.out, HU.out⟩

end Go.Proofs.Ytelmkmhmdfcnmaa
