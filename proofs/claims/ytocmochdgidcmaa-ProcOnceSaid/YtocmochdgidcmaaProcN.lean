/- The reference's Exit and Kill. -/
import Derived.Test.YtocmochdgidcmaaProcM
namespace Go.Proofs.Ytocmochdgidcmaa
open Go.RowKit

def orphP : PS → PS
  | .none => .none
  | .liv _ => .liv 0
  | .dead _ s => .dead 0 s
def orph (T : List PS) (x : Nat) : List PS := T.set x (orphP (getP T x))
/-- The children of pid among the places 1 .. m are left to 0. -/
def orphTo (T : List PS) (pid : Int) : Nat → List PS
  | 0 => T
  | m + 1 => if kidB (orphTo T pid m) pid (m + 1) then orph (orphTo T pid m) (m + 1) else orphTo T pid m
def exitE (T : List PS) (pid : Int) : Int := match getP T pid with
  | .liv _ => if pid = 0 then 7 else 0
  | _ => 5
def exitT (T : List PS) (pid s : Int) : List PS := match getP T pid with
  | .liv p => if pid = 0 then T else orphTo (T.set pid.toNat (.dead p s)) pid 5
  | _ => T
theorem orphTo_yes {T : List PS} {pid : Int} {m : Nat} (h : kidB (orphTo T pid m) pid (m + 1) = true) : orphTo T pid (m + 1) = orph (orphTo T pid m) (m + 1) := by
  show (if kidB (orphTo T pid m) pid (m + 1) then orph (orphTo T pid m) (m + 1) else orphTo T pid m) = _
  rw [if_pos h]
theorem orphTo_no {T : List PS} {pid : Int} {m : Nat} (h : kidB (orphTo T pid m) pid (m + 1) = false) : orphTo T pid (m + 1) = orphTo T pid m := by
  show (if kidB (orphTo T pid m) pid (m + 1) then orph (orphTo T pid m) (m + 1) else orphTo T pid m) = _
  rw [h]
  rfl
theorem getP_some {T : List PS} (hl : T.length = 6) {i : Int} (h : getP T i ≠ .none) : 0 ≤ i ∧ i < 6 := by
  rcases Int.lt_or_le i 0 with h1 | h1
  · exact absurd (getP_out hl (.inl h1)) h
  · rcases Int.lt_or_le i 6 with h2 | h2
    · exact ⟨h1, h2⟩
    · exact absurd (getP_out hl (.inr h2)) h

set_option maxRecDepth 100000 in
set_option maxHeartbeats 4000000 in
theorem rexit_any (r : Nat) (T : List PS) (pid s : Int) (w : World) (h : RTabAt w r T) :
    Calls Try.prog 36 #[.pointer (some ⟨r, 0, none⟩), .int .i64 pid, .int .i64 s] w fun e w' =>
      e = .returned (.int .i64 (exitE T pid)) ∧ RTabAt w' r (exitT T pid s) ∧ Upd [r] w w' := by
  have HR := Lib.hid (rruns_any r T pid w h)
  have HT := Lib.hid h
  cases hp : getP T pid with
  | none =>
    rw [hp] at HR
    unfold runE at HR
    rw [show exitE T pid = 5 by simp [exitE, hp], show exitT T pid s = T by simp [exitT, hp]]
    clear hp h
    go_enter Try.func36, Try.ntmps36
    go_wp2_with fail
    refine HR.out.mono ?_; rintro e w1 ⟨rfl, rfl⟩
    go_wp2_with fail
    go_ret
    exact ⟨rfl, HT.out, Upd.refl _ _⟩
  | dead p q =>
    rw [hp] at HR
    unfold runE at HR
    rw [show exitE T pid = 5 by simp [exitE, hp], show exitT T pid s = T by simp [exitT, hp]]
    clear hp h
    go_enter Try.func36, Try.ntmps36
    go_wp2_with fail
    refine HR.out.mono ?_; rintro e w1 ⟨rfl, rfl⟩
    go_wp2_with fail
    go_ret
    exact ⟨rfl, HT.out, Upd.refl _ _⟩
  | liv p =>
    rw [hp] at HR
    unfold runE at HR
    by_cases hz : pid = 0
    · subst hz
      rw [show exitE T 0 = 7 by simp [exitE, hp], show exitT T 0 s = T by simp [exitT, hp]]
      clear hp h
      go_enter Try.func36, Try.ntmps36
      go_wp2_with fail
      refine HR.out.mono ?_; rintro e w1 ⟨rfl, rfl⟩
      go_wp2_with fail
      go_ret
      exact ⟨rfl, HT.out, Upd.refl _ _⟩
    · have hz1 : (pid == 0) = false := by simp [hz]
      obtain ⟨g0, g1⟩ := getP_some h.2 (by rw [hp]; intro h; cases h)
      obtain ⟨i, rfl⟩ : ∃ i : Nat, pid = i := ⟨pid.toNat, by omega⟩
      have hi : i < 6 := by omega
      rw [show exitE T (i : Int) = 0 by simp [exitE, hp]; omega, show exitT T (i : Int) s = orphTo (T.set i (.dead p s)) (i : Int) 5 by simp [exitT, hp]; intro h; omega]
      have h20 := h.set20 hi (.dead p s) (by rw [hp]; rfl)
      have h02 := h.set02 hi (.dead p s) (by rw [hp]; rfl)
      have c0 := h.cell (i := i) hi (j := 0) (by omega) (encR_0 _)
      have c2 := h.cell (i := i) hi (j := 2) (v := .int .i64 0) (by omega) (by rw [hp]; rfl)
      rw [Nat.add_zero, hp] at c0
      have f0 := h.1.frozen (i * 3)
      have f2 := h.1.frozen (i * 3 + 2)
      unfold stP at c0
      unfold stP statP at h20 h02
      have H20 := Lib.hid h20
      have H02 := Lib.hid h02
      clear hp h h20 h02 hz
      generalize T.set i (.dead p s) = T1 at *
      go_enter Try.func36, Try.ntmps36
      go_wp2_with fail
      refine HR.out.mono ?_; rintro e w1 ⟨rfl, rfl⟩
      go_wp2_with fail
      go_region
      generalize hw3 : World.drew _ = w3
      have HT3 : Hid (RTabAt w3 r T1) := Lib.hid (by rw [← hw3]; first | exact ⟨H02.out.1, H02.out.2⟩ | exact ⟨H20.out.1, H20.out.2⟩)
      have HU3 : Hid (Upd [r] w w3) := Lib.hid (by rw [← hw3]; exact (((Upd.refl _ _).setCell (by simp) _).setCell (by simp) _).drew)
      clear hw3 H20 H02 c0 c2 f0 f2 HR HT
      go_wp2_with fail
      go_loopw [8] (fun v wr => ∃ n : Nat, 1 ≤ n ∧ n ≤ 6 ∧ v = .int .i64 (n : Int) ∧ RTabAt wr r (orphTo T1 (i : Int) (n - 1)) ∧ Upd [r] w wr) (fun v _ => 6 - (intOf v).toNat)
      case atStart => exact ⟨1, by omega, by omega, rfl, HT3.out, HU3.out⟩
      case round =>
        obtain ⟨n, hn1, hn, rfl, hR, hu⟩ := hrel
        have HR := Lib.hid hR
        have HU := Lib.hid hu
        clear hR hu
        by_cases hlt : n < 6
        · have j0 : (0 : Int) ≤ (n : Int) := by omega
          have j1 : (n : Int) < 6 := by omega
          obtain ⟨k, hk⟩ : ∃ k, n = k + 1 := ⟨n - 1, by omega⟩
          have HK := Lib.hid hk
          have HKn := Lib.hid (show n - 1 = k by omega)
          clear hk
          generalize hTn : orphTo T1 (i : Int) (n - 1) = Tn at *
          have HTn := Lib.hid (show orphTo T1 (i : Int) k = Tn by rw [← HKn.out]; exact hTn)
          clear hTn
          have HKB := Lib.hid (kidB_cells Tn (i : Int) n)
          have hc0 := HR.out.cell (i := n) hlt (j := 0) (by omega) (encR_0 _)
          rw [Nat.add_zero] at hc0
          have hc1 := HR.out.cell (i := n) hlt (j := 1) (v := .int .i64 (parR (getP Tn n))) (by omega) (by rw [encR_eq]; rfl)
          have f1 := HR.out.1.frozen (n * 3 + 1)
          cases hx : getP Tn (n : Int) with
          | none =>
            have HX := Lib.hid (orphTo_no (T := T1) (pid := (i : Int)) (m := k) (by rw [HTn.out, ← HK.out, HKB.out, hx]; rfl))
            rw [hx] at hc0
            unfold stP at hc0
            clear hx hc1
            go_wp2_with fail
            go_roundw
            case rel => exact ⟨n + 1, by omega, by omega, by go_num, by rw [Nat.add_sub_cancel, HK.out, HX.out, HTn.out]; exact HR.out, HU.out⟩
            case measure => simp [intOf]; omega
          | liv p' =>
            have H1 := Lib.hid (HR.out.set1 hlt (.liv 0) (by rw [hx]; rfl) (by rw [hx]; rfl))
            rw [hx] at hc0 hc1
            unfold stP at hc0
            unfold parR at hc1
            by_cases hq : p' = (i : Int)
            · have HX := Lib.hid (orphTo_yes (T := T1) (pid := (i : Int)) (m := k) (by rw [HTn.out, ← HK.out, HKB.out, hx]; simp [stP, parR, hq]))
              have HO := Lib.hid (show orph Tn n = Tn.set n (.liv 0) by unfold orph; rw [hx]; rfl)
              subst hq
              clear hx
              go_wp2_with fail
              go_roundw
              case rel => exact ⟨n + 1, by omega, by omega, by go_num, by rw [Nat.add_sub_cancel, HK.out, HX.out, HTn.out, ← HK.out, HO.out]; exact H1.out, HU.out.setCell (by simp) _⟩
              case measure => simp [intOf]; omega
            · have hb1 : (p' == (i : Int)) = false := by simp [hq]
              have HX := Lib.hid (orphTo_no (T := T1) (pid := (i : Int)) (m := k) (by rw [HTn.out, ← HK.out, HKB.out, hx]; simp [stP, parR, hq]))
              clear hx hq
              go_wp2_with fail
              go_roundw
              case rel => exact ⟨n + 1, by omega, by omega, by go_num, by rw [Nat.add_sub_cancel, HK.out, HX.out, HTn.out]; exact HR.out, HU.out⟩
              case measure => simp [intOf]; omega
          | dead p' s' =>
            have H1 := Lib.hid (HR.out.set1 hlt (.dead 0 s') (by rw [hx]; rfl) (by rw [hx]; rfl))
            rw [hx] at hc0 hc1
            unfold stP at hc0
            unfold parR at hc1
            by_cases hq : p' = (i : Int)
            · have HX := Lib.hid (orphTo_yes (T := T1) (pid := (i : Int)) (m := k) (by rw [HTn.out, ← HK.out, HKB.out, hx]; simp [stP, parR, hq]))
              have HO := Lib.hid (show orph Tn n = Tn.set n (.dead 0 s') by unfold orph; rw [hx]; rfl)
              subst hq
              clear hx
              go_wp2_with fail
              go_roundw
              case rel => exact ⟨n + 1, by omega, by omega, by go_num, by rw [Nat.add_sub_cancel, HK.out, HX.out, HTn.out, ← HK.out, HO.out]; exact H1.out, HU.out.setCell (by simp) _⟩
              case measure => simp [intOf]; omega
            · have hb1 : (p' == (i : Int)) = false := by simp [hq]
              have HX := Lib.hid (orphTo_no (T := T1) (pid := (i : Int)) (m := k) (by rw [HTn.out, ← HK.out, HKB.out, hx]; simp [stP, parR, hq]))
              clear hx hq
              go_wp2_with fail
              go_roundw
              case rel => exact ⟨n + 1, by omega, by omega, by go_num, by rw [Nat.add_sub_cancel, HK.out, HX.out, HTn.out]; exact HR.out, HU.out⟩
              case measure => simp [intOf]; omega
        · obtain rfl : n = 6 := by omega
          go_wp2_with fail
          go_ret
          exact ⟨rfl, HR.out, HU.out⟩

theorem rkill_any (r : Nat) (T : List PS) (pid : Int) (w : World) (h : RTabAt w r T) :
    Calls Try.prog 37 #[.pointer (some ⟨r, 0, none⟩), .int .i64 pid] w fun e w' =>
      e = .returned (.int .i64 (exitE T pid)) ∧ RTabAt w' r (exitT T pid 137) ∧ Upd [r] w w' := by
  have HX := Lib.hid (rexit_any r T pid 137 w h)
  clear h
  go_enter Try.func37, Try.ntmps37
  go_wp2_with fail
  refine HX.out.mono ?_; rintro e w' ⟨rfl, h1, h2⟩
  have H1 := Lib.hid h1
  have H2 := Lib.hid h2
  clear h1 h2
  go_wp2_with fail
  go_ret
  exact ⟨rfl, H1.out, H2.out⟩

end Go.Proofs.Ytocmochdgidcmaa
