/- The reference's Children and Exit. -/
import Derived.Test.YtocmochdgidcmaaProcH
namespace Go.Proofs.Ytocmochdgidcmaa
open Go.RowKit

/-- The children of pid, rising. -/
def kids (T : List PS) (pid : Int) : List Nat := seen (fun _ => T) pid 5
def kidsOf (T : List PS) (pid : Int) : List Nat := match getP T pid with
  | .none => []
  | _ => kids T pid
theorem seen_le (G : List Nat → List PS) (pid : Int) : ∀ n, (seen G pid n).length ≤ n := by
  intro n
  induction n with
  | zero => simp [seen]
  | succ n ih =>
    unfold seen
    split
    · rw [List.length_append]; simp; omega
    · omega
theorem kidB_cells (T : List PS) (pid : Int) (n : Nat) : kidB T pid n = (decide (stP (getP T n) ≠ 0) && (parR (getP T n) == pid)) := by
  unfold kidB
  cases getP T n <;> simp [stP, parR]

theorem rchildren_none (r : Nat) (T : List PS) (pid : Int) (w : World) (h : RTabAt w r T) (hp : getP T pid = .none) :
    Calls Try.prog 32 #[.pointer (some ⟨r, 0, none⟩), .int .i64 pid] w fun e w' => e = .returned (.slice none 0 0) ∧ w = w' := by
  have HS := Lib.hid (rstate_any r T pid w h)
  rw [hp] at HS
  unfold stP at HS
  clear h hp
  go_enter Try.func32, Try.ntmps32
  go_wp2_with fail
  go_loopw [5, 6] (fun s v wr => s = .slice none 0 0 ∧ v = .int .i64 1 ∧ wr = w) (fun _ _ _ => 0)
  case atStart => exact ⟨rfl, rfl, rfl⟩
  case round =>
    obtain ⟨rfl, rfl, rfl⟩ := hrel
    go_wp2_with fail
    refine HS.out.mono ?_; rintro e w' ⟨rfl, rfl⟩
    go_wp2_with fail
    go_ret
    exact ⟨by simp, rfl⟩

set_option maxRecDepth 100000 in
set_option maxHeartbeats 4000000 in
theorem rchildren_some (r : Nat) (T : List PS) (pid : Int) (w : World) (h : RTabAt w r T) (hp : getP T pid ≠ .none) :
    Calls Try.prog 32 #[.pointer (some ⟨r, 0, none⟩), .int .i64 pid] w fun e w' =>
      ∃ v, e = .returned v ∧ w'.ownsRow w.heap.size 3 1 v (kids T pid).length (ints (kids T pid)) ∧ Upd [] w w' := by
  have HT := Lib.hid h
  obtain ⟨q, hq, hq0⟩ : ∃ q : Nat, stP (getP T pid) = q ∧ ((q : Int) == 0) = false := ⟨_, rfl, by
    cases hx : getP T pid with
    | none => exact absurd hx hp
    | liv p => rfl
    | dead p s => rfl⟩
  have hq1 : ((q : Int) != 0) = true := by rw [bne, hq0]; rfl
  have HS := Lib.hid (fun W (hW : RTabAt W r T) => rstate_any r T pid W hW)
  rw [hq] at HS
  clear h hp hq
  go_enter Try.func32, Try.ntmps32
  go_wp2_with fail
  go_loopw [5, 6] (fun v c wr => ∃ n : Nat, 1 ≤ n ∧ n ≤ 6 ∧ c = .int .i64 (n : Int) ∧ wr.ownsRow w.heap.size 3 1 v (seen (fun _ => T) pid (n - 1)).length (ints (seen (fun _ => T) pid (n - 1))) ∧ Upd [] w wr) (fun _ c _ => 6 - (intOf c).toNat)
  case atStart => exact ⟨1, by omega, by omega, rfl, by simpa [seen, ints] using World.ownsRow_nil w w.heap.size 3 1, Upd.refl _ _⟩
  case round =>
    obtain ⟨n, hn1, hn, rfl, hown, hu⟩ := hrel
    have HO := Lib.hid hown
    have HU := Lib.hid hu
    have HR := Lib.hid (HT.out.upd hu (by simp))
    clear hown hu
    by_cases hlt : n < 6
    · have i0 : (0 : Int) ≤ (n : Int) := by omega
      have i1 : (n : Int) < 6 := by omega
      have hsz := HU.out.size
      have hc0 := HR.out.cell (i := n) hlt (j := 0) (by omega) (encR_0 _)
      rw [Nat.add_zero] at hc0
      have hc1 := HR.out.cell (i := n) hlt (j := 1) (v := .int .i64 (parR (getP T n))) (by omega) (by rw [encR_eq]; rfl)
      have HKB := Lib.hid (kidB_cells T pid n)
      obtain ⟨k, hk⟩ : ∃ k, n = k + 1 := ⟨n - 1, by omega⟩
      have HK := Lib.hid hk
      have HKn := Lib.hid (show n - 1 = k by omega)
      clear hk
      cases hx : getP T (n : Int) with
      | none =>
        have HX := Lib.hid (seen_no (G := fun _ => T) (pid := pid) (m := k) (show kidB T pid (k + 1) = false by rw [← HK.out, HKB.out, hx]; rfl))
        rw [hx] at hc0
        unfold stP at hc0
        clear hx hc1
        go_wp2_with fail
        refine (HS.out _ HR.out).mono ?_; rintro e w' ⟨rfl, rfl⟩
        go_wp2_with fail
        go_roundw
        case rel => exact ⟨n + 1, by omega, by omega, by go_num, by rw [Nat.add_sub_cancel, HK.out, HX.out, ← HKn.out]; exact HO.out, HU.out⟩
        case measure => simp [intOf]; omega
      | liv p =>
        rw [hx] at hc0 hc1
        unfold stP at hc0
        unfold parR at hc1
        by_cases hq : p = pid
        · have HX := Lib.hid (seen_yes (G := fun _ => T) (pid := pid) (m := k) (show kidB T pid (k + 1) = true by rw [← HK.out, HKB.out, hx]; simp [stP, parR, hq]))
          subst hq
          clear hx
          obtain ⟨i, hi, hz, hsi, hb⟩ := info_parts info_int
          have HI := Lib.hid hi
          have HL := Lib.hid (seen_le (fun _ => T) p (n - 1))
          clear hi
          go_wp2_with fail
          refine (HS.out _ HR.out).mono ?_; rintro e w' ⟨rfl, rfl⟩
          go_wp2_with (at_builtin; refine wpList_append_own_at _ rfl _ _ 31 rfl w.heap.size 3 i (.int .i64 0) 1 8 under_ints HI.out hz hsi hb rfl (by decide) _ _ _ rfl (HO.out.alloc _) ⟨wr.heap.size, 0, none⟩ 1 1 [.int .i64 (n : Int)] rfl rfl (cell_one_new _ _ _) (by simp [Value.oneCell']) (by have := HL.out; unfold maxLen; omega) (by have := HL.out; omega) (by simp; omega) ?_; intro v' w3 hown' hgrow hnil hat)
          have hfin : w3.ownsRow w.heap.size 3 1 v' (seen (fun _ => T) p (n + 1 - 1)).length (ints (seen (fun _ => T) p (n + 1 - 1))) := by
            rw [Nat.add_sub_cancel, HK.out, HX.out, ← HK.out, ← HKn.out]
            simpa [ints] using hown'
          have hup : Upd [] w w3 := ((HU.out.alloc _).grown hgrow (S := []) (fun j hj => .inr (HO.out.lt j hj).1))
          have HF := Lib.hid hfin
          have HP := Lib.hid hup
          clear hown' hgrow hfin hup hat hnil
          go_wp2_with fail
          go_roundw
          case rel => exact ⟨n + 1, by omega, by omega, by go_num, HF.out, HP.out⟩
          case measure => simp [intOf]; omega
        · have hb1 : (p == pid) = false := by simp [hq]
          have HX := Lib.hid (seen_no (G := fun _ => T) (pid := pid) (m := k) (show kidB T pid (k + 1) = false by rw [← HK.out, HKB.out, hx]; simp [stP, parR, hq]))
          clear hx hq
          go_wp2_with fail
          refine (HS.out _ HR.out).mono ?_; rintro e w' ⟨rfl, rfl⟩
          go_wp2_with fail
          go_roundw
          case rel => exact ⟨n + 1, by omega, by omega, by go_num, by rw [Nat.add_sub_cancel, HK.out, HX.out, ← HKn.out]; exact HO.out, HU.out⟩
          case measure => simp [intOf]; omega
      | dead p s =>
        rw [hx] at hc0 hc1
        unfold stP at hc0
        unfold parR at hc1
        by_cases hq : p = pid
        · have HX := Lib.hid (seen_yes (G := fun _ => T) (pid := pid) (m := k) (show kidB T pid (k + 1) = true by rw [← HK.out, HKB.out, hx]; simp [stP, parR, hq]))
          subst hq
          clear hx
          obtain ⟨i, hi, hz, hsi, hb⟩ := info_parts info_int
          have HI := Lib.hid hi
          have HL := Lib.hid (seen_le (fun _ => T) p (n - 1))
          clear hi
          go_wp2_with fail
          refine (HS.out _ HR.out).mono ?_; rintro e w' ⟨rfl, rfl⟩
          go_wp2_with (at_builtin; refine wpList_append_own_at _ rfl _ _ 31 rfl w.heap.size 3 i (.int .i64 0) 1 8 under_ints HI.out hz hsi hb rfl (by decide) _ _ _ rfl (HO.out.alloc _) ⟨wr.heap.size, 0, none⟩ 1 1 [.int .i64 (n : Int)] rfl rfl (cell_one_new _ _ _) (by simp [Value.oneCell']) (by have := HL.out; unfold maxLen; omega) (by have := HL.out; omega) (by simp; omega) ?_; intro v' w3 hown' hgrow hnil hat)
          have hfin : w3.ownsRow w.heap.size 3 1 v' (seen (fun _ => T) p (n + 1 - 1)).length (ints (seen (fun _ => T) p (n + 1 - 1))) := by
            rw [Nat.add_sub_cancel, HK.out, HX.out, ← HK.out, ← HKn.out]
            simpa [ints] using hown'
          have hup : Upd [] w w3 := ((HU.out.alloc _).grown hgrow (S := []) (fun j hj => .inr (HO.out.lt j hj).1))
          have HF := Lib.hid hfin
          have HP := Lib.hid hup
          clear hown' hgrow hfin hup hat hnil
          go_wp2_with fail
          go_roundw
          case rel => exact ⟨n + 1, by omega, by omega, by go_num, HF.out, HP.out⟩
          case measure => simp [intOf]; omega
        · have hb1 : (p == pid) = false := by simp [hq]
          have HX := Lib.hid (seen_no (G := fun _ => T) (pid := pid) (m := k) (show kidB T pid (k + 1) = false by rw [← HK.out, HKB.out, hx]; simp [stP, parR, hq]))
          clear hx hq
          go_wp2_with fail
          refine (HS.out _ HR.out).mono ?_; rintro e w' ⟨rfl, rfl⟩
          go_wp2_with fail
          go_roundw
          case rel => exact ⟨n + 1, by omega, by omega, by go_num, by rw [Nat.add_sub_cancel, HK.out, HX.out, ← HKn.out]; exact HO.out, HU.out⟩
          case measure => simp [intOf]; omega
    · obtain rfl : n = 6 := by omega
      go_wp2_with fail
      refine (HS.out _ HR.out).mono ?_; rintro e w' ⟨rfl, rfl⟩
      go_wp2_with fail
      go_ret
      exact ⟨_, rfl, HO.out, HU.out⟩

theorem rchildren_any (r : Nat) (T : List PS) (pid : Int) (w : World) (h : RTabAt w r T) :
    Calls Try.prog 32 #[.pointer (some ⟨r, 0, none⟩), .int .i64 pid] w fun e w' =>
      ∃ v, e = .returned v ∧ w'.ownsRow w.heap.size 3 1 v (kidsOf T pid).length (ints (kidsOf T pid)) ∧ Upd [] w w' := by
  cases hx : getP T pid with
  | none =>
    refine (rchildren_none r T pid w h hx).mono ?_
    rintro e w' ⟨rfl, rfl⟩
    have e0 : kidsOf T pid = [] := by unfold kidsOf; rw [hx]
    rw [e0]
    exact ⟨_, rfl, by simpa [ints] using World.ownsRow_nil w w.heap.size 3 1, Upd.refl _ _⟩
  | liv p =>
    have e0 : kidsOf T pid = kids T pid := by unfold kidsOf; rw [hx]
    rw [e0]
    exact rchildren_some r T pid w h (by rw [hx]; intro h; cases h)
  | dead p s =>
    have e0 : kidsOf T pid = kids T pid := by unfold kidsOf; rw [hx]
    rw [e0]
    exact rchildren_some r T pid w h (by rw [hx]; intro h; cases h)

end Go.Proofs.Ytocmochdgidcmaa
