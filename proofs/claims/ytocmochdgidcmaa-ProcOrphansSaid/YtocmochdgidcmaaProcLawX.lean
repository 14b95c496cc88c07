/- The walk of the statement on orphans. -/
import Derived.Test.YtocmochdgidcmaaProcOpen
namespace Go.Proofs.Ytocmochdgidcmaa
open Go.RowKit

theorem seen_none {T : List PS} {pid : Int} : ∀ m, (∀ k : Nat, 1 ≤ k → k ≤ m → kidB T pid k = false) → seen (fun _ => T) pid m = [] := by
  intro m
  induction m with
  | zero => intro _; rfl
  | succ m ih =>
    intro h
    rw [seen_no (h (m + 1) (by omega) (by omega))]
    exact ih (fun k h1 h2 => h k h1 (by omega))
theorem par_orph (x : PS) : parP (orphP x) = match x with | .none => -1 | _ => 0 := by cases x <;> rfl
theorem st_orph (x : PS) : stP (orphP x) = stP x := by cases x <;> rfl

/-- What the statement looks at of each place. -/
theorem orphan_facts {T : List PS} (h : Good T) {pid : Nat} {p s : Int} (hp : getP T (pid : Int) = .liv p) (h1 : 1 ≤ pid) (h6 : pid < 6) (q : Nat) (hq : q < 6) :
    parP (getP (exitT T (pid : Int) s) (q : Int)) = (if parP (getP T (q : Int)) = (pid : Int) then 0 else parP (getP T (q : Int))) ∧
    (q ≠ pid → stP (getP (exitT T (pid : Int) s) (q : Int)) = stP (getP T (q : Int))) := by
  have hself := h.self hp h1 h6
  rw [exit_get h.len hp h1 h6 hself q hq]
  by_cases hqp : q = pid
  · subst hqp
    rw [if_pos rfl, hp]
    refine ⟨?_, fun hn => absurd rfl hn⟩
    rw [if_neg (show ¬ parP (.liv p) = (q : Int) from hself)]
    rfl
  · rw [if_neg hqp]
    by_cases hk : 1 ≤ q ∧ kidB T (pid : Int) q = true
    · rw [if_pos hk]
      have hne : getP T (q : Int) ≠ .none := by
        intro hn
        have := hk.2
        unfold kidB at this
        rw [hn] at this
        cases this
      have hkp := hk.2
      rw [kid_par hne] at hkp
      have hpp : parP (getP T (q : Int)) = (pid : Int) := by simpa using hkp
      rw [if_pos hpp]
      refine ⟨?_, fun _ => st_orph _⟩
      cases hx : getP T (q : Int) with
      | none => exact absurd hx hne
      | liv p => rfl
      | dead p s => rfl
    · rw [if_neg hk]
      refine ⟨?_, fun _ => rfl⟩
      have hpp : parP (getP T (q : Int)) ≠ (pid : Int) := by
        intro hpp
        rcases Nat.eq_zero_or_pos q with h0 | h0
        · subst h0
          rw [show ((0 : Nat) : Int) = 0 from rfl, h.zero] at hpp
          have : (0 : Int) = (pid : Int) := hpp
          omega
        · refine hk ⟨h0, ?_⟩
          have hne : getP T (q : Int) ≠ .none := by
            intro hn
            rw [hn] at hpp
            have : (-1 : Int) = (pid : Int) := hpp
            omega
          rw [kid_par hne, hpp]
          simp
      rw [if_neg hpp]
theorem orphan_kids {T : List PS} (h : Good T) {pid : Nat} {p s : Int} (hp : getP T (pid : Int) = .liv p) (h1 : 1 ≤ pid) (h6 : pid < 6) : kidsOf (exitT T (pid : Int) s) (pid : Int) = [] := by
  have e : kids (exitT T (pid : Int) s) (pid : Int) = [] := seen_none 5 (fun k k1 k5 => by
    have hf := (orphan_facts h (s := s) hp h1 h6 k (by omega)).1
    by_cases hne : getP (exitT T (pid : Int) s) (k : Int) = .none
    · unfold kidB; rw [hne]
    · rw [kid_par hne, hf, beq_eq_false_iff_ne]
      split
      · omega
      · assumption)
  unfold kidsOf
  split
  · rfl
  · exact e

set_option maxRecDepth 100000 in
set_option maxHeartbeats 4000000 in
theorem orphans_any (A : Option Addr) (len cap : Nat) (u : Nat) (s : Int) (w : World) (hd : Deeds w A len) (hlen : len ≤ 9223372036854775807) (hu8 : u < 256) :
    Calls Try.prog 5 #[.slice A len cap, .int .u8 (u : Int), .int .i64 s] w (TruePost w) := by
  have HD := Lib.hid hd
  clear hd
  go_enter Try.func5, Try.ntmps5
  go_wp2_with fail
  refine (play_any A len cap _ HD.out hlen).mono ?_; rintro e w1 ⟨t, r, T, rfl, hb, hu, ht0, _⟩
  have HB := Lib.hid hb
  have HU := Lib.hid hu
  clear hb hu HD
  go_wp2_with fail
  refine (live_any _).mono ?_; rintro e w2 ⟨rfl, hu2⟩
  have HT := Lib.hid (HB.out.tab.upd hu2 (by simp))
  have HG := Lib.hid HB.out.good
  have HU2 := Lib.hid (HU.out.trans0 hu2)
  clear hu2 HU HB
  go_wp2_with fail
  obtain ⟨pid, hpid⟩ : ∃ pid : Nat, (u : Int) % 6 = (pid : Int) := ⟨u % 6, by omega⟩
  have hp6 : pid < 6 := by omega
  rw [hpid]
  clear hpid
  refine (copy_any t T _ HT.out).mono ?_; rintro e w3 ⟨q, rfl, hm3, hu3, hq0⟩
  have HT3 := Lib.hid (HT.out.upd hu3 (by simp))
  have HM3 := Lib.hid hm3
  have HU3 := Lib.hid (HU2.out.trans0 hu3)
  have hltT := HT.out.1.lt
  clear hm3 hu3
  go_wp2_with fail
  refine (exit_any t T (pid : Int) s _ HT3.out).mono ?_; rintro e w4 ⟨rfl, hm4, hu4⟩
  have HT4 := Lib.hid hm4
  have HM4 := Lib.hid (HM3.out.upd hu4 (by simp; omega))
  have HU4 := Lib.hid (HU3.out.trans hu4 (fun s hs => .inr (by simp at hs; omega)))
  clear hm4 hu4
  cases hx : getP T (pid : Int) with
  | none =>
    rw [show exitE T (pid : Int) = 5 by simp [exitE, hx]]
    have HS := Lib.hid (state_any q T (pid : Int) _ HM4.out)
    rw [hx] at HS
    unfold stP at HS
    clear hx
    go_wp2_with fail
    refine HS.out.mono ?_; rintro e w' ⟨rfl, rfl⟩
    go_wp2_with fail
    go_ret
    exact ⟨by simp, HU4.out⟩
  | dead p s' =>
    rw [show exitE T (pid : Int) = 5 by simp [exitE, hx]]
    have HS := Lib.hid (state_any q T (pid : Int) _ HM4.out)
    rw [hx] at HS
    unfold stP at HS
    clear hx
    go_wp2_with fail
    refine HS.out.mono ?_; rintro e w' ⟨rfl, rfl⟩
    go_wp2_with fail
    go_ret
    exact ⟨by simp, HU4.out⟩
  | liv p =>
    by_cases hz : pid = 0
    · subst hz
      rw [show exitE T ((0 : Nat) : Int) = 7 by
        have : ((0 : Nat) : Int) = 0 := rfl
        simp [exitE, HG.out.zero]]
      clear hx
      go_wp2_with fail
      go_ret
      exact ⟨by simp, HU4.out⟩
    · rw [show exitE T (pid : Int) = 0 by simp [exitE, hx]; omega]
      have HX := Lib.hid hx
      have HO := Lib.hid (fun k hk => orphan_facts HG.out (s := s) hx (by omega) hp6 k hk)
      have HK := Lib.hid (orphan_kids HG.out (s := s) hx (by omega) hp6)
      have HE := Lib.hid (show getP (exitT T (pid : Int) s) (pid : Int) = .dead p s by rw [exit_get HG.out.len hx (by omega) hp6 (HG.out.self hx (by omega) hp6) (s := s) pid hp6, if_pos rfl])
      clear hx hz
      generalize exitT T (pid : Int) s = T' at *
      go_wp2_with fail
      go_loopw [13] (fun v W => ∃ k : Nat, k ≤ 6 ∧ v = .int .i64 (k : Int) ∧ TabAt W t T' ∧ TabAt W q T ∧ Upd [] w W) (fun v _ => 6 - (intOf v).toNat)
      case atStart => exact ⟨0, by omega, rfl, HT4.out, HM4.out, HU4.out⟩
      case round =>
        obtain ⟨k, hk, rfl, ht, hm, hu⟩ := hrel
        have HTk := Lib.hid ht
        have HMk := Lib.hid hm
        have HUk := Lib.hid hu
        clear ht hm hu
        by_cases hlt : k < 6
        · have i1 : (k : Int) < 6 := by omega
          have HP := Lib.hid (parent_any q T (k : Int) _ HMk.out)
          have HP' := Lib.hid (fun W h => parent_any t T' (k : Int) W h)
          have HS := Lib.hid (fun W h => state_any q T (k : Int) W h)
          have HS' := Lib.hid (fun W h => state_any t T' (k : Int) W h)
          rw [(HO.out k hlt).1] at HP'
          have HST := Lib.hid (HO.out k hlt).2
          generalize stP (getP T' (k : Int)) = s1 at *
          generalize stP (getP T (k : Int)) = s2 at *
          generalize parP (getP T (k : Int)) = pk at *
          by_cases hpk : pk = (pid : Int)
          · subst hpk
            rw [if_pos rfl] at HP'
            by_cases hkp : k = pid
            · subst hkp
              have hkb : ((k : Int) == (k : Int)) = true := by simp
              have hkb' : ((k : Int) != (k : Int)) = false := by simp
              go_wp2_with fail
              refine HP.out.mono ?_; rintro e w5 ⟨rfl, hu5⟩
              have HT5 := Lib.hid (HTk.out.upd hu5 (by simp))
              have HM5 := Lib.hid (HMk.out.upd hu5 (by simp))
              have HU5 := Lib.hid (HUk.out.trans0 hu5)
              clear hu5
              go_wp2_with fail
              refine (HP'.out _ HT5.out).mono ?_; rintro e w6 ⟨rfl, hu6⟩
              have HT6 := Lib.hid (HT5.out.upd hu6 (by simp))
              have HM6 := Lib.hid (HM5.out.upd hu6 (by simp))
              have HU6 := Lib.hid (HU5.out.trans0 hu6)
              clear hu6
              go_wp2_with fail
              go_roundw
              case rel => exact ⟨k + 1, by omega, by go_num, HT6.out, HM6.out, HU6.out⟩
              case measure => simp [intOf]; omega
            · have hkb : ((k : Int) == (pid : Int)) = false := by rw [beq_eq_false_iff_ne]; omega
              have hkb' : ((k : Int) != (pid : Int)) = true := by rw [bne_iff_ne]; omega
              have hss := HST.out hkp
              subst hss
              go_wp2_with fail
              refine HP.out.mono ?_; rintro e w5 ⟨rfl, hu5⟩
              have HT5 := Lib.hid (HTk.out.upd hu5 (by simp))
              have HM5 := Lib.hid (HMk.out.upd hu5 (by simp))
              have HU5 := Lib.hid (HUk.out.trans0 hu5)
              clear hu5
              go_wp2_with fail
              refine (HP'.out _ HT5.out).mono ?_; rintro e w6 ⟨rfl, hu6⟩
              have HT6 := Lib.hid (HT5.out.upd hu6 (by simp))
              have HM6 := Lib.hid (HM5.out.upd hu6 (by simp))
              have HU6 := Lib.hid (HU5.out.trans0 hu6)
              clear hu6
              go_wp2_with fail
              refine (HS'.out _ HT6.out).mono ?_; rintro e w' ⟨rfl, rfl⟩
              go_wp2_with fail
              refine (HS.out _ HM6.out).mono ?_; rintro e w' ⟨rfl, rfl⟩
              go_wp2_with fail
              go_roundw
              case rel => exact ⟨k + 1, by omega, by go_num, HT6.out, HM6.out, HU6.out⟩
              case measure => simp [intOf]; omega
          · rw [if_neg hpk] at HP'
            have hpb : (pk == (pid : Int)) = false := by rw [beq_eq_false_iff_ne]; exact hpk
            have hpb2 : (pk != pk) = false := by simp
            clear hpk
            by_cases hkp : k = pid
            · subst hkp
              have hkb : ((k : Int) == (k : Int)) = true := by simp
              have hkb' : ((k : Int) != (k : Int)) = false := by simp
              go_wp2_with fail
              refine HP.out.mono ?_; rintro e w5 ⟨rfl, hu5⟩
              have HT5 := Lib.hid (HTk.out.upd hu5 (by simp))
              have HM5 := Lib.hid (HMk.out.upd hu5 (by simp))
              have HU5 := Lib.hid (HUk.out.trans0 hu5)
              clear hu5
              go_wp2_with fail
              refine (HP'.out _ HT5.out).mono ?_; rintro e w6 ⟨rfl, hu6⟩
              have HT6 := Lib.hid (HT5.out.upd hu6 (by simp))
              have HM6 := Lib.hid (HM5.out.upd hu6 (by simp))
              have HU6 := Lib.hid (HU5.out.trans0 hu6)
              clear hu6
              go_wp2_with fail
              go_roundw
              case rel => exact ⟨k + 1, by omega, by go_num, HT6.out, HM6.out, HU6.out⟩
              case measure => simp [intOf]; omega
            · have hkb : ((k : Int) == (pid : Int)) = false := by rw [beq_eq_false_iff_ne]; omega
              have hkb' : ((k : Int) != (pid : Int)) = true := by rw [bne_iff_ne]; omega
              have hss := HST.out hkp
              subst hss
              go_wp2_with fail
              refine HP.out.mono ?_; rintro e w5 ⟨rfl, hu5⟩
              have HT5 := Lib.hid (HTk.out.upd hu5 (by simp))
              have HM5 := Lib.hid (HMk.out.upd hu5 (by simp))
              have HU5 := Lib.hid (HUk.out.trans0 hu5)
              clear hu5
              go_wp2_with fail
              refine (HP'.out _ HT5.out).mono ?_; rintro e w6 ⟨rfl, hu6⟩
              have HT6 := Lib.hid (HT5.out.upd hu6 (by simp))
              have HM6 := Lib.hid (HM5.out.upd hu6 (by simp))
              have HU6 := Lib.hid (HU5.out.trans0 hu6)
              clear hu6
              go_wp2_with fail
              refine (HS'.out _ HT6.out).mono ?_; rintro e w' ⟨rfl, rfl⟩
              go_wp2_with fail
              refine (HS.out _ HM6.out).mono ?_; rintro e w' ⟨rfl, rfl⟩
              go_wp2_with fail
              go_roundw
              case rel => exact ⟨k + 1, by omega, by go_num, HT6.out, HM6.out, HU6.out⟩
              case measure => simp [intOf]; omega
        · obtain rfl : k = 6 := by omega
          have HS := Lib.hid (fun W h => state_any t T' (pid : Int) W h)
          have HZ := Lib.hid (fun W h => status_any t T' (pid : Int) W h)
          have HC := Lib.hid (fun W h => pchildren_any t T' (pid : Int) W h)
          rw [HE.out] at HS HZ
          rw [HK.out] at HC
          unfold stP at HS
          unfold statP at HZ
          go_wp2_with fail
          refine (HS.out _ HTk.out).mono ?_; rintro e w' ⟨rfl, rfl⟩
          go_wp2_with fail
          refine (HZ.out _ HTk.out).mono ?_; rintro e w5 ⟨rfl, hu5⟩
          have HT5 := Lib.hid (HTk.out.upd hu5 (by simp))
          have HU5 := Lib.hid (HUk.out.trans0 hu5)
          clear hu5
          go_wp2_with fail
          refine (HC.out _ HT5.out).mono ?_; rintro e w6 ⟨v6, rfl, hown, hu6⟩
          rw [ints_nums] at hown
          obtain ⟨A6, c6, rfl, hle6, hrd6, _⟩ := RdV.of_own hown
          have HU6 := Lib.hid (HU5.out.trans0 hu6)
          clear hown hu6 hrd6
          go_wp2_with fail
          go_ret
          exact ⟨by simp, HU6.out⟩

end Go.Proofs.Ytocmochdgidcmaa
