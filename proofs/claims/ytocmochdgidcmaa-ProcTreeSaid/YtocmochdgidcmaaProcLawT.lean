/- The walk of the statement on the tree. -/
import Derived.Test.YtocmochdgidcmaaProcOpen
namespace Go.Proofs.Ytocmochdgidcmaa
open Go.RowKit

theorem nodup_len : ∀ (n : Nat) (L : List Nat), L.Nodup → (∀ x, x ∈ L → 1 ≤ x ∧ x ≤ n) → L.length ≤ n := by
  intro n
  induction n with
  | zero =>
    intro L _ h
    cases L with
    | nil => simp
    | cons x L => have := h x (by simp); omega
  | succ n ih =>
    intro L hd h
    by_cases hm : n + 1 ∈ L
    · have h1 := ih (L.erase (n + 1)) (hd.erase _) (fun x hx => by
        have h2 := (hd.mem_erase_iff).1 hx
        have := h x h2.2
        omega)
      rw [List.length_erase_of_mem hm] at h1
      omega
    · have := ih L hd (fun x hx => by
        have h2 := h x hx
        have : x ≠ n + 1 := by rintro rfl; exact hm hx
        omega)
      omega
theorem Ord.nodup {T : List PS} : ∀ {L : List Nat}, Ord T L → L.Nodup
  | [], _ => List.nodup_nil
  | _ :: _, h => List.nodup_cons.2 ⟨h.1, Ord.nodup h.2.2.2.2.2⟩
theorem Ord.len {T : List PS} {L : List Nat} (h : Ord T L) : L.length ≤ 5 :=
  nodup_len 5 L h.nodup (fun x hx => by have := h.there x hx; omega)
theorem Ord.up {T : List PS} : ∀ {L : List Nat}, Ord T L → ∀ i, i ∈ L → ∃ (j : Nat) (q : Int) (M : List Nat), parP (getP T (i : Int)) = (j : Int) ∧ getP T (j : Int) = .liv q ∧ Ord T M ∧ M.length < L.length ∧ (j = 0 ∨ j ∈ M)
  | [], _, i, h => by cases h
  | k :: L, h, i, hi => by
    obtain ⟨h1, h2, h3, h4, ⟨j, q, h5, h6, h7⟩, h8⟩ := h
    rcases List.mem_cons.1 hi with rfl | hi
    · exact ⟨j, q, L, h5, h6, h8, by simp, h7⟩
    · obtain ⟨j, q, M, a, b, c, d, e⟩ := Ord.up h8 i hi
      exact ⟨j, q, M, a, b, c, by simp; omega, e⟩
theorem mem_seen {T : List PS} {pid : Int} : ∀ {m x : Nat}, 1 ≤ x → x ≤ m → kidB T pid x = true → x ∈ seen (fun _ => T) pid m := by
  intro m
  induction m with
  | zero => intro x h1 h2; omega
  | succ m ih =>
    intro x h1 h2 h3
    by_cases hx : x = m + 1
    · subst hx
      rw [seen_yes h3]
      simp
    · have := ih h1 (by omega) h3
      unfold seen
      split
      · exact List.mem_append_left _ this
      · exact this
theorem kidsOf_liv {T : List PS} {pid q : Int} (h : getP T pid = .liv q) : kidsOf T pid = kids T pid := by unfold kidsOf; rw [h]

set_option maxRecDepth 100000 in
set_option maxHeartbeats 4000000 in
theorem tree_any (A : Option Addr) (len cap : Nat) (w : World) (hd : Deeds w A len) (hlen : len ≤ 9223372036854775807) :
    Calls Try.prog 3 #[.slice A len cap] w (TruePost w) := by
  have HD := Lib.hid hd
  clear hd
  go_enter Try.func3, Try.ntmps3
  go_wp2_with fail
  refine (play_any A len cap _ HD.out hlen).mono ?_; rintro e w1 ⟨t, r, T, rfl, hb, hu, _, _⟩
  have HB := Lib.hid hb
  have HU := Lib.hid hu
  clear hb hu HD
  go_wp2_with fail
  refine (live_any _).mono ?_; rintro e w2 ⟨rfl, hu2⟩
  have HT := Lib.hid (HB.out.tab.upd hu2 (by simp))
  have HG := Lib.hid HB.out.good
  have HU2 := Lib.hid (HU.out.trans0 hu2)
  clear hu2 HU HB
  go_wp2_with fail
  go_loopw [6] (fun v wr => ∃ p : Nat, 1 ≤ p ∧ p ≤ 6 ∧ v = .int .i64 (p : Int) ∧ TabAt wr t T ∧ Upd [] w wr) (fun v _ => 6 - (intOf v).toNat)
  case atStart => exact ⟨1, by omega, by omega, rfl, HT.out, HU2.out⟩
  case round =>
    obtain ⟨p, hp1, hp6, rfl, ht, hu⟩ := hrel
    have HT := Lib.hid ht
    have HU := Lib.hid hu
    clear ht hu HU2
    by_cases hlt : p < 6
    · have i1 : (p : Int) < 6 := by omega
      have HS := Lib.hid (state_any t T (p : Int) _ HT.out)
      by_cases hn : getP T (p : Int) = .none
      · rw [hn] at HS
        unfold stP at HS
        clear hn
        go_wp2_with fail
        refine HS.out.mono ?_; rintro e w' ⟨rfl, rfl⟩
        go_wp2_with fail
        go_roundw
        case rel => exact ⟨p + 1, by omega, by omega, by go_num, HT.out, HU.out⟩
        case measure => simp [intOf]; omega
      · have hk0 : ((stP (getP T (p : Int)) : Int) == 0) = false := by
          cases hx : getP T (p : Int) with
          | none => exact absurd hx hn
          | liv p => rfl
          | dead p s => rfl
        obtain ⟨L, hL, hall⟩ := HG.out.ord
        have hmem := hall p hp1 hlt hn
        have hKB : Hid (∃ (j : Nat) (q : Int), parP (getP T (p : Int)) = (j : Int) ∧ getP T (j : Int) = .liv q ∧ p ∈ kidsOf T (j : Int)) := Lib.hid (by
          obtain ⟨j, q, h1, h2, h3⟩ := hL.parent p hmem
          refine ⟨j, q, h1, h2, ?_⟩
          rw [kidsOf_liv h2]
          exact mem_seen hp1 (by omega) (by rw [kid_par hn, h1]; simp))
        have HL := Lib.hid (⟨hL, hL.len, hmem⟩ : Ord T L ∧ L.length ≤ 5 ∧ p ∈ L)
        clear hL hall hmem hn
        generalize stP (getP T (p : Int)) = q0 at *
        go_wp2_with fail
        refine HS.out.mono ?_; rintro e w' ⟨rfl, rfl⟩
        go_wp2_with fail
        go_loopw [7, 8] (fun vq vi W => ∃ (q i : Nat), i ≤ 5 ∧ vq = .int .i64 (q : Int) ∧ vi = .int .i64 (i : Int) ∧ (q = 0 ∨ ∃ M, Ord T M ∧ q ∈ M ∧ M.length + i ≤ 5) ∧ TabAt W t T ∧ Upd [] w W) (fun _ vi _ => 6 - (intOf vi).toNat)
        case atStart => exact ⟨p, 0, by omega, rfl, rfl, .inr ⟨L, HL.out.1, HL.out.2.2, by have := HL.out.2.1; omega⟩, HT.out, HU.out⟩
        case round =>
          obtain ⟨q, i, hi, rfl, rfl, hM, ht, hu⟩ := hrel
          have HT2 := Lib.hid ht
          have HU2 := Lib.hid hu
          clear ht hu
          by_cases hq : q = 0
          · subst hq
            clear hM
            obtain ⟨j, q, h1, h2, h3⟩ := hKB.out
            have HP := Lib.hid (parent_any t T (p : Int) _ HT2.out)
            rw [h1] at HP
            have HC := Lib.hid (fun W h => pchildren_any t T (j : Int) W h)
            have HL5 : Hid ((kidsOf T (j : Int)).length ≤ 5) := Lib.hid (by rw [kidsOf_liv h2]; exact seen_le _ _ 5)
            have HM := Lib.hid h3
            clear h1 h2 h3 hKB
            generalize kidsOf T (j : Int) = ks at *
            go_wp2_with fail
            refine HP.out.mono ?_; rintro e w3 ⟨rfl, hu3⟩
            have HT3 := Lib.hid (HT2.out.upd hu3 (by simp))
            have HU3 := Lib.hid (HU2.out.trans0 hu3)
            clear hu3
            go_wp2_with fail
            refine (HC.out _ HT3.out).mono ?_; rintro e w4 ⟨v4, rfl, hown, hu4⟩
            rw [ints_nums] at hown
            obtain ⟨A4, c4, rfl, hle4, hrd4, _⟩ := RdV.of_own hown
            have HT4 := Lib.hid (HT3.out.upd hu4 (by simp))
            have HU4 := Lib.hid (HU3.out.trans0 hu4)
            have HR4 := Lib.hid hrd4
            clear hown hu4 hrd4
            have hl5 := HL5.out
            go_wp2_with fail
            go_loopw [10, 11] (fun vf vi W => ∃ (i : Nat) (d : Bool), i ≤ ks.length ∧ vf = .bool d ∧ vi = .int .i64 (i : Int) ∧ W = w4 ∧ d = decide (p ∈ ks.take i)) (fun _ vi _ => ks.length - (intOf vi).toNat)
            case atStart => exact ⟨0, false, by omega, rfl, rfl, rfl, by simp⟩
            case round =>
              obtain ⟨i, d, hi, rfl, rfl, rfl, hdd⟩ := hrel
              have HDD := Lib.hid hdd
              clear hdd
              by_cases hil : i < ks.length
              · obtain ⟨b, o, rfl, hsrc⟩ := HR4.out (by simp [nums_length]; omega)
                have hrd := hsrc i (.int .i64 (ks[i] : Int)) (by simp [nums, hil])
                have j0 : (0 : Int) ≤ (i : Int) := by omega
                have j1 : (i : Int) < (ks.length : Int) := by omega
                have kq : ((ks[i] : Int) == (p : Int)) = decide (ks[i] = p) := by rw [Bool.eq_iff_iff, beq_iff_eq, decide_eq_true_eq]; omega
                have HNX := Lib.hid (show (d || decide (ks[i] = p)) = decide (p ∈ ks.take (i + 1)) by
                  rw [HDD.out, List.take_succ_eq_append_getElem hil, Bool.eq_iff_iff]
                  simp only [Bool.or_eq_true, decide_eq_true_eq, List.mem_append, List.mem_singleton]
                  constructor
                  · rintro (h | h)
                    · exact .inl h
                    · exact .inr h.symm
                  · rintro (h | h)
                    · exact .inl h
                    · exact .inr h.symm)
                generalize decide (ks[i] = p) = qd at *
                generalize (ks[i] : Int) = sj at *
                clear hsrc
                cases d
                · go_wp2_with fail
                  go_roundw
                  case rel => exact ⟨i + 1, qd, by omega, rfl, by go_num, by first | rfl | trivial, by simpa using HNX.out⟩
                  case measure => simp [intOf]; omega
                · go_wp2_with fail
                  go_roundw
                  case rel => exact ⟨i + 1, true, by omega, rfl, by go_num, by first | rfl | trivial, by simpa using HNX.out⟩
                  case measure => simp [intOf]; omega
              · obtain rfl : i = ks.length := by omega
                obtain rfl : d = true := by
                  rw [HDD.out, List.take_of_length_le (Nat.le_refl _)]
                  simpa using HM.out
                go_wp2_with fail
                go_roundw
                case rel => exact ⟨p + 1, by omega, by omega, by go_num, HT4.out, HU4.out⟩
                case measure => simp [intOf]; omega
          · have hq' : ((q : Int) == 0) = false := by rw [beq_eq_false_iff_ne]; omega
            rcases hM with hM | ⟨M, hM, hqM, hMl⟩
            · exact absurd hM hq
            · have hi5 : (i : Int) < 6 := by omega
              obtain ⟨j, q', M', h1, h2, h3, h4, h5⟩ := hM.up q hqM
              have HP := Lib.hid (parent_any t T (q : Int) _ HT2.out)
              have HS2 := Lib.hid (fun W h => state_any t T (j : Int) W h)
              rw [h1] at HP
              rw [h2] at HS2
              unfold stP at HS2
              have hil : 1 ≤ M.length := by
                cases M with
                | nil => cases hqM
                | cons a M => simp
              have HN : Hid (j = 0 ∨ ∃ M, Ord T M ∧ j ∈ M ∧ M.length + (i + 1) ≤ 5) := Lib.hid (by
                rcases h5 with h5 | h5
                · exact .inl h5
                · exact .inr ⟨M', h3, h5, by omega⟩)
              clear h1 h2 h3 h4 h5 hqM hM
              go_wp2_with fail
              refine HP.out.mono ?_; rintro e w3 ⟨rfl, hu3⟩
              have HT3 := Lib.hid (HT2.out.upd hu3 (by simp))
              have HU3 := Lib.hid (HU2.out.trans0 hu3)
              clear hu3
              go_wp2_with fail
              refine (HS2.out _ HT3.out).mono ?_; rintro e w' ⟨rfl, rfl⟩
              go_wp2_with fail
              go_roundw
              case rel => exact ⟨j, i + 1, by omega, by first | rfl | trivial, by go_num, HN.out, HT3.out, HU3.out⟩
              case measure => simp [intOf]; omega
    · obtain rfl : p = 6 := by omega
      have HS := Lib.hid (state_any t T 0 _ HT.out)
      have HP := Lib.hid (fun W h => parent_any t T 0 W h)
      rw [HG.out.zero] at HS HP
      unfold stP at HS
      unfold parP at HP
      go_wp2_with fail
      refine HS.out.mono ?_; rintro e w' ⟨rfl, rfl⟩
      go_wp2_with fail
      refine (HP.out _ HT.out).mono ?_; rintro e w3 ⟨rfl, hu3⟩
      have HU3 := Lib.hid (HU.out.trans0 hu3)
      clear hu3
      go_wp2_with fail
      go_ret
      exact ⟨by simp, HU3.out⟩

end Go.Proofs.Ytocmochdgidcmaa
