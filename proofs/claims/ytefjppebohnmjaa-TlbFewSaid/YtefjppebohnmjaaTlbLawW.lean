/- The walk of the statement on how many there are. -/
import Derived.Test.YtefjppebohnmjaaTlbLaws
namespace Go.Proofs.Ytefjppebohnmjaa
open Go.RowKit Go.Shelf

set_option maxRecDepth 100000 in
set_option maxHeartbeats 4000000 in
theorem few_any (A : Option Addr) (len cap : Nat) (w : World) (hd : Deeds w A len) (hlen : len ≤ 9223372036854775807) :
    Calls Try.prog 5 #[.slice A len cap] w (TruePost w) := by
  have HD := Lib.hid hd
  clear hd
  go_enter Try.func5, Try.ntmps5
  go_wp2_with fail
  refine (play_any A len cap _ HD.out hlen).mono ?_; rintro e w1 ⟨t, r, L, rfl, hb, hu⟩
  have HB := Lib.hid hb
  have HU := Lib.hid hu
  clear hb hu
  go_wp2_with fail
  refine (live_any _).mono ?_; rintro e w2 ⟨rfl, hu2⟩
  obtain ⟨⟨o1, o2, hh⟩, hg⟩ := HB.out.upd0 hu2
  have HU2 := Lib.hid (HU.out.trans0 hu2)
  have hle := hg.len
  have HG := Lib.hid hg
  have HH := Lib.hid hh
  clear hu2 hh hg HB
  go_wp2_with fail
  refine (list_any t o1 L _ HH.out.tab).mono ?_; rintro e w3 ⟨A1, c1, rfl, hr3, _, hu3⟩
  have HR3 := Lib.hid hr3.reads
  have HU3 := Lib.hid (HU2.out.trans0 hu3)
  clear hr3 hu3
  generalize hn : L.length = n at *
  have HN := Lib.hid hn
  clear hn
  go_wp2_with fail
  go_loopw [7] (fun v W => ∃ i : Nat, i ≤ n ∧ v = .int .i64 (i : Int) ∧ Upd [] w3 W) (fun v _ => n - (intOf v).toNat)
  case atStart => exact ⟨0, by omega, rfl, Upd.refl _ _⟩
  case round =>
    obtain ⟨i, hi, rfl, hu⟩ := hrel
    have HU4 := Lib.hid hu
    by_cases hlt : i < n
    · have hil : i < L.length := by rw [HN.out]; exact hlt
      obtain ⟨y, hy⟩ : ∃ y, L[i]? = some y := ⟨_, List.getElem?_eq_getElem hil⟩
      obtain ⟨y1, y2⟩ := HG.out.rng y (List.mem_of_getElem? hy)
      obtain ⟨b, o, rfl, hc⟩ := HR3.out (by rw [HN.out]; omega)
      have HY := Lib.hid hy
      have HC := Lib.hid hc
      have p1 := hu.lt_old (hc i y hy 1 (.int .u8 y.p) rfl)
      have p2 := hu.lt_old (hc i y hy 2 (.int .u8 y.f) rfl)
      have j1 : ¬ (16 : Int) ≤ (y.p : Int) := by omega
      have j2 : ¬ (64 : Int) ≤ (y.f : Int) := by omega
      have i0 : (0 : Int) ≤ (i : Int) := by omega
      have i1 : (i : Int) < (n : Int) := by omega
      clear hu hy hc
      go_wp2_with fail
      go_loopw [8] (fun v W => ∃ k : Nat, k ≤ i ∧ v = .int .i64 (k : Int) ∧ Upd [] w3 W) (fun v _ => i - (intOf v).toNat)
      case atStart => exact ⟨0, by omega, rfl, HU4.out⟩
      case round =>
        obtain ⟨k, hk, rfl, hu⟩ := hrel
        have HU5 := Lib.hid hu
        by_cases hkt : k < i
        · obtain ⟨x, hx⟩ : ∃ x, L[k]? = some x := ⟨_, List.getElem?_eq_getElem (by omega)⟩
          have hne : ¬ (x.a = y.a ∧ x.p = y.p) := fun h => by
            have := key_uniq HG.out.key hx HY.out (by unfold keyM; rw [h.1, h.2])
            omega
          have r0 := hu.lt_old (HC.out k x hx 0 (.int .u8 x.a) rfl)
          have r1 := hu.lt_old (HC.out k x hx 1 (.int .u8 x.p) rfl)
          have s0 := hu.lt_old (HC.out i y HY.out 0 (.int .u8 y.a) rfl)
          have s1 := hu.lt_old (HC.out i y HY.out 1 (.int .u8 y.p) rfl)
          rw [Nat.add_zero] at r0 s0
          have k0 : (0 : Int) ≤ (k : Int) := by omega
          have k1 : (k : Int) < (n : Int) := by omega
          have k2 : (k : Int) < (i : Int) := by omega
          by_cases h1 : x.a = y.a
          · have h2 : ¬ x.p = y.p := fun h => hne ⟨h1, h⟩
            have e1 : ((x.a : Int) == (y.a : Int)) = true := by rw [beqN]; simp [h1]
            have e2 : ((x.p : Int) == (y.p : Int)) = false := by rw [beqN]; simp [h2]
            clear hne h1 h2 hu hx
            go_wp2_with fail
            go_quiet (fail)
            go_wp2
            go_roundw
            case rel => exact ⟨k + 1, by omega, by go_num, HU5.out.drewN _⟩
            case measure => simp [intOf]; omega
          · have e1 : ((x.a : Int) == (y.a : Int)) = false := by rw [beqN]; simp [h1]
            clear hne h1 hu hx
            go_wp2_with fail
            go_quiet (fail)
            go_wp2
            go_roundw
            case rel => exact ⟨k + 1, by omega, by go_num, HU5.out.drewN _⟩
            case measure => simp [intOf]; omega
        · obtain rfl : k = i := by omega
          clear hu p1 p2
          go_wp2_with fail
          go_roundw
          case rel => exact ⟨k + 1, by omega, by go_num, HU5.out⟩
          case measure => simp [intOf]; omega
    · obtain rfl : i = n := by omega
      have j8 : (i : Int) ≤ 8 := by omega
      clear hu
      go_wp2_with fail
      go_ret
      refine ⟨by simp, HU3.out.trans0 HU4.out⟩

end Go.Proofs.Ytefjppebohnmjaa
