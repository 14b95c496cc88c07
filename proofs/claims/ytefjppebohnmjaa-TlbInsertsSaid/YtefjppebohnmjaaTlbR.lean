/- Same: two rows of mappings. -/
import Derived.Test.YtefjppebohnmjaaTlbI
namespace Go.Proofs.Ytefjppebohnmjaa
open Go.RowKit Go.Shelf

theorem eqM (m k : Mp) (w : World) : (Op.equalIn 10000 24 (.agg (encM m).toArray) (.agg (encM k).toArray)).run Try.prog w = .ok (decide (m = k)) w := by
  have h := eql_four m.a m.p m.f k.a k.p k.f m.w k.w w
  rw [run_eql_struct] at h
  have h2 : (Op.equalIn 10000 24 (.agg (encM m).toArray) (.agg (encM k).toArray)).run Try.prog w = .ok (decide ((m.a : Int) = k.a ∧ (m.p : Int) = k.p ∧ (m.f : Int) = k.f ∧ m.w = k.w)) w := by
    revert h
    unfold encM
    cases (Op.equalIn 10000 24 (.agg #[.int .u8 m.a, .int .u8 m.p, .int .u8 m.f, .bool m.w]) (.agg #[.int .u8 k.a, .int .u8 k.p, .int .u8 k.f, .bool k.w])).run Try.prog w <;> simp [Result.andThen]
  rw [h2]
  congr 1
  obtain ⟨a, p, f, b⟩ := m
  obtain ⟨a', p', f', b'⟩ := k
  simp only [Mp.mk.injEq]
  rw [Bool.eq_iff_iff, decide_eq_true_eq, decide_eq_true_eq]
  constructor <;> rintro ⟨h1, h2, h3, h4⟩ <;> exact ⟨by omega, by omega, by omega, h4⟩

set_option maxRecDepth 100000 in
set_option maxHeartbeats 2000000 in
theorem same_any (w : World) (A B : Option Addr) (xs ys : List Mp) (n1 n2 c d : Nat) (hA : Reads w A xs) (hB : Reads w B ys) (hx : xs.length = n1) (hy : ys.length = n2) (h1 : n1 ≤ 1000000) (h2 : n2 ≤ 1000000) :
    Calls Try.prog 16 #[.slice A n1 c, .slice B n2 d] w fun e w' => e = .returned (.bool (decide (xs = ys))) ∧ Upd [] w w' := by
  have HA := Lib.hid hA
  have HB := Lib.hid hB
  have HX := Lib.hid hx
  have HY := Lib.hid hy
  clear hA hB hx hy
  by_cases hl : n1 = n2
  · subst hl
    have hb : ((n1 : Int) == (n1 : Int)) = true := by simp
    have hb' : ((n1 : Int) != (n1 : Int)) = false := by simp
    go_enter Try.func16, Try.ntmps16
    go_wp2_with fail
    go_loopw [5] (fun v wr => ∃ j : Nat, j ≤ n1 ∧ v = .int .i64 (j : Int) ∧ Upd [] w wr ∧ xs.take j = ys.take j) (fun v _ => n1 - (intOf v).toNat)
    case atStart => exact ⟨0, by omega, rfl, Upd.refl _ _, by simp⟩
    case round =>
      obtain ⟨j, hj, rfl, hu, hpre⟩ := hrel
      have HP := Lib.hid hpre
      have HU := Lib.hid hu
      clear hpre
      by_cases hlt : j < n1
      · have hx1 : j < xs.length := by rw [HX.out]; exact hlt
        have hy1 : j < ys.length := by rw [HY.out]; exact hlt
        obtain ⟨b1, o1, rfl, hc1⟩ := HA.out.upd hu (by simp) (by omega)
        obtain ⟨b2, o2, rfl, hc2⟩ := HB.out.upd hu (by simp) (by omega)
        have hr1 := hc1 j xs[j] (by simp [hx1])
        have hr2 := hc2 j ys[j] (by simp [hy1])
        have i0 : (0 : Int) ≤ (j : Int) := by omega
        have i1 : (j : Int) < (n1 : Int) := by omega
        have HSZ := Lib.hid (show (Try.prog.info? 24).map (·.size) = some (encM xs[j]).length from info_map)
        have HSY := Lib.hid (show (Try.prog.info? 24).map (·.size) = some (encM ys[j]).length from info_map)
        clear hc1 hc2 hu
        by_cases hq : xs[j] = ys[j]
        · have heq : ∀ w : World, (Op.equalIn 10000 24 (.agg (encM xs[j]).toArray) (.agg (encM ys[j]).toArray)).run Try.prog w = .ok true w := fun w => (eqM _ _ w).trans (by rw [decide_eq_true hq])
          have hfin : xs.take (j + 1) = ys.take (j + 1) := by rw [List.take_succ_eq_append_getElem hx1, List.take_succ_eq_append_getElem hy1, HP.out, hq]
          have HQ := Lib.hid hfin
          clear hfin hq
          generalize xs[j] = p at *
          generalize ys[j] = q at *
          go_wp2_with fail
          refine wp_region_quiet_lit (by kernel_rfl) (by kernel_rfl) ?_
          repeat (first
            | (refine wpQuiet_load_midg rfl 24 _ rfl b1 (o1 + j * 4) rfl _ _ hr1 under_map rfl HSZ.out ?_)
            | (refine wpQuiet_load_midg rfl 24 _ rfl b2 (o2 + j * 4) rfl _ _ hr2 under_map rfl HSY.out ?_)
            | go_big_quiet_step (fail) | quiet_step (fail))
          refine wpQuiet_nil ?_
          intro _ hw'
          obtain ⟨nq, hw''⟩ := hw'
          subst hw''
          go_wp2
          go_roundw
          case rel => exact ⟨j + 1, by omega, by go_num, HU.out.drewN nq, HQ.out⟩
          case measure => simp [intOf]; omega
        · have heq : ∀ w : World, (Op.equalIn 10000 24 (.agg (encM xs[j]).toArray) (.agg (encM ys[j]).toArray)).run Try.prog w = .ok false w := fun w => (eqM _ _ w).trans (by rw [decide_eq_false hq])
          have hfin : decide (xs = ys) = false := by
            rw [decide_eq_false_iff_not]
            rintro rfl
            exact hq rfl
          have HQ := Lib.hid hfin
          clear hfin hq
          generalize xs[j] = p at *
          generalize ys[j] = q at *
          go_wp2_with fail
          refine wp_region_quiet_lit (by kernel_rfl) (by kernel_rfl) ?_
          repeat (first
            | (refine wpQuiet_load_midg rfl 24 _ rfl b1 (o1 + j * 4) rfl _ _ hr1 under_map rfl HSZ.out ?_)
            | (refine wpQuiet_load_midg rfl 24 _ rfl b2 (o2 + j * 4) rfl _ _ hr2 under_map rfl HSY.out ?_)
            | go_big_quiet_step (fail) | quiet_step (fail))
          refine wpQuiet_nil ?_
          intro _ hw'
          obtain ⟨nq, hw''⟩ := hw'
          subst hw''
          go_wp2
          go_ret
          exact ⟨by simp [HQ.out], HU.out.drewN nq⟩
      · obtain rfl : j = n1 := by omega
        have hfin : decide (xs = ys) = true := by
          rw [decide_eq_true_eq]
          have := HP.out
          rw [List.take_of_length_le (by rw [HX.out]; exact Nat.le_refl _), List.take_of_length_le (by rw [HY.out]; exact Nat.le_refl _)] at this
          exact this
        have HQ := Lib.hid hfin
        clear hfin hu
        go_wp2_with fail
        go_ret
        exact ⟨by simp [HQ.out], HU.out⟩
  · have hb : ((n1 : Int) == (n2 : Int)) = false := by rw [beq_eq_false_iff_ne]; omega
    have hb' : ((n1 : Int) != (n2 : Int)) = true := by rw [bne_iff_ne]; omega
    have hfin : decide (xs = ys) = false := by
      rw [decide_eq_false_iff_not]
      rintro rfl
      exact hl (HX.out.symm.trans HY.out)
    have HQ := Lib.hid hfin
    clear hfin
    go_enter Try.func16, Try.ntmps16
    go_wp2_with fail
    go_ret
    exact ⟨by simp [HQ.out], Upd.refl _ _⟩

end Go.Proofs.Ytefjppebohnmjaa
