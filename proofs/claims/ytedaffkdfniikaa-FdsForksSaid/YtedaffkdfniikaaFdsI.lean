/- Rows of ints: how they are held against one another. -/
import Derived.Test.YtedaffkdfniikaaFdsB
import Derived.Maps.AppendAt
namespace Go.Proofs.Ytedaffkdfniikaa
open Go.RowKit

theorem sameInts_any (w : World) (A B : Option Addr) (xs ys : List Int) (c d : Nat) (hA : RdV w A (xs.map (Value.int .i64))) (hB : RdV w B (ys.map (Value.int .i64))) (hx : xs.length ≤ 1000000) (hy : ys.length ≤ 1000000) :
    Calls Try.prog 33 #[.slice A xs.length c, .slice B ys.length d] w fun e w' => e = .returned (.bool (decide (xs = ys))) ∧ ∃ k, w' = w.drewN k := by
  have HA := Lib.hid hA
  have HB := Lib.hid hB
  clear hA hB
  by_cases hl : xs.length = ys.length
  · generalize hK : xs.length = K at *
    have HX := Lib.hid hK
    have HY := Lib.hid hl
    rw [← hl]
    have hb : ((K : Int) == (K : Int)) = true := by simp
    have hb' : ((K : Int) != (K : Int)) = false := by simp
    clear hK hl
    go_enter Try.func33, Try.ntmps33
    go_wp2_with fail
    go_loopw [5] (fun v wr => ∃ j k : Nat, j ≤ K ∧ v = .int .i64 (j : Int) ∧ wr = w.drewN k ∧ xs.take j = ys.take j) (fun v _ => K - (intOf v).toNat)
    case atStart => exact ⟨0, 0, by omega, rfl, rfl, by simp⟩
    case round =>
      obtain ⟨j, k, hj, rfl, rfl, hpre⟩ := hrel
      have HP := Lib.hid hpre
      clear hpre
      by_cases hlt : j < K
      · have hx1 : j < xs.length := by rw [HX.out]; exact hlt
        have hy1 : j < ys.length := by rw [← HY.out]; exact hlt
        obtain ⟨b1, o1, rfl, hc1⟩ := HA.out (by simp; omega)
        obtain ⟨b2, o2, rfl, hc2⟩ := HB.out (by simp; omega)
        have hr1 := hc1 j (.int .i64 xs[j]) (by simp [hx1])
        have hr2 := hc2 j (.int .i64 ys[j]) (by simp [hy1])
        have i0 : (0 : Int) ≤ (j : Int) := by omega
        have i1 : (j : Int) < (K : Int) := by omega
        clear hc1 hc2
        by_cases hq : xs[j] = ys[j]
        · have hbq : (xs[j] == ys[j]) = true := by simp [hq]
          have hbq' : (xs[j] != ys[j]) = false := by simp [hq]
          have hfin : xs.take (j + 1) = ys.take (j + 1) := by rw [List.take_succ_eq_append_getElem hx1, List.take_succ_eq_append_getElem hy1, HP.out, hq]
          have HQ := Lib.hid hfin
          clear hfin hq
          generalize xs[j] = p at *
          generalize ys[j] = q at *
          go_wp2_with fail
          go_quiet (fail)
          go_wp2
          go_roundw
          case rel => exact ⟨j + 1, _, by omega, by go_num, rfl, HQ.out⟩
          case measure => simp [intOf]; omega
        · have hbq : (xs[j] == ys[j]) = false := by simp [hq]
          have hbq' : (xs[j] != ys[j]) = true := by simp [hq]
          have hfin : decide (xs = ys) = false := by
            rw [decide_eq_false_iff_not]
            rintro rfl
            exact hq rfl
          have HQ := Lib.hid hfin
          clear hfin hq
          generalize xs[j] = p at *
          generalize ys[j] = q at *
          go_wp2_with fail
          go_quiet (fail)
          go_wp2
          go_ret
          exact ⟨by simp [HQ.out], _, World.drewN_drewN _ _ _⟩
      · have hjk : j = K := by omega
        subst hjk
        have hfin : decide (xs = ys) = true := by
          have := HP.out
          rw [List.take_of_length_le (by rw [HX.out]; omega), List.take_of_length_le (by rw [← HY.out]; omega)] at this
          simp [this]
        have HQ := Lib.hid hfin
        clear hfin
        go_wp2
        go_ret
        exact ⟨by simp [HQ.out], _, rfl⟩
  · have hb : ((xs.length : Int) == (ys.length : Int)) = false := by rw [beq_eq_false_iff_ne]; omega
    have hb' : ((xs.length : Int) != (ys.length : Int)) = true := by rw [bne_iff_ne]; omega
    have hfin : decide (xs = ys) = false := by
      rw [decide_eq_false_iff_not]
      rintro rfl
      exact hl rfl
    have HQ := Lib.hid hfin
    clear hfin hl
    generalize xs.length = a at *
    generalize ys.length = b at *
    go_enter Try.func33, Try.ntmps33
    go_wp2_with fail
    go_ret
    exact ⟨by simp [HQ.out], 0, rfl⟩


def ints (l : List Nat) : List Value := l.map fun (k : Nat) => .int .i64 (k : Int)
def nums (l : List Nat) : List Int := l.map fun (k : Nat) => (k : Int)
theorem ints_nums (l : List Nat) : ints l = (nums l).map (Value.int .i64) := by simp [ints, nums]
theorem nums_length (l : List Nat) : (nums l).length = l.length := by simp [nums]
theorem own_mono {w : World} {base base' : Nat} {e : TypeId} {size n : Nat} {v : Value} {xs : List Value} (h : w.ownsRow base e size v n xs) (hb : base' ≤ base) : w.ownsRow base' e size v n xs := by
  refine ⟨h.1, ?_⟩
  rcases h.2 with hn | ⟨g, cap, cur, h1, h2, h3⟩
  · exact .inl hn
  · exact .inr ⟨g, cap, cur, h1, Nat.le_trans hb h2, h3⟩
theorem own_upd {w w' : World} {base : Nat} {e : TypeId} {size n : Nat} {v : Value} {xs : List Value} (h : w.ownsRow base e size v n xs) (hu : Upd [] w w') : w'.ownsRow base e size v n xs :=
  h.kept (row := none) ⟨hu.os, hu.tape, hu.output, hu.size, fun i hi _ => hu.block i hi (by simp)⟩ (by cases v.ownBlock <;> simp)
theorem info_int : (Try.prog.info? 3).map (fun i => (i.zero, i.size, i.bytes)) = some (some (.int .i64 0), 1, 8) := by kernel_rfl
theorem under_ints : Try.prog.underlying 52 = some (.slice 3) := by kernel_rfl


theorem info_parts {P : Program} {ty : TypeId} {v : Value} {a b : Nat} (h : (P.info? ty).map (fun i => (i.zero, i.size, i.bytes)) = some (some v, a, b)) : ∃ i, P.info? ty = some i ∧ i.zero = some v ∧ i.size = a ∧ i.bytes = b := by
  cases hq : P.info? ty with
  | none => rw [hq] at h; cases h
  | some i =>
    rw [hq] at h
    simp at h
    exact ⟨i, rfl, h.1, h.2.1, h.2.2⟩

end Go.Proofs.Ytedaffkdfniikaa
