/- The program's processes (package proc): the table, and what is asked of it. -/
import Derived.Test.YtogiegehkhnlmaaRows
import Derived.Test.YtogiegehkhnlmaaLib
import Derived.Lib.SliceRun
import Derived.Deep.MidRow
import Derived.Deep.QuietTactic
import Derived.BigQuiet
import Derived.StillTailTactics
import Derived.Lib.Hide
namespace Go.Proofs.Ytogiegehkhnlmaa
open Go.RowKit

/-- What a place of the table holds. -/
inductive PS where
  | none
  | liv (p : Int)
  | dead (p s : Int)
def encP : PS → Value
  | .none => .nilIface
  | .liv p => .iface 39 (.agg #[.int .i64 p])
  | .dead p s => .iface 43 (.agg #[.int .i64 p, .int .i64 s])
def TabT : TypeId := 37
/-- At t lies a table that holds T. -/
def TabAt (w : World) (t : Nat) (T : List PS) : Prop := Blk w t TabT (T.map encP).toArray ∧ T.length = 6
def getP (T : List PS) (i : Int) : PS := if 0 ≤ i then T.getD i.toNat .none else .none
def stP : PS → Nat
  | .none => 0
  | .liv _ => 1
  | .dead _ _ => 2
def parP : PS → Int
  | .none => -1
  | .liv p => p
  | .dead p _ => p
def statP : PS → Int
  | .dead _ s => s
  | _ => 0

theorem TabAt.cell {w : World} {t : Nat} {T : List PS} (h : TabAt w t T) {i : Nat} (hi : i < 6) : w.cell? ⟨t, i, none⟩ = some (encP (getP T i)) := by
  refine h.1.cellAt ?_
  have hl := h.2
  simp [getP, List.getD, hl, hi]

theorem at_any (t : Nat) (T : List PS) (i : Int) (w : World) (h : TabAt w t T) :
    Calls Try.prog 12 #[.pointer (some ⟨t, 0, none⟩), .int .i64 i] w fun e w' => e = .returned (encP (getP T i)) ∧ w = w' := by
  by_cases hi : 0 ≤ i ∧ i < 6
  · obtain ⟨i0, i1⟩ := hi
    obtain ⟨n, rfl⟩ : ∃ n : Nat, i = n := ⟨i.toNat, by omega⟩
    have hc := h.cell (i := n) (by omega)
    generalize encP (getP T n) = v at *
    clear h
    go_enter Try.func12, Try.ntmps12
    go_wp2
    go_ret
    exact ⟨by simp, rfl⟩
  · have e : getP T i = .none := by
      unfold getP
      split
      · have := h.2
        rw [List.getD, List.getElem?_eq_none (by omega)]; rfl
      · rfl
    rw [e]
    have hi2 : i < 0 ∨ 6 ≤ i := by omega
    clear e h
    rcases hi2 with hi2 | hi2
    · go_enter Try.func12, Try.ntmps12
      go_wp2
      go_ret
      exact ⟨by simp [encP], rfl⟩
    · have hi3 : 0 ≤ i := by omega
      go_enter Try.func12, Try.ntmps12
      go_wp2
      go_ret
      exact ⟨by simp [encP], rfl⟩

theorem asL0 (w : World) : (Instr.typeAssert .nilIface 34 39 true).run Try.prog w = .ok (.tuple #[.agg #[.int .i64 0], .bool false]) w := by kernel_rfl
theorem asL1 (p : Int) (w : World) : (Instr.typeAssert (.iface 39 (.agg #[.int .i64 p])) 34 39 true).run Try.prog w = .ok (.tuple #[.agg #[.int .i64 p], .bool true]) w := by kernel_rfl
theorem asL2 (p s : Int) (w : World) : (Instr.typeAssert (.iface 43 (.agg #[.int .i64 p, .int .i64 s])) 34 39 true).run Try.prog w = .ok (.tuple #[.agg #[.int .i64 0], .bool false]) w := by kernel_rfl
theorem asE0 (w : World) : (Instr.typeAssert .nilIface 34 43 true).run Try.prog w = .ok (.tuple #[.agg #[.int .i64 0, .int .i64 0], .bool false]) w := by kernel_rfl
theorem asE1 (p : Int) (w : World) : (Instr.typeAssert (.iface 39 (.agg #[.int .i64 p])) 34 43 true).run Try.prog w = .ok (.tuple #[.agg #[.int .i64 0, .int .i64 0], .bool false]) w := by kernel_rfl
theorem asE2 (p s : Int) (w : World) : (Instr.typeAssert (.iface 43 (.agg #[.int .i64 p, .int .i64 s])) 34 43 true).run Try.prog w = .ok (.tuple #[.agg #[.int .i64 p, .int .i64 s], .bool true]) w := by kernel_rfl

theorem state_any (t : Nat) (T : List PS) (i : Int) (w : World) (h : TabAt w t T) :
    Calls Try.prog 11 #[.pointer (some ⟨t, 0, none⟩), .int .i64 i] w fun e w' => e = .returned (.int .u8 (stP (getP T i))) ∧ w = w' := by
  have HA := Lib.hid (at_any t T i w h)
  clear h
  generalize getP T i = x at *
  have l0 := asL0
  have l1 := asL1
  have l2 := asL2
  have m0 := asE0
  have m1 := asE1
  have m2 := asE2
  cases x with
  | none =>
    go_enter Try.func11, Try.ntmps11
    go_wp2_with fail
    refine HA.out.mono ?_; rintro e w' ⟨rfl, rfl⟩
    unfold encP
    go_wp2
    go_ret
    exact ⟨by simp [stP], rfl⟩
  | liv p =>
    go_enter Try.func11, Try.ntmps11
    go_wp2_with fail
    refine HA.out.mono ?_; rintro e w' ⟨rfl, rfl⟩
    unfold encP
    go_wp2
    go_ret
    exact ⟨by simp [stP], rfl⟩
  | dead p s =>
    go_enter Try.func11, Try.ntmps11
    go_wp2_with fail
    refine HA.out.mono ?_; rintro e w' ⟨rfl, rfl⟩
    unfold encP
    go_wp2
    go_ret
    exact ⟨by simp [stP], rfl⟩

theorem parent_any (t : Nat) (T : List PS) (i : Int) (w : World) (h : TabAt w t T) :
    Calls Try.prog 14 #[.pointer (some ⟨t, 0, none⟩), .int .i64 i] w fun e w' => e = .returned (.int .i64 (parP (getP T i))) ∧ Upd [] w w' := by
  have HA := Lib.hid (at_any t T i w h)
  clear h
  generalize getP T i = x at *
  have l0 := asL0
  have l1 := asL1
  have l2 := asL2
  have m0 := asE0
  have m1 := asE1
  have m2 := asE2
  cases x with
  | none =>
    go_enter Try.func14, Try.ntmps14
    go_wp2_with fail
    refine HA.out.mono ?_; rintro e w' ⟨rfl, rfl⟩
    unfold encP
    go_wp2
    go_ret
    exact ⟨by simp [parP], by first | exact Upd.refl _ _ | exact (Upd.refl _ _).alloc _ | (refine Upd.alloc ?_ _; exact (Upd.refl _ _).alloc _)⟩
  | liv p =>
    go_enter Try.func14, Try.ntmps14
    go_wp2_with fail
    refine HA.out.mono ?_; rintro e w' ⟨rfl, rfl⟩
    unfold encP
    go_wp2
    go_ret
    exact ⟨by simp [parP], by first | exact Upd.refl _ _ | exact (Upd.refl _ _).alloc _ | (refine Upd.alloc ?_ _; exact (Upd.refl _ _).alloc _)⟩
  | dead p s =>
    go_enter Try.func14, Try.ntmps14
    go_wp2_with fail
    refine HA.out.mono ?_; rintro e w' ⟨rfl, rfl⟩
    unfold encP
    go_wp2
    go_ret
    exact ⟨by simp [parP], by first | exact Upd.refl _ _ | exact (Upd.refl _ _).alloc _ | (refine Upd.alloc ?_ _; exact (Upd.refl _ _).alloc _)⟩

end Go.Proofs.Ytogiegehkhnlmaa
