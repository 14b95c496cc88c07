/- Mappings: what the program's predicates on them say. -/
import Derived.Test.YtefjppebohnmjaaRows
import Derived.Test.YtefjppebohnmjaaLib
import Derived.Laws.StructEq
namespace Go.Proofs.Ytefjppebohnmjaa
open Go.RowKit

/-- A mapping: address space, page, frame, may it be written. -/
structure Mp where
  a : Nat
  p : Nat
  f : Nat
  w : Bool
deriving DecidableEq, Inhabited
def encM (m : Mp) : List Value := [.int .u8 m.a, .int .u8 m.p, .int .u8 m.f, .bool m.w]
theorem encM_length (m : Mp) : (encM m).length = 4 := rfl
theorem beqN (x y : Nat) : ((x : Int) == (y : Int)) = decide (x = y) := by rw [Bool.eq_iff_iff, beq_iff_eq, decide_eq_true_eq]; omega
theorem decN (x y : Nat) : decide ((x : Int) = (y : Int)) = decide (x = y) := by rw [Bool.eq_iff_iff, decide_eq_true_eq, decide_eq_true_eq]; omega
theorem under_map : Try.prog.underlying 24 = some (.struct (Try.prog.fieldsOf 24)) := by kernel_rfl
theorem info_map : (Try.prog.info? 24).map (·.size) = some 4 := by kernel_rfl
theorem held_map : Try.prog.stoodInHeld 24 = false := by kernel_rfl
theorem eql_four (a p f a' p' f' : Int) (b b' : Bool) (w : World) : (binOp .eql 24 (.agg #[.int .u8 a, .int .u8 p, .int .u8 f, .bool b]) (.agg #[.int .u8 a', .int .u8 p', .int .u8 f', .bool b'])).run Try.prog w = .ok (.bool (decide (a = a' ∧ p = p' ∧ f = f' ∧ b = b'))) w := by
  have u5 := Try.underlying5
  have a5 := Try.isAgg5
  have z5 := Try.sizeOf5
  have u4 := Try.underlying4
  have a4 := Try.isAgg4
  have z4 := Try.sizeOf4
  rw [run_eql_struct, show (10000 : Nat) = 9999 + 1 from rfl, run_equalIn_agg w 9999 _ _ _ under_map held_map]
  simp only [Program.fieldsOf, Try.underlying24]
  go_simp
  by_cases h1 : a = a' <;> by_cases h2 : p = p' <;> by_cases h3 : f = f' <;> cases b <;> cases b' <;> simp [h1, h2, h3]
theorem guard_map (op : BinOp) (x y : Operand) (xs ys : Array Value) (w : World) : (eqGuard op 24 x y (.agg xs) (.agg ys)).run Try.prog w = .ok () w := run_eqGuard_agg w op _ _ _ _ _ (by kernel_rfl)

set_option maxHeartbeats 1000000 in
/-- The predicate 'of address space a, page p'. -/
theorem of1_any (m : Mp) (a p Ba Bp : Nat) (w : World) (ha : w.cell? ⟨Ba, 0, none⟩ = some (.int .u8 a)) (hp : w.cell? ⟨Bp, 0, none⟩ = some (.int .u8 p)) :
    Calls Try.prog 45 #[.agg (encM m).toArray, .pointer (some ⟨Ba, 0, none⟩), .pointer (some ⟨Bp, 0, none⟩)] w fun e w' =>
      e = .returned (.bool (decide (m.a = a ∧ m.p = p))) ∧ Upd [] w w' := by
  have hla : Ba < w.heap.size := World.block_lt_of_cell? w ⟨Ba, 0, none⟩ ha
  have hlp : Bp < w.heap.size := World.block_lt_of_cell? w ⟨Bp, 0, none⟩ hp
  have he := eql_four
  have hgd := guard_map
  unfold encM
  go_enter Try.func45, Try.ntmps45
  go_wp2
  go_ret
  refine ⟨by simp [decN], ?_⟩
  first | exact ((Upd.refl [] w).alloc _).alloc _ | exact (((Upd.refl [] w).alloc _).alloc _).drew
set_option maxHeartbeats 1000000 in
theorem asid1_any (m : Mp) (a Ba : Nat) (w : World) (ha : w.cell? ⟨Ba, 0, none⟩ = some (.int .u8 a)) :
    Calls Try.prog 33 #[.agg (encM m).toArray, .pointer (some ⟨Ba, 0, none⟩)] w fun e w' =>
      e = .returned (.bool (decide (m.a = a))) ∧ Upd [] w w' := by
  have hla : Ba < w.heap.size := World.block_lt_of_cell? w ⟨Ba, 0, none⟩ ha
  unfold encM
  go_enter Try.func33, Try.ntmps33
  go_wp2
  go_ret
  refine ⟨?_, (Upd.refl [] w).alloc _⟩
  simp [beqN]
set_option maxHeartbeats 1000000 in
theorem frame1_any (m : Mp) (a Ba : Nat) (w : World) (ha : w.cell? ⟨Ba, 0, none⟩ = some (.int .u8 a)) :
    Calls Try.prog 34 #[.agg (encM m).toArray, .pointer (some ⟨Ba, 0, none⟩)] w fun e w' =>
      e = .returned (.bool (decide (m.f = a))) ∧ Upd [] w w' := by
  have hla : Ba < w.heap.size := World.block_lt_of_cell? w ⟨Ba, 0, none⟩ ha
  unfold encM
  go_enter Try.func34, Try.ntmps34
  go_wp2
  go_ret
  refine ⟨?_, (Upd.refl [] w).alloc _⟩
  simp [beqN]

end Go.Proofs.Ytefjppebohnmjaa
