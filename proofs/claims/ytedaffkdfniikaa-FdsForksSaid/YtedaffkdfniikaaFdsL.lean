/- Deeds. -/
import Derived.Test.YtedaffkdfniikaaFdsK
import Derived.Laws.StructEq
namespace Go.Proofs.Ytedaffkdfniikaa
open Go.RowKit Go.Shelf

def deedCs (K P Q N : Int) (o : Op) : List Value := [.int .i64 K, .int .i64 P, .int .i64 Q, .int .i64 N, .int .u8 o.k, .int .i64 o.r, .int .i64 o.p]
def DeedOk (cs : List Value) : Prop := ∃ K P Q N o, cs = deedCs K P Q N o ∧ o.k < 256
/-- A slice of len deeds. -/
def Deeds (w : World) (A : Option Addr) (len : Nat) : Prop :=
  0 < len → ∃ b o, A = some ⟨b, o, none⟩ ∧ ∀ i, i < len → ∃ cs, DeedOk cs ∧ w.rangeAt b (o + i * 7) cs
theorem Deeds.upd {w w' : World} {A : Option Addr} {len : Nat} (h : Deeds w A len) (hu : Upd [] w w') : Deeds w' A len := by
  intro hk
  obtain ⟨b, o, rfl, hc⟩ := h hk
  refine ⟨b, o, rfl, fun i hi => ?_⟩
  obtain ⟨cs, h1, h2⟩ := hc i hi
  exact ⟨cs, h1, fun j v hv => hu.lt_old (h2 j v hv)⟩
theorem under_deed : Try.prog.underlying 32 = some (.struct (Try.prog.fieldsOf 32)) := by kernel_rfl
theorem info_deed : (Try.prog.info? 32).map (·.size) = some 7 := by kernel_rfl
theorem held_open : Try.prog.stoodInHeld 30 = false := by kernel_rfl
theorem eql_open (k r p k' r' p' : Int) (w : World) : (binOp .eql 30 (.agg #[.int .u8 k, .int .i64 r, .int .i64 p]) (.agg #[.int .u8 k', .int .i64 r', .int .i64 p'])).run Try.prog w = .ok (.bool (decide (k = k' ∧ r = r' ∧ p = p'))) w := by
  have u5 := Try.underlying28
  have a5 := Try.isAgg28
  have z5 := Try.sizeOf28
  have u4 := Try.underlying3
  have a4 := Try.isAgg3
  have z4 := Try.sizeOf3
  rw [run_eql_struct, show (10000 : Nat) = 9999 + 1 from rfl, run_equalIn_agg w 9999 _ _ _ under_open held_open]
  simp only [Program.fieldsOf, Try.underlying30]
  go_simp
  by_cases h1 : k = k' <;> by_cases h2 : r = r' <;> by_cases h3 : p = p' <;> simp [h1, h2, h3]
theorem guard_open (op : BinOp) (x y : Operand) (xs ys : Array Value) (w : World) : (eqGuard op 30 x y (.agg xs) (.agg ys)).run Try.prog w = .ok () w := run_eqGuard_agg w op _ _ _ _ _ (by kernel_rfl)

end Go.Proofs.Ytedaffkdfniikaa
