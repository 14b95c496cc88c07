/- Where a page's mapping stands. -/
import Derived.Test.YtefjppebohnmjaaTlbE
import Derived.Deep.RegionWith
namespace Go.Proofs.Ytefjppebohnmjaa
open Go.RowKit Go.Shelf

def TlbT : TypeId := 58
/-- At t lies one whose mappings, to be read, are L. -/
structure TlbV (w : World) (t : Nat) (A : Option Addr) (cap : Nat) (L : List Mp) : Prop where
  row : Blk w t TlbT #[.slice A L.length cap]
  rd : Reads w A L
  le : L.length ≤ 1000
def isAt (a p : Nat) (m : Mp) : Bool := decide (m.a = a ∧ m.p = p)

theorem of_any (a p : Nat) (w : World) :
    Calls Try.prog 41 #[.int .u8 a, .int .u8 p] w fun e w' =>
      e = .returned (.func (.func 45) #[] #[.pointer (some ⟨w.heap.size, 0, none⟩), .pointer (some ⟨w.heap.size + 1, 0, none⟩)]) ∧
      w' = (w.alloc (.cells #[.int .u8 a] 5)).alloc (.cells #[.int .u8 p] 5) := by
  go_enter Try.func41, Try.ntmps41
  go_wp2
  go_ret
  exact ⟨by simp, rfl⟩
theorem pred_of (a p Ba Bp : Nat) : Pred 45 #[.pointer (some ⟨Ba, 0, none⟩), .pointer (some ⟨Bp, 0, none⟩)] (isAt a p) (fun W => W.cell? ⟨Ba, 0, none⟩ = some (.int .u8 a) ∧ W.cell? ⟨Bp, 0, none⟩ = some (.int .u8 p)) :=
  ⟨enters_of Try.func45 (by kernel_rfl) rfl, fun W m h => of1_any m a p Ba Bp W h.1 h.2, fun _ _ h hu => ⟨hu.lt_old h.1, hu.lt_old h.2⟩⟩

set_option maxRecDepth 100000 in
set_option maxHeartbeats 2000000 in
theorem at_any (t : Nat) (A : Option Addr) (cap : Nat) (L : List Mp) (w : World) (h : TlbV w t A cap L) (a p : Nat) :
    Calls Try.prog 29 #[.pointer (some ⟨t, 0, none⟩), .int .u8 a, .int .u8 p] w fun e w' => e = .returned (.int .i64 (idx (isAt a p) L)) ∧ Upd [] w w' := by
  have htl := h.row.lt
  have hc : w.drew.cell? ⟨t, 0, none⟩ = some (.slice A L.length cap) := h.row.drew.cellAt (i := 0) rfl
  have hc1 : ((w.drew.alloc (.cells #[.int .u8 a] 5)).alloc (.cells #[.int .u8 p] 5)).cell? ⟨t, 0, none⟩ = some (.slice A L.length cap) := ((h.row.drew.alloc _).alloc _).cellAt (i := 0) rfl
  have hb1 := (Blk.new w.drew 5 #[.int .u8 a]).alloc (.cells #[.int .u8 p] 5)
  have hb2 := Blk.new (w.drew.alloc (.cells #[.int .u8 a] 5)) 5 #[.int .u8 p]
  rw [World.size_alloc] at hb2
  have hu : Upd [] w.drew ((w.drew.alloc (.cells #[.int .u8 a] 5)).alloc (.cells #[.int .u8 p] 5)) := ((Upd.refl [] w.drew).alloc _).alloc _
  have HI := Lib.hid (indexFunc_any _ _ _ _ (pred_of a p w.drew.heap.size (w.drew.heap.size + 1)) A cap L ((w.drew.alloc (.cells #[.int .u8 a] 5)).alloc (.cells #[.int .u8 p] 5)) ⟨hb1.cellAt (i := 0) rfl, hb2.cellAt (i := 0) rfl⟩ (h.rd.drew.upd hu (by simp)) h.le)
  have HU := Lib.hid hu
  clear hb1 hb2 hu h
  generalize idx (isAt a p) L = r at *
  generalize L.length = n at *
  generalize hW2 : (w.drew.alloc (.cells #[.int .u8 a] 5)).alloc (.cells #[.int .u8 p] 5) = W2 at *
  have HW2 := Lib.hid hW2
  clear hW2
  go_enter Try.func29, Try.ntmps29
  go_wp2_with fail
  go_region_with (first
    | (go_at_call 41; refine (of_any a p _).mono ?_; rintro e w' ⟨rfl, hw'⟩; rw [HW2.out] at hw'; subst hw')
    | (go_at_call 42; refine HI.out.mono ?_; rintro e w3 ⟨rfl, hu3, _⟩))
  all_goals go_wp2
  all_goals go_ret
  all_goals exact ⟨rfl, (((Upd.refl [] w).drew).trans0 HU.out).trans0 hu3⟩

end Go.Proofs.Ytefjppebohnmjaa
