/- runs: the program's and the reference's. -/
import Derived.Test.YtogiegehkhnlmaaTfC
import Derived.Laws.ResultCell
namespace Go.Proofs.Ytogiegehkhnlmaa
open Go.RowKit

def runE : PS → Int
  | .liv _ => 0
  | _ => 5
def runP : PS → Int
  | .liv p => p
  | _ => 0

theorem under_living : Try.prog.underlying 39 = some (.struct (Try.prog.fieldsOf 39)) := by kernel_rfl
theorem info_living : (Try.prog.info? 39).map (·.size) = some 1 := by kernel_rfl
theorem load_living (w : World) (b : Nat) (v : Value) (h : w.cell? ⟨b, 0, none⟩ = some v) : (loadVar 39 ⟨b, 0, none⟩).run Try.prog w = .ok (.agg #[v]) w :=
  run_loadVar_mid w b 0 39 [v] _ (fun j u hj => by
    match j, hj with
    | 0, hj => injection hj with hj; subst hj; exact h) under_living rfl info_living

theorem runs_any (t : Nat) (T : List PS) (i : Int) (w : World) (h : TabAt w t T) :
    Calls Try.prog 9 #[.pointer (some ⟨t, 0, none⟩), .int .i64 i] w fun e w' => e = .returned (.tuple #[.agg #[.int .i64 (runP (getP T i))], .int .i64 (runE (getP T i))]) ∧ Upd [] w w' := by
  have HA := Lib.hid (fun W hW => at_any t T i W hW)
  have HT := Lib.hid (fun o => (⟨h.1.alloc o, h.2⟩ : TabAt (w.alloc o) t T))
  clear h
  have l0 := asL0
  have l1 := asL1
  have l2 := asL2
  generalize getP T i = x at *
  cases x with
  | none =>
    go_enter Try.func9, Try.ntmps9
    go_wp2_with fail
    refine (HA.out _ (HT.out _)).mono ?_; rintro e w' ⟨rfl, rfl⟩
    unfold encP
    go_wp2
    have hb := (Blk.new w 39 #[.int .i64 0]).alloc (.cells #[.int .i64 0] 39)
    have hl := load_living _ w.heap.size (.int .i64 0) (hb.cellAt (i := 0) rfl)
    refine bodyPost_ret (v := .tuple #[.agg #[.int .i64 0], .int .i64 5]) (by rw [results_cell_tmp rfl]; simp [asAddr, hl, Result.andThen]) rfl ?_
    exact ⟨by simp [runP, runE], ((Upd.refl _ _).alloc _).alloc _⟩
  | liv p =>
    go_enter Try.func9, Try.ntmps9
    go_wp2_with fail
    refine (HA.out _ (HT.out _)).mono ?_; rintro e w' ⟨rfl, rfl⟩
    unfold encP
    go_wp2
    have hb := (Blk.new w 39 #[.int .i64 p]).alloc (.cells #[.int .i64 p] 39)
    have hl := load_living _ w.heap.size (.int .i64 p) (hb.cellAt (i := 0) rfl)
    refine bodyPost_ret (v := .tuple #[.agg #[.int .i64 p], .int .i64 0]) (by rw [results_cell_tmp rfl]; simp [asAddr, hl, Result.andThen]) rfl ?_
    exact ⟨by simp [runP, runE], ((Upd.refl _ _).alloc _).alloc _⟩
  | dead p s =>
    go_enter Try.func9, Try.ntmps9
    go_wp2_with fail
    refine (HA.out _ (HT.out _)).mono ?_; rintro e w' ⟨rfl, rfl⟩
    unfold encP
    go_wp2
    have hb := (Blk.new w 39 #[.int .i64 0]).alloc (.cells #[.int .i64 0] 39)
    have hl := load_living _ w.heap.size (.int .i64 0) (hb.cellAt (i := 0) rfl)
    refine bodyPost_ret (v := .tuple #[.agg #[.int .i64 0], .int .i64 5]) (by rw [results_cell_tmp rfl]; simp [asAddr, hl, Result.andThen]) rfl ?_
    exact ⟨by simp [runP, runE], ((Upd.refl _ _).alloc _).alloc _⟩

end Go.Proofs.Ytogiegehkhnlmaa
