/- runs: the program's and the reference's. -/
import Derived.Test.YtocmochdgidcmaaProcC
import Derived.Laws.ResultCell
namespace Go.Proofs.Ytocmochdgidcmaa
open Go.RowKit

def runE : PS → Int
  | .liv _ => 0
  | _ => 5
def runP : PS → Int
  | .liv p => p
  | _ => 0

theorem rruns_any (r : Nat) (T : List PS) (i : Int) (w : World) (h : RTabAt w r T) :
    Calls Try.prog 40 #[.pointer (some ⟨r, 0, none⟩), .int .i64 i] w fun e w' => e = .returned (.int .i64 (runE (getP T i))) ∧ w = w' := by
  by_cases hi : 0 ≤ i ∧ i < 6
  · obtain ⟨i0, i1⟩ := hi
    obtain ⟨n, rfl⟩ : ∃ n : Nat, i = n := ⟨i.toNat, by omega⟩
    have hc := h.cell (i := n) (by omega) (j := 0) (by omega) (encR_0 _)
    clear h
    simp only [Nat.add_zero] at hc
    generalize getP T n = x at *
    cases x
    all_goals
      simp only [stP] at hc
      go_enter Try.func40, Try.ntmps40
      go_wp2
      go_ret
      exact ⟨by simp [runE], rfl⟩
  · have hi2 : i < 0 ∨ 6 ≤ i := by omega
    rw [getP_out h.2 hi2]
    clear h
    rcases hi2 with hi2 | hi2
    · go_enter Try.func40, Try.ntmps40
      go_wp2
      go_ret
      exact ⟨by simp [runE], rfl⟩
    · have hi3 : 0 ≤ i := by omega
      go_enter Try.func40, Try.ntmps40
      go_wp2
      go_ret
      exact ⟨by simp [runE], rfl⟩

theorem under_living : Try.prog.underlying 55 = some (.struct (Try.prog.fieldsOf 55)) := by kernel_rfl
theorem info_living : (Try.prog.info? 55).map (·.size) = some 1 := by kernel_rfl
theorem load_living (w : World) (b : Nat) (v : Value) (h : w.cell? ⟨b, 0, none⟩ = some v) : (loadVar 55 ⟨b, 0, none⟩).run Try.prog w = .ok (.agg #[v]) w :=
  run_loadVar_mid w b 0 55 [v] _ (fun j u hj => by
    match j, hj with
    | 0, hj => injection hj with hj; subst hj; exact h) under_living rfl info_living

theorem runs_any (t : Nat) (T : List PS) (i : Int) (w : World) (h : TabAt w t T) :
    Calls Try.prog 28 #[.pointer (some ⟨t, 0, none⟩), .int .i64 i] w fun e w' => e = .returned (.tuple #[.agg #[.int .i64 (runP (getP T i))], .int .i64 (runE (getP T i))]) ∧ Upd [] w w' := by
  have HA := Lib.hid (fun W hW => at_any t T i W hW)
  have HT := Lib.hid (fun o => (⟨h.1.alloc o, h.2⟩ : TabAt (w.alloc o) t T))
  clear h
  have l0 := asL0
  have l1 := asL1
  have l2 := asL2
  generalize getP T i = x at *
  cases x with
  | none =>
    go_enter Try.func28, Try.ntmps28
    go_wp2_with fail
    refine (HA.out _ (HT.out _)).mono ?_; rintro e w' ⟨rfl, rfl⟩
    unfold encP
    go_wp2
    have hb := (Blk.new w 55 #[.int .i64 0]).alloc (.cells #[.int .i64 0] 55)
    have hl := load_living _ w.heap.size (.int .i64 0) (hb.cellAt (i := 0) rfl)
    refine bodyPost_ret (v := .tuple #[.agg #[.int .i64 0], .int .i64 5]) (by rw [results_cell_tmp rfl]; simp [asAddr, hl, Result.andThen]) rfl ?_
    exact ⟨by simp [runP, runE], ((Upd.refl _ _).alloc _).alloc _⟩
  | liv p =>
    go_enter Try.func28, Try.ntmps28
    go_wp2_with fail
    refine (HA.out _ (HT.out _)).mono ?_; rintro e w' ⟨rfl, rfl⟩
    unfold encP
    go_wp2
    have hb := (Blk.new w 55 #[.int .i64 p]).alloc (.cells #[.int .i64 p] 55)
    have hl := load_living _ w.heap.size (.int .i64 p) (hb.cellAt (i := 0) rfl)
    refine bodyPost_ret (v := .tuple #[.agg #[.int .i64 p], .int .i64 0]) (by rw [results_cell_tmp rfl]; simp [asAddr, hl, Result.andThen]) rfl ?_
    exact ⟨by simp [runP, runE], ((Upd.refl _ _).alloc _).alloc _⟩
  | dead p s =>
    go_enter Try.func28, Try.ntmps28
    go_wp2_with fail
    refine (HA.out _ (HT.out _)).mono ?_; rintro e w' ⟨rfl, rfl⟩
    unfold encP
    go_wp2
    have hb := (Blk.new w 55 #[.int .i64 0]).alloc (.cells #[.int .i64 0] 55)
    have hl := load_living _ w.heap.size (.int .i64 0) (hb.cellAt (i := 0) rfl)
    refine bodyPost_ret (v := .tuple #[.agg #[.int .i64 0], .int .i64 5]) (by rw [results_cell_tmp rfl]; simp [asAddr, hl, Result.andThen]) rfl ?_
    exact ⟨by simp [runP, runE], ((Upd.refl _ _).alloc _).alloc _⟩

end Go.Proofs.Ytocmochdgidcmaa
