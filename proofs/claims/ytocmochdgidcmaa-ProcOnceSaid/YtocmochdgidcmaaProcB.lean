/- The reference's processes: the table, and what is asked of it. -/
import Derived.Test.YtocmochdgidcmaaProcA
namespace Go.Proofs.Ytocmochdgidcmaa
open Go.RowKit

def encR : PS → List Value
  | .none => [.int .u8 0, .int .i64 0, .int .i64 0]
  | .liv p => [.int .u8 1, .int .i64 p, .int .i64 0]
  | .dead p s => [.int .u8 2, .int .i64 p, .int .i64 s]
theorem encR_length (x : PS) : (encR x).length = 3 := by cases x <;> rfl
def RTabT : TypeId := 72
/-- At r lies the reference's table that holds T. -/
def RTabAt (w : World) (r : Nat) (T : List PS) : Prop := Blk w r RTabT (T.flatMap encR).toArray ∧ T.length = 6

theorem flat_get (T : List PS) : ∀ (i j : Nat), i < T.length → j < 3 → (T.flatMap encR)[i * 3 + j]? = (encR (T.getD i .none))[j]? := by
  induction T with
  | nil => intro i j h; simp at h
  | cons x T ih =>
    intro i j hi hj
    rw [List.flatMap_cons]
    cases i with
    | zero =>
      rw [List.getElem?_append_left (by rw [encR_length]; omega)]
      simp
    | succ i =>
      rw [List.getElem?_append_right (by rw [encR_length]; omega), encR_length]
      have := ih i j (by simpa using hi) hj
      rw [show (i + 1) * 3 + j - 3 = i * 3 + j by omega, this]
      simp

theorem RTabAt.cell {w : World} {r : Nat} {T : List PS} (h : RTabAt w r T) {i : Nat} (hi : i < 6) {j : Nat} (hj : j < 3) {v : Value} (hv : (encR (getP T i))[j]? = some v) : w.cell? ⟨r, i * 3 + j, none⟩ = some v := by
  refine h.1.cellAt ?_
  have hl := h.2
  rw [List.getElem?_toArray, flat_get T i j (by omega) hj, ← hv]
  simp [getP]

theorem getP_out {T : List PS} (hl : T.length = 6) {i : Int} (h : i < 0 ∨ 6 ≤ i) : getP T i = .none := by
  unfold getP
  split
  · rw [List.getD, List.getElem?_eq_none (by omega)]; rfl
  · rfl

theorem encR_0 (x : PS) : (encR x)[0]? = some (.int .u8 (stP x)) := by cases x <;> rfl

theorem rstate_any (r : Nat) (T : List PS) (i : Int) (w : World) (h : RTabAt w r T) :
    Calls Try.prog 29 #[.pointer (some ⟨r, 0, none⟩), .int .i64 i] w fun e w' => e = .returned (.int .u8 (stP (getP T i))) ∧ w = w' := by
  by_cases hi : 0 ≤ i ∧ i < 6
  · obtain ⟨i0, i1⟩ := hi
    obtain ⟨n, rfl⟩ : ∃ n : Nat, i = n := ⟨i.toNat, by omega⟩
    have hc := h.cell (i := n) (by omega) (j := 0) (by omega) (encR_0 _)
    generalize (stP (getP T n)) = v at *
    clear h
    simp only [Nat.add_zero] at hc
    go_enter Try.func29, Try.ntmps29
    go_wp2
    go_ret
    exact ⟨by simp, rfl⟩
  · have hi2 : i < 0 ∨ 6 ≤ i := by omega
    rw [getP_out h.2 hi2]
    clear h
    rcases hi2 with hi2 | hi2
    · go_enter Try.func29, Try.ntmps29
      go_wp2
      go_ret
      exact ⟨by simp [stP], rfl⟩
    · have hi3 : 0 ≤ i := by omega
      go_enter Try.func29, Try.ntmps29
      go_wp2
      go_ret
      exact ⟨by simp [stP], rfl⟩

theorem rparent_any (r : Nat) (T : List PS) (i : Int) (w : World) (h : RTabAt w r T) :
    Calls Try.prog 30 #[.pointer (some ⟨r, 0, none⟩), .int .i64 i] w fun e w' => e = .returned (.int .i64 (parP (getP T i))) ∧ w = w' := by
  have HS := Lib.hid (rstate_any r T i w h)
  by_cases hi : 0 ≤ i ∧ i < 6
  · obtain ⟨i0, i1⟩ := hi
    obtain ⟨n, rfl⟩ : ∃ n : Nat, i = n := ⟨i.toNat, by omega⟩
    have HC := Lib.hid (fun v hv => h.cell (i := n) (by omega) (j := 1) (by omega) (v := v) hv)
    clear h
    generalize getP T n = x at *
    cases x with
    | none =>
      go_enter Try.func30, Try.ntmps30
      go_wp2_with fail
      refine HS.out.mono ?_; rintro e w' ⟨rfl, rfl⟩
      simp only [stP]
      go_wp2
      go_ret
      exact ⟨by simp [parP], rfl⟩
    | liv p =>
      have hc := HC.out _ rfl
      go_enter Try.func30, Try.ntmps30
      go_wp2_with fail
      refine HS.out.mono ?_; rintro e w' ⟨rfl, rfl⟩
      simp only [stP]
      go_wp2
      go_ret
      exact ⟨by simp [parP], rfl⟩
    | dead p s =>
      have hc := HC.out _ rfl
      go_enter Try.func30, Try.ntmps30
      go_wp2_with fail
      refine HS.out.mono ?_; rintro e w' ⟨rfl, rfl⟩
      simp only [stP]
      go_wp2
      go_ret
      exact ⟨by simp [parP], rfl⟩
  · have hi2 : i < 0 ∨ 6 ≤ i := by omega
    rw [getP_out h.2 hi2] at HS ⊢
    clear h
    go_enter Try.func30, Try.ntmps30
    go_wp2_with fail
    refine HS.out.mono ?_; rintro e w' ⟨rfl, rfl⟩
    simp only [stP]
    go_wp2
    go_ret
    exact ⟨by simp [parP], rfl⟩

theorem rstatus_any (r : Nat) (T : List PS) (i : Int) (w : World) (h : RTabAt w r T) :
    Calls Try.prog 33 #[.pointer (some ⟨r, 0, none⟩), .int .i64 i] w fun e w' => e = .returned (.int .i64 (statP (getP T i))) ∧ w = w' := by
  have HS := Lib.hid (rstate_any r T i w h)
  by_cases hi : 0 ≤ i ∧ i < 6
  · obtain ⟨i0, i1⟩ := hi
    obtain ⟨n, rfl⟩ : ∃ n : Nat, i = n := ⟨i.toNat, by omega⟩
    have HC := Lib.hid (fun v hv => h.cell (i := n) (by omega) (j := 2) (by omega) (v := v) hv)
    clear h
    generalize getP T n = x at *
    cases x with
    | none =>
      go_enter Try.func33, Try.ntmps33
      go_wp2_with fail
      refine HS.out.mono ?_; rintro e w' ⟨rfl, rfl⟩
      simp only [stP]
      go_wp2
      go_ret
      exact ⟨by simp [statP], rfl⟩
    | liv p =>
      have hc := HC.out _ rfl
      go_enter Try.func33, Try.ntmps33
      go_wp2_with fail
      refine HS.out.mono ?_; rintro e w' ⟨rfl, rfl⟩
      simp only [stP]
      go_wp2
      go_ret
      exact ⟨by simp [statP], rfl⟩
    | dead p s =>
      have hc := HC.out _ rfl
      go_enter Try.func33, Try.ntmps33
      go_wp2_with fail
      refine HS.out.mono ?_; rintro e w' ⟨rfl, rfl⟩
      simp only [stP]
      go_wp2
      go_ret
      exact ⟨by simp [statP], rfl⟩
  · have hi2 : i < 0 ∨ 6 ≤ i := by omega
    rw [getP_out h.2 hi2] at HS ⊢
    clear h
    go_enter Try.func33, Try.ntmps33
    go_wp2_with fail
    refine HS.out.mono ?_; rintro e w' ⟨rfl, rfl⟩
    simp only [stP]
    go_wp2
    go_ret
    exact ⟨by simp [statP], rfl⟩

end Go.Proofs.Ytocmochdgidcmaa
