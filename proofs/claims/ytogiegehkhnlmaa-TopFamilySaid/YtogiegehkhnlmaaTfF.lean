/- Fork: the program's. -/
import Derived.Test.YtogiegehkhnlmaaTfE
namespace Go.Proofs.Ytogiegehkhnlmaa
open Go.RowKit

theorem under_arr : Try.prog.underlying 35 = some (.array 6 34) := by kernel_rfl
theorem info_arr : (Try.prog.info? 35).map (·.size) = some 6 := by kernel_rfl
theorem eqN0 (w : World) : (binOp .eql 34 .nilIface .nilIface).run Try.prog w = .ok (.bool true) w := by kernel_rfl
theorem eqN1 (p : Int) (w : World) : (binOp .eql 34 (.iface 39 (.agg #[.int .i64 p])) .nilIface).run Try.prog w = .ok (.bool false) w := by kernel_rfl
theorem eqN2 (p s : Int) (w : World) : (binOp .eql 34 (.iface 43 (.agg #[.int .i64 p, .int .i64 s])) .nilIface).run Try.prog w = .ok (.bool false) w := by kernel_rfl

theorem idx0 (a b c d e f : PS) (w : World) : (Instr.index 35 (.agg (([a, b, c, d, e, f] : List PS).map encP).toArray) (.int .i64 0)).run Try.prog w = .ok (encP a) w := by kernel_rfl
theorem idx1 (a b c d e f : PS) (w : World) : (Instr.index 35 (.agg (([a, b, c, d, e, f] : List PS).map encP).toArray) (.int .i64 1)).run Try.prog w = .ok (encP b) w := by kernel_rfl
theorem idx2 (a b c d e f : PS) (w : World) : (Instr.index 35 (.agg (([a, b, c, d, e, f] : List PS).map encP).toArray) (.int .i64 2)).run Try.prog w = .ok (encP c) w := by kernel_rfl
theorem idx3 (a b c d e f : PS) (w : World) : (Instr.index 35 (.agg (([a, b, c, d, e, f] : List PS).map encP).toArray) (.int .i64 3)).run Try.prog w = .ok (encP d) w := by kernel_rfl
theorem idx4 (a b c d e f : PS) (w : World) : (Instr.index 35 (.agg (([a, b, c, d, e, f] : List PS).map encP).toArray) (.int .i64 4)).run Try.prog w = .ok (encP e) w := by kernel_rfl
theorem idx5 (a b c d e f : PS) (w : World) : (Instr.index 35 (.agg (([a, b, c, d, e, f] : List PS).map encP).toArray) (.int .i64 5)).run Try.prog w = .ok (encP f) w := by kernel_rfl
theorem idx_arr (T : List PS) (hl : T.length = 6) (n : Nat) (hn : n < 6) (v : Value) (hv : encP (getP T n) = v) (w : World) : (Instr.index 35 (.agg (T.map encP).toArray) (.int .i64 (n : Int))).run Try.prog w = .ok v w := by
  subst hv
  match T, hl with
  | [a, b, c, d, e, f], _ =>
    rcases (show n = 0 ∨ n = 1 ∨ n = 2 ∨ n = 3 ∨ n = 4 ∨ n = 5 by omega) with rfl | rfl | rfl | rfl | rfl | rfl
    · exact idx0 a b c d e f w
    · exact idx1 a b c d e f w
    · exact idx2 a b c d e f w
    · exact idx3 a b c d e f w
    · exact idx4 a b c d e f w
    · exact idx5 a b c d e f w

def forkA (T : List PS) (pid : Int) : Int := match forkN T pid with
  | some i => (i : Int)
  | none => 0
theorem TabAt.set {w : World} {t : Nat} {T : List PS} (h : TabAt w t T) (i : Nat) (x : PS) : TabAt (w.setCell ⟨t, i, none⟩ (encP x)) t (T.set i x) := by
  refine ⟨?_, by simp [h.2]⟩
  have := h.1.set_ i (encP x)
  rw [show (T.map encP).toArray.setIfInBounds i (encP x) = ((T.set i x).map encP).toArray by rw [List.map_set]; simp] at this
  exact this
theorem TabAt.upd {w w' : World} {t : Nat} {T : List PS} {S : List Nat} (h : TabAt w t T) (hu : Upd S w w') (ht : t ∉ S) : TabAt w' t T := ⟨h.1.upd hu ht, h.2⟩
theorem freeFrom_some {T : List PS} : ∀ (n i k : Nat), freeFrom T n i = some k → i ≤ k ∧ k < i + n ∧ getP T k = .none := by
  intro n
  induction n with
  | zero => intro i k h; cases h
  | succ n ih =>
    intro i k h
    by_cases hx : getP T i = .none
    · rw [freeFrom_hit _ _ _ hx] at h
      injection h with h
      subst h
      exact ⟨Nat.le_refl _, by omega, hx⟩
    · rw [freeFrom_step _ _ _ hx] at h
      have := ih _ _ h
      exact ⟨by omega, by omega, this.2.2⟩

set_option maxRecDepth 100000 in
set_option maxHeartbeats 4000000 in
theorem fork_any (t : Nat) (T : List PS) (i : Int) (w : World) (h : TabAt w t T) (h0 : getP T 0 ≠ .none) :
    Calls Try.prog 5 #[.pointer (some ⟨t, 0, none⟩), .int .i64 i] w fun e w' =>
      e = .returned (.tuple #[.int .i64 (forkA T i), .int .i64 (forkE T i)]) ∧ TabAt w' t (forkT T i) ∧ Upd [t] w w' := by
  have HR := Lib.hid (runs_any t T i w h)
  have HT := Lib.hid h
  cases hp : getP T i with
  | none =>
    rw [hp] at HR
    unfold runE runP at HR
    rw [show forkA T i = 0 by simp [forkA, forkN, hp], show forkE T i = 5 by simp [forkE, hp], show forkT T i = T by simp [forkT, forkN, hp]]
    clear hp h h0
    go_enter Try.func5, Try.ntmps5
    go_wp2_with fail
    refine HR.out.mono ?_; rintro e w1 ⟨rfl, hu⟩
    go_wp2_with fail
    go_ret2
    exact ⟨rfl, HT.out.upd (hu.alloc _) (by simp), (hu.alloc _).mono (by intro s hs; cases hs)⟩
  | dead p s =>
    rw [hp] at HR
    unfold runE runP at HR
    rw [show forkA T i = 0 by simp [forkA, forkN, hp], show forkE T i = 5 by simp [forkE, hp], show forkT T i = T by simp [forkT, forkN, hp]]
    clear hp h h0
    go_enter Try.func5, Try.ntmps5
    go_wp2_with fail
    refine HR.out.mono ?_; rintro e w1 ⟨rfl, hu⟩
    go_wp2_with fail
    go_ret2
    exact ⟨rfl, HT.out.upd (hu.alloc _) (by simp), (hu.alloc _).mono (by intro s hs; cases hs)⟩
  | liv p =>
    rw [hp] at HR
    unfold runE runP at HR
    have HF := Lib.hid (show freeFrom T 6 0 = freeFrom T 5 1 from freeFrom_step T 5 0 h0)
    have HP := Lib.hid hp
    clear hp h h0
    go_enter Try.func5, Try.ntmps5
    go_wp2_with fail
    refine HR.out.mono ?_; rintro e w1 ⟨rfl, hu⟩
    have HT1 := Lib.hid (HT.out.upd hu (by simp))
    have hra : ∀ o, (w1.alloc o).rangeAt t 0 (T.map encP) := fun o j v hv => (HT1.out.1.alloc o).cellAt (by simpa using hv)
    have HSZ := Lib.hid (show (Try.prog.info? 35).map (·.size) = some (T.map encP).length by rw [List.length_map, HT.out.2]; exact info_arr)
    go_wp2_with (refine wpList_load_midg rfl 35 _ rfl t 0 rfl _ _ (hra _) under_arr rfl HSZ.out ?_)
    clear hra
    generalize hw2 : w1.alloc _ = w2
    have HU2 := Lib.hid (show Upd [t] w w2 from hw2 ▸ (hu.alloc _).mono (by intro s hs; cases hs))
    have HT2 := Lib.hid (show TabAt w2 t T from hw2 ▸ HT1.out.upd ((Upd.refl [] _).alloc _) (by simp))
    clear hw2 hu
    clear HR HT1 HSZ
    go_loopw [23] (fun v wr => ∃ n : Nat, n ≤ 6 ∧ v = .int .i64 (n : Int) ∧ wr = w2 ∧ freeFrom T (6 - n) n = freeFrom T 6 0) (fun v _ => 6 - (intOf v).toNat)
    case atStart => exact ⟨0, by omega, rfl, rfl, rfl⟩
    case round =>
      obtain ⟨n, hn, rfl, rfl, hff⟩ := hrel
      have HFF := Lib.hid hff
      clear hff
      have i0 : (0 : Int) ≤ (n : Int) := by omega
      by_cases hlt : n < 6
      · have i1 : (n : Int) < 6 := by omega
        have HIX := Lib.hid (idx_arr T HT2.out.2 n hlt)
        have e0 := eqN0
        have e1 := eqN1
        have e2 := eqN2
        have hsz : (T.map encP).length = 6 := by rw [List.length_map, HT2.out.2]
        cases hx : getP T n with
        | none =>
          have hix := HIX.out .nilIface (congrArg encP hx)
          have HX := Lib.hid hx
          clear hx
          clear HIX
          have hcell := HT2.out.cell (i := n) hlt
          have hfro := HT2.out.1.frozen n
          have HN := Lib.hid (show forkN T i = some n by
            have hf := HF.out.symm.trans HFF.out.symm
            rw [show 6 - n = (5 - n) + 1 by omega, freeFrom_hit _ _ _ HX.out] at hf
            simp only [forkN, HP.out, hf])
          have HN2 := Lib.hid (show forkE T i = 0 by
            have hf := HF.out.symm.trans HFF.out.symm
            rw [show 6 - n = (5 - n) + 1 by omega, freeFrom_hit _ _ _ HX.out] at hf
            simp only [forkE, HP.out, hf])
          go_wp2_with fail
          go_ret2
          refine ⟨?_, ?_, ?_⟩
          · rw [show forkA T i = (n : Int) by simp only [forkA, HN.out], HN2.out]
            rfl
          · simp only [forkT, HN.out]
            exact HT2.out.set n (.liv i)
          · exact HU2.out.setCell (by simp) _
        | liv q =>
          have hix := HIX.out (.iface 39 (.agg #[.int .i64 q])) (congrArg encP hx)
          have HX := Lib.hid hx
          clear hx
          clear HIX
          go_wp2_with fail
          go_roundw
          case rel =>
            refine ⟨n + 1, by omega, by go_num, by first | rfl | trivial, ?_⟩
            rw [← HFF.out, show 6 - n = (6 - (n + 1)) + 1 by omega, freeFrom_step _ _ _ (by rw [HX.out]; intro h; cases h)]
          case measure => simp [intOf]; omega
        | dead q s =>
          have hix := HIX.out (.iface 43 (.agg #[.int .i64 q, .int .i64 s])) (congrArg encP hx)
          have HX := Lib.hid hx
          clear hx
          clear HIX
          go_wp2_with fail
          go_roundw
          case rel =>
            refine ⟨n + 1, by omega, by go_num, by first | rfl | trivial, ?_⟩
            rw [← HFF.out, show 6 - n = (6 - (n + 1)) + 1 by omega, freeFrom_step _ _ _ (by rw [HX.out]; intro h; cases h)]
          case measure => simp [intOf]; omega
      · obtain rfl : n = 6 := by omega
        have HN := Lib.hid (show freeFrom T 5 1 = none from HF.out.symm.trans HFF.out.symm)
        go_wp2_with fail
        go_ret2
        refine ⟨?_, ?_, HU2.out⟩
        · simp [forkA, forkN, forkE, HP.out, HN.out]
        · simpa [forkT, forkN, HP.out, HN.out] using HT2.out

end Go.Proofs.Ytogiegehkhnlmaa
