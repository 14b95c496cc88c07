/- New, Fork; the reference's methods. -/
import Derived.Test.YtdcecihojidiaaaPipeE
namespace Go.Proofs.Ytdcecihojidiaaa
open Go.RowKit

theorem new_any (w : World) : Calls Try.prog 9 #[] w fun e w' => e = .returned (.pointer (some ⟨w.heap.size, 0, none⟩)) ∧ PipeAt w' w.heap.size [] 0 0 ∧ Upd [] w w' := by
  go_enter Try.func9, Try.ntmps9
  go_wp2
  go_ret
  refine ⟨by simp, ⟨⟨List.replicate 24 0, 0, ?_, ⟨by simp, by omega, by simp, by simp⟩⟩, by omega, by omega⟩, (Upd.refl _ _).alloc _⟩
  exact Blk.new _ _ _

theorem rnew_any (w : World) : Calls Try.prog 29 #[] w fun e w' => e = .returned (.pointer (some ⟨w.heap.size, 0, none⟩)) ∧ RefAt w' w.heap.size [] 0 0 ∧ Upd [] w w' := by
  go_enter Try.func29, Try.ntmps29
  go_wp2
  go_ret
  refine ⟨by simp, ⟨?_, by simp, by omega, by omega⟩, (Upd.refl _ _).alloc _⟩
  exact Blk.new _ _ _

section
variable {w : World} {r : Nat} {L : List UInt8} {rd wr : Nat}
theorem RefAt.cellS (h : RefAt w r L rd wr) : w.cell? ⟨r, 0, none⟩ = some (.string ⟨L.toArray⟩) := h.1.cellAt rfl
theorem RefAt.cellR (h : RefAt w r L rd wr) : w.cell? ⟨r, 1, none⟩ = some (.int .i64 rd) := h.1.cellAt rfl
theorem RefAt.cellW (h : RefAt w r L rd wr) : w.cell? ⟨r, 2, none⟩ = some (.int .i64 wr) := h.1.cellAt rfl
theorem RefAt.setR (h : RefAt w r L rd wr) (c : Nat) (hc : c ≤ 100) : RefAt (w.setCell ⟨r, 1, none⟩ (.int .i64 c)) r L c wr := by
  obtain ⟨hb, hl, h1, h2⟩ := h
  exact ⟨hb.set_ 1 (.int .i64 c), hl, hc, h2⟩
theorem RefAt.setW (h : RefAt w r L rd wr) (c : Nat) (hc : c ≤ 100) : RefAt (w.setCell ⟨r, 2, none⟩ (.int .i64 c)) r L rd c := by
  obtain ⟨hb, hl, h1, h2⟩ := h
  exact ⟨hb.set_ 2 (.int .i64 c), hl, h1, hc⟩
theorem RefAt.setS (h : RefAt w r L rd wr) (K : List UInt8) (hK : K.length ≤ 24) : RefAt (w.setCell ⟨r, 0, none⟩ (.string ⟨K.toArray⟩)) r K rd wr := by
  obtain ⟨hb, hl, h1, h2⟩ := h
  exact ⟨hb.set_ 0 (.string ⟨K.toArray⟩), hK, h1, h2⟩
end

theorem rcount_any (r : Nat) (L : List UInt8) (rd wr : Nat) (w : World) (b : Bool) (h : RefAt w r L rd wr) :
    Calls Try.prog 31 #[.pointer (some ⟨r, 0, none⟩), .bool b] w fun e w' => e = .returned (.int .i64 ((if b then wr else rd : Nat) : Int)) ∧ w = w' := by
  have hR := h.cellR
  have hW := h.cellW
  clear h
  cases b
  all_goals
    go_enter Try.func31, Try.ntmps31
    go_wp2
    go_ret
    exact ⟨by simp, rfl⟩

theorem rtext_any (r : Nat) (L : List UInt8) (rd wr : Nat) (w : World) (h : RefAt w r L rd wr) :
    Calls Try.prog 30 #[.pointer (some ⟨r, 0, none⟩)] w fun e w' => e = .returned (.string ⟨L.toArray⟩) ∧ w = w' := by
  have hS := h.cellS
  clear h
  go_enter Try.func30, Try.ntmps30
  go_wp2
  go_ret
  exact ⟨by simp, rfl⟩

theorem ropen_any (r : Nat) (L : List UInt8) (rd wr : Nat) (w : World) (b : Bool) (h : RefAt w r L rd wr) :
    Calls Try.prog 33 #[.pointer (some ⟨r, 0, none⟩), .bool b] w fun e w' =>
      e = .returned (.int .i64 (upE (if b then wr else rd))) ∧ RefAt w' r L (if b then rd else upC rd) (if b then upC wr else wr) ∧ Upd [r] w w' := by
  have hR := h.cellR
  have hW := h.cellW
  have hfz := h.1.frozen
  have HC := Lib.hid (fun b => rcount_any r L rd wr w b h)
  have HSR := Lib.hid (fun hc => h.setR (rd + 1) hc)
  have HSW := Lib.hid (fun hc => h.setW (wr + 1) hc)
  have HH := Lib.hid h
  clear h
  cases b
  · by_cases hk : 100 ≤ rd
    · have e1 : upE rd = 4 := by simp [upE, hk]
      have e2 : upC rd = rd := by simp [upC, hk]
      have hk' : (100 : Int) ≤ rd := by omega
      go_enter Try.func33, Try.ntmps33
      go_wp2_with (go_at_call 31; refine (HC.out false).mono ?_; rintro e w' ⟨rfl, rfl⟩)
      go_ret
      exact ⟨by simp [e1], by simpa [e2] using HH.out, Upd.refl _ _⟩
    · have e1 : upE rd = 0 := by simp [upE, hk]
      have e2 : upC rd = rd + 1 := by simp [upC, hk]
      have hk' : (rd : Int) < 100 := by omega
      go_enter Try.func33, Try.ntmps33
      go_wp2_with (go_at_call 31; refine (HC.out false).mono ?_; rintro e w' ⟨rfl, rfl⟩)
      go_ret
      exact ⟨by simp [e1], by simpa [e2] using HSR.out (by omega), (Upd.refl [r] w).setCell (p := ⟨r, 1, none⟩) (.inl (by simp)) _⟩
  · by_cases hk : 100 ≤ wr
    · have e1 : upE wr = 4 := by simp [upE, hk]
      have e2 : upC wr = wr := by simp [upC, hk]
      have hk' : (100 : Int) ≤ wr := by omega
      go_enter Try.func33, Try.ntmps33
      go_wp2_with (go_at_call 31; refine (HC.out true).mono ?_; rintro e w' ⟨rfl, rfl⟩)
      go_ret
      exact ⟨by simp [e1], by simpa [e2] using HH.out, Upd.refl _ _⟩
    · have e1 : upE wr = 0 := by simp [upE, hk]
      have e2 : upC wr = wr + 1 := by simp [upC, hk]
      have hk' : (wr : Int) < 100 := by omega
      go_enter Try.func33, Try.ntmps33
      go_wp2_with (go_at_call 31; refine (HC.out true).mono ?_; rintro e w' ⟨rfl, rfl⟩)
      go_ret
      exact ⟨by simp [e1], by simpa [e2] using HSW.out (by omega), (Upd.refl [r] w).setCell (p := ⟨r, 2, none⟩) (.inl (by simp)) _⟩

theorem rclose_any (r : Nat) (L : List UInt8) (rd wr : Nat) (w : World) (b : Bool) (h : RefAt w r L rd wr) :
    Calls Try.prog 34 #[.pointer (some ⟨r, 0, none⟩), .bool b] w fun e w' =>
      e = .returned (.int .i64 (downE (if b then wr else rd))) ∧ RefAt w' r L (if b then rd else rd - 1) (if b then wr - 1 else wr) ∧ Upd [r] w w' := by
  have hR := h.cellR
  have hW := h.cellW
  have hfz := h.1.frozen
  have HC := Lib.hid (fun b => rcount_any r L rd wr w b h)
  have hb1 := h.2.2.1
  have hb2 := h.2.2.2
  have HSR := Lib.hid (h.setR (rd - 1) (by omega))
  have HSW := Lib.hid (h.setW (wr - 1) (by omega))
  have HH := Lib.hid h
  clear h
  cases b
  · by_cases hk : rd = 0
    · subst hk
      go_enter Try.func34, Try.ntmps34
      go_wp2_with (go_at_call 31; refine (HC.out false).mono ?_; rintro e w' ⟨rfl, rfl⟩)
      go_ret
      exact ⟨by simp [downE], by simpa using HH.out, Upd.refl _ _⟩
    · have e1 : downE rd = 0 := by simp [downE, hk]
      have hk' : ¬ (rd : Int) = 0 := by omega
      have e3 : ((rd - 1 : Nat) : Int) = (rd : Int) - 1 := by omega
      rw [e3] at HSR
      clear e3
      go_enter Try.func34, Try.ntmps34
      go_wp2_with (go_at_call 31; refine (HC.out false).mono ?_; rintro e w' ⟨rfl, rfl⟩)
      go_ret
      exact ⟨by simp [e1], by simpa using HSR.out, (Upd.refl [r] w).setCell (p := ⟨r, 1, none⟩) (.inl (by simp)) _⟩
  · by_cases hk : wr = 0
    · subst hk
      go_enter Try.func34, Try.ntmps34
      go_wp2_with (go_at_call 31; refine (HC.out true).mono ?_; rintro e w' ⟨rfl, rfl⟩)
      go_ret
      exact ⟨by simp [downE], by simpa using HH.out, Upd.refl _ _⟩
    · have e1 : downE wr = 0 := by simp [downE, hk]
      have hk' : ¬ (wr : Int) = 0 := by omega
      have e3 : ((wr - 1 : Nat) : Int) = (wr : Int) - 1 := by omega
      rw [e3] at HSW
      clear e3
      go_enter Try.func34, Try.ntmps34
      go_wp2_with (go_at_call 31; refine (HC.out true).mono ?_; rintro e w' ⟨rfl, rfl⟩)
      go_ret
      exact ⟨by simp [e1], by simpa using HSW.out, (Upd.refl [r] w).setCell (p := ⟨r, 2, none⟩) (.inl (by simp)) _⟩

end Go.Proofs.Ytdcecihojidiaaa
