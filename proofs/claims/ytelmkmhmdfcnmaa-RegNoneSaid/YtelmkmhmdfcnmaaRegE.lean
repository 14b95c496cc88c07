/- The reference's registry: what it tells; Bind, Unbind, Dirty. -/
import Derived.Test.YtelmkmhmdfcnmaaRegD
namespace Go.Proofs.Ytelmkmhmdfcnmaa
open Go.RowKit Go.Maps

def RRegT : TypeId := 66
def RegR (w : World) (r : Nat) (S : St) : Prop := ∃ cs : Array Value, Blk w r RRegT cs ∧ ∀ i, i < 64 → cs[i]? = some (.int .i64 (S.sec i)) ∧ cs[64 + i]? = some (.bool (S.wr i))
section
variable {w w' : World} {r : Nat} {S S' : St} {X : List Nat}
theorem RegR.lt (h : RegR w r S) : r < w.heap.size := by
  obtain ⟨cs, hb, _⟩ := h
  exact hb.lt
theorem RegR.upd (h : RegR w r S) (hu : Upd X w w') (hr : r ∉ X) : RegR w' r S := by
  obtain ⟨cs, hb, hc⟩ := h
  exact ⟨cs, hb.upd hu hr, hc⟩
theorem RegR.congr (h : RegR w r S) (h1 : ∀ i, i < 64 → S.sec i = S'.sec i) (h2 : ∀ i, i < 64 → S.wr i = S'.wr i) : RegR w r S' := by
  obtain ⟨cs, hb, hc⟩ := h
  exact ⟨cs, hb, fun i hi => by rw [← h1 i hi, ← h2 i hi]; exact hc i hi⟩
theorem RegR.cellS (h : RegR w r S) (i : Nat) (hi : i < 64) : w.cell? ⟨r, i, none⟩ = some (.int .i64 (S.sec i)) := by
  obtain ⟨cs, hb, hc⟩ := h
  exact hb.cellAt (hc i hi).1
theorem RegR.cellW (h : RegR w r S) (i : Nat) (hi : i < 64) : w.cell? ⟨r, 64 + i, none⟩ = some (.bool (S.wr i)) := by
  obtain ⟨cs, hb, hc⟩ := h
  exact hb.cellAt (hc i hi).2
theorem RegR.frozen (h : RegR w r S) (i : Nat) : w.frozen? ⟨r, i, none⟩ = false := by
  obtain ⟨cs, hb, _⟩ := h
  exact hb.frozen i
theorem RegR.setS (h : RegR w r S) (n : Nat) (hn : n < 64) (v : Nat) : RegR (w.setCell ⟨r, n, none⟩ (.int .i64 v)) r ⟨fun i => if i = n then v else S.sec i, S.fr, S.wr⟩ := by
  obtain ⟨cs, hb, hc⟩ := h
  refine ⟨_, hb.set_ n _, fun i hi => ⟨?_, ?_⟩⟩
  · by_cases hin : i = n
    · subst hin
      have hlt : i < cs.size := (Array.getElem?_eq_some_iff.1 (hc i hi).1).1
      simp [hlt]
    · rw [Array.getElem?_setIfInBounds_ne (fun h => hin h.symm)]
      simp only [if_neg hin]
      exact (hc i hi).1
  · rw [Array.getElem?_setIfInBounds_ne (by omega)]
    exact (hc i hi).2
theorem RegR.setW (h : RegR w r S) (n : Nat) (hn : n < 64) (b : Bool) : RegR (w.setCell ⟨r, 64 + n, none⟩ (.bool b)) r ⟨S.sec, S.fr, fun i => if i = n then b else S.wr i⟩ := by
  obtain ⟨cs, hb, hc⟩ := h
  refine ⟨_, hb.set_ (64 + n) _, fun i hi => ⟨?_, ?_⟩⟩
  · rw [Array.getElem?_setIfInBounds_ne (by omega)]
    exact (hc i hi).1
  · by_cases hin : i = n
    · subst hin
      have hlt : 64 + i < cs.size := (Array.getElem?_eq_some_iff.1 (hc i hi).2).1
      simp [hlt]
    · rw [Array.getElem?_setIfInBounds_ne (by omega)]
      simp only [if_neg hin]
      exact (hc i hi).2
end
/-- What the deeds keep. -/
structure GoodS (S : St) : Prop where
  le : ∀ i, S.sec i ≤ 64
  big : ∀ i, 64 ≤ i → S.sec i = 0 ∧ S.wr i = false
  fr : ∀ s i, S.fr s = some i ↔ S.sec i ≠ 0 ∧ s = (S.sec i : Int) - 1
  wr : ∀ i, S.wr i = true → S.sec i ≠ 0
def RRChg (w : World) (r : Nat) (V : Value) (S' : St) (e : Ending) (w' : World) : Prop := e = .returned V ∧ RegR w' r S' ∧ Upd [r] w w'

theorem rmay_any (r : Nat) (w : World) (n : Nat) :
    Calls Try.prog 43 #[.pointer (some ⟨r, 0, none⟩), .int .u8 n] w fun e w' => e = .returned (.int .i64 (if 64 ≤ n then 2 else 0)) ∧ w' = w := by
  by_cases h64 : 64 ≤ n
  · have j1 : (64 : Int) ≤ (n : Int) := by omega
    rw [if_pos h64]
    go_enter Try.func43, Try.ntmps43
    go_wp2_with fail
    go_ret
    exact ⟨by simp, rfl⟩
  · have j1 : ¬ (64 : Int) ≤ (n : Int) := by omega
    rw [if_neg h64]
    go_enter Try.func43, Try.ntmps43
    go_wp2_with fail
    go_ret
    exact ⟨by simp, rfl⟩
theorem rholds_any (r : Nat) (S : St) (w : World) (h : RegR w r S) (n : Nat) :
    Calls Try.prog 42 #[.pointer (some ⟨r, 0, none⟩), .int .u8 n] w fun e w' => e = .returned (.int .i64 (mayE S n true)) ∧ w' = w := by
  have HM := Lib.hid (rmay_any r w n)
  unfold mayE
  by_cases h64 : 64 ≤ n
  · rw [if_pos h64]
    rw [if_pos h64] at HM
    clear h h64
    go_enter Try.func42, Try.ntmps42
    go_wp2_with fail
    refine HM.out.mono ?_; rintro e w' ⟨rfl, rfl⟩
    go_wp2_with fail
    go_ret
    exact ⟨by simp, rfl⟩
  · rw [if_neg h64]
    rw [if_neg h64] at HM
    have hc := h.cellS n (by omega)
    have i0 : (0 : Int) ≤ (n : Int) := by omega
    have i1 : (n : Int) < 64 := by omega
    by_cases h0 : S.sec n = 0
    · rw [if_pos ⟨rfl, h0⟩]
      rw [h0] at hc
      clear h h64 h0
      go_enter Try.func42, Try.ntmps42
      go_wp2_with fail
      refine HM.out.mono ?_; rintro e w' ⟨rfl, rfl⟩
      go_wp2_with fail
      go_ret
      exact ⟨by simp, rfl⟩
    · rw [if_neg (fun hh => h0 hh.2)]
      have hz : (((S.sec n : Nat) : Int) == 0) = false := by rw [beq_eq_false_iff_ne]; omega
      generalize S.sec n = s at *
      clear h h64 h0
      go_enter Try.func42, Try.ntmps42
      go_wp2_with fail
      refine HM.out.mono ?_; rintro e w' ⟨rfl, rfl⟩
      go_wp2_with fail
      go_ret
      exact ⟨by simp, rfl⟩

set_option maxRecDepth 100000 in
set_option maxHeartbeats 2000000 in
theorem rframe_any (r : Nat) (S : St) (w : World) (h : RegR w r S) (hg : GoodS S) (s : Int) (_hs0 : -9223372036854775808 ≤ s) (_hs1 : s ≤ 9223372036854775807) :
    Calls Try.prog 30 #[.pointer (some ⟨r, 0, none⟩), .int .i64 s] w fun e w' => e = .returned (.tuple #[.int .u8 (((S.fr s).getD 0 : Nat) : Int), .bool (S.fr s).isSome]) ∧ w' = w := by
  have H := Lib.hid h
  have HG := Lib.hid hg
  obtain ⟨v, hv⟩ : ∃ v, v = S.fr s := ⟨_, rfl⟩
  have HV := Lib.hid hv
  rw [← hv]
  clear h hg hv
  go_enter Try.func30, Try.ntmps30
  go_wp2_with fail
  go_loopw [6] (fun vi W => ∃ j : Nat, j ≤ 64 ∧ vi = .int .u8 (j : Int) ∧ W = w ∧ ∀ i, i < j → ¬ (S.sec i ≠ 0 ∧ s = (S.sec i : Int) - 1)) (fun vi _ => 64 - (intOf vi).toNat)
  case atStart => exact ⟨0, by omega, rfl, rfl, by simp⟩
  case round =>
    obtain ⟨j, hj, rfl, rfl, hno⟩ := hrel
    have HN := Lib.hid hno
    have HM := Lib.hid (rmay_any r wr j)
    clear hno
    by_cases hlt : j < 64
    · rw [if_neg (by omega)] at HM
      have hc := H.out.cellS j hlt
      have i0 : (0 : Int) ≤ (j : Int) := by omega
      have i1 : (j : Int) < 64 := by omega
      have hle := HG.out.le j
      by_cases h0 : S.sec j = 0
      · have HN2 := Lib.hid (show ∀ i, i < j + 1 → ¬ (S.sec i ≠ 0 ∧ s = (S.sec i : Int) - 1) from fun i hi hh => by
          by_cases hij : i = j
          · subst hij; exact hh.1 h0
          · exact HN.out i (by omega) hh)
        rw [h0] at hc
        clear h0 hle
        go_wp2_with fail
        refine HM.out.mono ?_; rintro e w' ⟨rfl, rfl⟩
        go_wp2_with fail
        go_roundw
        case rel => exact ⟨j + 1, by omega, by go_num, (by first | rfl | trivial), HN2.out⟩
        case measure => simp [intOf]; omega
      · have hz : (((S.sec j : Nat) : Int) == 0) = false := by rw [beq_eq_false_iff_ne]; omega
        have hz' : (((S.sec j : Nat) : Int) != 0) = true := by rw [bne, hz]; rfl
        by_cases he : s = (S.sec j : Int) - 1
        · have hq : ((S.sec j : Int) - 1 == s) = true := by rw [beq_iff_eq]; omega
          have hf : v = some j := by rw [HV.out]; exact (HG.out.fr s j).2 ⟨h0, he⟩
          have HF := Lib.hid hf
          generalize S.sec j = t at *
          clear h0 he hf
          go_wp2_with fail
          refine HM.out.mono ?_; rintro e w' ⟨rfl, rfl⟩
          go_wp2_with fail
          go_ret2
          exact ⟨by simp [HF.out], rfl⟩
        · have hq : ((S.sec j : Int) - 1 == s) = false := by rw [beq_eq_false_iff_ne]; omega
          have HN2 := Lib.hid (show ∀ i, i < j + 1 → ¬ (S.sec i ≠ 0 ∧ s = (S.sec i : Int) - 1) from fun i hi hh => by
            by_cases hij : i = j
            · subst hij; exact he hh.2
            · exact HN.out i (by omega) hh)
          generalize ht : S.sec j = t at *
          clear h0 he ht
          go_wp2_with fail
          refine HM.out.mono ?_; rintro e w' ⟨rfl, rfl⟩
          go_wp2_with fail
          go_roundw
          case rel => exact ⟨j + 1, by omega, by go_num, (by first | rfl | trivial), HN2.out⟩
          case measure => simp [intOf]; omega
    · obtain rfl : j = 64 := by omega
      rw [if_pos (by omega)] at HM
      have hf : v = none := by
        rw [HV.out]
        cases hq : S.fr s with
        | none => rfl
        | some i =>
          have h1 := (HG.out.fr s i).1 hq
          by_cases hi : i < 64
          · exact absurd h1 (HN.out i hi)
          · exact absurd (HG.out.big i (by omega)).1 h1.1
      have HF := Lib.hid hf
      clear hf
      go_wp2_with fail
      refine HM.out.mono ?_; rintro e w' ⟨rfl, rfl⟩
      go_wp2_with fail
      go_ret2
      exact ⟨by simp [HF.out], rfl⟩

end Go.Proofs.Ytelmkmhmdfcnmaa
