/- The reference's table: how it lies, may, at, fresh, held, Begin, give, Dup. -/
import Derived.Test.YtedaffkdfniikaaFdsP
namespace Go.Proofs.Ytedaffkdfniikaa
open Go.RowKit Go.Shelf

def RefT : TypeId := 84
def refC (S : St) (A : Option Addr) (cap : Nat) (j : Nat) : Value :=
  if j < 6 then .bool (S.has j) else if j < 54 then .int .i64 (S.fd ((j - 6) / 8) ((j - 6) % 8) : Int) else .slice A S.all.length cap
structure RX (w : World) (r : Nat) (own : List Nat) (S : St) (A : Option Addr) (cap : Nat) : Prop where
  blk : Blk w r RefT (rowF 55 (refC S A cap))
  row : Row w A cap S.all
  own : own = r :: ownA A
def RAt (w : World) (r : Nat) (own : List Nat) (S : St) : Prop := ∃ A cap, RX w r own S A cap
def RChg (w : World) (r : Nat) (own : List Nat) (V : Value) (S' : St) (e : Ending) (w' : World) : Prop :=
  e = .returned V ∧ ∃ own', RAt w' r own' S' ∧ (∀ g, g ∈ own' → g ∈ own ∨ w.heap.size ≤ g) ∧ Upd [r] w w'
section
variable {w w' : World} {r : Nat} {own X : List Nat} {S : St} {A : Option Addr} {cap : Nat} {V : Value}
theorem RX.mem (h : RX w r own S A cap) : r ∈ own := by rw [h.own]; exact List.mem_cons_self
theorem RX.lt (h : RX w r own S A cap) : ∀ g, g ∈ own → g < w.heap.size := fun g hg => by
  rw [h.own] at hg
  rcases List.mem_cons.1 hg with rfl | hg
  · exact h.blk.lt
  · exact h.row.lt g hg
theorem RX.ltr (h : RX w r own S A cap) : ∀ g, g ∈ [r] → g < w.heap.size := fun g hg => by simp at hg; subst hg; exact h.blk.lt
theorem RX.upd (h : RX w r own S A cap) (hu : Upd X w w') (hX : ∀ g, g ∈ own → g ∉ X) : RX w' r own S A cap :=
  ⟨h.blk.upd hu (hX r h.mem), h.row.upd hu (fun g hg => hX g (by rw [h.own]; exact List.mem_cons_of_mem _ hg)), h.own⟩
theorem RX.upd0 (h : RX w r own S A cap) (hu : Upd [] w w') : RX w' r own S A cap := h.upd hu (by simp)
theorem RAt.upd (h : RAt w r own S) (hu : Upd X w w') (hX : ∀ g, g ∈ own → g ∉ X) : RAt w' r own S := by
  obtain ⟨A, cap, h⟩ := h
  exact ⟨A, cap, h.upd hu hX⟩
theorem RAt.upd0 (h : RAt w r own S) (hu : Upd [] w w') : RAt w' r own S := h.upd hu (by simp)
theorem RAt.mem (h : RAt w r own S) : r ∈ own := by
  obtain ⟨A, cap, h⟩ := h
  exact h.mem
theorem RAt.lt (h : RAt w r own S) : ∀ g, g ∈ own → g < w.heap.size := by
  obtain ⟨A, cap, h⟩ := h
  exact h.lt
theorem RX.cellH (h : RX w r own S A cap) {i : Nat} (hi : i < 6) : w.cell? ⟨r, i, none⟩ = some (.bool (S.has i)) := by
  rw [h.blk.cell, rowF_get (by omega)]
  simp [refC, hi]
theorem RX.cellF (h : RX w r own S A cap) {i k : Nat} (hi : i < 6) (hk : k < 8) : w.cell? ⟨r, 6 + i * 8 + k, none⟩ = some (.int .i64 (S.fd i k : Int)) := by
  rw [h.blk.cell, rowF_get (by omega)]
  unfold refC
  rw [if_neg (by omega), if_pos (by omega), show (6 + i * 8 + k - 6) / 8 = i by omega, show (6 + i * 8 + k - 6) % 8 = k by omega]
theorem RX.cellA (h : RX w r own S A cap) : w.cell? ⟨r, 54, none⟩ = some (.slice A S.all.length cap) := by
  rw [h.blk.cell, rowF_get (by omega)]
  rfl
theorem RX.rowS (h : RX w r own S A cap) (j : Nat) (v : Value) : Row (w.setCell ⟨r, j, none⟩ v) A cap S.all := by
  refine h.row.upd ((Upd.refl [r] w).setCell (p := ⟨r, j, none⟩) (.inl (by simp)) v) fun g hg hm => ?_
  simp at hm
  subst hm
  rcases h.row with ⟨rfl, _⟩ | ⟨g', rfl, cur, hb, _⟩
  · simp [ownA] at hg
  · simp [ownA] at hg
    subst hg
    exact h.blk.ne_ hb (by decide) rfl
theorem RX.setH (h : RX w r own S A cap) {i : Nat} (hi : i < 6) (b : Bool) : RX (w.setCell ⟨r, i, none⟩ (.bool b)) r own (setH S i b) A cap := by
  refine ⟨?_, h.rowS i _, h.own⟩
  have := h.blk.set_ i (.bool b)
  rw [rowF_set] at this
  have e : rowF 55 (refC (Go.Proofs.Ytedaffkdfniikaa.setH S i b) A cap) = rowF 55 (fun j => if j = i then .bool b else refC S A cap j) := rowF_congr fun j _ => by
    unfold refC Go.Proofs.Ytedaffkdfniikaa.setH
    by_cases hj : j = i
    · simp [hj, hi]
    · simp [hj]
  rw [e]
  exact this
theorem RX.setF (h : RX w r own S A cap) {i k : Nat} (hi : i < 6) (hk : k < 8) (n : Nat) : RX (w.setCell ⟨r, 6 + i * 8 + k, none⟩ (.int .i64 (n : Int))) r own (withF S (setF S.fd i k n)) A cap := by
  refine ⟨?_, h.rowS _ _, h.own⟩
  have := h.blk.set_ (6 + i * 8 + k) (.int .i64 (n : Int))
  rw [rowF_set] at this
  have e : rowF 55 (refC (withF S (Go.Proofs.Ytedaffkdfniikaa.setF S.fd i k n)) A cap) = rowF 55 (fun j => if j = 6 + i * 8 + k then .int .i64 (n : Int) else refC S A cap j) := rowF_congr fun j _ => by
    unfold refC withF Go.Proofs.Ytedaffkdfniikaa.setF
    by_cases hj : j = 6 + i * 8 + k
    · rw [if_pos hj, if_neg (by omega), if_pos (by omega)]
      simp only
      rw [if_pos (by omega)]
    · rw [if_neg hj]
      by_cases h6 : j < 6
      · rw [if_pos h6, if_pos h6]
      · rw [if_neg h6, if_neg h6]
        by_cases h54 : j < 54
        · rw [if_pos h54, if_pos h54]
          simp only
          rw [if_neg (by omega)]
        · rw [if_neg h54, if_neg h54]
  rw [e]
  exact this
theorem RX.frz (h : RX w r own S A cap) (j : Nat) : w.frozen? ⟨r, j, none⟩ = false := h.blk.frozen j
theorem RChg.same (h : RX w r own S A cap) (hu : Upd [] w w') : RChg w r own V S (.returned V) w' := ⟨rfl, own, ⟨A, cap, h.upd0 hu⟩, fun _ hg => .inl hg, hu.zero _⟩
theorem RChg.of {S' : St} (h : RX w' r own S' A cap) (hu : Upd [r] w w') : RChg w r own V S' (.returned V) w' := ⟨rfl, own, ⟨A, cap, h⟩, fun _ hg => .inl hg, hu⟩
end

section
variable (r : Nat) (own : List Nat) (S : St) (A : Option Addr) (cap : Nat) (w : World) (h : RX w r own S A cap)
include h

set_option maxHeartbeats 1000000 in
theorem rmay_any (p : Int) :
    Calls Try.prog 48 #[.pointer (some ⟨r, 0, none⟩), .int .i64 p] w fun e w' => e = .returned (.int .i64 (ofE S p)) ∧ w' = w := by
  unfold ofE
  by_cases hr : 0 ≤ p ∧ p < 6
  · obtain ⟨r0, r1⟩ := hr
    obtain ⟨n, rfl⟩ : ∃ n : Nat, p = n := ⟨p.toNat, by omega⟩
    have hc := h.cellH (i := n) (by omega)
    simp only [Int.toNat_natCast, r0, r1, true_and]
    by_cases hh : S.has n = true
    · rw [hh] at hc
      rw [if_pos hh]
      clear h hh
      go_enter Try.func48, Try.ntmps48
      go_wp2_with fail
      go_ret
      exact ⟨by simp, rfl⟩
    · have hh' : S.has n = false := by simpa using hh
      rw [hh'] at hc
      rw [if_neg hh]
      clear h hh hh'
      go_enter Try.func48, Try.ntmps48
      go_wp2_with fail
      go_ret
      exact ⟨by simp, rfl⟩
  · rw [if_neg (fun hh => hr ⟨hh.1, hh.2.1⟩)]
    have hr2 : p < 0 ∨ 6 ≤ p := by omega
    clear h
    rcases hr2 with hr2 | hr2
    · go_enter Try.func48, Try.ntmps48
      go_wp2_with fail
      go_ret
      exact ⟨by simp, rfl⟩
    · have hr3 : 0 ≤ p := by omega
      go_enter Try.func48, Try.ntmps48
      go_wp2_with fail
      go_ret
      exact ⟨by simp, rfl⟩

set_option maxHeartbeats 1000000 in
theorem rfresh_any (p : Int) :
    Calls Try.prog 50 #[.pointer (some ⟨r, 0, none⟩), .int .i64 p] w fun e w' => e = .returned (.int .i64 (frE S p)) ∧ w' = w := by
  unfold frE
  by_cases hr : p < 0 ∨ 6 ≤ p
  · rw [if_pos hr]
    clear h
    rcases hr with hr2 | hr2
    · go_enter Try.func50, Try.ntmps50
      go_wp2_with fail
      go_ret
      exact ⟨by simp, rfl⟩
    · have hr3 : 0 ≤ p := by omega
      go_enter Try.func50, Try.ntmps50
      go_wp2_with fail
      go_ret
      exact ⟨by simp, rfl⟩
  · rw [if_neg hr]
    obtain ⟨n, rfl⟩ : ∃ n : Nat, p = n := ⟨p.toNat, by omega⟩
    have hc := h.cellH (i := n) (by omega)
    have r0 : 0 ≤ (n : Int) := by omega
    have r1 : (n : Int) < 6 := by omega
    simp only [Int.toNat_natCast]
    clear hr
    by_cases hh : S.has n = true
    · rw [hh] at hc
      rw [if_pos hh]
      clear h hh
      go_enter Try.func50, Try.ntmps50
      go_wp2_with fail
      go_ret
      exact ⟨by simp, rfl⟩
    · have hh' : S.has n = false := by simpa using hh
      rw [hh'] at hc
      rw [if_neg hh]
      clear h hh hh'
      go_enter Try.func50, Try.ntmps50
      go_wp2_with fail
      go_ret
      exact ⟨by simp, rfl⟩

set_option maxHeartbeats 1000000 in
theorem rat_any (p k : Int) :
    Calls Try.prog 49 #[.pointer (some ⟨r, 0, none⟩), .int .i64 p, .int .i64 k] w fun e w' => e = .returned (.int .i64 (atE S p k)) ∧ w' = w := by
  have HO := Lib.hid (rmay_any r own S A cap w h p)
  by_cases ho : ofE S p = 0
  · obtain ⟨p0, p1, hh⟩ := ofE_ok ho
    rw [ho] at HO
    by_cases hk : 0 ≤ k ∧ k < 8
    · obtain ⟨k0, k1⟩ := hk
      obtain ⟨n, rfl⟩ : ∃ n : Nat, k = n := ⟨k.toNat, by omega⟩
      obtain ⟨i, hi⟩ : ∃ i, i = p.toNat := ⟨_, rfl⟩
      have hpi : p = (i : Int) := by omega
      subst hpi
      have hc := h.cellF (i := i) (k := n) (by omega) (by omega)
      by_cases h0 : S.fd i n = 0
      · have hE : atE S (i : Int) (n : Int) = 3 := by unfold atE; simp [ho, h0]
        rw [hE]
        rw [h0] at hc
        clear h ho hh h0 hE hi
        go_enter Try.func49, Try.ntmps49
        go_wp2_with fail
        refine HO.out.mono ?_; rintro e w' ⟨rfl, rfl⟩
        go_wp2_with fail
        go_ret
        exact ⟨by simp, rfl⟩
      · have hE : atE S (i : Int) (n : Int) = 0 := by unfold atE; simp [ho, h0, k1]
        rw [hE]
        have hz : (((S.fd i n : Nat) : Int) == 0) = false := by rw [beq_eq_false_iff_ne]; omega
        generalize ((S.fd i n : Nat) : Int) = v at *
        clear h ho hh h0 hE hi
        go_enter Try.func49, Try.ntmps49
        go_wp2_with fail
        refine HO.out.mono ?_; rintro e w' ⟨rfl, rfl⟩
        go_wp2_with fail
        go_ret
        exact ⟨by simp, rfl⟩
    · have hE : atE S p k = 3 := by unfold atE; rw [ho, if_neg (by decide), if_neg (fun hh => hk ⟨hh.1, hh.2.1⟩)]
      rw [hE]
      have hr2 : k < 0 ∨ 8 ≤ k := by omega
      clear h ho hh hE hk
      rcases hr2 with hr2 | hr2
      · go_enter Try.func49, Try.ntmps49
        go_wp2_with fail
        refine HO.out.mono ?_; rintro e w' ⟨rfl, rfl⟩
        go_wp2_with fail
        go_ret
        exact ⟨by simp, rfl⟩
      · have hr3 : 0 ≤ k := by omega
        go_enter Try.func49, Try.ntmps49
        go_wp2_with fail
        refine HO.out.mono ?_; rintro e w' ⟨rfl, rfl⟩
        go_wp2_with fail
        go_ret
        exact ⟨by simp, rfl⟩
  · have hE : atE S p k = 5 := by unfold atE; rw [if_pos ho]
    rw [hE]
    have hO := ofE_no ho
    rw [hO] at HO
    clear h ho hE hO
    go_enter Try.func49, Try.ntmps49
    go_wp2_with fail
    refine HO.out.mono ?_; rintro e w' ⟨rfl, rfl⟩
    go_wp2_with fail
    go_ret
    exact ⟨by simp, rfl⟩

set_option maxRecDepth 100000 in
set_option maxHeartbeats 2000000 in
theorem rheld_any (n : Nat) :
    Calls Try.prog 52 #[.pointer (some ⟨r, 0, none⟩), .int .i64 n] w fun e w' => e = .returned (.bool (decide (cntF S.fd n ≠ 0))) ∧ w' = w := by
  have HC := Lib.hid (fun i k (hi : i < 6) (hk : k < 8) => h.cellF hi hk)
  obtain ⟨d, hd⟩ : ∃ d, d = decide (cntF S.fd n ≠ 0) := ⟨_, rfl⟩
  rw [← hd]
  have HD := Lib.hid hd
  clear h hd
  go_enter Try.func52, Try.ntmps52
  go_wp2_with fail
  go_loopw [5] (fun v wr => ∃ i : Nat, i ≤ 6 ∧ v = .int .i64 (i : Int) ∧ wr = w ∧ ∀ a b, a < i → b < 8 → S.fd a b ≠ n) (fun v _ => 6 - (intOf v).toNat)
  case atStart => exact ⟨0, by omega, rfl, rfl, by intro a b h; omega⟩
  case round =>
    obtain ⟨i, hi, rfl, rfl, hno⟩ := hrel
    have HN := Lib.hid hno
    clear hno
    by_cases hlt : i < 6
    · have i0 : (0 : Int) ≤ (i : Int) := by omega
      have i1 : (i : Int) < 6 := by omega
      go_wp2_with fail
      go_loopw [6] (fun v wr' => ∃ k : Nat, k ≤ 8 ∧ v = .int .i64 (k : Int) ∧ wr' = wr ∧ ∀ b, b < k → S.fd i b ≠ n) (fun v _ => 8 - (intOf v).toNat)
      case atStart => exact ⟨0, by omega, rfl, rfl, by intro b h; omega⟩
      case round =>
        obtain ⟨k, hk, rfl, rfl, hno⟩ := hrel
        have HN2 := Lib.hid hno
        clear hno
        by_cases hlt2 : k < 8
        · have k0 : (0 : Int) ≤ (k : Int) := by omega
          have k1 : (k : Int) < 8 := by omega
          have hc := HC.out i k hlt hlt2
          by_cases he : S.fd i k = n
          · have hb : (((S.fd i k : Nat) : Int) == (n : Int)) = true := by rw [beq_iff_eq]; omega
            have HQ := Lib.hid (show d = true by rw [HD.out]; exact decide_eq_true (cnt_of hlt hlt2 he))
            generalize ((S.fd i k : Nat) : Int) = v at *
            clear he
            go_wp2_with fail
            go_ret
            exact ⟨by rw [HQ.out]; simp, rfl⟩
          · have hb : (((S.fd i k : Nat) : Int) == (n : Int)) = false := by rw [beq_eq_false_iff_ne]; omega
            have HN3 := Lib.hid (show ∀ b, b < k + 1 → S.fd i b ≠ n from fun b hbk => by
              by_cases hbe : b = k
              · rw [hbe]; exact he
              · exact HN2.out b (by omega))
            generalize ((S.fd i k : Nat) : Int) = v at *
            clear he
            go_wp2_with fail
            go_roundw
            case rel => exact ⟨k + 1, by omega, by go_num, (by first | rfl | trivial), HN3.out⟩
            case measure => simp [intOf]; omega
        · obtain rfl : k = 8 := by omega
          have HN3 := Lib.hid (show ∀ a b, a < i + 1 → b < 8 → S.fd a b ≠ n from fun a b ha hb => by
            by_cases hai : a = i
            · rw [hai]; exact HN2.out b hb
            · exact HN.out a b (by omega) hb)
          go_wp2_with fail
          go_roundw
          case rel => exact ⟨i + 1, by omega, by go_num, (by first | rfl | trivial), HN3.out⟩
          case measure => simp [intOf]; omega
    · obtain rfl : i = 6 := by omega
      have HQ := Lib.hid (show d = false by
        rw [HD.out]
        refine decide_eq_false fun hc => ?_
        obtain ⟨a, b, ha, hb, he⟩ := cnt_pos.1 hc
        exact HN.out a b ha hb he)
      go_wp2_with fail
      go_ret
      exact ⟨by rw [HQ.out]; simp, rfl⟩

set_option maxHeartbeats 1000000 in
theorem rbegin_any (p : Int) :
    Calls Try.prog 39 #[.pointer (some ⟨r, 0, none⟩), .int .i64 p] w (RChg w r own (.int .i64 (frE S p)) (begS S p)) := by
  have HF := Lib.hid (rfresh_any r own S A cap w h p)
  have H := Lib.hid h
  unfold begS
  by_cases he : frE S p = 0
  · rw [if_pos he]
    rw [he] at HF ⊢
    obtain ⟨p0, p1, hh⟩ := frE_ok he
    obtain ⟨n, rfl⟩ : ∃ n : Nat, p = n := ⟨p.toNat, by omega⟩
    rw [Int.toNat_natCast] at hh ⊢
    have c0 := h.cellH (i := n) (by omega)
    have f0 := h.frz n
    have HP := Lib.hid (h.setH (i := n) (by omega) true)
    have HU := Lib.hid ((Upd.refl [r] w).setCell (p := ⟨r, n, none⟩) (.inl (by simp)) (.bool true))
    clear h hh he
    go_enter Try.func39, Try.ntmps39
    go_wp2_with fail
    refine HF.out.mono ?_; rintro e w' ⟨rfl, rfl⟩
    go_wp2_with fail
    go_ret
    simp
    exact RChg.of HP.out HU.out
  · rw [if_neg he]
    have hb : (frE S p == 0) = false := by simp [he]
    generalize frE S p = e at *
    clear h he
    go_enter Try.func39, Try.ntmps39
    go_wp2_with fail
    refine HF.out.mono ?_; rintro e w' ⟨rfl, rfl⟩
    go_wp2_with fail
    go_ret
    simp
    exact RChg.same H.out (Upd.refl _ _)

set_option maxRecDepth 100000 in
set_option maxHeartbeats 2000000 in
theorem rgive_any {i : Nat} (hi : i < 6) (n : Nat) :
    Calls Try.prog 51 #[.pointer (some ⟨r, 0, none⟩), .int .i64 i, .int .i64 n] w (RChg w r own (.tuple #[.int .i64 (givV (lstF S.fd i)), .int .i64 (givE (lstF S.fd i))]) (putF S i n (lstF S.fd i))) := by
  have H := Lib.hid h
  have HC := Lib.hid (fun k (hk : k < 8) => h.cellF hi hk)
  have HFZ := Lib.hid h.frz
  obtain ⟨l, hl⟩ : ∃ l, l = lstF S.fd i := ⟨_, rfl⟩
  rw [← hl]
  have HL := Lib.hid hl
  have i0 : (0 : Int) ≤ (i : Int) := by omega
  have i1 : (i : Int) < 6 := by omega
  clear h hl
  go_enter Try.func51, Try.ntmps51
  go_wp2_with fail
  go_loopw [8] (fun v wr => ∃ k : Nat, k ≤ 8 ∧ v = .int .i64 (k : Int) ∧ wr = w ∧ ∀ y, y < k → S.fd i y ≠ 0) (fun v _ => 8 - (intOf v).toNat)
  case atStart => exact ⟨0, by omega, rfl, rfl, by intro b h; omega⟩
  case round =>
    obtain ⟨k, hk, rfl, rfl, hno⟩ := hrel
    have HN := Lib.hid hno
    clear hno
    by_cases hlt : k < 8
    · have k0 : (0 : Int) ≤ (k : Int) := by omega
      have k1 : (k : Int) < 8 := by omega
      have hc := HC.out k hlt
      by_cases he : S.fd i k = 0
      · have HQ := Lib.hid (show l = some k by rw [HL.out]; exact lst_at hlt he HN.out)
        have f0 := HFZ.out (6 + i * 8 + k)
        have HP := Lib.hid (H.out.setF hi hlt n)
        have HU := Lib.hid ((Upd.refl [r] wr).setCell (p := ⟨r, 6 + i * 8 + k, none⟩) (.inl (by simp)) (.int .i64 (n : Int)))
        rw [he] at hc
        clear he
        go_wp2_with fail
        go_ret2
        rw [HQ.out]
        simp
        exact RChg.of HP.out HU.out
      · have hb : (((S.fd i k : Nat) : Int) == 0) = false := by rw [beq_eq_false_iff_ne]; omega
        have HN3 := Lib.hid (show ∀ b, b < k + 1 → S.fd i b ≠ 0 from fun b hbk => by
          by_cases hbe : b = k
          · rw [hbe]; exact he
          · exact HN.out b (by omega))
        generalize ((S.fd i k : Nat) : Int) = v at *
        clear he
        go_wp2_with fail
        go_roundw
        case rel => exact ⟨k + 1, by omega, by go_num, (by first | rfl | trivial), HN3.out⟩
        case measure => simp [intOf]; omega
    · obtain rfl : k = 8 := by omega
      have HQ := Lib.hid (show l = none by rw [HL.out]; exact lst_no HN.out)
      go_wp2_with fail
      go_ret2
      rw [HQ.out]
      simp
      exact RChg.same H.out (Upd.refl _ _)

set_option maxHeartbeats 1000000 in
theorem rdup_any (p k : Int) :
    Calls Try.prog 44 #[.pointer (some ⟨r, 0, none⟩), .int .i64 p, .int .i64 k] w (RChg w r own (.tuple #[.int .i64 (dupV S p k), .int .i64 (dupE S p k)]) (dupS S p k)) := by
  have HA := Lib.hid (rat_any r own S A cap w h p k)
  have H := Lib.hid h
  unfold dupV dupE dupS
  by_cases he : atE S p k = 0
  · rw [if_pos he, if_pos he, if_pos he]
    obtain ⟨⟨p0, p1, hh⟩, k0, k1, h0⟩ := atE_ok he
    obtain ⟨n, hn⟩ : ∃ n, n = k.toNat := ⟨_, rfl⟩
    have hkn : k = (n : Int) := by omega
    subst hkn
    obtain ⟨i, hi⟩ : ∃ i, i = p.toNat := ⟨_, rfl⟩
    have hpi : p = (i : Int) := by omega
    subst hpi
    simp only [Int.toNat_natCast] at h0 hh ⊢
    have hc := h.cellF (i := i) (k := n) (by omega) (by omega)
    have HG := Lib.hid (rgive_any r own S A cap w h (i := i) (by omega) (S.fd i n))
    rw [he] at HA
    generalize ((S.fd i n : Nat) : Int) = v at *
    clear h he hh h0 hi hn
    go_enter Try.func44, Try.ntmps44
    go_wp2_with fail
    refine HA.out.mono ?_; rintro e w' ⟨rfl, rfl⟩
    go_wp2_with fail
    refine HG.out.mono ?_; rintro e w1 ⟨rfl, hx⟩
    have HX := Lib.hid hx
    clear hx
    go_wp2_with fail
    go_ret2
    simp
    exact ⟨rfl, HX.out⟩
  · rw [if_neg he, if_neg he, if_neg he]
    have hb : (atE S p k == 0) = false := by simp [he]
    have hb' : (atE S p k != 0) = true := by simp [he]
    generalize atE S p k = e at *
    clear h he
    go_enter Try.func44, Try.ntmps44
    go_wp2_with fail
    refine HA.out.mono ?_; rintro e w' ⟨rfl, rfl⟩
    go_wp2_with fail
    go_ret2
    simp
    exact RChg.same H.out (Upd.refl _ _)
end

end Go.Proofs.Ytedaffkdfniikaa
