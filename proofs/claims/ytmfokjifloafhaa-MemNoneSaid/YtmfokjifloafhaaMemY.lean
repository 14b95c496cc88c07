/- The reference's frames (package embrasureref06), the last part: frames handed out, compared, forked. -/
import Derived.Test.YtmfokjifloafhaaMemX
namespace Go.Proofs.Ytmfokjifloafhaa
open Go.RowKit

theorem RefX.frameAt {w : World} {m fb n cp : Nat} {L : List UInt8} {X : List Value} (h : RefX w m fb n cp L X) {i : Nat} (hi : i < n) (j : Nat) (c : UInt8) (hj : (frameOf L i)[j]? = some c) :
    w.cell? ⟨fb, 32 * i + j, none⟩ = some (.int .u8 (c.toNat : Int)) := by
  have hl := h.len
  have hj32 : j < 32 := by
    have := (List.getElem?_eq_some_iff.1 hj).1
    rw [frameOf_length L i n hl hi] at this
    exact this
  rw [frameOf_get L i j hj32] at hj
  have := h.byte (i := 32 * i + j) (by omega)
  rw [this]
  simp [List.getD, hj]

/-- append([]byte{}, src...), src bytes that are there: the new row's value. -/
theorem ref_frame_bad (m fb n : Nat) (L : List UInt8) (f : Int) (w : World) (h : RefAt w m fb n L) (hf : f < 0 ∨ n ≤ f) :
    Calls Try.prog 38 #[.pointer (some ⟨m, 0, none⟩), .int .i64 f] w fun e w' =>
      e = .returned (.tuple #[.slice none 0 0, .int .i64 2]) ∧ w = w' := by
  obtain ⟨cp, X, h⟩ := h
  have hc := h.cell
  have hn := h.hi
  clear h
  go_enter Try.func38, Try.ntmps38
  go_wp2_with (go_at_call 34; refine (ref_may_bad m fb n _ _ _ _ _ hc hn (by omega) (by omega) (by omega)).mono ?_; rintro e w' ⟨rfl, rfl⟩)
  go_ret2
  exact ⟨by simp, rfl⟩

theorem ref_frame_ok (m fb n : Nat) (L : List UInt8) (f : Nat) (w : World) (h : RefAt w m fb n L) (f1 : f < n) :
    Calls Try.prog 38 #[.pointer (some ⟨m, 0, none⟩), .int .i64 (f : Int)] w fun e w' =>
      ∃ v, e = .returned (.tuple #[v, .int .i64 0]) ∧ w'.ownsRow w.heap.size 5 1 v 32 (bcs (frameOf L f)) ∧ Upd [] w w' := by
  obtain ⟨cp, X, h⟩ := h
  have hc := h.cell
  have hn := h.hi
  have hfl := frameOf_length L f n h.len f1
  obtain ⟨i, hi, hz, hs, hb⟩ := info_parts info_bytes
  have hlit := World.ownsRow_lit (base := w.heap.size) (e := 5) (size := 1) w #[] 0 (Nat.le_refl _) (by unfold maxLen; omega) (by simp)
  have hnews : ∀ j u, (bcs (frameOf L f))[j]? = some u → (w.alloc (.cells #[] 5)).cell? ((⟨fb, f * 32, none⟩ : Addr).add j) = some u := by
    intro j v hv
    rw [bcs_get] at hv
    cases hc : (frameOf L f)[j]? with
    | none => simp [hc] at hv
    | some c =>
      simp [hc] at hv
      subst hv
      rw [Addr.add_mid, Nat.mul_comm]
      exact Lib.cell?_alloc_some _ (h.frameAt f1 j c hc)
  have hcp : 32 * n ≤ cp := by
    have h1 := h.row
    have h2 := h.len
    have := h.cap
    exact this
  have hm : m < w.heap.size := h.obj.lt
  have HN := Lib.hid hnews
  have HL := Lib.hid hlit
  have HI := Lib.hid hi
  have HFL := Lib.hid hfl
  have i1 : (0 : Int) ≤ f * 32 := by omega
  have i2 : (f : Int) * 32 ≤ (f + 1) * 32 := by omega
  have i3 : ((f : Int) + 1) * 32 ≤ cp := by omega
  have i4 : ¬ cp = f * 32 := by omega
  clear h hnews hlit hi hfl
  go_enter Try.func38, Try.ntmps38
  go_wp2_with (first | (go_at_call 34; refine (ref_may_ok m fb n _ _ _ _ _ hc hn (by omega) (by omega) (by omega) (by omega) (by omega) (by omega)).mono ?_; rintro e w' ⟨rfl, rfl⟩) | (at_builtin; refine wpList_append_own _ rfl _ _ 24 rfl w.heap.size 5 i (.int .u8 0) 1 1 under_bytes HI.out hz hs hb rfl (by decide) _ 0 [] rfl HL.out ⟨fb, f * 32, none⟩ ((f + 1) * 32 - f * 32) (cp - f * 32) (bcs (frameOf L f)) rfl (by rw [bcs_length, HFL.out]; omega) HN.out (bcs_one _) (by unfold maxLen; omega) (by omega) (by simp) ?_; intro v' w1 hown hgrow hnil))
  go_ret2
  have e : 0 + ((f + 1) * 32 - f * 32) = 32 := by omega
  rw [e] at hown
  exact ⟨v', by simp, by simpa using hown, ((Upd.refl [] w).alloc _).grown hgrow (fun k hk => .inr (by injection (show some w.heap.size = some k from hk) with h; omega))⟩

theorem under_string : Try.prog.underlying 9 = some .string := by kernel_rfl

theorem ref_clean_bad (m fb n : Nat) (L : List UInt8) (f : Int) (w : World) (h : RefAt w m fb n L) (hf : f < 0 ∨ n ≤ f) :
    Calls Try.prog 39 #[.pointer (some ⟨m, 0, none⟩), .int .i64 f] w fun e w' => e = .returned (.bool false) ∧ Upd [] w w' := by
  have HH := Lib.hid h
  clear h
  go_enter Try.func39, Try.ntmps39
  go_wp2_with fail
  refine (ref_frame_bad m fb n L f _ HH.out hf).mono ?_; rintro e w' ⟨rfl, rfl⟩
  go_wp2_with fail
  go_region
  all_goals go_wp2
  all_goals (go_ret; exact ⟨by simp, (Upd.refl _ _).drew⟩)

theorem zeros32_eq : zeros32 = (bcs (List.replicate 32 0)).toArray := rfl
theorem make32 (w : World) : (Instr.makeSlice 24 (.int .i64 32) (.int .i64 32)).run Try.prog w = .ok (.slice (some ⟨w.heap.size, 0, none⟩) 32 32) (w.alloc (.cells zeros32 5)) := by kernel_rfl

theorem bytes_beq (a b : List UInt8) : ((⟨a.toArray⟩ : ByteArray).toList == (⟨b.toArray⟩ : ByteArray).toList) = decide (a = b) := by
  rw [ByteArray.toList_eq, ByteArray.toList_eq]
  by_cases h : a = b <;> simp [h]

theorem ref_clean_ok (m fb n : Nat) (L : List UInt8) (f : Nat) (w : World) (h : RefAt w m fb n L) (f1 : f < n) :
    Calls Try.prog 39 #[.pointer (some ⟨m, 0, none⟩), .int .i64 (f : Int)] w fun e w' => e = .returned (.bool (decide (frameOf L f = List.replicate 32 0))) ∧ Upd [] w w' := by
  obtain ⟨cp, X, h0⟩ := h
  have HFL := Lib.hid (frameOf_length L f n h0.len f1)
  have HH := Lib.hid (show RefAt w m fb n L from ⟨cp, X, h0⟩)
  clear h0
  go_enter Try.func39, Try.ntmps39
  go_wp2_with fail
  refine (ref_frame_ok m fb n L f _ HH.out f1).mono ?_; rintro e w1 ⟨v, rfl, hown, hu⟩
  obtain ⟨g, cap, rfl, hg, hlt⟩ := hown.form (by omega)
  have hcell := fun j (hj : j < 32) => hown.cellAt j (by omega)
  have hS : ∀ j c, (frameOf L f)[j]? = some c → w1.cell? ⟨g, 0 + j, none⟩ = some (.int .u8 (c.toNat : Int)) := by
    intro j c hj
    have hj32 : j < 32 := by have := (List.getElem?_eq_some_iff.1 hj).1; rw [HFL.out] at this; exact this
    rw [Nat.zero_add, hcell j hj32, bcs_get, hj]
    rfl
  have hz : ∀ (W : World) j c, (List.replicate 32 (0 : UInt8))[j]? = some c → (W.alloc (.cells zeros32 5)).cell? ⟨W.heap.size, 0 + j, none⟩ = some (.int .u8 (c.toNat : Int)) := by
    intro W j c hj
    refine (Blk.new W _ _).cellAt ?_
    rw [zeros32_eq, List.getElem?_toArray, bcs_get, Nat.zero_add, hj]
    rfl
  have k1 := run_str (P := Try.prog) w1.drew 24 9 5 under_bytes under_byte under_string g 0 32 cap (frameOf L f) HFL.out hS
  have k2 := run_str (P := Try.prog) (w1.alloc (.cells zeros32 5)).drew 24 9 5 under_bytes under_byte under_string g 0 32 cap (frameOf L f) HFL.out (fun j c hj => Lib.cell?_alloc_some _ (hS j c hj))
  have k3 := run_str (P := Try.prog) (w1.alloc (.cells zeros32 5)).drew 24 9 5 under_bytes under_byte under_string w1.heap.size 0 32 32 (List.replicate 32 0) (by simp) (hz w1)
  have kb := bytes_beq (frameOf L f) (List.replicate 32 0)
  generalize (⟨(frameOf L f).toArray⟩ : ByteArray) = SA at *
  generalize (⟨(List.replicate 32 (0 : UInt8)).toArray⟩ : ByteArray) = SB at *
  obtain ⟨D, hD⟩ : ∃ D, D = decide (frameOf L f = List.replicate 32 0) := ⟨_, rfl⟩
  rw [← hD] at kb
  have HD := Lib.hid hD
  clear hD
  have hmk := make32
  unfold zeros32 at k2 k3 hmk
  have HU := Lib.hid hu
  clear hown hcell hS hz hu
  go_wp2_with fail
  go_region
  all_goals go_wp2
  all_goals (go_ret; exact ⟨by simp [HD.out], (HU.out.alloc _).drew⟩)

theorem sameInts_any (w : World) (A B : Option Addr) (xs ys : List Int) (c d : Nat) (hA : RdV w A (xs.map (Value.int .i64))) (hB : RdV w B (ys.map (Value.int .i64))) (hx : xs.length ≤ 1000000) (hy : ys.length ≤ 1000000) :
    Calls Try.prog 40 #[.slice A xs.length c, .slice B ys.length d] w fun e w' => e = .returned (.bool (decide (xs = ys))) ∧ ∃ k, w' = w.drewN k := by
  have HA := Lib.hid hA
  have HB := Lib.hid hB
  clear hA hB
  by_cases hl : xs.length = ys.length
  · generalize hK : xs.length = K at *
    have HX := Lib.hid hK
    have HY := Lib.hid hl
    rw [← hl]
    have hb : ((K : Int) == (K : Int)) = true := by simp
    have hb' : ((K : Int) != (K : Int)) = false := by simp
    clear hK hl
    go_enter Try.func40, Try.ntmps40
    go_wp2_with fail
    go_loopw [5] (fun v wr => ∃ j k : Nat, j ≤ K ∧ v = .int .i64 (j : Int) ∧ wr = w.drewN k ∧ xs.take j = ys.take j) (fun v _ => K - (intOf v).toNat)
    case atStart => exact ⟨0, 0, by omega, rfl, rfl, by simp⟩
    case round =>
      obtain ⟨j, k, hj, rfl, rfl, hpre⟩ := hrel
      have HP := Lib.hid hpre
      clear hpre
      by_cases hlt : j < K
      · have hx1 : j < xs.length := by rw [HX.out]; exact hlt
        have hy1 : j < ys.length := by rw [← HY.out]; exact hlt
        obtain ⟨b1, o1, rfl, hc1⟩ := HA.out (by simp; omega)
        obtain ⟨b2, o2, rfl, hc2⟩ := HB.out (by simp; omega)
        have hr1 := hc1 j (.int .i64 xs[j]) (by simp [hx1])
        have hr2 := hc2 j (.int .i64 ys[j]) (by simp [hy1])
        have i0 : (0 : Int) ≤ (j : Int) := by omega
        have i1 : (j : Int) < (K : Int) := by omega
        clear hc1 hc2
        by_cases hq : xs[j] = ys[j]
        · have hbq : (xs[j] == ys[j]) = true := by simp [hq]
          have hbq' : (xs[j] != ys[j]) = false := by simp [hq]
          have hfin : xs.take (j + 1) = ys.take (j + 1) := by rw [List.take_succ_eq_append_getElem hx1, List.take_succ_eq_append_getElem hy1, HP.out, hq]
          have HQ := Lib.hid hfin
          clear hfin hq
          generalize xs[j] = p at *
          generalize ys[j] = q at *
          go_wp2_with fail
          go_quiet (fail)
          go_wp2
          go_roundw
          case rel => exact ⟨j + 1, _, by omega, by go_num, rfl, HQ.out⟩
          case measure => simp [intOf]; omega
        · have hbq : (xs[j] == ys[j]) = false := by simp [hq]
          have hbq' : (xs[j] != ys[j]) = true := by simp [hq]
          have hfin : decide (xs = ys) = false := by
            rw [decide_eq_false_iff_not]
            rintro rfl
            exact hq rfl
          have HQ := Lib.hid hfin
          clear hfin hq
          generalize xs[j] = p at *
          generalize ys[j] = q at *
          go_wp2_with fail
          go_quiet (fail)
          go_wp2
          go_ret
          exact ⟨by simp [HQ.out], _, World.drewN_drewN _ _ _⟩
      · have hjk : j = K := by omega
        subst hjk
        have hfin : decide (xs = ys) = true := by
          have := HP.out
          rw [List.take_of_length_le (by rw [HX.out]; omega), List.take_of_length_le (by rw [← HY.out]; omega)] at this
          simp [this]
        have HQ := Lib.hid hfin
        clear hfin
        go_wp2
        go_ret
        exact ⟨by simp [HQ.out], _, rfl⟩
  · have hb : ((xs.length : Int) == (ys.length : Int)) = false := by rw [beq_eq_false_iff_ne]; omega
    have hb' : ((xs.length : Int) != (ys.length : Int)) = true := by rw [bne_iff_ne]; omega
    have hfin : decide (xs = ys) = false := by
      rw [decide_eq_false_iff_not]
      rintro rfl
      exact hl rfl
    have HQ := Lib.hid hfin
    clear hfin hl
    generalize xs.length = a at *
    generalize ys.length = b at *
    go_enter Try.func40, Try.ntmps40
    go_wp2_with fail
    go_ret
    exact ⟨by simp [HQ.out], 0, rfl⟩

end Go.Proofs.Ytmfokjifloafhaa
