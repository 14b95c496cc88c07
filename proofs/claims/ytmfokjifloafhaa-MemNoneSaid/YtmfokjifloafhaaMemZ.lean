/- The reference's frames (package embrasureref06): Same, Fork, New. -/
import Derived.Test.YtmfokjifloafhaaMemY
namespace Go.Proofs.Ytmfokjifloafhaa
open Go.RowKit

theorem own_mono {w : World} {base base' : Nat} {e : TypeId} {size n : Nat} {v : Value} {xs : List Value} (h : w.ownsRow base e size v n xs) (hb : base' ≤ base) : w.ownsRow base' e size v n xs := by
  refine ⟨h.1, ?_⟩
  rcases h.2 with hn | ⟨g, cap, cur, h1, h2, h3⟩
  · exact .inl hn
  · exact .inr ⟨g, cap, cur, h1, Nat.le_trans hb h2, h3⟩

theorem ref_same_bad (m fb n : Nat) (L : List UInt8) (f : Int) (w : World) (h : RefAt w m fb n L) (hf : f < 0 ∨ n ≤ f) :
    Calls Try.prog 41 #[.pointer (some ⟨m, 0, none⟩), .int .i64 f] w fun e w' => e = .returned (.slice none 0 0) ∧ w = w' := by
  have HH := Lib.hid h
  clear h
  go_enter Try.func41, Try.ntmps41
  go_wp2_with fail
  refine (ref_frame_bad m fb n L f _ HH.out hf).mono ?_; rintro e w' ⟨rfl, rfl⟩
  go_wp2_with fail
  go_loopw [5] (fun v wr => v = .slice none 0 0 ∧ wr = w) (fun _ _ => 0)
  case atStart => exact ⟨rfl, rfl⟩
  case round =>
    obtain ⟨rfl, rfl⟩ := hrel
    go_wp2_with fail
    go_ret
    exact ⟨by simp, rfl⟩

set_option maxHeartbeats 2000000 in
theorem ref_same_ok (m fb n : Nat) (L : List UInt8) (f : Nat) (w : World) (h : RefAt w m fb n L) (f1 : f < n) :
    Calls Try.prog 41 #[.pointer (some ⟨m, 0, none⟩), .int .i64 (f : Int)] w fun e w' =>
      ∃ v, e = .returned v ∧ w'.ownsRow w.heap.size 3 1 v (sameL L f n).length (ints (sameL L f n)) ∧ Upd [] w w' := by
  obtain ⟨cp0, X0, h0⟩ := h
  have hn := h0.hi
  have HFL := Lib.hid (frameOf_length L f n h0.len f1)
  have HLN := Lib.hid h0.len
  have HH := Lib.hid (show RefAt w m fb n L from ⟨cp0, X0, h0⟩)
  have HC := Lib.hid h0.cell
  clear h0
  go_enter Try.func41, Try.ntmps41
  go_wp2_with fail
  refine (ref_frame_ok m fb n L f _ HH.out f1).mono ?_; rintro e w1 ⟨v, rfl, hown, hu⟩
  obtain ⟨g, cap, rfl, hg, hlt⟩ := hown.form (by omega)
  have hcell := fun j (hj : j < 32) => hown.cellAt j (by omega)
  have hS : ∀ j c, (frameOf L f)[j]? = some c → w1.cell? ⟨g, 0 + j, none⟩ = some (.int .u8 (c.toNat : Int)) := by
    intro j c hj
    have hj32 : j < 32 := by have := (List.getElem?_eq_some_iff.1 hj).1; rw [HFL.out] at this; exact this
    rw [Nat.zero_add, hcell j hj32, bcs_get, hj]
    rfl
  have HS := Lib.hid hS
  have HU := Lib.hid hu
  clear hown hcell hS hu
  go_wp2_with fail
  go_loopw [5, 8] (fun v c wr => ∃ k : Nat, k ≤ n ∧ c = .int .i64 (k : Int) ∧ wr.ownsRow w1.heap.size 3 1 v (sameL L f k).length (ints (sameL L f k)) ∧ Upd [] w1 wr) (fun _ c _ => n - (intOf c).toNat)
  case atStart => exact ⟨0, by omega, rfl, by simpa [sameL, ints] using World.ownsRow_nil w1 w1.heap.size 3 1, Upd.refl _ _⟩
  case round =>
    obtain ⟨k, hk, rfl, hown, hu⟩ := hrel
    have hu0 : Upd [] w wr := HU.out.trans0 hu
    have HR : Hid (RefAt wr m fb n L) := HH.out.upd hu0 (by simp) (by simp)
    have hcr : wr.cell? ⟨m, 0, none⟩ = some (.slice (some ⟨fb, 0, none⟩) (32 * n) cp0) := hu0.lt_old HC.out
    have HO := Lib.hid hown
    have HV := Lib.hid hu
    clear hown hu hu0
    by_cases hlt : k < n
    · have HFK := Lib.hid (frameOf_length L k n HLN.out hlt)
      have i1 : (k : Int) < (n : Int) := by omega
      go_wp2_with (go_at_call 37; refine (ref_size m fb n _ _ hcr hn).mono ?_; rintro e w' ⟨rfl, rfl⟩)
      refine (ref_frame_ok m fb n L k _ HR.out hlt).mono ?_; rintro e w2 ⟨v2, rfl, hown2, hu2⟩
      obtain ⟨g2, cap2, rfl, hg2, hlt2⟩ := hown2.form (by omega)
      have hcell2 := fun j (hj : j < 32) => hown2.cellAt j (by omega)
      have hS2 : ∀ j c, (frameOf L k)[j]? = some c → w2.cell? ⟨g2, 0 + j, none⟩ = some (.int .u8 (c.toNat : Int)) := by
        intro j c hj
        have hj32 : j < 32 := by have := (List.getElem?_eq_some_iff.1 hj).1; rw [HFK.out] at this; exact this
        rw [Nat.zero_add, hcell2 j hj32, bcs_get, hj]
        rfl
      have hS1 : ∀ j c, (frameOf L f)[j]? = some c → w2.cell? ⟨g, 0 + j, none⟩ = some (.int .u8 (c.toNat : Int)) := fun j c hj => (HV.out.trans0 hu2).lt_old (HS.out j c hj)
      have k1 := run_str (P := Try.prog) w2 24 9 5 under_bytes under_byte under_string g 0 32 cap (frameOf L f) HFL.out hS1
      have k2 := run_str (P := Try.prog) w2 24 9 5 under_bytes under_byte under_string g2 0 32 cap2 (frameOf L k) HFK.out hS2
      have HO2 : Hid (w2.ownsRow w1.heap.size 3 1 u5 (sameL L f k).length (ints (sameL L f k))) := HO.out.kept (row := none) ⟨hu2.os, hu2.tape, hu2.output, hu2.size, fun i hi _ => hu2.block i hi (by simp)⟩ (by cases u5.ownBlock <;> simp)
      have HV2 := Lib.hid (HV.out.trans0 hu2)
      have hs := Lib.hid (sameL_succ L f k)
      have hsz := HV2.out.size
      clear hown2 hcell2 hS2 hS1 hu2 HO HV HR hcr
      by_cases hkf : k = f
      · have hkb : ((k : Int) == (f : Int)) = true := by simp [hkf]
        have hkb' : ((k : Int) != (f : Int)) = false := by simp [hkf]
        have HKF := Lib.hid hkf
        clear hkf
        go_wp2_with fail
        go_roundw
        case rel => exact ⟨k + 1, by omega, by go_num, by rw [hs.out, if_neg (fun h => h.1 HKF.out), List.append_nil]; exact HO2.out, HV2.out⟩
        case measure => simp [intOf]; omega
      · have hkb : ((k : Int) == (f : Int)) = false := by rw [beq_eq_false_iff_ne]; omega
        have hkb' : ((k : Int) != (f : Int)) = true := by rw [bne_iff_ne]; omega
        have kb := bytes_beq (frameOf L k) (frameOf L f)
        by_cases hqq : frameOf L k = frameOf L f
        · have HQ := Lib.hid hqq
          rw [decide_eq_true hqq] at kb
          clear hqq
          generalize (⟨(frameOf L f).toArray⟩ : ByteArray) = SA at *
          generalize (⟨(frameOf L k).toArray⟩ : ByteArray) = SB at *
          obtain ⟨i, hi, hz, hsi, hb⟩ := info_parts info_int
          have HI := Lib.hid hi
          have HL := Lib.hid (sameL_le L f k)
          clear hi
          go_wp2_with (at_builtin; refine wpList_append_own_at _ rfl _ _ 52 rfl w1.heap.size 3 i (.int .i64 0) 1 8 under_ints HI.out hz hsi hb rfl (by decide) _ _ _ rfl (HO2.out.alloc _) ⟨w2.heap.size, 0, none⟩ 1 1 [.int .i64 (k : Int)] rfl rfl (cell_one_new _ _ _) (by simp [Value.oneCell']) (by have := HL.out; unfold maxLen; omega) (by have := HL.out; omega) (by simp; omega) ?_; intro v' w3 hown' hgrow hnil hat)
          have hfin : w3.ownsRow w1.heap.size 3 1 v' (sameL L f (k + 1)).length (ints (sameL L f (k + 1))) := by
            rw [hs.out, if_pos ⟨hkf, HQ.out⟩]
            simpa [ints] using hown'
          have hup : Upd [] w1 w3 := ((HV2.out.alloc _).grown hgrow (S := []) (fun j hj => .inr (HO2.out.lt j hj).1))
          have HF := Lib.hid hfin
          have HG := Lib.hid hup
          clear hown' hgrow hnil hat hfin hup
          go_wp2
          go_roundw
          case rel => exact ⟨k + 1, by omega, by go_num, HF.out, HG.out⟩
          case measure => simp [intOf]; omega
        · have HQ := Lib.hid hqq
          rw [decide_eq_false hqq] at kb
          clear hqq
          generalize (⟨(frameOf L f).toArray⟩ : ByteArray) = SA at *
          generalize (⟨(frameOf L k).toArray⟩ : ByteArray) = SB at *
          go_wp2_with fail
          go_roundw
          case rel => exact ⟨k + 1, by omega, by go_num, by rw [hs.out, if_neg (fun h => HQ.out h.2), List.append_nil]; exact HO2.out, HV2.out⟩
          case measure => simp [intOf]; omega
    · have hkn : k = n := by omega
      subst hkn
      go_wp2_with (go_at_call 37; refine (ref_size m fb k _ _ hcr hn).mono ?_; rintro e w' ⟨rfl, rfl⟩)
      go_ret
      exact ⟨u5, rfl, own_mono HO.out HU.out.size, HU.out.trans0 HV.out⟩

theorem ref_new (n : Int) (w : World) :
    Calls Try.prog 31 #[.int .i64 n] w fun e w' =>
      if n < 1 ∨ 64 < n then e = .returned (.pointer none) ∧ w = w' else
      ∃ m fb, e = .returned (.pointer (some ⟨m, 0, none⟩)) ∧ RefAt w' m fb n.toNat (List.replicate (32 * n.toNat) 0) ∧ Upd [] w w' ∧ w.heap.size ≤ m ∧ w.heap.size ≤ fb := by
  by_cases hk : n < 1 ∨ 64 < n
  · simp only [if_pos hk]
    go_enter Try.func31, Try.ntmps31
    go_wp2
    all_goals (first | (go_ret; exact ⟨rfl, rfl⟩) | (exfalso; omega))
  · simp only [if_neg hk]
    obtain ⟨k, rfl⟩ : ∃ k : Nat, n = k := ⟨n.toNat, by omega⟩
    obtain ⟨i, hi, hz, hs, hb⟩ := info_parts info_bytes
    have HI := Lib.hid hi
    have HZ := Lib.hid hz
    clear hi hz
    have h1 : (1 : Int) ≤ k := by omega
    have h2 : (k : Int) ≤ 64 := by omega
    rw [Int.toNat_natCast]
    clear hk
    go_enter Try.func31, Try.ntmps31
    go_wp2_with (refine wpList_make_full _ rfl _ _ 24 rfl w.heap.size 5 i (.int .u8 0) 1 under_bytes HI.out HZ.out hs .i64 .i64 _ _ (32 * k) rfl rfl (by omega) (by omega) (by rw [hb]; omega) (by unfold maxLen; omega) (by simp) ?_; intro w1 hown hgrow)
    go_ret
    have hb2 := (World.ownsRow.lt hown w.heap.size rfl).2
    rcases hown.2 with ⟨h, _⟩ | ⟨g, cap, cur, hv, _, hg, hle, _, hsz, htk⟩
    · injection h with h _ _; injection h
    · injection hv with ha _ hcap
      injection ha with ha
      injection ha with ha _ _
      subst ha hcap
      rw [List.take_of_length_le (by simp; omega)] at htk
      have hm : (madeCells (Value.int .u8 0).cells (32 * k * 1)).toList = bcs (List.replicate (32 * k) 0) := by
        rw [Nat.mul_one]
        show (madeCells #[Value.int .u8 0] (32 * k)).toList = _
        rw [toList_madeCells_one]
        simp [bcs]
      rw [hm] at htk
      have hu : Upd [] w (w1.alloc (.cells #[.slice (some ⟨w.heap.size, 0, none⟩) (32 * k) (32 * k)] RefT)) := ((Upd.refl [] w).grown hgrow (fun _ h => by cases h)).alloc _
      refine ⟨w1.heap.size, w.heap.size, rfl, ⟨32 * k, [], ⟨Blk.new _ _ _, ?_, by simp, by omega, by omega, Nat.le_refl _⟩⟩, hu, by omega, Nat.le_refl _⟩
      have hbk : Blk w1 w.heap.size U8T cur := hg
      have : cur = (bcs (List.replicate (32 * k) 0) ++ []).toArray := by rw [List.append_nil, ← htk]
      rw [← this]
      exact hbk.alloc _

theorem ref_fork (m fb n : Nat) (L : List UInt8) (w : World) (h : RefAt w m fb n L) :
    Calls Try.prog 27 #[.pointer (some ⟨m, 0, none⟩)] w fun e w' =>
      ∃ m' fb', e = .returned (.pointer (some ⟨m', 0, none⟩)) ∧ RefAt w' m' fb' n L ∧ Upd [] w w' ∧ w.heap.size ≤ m' ∧ w.heap.size ≤ fb' := by
  obtain ⟨cp, X, h⟩ := h
  have hc := h.cell
  have hl := h.len
  have hlo := h.lo
  have hn := h.hi
  obtain ⟨i, hi, hz, hs, hb⟩ := info_parts info_bytes
  have hlit := World.ownsRow_lit (base := w.heap.size) (e := 5) (size := 1) w #[] 0 (Nat.le_refl _) (by unfold maxLen; omega) (by simp)
  have hnews : ∀ j u, (bcs L)[j]? = some u → (w.alloc (.cells #[] 5)).cell? ((⟨fb, 0, none⟩ : Addr).add j) = some u := by
    intro j v hv
    rw [bcs_get] at hv
    cases hc : L[j]? with
    | none => simp [hc] at hv
    | some c =>
      simp [hc] at hv
      subst hv
      rw [Addr.add_mid, Nat.zero_add]
      have hjl : j < L.length := (List.getElem?_eq_some_iff.1 hc).1
      have := h.byte (i := j) (by omega)
      refine Lib.cell?_alloc_some _ ?_
      rw [this]
      simp [List.getD, hc]
  have hm : m < w.heap.size := h.obj.lt
  have HN := Lib.hid hnews
  have HL := Lib.hid hlit
  have HI := Lib.hid hi
  have HLL := Lib.hid hl
  clear h hnews hlit hi hl
  go_enter Try.func27, Try.ntmps27
  go_wp2_with (at_builtin; refine wpList_append_own _ rfl _ _ 24 rfl w.heap.size 5 i (.int .u8 0) 1 1 under_bytes HI.out hz hs hb rfl (by decide) _ 0 [] rfl HL.out ⟨fb, 0, none⟩ (32 * n) cp (bcs L) rfl (by rw [bcs_length, HLL.out]; omega) HN.out (bcs_one _) (by unfold maxLen; omega) (by omega) (by simp) ?_; intro v' w1 hown hgrow hnil; obtain ⟨g, cap, rfl, hbg, hlt⟩ := hown.form (by omega); have HGR := Lib.hid hgrow; have HOW := Lib.hid hown; clear hgrow hown hnil)
  go_ret
  have hu : Upd [] w w1 := ((Upd.refl [] w).alloc _).grown HGR.out (fun k hk => .inr (by injection (show some w.heap.size = some k from hk) with h; omega))
  have hown := HOW.out
  rw [Nat.zero_add, List.nil_append] at hown
  rcases hown.2 with ⟨h, _⟩ | ⟨g', cap', cur, hv, _, hg, hle, _, hsz, htk⟩
  · injection h with h _ _; injection h
  · injection hv with ha _ hcap
    injection ha with ha
    injection ha with ha _ _
    subst ha hcap
    refine ⟨w1.heap.size, rfl, g, ⟨cap, cur.toList.drop (32 * n), ⟨Blk.new _ _ _, ?_, HLL.out, hlo, hn, hle⟩⟩, hu.alloc _, hu.size, hbg⟩
    have : cur = (bcs L ++ cur.toList.drop (32 * n)).toArray := by
      rw [← htk, Nat.mul_one, List.take_append_drop]
    rw [← this]
    exact Blk.alloc (show Blk w1 g U8T cur from hg) _

end Go.Proofs.Ytmfokjifloafhaa
