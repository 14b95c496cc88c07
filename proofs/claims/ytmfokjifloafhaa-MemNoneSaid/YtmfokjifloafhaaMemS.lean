/- The program's frames (package mem), the fourth part: which frames are the same. -/
import Derived.Test.YtmfokjifloafhaaMemR
import Derived.Maps.AppendAt
namespace Go.Proofs.Ytmfokjifloafhaa
open Go.RowKit

def sameL (L : List UInt8) (i k : Nat) : List Nat := (List.range k).filter fun j => j ≠ i ∧ frameOf L j = frameOf L i
theorem sameL_succ (L : List UInt8) (i k : Nat) : sameL L i (k + 1) = sameL L i k ++ if k ≠ i ∧ frameOf L k = frameOf L i then [k] else [] := by
  unfold sameL
  rw [List.range_succ, List.filter_append]
  by_cases h : k ≠ i ∧ frameOf L k = frameOf L i <;> simp [List.filter_cons, h]
theorem sameL_le (L : List UInt8) (i k : Nat) : (sameL L i k).length ≤ k := by
  unfold sameL
  exact Nat.le_trans (List.length_filter_le _ _) (by simp)
def ints (l : List Nat) : List Value := l.map fun (k : Nat) => .int .i64 (k : Int)

theorem info_int : (Try.prog.info? 3).map (fun i => (i.zero, i.size, i.bytes)) = some (some (.int .i64 0), 1, 8) := by kernel_rfl
theorem under_ints : Try.prog.underlying 52 = some (.slice 3) := by kernel_rfl

theorem mem_same_bad (m fb n : Nat) (L : List UInt8) (f : Int) (w : World) (h : MemAt w m fb n L) (hf : f < 0 ∨ n ≤ f) :
    Calls Try.prog 23 #[.pointer (some ⟨m, 0, none⟩), .int .i64 f] w fun e w' => e = .returned (.slice none 0 0) ∧ w = w' := by
  obtain ⟨cp, X, h⟩ := h
  have hc := h.cell
  clear h
  go_enter Try.func23, Try.ntmps23
  go_wp2_with fail
  refine (mem_at_bad m fb n _ _ _ _ _ hc (by omega) (by omega) (by omega)).mono ?_; rintro e w' ⟨rfl, rfl⟩
  go_wp2_with fail
  go_ret
  exact ⟨by simp, rfl⟩

set_option maxRecDepth 100000 in
set_option maxHeartbeats 1000000 in
theorem mem_same_ok (m fb n : Nat) (L : List UInt8) (f : Nat) (w : World) (h : MemAt w m fb n L) (f1 : f < n) :
    Calls Try.prog 23 #[.pointer (some ⟨m, 0, none⟩), .int .i64 (f : Int)] w fun e w' =>
      ∃ v, e = .returned v ∧ w'.ownsRow w.heap.size 3 1 v (sameL L f n).length (ints (sameL L f n)) ∧ Upd [] w w' := by
  obtain ⟨cp, X, h⟩ := h
  have hc := h.cell
  have hn := h.hi
  have HH := Lib.hid h
  clear h
  go_enter Try.func23, Try.ntmps23
  go_wp2_with fail
  refine (mem_at_ok m fb n _ _ _ _ _ hc hn (by omega) (by omega) (by omega) (by omega) (by omega) (by omega)).mono ?_; rintro e w' ⟨rfl, rfl⟩
  go_wp2_with fail
  go_loopw [7, 23] (fun v c wr => ∃ k : Nat, k ≤ n ∧ c = .int .i64 (k : Int) ∧ wr.ownsRow w.heap.size 3 1 v (sameL L f k).length (ints (sameL L f k)) ∧ Upd [] w wr) (fun _ c _ => n - (intOf c).toNat)
  case atStart => exact ⟨0, by omega, rfl, by simpa [sameL, ints] using World.ownsRow_nil w w.heap.size 3 1, Upd.refl _ _⟩
  case round =>
    obtain ⟨k, hk, rfl, hown, hu⟩ := hrel
    have hX : MemX wr m fb n cp L X := HH.out.upd hu (by simp) (by simp)
    have hcr := hX.cell
    by_cases hlt : k < n
    · have hl := hX.len
      have hra : wr.rangeAt fb (k * 32) (bcs (frameOf L k)) := by have := hX.rangeAt (i := k) hlt; rw [Nat.mul_comm]; exact this
      have hfk := frameOf_length L k n hl hlt
      have hff := frameOf_length L f n hl f1
      have HSK := Lib.hid (show (Try.prog.info? 70).map (·.size) = some (bcs (frameOf L k)).length by rw [bcs_length, hfk]; exact info_frame)
      have HSF := Lib.hid (show (Try.prog.info? 70).map (·.size) = some (bcs (frameOf L f)).length by rw [bcs_length, hff]; exact info_frame)
      have H32 := Lib.hid (show (bcs (frameOf L k)).toArray.size = 32 by simp [bcs_length, hfk])
      have HEQ := Lib.hid (fun w => run_equalIn_barr (P := Try.prog) w 9998 70 5 32 (frameOf L k) (frameOf L f) hfk hff under_frame under_byte info_byte)
      have HX := Lib.hid hX
      have HO := Lib.hid hown
      have HU := Lib.hid hu
      clear hl hfk hff hX hown hu
      go_wp2_with (first
        | (refine wpList_load_midg rfl 70 _ rfl fb (k * 32) rfl _ _ hra under_frame rfl HSK.out ?_)
        | (refine wpList_store_new rfl 70 _ _ rfl _ rfl rfl 70 _ (by rw [List.size_toArray]; exact HSK.out) (by rw [H32.out]; rfl) (bcs_all _) ?_))
      simp only [Act.put]
      have hX1 := HX.out.alloc (.cells (bcs (frameOf L k)).toArray 70)
      have hr9 := rangeAt_new wr 70 (bcs (frameOf L k))
      have hO1 := HO.out.alloc (.cells (bcs (frameOf L k)).toArray 70)
      have hU1 := HU.out.alloc (.cells (bcs (frameOf L k)).toArray 70)
      have hfz : w.heap.size ≤ wr.heap.size := HU.out.size
      generalize wr.heap.size = N9 at *
      clear HX HO HU hcr hra
      generalize wr.alloc (.cells (bcs (frameOf L k)).toArray 70) = W1 at *
      have hcr := hX1.cell
      have hrf : W1.rangeAt fb (f * 32) (bcs (frameOf L f)) := by have := hX1.rangeAt (i := f) f1; rw [Nat.mul_comm]; exact this
      have HO := Lib.hid hO1
      have HU := Lib.hid hU1
      clear hO1 hU1 hX1
      have hsz := HU.out.size
      by_cases hkf : k = f
      · subst hkf
        have hs := Lib.hid (sameL_succ L k k)
        refine wp_region_quiet_lit (by kernel_rfl) (by kernel_rfl) ?_
        repeat (first | go_big_quiet_step (fail) | quiet_step (fail))
        refine wpQuiet_nil ?_
        intro _ hw'
        obtain ⟨nq, hw''⟩ := hw'
        subst hw''
        go_wp2
        go_roundw
        case rel => exact ⟨k + 1, by omega, by go_num, by rw [hs.out, if_neg (fun h => h.1 rfl), List.append_nil]; exact HO.out, HU.out.drewN nq⟩
        case measure => simp [intOf]; omega
      · have hkb : ((k : Int) == (f : Int)) = false := by rw [beq_eq_false_iff_ne]; omega
        have hkb' : ((k : Int) != (f : Int)) = true := by rw [bne_iff_ne]; omega
        have hs := Lib.hid (sameL_succ L f k)
        by_cases hqq : frameOf L k = frameOf L f
        · have heq : ∀ w : World, (Op.equalIn 10000 70 (.agg (bcs (frameOf L k)).toArray) (.agg (bcs (frameOf L f)).toArray)).run Try.prog w = .ok true w := fun w => (HEQ.out w).trans (by rw [decide_eq_true hqq])
          have HQ := Lib.hid hqq
          clear hqq
          refine wp_region_quiet_lit (by kernel_rfl) (by kernel_rfl) ?_
          repeat (first
            | (refine wpQuiet_load_midg rfl 70 _ rfl N9 0 rfl _ _ hr9 under_frame rfl HSK.out ?_)
            | (refine wpQuiet_load_midg rfl 70 _ rfl fb (f * 32) rfl _ _ hrf under_frame rfl HSF.out ?_)
            | go_big_quiet_step (fail) | quiet_step (fail))
          refine wpQuiet_nil ?_
          intro _ hw'
          obtain ⟨nq, hw''⟩ := hw'
          subst hw''
          have HO2 : Hid ((W1.drewN nq).ownsRow w.heap.size 3 1 u7 (sameL L f k).length (ints (sameL L f k))) := HO.out
          have HU2 := Lib.hid (HU.out.drewN nq)
          have HL := Lib.hid (sameL_le L f k)
          have hs2 := hsz
          have hsize : (W1.drewN nq).heap.size = W1.heap.size := rfl
          rw [← hsize] at hs2
          clear HO HU hr9 hrf heq hcr hsize hsz
          generalize W1.drewN nq = W2 at *
          obtain ⟨i, hi, hz, hsi, hb⟩ := info_parts info_int
          have HI := Lib.hid hi
          clear hi
          go_wp2_with (at_builtin; refine wpList_append_own_at _ rfl _ _ 52 rfl w.heap.size 3 i (.int .i64 0) 1 8 under_ints HI.out hz hsi hb rfl (by decide) _ _ _ rfl (HO2.out.alloc _) ⟨W2.heap.size, 0, none⟩ 1 1 [.int .i64 (k : Int)] rfl rfl (cell_one_new _ _ _) (by simp [Value.oneCell']) (by have := HL.out; unfold maxLen; omega) (by have := HL.out; omega) (by simp; omega) ?_; intro v' w1 hown' hgrow hnil hat)
          have hfin : w1.ownsRow w.heap.size 3 1 v' (sameL L f (k + 1)).length (ints (sameL L f (k + 1))) := by
            rw [hs.out, if_pos ⟨hkf, HQ.out⟩]
            simpa [ints] using hown'
          have hup : Upd [] w w1 := (HU2.out.alloc _).grown hgrow (fun j hj => .inr (HO2.out.lt j hj).1)
          have HF := Lib.hid hfin
          have HG := Lib.hid hup
          clear hown' hgrow hnil hat hfin hup
          go_wp2
          go_roundw
          case rel => exact ⟨k + 1, by omega, by go_num, HF.out, HG.out⟩
          case measure => simp [intOf]; omega
        · have heq : ∀ w : World, (Op.equalIn 10000 70 (.agg (bcs (frameOf L k)).toArray) (.agg (bcs (frameOf L f)).toArray)).run Try.prog w = .ok false w := fun w => (HEQ.out w).trans (by rw [decide_eq_false hqq])
          have HQ := Lib.hid hqq
          clear hqq
          refine wp_region_quiet_lit (by kernel_rfl) (by kernel_rfl) ?_
          repeat (first
            | (refine wpQuiet_load_midg rfl 70 _ rfl N9 0 rfl _ _ hr9 under_frame rfl HSK.out ?_)
            | (refine wpQuiet_load_midg rfl 70 _ rfl fb (f * 32) rfl _ _ hrf under_frame rfl HSF.out ?_)
            | go_big_quiet_step (fail) | quiet_step (fail))
          refine wpQuiet_nil ?_
          intro _ hw'
          obtain ⟨nq, hw''⟩ := hw'
          subst hw''
          go_wp2
          go_roundw
          case rel => exact ⟨k + 1, by omega, by go_num, by rw [hs.out, if_neg (fun h => HQ.out h.2), List.append_nil]; exact HO.out, HU.out.drewN nq⟩
          case measure => simp [intOf]; omega
    · have hkn : k = n := by omega
      subst hkn
      go_wp2
      go_ret
      exact ⟨u7, rfl, hown, hu⟩

end Go.Proofs.Ytmfokjifloafhaa
