/- Finding: the reference. -/
import Derived.Test.YtefjppebohnmjaaTlbI
namespace Go.Proofs.Ytefjppebohnmjaa
open Go.RowKit Go.Shelf

theorem At.w {w : World} {t : Nat} {own : List Nat} {L : List Mp} (h : At RefT w t own L) : ∃ A cap, Blk w t RefT #[.slice A L.length cap] ∧ Reads w A L ∧ L.length ≤ 8 := by
  obtain ⟨A, cap, hb, hr, _, hl⟩ := h
  exact ⟨A, cap, hb, hr.reads, hl⟩

set_option maxRecDepth 100000 in
set_option maxHeartbeats 2000000 in
theorem rat_any (t : Nat) (own : List Nat) (L : List Mp) (w : World) (h : At RefT w t own L) (a p : Nat) :
    Calls Try.prog 30 #[.pointer (some ⟨t, 0, none⟩), .int .u8 a, .int .u8 p] w fun e w' => e = .returned (.int .i64 (idx (isAt a p) L)) ∧ Upd [] w w' := by
  obtain ⟨A, cap, hb, hr, hl⟩ := h.w
  have HI := Lib.hid (idx_def (isAt a p) L)
  generalize idx (isAt a p) L = r at *
  have HR := Lib.hid hr
  have HBk := Lib.hid hb
  generalize hn : L.length = n at *
  have HN := Lib.hid hn
  clear hr hb hn h
  go_enter Try.func30, Try.ntmps30
  go_wp2_with fail
  go_loopw [7] (fun v wr => ∃ k : Nat, k ≤ n ∧ v = .int .i64 (k : Int) ∧ Upd [] w wr ∧ (∀ y, y ∈ L.take k → isAt a p y = false)) (fun v _ => n - (intOf v).toNat)
  case atStart => exact ⟨0, by omega, rfl, Upd.refl _ _, by simp⟩
  case round =>
    obtain ⟨k, hk, rfl, hu, hno⟩ := hrel
    have HU := Lib.hid hu
    have HNO := Lib.hid hno
    have hc : wr.cell? ⟨t, 0, none⟩ = some (.slice A n cap) := (HBk.out.upd hu (by simp)).cellAt (i := 0) rfl
    by_cases hlt : k < n
    · have i1 : (k : Int) < (n : Int) := by omega
      have i0 : (0 : Int) ≤ (k : Int) := by omega
      have hkl : k < L.length := by rw [HN.out]; exact hlt
      obtain ⟨m, hm⟩ : ∃ m, L[k]? = some m := ⟨_, List.getElem?_eq_getElem hkl⟩
      have hr2 := HR.out.upd hu (by simp)
      obtain ⟨b, o, rfl, hcs⟩ := hr2 (by rw [HN.out]; omega)
      have ha0 := hcs k m hm 0 _ rfl
      have ha1 := hcs k m hm 1 _ rfl
      rw [Nat.add_zero] at ha0
      have HM := Lib.hid hm
      clear hu hno hcs hm hr2
      by_cases h1 : m.a = a
      · have j1 : (m.a : Int) = (a : Int) := by omega
        by_cases h2 : m.p = p
        · have j2 : (m.p : Int) = (p : Int) := by omega
          have HQ := Lib.hid (show isAt a p m = true from by simp [isAt, h1, h2])
          clear h1 h2
          go_wp2_with fail
          go_ret
          refine ⟨?_, HU.out⟩
          rw [HI.out, findIdx_at _ L k m HM.out HNO.out HQ.out]
          simp
        · have j2 : ¬ (m.p : Int) = (p : Int) := by omega
          have HQ := Lib.hid (show isAt a p m = false from by simp [isAt, h1, h2])
          clear h1 h2
          go_wp2_with fail
          go_roundw
          case rel => exact ⟨k + 1, by omega, by go_num, HU.out, take_step HM.out HNO.out HQ.out⟩
          case measure => simp [intOf]; omega
      · have j1 : ¬ (m.a : Int) = (a : Int) := by omega
        have HQ := Lib.hid (show isAt a p m = false from by simp [isAt, h1])
        clear h1
        go_wp2_with fail
        go_roundw
        case rel => exact ⟨k + 1, by omega, by go_num, HU.out, take_step HM.out HNO.out HQ.out⟩
        case measure => simp [intOf]; omega
    · obtain rfl : k = n := by omega
      clear hu hno
      go_wp2_with fail
      go_ret
      refine ⟨?_, HU.out⟩
      rw [HI.out, findIdx_no _ L (fun y hy => HNO.out y (by rw [List.take_of_length_le (by rw [HN.out]; exact Nat.le_refl _)]; exact hy))]
      simp

set_option maxRecDepth 100000 in
set_option maxHeartbeats 2000000 in
theorem rfind_any (t : Nat) (own : List Nat) (L : List Mp) (w : World) (h : At RefT w t own L) (a p : Nat) :
    Calls Try.prog 13 #[.pointer (some ⟨t, 0, none⟩), .int .u8 a, .int .u8 p] w fun e w' =>
      e = .returned (.tuple #[.agg (encM (findM a p L)).toArray, .bool (hasM a p L)]) ∧ Upd [] w w' := by
  have hu0 := (Upd.refl [] w).alloc (.cells #[.int .u8 0, .int .u8 0, .int .u8 0, .bool false] 24)
  have HB := Lib.hid (Blk.new w MapT (encM mz).toArray)
  obtain ⟨A, cap, hb, hr, _⟩ := (h.upd0 hu0).w
  have HA := Lib.hid (rat_any t own L _ (h.upd0 hu0) a p)
  have HU := Lib.hid hu0
  unfold findM hasM
  rw [find_idx]
  clear h hu0
  have hin := idx_def (isAt a p) L
  cases hq : L.findIdx? (isAt a p) with
  | none =>
    rw [hq] at hin
    rw [hin] at HA
    clear hin hq
    go_enter Try.func13, Try.ntmps13
    go_wp2_with fail
    refine HA.out.mono ?_; rintro e w1 ⟨rfl, hu1⟩
    have hb1 := HB.out.upd hu1 (by simp)
    have HU1 := Lib.hid hu1
    clear hu1 hb hr
    go_wp2_with (refine wpList_store_map rfl _ _ rfl w.heap.size mz mz rfl rfl hb1 ?_; intro w2 hb2 hu2)
    refine bodyPost_ret (res_ct rfl _ _ w.heap.size mz rfl hb2 _ rfl) rfl ?_
    exact ⟨by simp, (HU.out.trans0 HU1.out).trans hu2 (by simp)⟩
  | some i =>
    rw [hq] at hin
    rw [hin] at HA
    clear hin
    obtain ⟨m, hm, _, _⟩ := findIdx_spec _ L i hq
    have hil : i < L.length := (List.getElem?_eq_some_iff.1 hm).1
    have HM := Lib.hid hm
    obtain ⟨b, o, rfl, hcs⟩ := hr (by omega)
    have hra := hcs i m hm
    have i0 : (0 : Int) ≤ (i : Int) := by omega
    have i1 : (i : Int) < (L.length : Int) := by omega
    generalize L.length = n at *
    clear hq hm hcs
    go_enter Try.func13, Try.ntmps13
    go_wp2_with fail
    refine HA.out.mono ?_; rintro e w1 ⟨rfl, hu1⟩
    have hb1 := HB.out.upd hu1 (by simp)
    have hra1 : w1.rangeAt b (o + i * 4) (encM m) := fun i v hv => hu1.cellAt (hra i v hv) (by simp)
    have hc1 : w1.cell? ⟨t, 0, none⟩ = some (.slice (some ⟨b, o, none⟩) n cap) := (hb.upd hu1 (by simp)).cellAt (i := 0) rfl
    have HU1 := Lib.hid hu1
    clear hu1 hb hr hra
    go_wp2_with (first
      | (refine wpList_load_map rfl _ rfl b (o + i * 4) m rfl hra1 ?_)
      | (refine wpList_store_map rfl _ _ rfl w.heap.size m mz rfl rfl hb1 ?_; intro w2 hb2 hu2))
    refine bodyPost_ret (res_ct rfl _ _ w.heap.size m rfl hb2 _ rfl) rfl ?_
    exact ⟨by simp [HM.out], (HU.out.trans0 HU1.out).trans hu2 (by simp)⟩

end Go.Proofs.Ytefjppebohnmjaa
