/- The ring: put, see, skip. -/
import Derived.Test.YtdcecihojidiaaaPipeA
namespace Go.Proofs.Ytdcecihojidiaaa
open Go.RowKit

theorem putB_get (B : List UInt8) (i : Nat) (cs : List UInt8) (h : i + cs.length ≤ B.length) (j : Nat) : (putB B i cs)[j]? = if i ≤ j ∧ j < i + cs.length then cs[j - i]? else B[j]? := by
  unfold putB
  rw [List.append_assoc]
  by_cases h1 : j < i
  · rw [List.getElem?_append_left (by simp; omega), List.getElem?_take, if_pos h1, if_neg (by omega)]
  · rw [List.getElem?_append_right (by simp; omega), List.length_take, Nat.min_eq_left (by omega)]
    by_cases h2 : j < i + cs.length
    · rw [List.getElem?_append_left (by omega), if_pos (by omega)]
    · rw [List.getElem?_append_right (by omega), if_neg (by omega), List.getElem?_drop]
      congr 1
      omega

theorem Ring.put {B L : List UInt8} {f : Nat} (h : Ring B L f) (cs : List UInt8) (hc : L.length + cs.length ≤ 24) (k : Nat) (hk : k = min cs.length (24 - (f + L.length) % 24)) :
    Ring (putB (putB B ((f + L.length) % 24) (cs.take k)) 0 (cs.drop k)) (L ++ cs) f := by
  have h1 := h.len
  have h2 := h.from_
  have hl1 : (cs.take k).length = k := by simp; omega
  have hl2 : (cs.drop k).length = cs.length - k := by simp
  have e1 : (f + L.length) % 24 + (cs.take k).length ≤ B.length := by rw [hl1]; omega
  have e2 : 0 + (cs.drop k).length ≤ (putB B ((f + L.length) % 24) (cs.take k)).length := by rw [putB_length _ _ _ e1, hl2]; omega
  refine ⟨by rw [putB_length _ _ _ e2, putB_length _ _ _ e1, h1], h2, by simp; omega, ?_⟩
  intro i c hi
  rw [putB_get _ _ _ e2, putB_get _ _ _ e1, hl1, hl2]
  have hil : i < L.length + cs.length := by have := (List.getElem?_eq_some_iff.1 hi).1; simpa using this
  by_cases hiL : i < L.length
  · rw [List.getElem?_append_left hiL] at hi
    rw [if_neg (by omega), if_neg (by omega)]
    exact h.at_ i c hi
  · rw [List.getElem?_append_right (by omega)] at hi
    by_cases hw : i - L.length < k
    · rw [if_neg (by omega), if_pos (by omega), List.getElem?_take, if_pos (by omega), ← hi]
      congr 1
      omega
    · rw [if_pos (by omega), List.getElem?_drop, ← hi]
      congr 1
      omega

theorem len_ring : Try.prog.arrayLen 50 = 24 := by kernel_rfl
theorem under_ring : Try.prog.underlying 50 = some (.array (Try.prog.arrayLen 50) (Try.prog.elem 50)) := by kernel_rfl
theorem size_ring (w : World) : (sizeOf (Try.prog.elem 50)).run Try.prog w = .ok 1 w := by
  have : (Try.prog.info? (Try.prog.elem 50)).map (·.size) = some 1 := by kernel_rfl
  obtain ⟨i, hi, hz⟩ := Option.map_eq_some_iff.1 this
  simp [sizeOf, typeInfo, hi, hz]
theorem slice_from (p i : Nat) (h : i < 24) (w : World) :
    (Instr.sliceAt 50 (.pointer (some ⟨p, 0, none⟩)) (some (.int .i64 i)) none none).run Try.prog w = .ok (.slice (some ⟨p, i, none⟩) (24 - i) (24 - i)) w := by
  rw [run_sliceAt_array_l w _ _ under_ring .i64 (i : Int) (by omega) (by rw [len_ring]; omega), size_ring]
  simp only [Result.andThen, slicedAt, len_ring, Int.toNat_natCast]
  rw [if_neg (by omega), Nat.mul_one, Addr.add_mid, Nat.zero_add]
theorem slice_all (p : Nat) (w : World) :
    (Instr.sliceAt 50 (.pointer (some ⟨p, 0, none⟩)) none none none).run Try.prog w = .ok (.slice (some ⟨p, 0, none⟩) 24 24) w := by
  rw [run_sliceAt_array_all w _ _ under_ring, size_ring]
  simp only [Result.andThen, slicedAt, len_ring]
  rw [if_neg (by omega), Nat.zero_mul]
  rfl

set_option maxRecDepth 100000 in
set_option maxHeartbeats 2000000 in
theorem put_any (p : Nat) (B L : List UInt8) (f rd wr : Nat) (s : ByteArray) (w : World) (h : Blk w p PipT (ringCells B f L.length rd wr).toArray) (hr : Ring B L f) (m : Nat) (hm : m = min s.size (24 - L.length)) :
    Calls Try.prog 26 #[.pointer (some ⟨p, 0, none⟩), .string s] w fun e w' =>
      e = .returned (.int .i64 m) ∧ (∃ B', Blk w' p PipT (ringCells B' f (L.length + m) rd wr).toArray ∧ Ring B' (L ++ (bl s).take m) f) ∧ Upd [p] w w' := by
  have hB := hr.len
  have hcF : w.cell? ⟨p, 24, none⟩ = some (.int .i64 f) := h.cellAt (by simp [ringCells, bcs_length, hB])
  have hcN : w.cell? ⟨p, 25, none⟩ = some (.int .i64 L.length) := h.cellAt (by simp [ringCells, bcs_length, hB])
  have hn := hr.hi
  have hf := hr.from_
  have HR := Lib.hid hr
  have HB := Lib.hid h
  have HL := Lib.hid hB
  clear h hr hB
  generalize hn' : L.length = n at *
  have HN := Lib.hid hn'
  clear hn'
  have hat : ((f : Int) + (n : Int)).tmod 24 = (((f + n) % 24 : Nat) : Int) := by rw [Int.tmod_eq_emod_of_nonneg (by omega)]; omega
  have hat' : (f + n) % 24 < 24 := Nat.mod_lt _ (by omega)
  generalize hA : (f + n) % 24 = A at *
  have HA := Lib.hid hA
  clear hA
  have hsl := fun W => slice_from p A hat' W
  by_cases hs : (s.size : Int) ≤ 24 - n
  · have hms : m = s.size := by omega
    subst hms
    clear hm
    have hslA := fun W => slice_all p W
    obtain ⟨k, hk⟩ : ∃ k, k = min s.size (24 - A) := ⟨_, rfl⟩
    have hk1 : (k : Int) ≤ s.size := by omega
    have hk2 : (s.extract k s.size).size = s.size - k := by rw [← bl_length, bl_extract]; simp [bl_length]
    have hcp : ∀ ty, _ := fun ty => run_copys w.drew ty p A (24 - A) (24 - A) s (ringCells B f n rd wr) PipT k HB.out.drew hk (by simp [ringCells, bcs_length, HL.out]; omega)
    have hup := (Upd.refl [p] w).drew.setRow (g := p) (.inl (by simp)) ((ringCells B f n rd wr).take A ++ bcs ((bl s).take k) ++ (ringCells B f n rd wr).drop (A + k)).toArray
    have hb1 := HB.out.drew.row ((ringCells B f n rd wr).take A ++ bcs ((bl s).take k) ++ (ringCells B f n rd wr).drop (A + k)).toArray
    have he : (ringCells B f n rd wr).take A ++ bcs ((bl s).take k) ++ (ringCells B f n rd wr).drop (A + k) = ringCells (putB B A ((bl s).take k)) f n rd wr := putB_cells _ _ _ _ k (by simp [bl_length]; omega) (by rw [HL.out]; omega)
    rw [he] at hup hb1 hcp
    have hlB1 : (putB B A ((bl s).take k)).length = 24 := by rw [putB_length _ _ _ (by simp [bl_length, HL.out]; omega), HL.out]
    have hfin := HR.out.put (bl s) (by rw [HN.out, bl_length]; omega) k (by rw [HN.out, HA.out, bl_length]; exact hk)
    rw [HN.out, HA.out] at hfin
    generalize hB1 : putB B A ((bl s).take k) = B1 at *
    have he2 : (ringCells B1 f n rd wr).take 0 ++ bcs ((bl (s.extract k s.size)).take (s.size - k)) ++ (ringCells B1 f n rd wr).drop (0 + (s.size - k)) = ringCells (putB B1 0 ((bl s).drop k)) f n rd wr := by
      have e : (bl (s.extract k s.size)).take (s.size - k) = (bl s).drop k := by
        rw [List.take_of_length_le (by rw [bl_length, hk2]; omega), bl_extract, List.take_of_length_le (by rw [bl_length]; omega)]
      rw [e]
      exact putB_cells _ _ _ _ _ (by simp [bl_length]) (by rw [hlB1]; omega)
    have hcp2 : ∀ W, Blk W p PipT (ringCells B1 f n rd wr).toArray → ∀ ty, _ := fun W hW ty => run_copys W ty p 0 24 24 (s.extract k s.size) (ringCells B1 f n rd wr) PipT (s.size - k) hW (by rw [hk2]; exact (Nat.min_eq_left (by omega)).symm) (by simp [ringCells, bcs_length, hlB1]; omega)
    rw [he2] at hcp2
    have hlB2 : (putB B1 0 ((bl s).drop k)).length = 24 := by rw [putB_length _ _ _ (by simp [bl_length, hlB1]; omega), hlB1]
    generalize hB2 : putB B1 0 ((bl s).drop k) = B2 at *
    have HU := Lib.hid hup
    have HB1 := Lib.hid hb1
    have HK := Lib.hid hk
    have HF := Lib.hid hfin
    have HC2 := Lib.hid hcp2
    have HL2 := Lib.hid hlB2
    clear hup hb1 he hk hfin hcp2 hlB2 he2 hB1 hB2 hlB1 hk2
    go_enter Try.func26, Try.ntmps26
    go_wp2_with (go_at_call 25; refine (room_any p n _ hcN (by omega)).mono ?_; rintro e w' ⟨rfl, rfl⟩)
    go_region
    go_wp2
    generalize w.drew.setRow p (ringCells B1 f n rd wr).toArray = W1 at *
    have hcp3 := HC2.out W1.drew HB1.out.drew
    have hb2 := HB1.out.drew.row (ringCells B2 f n rd wr).toArray
    have hup2 := HU.out.drew.setRow (g := p) (.inl (by simp)) (ringCells B2 f n rd wr).toArray
    generalize hW2 : W1.drew.setRow p (ringCells B2 f n rd wr).toArray = W2 at *
    have HW2 := Lib.hid hW2
    clear hW2
    have hcN2 : W2.cell? ⟨p, 25, none⟩ = some (.int .i64 n) := hb2.cellAt (by simp [ringCells, bcs_length, HL2.out])
    have hfz := hb2.frozen 25
    have hb3 := hb2.set_ 25 (.int .i64 ((n : Int) + (s.size : Int)))
    have he3 : (ringCells B2 f n rd wr).toArray.setIfInBounds 25 (.int .i64 ((n : Int) + (s.size : Int))) = (ringCells B2 f (n + s.size) rd wr).toArray := by
      simp [ringCells, bcs_length, HL2.out, List.set_append]
    rw [he3] at hb3
    have hup3 := hup2.setCell (p := ⟨p, 25, none⟩) (.inl (by simp)) (.int .i64 ((n : Int) + (s.size : Int)))
    have HB3 := Lib.hid hb3
    have HU3 := Lib.hid hup3
    clear hb2 hup2 hb3 hup3 he3
    go_region
    go_wp2
    go_ret
    have hout := HF.out
    refine ⟨by simp, ⟨B2, HB3.out, ?_⟩, HU3.out⟩
    rw [List.take_of_length_le (by rw [bl_length]; omega)]; exact hout
  · obtain ⟨s', hs'⟩ : ∃ s', s' = s.extract 0 (24 - n) := ⟨_, rfl⟩
    have hm2 : m = 24 - n := by omega
    have hz : s'.size = 24 - n := by rw [hs', ← bl_length, bl_extract]; simp [bl_length]; omega
    have hbl : bl s' = (bl s).take m := by rw [hs', bl_extract, hm2]; rfl
    have HZ := Lib.hid hz
    have HBL := Lib.hid hbl
    have hms : m = s'.size := by omega
    have hz24 : s'.size + n ≤ 24 := by omega
    subst hms
    clear hbl hz hm hm2
    have hslA := fun W => slice_all p W
    obtain ⟨k, hk⟩ : ∃ k, k = min s'.size (24 - A) := ⟨_, rfl⟩
    have hk1 : (k : Int) ≤ s'.size := by (have := HZ.out; omega)
    have hk2 : (s'.extract k s'.size).size = s'.size - k := by rw [← bl_length, bl_extract]; simp [bl_length]
    have hcp : ∀ ty, _ := fun ty => run_copys w.drew ty p A (24 - A) (24 - A) s' (ringCells B f n rd wr) PipT k HB.out.drew hk (by simp [ringCells, bcs_length, HL.out]; (have := HZ.out; omega))
    have hup := (Upd.refl [p] w).drew.setRow (g := p) (.inl (by simp)) ((ringCells B f n rd wr).take A ++ bcs ((bl s').take k) ++ (ringCells B f n rd wr).drop (A + k)).toArray
    have hb1 := HB.out.drew.row ((ringCells B f n rd wr).take A ++ bcs ((bl s').take k) ++ (ringCells B f n rd wr).drop (A + k)).toArray
    have he : (ringCells B f n rd wr).take A ++ bcs ((bl s').take k) ++ (ringCells B f n rd wr).drop (A + k) = ringCells (putB B A ((bl s').take k)) f n rd wr := putB_cells _ _ _ _ k (by simp [bl_length]; (have := HZ.out; omega)) (by rw [HL.out]; (have := HZ.out; omega))
    rw [he] at hup hb1 hcp
    have hlB1 : (putB B A ((bl s').take k)).length = 24 := by rw [putB_length _ _ _ (by simp [bl_length, HL.out]; (have := HZ.out; omega)), HL.out]
    have hfin := HR.out.put (bl s') (by rw [HN.out, bl_length]; (have := HZ.out; omega)) k (by rw [HN.out, HA.out, bl_length]; exact hk)
    rw [HN.out, HA.out] at hfin
    generalize hB1 : putB B A ((bl s').take k) = B1 at *
    have he2 : (ringCells B1 f n rd wr).take 0 ++ bcs ((bl (s'.extract k s'.size)).take (s'.size - k)) ++ (ringCells B1 f n rd wr).drop (0 + (s'.size - k)) = ringCells (putB B1 0 ((bl s').drop k)) f n rd wr := by
      have e : (bl (s'.extract k s'.size)).take (s'.size - k) = (bl s').drop k := by
        rw [List.take_of_length_le (by rw [bl_length, hk2]; (have := HZ.out; omega)), bl_extract, List.take_of_length_le (by rw [bl_length]; (have := HZ.out; omega))]
      rw [e]
      exact putB_cells _ _ _ _ _ (by simp [bl_length]) (by rw [hlB1]; (have := HZ.out; omega))
    have hcp2 : ∀ W, Blk W p PipT (ringCells B1 f n rd wr).toArray → ∀ ty, _ := fun W hW ty => run_copys W ty p 0 24 24 (s'.extract k s'.size) (ringCells B1 f n rd wr) PipT (s'.size - k) hW (by rw [hk2]; exact (Nat.min_eq_left (by (have := HZ.out; omega))).symm) (by simp [ringCells, bcs_length, hlB1]; (have := HZ.out; omega))
    rw [he2] at hcp2
    have hlB2 : (putB B1 0 ((bl s').drop k)).length = 24 := by rw [putB_length _ _ _ (by simp [bl_length, hlB1]; (have := HZ.out; omega)), hlB1]
    generalize hB2 : putB B1 0 ((bl s').drop k) = B2 at *
    have HU := Lib.hid hup
    have HB1 := Lib.hid hb1
    have HK := Lib.hid hk
    have HF := Lib.hid hfin
    have HC2 := Lib.hid hcp2
    have HL2 := Lib.hid hlB2
    clear hup hb1 he hk hfin hcp2 hlB2 he2 hB1 hB2 hlB1 hk2
    go_enter Try.func26, Try.ntmps26
    go_wp2_with (go_at_call 25; refine (room_any p n _ hcN (by omega)).mono ?_; rintro e w' ⟨rfl, rfl⟩)
    simp only [← hs']
    clear hs'
    go_region
    go_wp2
    generalize w.drew.setRow p (ringCells B1 f n rd wr).toArray = W1 at *
    have hcp3 := HC2.out W1.drew HB1.out.drew
    have hb2 := HB1.out.drew.row (ringCells B2 f n rd wr).toArray
    have hup2 := HU.out.drew.setRow (g := p) (.inl (by simp)) (ringCells B2 f n rd wr).toArray
    generalize hW2 : W1.drew.setRow p (ringCells B2 f n rd wr).toArray = W2 at *
    have HW2 := Lib.hid hW2
    clear hW2
    have hcN2 : W2.cell? ⟨p, 25, none⟩ = some (.int .i64 n) := hb2.cellAt (by simp [ringCells, bcs_length, HL2.out])
    have hfz := hb2.frozen 25
    have hb3 := hb2.set_ 25 (.int .i64 ((n : Int) + (s'.size : Int)))
    have he3 : (ringCells B2 f n rd wr).toArray.setIfInBounds 25 (.int .i64 ((n : Int) + (s'.size : Int))) = (ringCells B2 f (n + s'.size) rd wr).toArray := by
      simp [ringCells, bcs_length, HL2.out, List.set_append]
    rw [he3] at hb3
    have hup3 := hup2.setCell (p := ⟨p, 25, none⟩) (.inl (by simp)) (.int .i64 ((n : Int) + (s'.size : Int)))
    have HB3 := Lib.hid hb3
    have HU3 := Lib.hid hup3
    clear hb2 hup2 hb3 hup3 he3
    go_region
    go_wp2
    go_ret
    have hout := HF.out
    refine ⟨by simp, ⟨B2, HB3.out, ?_⟩, HU3.out⟩
    rw [← HBL.out]; exact hout

end Go.Proofs.Ytdcecihojidiaaa
