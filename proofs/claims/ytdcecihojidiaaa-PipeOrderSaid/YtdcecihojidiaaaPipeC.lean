/- The ring: see. -/
import Derived.Test.YtdcecihojidiaaaPipeB
namespace Go.Proofs.Ytdcecihojidiaaa
open Go.RowKit

theorem make_bytes (n : Nat) (hn : n ≤ 1000000) (w : World) : (Instr.makeSlice 23 (.int .i64 n) (.int .i64 n)).run Try.prog w = .ok (.slice (some ⟨w.heap.size, 0, none⟩) n n) (w.alloc (.cells (bcs (List.replicate n 0)).toArray 5)) := by
  have hi : (Try.prog.info? 5).map (fun i => (i.zero, i.size, i.bytes)) = some (some (.int .u8 0), 1, 1) := by kernel_rfl
  obtain ⟨i, h1, h2⟩ := Option.map_eq_some_iff.1 hi
  injection h2 with hz h3
  injection h3 with hs hb
  have := run_make (P := Try.prog) w 23 5 i _ under_bytes h1 hz .i64 .i64 n n (by omega) (Int.le_refl _) (by rw [hb]; omega) (by omega)
  rw [this]
  have e : (madeCells (Value.int IntKind.u8 0).cells ((n : Int).toNat * i.size)) = (bcs (List.replicate n 0)).toArray := by
    apply Array.toList_inj.1
    rw [hs, Nat.mul_one, Int.toNat_natCast]
    have := toList_madeCells_one (.int .u8 0) n
    simp only [Value.cells] at this ⊢
    rw [this]
    simp [bcs]
  rw [e]
  simp

theorem Ring.take {B L : List UInt8} {f : Nat} (h : Ring B L f) (M k : Nat) (hM : M ≤ L.length) (hk : k = min M (24 - f)) : (B.drop f).take k ++ B.take (M - k) = L.take M := by
  have h1 := h.len
  have h2 := h.from_
  have h3 := h.hi
  apply List.ext_getElem?
  intro j
  by_cases hj : j < M
  · rw [List.getElem?_take (l := L), if_pos hj]
    have hL : L[j]? = some (L[j]'(by omega)) := List.getElem?_eq_getElem (by omega)
    rw [hL]
    have ha := h.at_ j _ hL
    by_cases hjk : j < k
    · rw [List.getElem?_append_left (by simp; omega), List.getElem?_take, if_pos hjk, List.getElem?_drop, ← ha]
      congr 1
      omega
    · have e : ((B.drop f).take k).length = k := by simp; omega
      rw [List.getElem?_append_right (by omega), e, List.getElem?_take, if_pos (by omega), ← ha]
      congr 1
      omega
  · rw [List.getElem?_eq_none (by simp; omega), List.getElem?_eq_none (by simp; omega)]

set_option maxRecDepth 100000 in
set_option maxHeartbeats 2000000 in
theorem see_any (p : Nat) (B L : List UInt8) (f rd wr : Nat) (many : Int) (w : World) (h : Blk w p PipT (ringCells B f L.length rd wr).toArray) (hr : Ring B L f) (m : Nat) (hm0 : 0 ≤ many) (hm : m = min many.toNat L.length) :
    Calls Try.prog 27 #[.pointer (some ⟨p, 0, none⟩), .int .i64 many] w fun e w' =>
      e = .returned (.string ⟨(L.take m).toArray⟩) ∧ Upd [] w w' := by
  have hB := hr.len
  have hcF : w.cell? ⟨p, 24, none⟩ = some (.int .i64 f) := h.cellAt (by simp [ringCells, bcs_length, hB])
  have hcN : w.cell? ⟨p, 25, none⟩ = some (.int .i64 L.length) := h.cellAt (by simp [ringCells, bcs_length, hB])
  have hn := hr.hi
  have hf := hr.from_
  have HR := Lib.hid hr
  have HB := Lib.hid h
  have HL := Lib.hid hB
  clear h hr hB
  generalize hn' : L.length = n at *
  have HN := Lib.hid hn'
  clear hn'
  have hsl := fun W => slice_from p f hf W
  have hslA := fun W => slice_all p W
  by_cases hle : many ≤ n
  · obtain ⟨M, rfl⟩ : ∃ M : Nat, many = M := ⟨many.toNat, by omega⟩
    have hmM : m = M := by omega
    subst hmM
    have hmn : m ≤ n := by omega
    clear hm
    by_cases hk : m ≤ 24 - f
    · have HK : Hid (m = min m (24 - f)) := Lib.hid (Nat.min_eq_left hk).symm
      have hkf : m + f ≤ 24 := by omega
      clear hk
      obtain ⟨g, hg⟩ : ∃ g, g = w.heap.size := ⟨_, rfl⟩
      have hmk := make_bytes m (by omega) w
      have hbg := Blk.new w 5 (bcs (List.replicate m 0)).toArray
      have hpg : p ≠ w.heap.size := Nat.ne_of_lt HB.out.lt
      have hb0 := HB.out.alloc (.cells (bcs (List.replicate m 0)).toArray 5)
      have hu0 := (Upd.refl [] w).alloc (.cells (bcs (List.replicate m 0)).toArray 5)
      have hcF0 : (w.alloc (.cells (bcs (List.replicate m 0)).toArray 5)).cell? ⟨p, 24, none⟩ = some (.int .i64 f) := hb0.cellAt (by simp [ringCells, bcs_length, HL.out])
      rw [← hg] at hmk hbg hpg
      have HG : w.heap.size ≤ g := by omega
      generalize hW1 : w.alloc (.cells (bcs (List.replicate m 0)).toArray 5) = W1 at *
      have HW1 := Lib.hid hW1
      have HGG := Lib.hid hg
      clear hW1 hg
      have hc1l : ((B.drop f).take m).length = m := by simp [HL.out]; omega
      have hcp : ∀ ty, _ := fun ty => run_copyb W1.drew ty g 0 m m p f (24 - f) (24 - f) (bcs (List.replicate m 0)) 5 ((B.drop f).take m) hbg.drew (by rw [hc1l]; exact HK.out.trans (Nat.min_comm _ _))
        (fun j c hj => hb0.drew.cellAt (by
          have hj' : j < m := by have := (List.getElem?_eq_some_iff.1 hj).1; omega
          rw [List.getElem?_take, if_pos hj', List.getElem?_drop] at hj
          rw [List.getElem?_toArray, ringCells, List.getElem?_append_left (by rw [bcs_length, HL.out]; omega), bcs_get, hj]; rfl)) (by simp [bcs_length]; omega)
      have hbg1 := hbg.drew.row ((bcs (List.replicate m 0)).take 0 ++ bcs ((B.drop f).take m) ++ (bcs (List.replicate m 0)).drop (0 + (bcs ((B.drop f).take m)).length)).toArray
      have hb1 := hb0.drew.rowFar hpg ((bcs (List.replicate m 0)).take 0 ++ bcs ((B.drop f).take m) ++ (bcs (List.replicate m 0)).drop (0 + (bcs ((B.drop f).take m)).length)).toArray
      have hu1 := hu0.drew.setRow (.inr HG) ((bcs (List.replicate m 0)).take 0 ++ bcs ((B.drop f).take m) ++ (bcs (List.replicate m 0)).drop (0 + (bcs ((B.drop f).take m)).length)).toArray
      have he : (bcs (List.replicate m 0)).take 0 ++ bcs ((B.drop f).take m) ++ (bcs (List.replicate m 0)).drop (0 + (bcs ((B.drop f).take m)).length) = bcs ((B.drop f).take m ++ List.replicate 0 0) := by
        rw [bcs_length, hc1l, bcs_append, bcs_drop, List.drop_replicate, Nat.zero_add]; simp
      rw [he] at hbg1 hb1 hu1 hcp
      rw [hc1l] at hcp
      have hrt := HR.out.take m m (by rw [HN.out]; omega) HK.out
      generalize hC1 : (B.drop f).take m = C1 at *
      clear hC1
      rw [Nat.sub_self] at hrt
      obtain ⟨D1, hD1⟩ : ∃ D1, D1 = C1 ++ List.replicate 0 0 := ⟨_, rfl⟩
      have hlD : D1.length = m := by rw [hD1, List.length_append, hc1l, List.length_replicate]; omega
      rw [← hD1] at hbg1 hb1 hu1 hcp
      have hdt : D1.take m = C1 := by rw [hD1, ← hc1l, List.take_left]
      have hcp2 : ∀ W, Blk W p PipT (ringCells B f n rd wr).toArray → Blk W g 5 (bcs D1).toArray → ∀ ty, _ := fun W hW1 hW2 ty => run_copyb W ty g 0 0 0 p 0 24 24 (bcs D1) 5 (B.take 0) hW2 (by rw [List.length_take, HL.out]; exact Nat.min_eq_left (by omega) |>.trans (Nat.min_eq_right (by omega)).symm)
        (fun j c hj => hW1.cellAt (by
          have hj' : j < 0 := by have := (List.getElem?_eq_some_iff.1 hj).1; simp at this <;> omega
          rw [List.getElem?_take, if_pos hj'] at hj
          rw [List.getElem?_toArray, ringCells, List.getElem?_append_left (by rw [bcs_length, HL.out]; omega), bcs_get, Nat.zero_add, hj]; rfl)) (by rw [bcs_length, hlD, List.length_take, HL.out]; omega)
      have hl2 : (B.take 0).length = 0 := by simp [HL.out] <;> omega
      have he2 : (bcs D1).take 0 ++ bcs (B.take 0) ++ (bcs D1).drop (0 + (bcs (B.take 0)).length) = bcs (L.take m) := by
        rw [bcs_length, hl2, ← hrt, bcs_take, bcs_drop, ← bcs_append, ← bcs_append]
        congr 1
        skip
      rw [he2, hl2] at hcp2
      have HCP2 := Lib.hid hcp2
      have HU1 := Lib.hid hu1
      have HB1 := Lib.hid hb1
      have HBG1 := Lib.hid hbg1
      have HB0 := Lib.hid hb0
      have HLT : (L.take m).length = m := by rw [List.length_take, HN.out]; omega
      have HLT2 := Lib.hid HLT
      clear hcp2 hu1 hb1 hbg1 hb0 hbg hu0 he he2 hl2 hc1l hrt HLT hD1 hlD hdt
      go_enter Try.func27, Try.ntmps27
      go_wp2
      go_region
      generalize W1.drew.setRow g (bcs D1).toArray = W2 at *
      have hcp3 := HCP2.out W2.drew HB1.out.drew HBG1.out.drew
      have hbg2 := HBG1.out.drew.row (bcs (L.take m)).toArray
      have hu2 := HU1.out.drew.setRow (.inr HG) (bcs (L.take m)).toArray
      generalize hW3 : W2.drew.setRow g (bcs (L.take m)).toArray = W3 at *
      have HW3 := Lib.hid hW3
      clear hW3
      have hstr := run_str W3 23 9 5 under_bytes under_byte under_string g 0 m m (L.take m) HLT2.out (fun j c hj => hbg2.cellAt (by rw [List.getElem?_toArray, bcs_get, Nat.zero_add, hj]; rfl))
      have HU2 := Lib.hid hu2
      clear hu2 hbg2
      go_wp2
      go_region
      go_wp2
      go_ret
      exact ⟨by simp, HU2.out⟩
    · obtain ⟨k, hk2⟩ : ∃ k, k = 24 - f := ⟨_, rfl⟩
      have HK : Hid (k = min m (24 - f)) := Lib.hid (by rw [Nat.min_eq_right (by omega)]; exact hk2)
      have hkM : k < m := by omega
      have hkM' : (k : Int) ≤ (m : Int) := by omega
      have hnot : ¬ m = k := by omega
      have hkf : k + f ≤ 24 := by omega
      clear hk hk2
      obtain ⟨g, hg⟩ : ∃ g, g = w.heap.size := ⟨_, rfl⟩
      have hmk := make_bytes m (by omega) w
      have hbg := Blk.new w 5 (bcs (List.replicate m 0)).toArray
      have hpg : p ≠ w.heap.size := Nat.ne_of_lt HB.out.lt
      have hb0 := HB.out.alloc (.cells (bcs (List.replicate m 0)).toArray 5)
      have hu0 := (Upd.refl [] w).alloc (.cells (bcs (List.replicate m 0)).toArray 5)
      have hcF0 : (w.alloc (.cells (bcs (List.replicate m 0)).toArray 5)).cell? ⟨p, 24, none⟩ = some (.int .i64 f) := hb0.cellAt (by simp [ringCells, bcs_length, HL.out])
      rw [← hg] at hmk hbg hpg
      have HG : w.heap.size ≤ g := by omega
      generalize hW1 : w.alloc (.cells (bcs (List.replicate m 0)).toArray 5) = W1 at *
      have HW1 := Lib.hid hW1
      have HGG := Lib.hid hg
      clear hW1 hg
      have hc1l : ((B.drop f).take k).length = k := by simp [HL.out]; omega
      have hcp : ∀ ty, _ := fun ty => run_copyb W1.drew ty g 0 m m p f (24 - f) (24 - f) (bcs (List.replicate m 0)) 5 ((B.drop f).take k) hbg.drew (by rw [hc1l]; exact HK.out.trans (Nat.min_comm _ _))
        (fun j c hj => hb0.drew.cellAt (by
          have hj' : j < k := by have := (List.getElem?_eq_some_iff.1 hj).1; omega
          rw [List.getElem?_take, if_pos hj', List.getElem?_drop] at hj
          rw [List.getElem?_toArray, ringCells, List.getElem?_append_left (by rw [bcs_length, HL.out]; omega), bcs_get, hj]; rfl)) (by simp [bcs_length]; omega)
      have hbg1 := hbg.drew.row ((bcs (List.replicate m 0)).take 0 ++ bcs ((B.drop f).take k) ++ (bcs (List.replicate m 0)).drop (0 + (bcs ((B.drop f).take k)).length)).toArray
      have hb1 := hb0.drew.rowFar hpg ((bcs (List.replicate m 0)).take 0 ++ bcs ((B.drop f).take k) ++ (bcs (List.replicate m 0)).drop (0 + (bcs ((B.drop f).take k)).length)).toArray
      have hu1 := hu0.drew.setRow (.inr HG) ((bcs (List.replicate m 0)).take 0 ++ bcs ((B.drop f).take k) ++ (bcs (List.replicate m 0)).drop (0 + (bcs ((B.drop f).take k)).length)).toArray
      have he : (bcs (List.replicate m 0)).take 0 ++ bcs ((B.drop f).take k) ++ (bcs (List.replicate m 0)).drop (0 + (bcs ((B.drop f).take k)).length) = bcs ((B.drop f).take k ++ List.replicate (m - k) 0) := by
        rw [bcs_length, hc1l, bcs_append, bcs_drop, List.drop_replicate, Nat.zero_add]; simp
      rw [he] at hbg1 hb1 hu1 hcp
      rw [hc1l] at hcp
      have hrt := HR.out.take m k (by rw [HN.out]; omega) HK.out
      generalize hC1 : (B.drop f).take k = C1 at *
      clear hC1
      
      obtain ⟨D1, hD1⟩ : ∃ D1, D1 = C1 ++ List.replicate (m - k) 0 := ⟨_, rfl⟩
      have hlD : D1.length = m := by rw [hD1, List.length_append, hc1l, List.length_replicate]; omega
      rw [← hD1] at hbg1 hb1 hu1 hcp
      have hdt : D1.take k = C1 := by rw [hD1, ← hc1l, List.take_left]
      have hcp2 : ∀ W, Blk W p PipT (ringCells B f n rd wr).toArray → Blk W g 5 (bcs D1).toArray → ∀ ty, _ := fun W hW1 hW2 ty => run_copyb W ty g k (m - k) (m - k) p 0 24 24 (bcs D1) 5 (B.take (m - k)) hW2 (by rw [List.length_take, HL.out]; exact Nat.min_eq_left (by omega) |>.trans (Nat.min_eq_right (by omega)).symm)
        (fun j c hj => hW1.cellAt (by
          have hj' : j < (m - k) := by have := (List.getElem?_eq_some_iff.1 hj).1; simp at this <;> omega
          rw [List.getElem?_take, if_pos hj'] at hj
          rw [List.getElem?_toArray, ringCells, List.getElem?_append_left (by rw [bcs_length, HL.out]; omega), bcs_get, Nat.zero_add, hj]; rfl)) (by rw [bcs_length, hlD, List.length_take, HL.out]; omega)
      have hl2 : (B.take (m - k)).length = (m - k) := by simp [HL.out] <;> omega
      have he2 : (bcs D1).take k ++ bcs (B.take (m - k)) ++ (bcs D1).drop (k + (bcs (B.take (m - k))).length) = bcs (L.take m) := by
        rw [bcs_length, hl2, ← hrt, bcs_take, bcs_drop, ← bcs_append, ← bcs_append]
        congr 1
        rw [hdt, List.drop_of_length_le (by rw [hlD]; omega), List.append_nil]
      rw [he2, hl2] at hcp2
      have HCP2 := Lib.hid hcp2
      have HU1 := Lib.hid hu1
      have HB1 := Lib.hid hb1
      have HBG1 := Lib.hid hbg1
      have HB0 := Lib.hid hb0
      have HLT : (L.take m).length = m := by rw [List.length_take, HN.out]; omega
      have HLT2 := Lib.hid HLT
      clear hcp2 hu1 hb1 hbg1 hb0 hbg hu0 he he2 hl2 hc1l hrt HLT hD1 hlD hdt
      go_enter Try.func27, Try.ntmps27
      go_wp2
      go_region
      generalize W1.drew.setRow g (bcs D1).toArray = W2 at *
      have hcp3 := HCP2.out W2.drew HB1.out.drew HBG1.out.drew
      have hbg2 := HBG1.out.drew.row (bcs (L.take m)).toArray
      have hu2 := HU1.out.drew.setRow (.inr HG) (bcs (L.take m)).toArray
      generalize hW3 : W2.drew.setRow g (bcs (L.take m)).toArray = W3 at *
      have HW3 := Lib.hid hW3
      clear hW3
      have hstr := run_str W3 23 9 5 under_bytes under_byte under_string g 0 m m (L.take m) HLT2.out (fun j c hj => hbg2.cellAt (by rw [List.getElem?_toArray, bcs_get, Nat.zero_add, hj]; rfl))
      have HU2 := Lib.hid hu2
      clear hu2 hbg2
      go_wp2
      go_region
      go_wp2
      go_ret
      exact ⟨by simp, HU2.out⟩
  · have hmM : m = n := by omega
    subst hmM
    have hmn : m ≤ m := Nat.le_refl m
    clear hm
    by_cases hk : m ≤ 24 - f
    · have HK : Hid (m = min m (24 - f)) := Lib.hid (Nat.min_eq_left hk).symm
      have hkf : m + f ≤ 24 := by omega
      clear hk
      obtain ⟨g, hg⟩ : ∃ g, g = w.heap.size := ⟨_, rfl⟩
      have hmk := make_bytes m (by omega) w
      have hbg := Blk.new w 5 (bcs (List.replicate m 0)).toArray
      have hpg : p ≠ w.heap.size := Nat.ne_of_lt HB.out.lt
      have hb0 := HB.out.alloc (.cells (bcs (List.replicate m 0)).toArray 5)
      have hu0 := (Upd.refl [] w).alloc (.cells (bcs (List.replicate m 0)).toArray 5)
      have hcF0 : (w.alloc (.cells (bcs (List.replicate m 0)).toArray 5)).cell? ⟨p, 24, none⟩ = some (.int .i64 f) := hb0.cellAt (by simp [ringCells, bcs_length, HL.out])
      rw [← hg] at hmk hbg hpg
      have HG : w.heap.size ≤ g := by omega
      generalize hW1 : w.alloc (.cells (bcs (List.replicate m 0)).toArray 5) = W1 at *
      have HW1 := Lib.hid hW1
      have HGG := Lib.hid hg
      clear hW1 hg
      have hc1l : ((B.drop f).take m).length = m := by simp [HL.out]; omega
      have hcp : ∀ ty, _ := fun ty => run_copyb W1.drew ty g 0 m m p f (24 - f) (24 - f) (bcs (List.replicate m 0)) 5 ((B.drop f).take m) hbg.drew (by rw [hc1l]; exact HK.out.trans (Nat.min_comm _ _))
        (fun j c hj => hb0.drew.cellAt (by
          have hj' : j < m := by have := (List.getElem?_eq_some_iff.1 hj).1; omega
          rw [List.getElem?_take, if_pos hj', List.getElem?_drop] at hj
          rw [List.getElem?_toArray, ringCells, List.getElem?_append_left (by rw [bcs_length, HL.out]; omega), bcs_get, hj]; rfl)) (by simp [bcs_length]; omega)
      have hbg1 := hbg.drew.row ((bcs (List.replicate m 0)).take 0 ++ bcs ((B.drop f).take m) ++ (bcs (List.replicate m 0)).drop (0 + (bcs ((B.drop f).take m)).length)).toArray
      have hb1 := hb0.drew.rowFar hpg ((bcs (List.replicate m 0)).take 0 ++ bcs ((B.drop f).take m) ++ (bcs (List.replicate m 0)).drop (0 + (bcs ((B.drop f).take m)).length)).toArray
      have hu1 := hu0.drew.setRow (.inr HG) ((bcs (List.replicate m 0)).take 0 ++ bcs ((B.drop f).take m) ++ (bcs (List.replicate m 0)).drop (0 + (bcs ((B.drop f).take m)).length)).toArray
      have he : (bcs (List.replicate m 0)).take 0 ++ bcs ((B.drop f).take m) ++ (bcs (List.replicate m 0)).drop (0 + (bcs ((B.drop f).take m)).length) = bcs ((B.drop f).take m ++ List.replicate 0 0) := by
        rw [bcs_length, hc1l, bcs_append, bcs_drop, List.drop_replicate, Nat.zero_add]; simp
      rw [he] at hbg1 hb1 hu1 hcp
      rw [hc1l] at hcp
      have hrt := HR.out.take m m (by rw [HN.out]; omega) HK.out
      generalize hC1 : (B.drop f).take m = C1 at *
      clear hC1
      rw [Nat.sub_self] at hrt
      obtain ⟨D1, hD1⟩ : ∃ D1, D1 = C1 ++ List.replicate 0 0 := ⟨_, rfl⟩
      have hlD : D1.length = m := by rw [hD1, List.length_append, hc1l, List.length_replicate]; omega
      rw [← hD1] at hbg1 hb1 hu1 hcp
      have hdt : D1.take m = C1 := by rw [hD1, ← hc1l, List.take_left]
      have hcp2 : ∀ W, Blk W p PipT (ringCells B f m rd wr).toArray → Blk W g 5 (bcs D1).toArray → ∀ ty, _ := fun W hW1 hW2 ty => run_copyb W ty g 0 0 0 p 0 24 24 (bcs D1) 5 (B.take 0) hW2 (by rw [List.length_take, HL.out]; exact Nat.min_eq_left (by omega) |>.trans (Nat.min_eq_right (by omega)).symm)
        (fun j c hj => hW1.cellAt (by
          have hj' : j < 0 := by have := (List.getElem?_eq_some_iff.1 hj).1; simp at this <;> omega
          rw [List.getElem?_take, if_pos hj'] at hj
          rw [List.getElem?_toArray, ringCells, List.getElem?_append_left (by rw [bcs_length, HL.out]; omega), bcs_get, Nat.zero_add, hj]; rfl)) (by rw [bcs_length, hlD, List.length_take, HL.out]; omega)
      have hl2 : (B.take 0).length = 0 := by simp [HL.out] <;> omega
      have he2 : (bcs D1).take 0 ++ bcs (B.take 0) ++ (bcs D1).drop (0 + (bcs (B.take 0)).length) = bcs (L.take m) := by
        rw [bcs_length, hl2, ← hrt, bcs_take, bcs_drop, ← bcs_append, ← bcs_append]
        congr 1
        skip
      rw [he2, hl2] at hcp2
      have HCP2 := Lib.hid hcp2
      have HU1 := Lib.hid hu1
      have HB1 := Lib.hid hb1
      have HBG1 := Lib.hid hbg1
      have HB0 := Lib.hid hb0
      have HLT : (L.take m).length = m := by rw [List.length_take, HN.out]; omega
      have HLT2 := Lib.hid HLT
      clear hcp2 hu1 hb1 hbg1 hb0 hbg hu0 he he2 hl2 hc1l hrt HLT hD1 hlD hdt
      go_enter Try.func27, Try.ntmps27
      go_wp2
      go_region
      generalize W1.drew.setRow g (bcs D1).toArray = W2 at *
      have hcp3 := HCP2.out W2.drew HB1.out.drew HBG1.out.drew
      have hbg2 := HBG1.out.drew.row (bcs (L.take m)).toArray
      have hu2 := HU1.out.drew.setRow (.inr HG) (bcs (L.take m)).toArray
      generalize hW3 : W2.drew.setRow g (bcs (L.take m)).toArray = W3 at *
      have HW3 := Lib.hid hW3
      clear hW3
      have hstr := run_str W3 23 9 5 under_bytes under_byte under_string g 0 m m (L.take m) HLT2.out (fun j c hj => hbg2.cellAt (by rw [List.getElem?_toArray, bcs_get, Nat.zero_add, hj]; rfl))
      have HU2 := Lib.hid hu2
      clear hu2 hbg2
      go_wp2
      go_region
      go_wp2
      go_ret
      exact ⟨by simp, HU2.out⟩
    · obtain ⟨k, hk2⟩ : ∃ k, k = 24 - f := ⟨_, rfl⟩
      have HK : Hid (k = min m (24 - f)) := Lib.hid (by rw [Nat.min_eq_right (by omega)]; exact hk2)
      have hkM : k < m := by omega
      have hkM' : (k : Int) ≤ (m : Int) := by omega
      have hnot : ¬ m = k := by omega
      have hkf : k + f ≤ 24 := by omega
      clear hk hk2
      obtain ⟨g, hg⟩ : ∃ g, g = w.heap.size := ⟨_, rfl⟩
      have hmk := make_bytes m (by omega) w
      have hbg := Blk.new w 5 (bcs (List.replicate m 0)).toArray
      have hpg : p ≠ w.heap.size := Nat.ne_of_lt HB.out.lt
      have hb0 := HB.out.alloc (.cells (bcs (List.replicate m 0)).toArray 5)
      have hu0 := (Upd.refl [] w).alloc (.cells (bcs (List.replicate m 0)).toArray 5)
      have hcF0 : (w.alloc (.cells (bcs (List.replicate m 0)).toArray 5)).cell? ⟨p, 24, none⟩ = some (.int .i64 f) := hb0.cellAt (by simp [ringCells, bcs_length, HL.out])
      rw [← hg] at hmk hbg hpg
      have HG : w.heap.size ≤ g := by omega
      generalize hW1 : w.alloc (.cells (bcs (List.replicate m 0)).toArray 5) = W1 at *
      have HW1 := Lib.hid hW1
      have HGG := Lib.hid hg
      clear hW1 hg
      have hc1l : ((B.drop f).take k).length = k := by simp [HL.out]; omega
      have hcp : ∀ ty, _ := fun ty => run_copyb W1.drew ty g 0 m m p f (24 - f) (24 - f) (bcs (List.replicate m 0)) 5 ((B.drop f).take k) hbg.drew (by rw [hc1l]; exact HK.out.trans (Nat.min_comm _ _))
        (fun j c hj => hb0.drew.cellAt (by
          have hj' : j < k := by have := (List.getElem?_eq_some_iff.1 hj).1; omega
          rw [List.getElem?_take, if_pos hj', List.getElem?_drop] at hj
          rw [List.getElem?_toArray, ringCells, List.getElem?_append_left (by rw [bcs_length, HL.out]; omega), bcs_get, hj]; rfl)) (by simp [bcs_length]; omega)
      have hbg1 := hbg.drew.row ((bcs (List.replicate m 0)).take 0 ++ bcs ((B.drop f).take k) ++ (bcs (List.replicate m 0)).drop (0 + (bcs ((B.drop f).take k)).length)).toArray
      have hb1 := hb0.drew.rowFar hpg ((bcs (List.replicate m 0)).take 0 ++ bcs ((B.drop f).take k) ++ (bcs (List.replicate m 0)).drop (0 + (bcs ((B.drop f).take k)).length)).toArray
      have hu1 := hu0.drew.setRow (.inr HG) ((bcs (List.replicate m 0)).take 0 ++ bcs ((B.drop f).take k) ++ (bcs (List.replicate m 0)).drop (0 + (bcs ((B.drop f).take k)).length)).toArray
      have he : (bcs (List.replicate m 0)).take 0 ++ bcs ((B.drop f).take k) ++ (bcs (List.replicate m 0)).drop (0 + (bcs ((B.drop f).take k)).length) = bcs ((B.drop f).take k ++ List.replicate (m - k) 0) := by
        rw [bcs_length, hc1l, bcs_append, bcs_drop, List.drop_replicate, Nat.zero_add]; simp
      rw [he] at hbg1 hb1 hu1 hcp
      rw [hc1l] at hcp
      have hrt := HR.out.take m k (by rw [HN.out]; omega) HK.out
      generalize hC1 : (B.drop f).take k = C1 at *
      clear hC1
      
      obtain ⟨D1, hD1⟩ : ∃ D1, D1 = C1 ++ List.replicate (m - k) 0 := ⟨_, rfl⟩
      have hlD : D1.length = m := by rw [hD1, List.length_append, hc1l, List.length_replicate]; omega
      rw [← hD1] at hbg1 hb1 hu1 hcp
      have hdt : D1.take k = C1 := by rw [hD1, ← hc1l, List.take_left]
      have hcp2 : ∀ W, Blk W p PipT (ringCells B f m rd wr).toArray → Blk W g 5 (bcs D1).toArray → ∀ ty, _ := fun W hW1 hW2 ty => run_copyb W ty g k (m - k) (m - k) p 0 24 24 (bcs D1) 5 (B.take (m - k)) hW2 (by rw [List.length_take, HL.out]; exact Nat.min_eq_left (by omega) |>.trans (Nat.min_eq_right (by omega)).symm)
        (fun j c hj => hW1.cellAt (by
          have hj' : j < (m - k) := by have := (List.getElem?_eq_some_iff.1 hj).1; simp at this <;> omega
          rw [List.getElem?_take, if_pos hj'] at hj
          rw [List.getElem?_toArray, ringCells, List.getElem?_append_left (by rw [bcs_length, HL.out]; omega), bcs_get, Nat.zero_add, hj]; rfl)) (by rw [bcs_length, hlD, List.length_take, HL.out]; omega)
      have hl2 : (B.take (m - k)).length = (m - k) := by simp [HL.out] <;> omega
      have he2 : (bcs D1).take k ++ bcs (B.take (m - k)) ++ (bcs D1).drop (k + (bcs (B.take (m - k))).length) = bcs (L.take m) := by
        rw [bcs_length, hl2, ← hrt, bcs_take, bcs_drop, ← bcs_append, ← bcs_append]
        congr 1
        rw [hdt, List.drop_of_length_le (by rw [hlD]; omega), List.append_nil]
      rw [he2, hl2] at hcp2
      have HCP2 := Lib.hid hcp2
      have HU1 := Lib.hid hu1
      have HB1 := Lib.hid hb1
      have HBG1 := Lib.hid hbg1
      have HB0 := Lib.hid hb0
      have HLT : (L.take m).length = m := by rw [List.length_take, HN.out]; omega
      have HLT2 := Lib.hid HLT
      clear hcp2 hu1 hb1 hbg1 hb0 hbg hu0 he he2 hl2 hc1l hrt HLT hD1 hlD hdt
      go_enter Try.func27, Try.ntmps27
      go_wp2
      go_region
      generalize W1.drew.setRow g (bcs D1).toArray = W2 at *
      have hcp3 := HCP2.out W2.drew HB1.out.drew HBG1.out.drew
      have hbg2 := HBG1.out.drew.row (bcs (L.take m)).toArray
      have hu2 := HU1.out.drew.setRow (.inr HG) (bcs (L.take m)).toArray
      generalize hW3 : W2.drew.setRow g (bcs (L.take m)).toArray = W3 at *
      have HW3 := Lib.hid hW3
      clear hW3
      have hstr := run_str W3 23 9 5 under_bytes under_byte under_string g 0 m m (L.take m) HLT2.out (fun j c hj => hbg2.cellAt (by rw [List.getElem?_toArray, bcs_get, Nat.zero_add, hj]; rfl))
      have HU2 := Lib.hid hu2
      clear hu2 hbg2
      go_wp2
      go_region
      go_wp2
      go_ret
      exact ⟨by simp, HU2.out⟩

end Go.Proofs.Ytdcecihojidiaaa
