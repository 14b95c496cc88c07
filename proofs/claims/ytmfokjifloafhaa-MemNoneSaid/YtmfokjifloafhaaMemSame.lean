/- live and same: what is asked of both memories at the end. -/
import Derived.Test.YtmfokjifloafhaaMemPlay
import Derived.Test.YtmfokjifloafhaaRow
namespace Go.Proofs.Ytmfokjifloafhaa
open Go.RowKit

theorem b78 : (bcs [7, 8]).toArray = #[.int .u8 7, .int .u8 8] := rfl

set_option maxHeartbeats 1000000 in
theorem live_any (w : World) : Calls Try.prog 11 #[] w (TruePost w) := by
  have HN := Lib.hid (mem_new_ok 2 (by omega) (by omega))
  go_enter Try.func11, Try.ntmps11
  go_wp2_with fail
  refine (HN.out _).mono ?_; rintro e w1 ⟨m, fb, rfl, hm, hu, hm1, hfb1⟩
  have HM := Lib.hid hm
  have HU := Lib.hid hu
  clear hm hu
  go_wp2_with fail
  refine (mem_setWord m fb 2 _ 0 30 258 _ HM.out (by omega) (by omega)).mono ?_; rintro e w2 ⟨rfl, hm, hu⟩
  rw [if_pos (by omega)] at hm
  have HM2 := Lib.hid hm
  have HU2 := Lib.hid (HU.out.trans hu (fun s hs => .inr (by simp at hs; omega)))
  clear hm hu
  go_wp2_with fail
  have hb := Blk.new w2 5 #[.int .u8 7, .int .u8 8]
  have hr : RdB (w2.alloc (.cells #[.int .u8 7, .int .u8 8] 5)) (some ⟨w2.heap.size, 0, none⟩) [7, 8] := fun _ => ⟨_, 0, rfl, fun j c hj => by
    refine hb.cellAt ?_
    have := bcs_get [7, 8] j
    rw [hj] at this
    rw [Nat.zero_add, ← b78, List.getElem?_toArray]
    exact this⟩
  have hlt := HM2.out
  obtain ⟨cq, Xq, hx⟩ := hlt
  have l1 := hx.row.lt
  refine (mem_fill m fb 2 _ 0 31 _ 2 [7, 8] _ ⟨cq, Xq, hx.alloc _⟩ hr (fun _ b o he => by injection he with he; injection he with h1 _ _; omega) (by simp)).mono ?_; rintro e w3 ⟨rfl, hm, hu⟩
  have hf : fits 2 0 31 ([7, 8] : List UInt8).length := by simp [fits]
  rw [if_pos hf] at hm ⊢
  have HM3 := Lib.hid hm
  have HU3 := Lib.hid ((HU2.out.alloc (.cells #[.int .u8 7, .int .u8 8] 5)).trans hu (fun s hs => .inr (by simp at hs; omega)))
  clear hm hu hb hr hx hf
  go_wp2_with fail
  refine (mem_byte m fb 2 _ 0 30 _ HM3.out).mono ?_; rintro e w' ⟨rfl, rfl⟩
  rw [if_pos (by omega)]
  go_wp2_with fail
  refine (mem_byte m fb 2 _ 1 0 _ HM3.out).mono ?_; rintro e w' ⟨rfl, rfl⟩
  rw [if_pos (by omega)]
  obtain ⟨cz, Xz, hz⟩ := HM3.out
  have hc := hz.cell
  clear hz
  go_wp2_with (go_at_call 13; refine (mem_size m fb 2 _ _ hc).mono ?_; rintro e w' ⟨rfl, rfl⟩)
  go_ret
  exact ⟨by simp, HU3.out⟩

def nums (l : List Nat) : List Int := l.map fun (k : Nat) => (k : Int)
theorem ints_nums (l : List Nat) : ints l = (nums l).map (Value.int .i64) := by simp [ints, nums]
theorem nums_length (l : List Nat) : (nums l).length = l.length := by simp [nums]

set_option maxRecDepth 100000 in
set_option maxHeartbeats 4000000 in
theorem same_any (m fb r rb n : Nat) (L : List UInt8) (w : World) (h : Both w m fb r rb n L) :
    Calls Try.prog 20 #[.pointer (some ⟨m, 0, none⟩), .pointer (some ⟨r, 0, none⟩)] w (TruePost w) := by
  obtain ⟨⟨c1, X1, h1⟩, c2, X2, h2⟩ := h
  have hn := h1.hi
  have HL := Lib.hid h1.len
  have HC1 := Lib.hid h1.cell
  have HC2 := Lib.hid h2.cell
  have HB : Hid (Both w m fb r rb n L) := ⟨⟨c1, X1, h1⟩, c2, X2, h2⟩
  clear h1 h2
  go_enter Try.func20, Try.ntmps20
  go_wp2_with fail
  go_loopw [5] (fun v wr => ∃ j : Nat, j ≤ n + 2 ∧ v = .int .i64 ((j : Int) - 1) ∧ Upd [] w wr) (fun v _ => (n + 1 - intOf v).toNat)
  case atStart => exact ⟨0, by omega, by go_num, Upd.refl _ _⟩
  case round =>
    obtain ⟨j, hj, rfl, hu⟩ := hrel
    have HBr := Lib.hid (HB.out.upd hu (by simp) (by simp) (by simp) (by simp))
    have hc1 : wr.cell? ⟨m, 0, none⟩ = some (.slice (some ⟨fb, 0, none⟩) n c1) := hu.lt_old HC1.out
    have hc2 : wr.cell? ⟨r, 0, none⟩ = some (.slice (some ⟨rb, 0, none⟩) (32 * n) c2) := hu.lt_old HC2.out
    have HU := Lib.hid hu
    clear hu
    by_cases hlt : j ≤ n + 1
    · have hle : ((j : Int) - 1) ≤ n := by omega
      by_cases hin : 1 ≤ j ∧ j ≤ n
      · obtain ⟨i, rfl⟩ : ∃ i, j = i + 1 := ⟨j - 1, by omega⟩
        have i1 : i < n := by omega
        rw [show (((i + 1 : Nat) : Int) - 1) = (i : Int) by omega] at *
        have HFL := Lib.hid (frameOf_length L i n HL.out i1)
        go_wp2_with (go_at_call 37; refine (ref_size r rb n _ _ hc2 hn).mono ?_; rintro e w' ⟨rfl, rfl⟩)
        refine (mem_frame_ok m fb n L i _ HBr.out.mem (by omega) (by omega)).mono ?_; rintro e w1 ⟨v, rfl, hown, hu1⟩
        rw [Int.toNat_natCast] at hown
        obtain ⟨g, cap, rfl, hg, hgl⟩ := hown.form (by omega)
        have hS : ∀ q c, (frameOf L i)[q]? = some c → w1.cell? ⟨g, 0 + q, none⟩ = some (.int .u8 (c.toNat : Int)) := by
          intro q c hq
          have hq32 : q < 32 := by have := (List.getElem?_eq_some_iff.1 hq).1; rw [HFL.out] at this; exact this
          rw [Nat.zero_add, hown.cellAt q (by omega), bcs_get, hq]
          rfl
        have HS := Lib.hid hS
        have HB1 := Lib.hid (HBr.out.upd hu1 (by simp) (by simp) (by simp) (by simp))
        have HU1 := Lib.hid (HU.out.trans0 hu1)
        clear hown hS hu1 hc1 hc2
        go_wp2_with fail
        refine (ref_frame_ok r rb n L i _ HB1.out.ref i1).mono ?_; rintro e w2 ⟨v2, rfl, hown, hu2⟩
        obtain ⟨g2, cap2, rfl, hg2, hgl2⟩ := hown.form (by omega)
        have hS2 : ∀ q c, (frameOf L i)[q]? = some c → w2.cell? ⟨g2, 0 + q, none⟩ = some (.int .u8 (c.toNat : Int)) := by
          intro q c hq
          have hq32 : q < 32 := by have := (List.getElem?_eq_some_iff.1 hq).1; rw [HFL.out] at this; exact this
          rw [Nat.zero_add, hown.cellAt q (by omega), bcs_get, hq]
          rfl
        have k1 := run_str (P := Try.prog) w2 24 9 5 under_bytes under_byte under_string g 0 32 cap (frameOf L i) HFL.out (fun q c hq => hu2.lt_old (HS.out q c hq))
        have k2 := run_str (P := Try.prog) w2 24 9 5 under_bytes under_byte under_string g2 0 32 cap2 (frameOf L i) HFL.out hS2
        have HB2 := Lib.hid (HB1.out.upd hu2 (by simp) (by simp) (by simp) (by simp))
        have HU2 := Lib.hid (HU1.out.trans0 hu2)
        generalize (⟨(frameOf L i).toArray⟩ : ByteArray) = SA at *
        have kb : (SA.toList == SA.toList) = true := by simp
        have kb' : (SA.toList != SA.toList) = false := by simp
        have hcl := mem_clean m fb n L i _ HB2.out.mem
        rw [Int.toNat_natCast, show decide ((0 ≤ (i : Int) ∧ (i : Int) < n) ∧ frameOf L i = List.replicate 32 0) = decide (frameOf L i = List.replicate 32 0) by simp; omega] at hcl
        have hrc := fun W hh => ref_clean_ok r rb n L i W hh i1
        generalize decide (frameOf L i = List.replicate 32 0) = D at *
        have HCL := Lib.hid hcl
        have HRC := Lib.hid hrc
        clear hown hS2 hu2 hcl hrc
        go_wp2_with fail
        refine (HCL.out).mono ?_; rintro e w' ⟨rfl, rfl⟩
        go_wp2_with fail
        refine (HRC.out _ HB2.out.ref).mono ?_; rintro e w3 ⟨rfl, hu3⟩
        have HB3 := Lib.hid (HB2.out.upd hu3 (by simp) (by simp) (by simp) (by simp))
        have HU3 := Lib.hid (HU2.out.trans0 hu3)
        have kd : (D != D) = false := by simp
        have kd2 : (D == D) = true := by simp
        clear hu3 k1 k2
        go_wp2_with fail
        refine (mem_same_ok m fb n L i _ HB3.out.mem i1).mono ?_; rintro e w4 ⟨v4, rfl, hown, hu4⟩
        rw [ints_nums] at hown
        obtain ⟨A4, c4, rfl, hle4, hrd4, hlo4⟩ := RdV.of_own hown
        have HB4 := Lib.hid (HB3.out.upd hu4 (by simp) (by simp) (by simp) (by simp))
        have HU4 := Lib.hid (HU3.out.trans0 hu4)
        have HR4 := Lib.hid hrd4
        clear hown hu4 hrd4 hlo4
        go_wp2_with fail
        refine (ref_same_ok r rb n L i _ HB4.out.ref i1).mono ?_; rintro e w5 ⟨v5, rfl, hown, hu5⟩
        rw [ints_nums] at hown
        obtain ⟨A5, c5, rfl, hle5, hrd5, hlo5⟩ := RdV.of_own hown
        have HU5 := Lib.hid (HU4.out.trans0 hu5)
        have HR45 := Lib.hid (HR4.out.upd hu5 (fun _ _ _ _ => by simp))
        have HR5 := Lib.hid hrd5
        have hlen : (nums (sameL L i n)).length ≤ 1000000 := by rw [nums_length]; have := sameL_le L i n; omega
        have hsi := sameInts_any w5 A4 A5 (nums (sameL L i n)) (nums (sameL L i n)) c4 c5 HR45.out HR5.out hlen hlen
        rw [nums_length, decide_eq_true rfl] at hsi
        have HSI := Lib.hid hsi
        clear hown hu5 hrd5 hlo5 hsi hlen
        go_wp2_with fail
        refine (HSI.out).mono ?_; rintro e w6 ⟨rfl, k6, rfl⟩
        go_wp2_with fail
        go_roundw
        case rel => exact ⟨i + 1 + 1, by omega, by go_num, HU5.out.drewN _⟩
        case measure => simp [intOf]; omega
      · have hout : ((j : Int) - 1 < 0 ∨ (n : Int) ≤ (j : Int) - 1) := by omega
        have b1 : -1 ≤ (j : Int) - 1 := by omega
        clear hin
        generalize hx : (j : Int) - 1 = x at *
        have HX := Lib.hid hx
        clear hx
        have k1 := fun W => run_str_nil (P := Try.prog) W 24 9 5 under_bytes under_byte under_string 0 0
        have hcl := mem_clean m fb n L x _ HBr.out.mem
        rw [show decide ((0 ≤ x ∧ x < n) ∧ frameOf L x.toNat = List.replicate 32 0) = false by simp; omega] at hcl
        have HCL := Lib.hid hcl
        clear hcl
        go_wp2_with (go_at_call 37; refine (ref_size r rb n _ _ hc2 hn).mono ?_; rintro e w' ⟨rfl, rfl⟩)
        refine (mem_frame_bad m fb n L x _ HBr.out.mem hout).mono ?_; rintro e w' ⟨rfl, rfl⟩
        go_wp2_with fail
        refine (ref_frame_bad r rb n L x _ HBr.out.ref hout).mono ?_; rintro e w' ⟨rfl, rfl⟩
        go_wp2_with fail
        refine (HCL.out).mono ?_; rintro e w' ⟨rfl, rfl⟩
        go_wp2_with fail
        refine (ref_clean_bad r rb n L x _ HBr.out.ref hout).mono ?_; rintro e w3 ⟨rfl, hu3⟩
        have HB3 := Lib.hid (HBr.out.upd hu3 (by simp) (by simp) (by simp) (by simp))
        have HU3 := Lib.hid (HU.out.trans0 hu3)
        clear hu3
        go_wp2_with fail
        refine (mem_same_bad m fb n L x _ HB3.out.mem hout).mono ?_; rintro e w' ⟨rfl, rfl⟩
        go_wp2_with fail
        refine (ref_same_bad r rb n L x _ HB3.out.ref hout).mono ?_; rintro e w' ⟨rfl, rfl⟩
        have hsi := sameInts_any w3 none none [] [] 0 0 (fun h => by simp at h) (fun h => by simp at h) (by simp) (by simp)
        rw [decide_eq_true rfl] at hsi
        have HSI := Lib.hid hsi
        clear hsi
        go_wp2_with fail
        refine (HSI.out).mono ?_; rintro e w6 ⟨rfl, k6, rfl⟩
        go_wp2_with fail
        go_roundw
        case rel => exact ⟨j + 1, by omega, by rw [← HX.out]; go_num, HU3.out.drewN _⟩
        case measure =>
          have := HX.out
          simp [intOf]
          omega
    · have hj2 : j = n + 2 := by omega
      subst hj2
      have hgt : ¬ (((n + 2 : Nat) : Int) - 1 ≤ (n : Int)) := by omega
      go_wp2_with (first | (go_at_call 37; refine (ref_size r rb n _ _ hc2 hn).mono ?_; rintro e w' ⟨rfl, rfl⟩) | (go_at_call 13; refine (mem_size m fb n _ _ hc1).mono ?_; rintro e w' ⟨rfl, rfl⟩))
      all_goals (first | (exfalso; omega) | (go_ret; exact ⟨by simp, HU.out⟩))

end Go.Proofs.Ytmfokjifloafhaa
