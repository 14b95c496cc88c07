/- The walks of the statements on frames that are copied, and on a nil memory. -/
import Derived.Test.YtmfokjifloafhaaMemLaws
namespace Go.Proofs.Ytmfokjifloafhaa
open Go.RowKit

theorem frameOf_putAt_same (L cs : List UInt8) (n t : Nat) (hl : L.length = 32 * n) (ht : t < n) (hc : cs.length = 32) : frameOf (putAt L (32 * t) cs) t = cs := by
  unfold frameOf putAt
  rw [List.append_assoc, List.drop_append, List.drop_eq_nil_of_le (by simp; omega)]
  simp only [List.length_take, List.nil_append]
  rw [show 32 * t - min (32 * t) L.length = 0 by omega, List.drop_zero, List.take_append_of_le_length (by omega), List.take_of_length_le (by omega)]
theorem frameOf_putAt_other (L cs : List UInt8) (n t i : Nat) (hl : L.length = 32 * n) (ht : t < n) (hi : i < n) (hne : i ≠ t) (hc : cs.length = 32) : frameOf (putAt L (32 * t) cs) i = frameOf L i := by
  apply List.ext_getElem?
  intro j
  by_cases hj : j < 32
  · rw [frameOf_getElem _ i j n (by rw [putAt_length _ _ _ (by omega)]; exact hl) hi hj, frameOf_getElem L i j n hl hi hj, putAt_getD_out _ _ _ _ (by omega) (by omega)]
  · rw [List.getElem?_eq_none (by rw [frameOf_length _ i n (by rw [putAt_length _ _ _ (by omega)]; exact hl) hi]; omega), List.getElem?_eq_none (by rw [frameOf_length L i n hl hi]; omega)]
theorem mem_sameL (L : List UInt8) (i t n : Nat) (ht : t < n) (hne : t ≠ i) (he : frameOf L t = frameOf L i) : t ∈ sameL L i n := by
  unfold sameL
  rw [List.mem_filter]
  exact ⟨List.mem_range.2 ht, by simp [hne, he]⟩

set_option maxRecDepth 100000 in
set_option maxHeartbeats 4000000 in
theorem copies_any (A : Option Addr) (len cap : Nat) (u0 u1 : Nat) (w : World) (hd : Deeds w A len) (hlen : len ≤ 9223372036854775807) (hu0 : u0 < 256) (hu1 : u1 < 256) :
    Calls Try.prog 7 #[.slice A len cap, .int .u8 (u0 : Int), .int .u8 (u1 : Int)] w (TruePost w) := by
  have HD := Lib.hid hd
  clear hd
  go_enter Try.func7, Try.ntmps7
  go_wp2_with fail
  refine (show Calls Try.prog 10 #[.int .u8 4, .slice A len cap] _ (PlayPost _ 5) from play_any 4 (by omega) A len cap _ HD.out hlen).mono ?_; rintro e w1 ⟨m, fb, r, rb, L, rfl, hb, hu, hm0, hfb0, _, _⟩
  have HB := Lib.hid hb
  have HU := Lib.hid hu
  clear hb hu
  go_wp2_with fail
  refine (live_any _).mono ?_; rintro e w2 ⟨rfl, hu2⟩
  have HB2 := Lib.hid (HB.out.upd hu2 (by simp) (by simp) (by simp) (by simp))
  have HU2 := Lib.hid (HU.out.trans0 hu2)
  obtain ⟨cz, Xz, hz⟩ := HB2.out.mem
  have hcell := hz.cell
  have hlen2 := Lib.hid hz.len
  clear hu2 hz
  go_wp2_with fail
  have e0 : (u0 : Int).tmod 5 = ((u0 % 5 : Nat) : Int) := by rw [Int.tmod_eq_emod_of_nonneg (by omega)]; omega
  have e1 : (u1 : Int).tmod 5 = ((u1 % 5 : Nat) : Int) := by rw [Int.tmod_eq_emod_of_nonneg (by omega)]; omega
  have s1 := Lib.hid (fun k : Nat => mem_size m fb 5 cz (w2.drewN k) hcell)
  go_quiet ((go_at_call 13; exact Calls.quiet_of_same ((s1.out _).mono fun e w' ⟨h1, h2⟩ => ⟨h1, h2.symm⟩)))
  go_wp2_with fail
  have HB3 := Lib.hid (HB2.out.mem.drewN nq)
  have HU3 := Lib.hid (HU2.out.drewN nq)
  rw [show (u0 : Int) % 5 = ((u0 % 5 : Nat) : Int) by omega, show (u1 : Int) % 5 = ((u1 % 5 : Nat) : Int) by omega]
  have ha : u0 % 5 < 5 := by omega
  have hb : u1 % 5 < 5 := by omega
  generalize u0 % 5 = a at *
  generalize u1 % 5 = b at *
  clear e0 e1 hcell s1 HB2 HU2
  generalize w2.drewN nq = w3 at *
  have hcp := mem_copy m fb 5 L a b w3 HB3.out
  rw [if_pos (by omega), if_pos (by omega), Int.toNat_natCast, Int.toNat_natCast] at hcp
  refine hcp.mono ?_; rintro e w4 ⟨rfl, hm4, hu4⟩
  have hfl := frameOf_length L b 5 hlen2.out hb
  have F1 : frameOf (putAt L (32 * a) (frameOf L b)) a = frameOf L b := frameOf_putAt_same L _ 5 a hlen2.out ha hfl
  have F2 : frameOf (putAt L (32 * a) (frameOf L b)) b = frameOf L b := by
    by_cases hab : b = a
    · subst hab; exact F1
    · exact frameOf_putAt_other L _ 5 a b hlen2.out ha hb hab hfl
  have F3 : b ≠ a → a ∈ sameL (putAt L (32 * a) (frameOf L b)) b 5 := fun hne => mem_sameL _ b a 5 ha (fun h => hne h.symm) (F1.trans F2.symm)
  have HL4 := Lib.hid (show (putAt L (32 * a) (frameOf L b)).length = 160 by rw [putAt_length _ _ _ (by rw [hfl, hlen2.out]; omega), hlen2.out])
  have HF1 := Lib.hid F1
  have HF2 := Lib.hid F2
  have HF3 := Lib.hid F3
  have HFL := Lib.hid hfl
  generalize putAt L (32 * a) (frameOf L b) = L4 at *
  generalize frameOf L b = fr at *
  have HM4 := Lib.hid hm4
  have HU4 := Lib.hid (HU3.out.trans hu4 (fun s hs => .inr (by simp at hs; omega)))
  clear hcp hm4 hu4 F1 F2 F3 hfl
  go_wp2_with fail
  refine (mem_frame_ok m fb 5 L4 a _ HM4.out (by omega) (by omega)).mono ?_; rintro e w5 ⟨v5, rfl, hown, hu5⟩
  rw [Int.toNat_natCast, HF1.out] at hown
  obtain ⟨g, cap5, rfl, hg, hgl⟩ := hown.form (by omega)
  have hS : ∀ q c, fr[q]? = some c → w5.cell? ⟨g, 0 + q, none⟩ = some (.int .u8 (c.toNat : Int)) := by
    intro q c hq
    have hq32 : q < 32 := by have := (List.getElem?_eq_some_iff.1 hq).1; rw [HFL.out] at this; exact this
    rw [Nat.zero_add, hown.cellAt q (by omega), bcs_get, hq]
    rfl
  have HS := Lib.hid hS
  have HM5 := Lib.hid (HM4.out.upd hu5 (by simp) (by simp))
  have HU5 := Lib.hid (HU4.out.trans0 hu5)
  clear hown hS hu5
  go_wp2_with fail
  refine (mem_frame_ok m fb 5 L4 b _ HM5.out (by omega) (by omega)).mono ?_; rintro e w6 ⟨v6, rfl, hown, hu6⟩
  rw [Int.toNat_natCast, HF2.out] at hown
  obtain ⟨g6, cap6, rfl, hg6, hgl6⟩ := hown.form (by omega)
  have hS6 : ∀ q c, fr[q]? = some c → w6.cell? ⟨g6, 0 + q, none⟩ = some (.int .u8 (c.toNat : Int)) := by
    intro q c hq
    have hq32 : q < 32 := by have := (List.getElem?_eq_some_iff.1 hq).1; rw [HFL.out] at this; exact this
    rw [Nat.zero_add, hown.cellAt q (by omega), bcs_get, hq]
    rfl
  have HS6 := Lib.hid hS6
  have HS5 := Lib.hid (fun q c (hq : fr[q]? = some c) => hu6.lt_old (HS.out q c hq))
  have HM6 := Lib.hid (HM5.out.upd hu6 (by simp) (by simp))
  have HU6 := Lib.hid (HU5.out.trans0 hu6)
  clear hown hS6 hu6 HS
  go_wp2_with fail
  refine (mem_same_ok m fb 5 L4 b _ HM6.out hb).mono ?_; rintro e w7 ⟨v7, rfl, hown, hu7⟩
  rw [ints_nums] at hown
  obtain ⟨A7, c7, rfl, hle7, hrd7, hlo7⟩ := RdV.of_own hown
  have HM7 := Lib.hid (HM6.out.upd hu7 (by simp) (by simp))
  have HU7 := Lib.hid (HU6.out.trans0 hu7)
  have HR7 := Lib.hid hrd7
  have HS57 := Lib.hid (fun q c (hq : fr[q]? = some c) => hu7.lt_old (HS5.out q c hq))
  have HS67 := Lib.hid (fun q c (hq : fr[q]? = some c) => hu7.lt_old (HS6.out q c hq))
  have hl7 := sameL_le L4 b 5
  have hfb7 : 0 < (sameL L4 b 5).length → ∀ p q, A7 = some ⟨p, q, none⟩ → p ≠ fb := fun _ p q he => by
    have := hlo7 p q he
    have h2 := HM6.out
    obtain ⟨cq, Xq, hq⟩ := h2
    have := hq.row.lt
    omega
  have HFB7 := Lib.hid hfb7
  generalize hs7 : sameL L4 b 5 = s at *
  clear hown hrd7 hlo7 hu7 hfb7 hs7
  have kF0 : ((a : Int) == (b : Int)) = decide (a = b) := by rw [Bool.eq_iff_iff, beq_iff_eq, decide_eq_true_eq]; omega
  generalize hd0 : decide (a = b) = d0 at *
  have HD0 := Lib.hid hd0
  clear hd0
  have hsl : s.length ≤ 5 := hl7
  go_wp2_with fail
  go_loopw [18, 19] (fun vf vi wr => ∃ (j : Nat) (d : Bool), j ≤ s.length ∧ vf = .bool d ∧ vi = .int .i64 (j : Int) ∧ wr = w7 ∧ d = (d0 || decide (a ∈ s.take j))) (fun _ v _ => s.length - (intOf v).toNat)
  case atStart => exact ⟨0, d0, by omega, rfl, rfl, rfl, by simp⟩
  case round =>
    obtain ⟨j, d, hj, rfl, rfl, rfl, hdd⟩ := hrel
    have HDD := Lib.hid hdd
    clear hdd
    by_cases hlt : j < s.length
    · have hjn : j < (nums s).length := by rw [nums_length]; exact hlt
      obtain ⟨sb, so, rfl, hsrc⟩ := HR7.out (by simp [nums_length]; omega)
      have hrd := hsrc j (.int .i64 (s[j] : Int)) (by simp [nums, hlt])
      have i0 : (0 : Int) ≤ (j : Int) := by omega
      have i1 : (j : Int) < (s.length : Int) := by omega
      have kq : ((s[j] : Int) == (a : Int)) = decide (s[j] = a) := by rw [Bool.eq_iff_iff, beq_iff_eq, decide_eq_true_eq]; omega
      have hnext : (d || decide (s[j] = a)) = (d0 || decide (a ∈ s.take (j + 1))) := by
        rw [HDD.out, List.take_succ_eq_append_getElem hlt, Bool.or_assoc]
        congr 1
        rw [Bool.eq_iff_iff]
        simp only [Bool.or_eq_true, decide_eq_true_eq, List.mem_append, List.mem_singleton]
        constructor
        · rintro (h | h)
          · exact .inl h
          · exact .inr h.symm
        · rintro (h | h)
          · exact .inl h
          · exact .inr h.symm
      have HNX := Lib.hid hnext
      generalize decide (s[j] = a) = q at *
      generalize (s[j] : Int) = sj at *
      clear hsrc hnext
      cases d
      · go_wp2_with fail
        go_roundw
        case rel => exact ⟨j + 1, q, by omega, rfl, by go_num, by first | rfl | trivial, by simpa using HNX.out⟩
        case measure => simp [intOf]; omega
      · go_wp2_with fail
        go_roundw
        case rel => exact ⟨j + 1, true, by omega, rfl, by go_num, by first | rfl | trivial, by simpa using HNX.out⟩
        case measure => simp [intOf]; omega
    · have hjs : j = s.length := by omega
      have hdt : d = true := by
        rw [HDD.out, ← HD0.out]
        by_cases hab : a = b
        · simp [hab]
        · have := HF3.out (fun h => hab h.symm)
          rw [List.take_of_length_le (by omega)]
          simp [this]
      subst hdt hjs
      have hzz := mem_zero m fb 5 L4 a _ HM7.out
      rw [if_pos (by omega), if_pos (by omega), Int.toNat_natCast] at hzz
      have HZ := Lib.hid hzz
      clear hzz
      go_wp2_with fail
      refine HZ.out.mono ?_; rintro e w8 ⟨rfl, hm8, hu8⟩
      have HM8 := Lib.hid hm8
      have HU8 := Lib.hid (HU7.out.trans hu8 (fun s hs => .inr (by simp at hs; omega)))
      have n5 : g ≠ fb := by
        intro he
        obtain ⟨cq, Xq, hq⟩ := HM4.out
        have := hq.row.lt
        omega
      have n6 : g6 ≠ fb := by
        intro he
        obtain ⟨cq, Xq, hq⟩ := HM5.out
        have := hq.row.lt
        omega
      have k1 := run_str (P := Try.prog) w8 24 9 5 under_bytes under_byte under_string g 0 32 cap5 fr HFL.out (fun q c hq => hu8.cellAt (HS57.out q c hq) (by simp; exact n5))
      have k2 := run_str (P := Try.prog) w8 24 9 5 under_bytes under_byte under_string g6 0 32 cap6 fr HFL.out (fun q c hq => hu8.cellAt (HS67.out q c hq) (by simp; exact n6))
      have hcl := mem_clean m fb 5 _ a _ hm8
      rw [Int.toNat_natCast, frameOf_putAt_same L4 (List.replicate 32 0) 5 a HL4.out ha (by simp), decide_eq_true (by simp; omega)] at hcl
      have HCL := Lib.hid hcl
      generalize (⟨fr.toArray⟩ : ByteArray) = SA at *
      have kb : (SA.toList == SA.toList) = true := by simp
      clear hm8 hu8 hcl n5 n6
      go_wp2_with fail
      refine HCL.out.mono ?_; rintro e w' ⟨rfl, rfl⟩
      go_wp2_with fail
      go_ret
      exact ⟨by simp, HU8.out⟩

end Go.Proofs.Ytmfokjifloafhaa
