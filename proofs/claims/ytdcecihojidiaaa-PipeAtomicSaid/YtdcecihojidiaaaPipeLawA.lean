/- The walk of the statement on what is written whole, or not at all. -/
import Derived.Test.YtdcecihojidiaaaPipeOpen
namespace Go.Proofs.Ytdcecihojidiaaa
open Go.RowKit

theorem bl_cat (L : List UInt8) (t : ByteArray) : (⟨L.toArray⟩ : ByteArray) ++ t = ⟨(L ++ bl t).toArray⟩ := bl_ext (by
  show (ByteArray.append _ _).data.toList = _
  simp [ByteArray.append, ByteArray.copySlice, bl])

set_option maxRecDepth 100000 in
set_option maxHeartbeats 4000000 in
theorem atomic_any (A : Option Addr) (len cap : Nat) (s : ByteArray) (w : World) (hd : Deeds w A len) (hlen : len ≤ 9223372036854775807) :
    Calls Try.prog 5 #[.slice A len cap, .string s] w (TruePost w) := by
  have HD := Lib.hid hd
  clear hd
  obtain ⟨s', hs'⟩ : ∃ s', s' = if 8 < s.size then s.extract 0 8 else s := ⟨_, rfl⟩
  have h8 : s'.size ≤ 8 := by
    rw [hs']
    split
    · rw [← bl_length, bl_extract]; simp; omega
    · omega
  have H8 := Lib.hid h8
  clear h8
  go_enter Try.func5, Try.ntmps5
  go_wp2_with fail
  refine (play_any A len cap _ HD.out hlen).mono ?_; rintro e w1 ⟨p, r, L, rd, wr, rfl, hb, hu, hps, _⟩
  have HB := Lib.hid hb
  have HU := Lib.hid hu
  clear hb hu
  go_wp2_with fail
  refine (live_any _).mono ?_; rintro e w2 ⟨rfl, hu2⟩
  have HB2 := Lib.hid (HB.out.upd hu2 (by simp) (by simp))
  have HU2 := Lib.hid (HU.out.trans0 hu2)
  clear hu2
  by_cases hbig : (8 : Int) < s.size
  · rw [if_pos (by omega)] at hs'
    have HS := Lib.hid hs'
    clear hs'
    go_wp2_with fail
    rw [← HS.out]
    clear HS hbig
    refine (text_any p L rd wr _ HB2.out.pipe).mono ?_; rintro e w3 ⟨rfl, hu3⟩
    have HB3 := Lib.hid (HB2.out.upd hu3 (by simp) (by simp))
    have HU3 := Lib.hid (HU2.out.trans0 hu3)
    clear hu3
    go_wp2_with fail
    have hw := write_any p L rd wr s' w3 HB3.out.pipe
    have hl := HB3.out.pipe.len
    have h8 := H8.out
    have hsz := str_size L
    have hcat := bl_cat L s'
    by_cases h0 : rd = 0
    · subst h0
      have e1 : wN L 0 (bl s') = 0 := by simp [wN]
      have e2 : wE L 0 (bl s') = 9 := by simp [wE]
      have e3 : wL L 0 (bl s') = L := by simp [wL, e1]
      rw [e1, e2, e3] at hw
      clear e1 e2 e3 hl h8 hsz hcat
      refine hw.mono ?_; rintro e w4 ⟨rfl, hp, hu⟩
      have HP := Lib.hid hp
      have HU4 := Lib.hid (HU3.out.trans hu (fun s hs => .inr (by simp at hs; omega)))
      clear hp hu hw
      go_wp2_with fail
      refine (text_any p L 0 wr _ HP.out).mono ?_; rintro e w5 ⟨rfl, hu5⟩
      have HP5 := Lib.hid (HP.out.upd hu5 (by simp))
      have HU5 := Lib.hid (HU4.out.trans0 hu5)
      clear hu5
      go_wp2_with fail
      refine (count_any p L 0 wr _ false HP5.out).mono ?_; rintro e w' ⟨rfl, rfl⟩
      go_wp2_with fail
      go_ret
      exact ⟨by simp, HU5.out⟩
    · by_cases hA : wAgain L (bl s') ∧ bl s' ≠ []
      · obtain ⟨hA, h1⟩ := hA
        have e1 : wN L rd (bl s') = 0 := by simp [wN, hA]
        have e2 : wE L rd (bl s') = 12 := by simp [wE, h1, h0, hA]
        have e3 : wL L rd (bl s') = L := by simp [wL, e1]
        rw [e1, e2, e3] at hw
        have hs0 : 0 < s'.size := by rw [← bl_length]; exact List.length_pos_iff.2 h1
        unfold wAgain at hA
        rw [bl_length] at hA
        have hgt : 24 < (L.length : Int) + (s'.size : Int) := by omega
        clear e1 e2 e3 hcat hA h1 hs0
        refine hw.mono ?_; rintro e w4 ⟨rfl, hp, hu⟩
        have HP := Lib.hid hp
        have HU4 := Lib.hid (HU3.out.trans hu (fun s hs => .inr (by simp at hs; omega)))
        clear hp hu hw
        go_wp2_with fail
        refine (text_any p L rd wr _ HP.out).mono ?_; rintro e w5 ⟨rfl, hu5⟩
        have HU5 := Lib.hid (HU4.out.trans0 hu5)
        clear hu5
        go_wp2_with fail
        go_ret
        exact ⟨by simp, HU5.out⟩
      · have e2 : wE L rd (bl s') = 0 := by
          unfold wE
          rw [if_neg h0]
          by_cases h1 : bl s' = []
          · rw [if_pos h1]
          · rw [if_neg h1, if_neg (fun h => hA ⟨h, h1⟩)]
        have e1 : wN L rd (bl s') = s'.size := by
          by_cases h1 : bl s' = []
          · have : s'.size = 0 := by rw [← bl_length, h1]; rfl
            rw [this]
            simp [wN, h1]
          · have h2 : ¬ wAgain L (bl s') := fun h => hA ⟨h, h1⟩
            simp only [wN, h0, h1, h2, or_self, if_false]
            unfold wAgain at h2
            rw [bl_length] at h2 ⊢
            omega
        have e3 : wL L rd (bl s') = L ++ bl s' := by unfold wL; rw [e1, List.take_of_length_le (by rw [bl_length]; omega)]
        rw [e1, e2, e3] at hw
        clear e1 e2 e3 hA
        generalize hK : L ++ bl s' = K at *
        clear hK
        refine hw.mono ?_; rintro e w4 ⟨rfl, hp, hu⟩
        have HP := Lib.hid hp
        have HU4 := Lib.hid (HU3.out.trans hu (fun s hs => .inr (by simp at hs; omega)))
        clear hp hu hw
        go_wp2_with fail
        refine (text_any p K rd wr _ HP.out).mono ?_; rintro e w5 ⟨rfl, hu5⟩
        have HU5 := Lib.hid (HU4.out.trans0 hu5)
        clear hu5
        go_wp2_with fail
        go_ret
        exact ⟨by simp, HU5.out⟩
  · rw [if_neg (by omega)] at hs'
    subst hs'
    go_wp2_with fail
    clear hbig
    refine (text_any p L rd wr _ HB2.out.pipe).mono ?_; rintro e w3 ⟨rfl, hu3⟩
    have HB3 := Lib.hid (HB2.out.upd hu3 (by simp) (by simp))
    have HU3 := Lib.hid (HU2.out.trans0 hu3)
    clear hu3
    go_wp2_with fail
    have hw := write_any p L rd wr s' w3 HB3.out.pipe
    have hl := HB3.out.pipe.len
    have h8 := H8.out
    have hsz := str_size L
    have hcat := bl_cat L s'
    by_cases h0 : rd = 0
    · subst h0
      have e1 : wN L 0 (bl s') = 0 := by simp [wN]
      have e2 : wE L 0 (bl s') = 9 := by simp [wE]
      have e3 : wL L 0 (bl s') = L := by simp [wL, e1]
      rw [e1, e2, e3] at hw
      clear e1 e2 e3 hl h8 hsz hcat
      refine hw.mono ?_; rintro e w4 ⟨rfl, hp, hu⟩
      have HP := Lib.hid hp
      have HU4 := Lib.hid (HU3.out.trans hu (fun s hs => .inr (by simp at hs; omega)))
      clear hp hu hw
      go_wp2_with fail
      refine (text_any p L 0 wr _ HP.out).mono ?_; rintro e w5 ⟨rfl, hu5⟩
      have HP5 := Lib.hid (HP.out.upd hu5 (by simp))
      have HU5 := Lib.hid (HU4.out.trans0 hu5)
      clear hu5
      go_wp2_with fail
      refine (count_any p L 0 wr _ false HP5.out).mono ?_; rintro e w' ⟨rfl, rfl⟩
      go_wp2_with fail
      go_ret
      exact ⟨by simp, HU5.out⟩
    · by_cases hA : wAgain L (bl s') ∧ bl s' ≠ []
      · obtain ⟨hA, h1⟩ := hA
        have e1 : wN L rd (bl s') = 0 := by simp [wN, hA]
        have e2 : wE L rd (bl s') = 12 := by simp [wE, h1, h0, hA]
        have e3 : wL L rd (bl s') = L := by simp [wL, e1]
        rw [e1, e2, e3] at hw
        have hs0 : 0 < s'.size := by rw [← bl_length]; exact List.length_pos_iff.2 h1
        unfold wAgain at hA
        rw [bl_length] at hA
        have hgt : 24 < (L.length : Int) + (s'.size : Int) := by omega
        clear e1 e2 e3 hcat hA h1 hs0
        refine hw.mono ?_; rintro e w4 ⟨rfl, hp, hu⟩
        have HP := Lib.hid hp
        have HU4 := Lib.hid (HU3.out.trans hu (fun s hs => .inr (by simp at hs; omega)))
        clear hp hu hw
        go_wp2_with fail
        refine (text_any p L rd wr _ HP.out).mono ?_; rintro e w5 ⟨rfl, hu5⟩
        have HU5 := Lib.hid (HU4.out.trans0 hu5)
        clear hu5
        go_wp2_with fail
        go_ret
        exact ⟨by simp, HU5.out⟩
      · have e2 : wE L rd (bl s') = 0 := by
          unfold wE
          rw [if_neg h0]
          by_cases h1 : bl s' = []
          · rw [if_pos h1]
          · rw [if_neg h1, if_neg (fun h => hA ⟨h, h1⟩)]
        have e1 : wN L rd (bl s') = s'.size := by
          by_cases h1 : bl s' = []
          · have : s'.size = 0 := by rw [← bl_length, h1]; rfl
            rw [this]
            simp [wN, h1]
          · have h2 : ¬ wAgain L (bl s') := fun h => hA ⟨h, h1⟩
            simp only [wN, h0, h1, h2, or_self, if_false]
            unfold wAgain at h2
            rw [bl_length] at h2 ⊢
            omega
        have e3 : wL L rd (bl s') = L ++ bl s' := by unfold wL; rw [e1, List.take_of_length_le (by rw [bl_length]; omega)]
        rw [e1, e2, e3] at hw
        clear e1 e2 e3 hA
        generalize hK : L ++ bl s' = K at *
        clear hK
        refine hw.mono ?_; rintro e w4 ⟨rfl, hp, hu⟩
        have HP := Lib.hid hp
        have HU4 := Lib.hid (HU3.out.trans hu (fun s hs => .inr (by simp at hs; omega)))
        clear hp hu hw
        go_wp2_with fail
        refine (text_any p K rd wr _ HP.out).mono ?_; rintro e w5 ⟨rfl, hu5⟩
        have HU5 := Lib.hid (HU4.out.trans0 hu5)
        clear hu5
        go_wp2_with fail
        go_ret
        exact ⟨by simp, HU5.out⟩

end Go.Proofs.Ytdcecihojidiaaa
