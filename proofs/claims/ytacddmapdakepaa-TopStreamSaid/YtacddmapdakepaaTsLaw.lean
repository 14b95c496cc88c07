/- The walk of the statement on a text that goes through a pipe. -/
import Derived.Test.YtacddmapdakepaaTsF
namespace Go.Proofs.Ytacddmapdakepaa
open Go.RowKit

theorem wL_ne (L R : List UInt8) (h : L ≠ [] ∨ R ≠ []) : wL L 1 R ≠ [] := by
  unfold wL
  by_cases hL : L = []
  · subst hL
    have hR : R ≠ [] := by simpa using h
    have hp := List.length_pos_iff.2 hR
    have h2 : ¬ wAgain [] R := by unfold wAgain; simp; omega
    have e : wN [] 1 R = min R.length 24 := by simp [wN, hR, h2]
    rw [e]
    intro hn
    rw [List.nil_append] at hn
    have hz := congrArg List.length hn
    rw [List.length_take, List.length_nil] at hz
    omega
  · intro hn
    exact hL (List.append_eq_nil_iff.1 hn).1
theorem wE_or (L R : List UInt8) : wE L 1 R = 0 ∨ wE L 1 R = 12 := by
  unfold wE
  rw [if_neg (by omega)]
  by_cases h1 : R = []
  · simp [h1]
  · rw [if_neg h1]
    by_cases h2 : wAgain L R
    · simp [h2]
    · simp [h2]
theorem str_emp (L : List UInt8) : (⟨L.toArray⟩ : ByteArray).toList.isEmpty = L.isEmpty := by rw [ByteArray.toList_eq]
theorem str_bl2 (s : ByteArray) : (⟨(bl s).toArray⟩ : ByteArray) = s := bl_ext (by simp [bl])

set_option maxRecDepth 100000 in
set_option maxHeartbeats 8000000 in
theorem stream_any (s : ByteArray) (u : Nat) (w : World) (hu8 : u < 256) :
    Calls Try.prog 3 #[.string s, .int .u8 (u : Int)] w (TruePost w) := by
  have hm1 : ((u : Int)).tmod 30 = ((u % 30 : Nat) : Int) := by rw [Int.tmod_eq_emod_of_nonneg (by omega)]; omega
  have hm2 : ((u : Int)) % 30 = ((u % 30 : Nat) : Int) := by omega
  have hm30 : u % 30 < 30 := Nat.mod_lt _ (by omega)
  generalize u % 30 = m at *
  obtain ⟨s', hs'⟩ : ∃ s', s' = if 300 < s.size then s.extract 0 300 else s := ⟨_, rfl⟩
  have h300 : s'.size ≤ 300 := by
    rw [hs']
    split
    · rw [← bl_length, bl_extract]; simp; omega
    · omega
  have H300 := Lib.hid h300
  clear h300
  by_cases hbig : (300 : Int) < s.size
  · rw [if_pos (by omega)] at hs'
    have HS := Lib.hid hs'
    clear hs'
    go_enter Try.func3, Try.ntmps3
    go_wp2_with fail
    rw [← HS.out]
    clear HS hbig
    refine (new_ex _).mono ?_; rintro e w1 ⟨p, rfl, hp, hu, hsz⟩
    have H1 := Lib.hid hp
    have U1 := Lib.hid hu
    clear hp hu
    go_wp2_with fail
    refine (show Calls _ _ _ _ (fun e w' => e = .returned (.int .i64 0) ∧ PipeAt w' p [] 0 1 ∧ Upd [p] w1 w') from open_any p [] 0 0 w1 true H1.out).mono ?_; rintro e w2 ⟨rfl, hp, hu⟩
    have H2 := Lib.hid hp
    have U2 := Lib.hid (U1.out.trans hu (fun s hs => .inr (by simp at hs; omega)))
    clear hp hu
    go_wp2_with fail
    refine (show Calls _ _ _ _ (fun e w' => e = .returned (.int .i64 0) ∧ PipeAt w' p [] 1 1 ∧ Upd [p] w2 w') from open_any p [] 0 1 w2 false H2.out).mono ?_; rintro e w3 ⟨rfl, hp, hu⟩
    have H3 := Lib.hid hp
    have U3 := Lib.hid (U2.out.trans hu (fun s hs => .inr (by simp at hs; omega)))
    clear hp hu
    go_wp2_with fail
    go_loopw [6, 7, 8] (fun vo vr v W => ∃ (j : Nat) (O L R : List UInt8), vo = .string ⟨O.toArray⟩ ∧ vr = .string ⟨R.toArray⟩ ∧ v = .int .i64 (j : Int) ∧ O ++ L ++ R = bl s' ∧ j ≤ O.length ∧ PipeAt W p L 1 1 ∧ Upd [] w W) (fun _ _ v _ => 700 - (intOf v).toNat)
    case atStart => exact ⟨0, [], [], bl s', rfl, by rw [str_bl2], rfl, rfl, by simp, H3.out, U3.out⟩
    case round =>
      obtain ⟨j, O, L, R, rfl, rfl, rfl, hcat, hj, hp, hu⟩ := hrel
      have hlen : O.length + L.length + R.length = s'.size := by rw [← bl_length, ← hcat]; simp; omega
      have h300 := H300.out
      have hj7 : (j : Int) < 700 := by omega
      have hL := hp.len
      have hszO := str_size O
      have hszR := str_size R
      have hRe := str_emp R
      have HP := Lib.hid hp
      have HU := Lib.hid hu
      have HCAT := Lib.hid hcat
      clear hp hu hcat
      by_cases hR : R = []
      · have hRe2 : (⟨R.toArray⟩ : ByteArray).toList.isEmpty = true := by rw [hRe, hR]; rfl
        clear hRe
        have HRN := Lib.hid hR
        clear hR
        generalize hRS : (⟨R.toArray⟩ : ByteArray) = RS at *
        have HRS := Lib.hid hRS
        clear hRS
        go_wp2_with fail
        refine (text_any p L 1 1 _ HP.out).mono ?_; rintro e w4 ⟨rfl, hu4⟩
        have HP4 := Lib.hid (HP.out.upd hu4 (by simp))
        have HU4 := Lib.hid (HU.out.trans0 hu4)
        clear hu4
        have hLe := str_emp L
        by_cases hLn : L = []
        · have hLe2 : (⟨L.toArray⟩ : ByteArray).toList.isEmpty = true := by rw [hLe, hLn]; rfl
          have hOs : (⟨O.toArray⟩ : ByteArray) = s' := by
            have := HCAT.out
            rw [hLn, HRN.out, List.append_nil, List.append_nil] at this
            rw [this, str_bl2]
          rw [hOs]
          have HPN : Hid (PipeAt w4 p [] 1 1) := Lib.hid (by have := HP4.out; rw [hLn] at this; exact this)
          clear hLe hLn hOs
          generalize (⟨L.toArray⟩ : ByteArray) = LS at *
          go_wp2_with fail
          refine (show Calls _ _ _ _ (fun e w' => e = .returned (.tuple #[.string ⟨#[]⟩, .int .i64 12]) ∧ PipeAt w' p [] 1 1 ∧ Upd [p] w4 w') from read_any p [] 1 1 5 w4 HPN.out).mono ?_; rintro e w5 ⟨rfl, hp5, hu5⟩
          have HP5 := Lib.hid hp5
          have HU5 := Lib.hid (HU4.out.trans hu5 (fun s hs => .inr (by simp at hs; omega)))
          clear hp5 hu5
          go_wp2_with fail
          refine (show Calls _ _ _ _ (fun e w' => e = .returned (.int .i64 0) ∧ PipeAt w' p [] 1 0 ∧ Upd [p] w5 w') from close_any p [] 1 1 w5 true HP5.out).mono ?_; rintro e w6 ⟨rfl, hp6, hu6⟩
          have HU6 := Lib.hid (HU5.out.trans hu6 (fun s hs => .inr (by simp at hs; omega)))
          clear hp6 hu6
          go_wp2_with fail
          go_ret
          exact ⟨by simp, HU6.out⟩
        · have hLe2 : (⟨L.toArray⟩ : ByteArray).toList.isEmpty = false := by
            rw [hLe]; cases L with
            | nil => exact absurd rfl hLn
            | cons a l => rfl
          have hne : Hid (wL L 1 R ≠ []) := Lib.hid (wL_ne L R (.inl hLn))
          clear hLe hLn
          generalize (⟨L.toArray⟩ : ByteArray) = LS at *
          go_wp2_with fail
          have hw := write_any p L 1 1 RS _ HP4.out
          have hblR : bl RS = R := by rw [← HRS.out, bl_mk]
          rw [hblR] at hw
          have hnle := (wN_le L 1 R).1
          have hx : RS.extract (wN L 1 R) R.length = ⟨(R.drop (wN L 1 R)).toArray⟩ := bl_ext (by rw [bl_extract, hblR, bl_mk, List.take_length])
          have hwl : wL L 1 R = L ++ R.take (wN L 1 R) := rfl
          have hEo := wE_or L R
          generalize wN L 1 R = n at *
          generalize wE L 1 R = e0 at *
          have HWL := Lib.hid hwl
          generalize wL L 1 R = L2 at *
          have hnI : (n : Int) ≤ (R.length : Int) := by omega
          clear hwl hblR hnle
          rcases hEo with rfl | rfl
          all_goals
            refine hw.mono ?_; rintro e w5 ⟨rfl, hp5, hu5⟩
            have HP5 := Lib.hid hp5
            have HU5 := Lib.hid (HU4.out.trans hu5 (fun s hs => .inr (by simp at hs; omega)))
            have hl2 := hp5.len
            have hpos := List.length_pos_iff.2 hne.out
            have hrd := read_any p L2 1 1 ((m : Int) + 1) _ hp5
            have hrE : rE L2 1 ((m : Int) + 1) = 0 := by
              unfold rE
              rw [if_neg (by omega), if_neg (fun h => hne.out h.2.1)]
            have hk1 : 1 ≤ rN L2 ((m : Int) + 1) := by unfold rN; rw [if_neg (by omega)]; omega
            have hk2 : rN L2 ((m : Int) + 1) ≤ L2.length := by unfold rN; split <;> omega
            rw [hrE] at hrd
            generalize rN L2 ((m : Int) + 1) = k at *
            have hszT := str_size (L2.take k)
            have hTl : (L2.take k).length = k := by rw [List.length_take]; omega
            rw [hTl] at hszT
            have hoc : (⟨O.toArray⟩ : ByteArray) ++ ⟨(L2.take k).toArray⟩ = ⟨(O ++ L2.take k).toArray⟩ := by rw [bl_cat2, bl_mk]
            have hO2 : Hid (j + 1 ≤ (O ++ L2.take k).length) := Lib.hid (by rw [List.length_append, hTl]; omega)
            have hcat2 : Hid ((O ++ L2.take k) ++ L2.drop k ++ R.drop n = bl s') := Lib.hid (by rw [List.append_assoc O, List.take_append_drop, ← HCAT.out, HWL.out]; simp [List.append_assoc])
            generalize hTS : (⟨(L2.take k).toArray⟩ : ByteArray) = TS at *
            generalize hOS2 : (⟨(O ++ L2.take k).toArray⟩ : ByteArray) = OS2 at *
            generalize hR2 : (⟨(R.drop n).toArray⟩ : ByteArray) = RS2 at *
            have HOS2 := Lib.hid hOS2
            have HR2 := Lib.hid hR2
            clear hTS hOS2 hR2 hp5 hu5 hrE hTl hpos hw
            go_wp2_with fail
            refine hrd.mono ?_; rintro e w6 ⟨rfl, hp6, hu6⟩
            have HP6 := Lib.hid hp6
            have HU6 := Lib.hid (HU5.out.trans hu6 (fun s hs => .inr (by simp at hs; omega)))
            clear hp6 hu6 hrd
            go_wp2_with fail
            go_roundw
            case rel => exact ⟨j + 1, _, _, _, by rw [HOS2.out], by rw [HR2.out], by go_num, hcat2.out, hO2.out, HP6.out, HU6.out⟩
            case measure => simp [intOf]; omega
      · have hRe2 : (⟨R.toArray⟩ : ByteArray).toList.isEmpty = false := by
          rw [hRe]; cases R with
          | nil => exact absurd rfl hR
          | cons a l => rfl
        have hne : Hid (wL L 1 R ≠ []) := Lib.hid (wL_ne L R (.inr hR))
        clear hRe hR
        generalize hRS : (⟨R.toArray⟩ : ByteArray) = RS at *
        have HRS := Lib.hid hRS
        clear hRS
        have HP4 := HP
        have HU4 := HU
        go_wp2_with fail
        have hw := write_any p L 1 1 RS _ HP4.out
        have hblR : bl RS = R := by rw [← HRS.out, bl_mk]
        rw [hblR] at hw
        have hnle := (wN_le L 1 R).1
        have hx : RS.extract (wN L 1 R) R.length = ⟨(R.drop (wN L 1 R)).toArray⟩ := bl_ext (by rw [bl_extract, hblR, bl_mk, List.take_length])
        have hwl : wL L 1 R = L ++ R.take (wN L 1 R) := rfl
        have hEo := wE_or L R
        generalize wN L 1 R = n at *
        generalize wE L 1 R = e0 at *
        have HWL := Lib.hid hwl
        generalize wL L 1 R = L2 at *
        have hnI : (n : Int) ≤ (R.length : Int) := by omega
        clear hwl hblR hnle
        rcases hEo with rfl | rfl
        all_goals
          refine hw.mono ?_; rintro e w5 ⟨rfl, hp5, hu5⟩
          have HP5 := Lib.hid hp5
          have HU5 := Lib.hid (HU4.out.trans hu5 (fun s hs => .inr (by simp at hs; omega)))
          have hl2 := hp5.len
          have hpos := List.length_pos_iff.2 hne.out
          have hrd := read_any p L2 1 1 ((m : Int) + 1) _ hp5
          have hrE : rE L2 1 ((m : Int) + 1) = 0 := by
            unfold rE
            rw [if_neg (by omega), if_neg (fun h => hne.out h.2.1)]
          have hk1 : 1 ≤ rN L2 ((m : Int) + 1) := by unfold rN; rw [if_neg (by omega)]; omega
          have hk2 : rN L2 ((m : Int) + 1) ≤ L2.length := by unfold rN; split <;> omega
          rw [hrE] at hrd
          generalize rN L2 ((m : Int) + 1) = k at *
          have hszT := str_size (L2.take k)
          have hTl : (L2.take k).length = k := by rw [List.length_take]; omega
          rw [hTl] at hszT
          have hoc : (⟨O.toArray⟩ : ByteArray) ++ ⟨(L2.take k).toArray⟩ = ⟨(O ++ L2.take k).toArray⟩ := by rw [bl_cat2, bl_mk]
          have hO2 : Hid (j + 1 ≤ (O ++ L2.take k).length) := Lib.hid (by rw [List.length_append, hTl]; omega)
          have hcat2 : Hid ((O ++ L2.take k) ++ L2.drop k ++ R.drop n = bl s') := Lib.hid (by rw [List.append_assoc O, List.take_append_drop, ← HCAT.out, HWL.out]; simp [List.append_assoc])
          generalize hTS : (⟨(L2.take k).toArray⟩ : ByteArray) = TS at *
          generalize hOS2 : (⟨(O ++ L2.take k).toArray⟩ : ByteArray) = OS2 at *
          generalize hR2 : (⟨(R.drop n).toArray⟩ : ByteArray) = RS2 at *
          have HOS2 := Lib.hid hOS2
          have HR2 := Lib.hid hR2
          clear hTS hOS2 hR2 hp5 hu5 hrE hTl hpos hw
          go_wp2_with fail
          refine hrd.mono ?_; rintro e w6 ⟨rfl, hp6, hu6⟩
          have HP6 := Lib.hid hp6
          have HU6 := Lib.hid (HU5.out.trans hu6 (fun s hs => .inr (by simp at hs; omega)))
          clear hp6 hu6 hrd
          go_wp2_with fail
          go_roundw
          case rel => exact ⟨j + 1, _, _, _, by rw [HOS2.out], by rw [HR2.out], by go_num, hcat2.out, hO2.out, HP6.out, HU6.out⟩
          case measure => simp [intOf]; omega
  · rw [if_neg (by omega)] at hs'
    subst hs'
    go_enter Try.func3, Try.ntmps3
    go_wp2_with fail
    clear hbig
    refine (new_ex _).mono ?_; rintro e w1 ⟨p, rfl, hp, hu, hsz⟩
    have H1 := Lib.hid hp
    have U1 := Lib.hid hu
    clear hp hu
    go_wp2_with fail
    refine (show Calls _ _ _ _ (fun e w' => e = .returned (.int .i64 0) ∧ PipeAt w' p [] 0 1 ∧ Upd [p] w1 w') from open_any p [] 0 0 w1 true H1.out).mono ?_; rintro e w2 ⟨rfl, hp, hu⟩
    have H2 := Lib.hid hp
    have U2 := Lib.hid (U1.out.trans hu (fun s hs => .inr (by simp at hs; omega)))
    clear hp hu
    go_wp2_with fail
    refine (show Calls _ _ _ _ (fun e w' => e = .returned (.int .i64 0) ∧ PipeAt w' p [] 1 1 ∧ Upd [p] w2 w') from open_any p [] 0 1 w2 false H2.out).mono ?_; rintro e w3 ⟨rfl, hp, hu⟩
    have H3 := Lib.hid hp
    have U3 := Lib.hid (U2.out.trans hu (fun s hs => .inr (by simp at hs; omega)))
    clear hp hu
    go_wp2_with fail
    go_loopw [6, 7, 8] (fun vo vr v W => ∃ (j : Nat) (O L R : List UInt8), vo = .string ⟨O.toArray⟩ ∧ vr = .string ⟨R.toArray⟩ ∧ v = .int .i64 (j : Int) ∧ O ++ L ++ R = bl s' ∧ j ≤ O.length ∧ PipeAt W p L 1 1 ∧ Upd [] w W) (fun _ _ v _ => 700 - (intOf v).toNat)
    case atStart => exact ⟨0, [], [], bl s', rfl, by rw [str_bl2], rfl, rfl, by simp, H3.out, U3.out⟩
    case round =>
      obtain ⟨j, O, L, R, rfl, rfl, rfl, hcat, hj, hp, hu⟩ := hrel
      have hlen : O.length + L.length + R.length = s'.size := by rw [← bl_length, ← hcat]; simp; omega
      have h300 := H300.out
      have hj7 : (j : Int) < 700 := by omega
      have hL := hp.len
      have hszO := str_size O
      have hszR := str_size R
      have hRe := str_emp R
      have HP := Lib.hid hp
      have HU := Lib.hid hu
      have HCAT := Lib.hid hcat
      clear hp hu hcat
      by_cases hR : R = []
      · have hRe2 : (⟨R.toArray⟩ : ByteArray).toList.isEmpty = true := by rw [hRe, hR]; rfl
        clear hRe
        have HRN := Lib.hid hR
        clear hR
        generalize hRS : (⟨R.toArray⟩ : ByteArray) = RS at *
        have HRS := Lib.hid hRS
        clear hRS
        go_wp2_with fail
        refine (text_any p L 1 1 _ HP.out).mono ?_; rintro e w4 ⟨rfl, hu4⟩
        have HP4 := Lib.hid (HP.out.upd hu4 (by simp))
        have HU4 := Lib.hid (HU.out.trans0 hu4)
        clear hu4
        have hLe := str_emp L
        by_cases hLn : L = []
        · have hLe2 : (⟨L.toArray⟩ : ByteArray).toList.isEmpty = true := by rw [hLe, hLn]; rfl
          have hOs : (⟨O.toArray⟩ : ByteArray) = s' := by
            have := HCAT.out
            rw [hLn, HRN.out, List.append_nil, List.append_nil] at this
            rw [this, str_bl2]
          rw [hOs]
          have HPN : Hid (PipeAt w4 p [] 1 1) := Lib.hid (by have := HP4.out; rw [hLn] at this; exact this)
          clear hLe hLn hOs
          generalize (⟨L.toArray⟩ : ByteArray) = LS at *
          go_wp2_with fail
          refine (show Calls _ _ _ _ (fun e w' => e = .returned (.tuple #[.string ⟨#[]⟩, .int .i64 12]) ∧ PipeAt w' p [] 1 1 ∧ Upd [p] w4 w') from read_any p [] 1 1 5 w4 HPN.out).mono ?_; rintro e w5 ⟨rfl, hp5, hu5⟩
          have HP5 := Lib.hid hp5
          have HU5 := Lib.hid (HU4.out.trans hu5 (fun s hs => .inr (by simp at hs; omega)))
          clear hp5 hu5
          go_wp2_with fail
          refine (show Calls _ _ _ _ (fun e w' => e = .returned (.int .i64 0) ∧ PipeAt w' p [] 1 0 ∧ Upd [p] w5 w') from close_any p [] 1 1 w5 true HP5.out).mono ?_; rintro e w6 ⟨rfl, hp6, hu6⟩
          have HU6 := Lib.hid (HU5.out.trans hu6 (fun s hs => .inr (by simp at hs; omega)))
          clear hp6 hu6
          go_wp2_with fail
          go_ret
          exact ⟨by simp, HU6.out⟩
        · have hLe2 : (⟨L.toArray⟩ : ByteArray).toList.isEmpty = false := by
            rw [hLe]; cases L with
            | nil => exact absurd rfl hLn
            | cons a l => rfl
          have hne : Hid (wL L 1 R ≠ []) := Lib.hid (wL_ne L R (.inl hLn))
          clear hLe hLn
          generalize (⟨L.toArray⟩ : ByteArray) = LS at *
          go_wp2_with fail
          have hw := write_any p L 1 1 RS _ HP4.out
          have hblR : bl RS = R := by rw [← HRS.out, bl_mk]
          rw [hblR] at hw
          have hnle := (wN_le L 1 R).1
          have hx : RS.extract (wN L 1 R) R.length = ⟨(R.drop (wN L 1 R)).toArray⟩ := bl_ext (by rw [bl_extract, hblR, bl_mk, List.take_length])
          have hwl : wL L 1 R = L ++ R.take (wN L 1 R) := rfl
          have hEo := wE_or L R
          generalize wN L 1 R = n at *
          generalize wE L 1 R = e0 at *
          have HWL := Lib.hid hwl
          generalize wL L 1 R = L2 at *
          have hnI : (n : Int) ≤ (R.length : Int) := by omega
          clear hwl hblR hnle
          rcases hEo with rfl | rfl
          all_goals
            refine hw.mono ?_; rintro e w5 ⟨rfl, hp5, hu5⟩
            have HP5 := Lib.hid hp5
            have HU5 := Lib.hid (HU4.out.trans hu5 (fun s hs => .inr (by simp at hs; omega)))
            have hl2 := hp5.len
            have hpos := List.length_pos_iff.2 hne.out
            have hrd := read_any p L2 1 1 ((m : Int) + 1) _ hp5
            have hrE : rE L2 1 ((m : Int) + 1) = 0 := by
              unfold rE
              rw [if_neg (by omega), if_neg (fun h => hne.out h.2.1)]
            have hk1 : 1 ≤ rN L2 ((m : Int) + 1) := by unfold rN; rw [if_neg (by omega)]; omega
            have hk2 : rN L2 ((m : Int) + 1) ≤ L2.length := by unfold rN; split <;> omega
            rw [hrE] at hrd
            generalize rN L2 ((m : Int) + 1) = k at *
            have hszT := str_size (L2.take k)
            have hTl : (L2.take k).length = k := by rw [List.length_take]; omega
            rw [hTl] at hszT
            have hoc : (⟨O.toArray⟩ : ByteArray) ++ ⟨(L2.take k).toArray⟩ = ⟨(O ++ L2.take k).toArray⟩ := by rw [bl_cat2, bl_mk]
            have hO2 : Hid (j + 1 ≤ (O ++ L2.take k).length) := Lib.hid (by rw [List.length_append, hTl]; omega)
            have hcat2 : Hid ((O ++ L2.take k) ++ L2.drop k ++ R.drop n = bl s') := Lib.hid (by rw [List.append_assoc O, List.take_append_drop, ← HCAT.out, HWL.out]; simp [List.append_assoc])
            generalize hTS : (⟨(L2.take k).toArray⟩ : ByteArray) = TS at *
            generalize hOS2 : (⟨(O ++ L2.take k).toArray⟩ : ByteArray) = OS2 at *
            generalize hR2 : (⟨(R.drop n).toArray⟩ : ByteArray) = RS2 at *
            have HOS2 := Lib.hid hOS2
            have HR2 := Lib.hid hR2
            clear hTS hOS2 hR2 hp5 hu5 hrE hTl hpos hw
            go_wp2_with fail
            refine hrd.mono ?_; rintro e w6 ⟨rfl, hp6, hu6⟩
            have HP6 := Lib.hid hp6
            have HU6 := Lib.hid (HU5.out.trans hu6 (fun s hs => .inr (by simp at hs; omega)))
            clear hp6 hu6 hrd
            go_wp2_with fail
            go_roundw
            case rel => exact ⟨j + 1, _, _, _, by rw [HOS2.out], by rw [HR2.out], by go_num, hcat2.out, hO2.out, HP6.out, HU6.out⟩
            case measure => simp [intOf]; omega
      · have hRe2 : (⟨R.toArray⟩ : ByteArray).toList.isEmpty = false := by
          rw [hRe]; cases R with
          | nil => exact absurd rfl hR
          | cons a l => rfl
        have hne : Hid (wL L 1 R ≠ []) := Lib.hid (wL_ne L R (.inr hR))
        clear hRe hR
        generalize hRS : (⟨R.toArray⟩ : ByteArray) = RS at *
        have HRS := Lib.hid hRS
        clear hRS
        have HP4 := HP
        have HU4 := HU
        go_wp2_with fail
        have hw := write_any p L 1 1 RS _ HP4.out
        have hblR : bl RS = R := by rw [← HRS.out, bl_mk]
        rw [hblR] at hw
        have hnle := (wN_le L 1 R).1
        have hx : RS.extract (wN L 1 R) R.length = ⟨(R.drop (wN L 1 R)).toArray⟩ := bl_ext (by rw [bl_extract, hblR, bl_mk, List.take_length])
        have hwl : wL L 1 R = L ++ R.take (wN L 1 R) := rfl
        have hEo := wE_or L R
        generalize wN L 1 R = n at *
        generalize wE L 1 R = e0 at *
        have HWL := Lib.hid hwl
        generalize wL L 1 R = L2 at *
        have hnI : (n : Int) ≤ (R.length : Int) := by omega
        clear hwl hblR hnle
        rcases hEo with rfl | rfl
        all_goals
          refine hw.mono ?_; rintro e w5 ⟨rfl, hp5, hu5⟩
          have HP5 := Lib.hid hp5
          have HU5 := Lib.hid (HU4.out.trans hu5 (fun s hs => .inr (by simp at hs; omega)))
          have hl2 := hp5.len
          have hpos := List.length_pos_iff.2 hne.out
          have hrd := read_any p L2 1 1 ((m : Int) + 1) _ hp5
          have hrE : rE L2 1 ((m : Int) + 1) = 0 := by
            unfold rE
            rw [if_neg (by omega), if_neg (fun h => hne.out h.2.1)]
          have hk1 : 1 ≤ rN L2 ((m : Int) + 1) := by unfold rN; rw [if_neg (by omega)]; omega
          have hk2 : rN L2 ((m : Int) + 1) ≤ L2.length := by unfold rN; split <;> omega
          rw [hrE] at hrd
          generalize rN L2 ((m : Int) + 1) = k at *
          have hszT := str_size (L2.take k)
          have hTl : (L2.take k).length = k := by rw [List.length_take]; omega
          rw [hTl] at hszT
          have hoc : (⟨O.toArray⟩ : ByteArray) ++ ⟨(L2.take k).toArray⟩ = ⟨(O ++ L2.take k).toArray⟩ := by rw [bl_cat2, bl_mk]
          have hO2 : Hid (j + 1 ≤ (O ++ L2.take k).length) := Lib.hid (by rw [List.length_append, hTl]; omega)
          have hcat2 : Hid ((O ++ L2.take k) ++ L2.drop k ++ R.drop n = bl s') := Lib.hid (by rw [List.append_assoc O, List.take_append_drop, ← HCAT.out, HWL.out]; simp [List.append_assoc])
          generalize hTS : (⟨(L2.take k).toArray⟩ : ByteArray) = TS at *
          generalize hOS2 : (⟨(O ++ L2.take k).toArray⟩ : ByteArray) = OS2 at *
          generalize hR2 : (⟨(R.drop n).toArray⟩ : ByteArray) = RS2 at *
          have HOS2 := Lib.hid hOS2
          have HR2 := Lib.hid hR2
          clear hTS hOS2 hR2 hp5 hu5 hrE hTl hpos hw
          go_wp2_with fail
          refine hrd.mono ?_; rintro e w6 ⟨rfl, hp6, hu6⟩
          have HP6 := Lib.hid hp6
          have HU6 := Lib.hid (HU5.out.trans hu6 (fun s hs => .inr (by simp at hs; omega)))
          clear hp6 hu6 hrd
          go_wp2_with fail
          go_roundw
          case rel => exact ⟨j + 1, _, _, _, by rw [HOS2.out], by rw [HR2.out], by go_num, hcat2.out, hO2.out, HP6.out, HU6.out⟩
          case measure => simp [intOf]; omega

end Go.Proofs.Ytacddmapdakepaa
