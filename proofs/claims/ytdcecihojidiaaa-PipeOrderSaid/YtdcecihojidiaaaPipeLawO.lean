/- The walk of the statement on the order of what is read. -/
import Derived.Test.YtdcecihojidiaaaPipeOpen
namespace Go.Proofs.Ytdcecihojidiaaa
open Go.ChangeShapes Go.WideShapes Go.ChangeAt Go.RowKit Go.Deep

theorem under_strings : Try.prog.underlying 22 = some (.slice 9) := by kernel_rfl
theorem cells_string : Try.prog.cellsOf 9 = 1 := by kernel_rfl

/-- n strings from an address on. -/
def Strs (w : World) (A : Option Addr) (n : Nat) : Prop :=
  0 < n → ∃ b o, A = some ⟨b, o, none⟩ ∧ ∀ i, i < n → ∃ s : ByteArray, w.cell? ⟨b, o + i, none⟩ = some (.string s)
/-- Bytes from an address on. -/
def Byts (w : World) (A : Option Addr) (l : List UInt8) : Prop :=
  0 < l.length → ∃ b o, A = some ⟨b, o, none⟩ ∧ ∀ j c, l[j]? = some c → w.cell? ⟨b, o + j, none⟩ = some (.int .u8 (c.toNat : Int))

theorem open_strs {H : Type} {enc : TypeId × Value → H} {w : World} {spare : Nat → Bool} {held : Bool} {fuel : Nat} {cs : List Value} {x : DataW H × List MemPlace} (h : DataW.trod enc Try.prog w 0 spare held fuel 22 cs = some x) :
    ∃ A len cap, cs = [.slice A len cap] ∧ len ≤ cap ∧ cap ≤ maxLen ∧ Strs w A len := by
  obtain ⟨A, len, cap, rfl, h1, h2, h3⟩ := open_cells under_strings cells_string h
  refine ⟨A, len, cap, rfl, h1, h2, fun hk => ?_⟩
  obtain ⟨b, o, v, n, y, rfl, _, _⟩ := h3 0 hk
  refine ⟨b, o, rfl, fun i hi => ?_⟩
  obtain ⟨b', o', v, n, y, he, hc, hy⟩ := h3 i hi
  injection he with he
  injection he with hb ho _
  subst hb ho
  obtain ⟨s, hs, _⟩ := DataW.trod_string under_string hy
  injection hs with hs _
  subst hs
  exact ⟨s, hc⟩

theorem bl_cat2 (L : List UInt8) (t : ByteArray) : (⟨L.toArray⟩ : ByteArray) ++ t = ⟨(L ++ bl t).toArray⟩ := bl_ext (by
  show (ByteArray.append _ _).data.toList = _
  simp [ByteArray.append, ByteArray.copySlice, bl])
theorem bl_mk (L : List UInt8) : bl ⟨L.toArray⟩ = L := by simp [bl]

theorem shortS_take (s : ByteArray) (n : Nat) (h : n ≤ (shortS s).size) : (bl (shortS s)).take n = (bl s).take n ∧ n ≤ s.size := by
  unfold shortS at h ⊢
  by_cases hs : 100 < s.size
  · rw [if_pos hs] at h ⊢
    have e : (s.extract 0 100).size = 100 := by rw [← bl_length, bl_extract]; simp [bl_length]; omega
    rw [bl_extract, List.drop_zero, List.take_take]
    exact ⟨by congr 1; omega, by omega⟩
  · rw [if_neg hs] at h ⊢
    exact ⟨rfl, h⟩

theorem wN_le (L : List UInt8) (rd : Nat) (s : List UInt8) : wN L rd s ≤ s.length ∧ wN L rd s ≤ 24 - L.length := by
  unfold wN
  split <;> omega
theorem wN_err (L : List UInt8) (rd : Nat) (s : List UInt8) (h : wE L rd s ≠ 0) : wN L rd s = 0 := by
  unfold wE at h
  unfold wN
  by_cases h0 : rd = 0
  · simp [h0]
  · rw [if_neg h0] at h
    by_cases h1 : s = []
    · simp [h1] at h
    · rw [if_neg h1] at h
      by_cases h2 : wAgain L s
      · simp [h2]
      · simp [h2] at h

set_option maxRecDepth 100000 in
set_option maxHeartbeats 8000000 in
theorem order_any (A : Option Addr) (len cap : Nat) (B : Option Addr) (bs : List UInt8) (cap2 : Nat) (w : World) (hd : Strs w A len) (hlen : len ≤ 9223372036854775807) (hr : Byts w B bs) (hlen2 : bs.length ≤ 9223372036854775807) :
    Calls Try.prog 3 #[.slice A len cap, .slice B bs.length cap2] w (TruePost w) := by
  have HD := Lib.hid hd
  have HR := Lib.hid hr
  clear hd hr
  go_enter Try.func3, Try.ntmps3
  go_wp2_with fail
  refine (new_ex _).mono ?_; rintro e w1 ⟨p, rfl, hp, hu, hs⟩
  have H1 := Lib.hid hp
  have U1 := Lib.hid hu
  clear hp hu
  go_wp2_with fail
  refine (show Calls _ _ _ _ (fun e w' => e = .returned (.int .i64 0) ∧ PipeAt w' p [] 0 1 ∧ Upd [p] w1 w') from open_any p [] 0 0 w1 true H1.out).mono ?_; rintro e w2 ⟨rfl, hp, hu⟩
  have H2 := Lib.hid hp
  have U2 := Lib.hid (U1.out.trans hu (fun s hs => .inr (by simp at hs; omega)))
  clear hp hu
  go_wp2_with fail
  refine (show Calls _ _ _ _ (fun e w' => e = .returned (.int .i64 0) ∧ PipeAt w' p [] 1 1 ∧ Upd [p] w2 w') from open_any p [] 0 1 w2 false H2.out).mono ?_; rintro e w3 ⟨rfl, hp, hu⟩
  have H3 := Lib.hid hp
  have U3 := Lib.hid (U2.out.trans hu (fun s hs => .inr (by simp at hs; omega)))
  clear hp hu
  go_wp2_with fail
  go_loopw [6, 7, 8] (fun vi vo v W => ∃ (j : Nat) (O L : List UInt8), j ≤ len ∧ j ≤ 30 ∧ vi = .string ⟨(O ++ L).toArray⟩ ∧ vo = .string ⟨O.toArray⟩ ∧ v = .int .i64 (j : Int) ∧ O.length ≤ 24 * j ∧ PipeAt W p L 1 1 ∧ Upd [] w W) (fun _ _ v _ => len - (intOf v).toNat)
  case atStart => exact ⟨0, [], [], by omega, by omega, rfl, rfl, rfl, by simp, H3.out, U3.out⟩
  case round =>
    obtain ⟨j, O, L, hj, hj30, rfl, rfl, rfl, hO, hp, hu⟩ := hrel
    have hL := hp.len
    have hszO := str_size O
    have hszI := str_size (O ++ L)
    rw [List.length_append] at hszI
    have HP := Lib.hid hp
    have HU := Lib.hid hu
    by_cases hlt : j < len ∧ j < 30
    · obtain ⟨l1, l2⟩ := hlt
      obtain ⟨b, o, rfl, hc⟩ := HD.out (by omega)
      obtain ⟨s, hcell0⟩ := hc j l1
      have hcell := hu.lt_old hcell0
      have HC0 := Lib.hid hcell0
      have i0 : (0 : Int) ≤ (j : Int) := by omega
      have i1 : (j : Int) < (len : Int) := by omega
      have hw := write_any p L 1 1 (shortS s) _ hp
      have hnle := wN_le L 1 (bl (shortS s))
      rw [bl_length] at hnle
      have hst := shortS_take s _ hnle.1
      clear hcell0 hp hu hc
      go_wp2_with fail
      refine (short_any s _).mono ?_; rintro e w' ⟨rfl, rfl⟩
      go_wp2_with fail
      by_cases hE : wE L 1 (bl (shortS s)) = 0
      · rw [hE] at hw
        unfold wL at hw
        rw [hst.1] at hw
        have hn2 := hst.2
        generalize wN L 1 (bl (shortS s)) = n at *
        clear hE hst
        refine hw.mono ?_; rintro e w4 ⟨rfl, hp4, hu4⟩
        have HU4 := Lib.hid (HU.out.trans hu4 (fun s hs => .inr (by simp at hs; omega)))
        have hcell4 := HU4.out.lt_old HC0.out
        have HP4 := Lib.hid hp4
        have hl4 := hp4.len
        have hnn : ¬ ((shortS s).size : Int) < (n : Int) := by omega
        have hnn2 : (n : Int) ≤ (s.size : Int) := by omega
        have hxs : (s.extract 0 n).size = n := by rw [← bl_length, bl_extract]; simp [bl_length]; omega
        have hcat : (⟨(O ++ L).toArray⟩ : ByteArray) ++ s.extract 0 n = ⟨(O ++ (L ++ (bl s).take n)).toArray⟩ := by
          rw [bl_cat2, bl_extract, List.drop_zero, List.append_assoc]
        have hszI2 := str_size (O ++ (L ++ (bl s).take n))
        rw [List.length_append] at hszI2
        generalize hIS : (⟨(O ++ L).toArray⟩ : ByteArray) = IS at hcat hszI ⊢
        generalize L ++ (bl s).take n = L2 at *
        clear hw hp4 hu4 hIS hcell
        go_wp2_with fail
        refine (short_any s _).mono ?_; rintro e w' ⟨rfl, rfl⟩
        by_cases hjb : j < bs.length
        · obtain ⟨b2, o2, rfl, hcb⟩ := HR.out (by omega)
          obtain ⟨c, hc⟩ : ∃ c, bs[j]? = some c := ⟨bs[j], List.getElem?_eq_getElem hjb⟩
          have hcell5 := HU4.out.lt_old (hcb j c hc)
          have i2 : (j : Int) < (bs.length : Int) := by omega
          have hm1 : ((c.toNat : Int)).tmod 20 = ((c.toNat % 20 : Nat) : Int) := by rw [Int.tmod_eq_emod_of_nonneg (by omega)]; omega
          have hm2 : ((c.toNat : Int)) % 20 = ((c.toNat % 20 : Nat) : Int) := by omega
          have hc256 : c.toNat < 256 := c.toNat_lt
          have hm20 : c.toNat % 20 < 20 := Nat.mod_lt _ (by omega)
          have hrd := read_any p L2 1 1 ((c.toNat % 20 : Nat) : Int) _ HP4.out
          generalize c.toNat % 20 = m at *
          have hk20 : rN L2 (m : Int) ≤ 20 := by unfold rN; split <;> omega
          have hkl : rN L2 (m : Int) ≤ L2.length := by unfold rN; split <;> omega
          generalize rN L2 (m : Int) = k at *
          generalize rE L2 1 (m : Int) = re at *
          clear hcb hc
          go_wp2_with fail
          refine hrd.mono ?_; rintro e w5 ⟨rfl, hp5, hu5⟩
          have HU5 := Lib.hid (HU4.out.trans hu5 (fun s hs => .inr (by simp at hs; omega)))
          have HP5 := Lib.hid hp5
          have hcat2 : (⟨O.toArray⟩ : ByteArray) ++ ⟨(L2.take k).toArray⟩ = ⟨(O ++ L2.take k).toArray⟩ := by rw [bl_cat2, bl_mk]
          have hszT := str_size (L2.take k)
          have hszO2 := str_size (O ++ L2.take k)
          have hszD := str_size (L2.drop k)
          have hTl : (L2.take k).length = k := by rw [List.length_take]; omega
          have hDl : (L2.drop k).length ≤ 24 := by rw [List.length_drop]; omega
          rw [List.length_append, hTl] at hszO2
          rw [hTl] at hszT
          have hcat3 : (⟨(O ++ L2.take k).toArray⟩ : ByteArray) ++ ⟨(L2.drop k).toArray⟩ = ⟨(O ++ L2).toArray⟩ := by rw [bl_cat2, bl_mk, List.append_assoc, List.take_append_drop]
          have hrel : (⟨(O ++ L2).toArray⟩ : ByteArray) = ⟨((O ++ L2.take k) ++ L2.drop k).toArray⟩ := by rw [List.append_assoc, List.take_append_drop]
          have HREL := Lib.hid hrel
          have hO2 : (O ++ L2.take k).length ≤ 24 * (j + 1) := by rw [List.length_append, hTl]; omega
          have HO2 := Lib.hid hO2
          generalize hI2 : (⟨(O ++ L2).toArray⟩ : ByteArray) = IS2 at *
          generalize hOO : (⟨(O ++ L2.take k).toArray⟩ : ByteArray) = OS2 at *
          generalize hTT : (⟨(L2.take k).toArray⟩ : ByteArray) = TS at *
          have HOO := Lib.hid hOO
          clear hrd hp5 hu5 hrel hO2 hI2 hOO hTT hTl
          go_wp2_with fail
          refine (text_any p _ 1 1 _ HP5.out).mono ?_; rintro e w6 ⟨rfl, hu6⟩
          have HU6 := Lib.hid (HU5.out.trans0 hu6)
          have HP6 := Lib.hid (HP5.out.upd hu6 (by simp))
          clear hu6
          have hbnd : ((⟨(L2.drop k).toArray⟩ : ByteArray).size : Int) ≤ 24 := by omega
          generalize hDS : (⟨(L2.drop k).toArray⟩ : ByteArray) = DS at *
          have HDS := Lib.hid hDS
          clear hDS
          go_wp2_with fail
          refine (text_any p _ 1 1 _ HP6.out).mono ?_; rintro e w7 ⟨rfl, hu7⟩
          have HU7 := Lib.hid (HU6.out.trans0 hu7)
          have HP7 := Lib.hid (HP6.out.upd hu7 (by simp))
          clear hu7
          rw [HDS.out]
          go_wp2_with fail
          go_roundw
          case rel => exact ⟨j + 1, _, _, by omega, by omega, by rw [HREL.out], by rw [HOO.out], by go_num, HO2.out, HP7.out, HU7.out⟩
          case measure => simp [intOf]; omega
        · have i2 : ¬ (j : Int) < (bs.length : Int) := by omega
          have hszL2 := str_size L2
          have hcat3 : (⟨O.toArray⟩ : ByteArray) ++ ⟨L2.toArray⟩ = ⟨(O ++ L2).toArray⟩ := by rw [bl_cat2, bl_mk]
          have hbnd : ((⟨L2.toArray⟩ : ByteArray).size : Int) ≤ 24 := by omega
          generalize hI2 : (⟨(O ++ L2).toArray⟩ : ByteArray) = IS2 at *
          generalize hOO : (⟨O.toArray⟩ : ByteArray) = OS2 at *
          generalize hDS : (⟨L2.toArray⟩ : ByteArray) = DS at *
          have HOO := Lib.hid hOO
          have HI2 := Lib.hid hI2
          have HDS := Lib.hid hDS
          clear hOO hI2 hDS
          go_wp2_with fail
          refine (text_any p _ 1 1 _ HP4.out).mono ?_; rintro e w6 ⟨rfl, hu6⟩
          have HU6 := Lib.hid (HU4.out.trans0 hu6)
          have HP6 := Lib.hid (HP4.out.upd hu6 (by simp))
          clear hu6
          rw [HDS.out]
          go_wp2_with fail
          refine (text_any p _ 1 1 _ HP6.out).mono ?_; rintro e w7 ⟨rfl, hu7⟩
          have HU7 := Lib.hid (HU6.out.trans0 hu7)
          have HP7 := Lib.hid (HP6.out.upd hu7 (by simp))
          clear hu7
          rw [HDS.out]
          go_wp2_with fail
          go_roundw
          case rel => exact ⟨j + 1, _, _, by omega, by omega, by rw [← HI2.out], by rw [← HOO.out], by go_num, by omega, HP7.out, HU7.out⟩
          case measure => simp [intOf]; omega
      · have hn0 := wN_err L 1 (bl (shortS s)) hE
        have hE2 : wE L 1 (bl (shortS s)) = 12 := by
          unfold wE at hE ⊢
          rw [if_neg (by omega)] at hE ⊢
          split at hE
          · exact absurd rfl hE
          · rename_i h1
            rw [if_neg h1]
            split at hE
            · rename_i h2
              rw [if_pos h2]
            · exact absurd rfl hE
        have hwL : wL L 1 (bl (shortS s)) = L := by unfold wL; rw [hn0]; simp
        rw [hn0, hE2, hwL] at hw
        clear hE hst hnle hE2 hwL hn0
        refine hw.mono ?_; rintro e w4 ⟨rfl, hp4, hu4⟩
        have HU4 := Lib.hid (HU.out.trans hu4 (fun s hs => .inr (by simp at hs; omega)))
        have HP4 := Lib.hid hp4
        have hl4 := hp4.len
        have hszI2 := hszI
        have HLL : Hid (L = L) := Lib.hid rfl
        clear hw hp4 hu4 hcell
        generalize hL2 : L = L2 at *
        clear hL2
        by_cases hjb : j < bs.length
        · obtain ⟨b2, o2, rfl, hcb⟩ := HR.out (by omega)
          obtain ⟨c, hc⟩ : ∃ c, bs[j]? = some c := ⟨bs[j], List.getElem?_eq_getElem hjb⟩
          have hcell5 := HU4.out.lt_old (hcb j c hc)
          have i2 : (j : Int) < (bs.length : Int) := by omega
          have hm1 : ((c.toNat : Int)).tmod 20 = ((c.toNat % 20 : Nat) : Int) := by rw [Int.tmod_eq_emod_of_nonneg (by omega)]; omega
          have hm2 : ((c.toNat : Int)) % 20 = ((c.toNat % 20 : Nat) : Int) := by omega
          have hc256 : c.toNat < 256 := c.toNat_lt
          have hm20 : c.toNat % 20 < 20 := Nat.mod_lt _ (by omega)
          have hrd := read_any p L2 1 1 ((c.toNat % 20 : Nat) : Int) _ HP4.out
          generalize c.toNat % 20 = m at *
          have hk20 : rN L2 (m : Int) ≤ 20 := by unfold rN; split <;> omega
          have hkl : rN L2 (m : Int) ≤ L2.length := by unfold rN; split <;> omega
          generalize rN L2 (m : Int) = k at *
          generalize rE L2 1 (m : Int) = re at *
          clear hcb hc
          go_wp2_with fail
          refine hrd.mono ?_; rintro e w5 ⟨rfl, hp5, hu5⟩
          have HU5 := Lib.hid (HU4.out.trans hu5 (fun s hs => .inr (by simp at hs; omega)))
          have HP5 := Lib.hid hp5
          have hcat2 : (⟨O.toArray⟩ : ByteArray) ++ ⟨(L2.take k).toArray⟩ = ⟨(O ++ L2.take k).toArray⟩ := by rw [bl_cat2, bl_mk]
          have hszT := str_size (L2.take k)
          have hszO2 := str_size (O ++ L2.take k)
          have hszD := str_size (L2.drop k)
          have hTl : (L2.take k).length = k := by rw [List.length_take]; omega
          have hDl : (L2.drop k).length ≤ 24 := by rw [List.length_drop]; omega
          rw [List.length_append, hTl] at hszO2
          rw [hTl] at hszT
          have hcat3 : (⟨(O ++ L2.take k).toArray⟩ : ByteArray) ++ ⟨(L2.drop k).toArray⟩ = ⟨(O ++ L2).toArray⟩ := by rw [bl_cat2, bl_mk, List.append_assoc, List.take_append_drop]
          have hrel : (⟨(O ++ L2).toArray⟩ : ByteArray) = ⟨((O ++ L2.take k) ++ L2.drop k).toArray⟩ := by rw [List.append_assoc, List.take_append_drop]
          have HREL := Lib.hid hrel
          have hO2 : (O ++ L2.take k).length ≤ 24 * (j + 1) := by rw [List.length_append, hTl]; omega
          have HO2 := Lib.hid hO2
          generalize hI2 : (⟨(O ++ L2).toArray⟩ : ByteArray) = IS2 at *
          generalize hOO : (⟨(O ++ L2.take k).toArray⟩ : ByteArray) = OS2 at *
          generalize hTT : (⟨(L2.take k).toArray⟩ : ByteArray) = TS at *
          have HOO := Lib.hid hOO
          clear hrd hp5 hu5 hrel hO2 hI2 hOO hTT hTl
          go_wp2_with fail
          refine (text_any p _ 1 1 _ HP5.out).mono ?_; rintro e w6 ⟨rfl, hu6⟩
          have HU6 := Lib.hid (HU5.out.trans0 hu6)
          have HP6 := Lib.hid (HP5.out.upd hu6 (by simp))
          clear hu6
          have hbnd : ((⟨(L2.drop k).toArray⟩ : ByteArray).size : Int) ≤ 24 := by omega
          generalize hDS : (⟨(L2.drop k).toArray⟩ : ByteArray) = DS at *
          have HDS := Lib.hid hDS
          clear hDS
          go_wp2_with fail
          refine (text_any p _ 1 1 _ HP6.out).mono ?_; rintro e w7 ⟨rfl, hu7⟩
          have HU7 := Lib.hid (HU6.out.trans0 hu7)
          have HP7 := Lib.hid (HP6.out.upd hu7 (by simp))
          clear hu7
          rw [HDS.out]
          go_wp2_with fail
          go_roundw
          case rel => exact ⟨j + 1, _, _, by omega, by omega, by rw [HREL.out], by rw [HOO.out], by go_num, HO2.out, HP7.out, HU7.out⟩
          case measure => simp [intOf]; omega
        · have i2 : ¬ (j : Int) < (bs.length : Int) := by omega
          have hszL2 := str_size L2
          have hcat3 : (⟨O.toArray⟩ : ByteArray) ++ ⟨L2.toArray⟩ = ⟨(O ++ L2).toArray⟩ := by rw [bl_cat2, bl_mk]
          have hbnd : ((⟨L2.toArray⟩ : ByteArray).size : Int) ≤ 24 := by omega
          generalize hI2 : (⟨(O ++ L2).toArray⟩ : ByteArray) = IS2 at *
          generalize hOO : (⟨O.toArray⟩ : ByteArray) = OS2 at *
          generalize hDS : (⟨L2.toArray⟩ : ByteArray) = DS at *
          have HOO := Lib.hid hOO
          have HI2 := Lib.hid hI2
          have HDS := Lib.hid hDS
          clear hOO hI2 hDS
          go_wp2_with fail
          refine (text_any p _ 1 1 _ HP4.out).mono ?_; rintro e w6 ⟨rfl, hu6⟩
          have HU6 := Lib.hid (HU4.out.trans0 hu6)
          have HP6 := Lib.hid (HP4.out.upd hu6 (by simp))
          clear hu6
          rw [HDS.out]
          go_wp2_with fail
          refine (text_any p _ 1 1 _ HP6.out).mono ?_; rintro e w7 ⟨rfl, hu7⟩
          have HU7 := Lib.hid (HU6.out.trans0 hu7)
          have HP7 := Lib.hid (HP6.out.upd hu7 (by simp))
          clear hu7
          rw [HDS.out]
          go_wp2_with fail
          go_roundw
          case rel => exact ⟨j + 1, _, _, by omega, by omega, by rw [← HI2.out], by rw [← HOO.out], by go_num, by omega, HP7.out, HU7.out⟩
          case measure => simp [intOf]; omega
    · have hge : ¬ ((j : Int) < (len : Int)) ∨ ¬ ((j : Int) < 30) := by omega
      clear hlt hp hu
      by_cases hl2 : (j : Int) < (len : Int)
      · have hge2 : ¬ ((j : Int) < 30) := by omega
        clear hge
        go_wp2_with fail
        refine (live_any _).mono ?_; rintro e w4 ⟨rfl, hu4⟩
        have HU4 := Lib.hid (HU.out.trans0 hu4)
        clear hu4
        go_wp2_with fail
        go_ret
        exact ⟨by simp, HU4.out⟩
      · clear hge
        go_wp2_with fail
        refine (live_any _).mono ?_; rintro e w4 ⟨rfl, hu4⟩
        have HU4 := Lib.hid (HU.out.trans0 hu4)
        clear hu4
        go_wp2_with fail
        go_ret
        exact ⟨by simp, HU4.out⟩

end Go.Proofs.Ytdcecihojidiaaa
