/- The reference's Write, Read, Fork; the pipe's Fork. -/
import Derived.Test.YtdcecihojidiaaaPipeF
namespace Go.Proofs.Ytdcecihojidiaaa
open Go.RowKit

theorem str_nil (s : ByteArray) (h : bl s ≠ []) : s.toList.isEmpty = false := by
  rw [ByteArray.toList_eq]
  cases h' : s.data.toList with
  | nil => exact absurd h' h
  | cons a l => rfl
theorem str_size (L : List UInt8) : (⟨L.toArray⟩ : ByteArray).size = L.length := by
  show L.toArray.size = _
  simp
theorem str_bl (s : ByteArray) : (⟨(bl s).toArray⟩ : ByteArray) = s := bl_ext (by simp [bl])

set_option maxRecDepth 100000 in
set_option maxHeartbeats 2000000 in
theorem rwrite_any (r : Nat) (L : List UInt8) (rd wr : Nat) (s : ByteArray) (w : World) (h : RefAt w r L rd wr) :
    Calls Try.prog 35 #[.pointer (some ⟨r, 0, none⟩), .string s] w fun e w' =>
      e = .returned (.tuple #[.int .i64 (wN L rd (bl s)), .int .i64 (wE L rd (bl s))]) ∧ RefAt w' r (wL L rd (bl s)) rd wr ∧ Upd [r] w w' := by
  have hS := h.cellS
  have hR := h.cellR
  have hfz := h.1.frozen
  have hl := h.2.1
  have HH := Lib.hid h
  clear h
  by_cases h0 : rd = 0
  · subst h0
    have e1 : wN L 0 (bl s) = 0 := by simp [wN]
    have e2 : wE L 0 (bl s) = 9 := by simp [wE]
    have e3 : wL L 0 (bl s) = L := by simp [wL, e1]
    rw [e1, e2, e3]
    clear e1 e2 e3
    go_enter Try.func35, Try.ntmps35
    go_wp2
    go_ret2
    exact ⟨by simp, HH.out, Upd.refl _ _⟩
  · have h0' : ¬ (rd : Int) = 0 := by omega
    by_cases h1 : bl s = []
    · have h1' := bl_nil h1
      subst h1'
      have e1 : wN L rd (bl ⟨#[]⟩) = 0 := by simp [wN, h1]
      have e2 : wE L rd (bl ⟨#[]⟩) = 0 := by simp [wE, h1, h0]
      have e3 : wL L rd (bl ⟨#[]⟩) = L := by simp [wL, e1]
      rw [e1, e2, e3]
      clear e1 e2 e3 h1
      go_enter Try.func35, Try.ntmps35
      go_wp2
      go_ret2
      exact ⟨by simp, HH.out, Upd.refl _ _⟩
    · have hse := str_nil s h1
      have hsz := str_size L
      by_cases hA : wAgain L (bl s)
      · have e1 : wN L rd (bl s) = 0 := by simp [wN, hA]
        have e2 : wE L rd (bl s) = 12 := by simp [wE, h1, h0, hA]
        have e3 : wL L rd (bl s) = L := by simp [wL, e1]
        rw [e1, e2, e3]
        clear e1 e2 e3 h1
        unfold wAgain at hA
        rw [bl_length] at hA
        generalize (⟨L.toArray⟩ : ByteArray) = LS at hS hsz
        generalize L.length = n at *
        by_cases h24 : n = 24
        · subst h24
          clear hA
          go_enter Try.func35, Try.ntmps35
          go_wp2
          go_ret2
          exact ⟨by simp, HH.out, Upd.refl _ _⟩
        · have q1 : (s.size : Int) ≤ 8 := by omega
          have q2 : 24 - (n : Int) < s.size := by omega
          have q3 : ¬ 24 - (n : Int) = 0 := by omega
          clear hA
          go_enter Try.func35, Try.ntmps35
          go_wp2
          go_ret2
          exact ⟨by simp, HH.out, Upd.refl _ _⟩
      · have e1 : wN L rd (bl s) = min s.size (24 - L.length) := by simp [wN, hA, h0, h1, bl_length]
        have e2 : wE L rd (bl s) = 0 := by simp [wE, h1, h0, hA]
        have HF := Lib.hid (HH.out.setS (wL L rd (bl s)) (wL_len L rd (bl s) hl))
        have HU := Lib.hid ((Upd.refl [r] w).setCell (p := ⟨r, 0, none⟩) (.inl (by simp)) (.string ⟨(wL L rd (bl s)).toArray⟩))
        rw [e2]
        have happ : ∀ t : ByteArray, bl ((⟨L.toArray⟩ : ByteArray) ++ t) = L ++ bl t := fun t => by
          show (ByteArray.append _ _).data.toList = _
          simp [ByteArray.append, ByteArray.copySlice, bl]
        unfold wAgain at hA
        rw [bl_length] at hA
        have q3 : ¬ 24 - (L.length : Int) = 0 := by omega
        by_cases hfit : s.size ≤ 24 - L.length
        · have hm : wN L rd (bl s) = s.size := by omega
          have hcat : (⟨L.toArray⟩ ++ s : ByteArray) = ⟨(wL L rd (bl s)).toArray⟩ := bl_ext (by
            rw [happ]
            unfold wL
            rw [hm, List.take_of_length_le (by rw [bl_length]; omega)]
            rfl)
          rw [hm]
          have hq : (s.size : Int) ≤ 24 - (L.length : Int) := by omega
          have hq2 : ¬ 24 - (L.length : Int) < (s.size : Int) := by omega
          clear e1 e2 hm happ h1 hfit
          generalize (⟨(wL L rd (bl s)).toArray⟩ : ByteArray) = RS at *
          generalize wL L rd (bl s) = WL at *
          generalize (⟨L.toArray⟩ : ByteArray) = LS at hS hsz hcat
          generalize L.length = n at *
          by_cases q1 : (s.size : Int) ≤ 8
          · clear hA
            go_enter Try.func35, Try.ntmps35
            go_wp2
            go_ret2
            exact ⟨by simp, HF.out, HU.out⟩
          · have q2 : 8 < (s.size : Int) := by omega
            clear hA
            go_enter Try.func35, Try.ntmps35
            go_wp2
            go_ret2
            exact ⟨by simp, HF.out, HU.out⟩
        · have hm : wN L rd (bl s) = 24 - L.length := by omega
          have hcat : (⟨L.toArray⟩ ++ s.extract 0 (24 - L.length) : ByteArray) = ⟨(wL L rd (bl s)).toArray⟩ := bl_ext (by
            rw [happ, bl_extract]
            unfold wL
            rw [hm]
            rfl)
          have hsx : (s.extract 0 (24 - L.length)).size = 24 - L.length := by rw [← bl_length, bl_extract]; simp [bl_length]; omega
          rw [hm]
          have q1 : 8 < (s.size : Int) := by omega
          have q2 : 24 - (L.length : Int) < (s.size : Int) := by omega
          have q4 : ((24 - L.length : Nat) : Int) = 24 - (L.length : Int) := by omega
          clear e1 e2 hm happ h1 hA
          generalize (⟨(wL L rd (bl s)).toArray⟩ : ByteArray) = RS at *
          generalize wL L rd (bl s) = WL at *
          generalize (⟨L.toArray⟩ : ByteArray) = LS at hS hsz hcat
          generalize L.length = n at *
          go_enter Try.func35, Try.ntmps35
          go_wp2
          go_ret2
          exact ⟨by simp, HF.out, HU.out⟩

set_option maxRecDepth 100000 in
set_option maxHeartbeats 2000000 in
theorem rread_any (r : Nat) (L : List UInt8) (rd wr : Nat) (many : Int) (w : World) (h : RefAt w r L rd wr) :
    Calls Try.prog 36 #[.pointer (some ⟨r, 0, none⟩), .int .i64 many] w fun e w' =>
      e = .returned (.tuple #[.string ⟨(L.take (rN L many)).toArray⟩, .int .i64 (rE L wr many)]) ∧ RefAt w' r (L.drop (rN L many)) rd wr ∧ Upd [r] w w' := by
  have hS := h.cellS
  have hW := h.cellW
  have hfz := h.1.frozen
  have hl := h.2.1
  have hsz := str_size L
  have HH := Lib.hid h
  clear h
  by_cases h0 : many < 0
  · have e1 : rN L many = 0 := by simp [rN, h0]
    have e2 : rE L wr many = 2 := by simp [rE, h0]
    rw [e1, e2, List.take_zero, List.drop_zero]
    clear e1 e2
    go_enter Try.func36, Try.ntmps36
    go_wp2
    go_ret2
    exact ⟨by simp, HH.out, Upd.refl _ _⟩
  · by_cases hz : many = 0
    · subst hz
      have e1 : rN L 0 = 0 := by simp [rN]
      have e2 : rE L wr 0 = 0 := by simp [rE]
      rw [e1, e2, List.take_zero, List.drop_zero]
      clear e1 e2
      go_enter Try.func36, Try.ntmps36
      go_wp2
      go_ret2
      exact ⟨by simp, HH.out, Upd.refl _ _⟩
    · by_cases hA : L = [] ∧ 0 < wr
      · obtain ⟨a2, a3⟩ := hA
        subst a2
        have e2 : rE [] wr many = 12 := by unfold rE; rw [if_neg h0, if_pos ⟨by omega, rfl, a3⟩]
        have e1 : rN [] many = 0 := by simp [rN]
        rw [e1, e2, List.take_zero, List.drop_zero]
        have a3' : (0 : Int) < wr := by omega
        clear e1 e2
        go_enter Try.func36, Try.ntmps36
        go_wp2
        go_ret2
        exact ⟨by simp, HH.out, Upd.refl _ _⟩
      · have e2 : rE L wr many = 0 := by simp only [rE]; rw [if_neg h0, if_neg (fun ⟨_, y, z⟩ => hA ⟨y, z⟩)]
        have e1 : rN L many = min many.toNat L.length := by simp [rN, h0]
        rw [e2]
        have HF := Lib.hid (HH.out.setS (L.drop (rN L many)) (by simp; omega))
        have HU := Lib.hid ((Upd.refl [r] w).setCell (p := ⟨r, 0, none⟩) (.inl (by simp)) (.string ⟨(L.drop (rN L many)).toArray⟩))
        have hkl : rN L many ≤ L.length := by omega
        have hx1 : ∀ k, k ≤ L.length → (⟨L.toArray⟩ : ByteArray).extract 0 k = ⟨(L.take k).toArray⟩ := fun k hk => bl_ext (by rw [bl_extract]; simp [bl])
        have hx2 : ∀ k, k ≤ L.length → (⟨L.toArray⟩ : ByteArray).extract k L.length = ⟨(L.drop k).toArray⟩ := fun k hk => bl_ext (by rw [bl_extract]; simp [bl])
        have hemp : L ≠ [] → (⟨L.toArray⟩ : ByteArray).toList.isEmpty = false := fun hne => str_nil _ (by simpa [bl] using hne)
        have y1 := hx1 _ hkl
        have y2 := hx2 _ hkl
        have hnil : L = [] → (⟨L.toArray⟩ : ByteArray).toList.isEmpty = true := fun hne => by subst hne; rw [ByteArray.toList_eq]; rfl
        have hLl : L = [] ↔ L.length = 0 := by cases L <;> simp
        by_cases hLe : L = []
        · have hwr : ¬ 0 < (wr : Int) := fun hw => hA ⟨hLe, by omega⟩
          have hemp2 := hnil hLe
          have hk0 : rN L many = 0 := by rw [hLe] at e1; simpa [hLe] using e1
          have hL0 : L.length = 0 := hLl.1 hLe
          have q1 : ((L.length : Nat) : Int) < many := by omega
          rw [hk0] at HF HU ⊢
          have t0 : (⟨(L.take 0).toArray⟩ : ByteArray) = ByteArray.empty := rfl
          have d0 : (⟨(L.drop 0).toArray⟩ : ByteArray) = ByteArray.empty := by rw [hLe]; rfl
          rw [d0] at HF HU
          rw [t0]
          rw [hL0] at hsz q1
          clear hemp hnil hLl hA e1 e2 hx1 hx2 hkl hl
          clear t0 d0 y1 y2
          generalize (⟨L.toArray⟩ : ByteArray) = LS at *
          clear hLe hk0 hL0
          go_enter Try.func36, Try.ntmps36
          go_wp2
          go_ret2
          exact ⟨by simp, by simpa using HF.out, HU.out⟩
        · have hemp2 := hemp hLe
          clear hemp hnil hLl hA e2 hx1 hx2
          by_cases hbig : (L.length : Int) < many
          · have hk0 : rN L many = L.length := by omega
            rw [hk0] at y1 y2 HF HU ⊢
            have d0 : (⟨(L.drop L.length).toArray⟩ : ByteArray) = ByteArray.empty := by rw [List.drop_length]; rfl
            rw [d0] at HF HU
            clear y2
            generalize (⟨(L.take L.length).toArray⟩ : ByteArray) = TS at *
            generalize L.drop L.length = DL at *
            generalize (⟨L.toArray⟩ : ByteArray) = LS at *
            generalize L.length = n at *
            clear hLe hk0 hl hkl e1 d0
            go_enter Try.func36, Try.ntmps36
            go_wp2
            go_ret2
            exact ⟨by simp, HF.out, HU.out⟩
          · obtain ⟨M, rfl⟩ : ∃ M : Nat, many = M := ⟨many.toNat, by omega⟩
            have hk0 : rN L M = M := by omega
            rw [hk0] at y1 y2 HF HU ⊢
            generalize (⟨(L.take M).toArray⟩ : ByteArray) = TS at *
            generalize hDS : (⟨(L.drop M).toArray⟩ : ByteArray) = DS at *
            generalize L.drop M = DL at *
            generalize (⟨L.toArray⟩ : ByteArray) = LS at *
            generalize L.length = n at *
            clear hLe hk0 hl e1 hDS
            go_enter Try.func36, Try.ntmps36
            go_wp2
            go_ret2
            exact ⟨by simp, HF.out, HU.out⟩

end Go.Proofs.Ytdcecihojidiaaa
