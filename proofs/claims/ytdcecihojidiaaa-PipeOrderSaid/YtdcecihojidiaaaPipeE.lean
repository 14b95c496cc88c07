/- The pipe's Write and Read; Fork; New. -/
import Derived.Test.YtdcecihojidiaaaPipeD
namespace Go.Proofs.Ytdcecihojidiaaa
open Go.RowKit

def wAgain (L s : List UInt8) : Prop := L.length = 24 ∨ (s.length ≤ 8 ∧ 24 - L.length < s.length)
instance (L s : List UInt8) : Decidable (wAgain L s) := inferInstanceAs (Decidable (_ ∨ _))
def wE (L : List UInt8) (rd : Nat) (s : List UInt8) : Int := if rd = 0 then 9 else if s = [] then 0 else if wAgain L s then 12 else 0
def wN (L : List UInt8) (rd : Nat) (s : List UInt8) : Nat := if rd = 0 ∨ s = [] ∨ wAgain L s then 0 else min s.length (24 - L.length)
def wL (L : List UInt8) (rd : Nat) (s : List UInt8) : List UInt8 := L ++ s.take (wN L rd s)
def rN (L : List UInt8) (many : Int) : Nat := if many < 0 then 0 else min many.toNat L.length
def rE (L : List UInt8) (wr : Nat) (many : Int) : Int := if many < 0 then 2 else if 0 < many ∧ L = [] ∧ 0 < wr then 12 else 0

theorem bl_nil {s : ByteArray} (h : bl s = []) : s = ⟨#[]⟩ := bl_ext h
theorem wL_len (L : List UInt8) (rd : Nat) (s : List UInt8) (h : L.length ≤ 24) : (wL L rd s).length ≤ 24 := by
  unfold wL wN
  split
  · simpa using h
  · simp; omega

theorem put_pipe (p : Nat) (L : List UInt8) (rd wr : Nat) (s : ByteArray) (w : World) (h : PipeAt w p L rd wr) (m : Nat) (hm : m = min s.size (24 - L.length)) :
    Calls Try.prog 26 #[.pointer (some ⟨p, 0, none⟩), .string s] w fun e w' =>
      e = .returned (.int .i64 m) ∧ PipeAt w' p (L ++ (bl s).take m) rd wr ∧ Upd [p] w w' := by
  obtain ⟨⟨B, f, hb, hr⟩, h1, h2⟩ := h
  refine (put_any p B L f rd wr s w hb hr m hm).mono ?_
  rintro e w' ⟨rfl, ⟨B', hb', hr'⟩, hu⟩
  refine ⟨rfl, ⟨⟨B', f, ?_, hr'⟩, h1, h2⟩, hu⟩
  have e : (L ++ (bl s).take m).length = L.length + m := by rw [List.length_append, List.length_take, bl_length]; omega
  rw [e]
  exact hb'

set_option maxRecDepth 100000 in
theorem write_any (p : Nat) (L : List UInt8) (rd wr : Nat) (s : ByteArray) (w : World) (h : PipeAt w p L rd wr) :
    Calls Try.prog 11 #[.pointer (some ⟨p, 0, none⟩), .string s] w fun e w' =>
      e = .returned (.tuple #[.int .i64 (wN L rd (bl s)), .int .i64 (wE L rd (bl s))]) ∧ PipeAt w' p (wL L rd (bl s)) rd wr ∧ Upd [p] w w' := by
  have hR := h.cellR
  have hN := h.cellN
  have hl := h.len
  have HH := Lib.hid h
  clear h
  by_cases h0 : rd = 0
  · subst h0
    have e1 : wN L 0 (bl s) = 0 := by simp [wN]
    have e2 : wE L 0 (bl s) = 9 := by simp [wE]
    have e3 : wL L 0 (bl s) = L := by simp [wL, e1]
    rw [e1, e2, e3]
    clear e1 e2 e3
    go_enter Try.func11, Try.ntmps11
    go_wp2
    go_ret2
    exact ⟨by simp, HH.out, Upd.refl _ _⟩
  · have h0' : ¬ (rd : Int) = 0 := by omega
    by_cases h1 : bl s = []
    · have h1' := bl_nil h1
      subst h1'
      have e1 : wN L rd (bl ⟨#[]⟩) = 0 := by simp [wN, h1]
      have e2 : wE L rd (bl ⟨#[]⟩) = 0 := by simp [wE, h1, h0]
      have e3 : wL L rd (bl ⟨#[]⟩) = L := by simp [wL, e1]
      rw [e1, e2, e3]
      clear e1 e2 e3 h1
      go_enter Try.func11, Try.ntmps11
      go_wp2_with (go_at_call 25; refine (room_any p L.length _ hN hl).mono ?_; rintro e w' ⟨rfl, rfl⟩)
      go_ret2
      exact ⟨by simp, HH.out, Upd.refl _ _⟩
    · have hse : s.toList.isEmpty = false := by
        rw [ByteArray.toList_eq]
        cases h : s.data.toList with
        | nil => exact absurd h h1
        | cons a l => rfl
      by_cases hA : wAgain L (bl s)
      · have e1 : wN L rd (bl s) = 0 := by simp [wN, hA]
        have e2 : wE L rd (bl s) = 12 := by simp [wE, h1, h0, hA]
        have e3 : wL L rd (bl s) = L := by simp [wL, e1]
        rw [e1, e2, e3]
        clear e1 e2 e3 h1
        unfold wAgain at hA
        rw [bl_length] at hA
        generalize L.length = n at *
        by_cases h24 : n = 24
        · subst h24
          clear hA
          go_enter Try.func11, Try.ntmps11
          go_wp2_with (go_at_call 25; refine (room_any p 24 _ hN hl).mono ?_; rintro e w' ⟨rfl, rfl⟩)
          go_ret2
          exact ⟨by simp, HH.out, Upd.refl _ _⟩
        · have q1 : (s.size : Int) ≤ 8 := by omega
          have q2 : 24 - (n : Int) < s.size := by omega
          have q3 : ¬ 24 - (n : Int) = 0 := by omega
          clear hA
          go_enter Try.func11, Try.ntmps11
          go_wp2_with (go_at_call 25; refine (room_any p n _ hN hl).mono ?_; rintro e w' ⟨rfl, rfl⟩)
          go_ret2
          exact ⟨by simp, HH.out, Upd.refl _ _⟩
      · have e1 : wN L rd (bl s) = min s.size (24 - L.length) := by simp [wN, hA, h0, h1, bl_length]
        have e2 : wE L rd (bl s) = 0 := by simp [wE, h1, h0, hA]
        have HP := Lib.hid (put_pipe p L rd wr s w HH.out _ e1)
        rw [e2]
        unfold wL
        generalize wN L rd (bl s) = m at *
        clear e2 h1
        unfold wAgain at hA
        rw [bl_length] at hA
        generalize L.length = n at *
        have q3 : ¬ 24 - (n : Int) = 0 := by omega
        clear e1
        by_cases q1 : (s.size : Int) ≤ 8
        · have q2 : (s.size : Int) ≤ 24 - (n : Int) := by omega
          clear hA
          go_enter Try.func11, Try.ntmps11
          go_wp2_with (go_at_call 25; refine (room_any p n _ hN hl).mono ?_; rintro e w' ⟨rfl, rfl⟩)
          refine HP.out.mono ?_; rintro e w1 ⟨rfl, g1, g2⟩
          have G1 := Lib.hid g1
          have G2 := Lib.hid g2
          clear g1 g2
          go_wp2
          go_ret2
          exact ⟨by simp, G1.out, G2.out⟩
        · have q2 : 8 < (s.size : Int) := by omega
          clear hA
          go_enter Try.func11, Try.ntmps11
          go_wp2_with (go_at_call 25; refine (room_any p n _ hN hl).mono ?_; rintro e w' ⟨rfl, rfl⟩)
          refine HP.out.mono ?_; rintro e w1 ⟨rfl, g1, g2⟩
          have G1 := Lib.hid g1
          have G2 := Lib.hid g2
          clear g1 g2
          go_wp2
          go_ret2
          exact ⟨by simp, G1.out, G2.out⟩

theorem Ring.drop {B L : List UInt8} {f : Nat} (h : Ring B L f) (k : Nat) (hk : k ≤ L.length) : Ring B (L.drop k) ((f + k) % 24) := by
  have h3 := h.hi
  refine ⟨h.len, Nat.mod_lt _ (by omega), by simp; omega, fun i c hi => ?_⟩
  rw [List.getElem?_drop] at hi
  rw [← h.at_ _ _ hi]
  congr 1
  omega

set_option maxRecDepth 100000 in
theorem skip_pipe (p : Nat) (L : List UInt8) (rd wr k : Nat) (w : World) (h : PipeAt w p L rd wr) (hk : k ≤ L.length) :
    Calls Try.prog 28 #[.pointer (some ⟨p, 0, none⟩), .int .i64 k] w fun e w' => e = .returned (.tuple #[]) ∧ PipeAt w' p (L.drop k) rd wr ∧ Upd [p] w w' := by
  obtain ⟨⟨B, f, hb, hr⟩, h1, h2⟩ := h
  have hB := hr.len
  have hf := hr.from_
  have hn := hr.hi
  have hcF : w.cell? ⟨p, 24, none⟩ = some (.int .i64 f) := hb.cellAt (by simp [ringCells, bcs_length, hB])
  have hcN : w.cell? ⟨p, 25, none⟩ = some (.int .i64 L.length) := hb.cellAt (by simp [ringCells, bcs_length, hB])
  have hfz1 := hb.frozen 24
  have hmod : ((f : Int) + (k : Int)).tmod 24 = (((f + k) % 24 : Nat) : Int) := by rw [Int.tmod_eq_emod_of_nonneg (by omega)]; omega
  have hb1 := hb.set_ 24 (.int .i64 ((f + k) % 24 : Nat))
  have he1 : (ringCells B f L.length rd wr).toArray.setIfInBounds 24 (.int .i64 ((f + k) % 24 : Nat)) = (ringCells B ((f + k) % 24) L.length rd wr).toArray := by simp [ringCells, bcs_length, hB, List.set_append]
  rw [he1] at hb1
  have hu1 := (Upd.refl [p] w).setCell (p := ⟨p, 24, none⟩) (.inl (by simp)) (.int .i64 ((f + k) % 24 : Nat))
  have hcN1 : (w.setCell ⟨p, 24, none⟩ (.int .i64 ((f + k) % 24 : Nat))).cell? ⟨p, 25, none⟩ = some (.int .i64 L.length) := hb1.cellAt (by simp [ringCells, bcs_length, hB])
  have hfz2 := hb1.frozen 25
  have hr2 := hr.drop k hk
  generalize (f + k) % 24 = f2 at *
  have he2 : (ringCells B f2 L.length rd wr).toArray.setIfInBounds 25 (.int .i64 ((L.length : Int) - k)) = (ringCells B f2 (L.drop k).length rd wr).toArray := by
    have e : (((L.drop k).length : Nat) : Int) = (L.length : Int) - k := by simp; omega
    simp [ringCells, bcs_length, hB, List.set_append]
    omega
  generalize hW1 : w.setCell ⟨p, 24, none⟩ (.int .i64 (f2 : Nat)) = W1 at *
  have hb2 := hb1.set_ 25 (.int .i64 ((L.length : Int) - k))
  rw [he2] at hb2
  have hu2 := hu1.setCell (p := ⟨p, 25, none⟩) (.inl (by simp)) (.int .i64 ((L.length : Int) - k))
  have HB2 := Lib.hid hb2
  have HU2 := Lib.hid hu2
  have HR2 := Lib.hid hr2
  generalize L.length = n at *
  clear hb2 hu2 hr2 hb1 hu1 he1 he2 hb hr hB
  go_enter Try.func28, Try.ntmps28
  go_wp2
  go_end0
  exact ⟨rfl, ⟨⟨B, f2, HB2.out, HR2.out⟩, h1, h2⟩, HU2.out⟩

theorem see_pipe (p : Nat) (L : List UInt8) (rd wr : Nat) (many : Int) (w : World) (h : PipeAt w p L rd wr) (h0 : 0 ≤ many) :
    Calls Try.prog 27 #[.pointer (some ⟨p, 0, none⟩), .int .i64 many] w fun e w' =>
      e = .returned (.string ⟨(L.take (rN L many)).toArray⟩) ∧ Upd [] w w' := by
  obtain ⟨⟨B, f, hb, hr⟩, h1, h2⟩ := h
  refine see_any p B L f rd wr many w hb hr (rN L many) h0 ?_
  unfold rN
  rw [if_neg (by omega)]

set_option maxRecDepth 100000 in
set_option maxHeartbeats 2000000 in
theorem read_any (p : Nat) (L : List UInt8) (rd wr : Nat) (many : Int) (w : World) (h : PipeAt w p L rd wr) :
    Calls Try.prog 13 #[.pointer (some ⟨p, 0, none⟩), .int .i64 many] w fun e w' =>
      e = .returned (.tuple #[.string ⟨(L.take (rN L many)).toArray⟩, .int .i64 (rE L wr many)]) ∧ PipeAt w' p (L.drop (rN L many)) rd wr ∧ Upd [p] w w' := by
  have hW := h.cellW
  have hN := h.cellN
  have hl := h.len
  have HH := Lib.hid h
  clear h
  by_cases h0 : many < 0
  · have e1 : rN L many = 0 := by simp [rN, h0]
    have e2 : rE L wr many = 2 := by simp [rE, h0]
    rw [e1, e2, List.take_zero, List.drop_zero]
    clear e1 e2
    go_enter Try.func13, Try.ntmps13
    go_wp2
    go_ret2
    exact ⟨by simp, HH.out, Upd.refl _ _⟩
  · by_cases hA : 0 < many ∧ L = [] ∧ 0 < wr
    · have e2 : rE L wr many = 12 := by simp only [rE]; rw [if_neg h0, if_pos hA]
      obtain ⟨a1, a2, a3⟩ := hA
      subst a2
      have e1 : rN [] many = 0 := by simp [rN]
      rw [e1, e2, List.take_zero, List.drop_zero]
      have a3' : (0 : Int) < wr := by omega
      simp only [List.length_nil, Int.natCast_zero] at hN
      clear e1 e2
      go_enter Try.func13, Try.ntmps13
      go_wp2
      go_ret2
      exact ⟨by simp, HH.out, Upd.refl _ _⟩
    · have e2 : rE L wr many = 0 := by simp only [rE]; rw [if_neg h0, if_neg hA]
      rw [e2]
      have hk : rN L many ≤ L.length := by unfold rN; split <;> omega
      have hsee := fun W hW => see_pipe p L rd wr many W hW (by omega)
      have hskip := fun W hW => skip_pipe p L rd wr (rN L many) W hW hk
      have hsz : (⟨(L.take (rN L many)).toArray⟩ : ByteArray).size = rN L many := by
        show (L.take (rN L many)).toArray.size = _
        rw [List.size_toArray, List.length_take]; omega
      have hc : ¬ (0 < many ∧ (L.length : Int) = 0 ∧ 0 < (wr : Int)) := fun ⟨x, y, z⟩ => hA ⟨x, List.eq_nil_of_length_eq_zero (by omega), by omega⟩
      generalize L.take (rN L many) = T at *
      generalize L.drop (rN L many) = D at *
      generalize rN L many = k at *
      have HS := Lib.hid hsee
      have HK := Lib.hid hskip
      clear e2 hA hsee hskip
      have fin : (c1 : many = 0 ∨ (0 < many ∧ ¬ (L.length : Int) = 0) ∨ (0 < many ∧ (L.length : Int) = 0 ∧ ¬ 0 < (wr : Int))) → Calls Try.prog 13 #[.pointer (some ⟨p, 0, none⟩), .int .i64 many] w fun e w' =>
          e = .returned (.tuple #[.string ⟨T.toArray⟩, .int .i64 0]) ∧ PipeAt w' p D rd wr ∧ Upd [p] w w' := by
        intro hcc
        clear hc
        generalize (L.length : Int) = n at *
        generalize (wr : Int) = wi at *
        rcases hcc with rfl | ⟨c1, c2⟩ | ⟨c1, c2, c3⟩
        all_goals
          go_enter Try.func13, Try.ntmps13
          go_wp2_with fail
          go_at_call 27
          refine (HS.out _ HH.out).mono ?_; rintro e w1 ⟨rfl, hu1⟩
          have H1 := Lib.hid (HH.out.upd hu1 (by simp))
          have HU1 := Lib.hid (hu1.zero [p])
          clear hu1
          go_wp2_with fail
          refine (HK.out _ H1.out).mono ?_; rintro e w2 ⟨rfl, h2, hu2⟩
          have H2 := Lib.hid h2
          have HU2 := Lib.hid (HU1.out.trans' hu2)
          clear h2 hu2
          go_wp2
          go_ret2
          exact ⟨by simp, H2.out, HU2.out⟩
      exact fin (by omega)

end Go.Proofs.Ytdcecihojidiaaa
