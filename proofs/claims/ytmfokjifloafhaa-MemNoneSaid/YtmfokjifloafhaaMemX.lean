/- The reference's frames (package embrasureref06), the third part: loops. -/
import Derived.Test.YtmfokjifloafhaaMemW
namespace Go.Proofs.Ytmfokjifloafhaa
open Go.RowKit

theorem putAt_snoc (L cs : List UInt8) (p j : Nat) (hp : p + cs.length ≤ L.length) (hj : j < cs.length) :
    (putAt L p (cs.take j)).set (p + j) cs[j] = putAt L p (cs.take (j + 1)) := by
  have h := putAt_step L cs p j 1 hp (by omega)
  rw [← h]
  have e1 : (cs.drop j).take 1 = [cs[j]] := by
    rw [List.drop_eq_getElem_cons hj]
    rfl
  rw [e1]
  have hl : (putAt L p (cs.take j)).length = L.length := putAt_length _ _ _ (by simp; omega)
  generalize putAt L p (cs.take j) = M at *
  unfold putAt
  simp only [List.length_singleton]
  rw [List.set_eq_take_append_cons_drop, if_pos (by omega)]
  simp

theorem ref_zero (m fb n : Nat) (L : List UInt8) (f : Int) (w : World) (h : RefAt w m fb n L) :
    Calls Try.prog 46 #[.pointer (some ⟨m, 0, none⟩), .int .i64 f] w fun e w' =>
      (e = .returned (.int .i64 (if 0 ≤ f ∧ f < n then 0 else 2))) ∧
      RefAt w' m fb n (if 0 ≤ f ∧ f < n then putAt L (32 * f.toNat) (List.replicate 32 0) else L) ∧ Upd [fb] w w' := by
  obtain ⟨cp, X, h⟩ := h
  have hc := h.cell
  have hn := h.hi
  by_cases hk : 0 ≤ f ∧ f < n
  · rw [if_pos hk, if_pos hk]
    obtain ⟨f0, f1⟩ := hk
    obtain ⟨g, rfl⟩ : ∃ g : Nat, f = g := ⟨f.toNat, by omega⟩
    rw [Int.toNat_natCast]
    have HL := Lib.hid h.len
    have HH := Lib.hid h
    clear h
    go_enter Try.func46, Try.ntmps46
    go_wp2_with (go_at_call 34; refine (ref_may_ok m fb n _ _ _ _ _ hc hn (by omega) (by omega) (by omega) (by omega) (by omega) (by omega)).mono ?_; rintro e w' ⟨rfl, rfl⟩)
    go_loopw [6] (fun c wr => ∃ j : Nat, j ≤ 32 ∧ c = .int .i64 (j : Int) ∧ RefX wr m fb n cp (putAt L (32 * g) ((List.replicate 32 0).take j)) X ∧ Upd [fb] w wr) (fun c _ => 32 - (intOf c).toNat)
    case atStart => exact ⟨0, by omega, rfl, by simpa [putAt] using HH.out, Upd.refl _ _⟩
    case round =>
      obtain ⟨j, hj, rfl, hX, hu⟩ := hrel
      have hcr := hX.cell
      by_cases hlt : j < 32
      · have hby := hX.byte (i := (g * 32 + j)) (by omega)
        have hfz := hX.row.frozen (g * 32 + j)
        have i1 : (0 : Int) ≤ g * 32 + j := by omega
        have i2 : (g : Int) * 32 + j < ((32 * n : Nat) : Int) := by omega
        have hs := hX.set_ (g * 32 + j) 0 (by omega)
        have e1 : (g * 32 + j) = 32 * g + j := by omega
        have e2 := putAt_snoc L (List.replicate 32 0) (32 * g) j (by have := HL.out; simp; omega) (by simpa using hlt)
        simp only [List.getElem_replicate] at e2
        have hs2 : RefX (wr.setCell ⟨fb, g * 32 + j, none⟩ (.int .u8 0)) m fb n cp (putAt L (32 * g) ((List.replicate 32 0).take (j + 1))) X := by
          rw [← e2, ← e1]
          exact hs
        have HS := Lib.hid hs2
        have HU := Lib.hid hu
        clear hs hs2 e1 e2 hX hu
        go_wp2
        go_roundw
        case rel => exact ⟨j + 1, by omega, by go_num, HS.out, HU.out.setCell (.inl (by simp)) _⟩
        case measure => simp [intOf]; omega
      · have hj2 : j = 32 := by omega
        subst hj2
        have HX := Lib.hid hX
        have HU := Lib.hid hu
        clear hX hu
        go_wp2
        go_ret
        exact ⟨by simp, ⟨cp, X, by simpa using HX.out⟩, HU.out⟩
  · rw [if_neg hk, if_neg hk]
    have HF := Lib.hid h
    clear h
    go_enter Try.func46, Try.ntmps46
    go_wp2_with (go_at_call 34; refine (ref_may_bad m fb n _ _ _ _ _ hc hn (by omega) (by omega) (by omega)).mono ?_; rintro e w' ⟨rfl, rfl⟩)
    go_ret
    exact ⟨by simp, ⟨cp, X, HF.out⟩, Upd.refl _ _⟩

theorem ref_fill_bad (m fb n : Nat) (L : List UInt8) (f o : Int) (A : Option Addr) (k cq : Nat) (w : World) (h : RefAt w m fb n L) (hb : f < 0 ∨ n ≤ f ∨ o < 0 ∨ 31 < o) :
    Calls Try.prog 48 #[.pointer (some ⟨m, 0, none⟩), .int .i64 f, .int .i64 o, .slice A k cq] w fun e w' =>
      e = .returned (.int .i64 2) ∧ w = w' := by
  obtain ⟨cp, X, h⟩ := h
  have hc := h.cell
  have hn := h.hi
  clear h
  go_enter Try.func48, Try.ntmps48
  go_wp2_with (go_at_call 34; refine (ref_may_bad m fb n _ _ _ _ _ hc hn (by omega) (by omega) (by omega)).mono ?_; rintro e w' ⟨rfl, rfl⟩)
  go_ret
  exact ⟨by simp, rfl⟩

theorem ref_fill_long (m fb n : Nat) (L : List UInt8) (f o : Int) (A : Option Addr) (k cq : Nat) (w : World) (h : RefAt w m fb n L) (f0 : 0 ≤ f) (f1 : f < n) (o0 : 0 ≤ o) (o1 : o ≤ 31)
    (hk : (n - f) * 32 - o < k) :
    Calls Try.prog 48 #[.pointer (some ⟨m, 0, none⟩), .int .i64 f, .int .i64 o, .slice A k cq] w fun e w' =>
      e = .returned (.int .i64 2) ∧ w = w' := by
  obtain ⟨cp, X, h⟩ := h
  have hc := h.cell
  have hn := h.hi
  have i1 : ((32 * n : Nat) : Int) - (f * 32 + o) < k := by omega
  clear h
  go_enter Try.func48, Try.ntmps48
  go_wp2_with (go_at_call 34; refine (ref_may_ok m fb n _ _ _ _ _ hc hn (by omega) (by omega) (by omega) (by omega) (by omega) (by omega)).mono ?_; rintro e w' ⟨rfl, rfl⟩)
  all_goals (first | (exfalso; omega) | (go_ret; exact ⟨by simp, rfl⟩))

set_option maxHeartbeats 1000000 in
theorem ref_fill_ok (m fb n : Nat) (L : List UInt8) (f o : Nat) (A : Option Addr) (cq : Nat) (cs : List UInt8) (w : World) (h : RefAt w m fb n L) (f1 : f < n) (o1 : o ≤ 31)
    (hr : RdB w A cs) (hA : 0 < cs.length → ∀ b o, A = some ⟨b, o, none⟩ → b ≠ fb) (hk : 32 * f + o + cs.length ≤ 32 * n) :
    Calls Try.prog 48 #[.pointer (some ⟨m, 0, none⟩), .int .i64 (f : Int), .int .i64 (o : Int), .slice A cs.length cq] w fun e w' =>
      e = .returned (.int .i64 0) ∧ RefAt w' m fb n (putAt L (32 * f + o) cs) ∧ Upd [fb] w w' := by
  obtain ⟨cp, X, h⟩ := h
  have hc := h.cell
  have hn := h.hi
  have HH := Lib.hid h
  have HR := Lib.hid hr
  have HA := Lib.hid hA
  have HL := Lib.hid h.len
  clear h hr hA
  generalize hcl : cs.length = K at *
  have HK := Lib.hid hcl
  clear hcl
  have i9 : (K : Int) ≤ ((32 * n : Nat) : Int) - ((f : Int) * 32 + o) := by omega
  go_enter Try.func48, Try.ntmps48
  go_wp2_with (go_at_call 34; refine (ref_may_ok m fb n _ _ _ _ _ hc hn (by omega) (by omega) (by omega) (by omega) (by omega) (by omega)).mono ?_; rintro e w' ⟨rfl, rfl⟩)
  all_goals (first | (exfalso; omega) | skip)
  go_loopw [11] (fun c wr => ∃ j : Nat, j ≤ K ∧ c = .int .i64 (j : Int) ∧ RefX wr m fb n cp (putAt L (32 * f + o) (cs.take j)) X ∧ Upd [fb] w wr) (fun c _ => K - (intOf c).toNat)
  case atStart => exact ⟨0, by omega, rfl, by simpa [putAt] using HH.out, Upd.refl _ _⟩
  case round =>
    obtain ⟨j, hj, rfl, hX, hu⟩ := hrel
    have hcr := hX.cell
    by_cases hlt : j < K
    · obtain ⟨sb, so, rfl, hsrc⟩ := (HR.out.upd hu (fun hh b o h => by simpa using HA.out (by rw [← HK.out]; exact hh) b o h)) (by have := HK.out; omega)
      have hjl : j < cs.length := by have := HK.out; omega
      have hrd : wr.cell? ⟨sb, so + j, none⟩ = some (.int .u8 (cs[j].toNat : Int)) := hsrc j cs[j] (List.getElem?_eq_getElem hjl)
      have hby := hX.byte (i := (f * 32 + o + j)) (by omega)
      have hfz := hX.row.frozen (f * 32 + o + j)
      have i1 : (0 : Int) ≤ f * 32 + o + j := by omega
      have i2 : (f : Int) * 32 + o + j < ((32 * n : Nat) : Int) := by omega
      have hs := hX.set_ (f * 32 + o + j) cs[j] (by omega)
      have e1 : (f * 32 + o + j) = 32 * f + o + j := by omega
      have e2 := putAt_snoc L cs (32 * f + o) j (by have := HL.out; have := HK.out; omega) hjl
      have hs2 : RefX (wr.setCell ⟨fb, f * 32 + o + j, none⟩ (.int .u8 (cs[j].toNat : Int))) m fb n cp (putAt L (32 * f + o) (cs.take (j + 1))) X := by
        rw [← e2, ← e1]
        exact hs
      have HS := Lib.hid hs2
      have HU := Lib.hid hu
      have hne : ¬ sb = fb := HA.out (by omega) sb so rfl
      generalize (cs[j].toNat : Int) = x at *
      clear hs hs2 e1 e2 hX hu hsrc
      go_wp2_with fail
      go_region
      all_goals go_wp2
      go_roundw
      case rel => exact ⟨j + 1, by omega, by go_num, ⟨HS.out.obj, HS.out.row, HS.out.len, HS.out.lo, HS.out.hi, HS.out.cap⟩, (HU.out.setCell (.inl (by simp)) _).drew⟩
      case measure => simp [intOf]; omega
    · have hjk : j = K := by omega
      subst hjk
      have HX := Lib.hid hX
      have HU := Lib.hid hu
      clear hX hu
      go_wp2
      go_ret
      exact ⟨by simp, ⟨cp, X, by have := HX.out; rw [List.take_of_length_le (by rw [HK.out]; omega)] at this; exact this⟩, HU.out⟩

theorem frameOf_getElem (L : List UInt8) (i j n : Nat) (hl : L.length = 32 * n) (hi : i < n) (hj : j < 32) : (frameOf L i)[j]? = some (L.getD (32 * i + j) 0) := by
  rw [frameOf_get L i j hj, List.getD_eq_getElem?_getD, List.getElem?_eq_getElem (by omega)]
  rfl

theorem putAt_getD_out (L cs : List UInt8) (p i : Nat) (hp : p + cs.length ≤ L.length) (h : i < p ∨ p + cs.length ≤ i) : (putAt L p cs).getD i 0 = L.getD i 0 := by
  unfold putAt
  simp only [List.getD_eq_getElem?_getD, List.append_assoc, List.getElem?_append, List.getElem?_take, List.getElem?_drop, List.length_take]
  congr 1
  by_cases h1 : i < p
  · simp [h1, show min p L.length = p by omega]
  · have h2 : ¬ i < min p L.length := by omega
    have h3 : ¬ i - min p L.length < cs.length := by omega
    simp only [h2, h3, if_false]
    congr 1
    omega
theorem putAt_getD_in (L cs : List UInt8) (p j : Nat) (hp : p + cs.length ≤ L.length) (h : j < cs.length) : (putAt L p cs).getD (p + j) 0 = cs.getD j 0 := by
  unfold putAt
  simp only [List.getD_eq_getElem?_getD, List.append_assoc, List.getElem?_append, List.length_take]
  congr 1
  have h2 : ¬ p + j < min p L.length := by omega
  have h3 : p + j - min p L.length = j := by omega
  simp only [h2, if_false, h3, h, if_true]

/-- While frame g is copied onto frame f byte by byte, the next byte of g is still its own. -/
theorem copy_next (L : List UInt8) (n f g j : Nat) (hl : L.length = 32 * n) (hf : f < n) (hg : g < n) (hj : j < 32) :
    (putAt L (32 * f) ((frameOf L g).take j)).getD (32 * g + j) 0 = (frameOf L g).getD j 0 := by
  have hfl := frameOf_length L g n hl hg
  have e : (frameOf L g).getD j 0 = L.getD (32 * g + j) 0 := by
    rw [List.getD_eq_getElem?_getD, frameOf_getElem L g j n hl hg hj]
    rfl
  by_cases hfg : f = g
  · subst hfg
    rw [putAt_getD_out _ _ _ _ (by simp [hfl]; omega) (.inr (by simp [hfl]; omega)), e]
  · rw [putAt_getD_out _ _ _ _ (by simp [hfl]; omega) (by simp [hfl]; omega), e]

set_option maxHeartbeats 1000000 in
theorem ref_copy (m fb n : Nat) (L : List UInt8) (f g : Int) (w : World) (h : RefAt w m fb n L) :
    Calls Try.prog 47 #[.pointer (some ⟨m, 0, none⟩), .int .i64 f, .int .i64 g] w fun e w' =>
      (e = .returned (.int .i64 (if (0 ≤ f ∧ f < n) ∧ 0 ≤ g ∧ g < n then 0 else 2))) ∧
      RefAt w' m fb n (if (0 ≤ f ∧ f < n) ∧ 0 ≤ g ∧ g < n then putAt L (32 * f.toNat) (frameOf L g.toNat) else L) ∧ Upd [fb] w w' := by
  obtain ⟨cp, X, h⟩ := h
  have hc := h.cell
  have hn := h.hi
  by_cases hk : 0 ≤ f ∧ f < n
  · by_cases hk2 : 0 ≤ g ∧ g < n
    · rw [if_pos ⟨hk, hk2⟩, if_pos ⟨hk, hk2⟩]
      obtain ⟨f0, f1⟩ := hk
      obtain ⟨g0, g1⟩ := hk2
      obtain ⟨a, rfl⟩ : ∃ a : Nat, f = a := ⟨f.toNat, by omega⟩
      obtain ⟨b, rfl⟩ : ∃ b : Nat, g = b := ⟨g.toNat, by omega⟩
      rw [Int.toNat_natCast, Int.toNat_natCast]
      have HL := Lib.hid h.len
      have HH := Lib.hid h
      have HFL := Lib.hid (frameOf_length L b n h.len (by omega))
      clear h
      go_enter Try.func47, Try.ntmps47
      go_wp2_with (go_at_call 34; refine (ref_may_ok m fb n _ _ _ _ _ hc hn (by omega) (by omega) (by omega) (by omega) (by omega) (by omega)).mono ?_; rintro e w' ⟨rfl, rfl⟩)
      go_loopw [9] (fun c wr => ∃ j : Nat, j ≤ 32 ∧ c = .int .i64 (j : Int) ∧ RefX wr m fb n cp (putAt L (32 * a) ((frameOf L b).take j)) X ∧ Upd [fb] w wr) (fun c _ => 32 - (intOf c).toNat)
      case atStart => exact ⟨0, by omega, rfl, by simpa [putAt] using HH.out, Upd.refl _ _⟩
      case round =>
        obtain ⟨j, hj, rfl, hX, hu⟩ := hrel
        have hcr := hX.cell
        by_cases hlt : j < 32
        · have hby := hX.byte (i := a * 32 + j) (by omega)
          have hrd := hX.byte (i := b * 32 + j) (by omega)
          have hfz := hX.row.frozen (a * 32 + j)
          have i1 : (0 : Int) ≤ a * 32 + j := by omega
          have i2 : (a : Int) * 32 + j < ((32 * n : Nat) : Int) := by omega
          have i3 : (0 : Int) ≤ b * 32 + j := by omega
          have i4 : (b : Int) * 32 + j < ((32 * n : Nat) : Int) := by omega
          have hjl : j < (frameOf L b).length := by rw [HFL.out]; exact hlt
          have e0 : (putAt L (32 * a) ((frameOf L b).take j)).getD (b * 32 + j) 0 = (frameOf L b)[j] := by
            rw [Nat.mul_comm b 32, copy_next L n a b j HL.out (by omega) (by omega) hlt, List.getD_eq_getElem?_getD, List.getElem?_eq_getElem hjl]
            rfl
          rw [e0] at hrd
          have hs := hX.set_ (a * 32 + j) (frameOf L b)[j] (by omega)
          have e2 := putAt_snoc L (frameOf L b) (32 * a) j (by have := HL.out; have := HFL.out; omega) hjl
          have hs2 : RefX (wr.setCell ⟨fb, a * 32 + j, none⟩ (.int .u8 ((frameOf L b)[j].toNat : Int))) m fb n cp (putAt L (32 * a) ((frameOf L b).take (j + 1))) X := by
            rw [← e2, Nat.mul_comm 32 a]
            rw [Nat.mul_comm 32 a] at hs
            exact hs
          have HS := Lib.hid hs2
          have HU := Lib.hid hu
          generalize ((frameOf L b)[j].toNat : Int) = x at *
          clear hs hs2 e0 e2 hX hu
          go_wp2_with fail
          go_region
          all_goals go_wp2
          go_roundw
          case rel => exact ⟨j + 1, by omega, by go_num, ⟨HS.out.obj, HS.out.row, HS.out.len, HS.out.lo, HS.out.hi, HS.out.cap⟩, (HU.out.setCell (.inl (by simp)) _).drew⟩
          case measure => simp [intOf]; omega
        · have hj2 : j = 32 := by omega
          subst hj2
          have HX := Lib.hid hX
          have HU := Lib.hid hu
          clear hX hu
          go_wp2
          go_ret
          exact ⟨by simp, ⟨cp, X, by have := HX.out; rw [List.take_of_length_le (by rw [HFL.out]; omega)] at this; exact this⟩, HU.out⟩
    · rw [if_neg (fun h => hk2 h.2), if_neg (fun h => hk2 h.2)]
      obtain ⟨f0, f1⟩ := hk
      have HF := Lib.hid h
      clear h
      go_enter Try.func47, Try.ntmps47
      go_wp2_with fail
      refine (ref_may_ok m fb n _ _ _ _ _ hc hn (by omega) (by omega) (by omega) (by omega) (by omega) (by omega)).mono ?_; rintro e w' ⟨rfl, rfl⟩
      go_wp2_with fail
      refine (ref_may_bad m fb n _ _ _ _ _ hc hn (by omega) (by omega) (by omega)).mono ?_; rintro e w' ⟨rfl, rfl⟩
      go_wp2_with fail
      go_ret
      exact ⟨by simp, ⟨_, _, HF.out⟩, Upd.refl _ _⟩
  · rw [if_neg (fun h => hk h.1), if_neg (fun h => hk h.1)]
    have HF := Lib.hid h
    clear h
    go_enter Try.func47, Try.ntmps47
    go_wp2_with fail
    refine (ref_may_bad m fb n _ _ _ _ _ hc hn (by omega) (by omega) (by omega)).mono ?_; rintro e w' ⟨rfl, rfl⟩
    go_wp2_with fail
    go_ret
    exact ⟨by simp, ⟨_, _, HF.out⟩, Upd.refl _ _⟩

end Go.Proofs.Ytmfokjifloafhaa
