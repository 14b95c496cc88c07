/- The reference's frames (package embrasureref06), the second part. -/
import Derived.Test.YtmfokjifloafhaaMemV
import Derived.BigRegion
namespace Go.Proofs.Ytmfokjifloafhaa
open Go.RowKit

theorem putAt_two (L : List UInt8) (i : Nat) (a b : UInt8) (hi : i + 1 < L.length) : putAt L i [a, b] = (L.set i a).set (i + 1) b := by
  unfold putAt
  apply List.ext_getElem?
  intro j
  simp only [List.length_cons, List.length_nil, List.append_assoc, List.getElem?_append, List.getElem?_take, List.getElem?_drop, List.getElem?_set, List.length_take, List.length_set]
  by_cases h1 : j < i
  · simp [h1, show min i L.length = i by omega, show ¬ i = j by omega, show ¬ i + 1 = j by omega]
  · by_cases h2 : j = i
    · subst h2
      have e : min j L.length = j := by omega
      simp [e, show j < L.length by omega]
    · by_cases h3 : j = i + 1
      · subst h3
        have e : min i L.length = i := by omega
        have e2 : i + 1 - i = 1 := by omega
        simp [e, e2, hi]
        intro h; omega
      · have h4 : ¬ j < min i L.length := by omega
        have h5 : ¬ j - min i L.length < 0 + 1 + 1 := by omega
        simp only [h4, h5, if_false, show ¬ i = j by omega, show ¬ i + 1 = j by omega]
        congr 1
        omega

theorem ref_setByte (m fb n : Nat) (L : List UInt8) (f o : Int) (c : UInt8) (w : World) (h : RefAt w m fb n L) :
    Calls Try.prog 45 #[.pointer (some ⟨m, 0, none⟩), .int .i64 f, .int .i64 o, .int .u8 (c.toNat : Int)] w fun e w' =>
      (e = .returned (.int .i64 (if 0 ≤ f ∧ f < n ∧ 0 ≤ o ∧ o ≤ 31 then 0 else 2))) ∧
      RefAt w' m fb n (if 0 ≤ f ∧ f < n ∧ 0 ≤ o ∧ o ≤ 31 then L.set (32 * f.toNat + o.toNat) c else L) ∧ Upd [fb] w w' := by
  obtain ⟨cp, X, h⟩ := h
  have hc := h.cell
  have hn := h.hi
  by_cases hk : 0 ≤ f ∧ f < n ∧ 0 ≤ o ∧ o ≤ 31
  · rw [if_pos hk, if_pos hk]
    obtain ⟨f0, f1, o0, o1⟩ := hk
    have e1 : (f * 32 + o).toNat = 32 * f.toNat + o.toNat := by omega
    have hby := h.byte (i := (f * 32 + o).toNat) (by omega)
    have hfz := h.row.frozen (f * 32 + o).toNat
    have HF := Lib.hid (h.set_ (f * 32 + o).toNat c (by omega))
    have HE := Lib.hid e1
    have i1 : 0 ≤ f * 32 + o := by omega
    have i2 : f * 32 + o < ((32 * n : Nat) : Int) := by omega
    clear h e1
    go_enter Try.func45, Try.ntmps45
    go_wp2_with (go_at_call 34; refine (ref_may_ok m fb n _ _ _ _ _ hc hn (by omega) (by omega) (by omega) (by omega) (by omega) (by omega)).mono ?_; rintro e w' ⟨rfl, rfl⟩)
    go_ret
    exact ⟨by simp, ⟨cp, X, by rw [← HE.out]; exact HF.out⟩, (Upd.refl _ _).setCell (.inl (by simp)) _⟩
  · rw [if_neg hk, if_neg hk]
    have HF := Lib.hid h
    clear h
    go_enter Try.func45, Try.ntmps45
    go_wp2_with (go_at_call 34; refine (ref_may_bad m fb n _ _ _ _ _ hc hn (by omega) (by omega) (by omega)).mono ?_; rintro e w' ⟨rfl, rfl⟩)
    go_ret
    exact ⟨by simp, ⟨cp, X, HF.out⟩, Upd.refl _ _⟩

theorem ref_word (m fb n : Nat) (L : List UInt8) (f o : Int) (w : World) (h : RefAt w m fb n L) :
    Calls Try.prog 17 #[.pointer (some ⟨m, 0, none⟩), .int .i64 f, .int .i64 o] w fun e w' =>
      e = .returned (if 0 ≤ f ∧ f < n ∧ 0 ≤ o ∧ o ≤ 30 then .tuple #[.int .u16 ((L.getD (32 * f.toNat + o.toNat) 0).toNat * 256 + (L.getD (32 * f.toNat + o.toNat + 1) 0).toNat : Int), .int .i64 0] else .tuple #[.int .u16 0, .int .i64 2]) ∧ ∃ k, w' = w.drewN k := by
  obtain ⟨cp, X, h⟩ := h
  have hc := h.cell
  have hn := h.hi
  by_cases hk : 0 ≤ f ∧ f < n ∧ 0 ≤ o ∧ o ≤ 30
  · rw [if_pos hk]
    obtain ⟨f0, f1, o0, o1⟩ := hk
    have e1 : (f * 32 + o).toNat = 32 * f.toNat + o.toNat := by omega
    have e2 : (f * 32 + o + 1).toNat = 32 * f.toNat + o.toNat + 1 := by omega
    have hby := h.byte (i := (f * 32 + o).toNat) (by omega)
    have hby1 := h.byte (i := (f * 32 + o + 1).toNat) (by omega)
    rw [← e2, ← e1]
    have i1 : 0 ≤ f * 32 + o := by omega
    have i2 : f * 32 + o < ((32 * n : Nat) : Int) := by omega
    have i3 : f * 32 + o + 1 < ((32 * n : Nat) : Int) := by omega
    have i4 : 0 ≤ f * 32 + o + 1 := by omega
    have a0 : (0 : Int) ≤ (L.getD (f * 32 + o).toNat 0).toNat := by omega
    have a1 : ((L.getD (f * 32 + o).toNat 0).toNat : Int) < 256 := by have := (L.getD (f * 32 + o).toNat 0).toNat_lt; omega
    have b0 : (0 : Int) ≤ (L.getD (f * 32 + o + 1).toNat 0).toNat := by omega
    have b1 : ((L.getD (f * 32 + o + 1).toNat 0).toNat : Int) < 256 := by have := (L.getD (f * 32 + o + 1).toNat 0).toNat_lt; omega
    generalize ((L.getD (f * 32 + o).toNat 0).toNat : Int) = x at *
    generalize ((L.getD (f * 32 + o + 1).toNat 0).toNat : Int) = y at *
    clear h e1 e2
    go_enter Try.func17, Try.ntmps17
    go_wp2_with (go_at_call 34; refine (ref_may_ok m fb n _ _ _ _ _ hc hn (by omega) (by omega) (by omega) (by omega) (by omega) (by omega)).mono ?_; rintro e w' ⟨rfl, rfl⟩)
    go_quiet ((go_at_call 35; exact Calls.quiet_of_same ((refjoin_any x y _ a0 a1 b0 b1).mono fun e w' ⟨h1, h2⟩ => ⟨h1, h2.symm⟩)))
    go_wp2
    go_ret2
    exact ⟨by simp, _, rfl⟩
  · rw [if_neg hk]
    clear h
    go_enter Try.func17, Try.ntmps17
    go_wp2_with (go_at_call 34; refine (ref_may_bad m fb n _ _ _ _ _ hc hn (by omega) (by omega) (by omega)).mono ?_; rintro e w' ⟨rfl, rfl⟩)
    go_ret2
    exact ⟨by simp, 0, rfl⟩

theorem ref_setWord (m fb n : Nat) (L : List UInt8) (f o x : Int) (w : World) (h : RefAt w m fb n L) (x0 : 0 ≤ x) (x1 : x < 65536) :
    Calls Try.prog 44 #[.pointer (some ⟨m, 0, none⟩), .int .i64 f, .int .i64 o, .int .u16 x] w fun e w' =>
      (e = .returned (.int .i64 (if 0 ≤ f ∧ f < n ∧ 0 ≤ o ∧ o ≤ 30 then 0 else 2))) ∧
      RefAt w' m fb n (if 0 ≤ f ∧ f < n ∧ 0 ≤ o ∧ o ≤ 30 then putAt L (32 * f.toNat + o.toNat) [UInt8.ofNat (x / 256).toNat, UInt8.ofNat (x % 256).toNat] else L) ∧ Upd [fb] w w' := by
  obtain ⟨cp, X, h⟩ := h
  have hc := h.cell
  have hn := h.hi
  by_cases hk : 0 ≤ f ∧ f < n ∧ 0 ≤ o ∧ o ≤ 30
  · rw [if_pos hk, if_pos hk]
    obtain ⟨f0, f1, o0, o1⟩ := hk
    have hcb := refbytes_any x
    have HCB := Lib.hid hcb
    clear hcb
    have h2 := (h.alloc (.cells #[.int .u8 (x / 256), .int .u8 (x % 256)] 23)).alloc (.cells #[.int .u8 (x / 256), .int .u8 (x % 256)] 23)
    have hu := ((Upd.refl [fb] w).alloc (.cells #[.int .u8 (x / 256), .int .u8 (x % 256)] 23)).alloc (.cells #[.int .u8 (x / 256), .int .u8 (x % 256)] 23)
    have hnb := Blk.new (w.alloc (.cells #[.int .u8 (x / 256), .int .u8 (x % 256)] 23)) 23 #[.int .u8 (x / 256), .int .u8 (x % 256)]
    rw [show (w.alloc (.cells #[.int .u8 (x / 256), .int .u8 (x % 256)] 23)).heap.size = w.heap.size + 1 by simp] at hnb
    have HX := Lib.hid h2
    have HU := Lib.hid hu
    have HN := Lib.hid hnb
    clear h h2 hu hnb
    go_enter Try.func44, Try.ntmps44
    go_wp2_with (first | (go_at_call 34; refine (ref_may_ok m fb n _ _ _ _ _ hc hn (by omega) (by omega) (by omega) (by omega) (by omega) (by omega)).mono ?_; rintro e w' ⟨rfl, rfl⟩) | (go_at_call 49; refine (HCB.out _ x0 x1).mono ?_; rintro e w' ⟨rfl, rfl⟩))
    generalize ((w.alloc (.cells #[.int .u8 (x / 256), .int .u8 (x % 256)] 23)).alloc (.cells #[.int .u8 (x / 256), .int .u8 (x % 256)] 23)) = W2 at *
    generalize w.heap.size + 1 = N2 at *
    have hc2 := HX.out.cell
    have hn0 := HN.out.cellAt (i := 0) rfl
    have hn1 := HN.out.cellAt (i := 1) rfl
    have e1 : (f * 32 + o).toNat = 32 * f.toNat + o.toNat := by omega
    have e2 : (f * 32 + o + 1).toNat = 32 * f.toNat + o.toNat + 1 := by omega
    have hne : ¬ (f * 32 + o).toNat = (f * 32 + o + 1).toNat := by omega
    have hby := HX.out.byte (i := (f * 32 + o).toNat) (by omega)
    have hby1 := HX.out.byte (i := (f * 32 + o + 1).toNat) (by omega)
    have hf0 := HX.out.row.frozen (f * 32 + o).toNat
    have hf1 := HX.out.row.frozen (f * 32 + o + 1).toNat
    have hb1 : ¬ N2 = fb := HN.out.ne_ HX.out.row (by decide)
    have hb2 : ¬ m = fb := HX.out.obj.ne_ HX.out.row (by decide)
    have i1 : 0 ≤ f * 32 + o := by omega
    have i2 : f * 32 + o < ((32 * n : Nat) : Int) := by omega
    have i3 : f * 32 + o + 1 < ((32 * n : Nat) : Int) := by omega
    have i4 : 0 ≤ f * 32 + o + 1 := by omega
    clear e1 e2
    go_region
    all_goals go_wp2
    all_goals go_ret
    have E1 : (f * 32 + o).toNat = 32 * f.toNat + o.toNat := by omega
    have E2 : (f * 32 + o + 1).toNat = 32 * f.toNat + o.toNat + 1 := by omega
    have v0 : Value.int .u8 (x / 256) = .int .u8 ((UInt8.ofNat (x / 256).toNat).toNat : Int) := by congr 1; simp; omega
    have v1 : Value.int .u8 (x % 256) = .int .u8 ((UInt8.ofNat (x % 256).toNat).toNat : Int) := by congr 1; simp; omega
    refine ⟨by simp, ⟨cp, X, ?_⟩, ((HU.out.setCell (.inl (by simp)) _).setCell (.inl (by simp)) _).drew⟩
    rw [v0, v1, E1, E2]
    have := (HX.out.set_ (32 * f.toNat + o.toNat) (UInt8.ofNat (x / 256).toNat) (by omega)).set_ (32 * f.toNat + o.toNat + 1) (UInt8.ofNat (x % 256).toNat) (by omega)
    rw [putAt_two L _ _ _ (by have := HX.out.len; omega)]
    exact ⟨this.obj, this.row, this.len, this.lo, this.hi, this.cap⟩
  · rw [if_neg hk, if_neg hk]
    have HF := Lib.hid h
    clear h
    go_enter Try.func44, Try.ntmps44
    go_wp2_with (go_at_call 34; refine (ref_may_bad m fb n _ _ _ _ _ hc hn (by omega) (by omega) (by omega)).mono ?_; rintro e w' ⟨rfl, rfl⟩)
    go_ret
    exact ⟨by simp, ⟨cp, X, HF.out⟩, Upd.refl _ _⟩

end Go.Proofs.Ytmfokjifloafhaa
