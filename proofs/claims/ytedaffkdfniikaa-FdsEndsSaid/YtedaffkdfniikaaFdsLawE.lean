/- What nobody has any more is told once: printed by fds_ends.py. -/
import Derived.Test.YtedaffkdfniikaaFdsP
namespace Go.Proofs.Ytedaffkdfniikaa
open Go.RowKit Go.Shelf

/-- What the rounds keep: a opened, b told. -/
def EInv (w : World) (t a b : Nat) (wr : World) : Prop := ∃ S, PLive w t S wr ∧ Good S ∧ Small S ∧ a = b + useN S
theorem EInv.upd0 {w : World} {t a b : Nat} {W W' : World} (h : EInv w t a b W) (hu : Upd [] W W') : EInv w t a b W' := by
  obtain ⟨S, h1, h2⟩ := h
  exact ⟨S, h1.upd0 hu, h2⟩
theorem ebegin {w W : World} {t a b : Nat} (h : EInv w t a b W) (p : Int) : Calls Try.prog 11 #[.pointer (some ⟨t, 0, none⟩), .int .i64 p] W fun e w' => ∃ v, e = .returned (.int .i64 v) ∧ EInv w t a b w' := by
  obtain ⟨S, h1, h2, h3, h4⟩ := h
  exact (lbegin h1 h2 p).mono fun e w' d => ⟨_, d.1, _, d.2, good_beg h2 p, small_beg h3 p, by rw [use_beg]; exact h4⟩
theorem eend {w W : World} {t a b : Nat} (h : EInv w t a b W) (p : Int) : Calls Try.prog 12 #[.pointer (some ⟨t, 0, none⟩), .int .i64 p] W fun e w' => ∃ A n cap v, e = .returned (.tuple #[.slice A n cap, .int .i64 v]) ∧ EInv w t a (b + n) w' ∧ b + n ≤ a := by
  obtain ⟨S, h1, h2, h3, h4⟩ := h
  refine (lend h1 p).mono fun e w' ⟨A, cap, he, hp⟩ => ⟨A, _, cap, _, he, ⟨_, hp, good_fin h2 h3 p, small_fin h3 p, ?_⟩, ?_⟩
  · have := use_fin h2 p; omega
  · have := use_fin h2 p; omega
theorem efork {w W : World} {t a b : Nat} (h : EInv w t a b W) (p q : Int) : Calls Try.prog 13 #[.pointer (some ⟨t, 0, none⟩), .int .i64 p, .int .i64 q] W fun e w' => ∃ v, e = .returned (.int .i64 v) ∧ EInv w t a b w' := by
  obtain ⟨S, h1, h2, h3, h4⟩ := h
  exact (lfork h1 h2 p q).mono fun e w' d => ⟨_, d.1, _, d.2, good_frk h2 p q, small_frk h3 p q, by rw [use_frk h2]; exact h4⟩
theorem eopen {w W : World} {t a b : Nat} (h : EInv w t a b W) (p : Int) (o : Op) (ho : o.k < 256) : Calls Try.prog 14 #[.pointer (some ⟨t, 0, none⟩), .int .i64 p, .agg #[.int .u8 o.k, .int .i64 o.r, .int .i64 o.p]] W fun e w' => ∃ v x, e = .returned (.tuple #[.int .i64 v, .int .i64 x]) ∧ EInv w t (if x = 0 then a + 1 else a) b w' := by
  obtain ⟨S, h1, h2, h3, h4⟩ := h
  refine (lopen h1 h2 p o ho).mono fun e w' d => ⟨_, _, d.1, _, d.2, good_opn h2 p o ho, small_opn h3 p o, ?_⟩
  rw [use_opn h2]
  split <;> omega
theorem edup {w W : World} {t a b : Nat} (h : EInv w t a b W) (p k : Int) : Calls Try.prog 15 #[.pointer (some ⟨t, 0, none⟩), .int .i64 p, .int .i64 k] W fun e w' => ∃ v x, e = .returned (.tuple #[.int .i64 v, .int .i64 x]) ∧ EInv w t a b w' := by
  obtain ⟨S, h1, h2, h3, h4⟩ := h
  exact (ldup h1 p k).mono fun e w' d => ⟨_, _, d.1, _, d.2, good_dup h2 p k, small_dup h3 p k, by rw [use_dup]; exact h4⟩
theorem eclose {w W : World} {t a b : Nat} (h : EInv w t a b W) (p k : Int) : Calls Try.prog 16 #[.pointer (some ⟨t, 0, none⟩), .int .i64 p, .int .i64 k] W fun e w' => ∃ (u : Op) (l : Bool) (v : Int), e = .returned (.tuple #[.agg #[.int .u8 u.k, .int .i64 u.r, .int .i64 u.p], .bool l, .int .i64 v]) ∧ EInv w t a (if l = true then b + 1 else b) w' ∧ (l = true → b + 1 ≤ a) := by
  obtain ⟨S, h1, h2, h3, h4⟩ := h
  have hu := use_clo h2 p k
  refine (lclose h1 p k).mono fun e w' d => ⟨getO S p k, cloL S p k, _, d.1, ⟨_, d.2, good_clo h2 p k, small_clo h3 p k, ?_⟩, ?_⟩
  · by_cases hl : cloL S p k = true
    · rw [if_pos hl] at hu ⊢; omega
    · rw [if_neg hl] at hu ⊢; omega
  · intro hl; rw [if_pos hl] at hu; omega
/-- The last rounds: those below q have ended. -/
def EFin (w : World) (t a b q : Nat) (wr : World) : Prop := ∃ S, PLive w t S wr ∧ Good S ∧ Small S ∧ a = b + useN S ∧ ∀ i, i < q → S.has i = false
theorem efin {w W : World} {t a b q : Nat} (h : EFin w t a b q W) (hq : q < 6) : Calls Try.prog 12 #[.pointer (some ⟨t, 0, none⟩), .int .i64 (q : Int)] W fun e w' => ∃ A n cap v, e = .returned (.tuple #[.slice A n cap, .int .i64 v]) ∧ EFin w t a (b + n) (q + 1) w' ∧ b + n ≤ a := by
  obtain ⟨S, h1, h2, h3, h4, h5⟩ := h
  obtain ⟨k1, k2⟩ := fin_has (S := S) q hq
  refine (lend h1 (q : Int)).mono fun e w' ⟨A, cap, he, hp⟩ => ⟨A, _, cap, _, he, ⟨_, hp, good_fin h2 h3 _, small_fin h3 _, ?_, fun i hi => ?_⟩, ?_⟩
  · have := use_fin h2 (q : Int); omega
  · by_cases hiq : i = q
    · rw [hiq]; exact k1
    · exact k2 i (h5 i (by omega))
  · have := use_fin h2 (q : Int); omega
theorem EFin.done {w W : World} {t a b : Nat} (h : EFin w t a b 6 W) : a = b ∧ Upd [] w W := by
  obtain ⟨S, h1, h2, h3, h4, h5⟩ := h
  rw [use_none (fun i k hi _ => h2.z i k (h5 i hi)), Nat.add_zero] at h4
  exact ⟨h4, h1.upd⟩

set_option maxRecDepth 100000 in
set_option maxHeartbeats 8000000 in
theorem ends_any (A : Option Addr) (len cap : Nat) (w : World) (hd : Deeds w A len) (hlen : len ≤ 9223372036854775807) :
    Calls Try.prog 3 #[.slice A len cap] w (TruePost w) := by
  have HD := Lib.hid hd
  clear hd
  go_enter Try.func3, Try.ntmps3
  go_wp2_with fail
  refine (lnew w).mono ?_; rintro e w1 ⟨t, rfl, h1⟩
  have P1 := Lib.hid h1
  clear h1
  go_wp2_with fail
  refine (live_any _).mono ?_; rintro e w2 ⟨rfl, hu⟩
  have P2 := Lib.hid (P1.out.upd0 hu)
  clear hu
  go_wp2_with fail
  have HB := Lib.hid (lbegin P2.out good_new 0)
  rw [show frE newS 0 = 0 by decide] at HB
  refine HB.out.mono ?_; rintro e w3 ⟨rfl, h3⟩
  have P3 : Hid (EInv w t 0 0 w3) := Lib.hid ⟨_, h3, good_beg good_new 0, small_beg small_new 0, by rw [use_beg, use_new]⟩
  clear h3
  go_wp2_with fail
  go_loopw [4, 5, 6] (fun va vb v wr => ∃ j a b : Nat, j ≤ len ∧ j ≤ 50 ∧ v = .int .i64 (j : Int) ∧ va = .int .i64 (a : Int) ∧ vb = .int .i64 (b : Int) ∧ a ≤ j ∧ b ≤ a ∧ EInv w t a b wr) (fun _ _ v _ => len - (intOf v).toNat)
  case atStart => exact ⟨0, 0, 0, by omega, by omega, rfl, rfl, rfl, by omega, by omega, P3.out⟩
  case round =>
    obtain ⟨j, a, b, hj, hj50, rfl, rfl, rfl, haj, hba, he⟩ := hrel
    have HE := Lib.hid he
    clear he
    by_cases hlt : j < len ∧ j < 50
    · obtain ⟨l1, l2⟩ := hlt
      obtain ⟨g, off, rfl, hc⟩ := HD.out (by omega)
      obtain ⟨cs, ⟨K, P, Q, N, o, rfl, ho⟩, hra0⟩ := hc j l1
      have hra : wr.rangeAt g (off + j * 7) (deedCs K P Q N o) := fun i v hi => by
        obtain ⟨S, h1, _⟩ := HE.out
        exact h1.upd.lt_old (hra0 i v hi)
      have i0 : (0 : Int) ≤ (j : Int) := by omega
      have i1 : (j : Int) < (len : Int) := by omega
      have i2 : (j : Int) < 50 := by omega
      have HO := Lib.hid ho
      have hb0 := Blk.new wr 32 #[.int .i64 K, .int .i64 P, .int .i64 Q, .int .i64 N, .int .u8 o.k, .int .i64 o.r, .int .i64 o.p]
      have HU0 : Hid (Upd [] wr (wr.alloc (.cells #[.int .i64 K, .int .i64 P, .int .i64 Q, .int .i64 N, .int .u8 o.k, .int .i64 o.r, .int .i64 o.p] 32))) := Lib.hid ((Upd.refl [] wr).alloc _)
      have HE0 : Hid (EInv w t a b (wr.alloc (.cells #[.int .i64 K, .int .i64 P, .int .i64 Q, .int .i64 N, .int .u8 o.k, .int .i64 o.r, .int .i64 o.p] 32))) := Lib.hid (HE.out.upd0 HU0.out)
      clear hra0 hc ho
      by_cases hK : K = 0
      · subst hK
        have c0 := hb0.cellAt (i := 0) (v := .int .i64 0) rfl
        have c1 := hb0.cellAt (i := 1) (v := .int .i64 P) rfl
        unfold deedCs at hra
        clear hb0
        go_wp2_with (refine wpList_load_midg rfl 32 _ rfl g (off + j * 7) rfl _ _ hra under_deed rfl info_deed ?_)
        refine (ebegin HE0.out P).mono ?_; rintro e w4 ⟨v, rfl, h4⟩
        have HE4 := Lib.hid h4
        clear h4
        go_wp2_with fail
        go_roundw
        case rel => exact ⟨j + 1, a, b, by omega, by omega, by go_num, by go_num, by go_num, by omega, by omega, HE4.out⟩
        case measure => simp [intOf]; omega
      have k0 : (K == 0) = false := by simp [hK]
      clear hK
      by_cases hK : K = 1
      · subst hK
        have c0 := hb0.cellAt (i := 0) (v := .int .i64 1) rfl
        have c1 := hb0.cellAt (i := 1) (v := .int .i64 P) rfl
        unfold deedCs at hra
        clear hb0
        go_wp2_with (refine wpList_load_midg rfl 32 _ rfl g (off + j * 7) rfl _ _ hra under_deed rfl info_deed ?_)
        refine (eend HE0.out P).mono ?_; rintro e w4 ⟨A4, n4, cap4, v4, rfl, h4, hle4⟩
        have HE4 := Lib.hid h4
        clear h4
        go_wp2_with fail
        go_roundw
        case rel => exact ⟨j + 1, a, b + n4, by omega, by omega, by go_num, by go_num, by go_num, by omega, by omega, HE4.out⟩
        case measure => simp [intOf]; omega
      have k1 : (K == 1) = false := by simp [hK]
      clear hK
      by_cases hK : K = 2
      · subst hK
        have c0 := hb0.cellAt (i := 0) (v := .int .i64 2) rfl
        have c1 := hb0.cellAt (i := 1) (v := .int .i64 P) rfl
        have c2 := hb0.cellAt (i := 2) (v := .int .i64 Q) rfl
        unfold deedCs at hra
        clear hb0
        go_wp2_with (refine wpList_load_midg rfl 32 _ rfl g (off + j * 7) rfl _ _ hra under_deed rfl info_deed ?_)
        refine (efork HE0.out P Q).mono ?_; rintro e w4 ⟨v, rfl, h4⟩
        have HE4 := Lib.hid h4
        clear h4
        go_wp2_with fail
        go_roundw
        case rel => exact ⟨j + 1, a, b, by omega, by omega, by go_num, by go_num, by go_num, by omega, by omega, HE4.out⟩
        case measure => simp [intOf]; omega
      have k2 : (K == 2) = false := by simp [hK]
      clear hK
      by_cases hK : K = 3
      · subst hK
        have c0 := hb0.cellAt (i := 0) (v := .int .i64 3) rfl
        have c1 := hb0.cellAt (i := 1) (v := .int .i64 P) rfl
        have c4 := hb0.cellAt (i := 4) (v := .int .u8 o.k) rfl
        have c5 := hb0.cellAt (i := 5) (v := .int .i64 o.r) rfl
        have c6 := hb0.cellAt (i := 6) (v := .int .i64 o.p) rfl
        unfold deedCs at hra
        clear hb0
        go_wp2_with (refine wpList_load_midg rfl 32 _ rfl g (off + j * 7) rfl _ _ hra under_deed rfl info_deed ?_)
        refine (eopen HE0.out P o HO.out).mono ?_; rintro e w4 ⟨v, x, rfl, h4⟩
        by_cases hx : x = 0
        · rw [if_pos hx] at h4
          subst hx
          have HE4 := Lib.hid h4
          clear h4
          go_wp2_with fail
          go_roundw
          case rel => exact ⟨j + 1, a + 1, b, by omega, by omega, by go_num, by go_num, by go_num, by omega, by omega, HE4.out⟩
          case measure => simp [intOf]; omega
        · rw [if_neg hx] at h4
          have hxb : (x == 0) = false := by simp [hx]
          have HE4 := Lib.hid h4
          clear h4 hx
          go_wp2_with fail
          go_roundw
          case rel => exact ⟨j + 1, a, b, by omega, by omega, by go_num, by go_num, by go_num, by omega, by omega, HE4.out⟩
          case measure => simp [intOf]; omega
      have k3 : (K == 3) = false := by simp [hK]
      clear hK
      by_cases hK : K = 4
      · subst hK
        have c0 := hb0.cellAt (i := 0) (v := .int .i64 4) rfl
        have c1 := hb0.cellAt (i := 1) (v := .int .i64 P) rfl
        have c3 := hb0.cellAt (i := 3) (v := .int .i64 N) rfl
        unfold deedCs at hra
        clear hb0
        go_wp2_with (refine wpList_load_midg rfl 32 _ rfl g (off + j * 7) rfl _ _ hra under_deed rfl info_deed ?_)
        refine (edup HE0.out P N).mono ?_; rintro e w4 ⟨v, x, rfl, h4⟩
        have HE4 := Lib.hid h4
        clear h4
        go_wp2_with fail
        go_roundw
        case rel => exact ⟨j + 1, a, b, by omega, by omega, by go_num, by go_num, by go_num, by omega, by omega, HE4.out⟩
        case measure => simp [intOf]; omega
      have k4 : (K == 4) = false := by simp [hK]
      clear hK
      by_cases hK : K = 5
      · subst hK
        have c0 := hb0.cellAt (i := 0) (v := .int .i64 5) rfl
        have c1 := hb0.cellAt (i := 1) (v := .int .i64 P) rfl
        have c3 := hb0.cellAt (i := 3) (v := .int .i64 N) rfl
        unfold deedCs at hra
        clear hb0
        go_wp2_with (refine wpList_load_midg rfl 32 _ rfl g (off + j * 7) rfl _ _ hra under_deed rfl info_deed ?_)
        refine (eclose HE0.out P N).mono ?_; rintro e w4 ⟨u, l, v, rfl, h4, hle4⟩
        have HE4 := Lib.hid (h4.upd0 ((Upd.refl [] w4).alloc (.cells #[.int .u8 u.k, .int .i64 u.r, .int .i64 u.p] 30)))
        clear h4
        cases l
        · have HE5 := Lib.hid HE4.out
          simp only [Bool.false_eq_true, if_false] at HE5
          go_wp2_with fail
          go_roundw
          case rel => exact ⟨j + 1, a, b, by omega, by omega, by go_num, by go_num, by go_num, by omega, by omega, HE5.out⟩
          case measure => simp [intOf]; omega
        · have HE5 := Lib.hid HE4.out
          simp only [if_true] at HE5
          have hle5 := hle4 rfl
          clear hle4
          go_wp2_with fail
          go_roundw
          case rel => exact ⟨j + 1, a, b + 1, by omega, by omega, by go_num, by go_num, by go_num, by omega, by omega, HE5.out⟩
          case measure => simp [intOf]; omega
      have k5 : (K == 5) = false := by simp [hK]
      clear hK
      have c0 := hb0.cellAt (i := 0) (v := .int .i64 K) rfl
      unfold deedCs at hra
      clear hb0
      go_wp2_with (refine wpList_load_midg rfl 32 _ rfl g (off + j * 7) rfl _ _ hra under_deed rfl info_deed ?_)
      go_roundw
      case rel => exact ⟨j + 1, a, b, by omega, by omega, by go_num, by go_num, by go_num, by omega, by omega, HE0.out⟩
      case measure => simp [intOf]; omega
    · have HF : Hid (EFin w t a b 0 wr) := Lib.hid (by
        obtain ⟨S, h1, h2, h3, h4⟩ := HE.out
        exact ⟨S, h1, h2, h3, h4, fun i hi => by omega⟩)
      by_cases hl2 : (j : Int) < (len : Int)
      · have i2 : ¬ (j : Int) < 50 := by omega
        go_wp2_with fail
        go_loopw [5, 15] (fun vb v wr => ∃ q b' : Nat, q ≤ 6 ∧ v = .int .i64 (q : Int) ∧ vb = .int .i64 (b' : Int) ∧ b' ≤ a ∧ EFin w t a b' q wr) (fun _ v _ => 6 - (intOf v).toNat)
        case atStart => exact ⟨0, b, by omega, rfl, rfl, hba, HF.out⟩
        case round =>
          obtain ⟨q, b', hq, rfl, rfl, hb', hf⟩ := hrel
          have HF2 := Lib.hid hf
          clear hf
          by_cases hq6 : q < 6
          · have q0 : (0 : Int) ≤ (q : Int) := by omega
            have q1 : (q : Int) < 6 := by omega
            go_wp2_with fail
            refine (efin HF2.out hq6).mono ?_; rintro e w4 ⟨A4, n4, cap4, v4, rfl, h4, hle4⟩
            have HF4 := Lib.hid h4
            clear h4
            go_wp2_with fail
            go_roundw
            case rel => exact ⟨q + 1, b' + n4, by omega, by go_num, by go_num, hle4, HF4.out⟩
            case measure => simp [intOf]; omega
          · obtain rfl : q = 6 := by omega
            obtain ⟨hab, hu⟩ := HF2.out.done
            have HU := Lib.hid hu
            subst hab
            clear hu
            go_wp2_with fail
            go_ret
            exact ⟨by simp, HU.out⟩
      · go_wp2_with fail
        go_loopw [5, 15] (fun vb v wr => ∃ q b' : Nat, q ≤ 6 ∧ v = .int .i64 (q : Int) ∧ vb = .int .i64 (b' : Int) ∧ b' ≤ a ∧ EFin w t a b' q wr) (fun _ v _ => 6 - (intOf v).toNat)
        case atStart => exact ⟨0, b, by omega, rfl, rfl, hba, HF.out⟩
        case round =>
          obtain ⟨q, b', hq, rfl, rfl, hb', hf⟩ := hrel
          have HF2 := Lib.hid hf
          clear hf
          by_cases hq6 : q < 6
          · have q0 : (0 : Int) ≤ (q : Int) := by omega
            have q1 : (q : Int) < 6 := by omega
            go_wp2_with fail
            refine (efin HF2.out hq6).mono ?_; rintro e w4 ⟨A4, n4, cap4, v4, rfl, h4, hle4⟩
            have HF4 := Lib.hid h4
            clear h4
            go_wp2_with fail
            go_roundw
            case rel => exact ⟨q + 1, b' + n4, by omega, by go_num, by go_num, hle4, HF4.out⟩
            case measure => simp [intOf]; omega
          · obtain rfl : q = 6 := by omega
            obtain ⟨hab, hu⟩ := HF2.out.done
            have HU := Lib.hid hu
            subst hab
            clear hu
            go_wp2_with fail
            go_ret
            exact ⟨by simp, HU.out⟩

end Go.Proofs.Ytedaffkdfniikaa
