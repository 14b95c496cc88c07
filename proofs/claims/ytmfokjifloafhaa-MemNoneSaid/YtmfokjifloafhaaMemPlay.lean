/- Deeds on both memories, one behind the other (play): both hold the same bytes behind them. -/
import Derived.Test.YtmfokjifloafhaaMemDo
namespace Go.Proofs.Ytmfokjifloafhaa
open Go.RowKit

set_option maxRecDepth 100000 in
set_option maxHeartbeats 2000000 in
theorem do_else (m fb r rb n : Nat) (L : List UInt8) (w : World) (h : Both w m fb r rb n L) (kind f o x : Int) (A : Option Addr) (k c : Nat) (hk : kind ≠ 0 ∧ kind ≠ 1 ∧ kind ≠ 2 ∧ kind ≠ 3 ∧ kind ≠ 4) :
    Calls Try.prog 28 #[.pointer (some ⟨m, 0, none⟩), .pointer (some ⟨r, 0, none⟩), .agg #[.int .i64 kind, .int .i64 f, .int .i64 o, .int .u16 x, .slice A k c]] w (DoPost m fb r rb n w) := by
  have HB := Lib.hid h
  clear h
  obtain ⟨k0, k1, k2, k3, k4⟩ := hk
  have b0 : (kind == 0) = false := by rw [beq_eq_false_iff_ne]; exact k0
  have b1 : (kind == 1) = false := by rw [beq_eq_false_iff_ne]; exact k1
  have b2 : (kind == 2) = false := by rw [beq_eq_false_iff_ne]; exact k2
  have b3 : (kind == 3) = false := by rw [beq_eq_false_iff_ne]; exact k3
  have b4 : (kind == 4) = false := by rw [beq_eq_false_iff_ne]; exact k4
  clear k0 k1 k2 k3 k4
  go_enter Try.func28, Try.ntmps28
  go_wp2_with fail
  go_ret
  exact ⟨by simp, ⟨L, HB.out.upd (S := []) ((Upd.refl [] w).alloc _) (by simp) (by simp) (by simp) (by simp)⟩, (Upd.refl [fb, rb] w).alloc _⟩

/-- The cells of a deed. -/
def DeedOk (w : World) (cs : List Value) : Prop :=
  ∃ (kind f o x : Int) (A : Option Addr) (c : Nat) (bs : List UInt8), cs = [.int .i64 kind, .int .i64 f, .int .i64 o, .int .u16 x, .slice A bs.length c] ∧ 0 ≤ x ∧ x < 65536 ∧ bs.length ≤ c ∧ RdB w A bs

theorem RdB.lt {w : World} {A : Option Addr} {cs : List UInt8} (h : RdB w A cs) (hk : 0 < cs.length) : ∀ b o, A = some ⟨b, o, none⟩ → b < w.heap.size := by
  intro b o he
  obtain ⟨b', o', h1, h2⟩ := h hk
  rw [h1] at he
  injection he with he
  injection he with hb _ _
  subst hb
  exact World.block_lt_of_cell? w ⟨b', o' + 0, none⟩ (h2 0 cs[0] (List.getElem?_eq_getElem hk))

theorem DeedOk.upd {w w' : World} {cs : List Value} (h : DeedOk w cs) (hu : Upd [] w w') : DeedOk w' cs := by
  obtain ⟨kind, f, o, x, A, c, bs, h1, h2, h3, h4, h5⟩ := h
  exact ⟨kind, f, o, x, A, c, bs, h1, h2, h3, h4, h5.upd hu (fun _ _ _ _ => by simp)⟩

/-- A deed whose bytes lie in old blocks, on two memories that are newer. -/
theorem do_any (m fb r rb n : Nat) (L : List UInt8) (w0 w : World) (h : Both w m fb r rb n L) (cs : List Value) (hd : DeedOk w0 cs) (hu : Upd [] w0 w) (hfb : w0.heap.size ≤ fb) (hrb : w0.heap.size ≤ rb) :
    Calls Try.prog 28 #[.pointer (some ⟨m, 0, none⟩), .pointer (some ⟨r, 0, none⟩), .agg cs.toArray] w (DoPost m fb r rb n w) := by
  have hd2 := hd.upd hu
  obtain ⟨kind, f, o, x, A, c, bs, rfl, x0, x1, hc, hr0⟩ := hd
  obtain ⟨_, _, _, _, _, _, bs', he, _, _, _, hr'⟩ := hd2
  have hr : RdB w A bs := hr0.upd hu (fun _ _ _ _ => by simp)
  have hA : 0 < bs.length → ∀ b o, A = some ⟨b, o, none⟩ → b ≠ fb ∧ b ≠ rb := fun hk b o he => by
    have := hr0.lt hk b o he
    omega
  by_cases k0 : kind = 0
  · subst k0; exact do_0 m fb r rb n L w h f o x A bs.length c x0 x1
  by_cases k1 : kind = 1
  · subst k1; exact do_1 m fb r rb n L w h f o x A bs.length c x0 x1
  by_cases k2 : kind = 2
  · subst k2; exact do_2 m fb r rb n L w h f o x A bs.length c x0 x1
  by_cases k3 : kind = 3
  · subst k3; exact do_3 m fb r rb n L w h f o x A bs.length c x0 x1
  by_cases k4 : kind = 4
  · subst k4; exact do_4 m fb r rb n L w h f o x A bs.length c x0 x1 bs rfl hc hr hA
  · exact do_else m fb r rb n L w h kind f o x A bs.length c ⟨k0, k1, k2, k3, k4⟩

/-- n deeds from an address on. -/
def Deeds (w : World) (A : Option Addr) (n : Nat) : Prop :=
  0 < n → ∃ b o, A = some ⟨b, o, none⟩ ∧ ∀ i, i < n → ∃ cs, DeedOk w cs ∧ w.rangeAt b (o + i * 5) cs
theorem Deeds.upd {w w' : World} {A : Option Addr} {n : Nat} (h : Deeds w A n) (hu : Upd [] w w') : Deeds w' A n := by
  intro hn
  obtain ⟨b, o, rfl, hc⟩ := h hn
  refine ⟨b, o, rfl, fun i hi => ?_⟩
  obtain ⟨cs, h1, h2⟩ := hc i hi
  exact ⟨cs, h1.upd hu, fun j v hj => hu.lt_old (h2 j v hj)⟩
theorem DeedOk.length {w : World} {cs : List Value} (h : DeedOk w cs) : cs.length = 5 := by
  obtain ⟨kind, f, o, x, A, c, bs, rfl, _⟩ := h
  rfl

theorem mem_new_ok (k : Nat) (h1 : 1 ≤ k) (h2 : k ≤ 64) (w : World) :
    Calls Try.prog 30 #[.int .i64 (k : Int)] w fun e w' =>
      ∃ m fb, e = .returned (.pointer (some ⟨m, 0, none⟩)) ∧ MemAt w' m fb k (List.replicate (32 * k) 0) ∧ Upd [] w w' ∧ w.heap.size ≤ m ∧ w.heap.size ≤ fb := by
  have := mem_new k w
  simp only [if_neg (show ¬ ((k : Int) < 1 ∨ 64 < (k : Int)) by omega), Int.toNat_natCast] at this
  exact this
theorem ref_new_ok (k : Nat) (h1 : 1 ≤ k) (h2 : k ≤ 64) (w : World) :
    Calls Try.prog 31 #[.int .i64 (k : Int)] w fun e w' =>
      ∃ m fb, e = .returned (.pointer (some ⟨m, 0, none⟩)) ∧ RefAt w' m fb k (List.replicate (32 * k) 0) ∧ Upd [] w w' ∧ w.heap.size ≤ m ∧ w.heap.size ≤ fb := by
  have := ref_new k w
  simp only [if_neg (show ¬ ((k : Int) < 1 ∨ 64 < (k : Int)) by omega), Int.toNat_natCast] at this
  exact this

def PlayPost (w : World) (n : Nat) (e : Ending) (w' : World) : Prop :=
  ∃ m fb r rb L, e = .returned (.tuple #[.pointer (some ⟨m, 0, none⟩), .pointer (some ⟨r, 0, none⟩), .bool true]) ∧ Both w' m fb r rb n L ∧ Upd [] w w' ∧ w.heap.size ≤ m ∧ w.heap.size ≤ fb ∧ w.heap.size ≤ r ∧ w.heap.size ≤ rb

theorem under_deed : Try.prog.underlying 44 = some (.struct (Try.prog.fieldsOf 44)) := by kernel_rfl
theorem info_deed : (Try.prog.info? 44).map (·.size) = some 5 := by kernel_rfl

set_option maxRecDepth 100000 in
set_option maxHeartbeats 2000000 in
theorem play_any (u : Nat) (hu8 : u < 256) (A : Option Addr) (len cap : Nat) (w : World) (hd : Deeds w A len) (hlen : len ≤ 9223372036854775807) :
    Calls Try.prog 10 #[.int .u8 (u : Int), .slice A len cap] w (PlayPost w (u % 6 + 1)) := by
  have HD := Lib.hid hd
  have hw6 : ((u : Int) % 6 + 1) = ((u % 6 + 1 : Nat) : Int) := by omega
  have k1 : 1 ≤ u % 6 + 1 := by omega
  have k2 : u % 6 + 1 ≤ 64 := by omega
  have HM := Lib.hid (mem_new_ok (u % 6 + 1) k1 k2)
  have HR := Lib.hid (ref_new_ok (u % 6 + 1) k1 k2)
  generalize u % 6 + 1 = N at *
  have HW := Lib.hid hw6
  clear hd hw6
  go_enter Try.func10, Try.ntmps10
  go_wp2_with fail
  rw [HW.out]
  refine (HM.out _).mono ?_; rintro e w1 ⟨m, fb, rfl, hm, hu1, hm1, hfb1⟩
  have HM1 := Lib.hid hm
  have HU1 := Lib.hid hu1
  clear hm hu1
  go_wp2_with fail
  refine (HR.out _).mono ?_; rintro e w2 ⟨r, rb, rfl, hr, hu2, hr1, hrb1⟩
  have HB2 : Hid (Both w2 m fb r rb N (List.replicate (32 * N) 0)) := ⟨HM1.out.upd hu2 (by simp) (by simp), hr⟩
  have HU2 := Lib.hid (HU1.out.trans0 hu2)
  have s1 := HU1.out.size
  have s2 := hu2.size
  clear hr hu2
  go_wp2_with fail
  go_loopw [10] (fun v wr => ∃ j : Nat, j ≤ len ∧ j ≤ 30 ∧ v = .int .i64 (j : Int) ∧ (∃ L, Both wr m fb r rb N L) ∧ Upd [] w wr) (fun v _ => len - (intOf v).toNat)
  case atStart => exact ⟨0, by omega, by omega, rfl, ⟨_, HB2.out⟩, HU2.out⟩
  case round =>
    obtain ⟨j, hj, hj30, rfl, ⟨L, hb⟩, hu⟩ := hrel
    by_cases hlt : j < len ∧ j < 30
    · obtain ⟨l1, l2⟩ := hlt
      obtain ⟨b, o, rfl, hc⟩ := HD.out (by omega)
      obtain ⟨cs, hdk, hra0⟩ := hc j l1
      have hra : wr.rangeAt b (o + j * 5) cs := fun i v hi => hu.lt_old (hra0 i v hi)
      have HK := Lib.hid hdk
      have HSZ := Lib.hid (show (Try.prog.info? 44).map (·.size) = some cs.length by rw [hdk.length]; exact info_deed)
      have HB := Lib.hid hb
      have HU := Lib.hid hu
      have i0 : (0 : Int) ≤ (j : Int) := by omega
      have i1 : (j : Int) < (len : Int) := by omega
      clear hra0 hdk hb hu hc
      go_wp2_with (refine wpList_load_midg rfl 44 _ rfl b (o + j * 5) rfl _ _ hra under_deed rfl HSZ.out ?_)
      refine (do_any m fb r rb N L w _ HB.out cs HK.out HU.out (by omega) (by omega)).mono ?_
      rintro e w3 ⟨rfl, hb3, hu3⟩
      have hu4 := HU.out.trans hu3 (fun s hs => .inr (by simp at hs; omega))
      have HB3 := Lib.hid hb3
      have HU4 := Lib.hid hu4
      clear hb3 hu3 hu4
      go_wp2_with fail
      go_roundw
      case rel => exact ⟨j + 1, by omega, by omega, by go_num, HB3.out, HU4.out⟩
      case measure => simp [intOf]; omega
    · have HB := Lib.hid hb
      have HU := Lib.hid hu
      clear hb hu
      have hge : ¬ ((j : Int) < (len : Int)) ∨ ¬ ((j : Int) < 30) := by omega
      clear hlt
      rcases hge with hge | hge
      · go_wp2_with fail
        all_goals (first | (go_ret3; exact ⟨m, fb, r, rb, L, by simp, HB.out, HU.out, by omega, by omega, by omega, by omega⟩) | (exfalso; omega))
      · by_cases hl2 : (j : Int) < (len : Int)
        · go_wp2_with fail
          all_goals (first | (go_ret3; exact ⟨m, fb, r, rb, L, by simp, HB.out, HU.out, by omega, by omega, by omega, by omega⟩) | (exfalso; omega))
        · go_wp2_with fail
          all_goals (first | (go_ret3; exact ⟨m, fb, r, rb, L, by simp, HB.out, HU.out, by omega, by omega, by omega, by omega⟩) | (exfalso; omega))

end Go.Proofs.Ytmfokjifloafhaa
