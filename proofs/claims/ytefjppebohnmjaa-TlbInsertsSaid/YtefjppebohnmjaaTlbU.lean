/- live and play. -/
import Derived.Test.YtefjppebohnmjaaTlbT
import Derived.Test.YtefjppebohnmjaaTlbP
namespace Go.Proofs.Ytefjppebohnmjaa
open Go.RowKit Go.Shelf

def m19 : Mp := ⟨1, 1, 9, false⟩
theorem Half.start {w1 : World} {B t r : Nat} (h1 : At TlbT w1 t [] []) (h2 : At RefT w1 r [] []) (ht : B ≤ t) (hr : B ≤ r) : Both w1 B t r [] :=
  ⟨⟨[], [], h1, h2, by simp, ht, hr, by simp, by simp⟩, good_nil⟩

set_option maxRecDepth 100000 in
set_option maxHeartbeats 2000000 in
theorem live_any (w : World) :
    Calls Try.prog 11 #[] w fun e w' => e = .returned (.bool true) ∧ Upd [] w w' := by
  have HI : Hid (∀ t W, At TlbT W t [] [] → Calls Try.prog 21 #[.pointer (some ⟨t, 0, none⟩), .agg #[.int .u8 1, .int .u8 1, .int .u8 9, .bool false]] W (Chg TlbT t [] W (.tuple #[.agg (encM mz).toArray, .bool false, .int .i64 0]) [m19])) := Lib.hid (fun t W hW => ins_any t [] [] W hW m19)
  have HT1 : Hid (∀ t own W, At TlbT W t own [m19] → Calls Try.prog 14 #[.pointer (some ⟨t, 0, none⟩), .int .u8 1, .int .u16 37, .bool false] W fun e w' => e = .returned (.tuple #[.int .i64 9, .int .i64 5, .int .i64 0]) ∧ Upd [] W w') := Lib.hid (fun t own W hW => trans_any t own [m19] W hW 1 37 false (by omega) (by decide))
  have HT2 : Hid (∀ t own W, At TlbT W t own [m19] → Calls Try.prog 14 #[.pointer (some ⟨t, 0, none⟩), .int .u8 1, .int .u16 37, .bool true] W fun e w' => e = .returned (.tuple #[.int .i64 0, .int .i64 0, .int .i64 10]) ∧ Upd [] W w') := Lib.hid (fun t own W hW => trans_any t own [m19] W hW 1 37 true (by omega) (by decide))
  go_enter Try.func11, Try.ntmps11
  go_wp2_with fail
  refine (new_any w).mono ?_; rintro e w1 ⟨rfl, h1, hu1⟩
  have H1 := Lib.hid h1
  have HU1 := Lib.hid hu1
  clear h1 hu1
  go_wp2_with fail
  refine (HI.out _ _ H1.out).mono ?_; rintro e w2 ⟨own, rfl, h2, _, hu2⟩
  have H2 := Lib.hid h2
  have HU2 := Lib.hid (HU1.out.trans hu2 (by intro s hs; simp at hs; right; omega))
  have hlt2 := h2.lt
  clear h2 hu2
  go_wp2_with (refine wpList_store_map rfl _ _ rfl w2.heap.size mz mz rfl rfl (Blk.new w2 24 (encM mz).toArray) ?_; intro w3 hb3 hu3; have HU3 := Lib.hid (((Upd.refl [] w2).alloc _).trans hu3 (by intro s hs; simp at hs; right; omega)); clear hb3 hu3)
  refine (HT1.out _ own _ (H2.out.upd0 HU3.out)).mono ?_; rintro e w4 ⟨rfl, hu4⟩
  have HU4 := Lib.hid hu4
  clear hu4
  go_wp2_with fail
  refine (HT2.out _ own _ ((H2.out.upd0 HU3.out).upd0 HU4.out)).mono ?_; rintro e w5 ⟨rfl, hu5⟩
  have HU5 := Lib.hid hu5
  clear hu5
  go_wp2_with fail
  go_ret
  exact ⟨by simp, ((HU2.out.trans0 HU3.out).trans0 HU4.out).trans0 HU5.out⟩

def DeedOk (cs : List Value) : Prop := ∃ (K : Int) (m : Mp), cs = deedCs K m
/-- n deeds from an address on. -/
def Deeds (w : World) (A : Option Addr) (n : Nat) : Prop :=
  0 < n → ∃ b o, A = some ⟨b, o, none⟩ ∧ ∀ i, i < n → ∃ cs, DeedOk cs ∧ w.rangeAt b (o + i * 5) cs
theorem Deeds.upd {w w' : World} {A : Option Addr} {n : Nat} (h : Deeds w A n) (hu : Upd [] w w') : Deeds w' A n := by
  intro hn
  obtain ⟨b, o, rfl, hc⟩ := h hn
  refine ⟨b, o, rfl, fun i hi => ?_⟩
  obtain ⟨cs, h1, h2⟩ := hc i hi
  exact ⟨cs, h1, fun j v hj => hu.lt_old (h2 j v hj)⟩
theorem DeedOk.length {cs : List Value} (h : DeedOk cs) : cs.length = 5 := by
  obtain ⟨K, m, rfl⟩ := h
  rfl
def PlayPost (w : World) (e : Ending) (w' : World) : Prop :=
  ∃ t r L, e = .returned (.tuple #[.pointer (some ⟨t, 0, none⟩), .pointer (some ⟨r, 0, none⟩), .bool true]) ∧ Both w' w.heap.size t r L ∧ Upd [] w w'
theorem under_deed : Try.prog.underlying 51 = some (.struct (Try.prog.fieldsOf 51)) := by kernel_rfl
theorem info_deed : (Try.prog.info? 51).map (·.size) = some 5 := by kernel_rfl
theorem do_cs (B t r : Nat) (L : List Mp) (w : World) (h : Both w B t r L) (cs : List Value) (hd : DeedOk cs) :
    Calls Try.prog 24 #[.pointer (some ⟨t, 0, none⟩), .pointer (some ⟨r, 0, none⟩), .agg cs.toArray] w (DoPost B t r w) := by
  obtain ⟨K, m, rfl⟩ := hd
  exact do_any B t r L w h K m

set_option maxRecDepth 100000 in
set_option maxHeartbeats 2000000 in
theorem play_any (A : Option Addr) (len cap : Nat) (w : World) (hd : Deeds w A len) (hlen : len ≤ 9223372036854775807) :
    Calls Try.prog 10 #[.slice A len cap] w (PlayPost w) := by
  have HD := Lib.hid hd
  clear hd
  go_enter Try.func10, Try.ntmps10
  go_wp2_with fail
  refine (new_any w).mono ?_; rintro e w1 ⟨rfl, h1, hu1⟩
  have H1 := Lib.hid h1
  have HU1 := Lib.hid hu1
  have s1 := hu1.size
  clear h1 hu1
  go_wp2_with fail
  refine (rnew_any w1).mono ?_; rintro e w2 ⟨rfl, h2, hu2⟩
  have HB2 : Hid (Both w2 w.heap.size w.heap.size w1.heap.size []) := Lib.hid (Half.start (H1.out.upd0 hu2) h2 (Nat.le_refl _) s1)
  have HU2 := Lib.hid (HU1.out.trans0 hu2)
  clear h2 hu2
  generalize hB : w.heap.size = B at *
  have HBE := Lib.hid hB
  generalize hr : w1.heap.size = r at *
  obtain ⟨t, ht⟩ : ∃ t, t = B := ⟨_, rfl⟩
  have HB3 : Hid (Both w2 B t r []) := Lib.hid (by rw [ht]; exact HB2.out)
  have HPP : Hid (∀ e w', (∃ L, e = .returned (.tuple #[.pointer (some ⟨t, 0, none⟩), .pointer (some ⟨r, 0, none⟩), .bool true]) ∧ Both w' B t r L ∧ Upd [] w w') → PlayPost w e w') := Lib.hid (by
    rintro e w' ⟨L, h1, h2, h3⟩
    exact ⟨t, r, L, h1, by rw [HBE.out]; exact h2, h3⟩)
  clear hB hr HB2 s1
  rw [← ht]
  clear ht
  go_wp2_with fail
  go_loopw [7] (fun v wr => ∃ j : Nat, j ≤ len ∧ j ≤ 60 ∧ v = .int .i64 (j : Int) ∧ (∃ L, Both wr B t r L) ∧ Upd [] w wr) (fun v _ => len - (intOf v).toNat)
  case atStart => exact ⟨0, by omega, by omega, rfl, ⟨_, HB3.out⟩, HU2.out⟩
  case round =>
    obtain ⟨j, hj, hj30, rfl, ⟨L, hb⟩, hu⟩ := hrel
    by_cases hlt : j < len ∧ j < 60
    · obtain ⟨l1, l2⟩ := hlt
      obtain ⟨b, o, rfl, hc⟩ := HD.out (by omega)
      obtain ⟨cs, hdk, hra0⟩ := hc j l1
      have hra : wr.rangeAt b (o + j * 5) cs := fun i v hi => hu.lt_old (hra0 i v hi)
      have HK := Lib.hid hdk
      have HSZ := Lib.hid (show (Try.prog.info? 51).map (·.size) = some cs.length by rw [hdk.length]; exact info_deed)
      have HB := Lib.hid hb
      have HU := Lib.hid hu
      have i0 : (0 : Int) ≤ (j : Int) := by omega
      have i1 : (j : Int) < (len : Int) := by omega
      clear hra0 hdk hb hu hc
      go_wp2_with (refine wpList_load_midg rfl 51 _ rfl b (o + j * 5) rfl _ _ hra under_deed rfl HSZ.out ?_)
      refine (do_cs B t r L _ HB.out cs HK.out).mono ?_
      rintro e w3 ⟨rfl, hb3, hf3⟩
      have hu4 := hf3.upd HU.out (by rw [HBE.out]; exact Nat.le_refl _)
      have HB3 := Lib.hid hb3
      have HU4 := Lib.hid hu4
      clear hb3 hf3 hu4
      go_wp2_with fail
      go_roundw
      case rel => exact ⟨j + 1, by omega, by omega, by go_num, HB3.out, HU4.out⟩
      case measure => simp [intOf]; omega
    · have HB := Lib.hid hb
      have HU := Lib.hid hu
      clear hb hu
      have hge : ¬ ((j : Int) < (len : Int)) ∨ ¬ ((j : Int) < 60) := by omega
      clear hlt
      rcases hge with hge | hge
      · go_wp2_with fail
        all_goals (first | (go_ret3; exact HPP.out _ _ ⟨L, by simp, HB.out, HU.out⟩) | (exfalso; omega))
      · by_cases hl2 : (j : Int) < (len : Int)
        · go_wp2_with fail
          all_goals (first | (go_ret3; exact HPP.out _ _ ⟨L, by simp, HB.out, HU.out⟩) | (exfalso; omega))
        · go_wp2_with fail
          all_goals (first | (go_ret3; exact HPP.out _ _ ⟨L, by simp, HB.out, HU.out⟩) | (exfalso; omega))

end Go.Proofs.Ytefjppebohnmjaa
