/- live and play. -/
import Derived.Test.YtelmkmhmdfcnmaaRegK
namespace Go.Proofs.Ytelmkmhmdfcnmaa
open Go.RowKit Go.Maps

def S1 : St := bindS newS 3 7
def S2 : St := dirS S1 3 true
def S3 : St := movS S2 3 4
theorem g1 : GoodS S1 := good_bind good_newS 3 7
theorem g2 : GoodS S2 := good_dir g1 3 true
set_option maxRecDepth 100000 in
set_option maxHeartbeats 2000000 in
theorem live_any (w : World) :
    Calls Try.prog 10 #[] w fun e w' => e = .returned (.bool true) ∧ Upd [] w w' := by
  have e1 : bindE newS 3 7 = 0 := by decide
  have e2 : mayE S1 3 true = 0 := by decide
  have e3 : unbE S2 3 = 8 := by decide
  have e4 : unbV S2 3 = 0 := by decide
  have e5 : unbS S2 3 = S2 := by unfold unbS; rw [e3]; rfl
  have e6 : movE S2 3 4 = 0 := by decide
  have e7 : (S3.fr 7).getD 0 = 4 := by decide
  have e8 : (S3.fr 7).isSome = true := by decide
  have e9 : S3.wr 4 = true := by decide
  have e10 : S3.wr 3 = false := by decide
  have H1 : Hid (∀ c b1 b2 b3 W, RegAt W c b1 b2 b3 newS → Calls Try.prog 15 #[.pointer (some ⟨c, 0, none⟩), .int .u8 3, .int .i64 7] W (RChg W c b1 b2 b3 (.int .i64 0) S1)) := Lib.hid (fun c b1 b2 b3 W hW => by
    have := bind_any c b1 b2 b3 newS W hW 3 (by omega) 7 (by omega) (by omega)
    rw [e1] at this
    exact this)
  have H2 : Hid (∀ c b1 b2 b3 W, RegAt W c b1 b2 b3 S1 → Calls Try.prog 13 #[.pointer (some ⟨c, 0, none⟩), .int .u8 3, .bool true] W (RChg W c b1 b2 b3 (.int .i64 0) S2)) := Lib.hid (fun c b1 b2 b3 W hW => by
    have := dirty_any c b1 b2 b3 S1 W hW 3 (by omega) true
    rw [e2] at this
    exact this)
  have H3 : Hid (∀ c b1 b2 b3 W, RegAt W c b1 b2 b3 S2 → Calls Try.prog 12 #[.pointer (some ⟨c, 0, none⟩), .int .u8 3] W (RChg W c b1 b2 b3 (.tuple #[.int .i64 0, .int .i64 8]) S2)) := Lib.hid (fun c b1 b2 b3 W hW => by
    have := unbind_any c b1 b2 b3 S2 W hW 3 (by omega) g2.le
    rw [e3, e4, e5] at this
    exact this)
  have H4 : Hid (∀ c b1 b2 b3 W, RegAt W c b1 b2 b3 S2 → Calls Try.prog 19 #[.pointer (some ⟨c, 0, none⟩), .int .u8 3, .int .u8 4] W (RChg W c b1 b2 b3 (.int .i64 0) S3)) := Lib.hid (fun c b1 b2 b3 W hW => by
    have := move_any c b1 b2 b3 S2 W hW 3 4 (by omega) (by omega) g2.le
    rw [e6] at this
    exact this)
  have H5 : Hid (∀ c b1 b2 b3 W, RegAt W c b1 b2 b3 S3 → Calls Try.prog 18 #[.pointer (some ⟨c, 0, none⟩), .int .i64 7] W (fun e w' => e = .returned (.tuple #[.int .u8 4, .bool true]) ∧ w' = W)) := Lib.hid (fun c b1 b2 b3 W hW => by
    have := frame_any c b1 b2 b3 S3 W hW 7 (by omega) (by omega)
    rw [e7, e8] at this
    exact this)
  have H6 : Hid (∀ c b1 b2 b3 W, RegAt W c b1 b2 b3 S3 → Calls Try.prog 14 #[.pointer (some ⟨c, 0, none⟩), .int .u8 4] W (fun e w' => e = .returned (.bool true) ∧ w' = W)) := Lib.hid (fun c b1 b2 b3 W hW => by
    have := written_any c b1 b2 b3 S3 W hW 4 (by omega)
    rw [e9] at this
    exact this)
  have H7 : Hid (∀ c b1 b2 b3 W, RegAt W c b1 b2 b3 S3 → Calls Try.prog 14 #[.pointer (some ⟨c, 0, none⟩), .int .u8 3] W (fun e w' => e = .returned (.bool false) ∧ w' = W)) := Lib.hid (fun c b1 b2 b3 W hW => by
    have := written_any c b1 b2 b3 S3 W hW 3 (by omega)
    rw [e10] at this
    exact this)
  clear e1 e2 e3 e4 e5 e6 e7 e8 e9 e10
  go_enter Try.func10, Try.ntmps10
  go_wp2_with fail
  refine (new_any w).mono ?_; rintro e w1 ⟨c, b1, b2, b3, rfl, h1, hu1, _, k1, k2, k3⟩
  have R1 := Lib.hid h1
  have HU1 := Lib.hid hu1
  clear h1 hu1
  go_wp2_with fail
  refine (H1.out c b1 b2 b3 _ R1.out).mono ?_; rintro e w2 ⟨rfl, h2, hu2⟩
  have R2 := Lib.hid h2
  have HU2 := Lib.hid (HU1.out.trans hu2 (by intro s hs; right; simp at hs; omega))
  clear h2 hu2
  go_wp2_with fail
  refine (H2.out c b1 b2 b3 _ R2.out).mono ?_; rintro e w3 ⟨rfl, h3, hu3⟩
  have R3 := Lib.hid h3
  have HU3 := Lib.hid (HU2.out.trans hu3 (by intro s hs; right; simp at hs; omega))
  clear h3 hu3
  go_wp2_with fail
  refine (H3.out c b1 b2 b3 _ R3.out).mono ?_; rintro e w4 ⟨rfl, h4, hu4⟩
  have R4 := Lib.hid h4
  have HU4 := Lib.hid (HU3.out.trans hu4 (by intro s hs; right; simp at hs; omega))
  clear h4 hu4
  go_wp2_with fail
  refine (H4.out c b1 b2 b3 _ R4.out).mono ?_; rintro e w5 ⟨rfl, h5, hu5⟩
  have R5 := Lib.hid h5
  have HU5 := Lib.hid (HU4.out.trans hu5 (by intro s hs; right; simp at hs; omega))
  clear h5 hu5
  go_wp2_with fail
  refine (H5.out c b1 b2 b3 _ R5.out).mono ?_; rintro e w' ⟨rfl, rfl⟩
  go_wp2_with fail
  refine (H6.out c b1 b2 b3 _ R5.out).mono ?_; rintro e w' ⟨rfl, rfl⟩
  go_wp2_with fail
  refine (H7.out c b1 b2 b3 _ R5.out).mono ?_; rintro e w' ⟨rfl, rfl⟩
  go_wp2_with fail
  go_ret
  exact ⟨by simp, HU5.out⟩

def DeedOk (cs : List Value) : Prop := ∃ (K s : Int) (f g : Nat) (on : Bool), cs = deedCs K s f g on ∧ -9223372036854775808 ≤ s ∧ s ≤ 9223372036854775807 ∧ f < 256 ∧ g < 256
/-- n deeds from an address on. -/
def Deeds (w : World) (A : Option Addr) (n : Nat) : Prop :=
  0 < n → ∃ b o, A = some ⟨b, o, none⟩ ∧ ∀ i, i < n → ∃ cs, DeedOk cs ∧ w.rangeAt b (o + i * 5) cs
theorem DeedOk.length {cs : List Value} (h : DeedOk cs) : cs.length = 5 := by
  obtain ⟨K, s, f, g, on, rfl, _⟩ := h
  rfl
def PlayPost (w : World) (e : Ending) (w' : World) : Prop :=
  ∃ c b1 b2 b3 r S, e = .returned (.tuple #[.pointer (some ⟨c, 0, none⟩), .pointer (some ⟨r, 0, none⟩), .bool true]) ∧ Both w' c b1 b2 b3 r S ∧ Upd [] w w' ∧ w.heap.size ≤ b1 ∧ w.heap.size ≤ b2 ∧ w.heap.size ≤ b3
theorem under_deed : Try.prog.underlying 49 = some (.struct (Try.prog.fieldsOf 49)) := by kernel_rfl
theorem info_deed : (Try.prog.info? 49).map (·.size) = some 5 := by kernel_rfl
theorem do_cs (c b1 b2 b3 r : Nat) (S : St) (w : World) (h : Both w c b1 b2 b3 r S) (cs : List Value) (hd : DeedOk cs) :
    Calls Try.prog 22 #[.pointer (some ⟨c, 0, none⟩), .pointer (some ⟨r, 0, none⟩), .agg cs.toArray] w (DoPost c b1 b2 b3 r w) := by
  obtain ⟨K, s, f, g, on, rfl, h1, h2, h3, h4⟩ := hd
  exact do_any c b1 b2 b3 r S w h K s h1 h2 f g h3 h4 on

set_option maxRecDepth 100000 in
set_option maxHeartbeats 2000000 in
theorem play_any (A : Option Addr) (len cap : Nat) (w : World) (hd : Deeds w A len) (hlen : len ≤ 9223372036854775807) :
    Calls Try.prog 9 #[.slice A len cap] w (PlayPost w) := by
  have HD := Lib.hid hd
  clear hd
  go_enter Try.func9, Try.ntmps9
  go_wp2_with fail
  refine (new_any w).mono ?_; rintro e w1 ⟨c, b1, b2, b3, rfl, h1, hu1, _, k1, k2, k3⟩
  have R1 := Lib.hid h1
  have HU1 := Lib.hid hu1
  have s1 := hu1.size
  clear h1 hu1
  go_wp2_with fail
  refine (rnew_any w1).mono ?_; rintro e w2 ⟨rfl, h2, hu2⟩
  have HB2 : Hid (Both w2 c b1 b2 b3 w1.heap.size newS) := Lib.hid ⟨R1.out.upd0 hu2, h2, good_newS⟩
  have HU2 := Lib.hid (HU1.out.trans0 hu2)
  clear h2 hu2
  generalize w1.heap.size = r at *
  go_wp2_with fail
  go_loopw [7] (fun v wr => ∃ j : Nat, j ≤ len ∧ j ≤ 50 ∧ v = .int .i64 (j : Int) ∧ (∃ S, Both wr c b1 b2 b3 r S) ∧ Upd [] w wr) (fun v _ => len - (intOf v).toNat)
  case atStart => exact ⟨0, by omega, by omega, rfl, ⟨_, HB2.out⟩, HU2.out⟩
  case round =>
    obtain ⟨j, hj, hj30, rfl, ⟨S, hb⟩, hu⟩ := hrel
    by_cases hlt : j < len ∧ j < 50
    · obtain ⟨l1, l2⟩ := hlt
      obtain ⟨b, o, rfl, hc⟩ := HD.out (by omega)
      obtain ⟨cs, hdk, hra0⟩ := hc j l1
      have hra : wr.rangeAt b (o + j * 5) cs := fun i v hi => hu.lt_old (hra0 i v hi)
      have HK := Lib.hid hdk
      have HSZ := Lib.hid (show (Try.prog.info? 49).map (·.size) = some cs.length by rw [hdk.length]; exact info_deed)
      have HB := Lib.hid hb
      have HU := Lib.hid hu
      have i0 : (0 : Int) ≤ (j : Int) := by omega
      have i1 : (j : Int) < (len : Int) := by omega
      clear hra0 hdk hb hu hc
      go_wp2_with (refine wpList_load_midg rfl 49 _ rfl b (o + j * 5) rfl _ _ hra under_deed rfl HSZ.out ?_)
      refine (do_cs c b1 b2 b3 r S _ HB.out cs HK.out).mono ?_
      rintro e w3 ⟨rfl, hb3, hu3⟩
      have hu4 := HU.out.trans hu3 (fun s hs => .inr (by simp at hs; omega))
      have HB3 := Lib.hid hb3
      have HU4 := Lib.hid hu4
      clear hb3 hu3 hu4
      go_wp2_with fail
      go_roundw
      case rel => exact ⟨j + 1, by omega, by omega, by go_num, HB3.out, HU4.out⟩
      case measure => simp [intOf]; omega
    · have HB := Lib.hid hb
      have HU := Lib.hid hu
      clear hb hu
      have hge : ¬ ((j : Int) < (len : Int)) ∨ ¬ ((j : Int) < 50) := by omega
      clear hlt
      rcases hge with hge | hge
      · go_wp2_with fail
        all_goals (first | (go_ret3; exact ⟨c, b1, b2, b3, r, S, by simp, HB.out, HU.out, k1, k2, k3⟩) | (exfalso; omega))
      · by_cases hl2 : (j : Int) < (len : Int)
        · go_wp2_with fail
          all_goals (first | (go_ret3; exact ⟨c, b1, b2, b3, r, S, by simp, HB.out, HU.out, k1, k2, k3⟩) | (exfalso; omega))
        · go_wp2_with fail
          all_goals (first | (go_ret3; exact ⟨c, b1, b2, b3, r, S, by simp, HB.out, HU.out, k1, k2, k3⟩) | (exfalso; omega))

end Go.Proofs.Ytelmkmhmdfcnmaa
