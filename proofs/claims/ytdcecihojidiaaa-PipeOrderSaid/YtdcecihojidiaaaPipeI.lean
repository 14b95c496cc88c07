/- same, live, play. -/
import Derived.Test.YtdcecihojidiaaaPipeH
import Derived.Test.YtdcecihojidiaaaRow
namespace Go.Proofs.Ytdcecihojidiaaa
open Go.RowKit

theorem new_ex (w : World) : Calls Try.prog 9 #[] w fun e w' => ∃ p, e = .returned (.pointer (some ⟨p, 0, none⟩)) ∧ PipeAt w' p [] 0 0 ∧ Upd [] w w' ∧ w.heap.size ≤ p :=
  (new_any w).mono fun _ _ ⟨h1, h2, h3⟩ => ⟨_, h1, h2, h3, Nat.le_refl _⟩
theorem rnew_ex (w : World) : Calls Try.prog 29 #[] w fun e w' => ∃ p, e = .returned (.pointer (some ⟨p, 0, none⟩)) ∧ RefAt w' p [] 0 0 ∧ Upd [] w w' ∧ w.heap.size ≤ p :=
  (rnew_any w).mono fun _ _ ⟨h1, h2, h3⟩ => ⟨_, h1, h2, h3, Nat.le_refl _⟩

set_option maxRecDepth 100000 in
set_option maxHeartbeats 2000000 in
theorem same_any (p r : Nat) (L : List UInt8) (rd wr : Nat) (w : World) (h : Both w p r L rd wr) :
    Calls Try.prog 17 #[.pointer (some ⟨p, 0, none⟩), .pointer (some ⟨r, 0, none⟩)] w (TruePost w) := by
  have HB := Lib.hid h
  clear h
  go_enter Try.func17, Try.ntmps17
  go_wp2_with fail
  refine (text_any p L rd wr _ HB.out.pipe).mono ?_; rintro e w1 ⟨rfl, hu⟩
  have HB1 := Lib.hid (HB.out.upd hu (by simp) (by simp))
  have HU := Lib.hid hu
  clear hu
  go_wp2_with fail
  refine (rtext_any r L rd wr _ HB1.out.ref).mono ?_; rintro e w' ⟨rfl, rfl⟩
  go_wp2_with fail
  refine (count_any p L rd wr _ true HB1.out.pipe).mono ?_; rintro e w' ⟨rfl, rfl⟩
  go_wp2_with fail
  refine (rcount_any r L rd wr _ true HB1.out.ref).mono ?_; rintro e w' ⟨rfl, rfl⟩
  go_wp2_with fail
  refine (count_any p L rd wr _ false HB1.out.pipe).mono ?_; rintro e w' ⟨rfl, rfl⟩
  go_wp2_with fail
  refine (rcount_any r L rd wr _ false HB1.out.ref).mono ?_; rintro e w' ⟨rfl, rfl⟩
  go_wp2_with fail
  go_ret
  exact ⟨by simp, HU.out⟩

def hello : ByteArray := ⟨#[104, 101, 108, 108, 111]⟩

set_option maxRecDepth 100000 in
set_option maxHeartbeats 2000000 in
theorem live_any (w : World) : Calls Try.prog 15 #[] w (TruePost w) := by
  go_enter Try.func15, Try.ntmps15
  go_wp2_with fail
  refine (new_ex _).mono ?_; rintro e w1 ⟨p, rfl, hp, hu, hs⟩
  have H1 := Lib.hid hp
  have U1 := Lib.hid hu
  clear hp hu
  go_wp2_with fail
  refine (show Calls _ _ _ _ (fun e w' => e = .returned (.int .i64 0) ∧ PipeAt w' p [] 0 1 ∧ Upd [p] w1 w') from open_any p [] 0 0 w1 true H1.out).mono ?_; rintro e w2 ⟨rfl, hp, hu⟩
  have H2 := Lib.hid hp
  have U2 := Lib.hid (U1.out.trans hu (fun s hs => .inr (by simp at hs; omega)))
  clear hp hu
  go_wp2_with fail
  refine (show Calls _ _ _ _ (fun e w' => e = .returned (.int .i64 0) ∧ PipeAt w' p [] 1 1 ∧ Upd [p] w2 w') from open_any p [] 0 1 w2 false H2.out).mono ?_; rintro e w3 ⟨rfl, hp, hu⟩
  have H3 := Lib.hid hp
  have U3 := Lib.hid (U2.out.trans hu (fun s hs => .inr (by simp at hs; omega)))
  clear hp hu
  go_wp2_with fail
  refine (show Calls _ _ _ _ (fun e w' => e = .returned (.tuple #[.int .i64 5, .int .i64 0]) ∧ PipeAt w' p [104, 101, 108, 108, 111] 1 1 ∧ Upd [p] w3 w') from write_any p [] 1 1 hello w3 H3.out).mono ?_; rintro e w4 ⟨rfl, hp, hu⟩
  have H4 := Lib.hid hp
  have U4 := Lib.hid (U3.out.trans hu (fun s hs => .inr (by simp at hs; omega)))
  clear hp hu
  go_wp2_with fail
  refine (show Calls _ _ _ _ (fun e w' => e = .returned (.tuple #[.string ⟨#[104, 101]⟩, .int .i64 0]) ∧ PipeAt w' p [108, 108, 111] 1 1 ∧ Upd [p] w4 w') from read_any p [104, 101, 108, 108, 111] 1 1 2 w4 H4.out).mono ?_; rintro e w5 ⟨rfl, hp, hu⟩
  have H5 := Lib.hid hp
  have U5 := Lib.hid (U4.out.trans hu (fun s hs => .inr (by simp at hs; omega)))
  clear hp hu
  go_wp2_with fail
  refine (text_any p [108, 108, 111] 1 1 _ H5.out).mono ?_; rintro e w6 ⟨rfl, hu⟩
  have U6 := Lib.hid (U5.out.trans0 hu)
  clear hu
  go_wp2_with fail
  go_ret
  exact ⟨by simp, U6.out⟩

/-- The cells of a deed. -/
def DeedOk (cs : List Value) : Prop := ∃ (K n : Int) (b : Bool) (s : ByteArray), cs = [.int .i64 K, .int .i64 n, .bool b, .string s]
/-- n deeds from an address on. -/
def Deeds (w : World) (A : Option Addr) (n : Nat) : Prop :=
  0 < n → ∃ b o, A = some ⟨b, o, none⟩ ∧ ∀ i, i < n → ∃ cs, DeedOk cs ∧ w.rangeAt b (o + i * 4) cs
theorem Deeds.upd {w w' : World} {A : Option Addr} {n : Nat} (h : Deeds w A n) (hu : Upd [] w w') : Deeds w' A n := by
  intro hn
  obtain ⟨b, o, rfl, hc⟩ := h hn
  refine ⟨b, o, rfl, fun i hi => ?_⟩
  obtain ⟨cs, h1, h2⟩ := hc i hi
  exact ⟨cs, h1, fun j v hj => hu.lt_old (h2 j v hj)⟩
theorem DeedOk.length {cs : List Value} (h : DeedOk cs) : cs.length = 4 := by
  obtain ⟨K, n, b, s, rfl⟩ := h
  rfl

def PlayPost (w : World) (e : Ending) (w' : World) : Prop :=
  ∃ p r L rd wr, e = .returned (.tuple #[.pointer (some ⟨p, 0, none⟩), .pointer (some ⟨r, 0, none⟩), .bool true]) ∧ Both w' p r L rd wr ∧ Upd [] w w' ∧ w.heap.size ≤ p ∧ w.heap.size ≤ r

theorem under_deed : Try.prog.underlying 47 = some (.struct (Try.prog.fieldsOf 47)) := by kernel_rfl
theorem info_deed : (Try.prog.info? 47).map (·.size) = some 4 := by kernel_rfl

theorem do_cs (p r : Nat) (L : List UInt8) (rd wr : Nat) (w : World) (h : Both w p r L rd wr) (cs : List Value) (hd : DeedOk cs) :
    Calls Try.prog 22 #[.pointer (some ⟨p, 0, none⟩), .pointer (some ⟨r, 0, none⟩), .agg cs.toArray] w (DoPost p r w) := by
  obtain ⟨K, n, b, s, rfl⟩ := hd
  exact do_any p r L rd wr w h K n b s

set_option maxRecDepth 100000 in
set_option maxHeartbeats 2000000 in
theorem play_any (A : Option Addr) (len cap : Nat) (w : World) (hd : Deeds w A len) (hlen : len ≤ 9223372036854775807) :
    Calls Try.prog 16 #[.slice A len cap] w (PlayPost w) := by
  have HD := Lib.hid hd
  clear hd
  go_enter Try.func16, Try.ntmps16
  go_wp2_with fail
  refine (new_ex _).mono ?_; rintro e w1 ⟨p, rfl, hm, hu1, hp1⟩
  have HM1 := Lib.hid hm
  have HU1 := Lib.hid hu1
  clear hm hu1
  go_wp2_with fail
  refine (rnew_ex _).mono ?_; rintro e w2 ⟨r, rfl, hr, hu2, hr1⟩
  have HB2 : Hid (Both w2 p r [] 0 0) := ⟨HM1.out.upd hu2 (by simp), hr⟩
  have HU2 := Lib.hid (HU1.out.trans0 hu2)
  have s1 := HU1.out.size
  have s2 := hu2.size
  clear hr hu2
  go_wp2_with fail
  go_loopw [7] (fun v wr => ∃ j : Nat, j ≤ len ∧ j ≤ 130 ∧ v = .int .i64 (j : Int) ∧ (∃ L rd wr', Both wr p r L rd wr') ∧ Upd [] w wr) (fun v _ => len - (intOf v).toNat)
  case atStart => exact ⟨0, by omega, by omega, rfl, ⟨_, _, _, HB2.out⟩, HU2.out⟩
  case round =>
    obtain ⟨j, hj, hj30, rfl, ⟨L, rd, wr', hb⟩, hu⟩ := hrel
    by_cases hlt : j < len ∧ j < 130
    · obtain ⟨l1, l2⟩ := hlt
      obtain ⟨b, o, rfl, hc⟩ := HD.out (by omega)
      obtain ⟨cs, hdk, hra0⟩ := hc j l1
      have hra : wr.rangeAt b (o + j * 4) cs := fun i v hi => hu.lt_old (hra0 i v hi)
      have HK := Lib.hid hdk
      have HSZ := Lib.hid (show (Try.prog.info? 47).map (·.size) = some cs.length by rw [hdk.length]; exact info_deed)
      have HB := Lib.hid hb
      have HU := Lib.hid hu
      have i0 : (0 : Int) ≤ (j : Int) := by omega
      have i1 : (j : Int) < (len : Int) := by omega
      clear hra0 hdk hb hu hc
      go_wp2_with (refine wpList_load_midg rfl 47 _ rfl b (o + j * 4) rfl _ _ hra under_deed rfl HSZ.out ?_)
      refine (do_cs p r L rd wr' _ HB.out cs HK.out).mono ?_
      rintro e w3 ⟨rfl, hb3, hu3⟩
      have hu4 := HU.out.trans hu3 (fun s hs => .inr (by simp at hs; omega))
      have HB3 := Lib.hid hb3
      have HU4 := Lib.hid hu4
      clear hb3 hu3 hu4
      go_wp2_with fail
      go_roundw
      case rel => exact ⟨j + 1, by omega, by omega, by go_num, HB3.out, HU4.out⟩
      case measure => simp [intOf]; omega
    · have HB := Lib.hid hb
      have HU := Lib.hid hu
      clear hb hu
      have hge : ¬ ((j : Int) < (len : Int)) ∨ ¬ ((j : Int) < 130) := by omega
      clear hlt
      rcases hge with hge | hge
      · go_wp2_with fail
        all_goals (first | (go_ret3; exact ⟨p, r, L, rd, wr', by simp, HB.out, HU.out, by omega, by omega⟩) | (exfalso; omega))
      · by_cases hl2 : (j : Int) < (len : Int)
        · go_wp2_with fail
          all_goals (first | (go_ret3; exact ⟨p, r, L, rd, wr', by simp, HB.out, HU.out, by omega, by omega⟩) | (exfalso; omega))
        · go_wp2_with fail
          all_goals (first | (go_ret3; exact ⟨p, r, L, rd, wr', by simp, HB.out, HU.out, by omega, by omega⟩) | (exfalso; omega))

end Go.Proofs.Ytdcecihojidiaaa
