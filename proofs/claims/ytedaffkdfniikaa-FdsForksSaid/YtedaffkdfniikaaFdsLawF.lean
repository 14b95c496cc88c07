/- What becomes of a Copy changes nothing. -/
import Derived.Test.YtedaffkdfniikaaFdsCd
namespace Go.Proofs.Ytedaffkdfniikaa
open Go.RowKit Go.Shelf

theorem under_ref : Try.prog.underlying 84 = some (.struct (Try.prog.fieldsOf 84)) := by kernel_rfl
theorem info_ref : (Try.prog.info? 84).map (·.size) = some 55 := by kernel_rfl
theorem refC_one (S : St) (A : Option Addr) (cap j : Nat) : (refC S A cap j).oneCell' = true := by
  unfold refC
  split
  · rfl
  · split <;> rfl
set_option maxRecDepth 100000 in
set_option maxHeartbeats 2000000 in
theorem rcopy_any (r : Nat) (own : List Nat) (S : St) (A : Option Addr) (cap : Nat) (w : World) (h : RX w r own S A cap) :
    Calls Try.prog 25 #[.pointer (some ⟨r, 0, none⟩)] w fun e w' => e = .returned (.pointer (some ⟨w.heap.size, 0, none⟩)) ∧ RX w' w.heap.size (w.heap.size :: ownA A) S A cap ∧ Upd [] w w' := by
  obtain ⟨cs, hcs⟩ : ∃ cs, cs = rowF 55 (refC S A cap) := ⟨_, rfl⟩
  have hblk : Blk w r RefT cs := by rw [hcs]; exact h.blk
  have hsz : cs.size = 55 := by rw [hcs, rowF_size]
  have HSZ := Lib.hid hsz
  have HONE : Hid (cs.all (·.oneCell') = true) := Lib.hid (by rw [hcs]; simp [rowF, refC_one])
  have HRA := Lib.hid (show w.rangeAt r 0 cs.toList from fun k v hv => by rw [Nat.zero_add]; exact hblk.cellAt (by simpa using hv))
  have HX : Hid (RX (w.alloc (.cells cs 84)) w.heap.size (w.heap.size :: ownA A) S A cap) := Lib.hid ⟨by rw [hcs]; exact Blk.new w _ _, h.row.upd ((Upd.refl [] w).alloc _) (by simp), rfl⟩
  clear h hblk hsz hcs
  go_enter Try.func25, Try.ntmps25
  go_wp2_with (first
    | (refine wpList_load_midg rfl 84 _ rfl r 0 rfl cs.toList _ HRA.out under_ref rfl (by rw [info_ref, Array.length_toList, HSZ.out]) ?_)
    | (refine wpList_store_new rfl 84 _ _ rfl cs rfl rfl 84 _ (by rw [info_ref, HSZ.out]) (show 55 = cs.size by rw [HSZ.out]) HONE.out ?_))
  go_ret
  exact ⟨by simp, HX.out, (Upd.refl [] w).alloc _⟩

theorem sCopy {w0 W : World} {t r N : Nat} {S : St} (h : BLive w0 t r [] N S S W) : Calls Try.prog 24 #[.pointer (some ⟨t, 0, none⟩)] W fun e w' => ∃ f own, e = .returned (.pointer (some ⟨f, 0, none⟩)) ∧ PAt w' f own S ∧ (∀ g, g ∈ own → W.heap.size ≤ g) ∧ Upd [] W w' := by
  obtain ⟨ot, og, h⟩ := h
  obtain ⟨pb, sb, hp⟩ := h.p
  exact copy_any t ot S pb sb W hp h.g
/-- The reference's Copy behind the program's: both copies. -/
theorem uCopy {w0 W W1 : World} {t r N f : Nat} {S : St} {own : List Nat} (h : BLive w0 t r [] N S S W) (hu : Upd [] W W1) (hf : PAt W1 f own S) (hl : ∀ g, g ∈ own → W.heap.size ≤ g) :
    Calls Try.prog 25 #[.pointer (some ⟨r, 0, none⟩)] W1 fun e w' => ∃ g, e = .returned (.pointer (some ⟨g, 0, none⟩)) ∧ BLive W f g [] N S S w' ∧ Upd [] W w' := by
  obtain ⟨ot, og, h⟩ := h
  obtain ⟨A, cap, hx⟩ := h.rf
  have hxl := hx.lt
  refine (rcopy_any r og S A cap W1 (hx.upd0 hu)).mono fun e w' ⟨he, hx', hu'⟩ => ⟨W1.heap.size, he, ⟨own, W1.heap.size :: ownA A, hf.upd hu' (by simp), ⟨A, cap, hx'⟩, fun g hg hm => ?_, hl, hu.size, by simp, hu.trans' hu', h.g, h.s, h.n⟩, hu.trans' hu'⟩
  rcases List.mem_cons.1 hm with rfl | hm
  · have := hf.lt _ hg; omega
  · have h1 := hl g hg
    have h2 := hxl g (by rw [hx.own]; exact List.mem_cons_of_mem _ hm)
    omega

set_option maxRecDepth 100000 in
set_option maxHeartbeats 4000000 in
theorem forks_any (A : Option Addr) (len cap : Nat) (B : Option Addr) (len2 cap2 : Nat) (w : World) (hd : Deeds w A len) (hlen : len ≤ 9223372036854775807) (hd2 : Deeds w B len2) (hlen2 : len2 ≤ 9223372036854775807) :
    Calls Try.prog 7 #[.slice A len cap, .slice B len2 cap2] w (TruePost w) := by
  have HD := Lib.hid hd
  have HD2 := Lib.hid hd2
  clear hd hd2
  go_enter Try.func7, Try.ntmps7
  go_wp2_with fail
  refine (play_any A len cap _ HD.out hlen).mono ?_; rintro e w1 ⟨t, r, S, rfl, hb⟩
  have HB := Lib.hid hb
  clear hb
  go_wp2_with fail
  refine (live_any _).mono ?_; rintro e w2 ⟨rfl, hu2⟩
  have HB2 := Lib.hid (HB.out.upd0 hu2)
  clear hu2
  go_wp2_with fail
  refine (sCopy HB2.out).mono ?_; rintro e w3 ⟨f, own, rfl, hf, hl, hu3⟩
  have HCU := Lib.hid (uCopy HB2.out hu3 hf hl)
  clear hf hl hu3
  go_wp2_with fail
  refine HCU.out.mono ?_; rintro e w4 ⟨g, rfl, hb4, hu4⟩
  have HB4 := Lib.hid hb4
  clear hb4 hu4
  go_wp2_with fail
  go_loopw [10] (fun v wr => ∃ j : Nat, j ≤ len2 ∧ j ≤ 14 ∧ v = .int .i64 (j : Int) ∧ ∃ S', BLive w2 f g [] (j + 51) S' S' wr) (fun v _ => len2 - (intOf v).toNat)
  case atStart => exact ⟨0, by omega, by omega, rfl, S, HB4.out⟩
  case round =>
    obtain ⟨j, hj, hj14, rfl, S', hb⟩ := hrel
    by_cases hlt : j < len2 ∧ j < 14
    · obtain ⟨l1, l2⟩ := hlt
      obtain ⟨b, o, rfl, hc⟩ := HD2.out (by omega)
      obtain ⟨cs, hdk, hra0⟩ := hc j l1
      have hra : wr.rangeAt b (o + j * 7) cs := fun i v hi => (HB2.out.upd.trans' hb.upd).lt_old (hra0 i v hi)
      have HK := Lib.hid hdk
      have HSZ := Lib.hid (show (Try.prog.info? 32).map (·.size) = some cs.length by rw [hdk.length]; exact info_deed)
      have HBW := Lib.hid hb
      have i0 : (0 : Int) ≤ (j : Int) := by omega
      have i1 : (j : Int) < (len2 : Int) := by omega
      clear hra0 hdk hb hc
      go_wp2_with (refine wpList_load_midg rfl 32 _ rfl b (o + j * 7) rfl _ _ hra under_deed rfl HSZ.out ?_)
      refine (do_any w2 f g (j + 51) S' _ HBW.out (by omega) cs HK.out).mono ?_
      rintro e w5 ⟨rfl, hb5⟩
      have HB5 : Hid (∃ S', BLive w2 f g [] (j + 1 + 51) S' S' w5) := Lib.hid (by
        obtain ⟨S2, h2⟩ := hb5
        exact ⟨S2, h2.mono (by omega)⟩)
      clear hb5
      go_wp2_with fail
      go_roundw
      case rel => exact ⟨j + 1, by omega, by omega, by go_num, HB5.out⟩
      case measure => simp [intOf]; omega
    · have HBW := Lib.hid hb
      have HBO := Lib.hid (HB2.out.upd0 hb.upd)
      clear hb
      by_cases hl2 : (j : Int) < (len2 : Int)
      · have i2 : ¬ (j : Int) < 14 := by omega
        clear hlt
        go_wp2_with fail
        refine (same_any w t r 51 [] S _ HBO.out).mono ?_; rintro e w5 ⟨rfl, hu5⟩
        have HBX := Lib.hid (HBW.out.upd0 hu5)
        clear hu5
        go_wp2_with fail
        refine (same_any w2 f g (j + 51) [] S' _ HBX.out).mono ?_; rintro e w6 ⟨rfl, hu6⟩
        have HU := Lib.hid (HB2.out.upd.trans' (HBX.out.upd.trans' hu6))
        clear hu6
        go_wp2_with fail
        go_ret
        exact ⟨by simp, HU.out⟩
      · clear hlt
        go_wp2_with fail
        refine (same_any w t r 51 [] S _ HBO.out).mono ?_; rintro e w5 ⟨rfl, hu5⟩
        have HBX := Lib.hid (HBW.out.upd0 hu5)
        clear hu5
        go_wp2_with fail
        refine (same_any w2 f g (j + 51) [] S' _ HBX.out).mono ?_; rintro e w6 ⟨rfl, hu6⟩
        have HU := Lib.hid (HB2.out.upd.trans' (HBX.out.upd.trans' hu6))
        clear hu6
        go_wp2_with fail
        go_ret
        exact ⟨by simp, HU.out⟩

end Go.Proofs.Ytedaffkdfniikaa
