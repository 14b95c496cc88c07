/- The program's frames (package mem): Fork, Fill, and what a nil memory answers. -/
import Derived.Test.YtmfokjifloafhaaMemT
namespace Go.Proofs.Ytmfokjifloafhaa
open Go.RowKit

/-- A slice of bytes that reads as cs. -/
def RdB (w : World) (A : Option Addr) (cs : List UInt8) : Prop :=
  0 < cs.length → ∃ b o, A = some ⟨b, o, none⟩ ∧ ∀ j c, cs[j]? = some c → w.cell? ⟨b, o + j, none⟩ = some (.int .u8 (c.toNat : Int))
theorem RdB.upd {w w' : World} {A : Option Addr} {cs : List UInt8} {S : List Nat} (h : RdB w A cs) (hu : Upd S w w') (hS : 0 < cs.length → ∀ b o, A = some ⟨b, o, none⟩ → b ∉ S) : RdB w' A cs := by
  intro hk
  obtain ⟨b, o, rfl, hc⟩ := h hk
  refine ⟨b, o, rfl, fun j c hj => ?_⟩
  have h1 := hc j c hj
  have hlt : b < w.heap.size := World.block_lt_of_cell? w ⟨b, o + j, none⟩ h1
  exact (World.cell?_of_block (w := w) (hu.block b hlt (hS hk b o rfl))).trans h1

theorem putAt_step (L cs : List UInt8) (p j k : Nat) (hp : p + cs.length ≤ L.length) (hj : j + k ≤ cs.length) :
    putAt (putAt L p (cs.take j)) (p + j) ((cs.drop j).take k) = putAt L p (cs.take (j + k)) := by
  have h1 : (L.take p).length = p := by simp; omega
  have h2 : (cs.take j).length = j := by simp; omega
  have h3 : ((cs.drop j).take k).length = k := by simp; omega
  have h4 : (cs.take (j + k)).length = j + k := by simp; omega
  have h5 : cs.take (j + k) = cs.take j ++ (cs.drop j).take k := by rw [List.take_add]
  unfold putAt
  rw [h2, h3, h4, h5]
  have e1 : (L.take p ++ cs.take j ++ L.drop (p + j)).take (p + j) = L.take p ++ cs.take j := by
    rw [List.take_append_of_le_length (by simp; omega), List.take_of_length_le (by simp; omega)]
  have e2 : (L.take p ++ cs.take j ++ L.drop (p + j)).drop (p + j + k) = L.drop (p + (j + k)) := by
    rw [List.drop_append, List.drop_eq_nil_of_le (by simp; omega)]
    simp only [List.length_append, h1, h2, List.nil_append, List.drop_drop]
    congr 1
    omega
  rw [e1, e2]
  simp

theorem mem_fork (m fb n : Nat) (L : List UInt8) (w : World) (h : MemAt w m fb n L) :
    Calls Try.prog 26 #[.pointer (some ⟨m, 0, none⟩)] w fun e w' =>
      ∃ m' fb', e = .returned (.pointer (some ⟨m', 0, none⟩)) ∧ MemAt w' m' fb' n L ∧ Upd [] w w' ∧ w.heap.size ≤ m' ∧ w.heap.size ≤ fb' := by
  obtain ⟨cp, X, h⟩ := h
  have hc := h.cell
  have hl := h.len
  have hlo := h.lo
  have hn := h.hi
  have HH := Lib.hid h
  clear h
  have HL := Lib.hid hl
  clear hl
  go_enter Try.func26, Try.ntmps26
  go_wp2_with fail
  refine (clonef_any w fb 0 n cp L HL.out (by omega) (fun j c hj => ?_)).mono ?_
  · have hjl : j < L.length := (List.getElem?_eq_some_iff.1 hj).1
    have := HH.out.byte (i := j) (by have := HL.out; omega)
    rw [Nat.zero_add, this]
    simp [List.getD, hj]
  rintro e w1 ⟨v, rfl, hne, hown, hu⟩
  rcases hown.2 with ⟨h, _⟩ | ⟨g, cap, cur, rfl, hbg, hg, hle, _, hsz, htk⟩
  · exact (hne h).elim
  have HO := Lib.hid hown
  have HU := Lib.hid hu
  have HG := Lib.hid (show Blk w1 g FrT cur from hg)
  have HT := Lib.hid htk
  have HS := Lib.hid hsz
  clear hown hu hg htk hsz hne
  go_wp2
  go_ret
  refine ⟨w1.heap.size, g, rfl, ⟨cap, cur.toList.drop (n * 32), ⟨Blk.new _ _ _, ?_, HL.out, hlo, hn⟩⟩, HU.out.alloc _, HU.out.size, hbg⟩
  have : cur = (bcs L ++ cur.toList.drop (n * 32)).toArray := by
    rw [← HT.out, List.take_append_drop]
  rw [← this]
  exact HG.out.alloc _

theorem mem_fill_bad (m fb n : Nat) (L : List UInt8) (f o : Int) (A : Option Addr) (k cq : Nat) (w : World) (h : MemAt w m fb n L) (hb : f < 0 ∨ n ≤ f ∨ o < 0 ∨ 31 < o) :
    Calls Try.prog 14 #[.pointer (some ⟨m, 0, none⟩), .int .i64 f, .int .i64 o, .slice A k cq] w fun e w' =>
      e = .returned (.int .i64 2) ∧ w = w' := by
  obtain ⟨cp, X, h⟩ := h
  have hc := h.cell
  clear h
  go_enter Try.func14, Try.ntmps14
  go_wp2_with (go_at_call 32; refine (mem_at_bad m fb n _ _ _ _ _ hc (by omega) (by omega) (by omega)).mono ?_; rintro e w' ⟨rfl, rfl⟩)
  go_ret
  exact ⟨by simp, rfl⟩

theorem mem_fill_long (m fb n : Nat) (L : List UInt8) (f o : Int) (A : Option Addr) (k cq : Nat) (w : World) (h : MemAt w m fb n L) (f0 : 0 ≤ f) (f1 : f < n) (o0 : 0 ≤ o) (o1 : o ≤ 31)
    (hk : (n - f) * 32 - o < k) :
    Calls Try.prog 14 #[.pointer (some ⟨m, 0, none⟩), .int .i64 f, .int .i64 o, .slice A k cq] w fun e w' =>
      e = .returned (.int .i64 2) ∧ w = w' := by
  obtain ⟨cp, X, h⟩ := h
  have hc := h.cell
  have hn := h.hi
  clear h
  go_enter Try.func14, Try.ntmps14
  go_wp2_with (go_at_call 32; refine (mem_at_ok m fb n _ _ _ _ _ hc hn (by omega) (by omega) (by omega) (by omega) (by omega) (by omega)).mono ?_; rintro e w' ⟨rfl, rfl⟩)
  go_ret
  exact ⟨by simp, rfl⟩

set_option maxRecDepth 100000 in
set_option maxHeartbeats 1000000 in
theorem mem_fill_ok (m fb n : Nat) (L : List UInt8) (f o : Nat) (A : Option Addr) (cq : Nat) (cs : List UInt8) (w : World) (h : MemAt w m fb n L) (f1 : f < n) (o1 : o ≤ 31)
    (hr : RdB w A cs) (hA : 0 < cs.length → ∀ b o, A = some ⟨b, o, none⟩ → b ≠ fb) (hcq : cs.length ≤ cq) (hk : 32 * f + o + cs.length ≤ 32 * n) :
    Calls Try.prog 14 #[.pointer (some ⟨m, 0, none⟩), .int .i64 (f : Int), .int .i64 (o : Int), .slice A cs.length cq] w fun e w' =>
      e = .returned (.int .i64 0) ∧ MemAt w' m fb n (putAt L (32 * f + o) cs) ∧ Upd [fb] w w' := by
  obtain ⟨cp, X, h⟩ := h
  have hc := h.cell
  have hn := h.hi
  have HH := Lib.hid h
  have HR := Lib.hid hr
  have HA := Lib.hid hA
  have hL := h.len
  have HL := Lib.hid hL
  clear h hr hA hL
  generalize hcl : cs.length = K at *
  have HK := Lib.hid hcl
  clear hcl
  go_enter Try.func14, Try.ntmps14
  go_wp2_with (go_at_call 32; refine (mem_at_ok m fb n _ _ _ _ _ hc hn (by omega) (by omega) (by omega) (by omega) (by omega) (by omega)).mono ?_; rintro e w' ⟨rfl, rfl⟩)
  go_loopw [1, 2, 3] (fun vf vo vb wr => ∃ (j f' o' c' : Nat) (A' : Option Addr), j ≤ K ∧ vf = .int .i64 (f' : Int) ∧ vo = .int .i64 (o' : Int) ∧ vb = .slice A' (K - j) c' ∧ K - j ≤ c' ∧ (j < K → 32 * f' + o' = 32 * f + o + j ∧ o' ≤ 31) ∧
      RdB wr A' (cs.drop j) ∧ (j < K → ∀ b o, A' = some ⟨b, o, none⟩ → b ≠ fb) ∧ MemX wr m fb n cp (putAt L (32 * f + o) (cs.take j)) X ∧ Upd [fb] w wr) (fun _ _ vb _ => match vb with | .slice _ l _ => l | _ => 0)
  case atStart => 
    refine ⟨0, f, o, cq, A, by omega, rfl, rfl, rfl, by omega, fun _ => ⟨by omega, o1⟩, HR.out, fun hh => HA.out hh, ?_, Upd.refl _ _⟩
    have : putAt L (32 * f + o) (cs.take 0) = L := by simp [putAt]
    rw [this]
    exact HH.out
  case round =>
    obtain ⟨j, f', o', c', A', hj, rfl, rfl, rfl, hc', hpos, hrd, hne, hX, hu⟩ := hrel
    have hcr := hX.cell
    by_cases hlt : j < K
    · obtain ⟨hp, ho'⟩ := hpos hlt
      have hK := HK.out
      obtain ⟨sb, so, rfl, hsrc⟩ := hrd (by simp; omega)
      have hl := hX.len
      obtain ⟨q, hq⟩ : ∃ q, q = min (K - j) (32 - o') := ⟨_, rfl⟩
      have hq1 : q ≤ K - j := by omega
      have hq2 : q ≤ 32 - o' := by omega
      have hq0 : 1 ≤ q := by omega
      have hqf : q < 32 - o' → q = K - j := by omega
      have hql : ((cs.drop j).take q).length = q := by simp; omega
      have hcp : ∀ ty, _ := fun ty => run_copyb wr ty fb (f' * 32 + o') (32 - o') (32 - o') sb so (K - j) c' (bcs (putAt L (32 * f + o) (cs.take j)) ++ X) FrT ((cs.drop j).take q) hX.row (by rw [hql]; exact hq)
        (fun i c hi => hsrc i c (by
          have : i < q := by have := (List.getElem?_eq_some_iff.1 hi).1; omega
          rw [List.getElem?_take, if_pos this] at hi
          exact hi)) (by rw [hql]; simp [bcs_length]; omega)
      have hput := hX.put (f' * 32 + o') ((cs.drop j).take q) (by rw [hql]; omega)
      rw [show f' * 32 + o' = (32 * f + o) + j by omega, putAt_step L cs (32 * f + o) j q (by have := HL.out; omega) (by omega)] at hput
      rw [show f' * 32 + o' = (32 * f + o) + j by omega] at hcp
      have hup := hu.setRow (g := fb) (.inl (by simp)) ((bcs (putAt L (32 * f + o) (cs.take j)) ++ X).take (32 * f + o + j) ++ bcs ((cs.drop j).take q) ++ (bcs (putAt L (32 * f + o) (cs.take j)) ++ X).drop ((32 * f + o + j) + (bcs ((cs.drop j).take q)).length)).toArray
      have hup1 := (Upd.refl [fb] wr).setRow (g := fb) (.inl (by simp)) ((bcs (putAt L (32 * f + o) (cs.take j)) ++ X).take (32 * f + o + j) ++ bcs ((cs.drop j).take q) ++ (bcs (putAt L (32 * f + o) (cs.take j)) ++ X).drop ((32 * f + o + j) + (bcs ((cs.drop j).take q)).length)).toArray
      have hrd2 := hrd.upd hup1 (fun _ b o h => by simpa using hne hlt b o h)
      rw [hql] at hcp
      generalize ((bcs (putAt L (32 * f + o) (cs.take j)) ++ X).take (32 * f + o + j) ++ bcs ((cs.drop j).take q) ++ (bcs (putAt L (32 * f + o) (cs.take j)) ++ X).drop ((32 * f + o + j) + (bcs ((cs.drop j).take q)).length)).toArray = R at *
      have hcr2 := hput.cell
      rw [show 32 * f + o + j = f' * 32 + o' by omega] at hcp
      have HP := Lib.hid hput
      have HU := Lib.hid hup
      have HR2 := Lib.hid hrd2
      have HN := Lib.hid hne
      have HQ := Lib.hid hq
      have HKK := Lib.hid hK
      have HPP := Lib.hid hp
      have HLL := Lib.hid hl
      clear hput hup hup1 hrd2 hne hX hu hrd hsrc hq hK hql hl hpos hp
      have i0 : (0 : Int) ≤ (f' : Int) := by omega
      have i1 : (f' : Int) < (n : Int) := by have := HPP.out; omega
      have i2 : (o' : Int) ≤ 32 := by omega
      have i3 : ((q : Nat) : Int) ≤ ((K - j : Nat) : Int) := by omega
      have i4 : (0 : Int) ≤ (q : Int) := by omega
      have i5 : 0 < K - j := by omega
      have i6 : ¬ 32 = o' := by omega
      go_wp2
      have hA' : (if c' = q then some (⟨sb, so, none⟩ : Addr) else some ⟨sb, so + q, none⟩) = some ⟨sb, if c' = q then so else so + q, none⟩ := by split <;> rfl
      rw [hA']
      go_roundw
      case rel =>
        have e1 : K - j - q = K - (j + q) := by omega
        refine ⟨j + q, f' + 1, 0, c' - q, some ⟨sb, if c' = q then so else so + q, none⟩, by omega, by go_num, by go_num, by rw [e1], by omega, fun hh => ?_, ?_, ?_, HP.out, HU.out⟩
        · have := HPP.out
          have := hqf
          omega
        · intro hh
          have h2 := HKK.out
          simp only [List.length_drop] at hh
          have hcq : ¬ c' = q := by omega
          obtain ⟨b2, o2, he, hcell⟩ := HR2.out (by simp; omega)
          injection he with he
          injection he with hb hoo _
          subst hb hoo
          refine ⟨sb, so + q, by rw [if_neg hcq], fun i c hi => ?_⟩
          have := hcell (q + i) c (by rw [← hi, List.getElem?_drop, List.getElem?_drop]; congr 1; omega)
          rw [← this]
          congr 2
          omega
        · intro _ b2 o2 he
          injection he with he
          injection he with hb _ _
          subst hb
          exact HN.out hlt sb so rfl
      case measure => simp; omega
    · have hjk : j = K := by omega
      subst hjk
      have HX := Lib.hid hX
      have HU := Lib.hid hu
      have e0 : j - j = 0 := by omega
      clear hrd hX hu hne hpos
      rw [e0]
      go_wp2
      go_ret
      refine ⟨rfl, ⟨cp, X, ?_⟩, HU.out⟩
      have := HX.out
      rw [List.take_of_length_le (by rw [HK.out]; omega)] at this
      exact this

end Go.Proofs.Ytmfokjifloafhaa
