/- The least descriptor is given. -/
import Derived.Test.YtedaffkdfniikaaFdsLaws
namespace Go.Proofs.Ytedaffkdfniikaa
open Go.RowKit Go.Shelf

theorem opn_bad {S : St} {p : Int} {o : Op} (h : opnE S p o ≠ 0) : opnV S p o = 0 ∧ ((opnE S p o = 5 ∧ roomO S p = 0) ∨ opnE S p o = 2 ∨ (opnE S p o = 11 ∧ roomO S p = 0 ∧ (lisO S p).length = 8)) := by
  unfold opnE opnV at *
  by_cases he : ofE S p = 0
  · rw [if_pos he] at h ⊢
    rw [if_pos he]
    by_cases hb : badO o
    · rw [if_pos hb] at h ⊢
      rw [if_pos hb]
      exact ⟨rfl, .inr (.inl rfl)⟩
    · rw [if_neg hb] at h ⊢
      rw [if_neg hb]
      cases hl : lstF S.fd p.toNat with
      | none =>
        refine ⟨rfl, .inr (.inr ⟨rfl, (room_zero he).2 hl, ?_⟩)⟩
        unfold lisO
        rw [if_pos he]
        exact (lisL_full S.fd p.toNat 8).2 (lst_none hl)
      | some k => rw [hl] at h; exact absurd rfl h
  · rw [if_neg he] at h ⊢
    rw [if_neg he]
    refine ⟨rfl, .inl ⟨rfl, ?_⟩⟩
    unfold roomO
    rw [if_neg he]

set_option maxRecDepth 100000 in
set_option maxHeartbeats 4000000 in
theorem least_any (A : Option Addr) (len cap : Nat) (p : Nat) (o : Op) (w : World) (hd : Deeds w A len) (hlen : len ≤ 9223372036854775807) (hp : p < 256) (ho : o.k < 256) :
    Calls Try.prog 5 #[.slice A len cap, .int .u8 p, .agg (encO o).toArray] w (TruePost w) := by
  unfold encO
  have hu0 := (Upd.refl [] w).alloc (.cells #[.int .u8 o.k, .int .i64 o.r, .int .i64 o.p] 30)
  have HD := Lib.hid (hd.upd hu0)
  have HU0 := Lib.hid hu0
  have HBO : Hid (Blk (w.alloc (.cells #[.int .u8 o.k, .int .i64 o.r, .int .i64 o.p] 30)) w.heap.size 30 #[.int .u8 o.k, .int .i64 o.r, .int .i64 o.p]) := Lib.hid (Blk.new w _ _)
  have HO := Lib.hid ho
  have he := eql_open
  have hgd := guard_open
  obtain ⟨pid, hpid⟩ : ∃ pid : Int, pid = (p : Int) % 6 := ⟨_, rfl⟩
  have HPID := Lib.hid hpid
  have p0 : (0 : Int) ≤ (p : Int) := by omega
  have p1 : (p : Int) < 256 := by omega
  have hpw : IntKind.wrap .i64 (p : Int) = (p : Int) := by rw [IntKind.wrap_i64]; omega
  clear hd hu0 ho hp
  go_enter Try.func5, Try.ntmps5
  go_wp2_with fail
  refine (play_any A len cap _ HD.out hlen).mono ?_; rintro e w1 ⟨t, r, S, rfl, hb⟩
  have HB := Lib.hid hb
  clear hb
  go_wp2_with fail
  refine (live_any _).mono ?_; rintro e w2 ⟨rfl, hu2⟩
  have HB2 := Lib.hid (HB.out.upd0 hu2)
  clear hu2
  go_wp2_with fail
  rw [← hpid]
  clear hpid
  refine (tList HB2.out pid).mono ?_; rintro e w3 ⟨A3, c3, rfl, hr3, hu3⟩
  have HB3 := Lib.hid (HB2.out.upd0 hu3)
  have HR3 := Lib.hid hr3
  have HLE := Lib.hid (lisO_le S pid)
  obtain ⟨L, hL⟩ : ∃ L, L = lisO S pid := ⟨_, rfl⟩
  rw [← hL] at HR3 HLE
  rw [← hL]
  have HL := Lib.hid hL
  clear hu3 hr3 hL
  generalize hn : L.length = n at *
  have HN := Lib.hid hn
  have hn8 := HLE.out
  clear hn
  go_wp2_with fail
  go_loopw [12] (fun v wr => ∃ j : Nat, j ≤ n ∧ v = .int .i64 (j : Int) ∧ wr = w3 ∧ ∀ y, y < j → L[y]? = some y) (fun v _ => n - (intOf v).toNat)
  case atStart => exact ⟨0, by omega, rfl, rfl, by intro y hy; omega⟩
  case round =>
    obtain ⟨j, hj, rfl, rfl, hpre⟩ := hrel
    have HPRE := Lib.hid hpre
    clear hpre
    by_cases hlt : j < n ∧ L[j]? = some j
    · obtain ⟨l1, l2⟩ := hlt
      obtain ⟨b, off, rfl, hcs⟩ := HR3.out (by simp [ints]; have := HN.out; omega)
      have hc := hcs j (.int .i64 (j : Int)) (by simp [ints, l2])
      have HP2 := Lib.hid (show ∀ y, y < j + 1 → L[y]? = some y from fun y hy => by
        by_cases hyj : y = j
        · rw [hyj]; exact l2
        · exact HPRE.out y (by omega))
      have j0 : (0 : Int) ≤ (j : Int) := by omega
      have j1 : (j : Int) < (n : Int) := by omega
      have hjj : ((j : Int) == (j : Int)) = true := by simp
      clear l2 hcs
      go_wp2_with fail
      go_roundw
      case rel => exact ⟨j + 1, by omega, by go_num, (by first | rfl | trivial), HP2.out⟩
      case measure => simp [intOf]; omega
    · have HX := Lib.hid (show L[j]? ≠ some j from fun e => hlt ⟨by have := (List.getElem?_eq_some_iff.1 e).1; have := HN.out; omega, e⟩)
      have HROOM := Lib.hid (fun W (hW : BLive (w.alloc (.cells #[.int .u8 o.k, .int .i64 o.r, .int .i64 o.p] 30)) t r [] 51 S S W) => tRoom hW pid)
      have HOPEN := Lib.hid (fun W (hW : BLive (w.alloc (.cells #[.int .u8 o.k, .int .i64 o.r, .int .i64 o.p] 30)) t r [] 51 S S W) => pOpen hW pid o HO.out)
      have hfirst : j < n → (∃ v : Nat, L[j]? = some v ∧ v ≠ j) := fun hjn => by
        obtain ⟨v, hv⟩ : ∃ v, L[j]? = some v := ⟨_, List.getElem?_eq_getElem (by have := HN.out; omega)⟩
        exact ⟨v, hv, fun e => HX.out (by rw [hv, e])⟩
      have HFIRST := Lib.hid hfirst
      clear hlt hfirst
      by_cases hE : opnE S pid o = 0
      · obtain ⟨k, q1, q2, q3, q4, q5⟩ := opn_ok hE
        obtain ⟨g1, g2, g3⟩ := opn_get (o := o) q1 q3
        have hkj : k = j := by
          have hl8 : L = lisL S.fd pid.toNat 8 := by rw [HL.out]; unfold lisO; rw [if_pos q1]
          refine want_is (f := S.fd) (i := pid.toNat) ?_ ?_ (by omega) q3
          · rw [← hl8]; exact HPRE.out
          · rw [← hl8]; exact HX.out
        subst hkj
        rw [hE, q4, q5] at HOPEN
        rw [q5] at *
        have HGET := Lib.hid (fun W (hW : BLive (w.alloc (.cells #[.int .u8 o.k, .int .i64 o.r, .int .i64 o.p] 30)) t r [] 51 (putN S pid.toNat o (some k)) S W) => tGet hW pid (k : Int))
        rw [g1, g2] at HGET
        have HROOM2 := Lib.hid (fun W (hW : BLive (w.alloc (.cells #[.int .u8 o.k, .int .i64 o.r, .int .i64 o.p] 30)) t r [] 51 (putN S pid.toNat o (some k)) S W) => tRoom hW pid)
        rw [g3] at HROOM2
        have hrr : 0 ≤ roomO S pid ∧ roomO S pid ≤ 8 := by
          unfold roomO
          rw [if_pos q1]
          have := lisL_le S.fd pid.toNat 8
          omega
        obtain ⟨rr0, rr1⟩ := hrr
        have hrb : ((roomO S pid - 1) == (roomO S pid - 1)) = true := by simp
        generalize roomO S pid = rm at *
        generalize putN S pid.toNat o (some k) = S' at *
        have hkk : ((k : Int) == (k : Int)) = true := by simp
        clear hE q1 q2 q3 q4 q5 g1 g2 g3
        rcases Nat.lt_or_ge k n with hjn | hjn
        · obtain ⟨v, hv, hvj⟩ := HFIRST.out hjn
          obtain ⟨b, off, rfl, hcs⟩ := HR3.out (by simp [ints]; have := HN.out; omega)
          have hc := hcs k (.int .i64 (v : Int)) (by simp [ints, hv])
          have j0 : (0 : Int) ≤ (k : Int) := by omega
          have j1 : (k : Int) < (n : Int) := by omega
          have hvb : ((v : Int) == (k : Int)) = false := by rw [beq_eq_false_iff_ne]; omega
          clear hv hcs hvj hjn
          go_wp2_with fail
          refine (HROOM.out _ HB3.out).mono ?_; rintro e w4 ⟨rfl, hu4⟩
          have HB4 := Lib.hid (HB3.out.upd0 hu4)
          have hb4 := HBO.out.upd HB4.out.upd (by simp)
          have c0 := hb4.cellAt (i := 0) (v := .int .u8 o.k) rfl
          have c1 := hb4.cellAt (i := 1) (v := .int .i64 o.r) rfl
          have c2 := hb4.cellAt (i := 2) (v := .int .i64 o.p) rfl
          clear hu4 hb4
          go_wp2_with fail
          refine (HOPEN.out _ HB4.out).mono ?_; rintro e w5 ⟨rfl, h5, _⟩
          have HB5 := Lib.hid h5
          clear h5
          go_wp2_with fail
          refine (HGET.out _ HB5.out).mono ?_; rintro e w6 ⟨rfl, hu6⟩
          have HB6 := Lib.hid (HB5.out.upd0 (hu6.alloc (.cells #[.int .u8 o.k, .int .i64 o.r, .int .i64 o.p] 30)))
          have hb6 := HBO.out.upd HB6.out.upd (by simp)
          have e0 := hb6.cellAt (i := 0) (v := .int .u8 o.k) rfl
          have e1 := hb6.cellAt (i := 1) (v := .int .i64 o.r) rfl
          have e2 := hb6.cellAt (i := 2) (v := .int .i64 o.p) rfl
          clear hu6 hb6
          go_wp2_with fail
          refine (HROOM2.out _ HB6.out).mono ?_; rintro e w7 ⟨rfl, hu7⟩
          have HU7 := Lib.hid (HU0.out.trans' (HB6.out.upd.trans' hu7))
          clear hu7
          go_wp2_with fail
          go_ret
          exact ⟨by simp, HU7.out⟩
        · have j1 : ¬ (k : Int) < (n : Int) := by omega
          clear hjn
          go_wp2_with fail
          refine (HROOM.out _ HB3.out).mono ?_; rintro e w4 ⟨rfl, hu4⟩
          have HB4 := Lib.hid (HB3.out.upd0 hu4)
          have hb4 := HBO.out.upd HB4.out.upd (by simp)
          have c0 := hb4.cellAt (i := 0) (v := .int .u8 o.k) rfl
          have c1 := hb4.cellAt (i := 1) (v := .int .i64 o.r) rfl
          have c2 := hb4.cellAt (i := 2) (v := .int .i64 o.p) rfl
          clear hu4 hb4
          go_wp2_with fail
          refine (HOPEN.out _ HB4.out).mono ?_; rintro e w5 ⟨rfl, h5, _⟩
          have HB5 := Lib.hid h5
          clear h5
          go_wp2_with fail
          refine (HGET.out _ HB5.out).mono ?_; rintro e w6 ⟨rfl, hu6⟩
          have HB6 := Lib.hid (HB5.out.upd0 (hu6.alloc (.cells #[.int .u8 o.k, .int .i64 o.r, .int .i64 o.p] 30)))
          have hb6 := HBO.out.upd HB6.out.upd (by simp)
          have e0 := hb6.cellAt (i := 0) (v := .int .u8 o.k) rfl
          have e1 := hb6.cellAt (i := 1) (v := .int .i64 o.r) rfl
          have e2 := hb6.cellAt (i := 2) (v := .int .i64 o.p) rfl
          clear hu6 hb6
          go_wp2_with fail
          refine (HROOM2.out _ HB6.out).mono ?_; rintro e w7 ⟨rfl, hu7⟩
          have HU7 := Lib.hid (HU0.out.trans' (HB6.out.upd.trans' hu7))
          clear hu7
          go_wp2_with fail
          go_ret
          exact ⟨by simp, HU7.out⟩
      · obtain ⟨b1, hbad⟩ := opn_bad hE
        rw [b1] at HOPEN
        generalize opnS S pid o = S' at *
        rcases hbad with ⟨b2, b3⟩ | b2 | ⟨b2, b3, b4⟩
        · rw [b2] at HOPEN
          rw [b3] at HROOM
          clear hE b1 b2 b3
          rcases Nat.lt_or_ge j n with hjn | hjn
          · obtain ⟨v, hv, hvj⟩ := HFIRST.out hjn
            obtain ⟨b, off, rfl, hcs⟩ := HR3.out (by simp [ints]; have := HN.out; omega)
            have hc := hcs j (.int .i64 (v : Int)) (by simp [ints, hv])
            have j0 : (0 : Int) ≤ (j : Int) := by omega
            have j1 : (j : Int) < (n : Int) := by omega
            have hvb : ((v : Int) == (j : Int)) = false := by rw [beq_eq_false_iff_ne]; omega
            clear hv hcs hvj hjn
            go_wp2_with fail
            refine (HROOM.out _ HB3.out).mono ?_; rintro e w4 ⟨rfl, hu4⟩
            have HB4 := Lib.hid (HB3.out.upd0 hu4)
            have hb4 := HBO.out.upd HB4.out.upd (by simp)
            have c0 := hb4.cellAt (i := 0) (v := .int .u8 o.k) rfl
            have c1 := hb4.cellAt (i := 1) (v := .int .i64 o.r) rfl
            have c2 := hb4.cellAt (i := 2) (v := .int .i64 o.p) rfl
            clear hu4 hb4
            go_wp2_with fail
            refine (HOPEN.out _ HB4.out).mono ?_; rintro e w5 ⟨rfl, h5, _⟩
            have HB5 := Lib.hid h5
            clear h5
            go_wp2_with fail
            go_ret
            exact ⟨by simp, HU0.out.trans' HB5.out.upd⟩
          · have j1 : ¬ (j : Int) < (n : Int) := by omega
            clear hjn
            go_wp2_with fail
            refine (HROOM.out _ HB3.out).mono ?_; rintro e w4 ⟨rfl, hu4⟩
            have HB4 := Lib.hid (HB3.out.upd0 hu4)
            have hb4 := HBO.out.upd HB4.out.upd (by simp)
            have c0 := hb4.cellAt (i := 0) (v := .int .u8 o.k) rfl
            have c1 := hb4.cellAt (i := 1) (v := .int .i64 o.r) rfl
            have c2 := hb4.cellAt (i := 2) (v := .int .i64 o.p) rfl
            clear hu4 hb4
            go_wp2_with fail
            refine (HOPEN.out _ HB4.out).mono ?_; rintro e w5 ⟨rfl, h5, _⟩
            have HB5 := Lib.hid h5
            clear h5
            go_wp2_with fail
            go_ret
            exact ⟨by simp, HU0.out.trans' HB5.out.upd⟩
        · rw [b2] at HOPEN
          generalize roomO S pid = rm at *
          clear hE b1 b2
          rcases Nat.lt_or_ge j n with hjn | hjn
          · obtain ⟨v, hv, hvj⟩ := HFIRST.out hjn
            obtain ⟨b, off, rfl, hcs⟩ := HR3.out (by simp [ints]; have := HN.out; omega)
            have hc := hcs j (.int .i64 (v : Int)) (by simp [ints, hv])
            have j0 : (0 : Int) ≤ (j : Int) := by omega
            have j1 : (j : Int) < (n : Int) := by omega
            have hvb : ((v : Int) == (j : Int)) = false := by rw [beq_eq_false_iff_ne]; omega
            clear hv hcs hvj hjn
            go_wp2_with fail
            refine (HROOM.out _ HB3.out).mono ?_; rintro e w4 ⟨rfl, hu4⟩
            have HB4 := Lib.hid (HB3.out.upd0 hu4)
            have hb4 := HBO.out.upd HB4.out.upd (by simp)
            have c0 := hb4.cellAt (i := 0) (v := .int .u8 o.k) rfl
            have c1 := hb4.cellAt (i := 1) (v := .int .i64 o.r) rfl
            have c2 := hb4.cellAt (i := 2) (v := .int .i64 o.p) rfl
            clear hu4 hb4
            go_wp2_with fail
            refine (HOPEN.out _ HB4.out).mono ?_; rintro e w5 ⟨rfl, h5, _⟩
            have HB5 := Lib.hid h5
            clear h5
            go_wp2_with fail
            go_ret
            exact ⟨by simp, HU0.out.trans' HB5.out.upd⟩
          · have j1 : ¬ (j : Int) < (n : Int) := by omega
            clear hjn
            go_wp2_with fail
            refine (HROOM.out _ HB3.out).mono ?_; rintro e w4 ⟨rfl, hu4⟩
            have HB4 := Lib.hid (HB3.out.upd0 hu4)
            have hb4 := HBO.out.upd HB4.out.upd (by simp)
            have c0 := hb4.cellAt (i := 0) (v := .int .u8 o.k) rfl
            have c1 := hb4.cellAt (i := 1) (v := .int .i64 o.r) rfl
            have c2 := hb4.cellAt (i := 2) (v := .int .i64 o.p) rfl
            clear hu4 hb4
            go_wp2_with fail
            refine (HOPEN.out _ HB4.out).mono ?_; rintro e w5 ⟨rfl, h5, _⟩
            have HB5 := Lib.hid h5
            clear h5
            go_wp2_with fail
            go_ret
            exact ⟨by simp, HU0.out.trans' HB5.out.upd⟩
        · rw [b2] at HOPEN
          rw [b3] at HROOM
          have hn88 : n = 8 := by rw [← HN.out, HL.out]; exact b4
          subst hn88
          clear hE b1 b2 b3 b4
          rcases Nat.lt_or_ge j 8 with hjn | hjn
          · obtain ⟨v, hv, hvj⟩ := HFIRST.out hjn
            obtain ⟨b, off, rfl, hcs⟩ := HR3.out (by simp [ints]; have := HN.out; omega)
            have hc := hcs j (.int .i64 (v : Int)) (by simp [ints, hv])
            have j0 : (0 : Int) ≤ (j : Int) := by omega
            have j1 : (j : Int) < 8 := by omega
            have hvb : ((v : Int) == (j : Int)) = false := by rw [beq_eq_false_iff_ne]; omega
            clear hv hcs hvj hjn
            go_wp2_with fail
            refine (HROOM.out _ HB3.out).mono ?_; rintro e w4 ⟨rfl, hu4⟩
            have HB4 := Lib.hid (HB3.out.upd0 hu4)
            have hb4 := HBO.out.upd HB4.out.upd (by simp)
            have c0 := hb4.cellAt (i := 0) (v := .int .u8 o.k) rfl
            have c1 := hb4.cellAt (i := 1) (v := .int .i64 o.r) rfl
            have c2 := hb4.cellAt (i := 2) (v := .int .i64 o.p) rfl
            clear hu4 hb4
            go_wp2_with fail
            refine (HOPEN.out _ HB4.out).mono ?_; rintro e w5 ⟨rfl, h5, _⟩
            have HB5 := Lib.hid h5
            clear h5
            go_wp2_with fail
            go_ret
            exact ⟨by simp, HU0.out.trans' HB5.out.upd⟩
          · have j1 : ¬ (j : Int) < 8 := by omega
            clear hjn
            go_wp2_with fail
            refine (HROOM.out _ HB3.out).mono ?_; rintro e w4 ⟨rfl, hu4⟩
            have HB4 := Lib.hid (HB3.out.upd0 hu4)
            have hb4 := HBO.out.upd HB4.out.upd (by simp)
            have c0 := hb4.cellAt (i := 0) (v := .int .u8 o.k) rfl
            have c1 := hb4.cellAt (i := 1) (v := .int .i64 o.r) rfl
            have c2 := hb4.cellAt (i := 2) (v := .int .i64 o.p) rfl
            clear hu4 hb4
            go_wp2_with fail
            refine (HOPEN.out _ HB4.out).mono ?_; rintro e w5 ⟨rfl, h5, _⟩
            have HB5 := Lib.hid h5
            clear h5
            go_wp2_with fail
            go_ret
            exact ⟨by simp, HU0.out.trans' HB5.out.upd⟩

end Go.Proofs.Ytedaffkdfniikaa
