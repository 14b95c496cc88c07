/- The walks of the statements on frames: each law answers true, whatever it is called with. -/
import Derived.Test.YtmfokjifloafhaaMemOpen
namespace Go.Proofs.Ytmfokjifloafhaa
open Go.RowKit

theorem ite_pair (c : Prop) [Decidable c] (a b a' b' : Value) : (if c then Value.tuple #[a, b] else Value.tuple #[a', b']) = Value.tuple #[if c then a else a', if c then b else b'] := by split <;> rfl
theorem ite_int (c : Prop) [Decidable c] (k : IntKind) (a b : Int) : (if c then Value.int k a else Value.int k b) = Value.int k (if c then a else b) := by split <;> rfl

set_option maxHeartbeats 2000000 in
theorem reads_any (u : Nat) (hu8 : u < 256) (A : Option Addr) (len cap : Nat) (x y : Int) (w : World) (hd : Deeds w A len) (hlen : len ≤ 9223372036854775807) :
    Calls Try.prog 4 #[.int .u8 (u : Int), .slice A len cap, .agg #[.int .i64 x, .int .i64 y]] w (TruePost w) := by
  have HD := Lib.hid (hd.upd (w' := w.alloc (.cells #[.int .i64 x, .int .i64 y] 37)) ((Upd.refl [] w).alloc _))
  clear hd
  go_enter Try.func4, Try.ntmps4
  go_wp2_with fail
  have hnew := Blk.new w 37 #[.int .i64 x, .int .i64 y]
  have hu0 := (Upd.refl [] w).alloc (.cells #[.int .i64 x, .int .i64 y] 37)
  generalize (w.alloc (.cells #[.int .i64 x, .int .i64 y] 37)) = W1 at *
  generalize w.heap.size = Nb at *
  refine (play_any u hu8 A len cap _ HD.out hlen).mono ?_; rintro e w1 ⟨m, fb, r, rb, L, rfl, hb, hu, _, _, _, _⟩
  have hw0 : w1.cell? ⟨Nb, 0, none⟩ = some (.int .i64 x) := hu.lt_old (hnew.cellAt (i := 0) rfl)
  have hw1 : w1.cell? ⟨Nb, 1, none⟩ = some (.int .i64 y) := hu.lt_old (hnew.cellAt (i := 1) rfl)
  have HB := Lib.hid hb
  have HU := Lib.hid (hu0.trans0 hu)
  clear hb hu hnew hu0
  go_wp2_with fail
  refine (live_any _).mono ?_; rintro e w2 ⟨rfl, hu2⟩
  have HB2 := Lib.hid (HB.out.upd hu2 (by simp) (by simp) (by simp) (by simp))
  have HU2 := Lib.hid (HU.out.trans0 hu2)
  have hx0 := hu2.lt_old hw0
  have hx1 := hu2.lt_old hw1
  have h1 := mem_word m fb _ L x y w2 HB2.out.mem
  have h2 := fun k => ref_word r rb _ L x y (w2.drewN k) ⟨HB2.out.ref.choose, HB2.out.ref.choose_spec.choose, ⟨HB2.out.ref.choose_spec.choose_spec.obj, HB2.out.ref.choose_spec.choose_spec.row, HB2.out.ref.choose_spec.choose_spec.len, HB2.out.ref.choose_spec.choose_spec.lo, HB2.out.ref.choose_spec.choose_spec.hi, HB2.out.ref.choose_spec.choose_spec.cap⟩⟩
  have h3 := fun k => mem_byte m fb _ L x y (w2.drewN k) ⟨HB2.out.mem.choose, HB2.out.mem.choose_spec.choose, ⟨HB2.out.mem.choose_spec.choose_spec.obj, HB2.out.mem.choose_spec.choose_spec.row, HB2.out.mem.choose_spec.choose_spec.len, HB2.out.mem.choose_spec.choose_spec.lo, HB2.out.mem.choose_spec.choose_spec.hi⟩⟩
  have h4 := fun k => ref_byte r rb _ L x y (w2.drewN k) ⟨HB2.out.ref.choose, HB2.out.ref.choose_spec.choose, ⟨HB2.out.ref.choose_spec.choose_spec.obj, HB2.out.ref.choose_spec.choose_spec.row, HB2.out.ref.choose_spec.choose_spec.len, HB2.out.ref.choose_spec.choose_spec.lo, HB2.out.ref.choose_spec.choose_spec.hi, HB2.out.ref.choose_spec.choose_spec.cap⟩⟩
  simp only [ite_pair, ite_int] at h1 h2 h3 h4
  generalize (if 0 ≤ x ∧ x < ((u % 6 + 1 : Nat) : Int) ∧ 0 ≤ y ∧ y ≤ 30 then ((L.getD (32 * x.toNat + y.toNat) 0).toNat : Int) * 256 + ((L.getD (32 * x.toNat + y.toNat + 1) 0).toNat : Int) else 0) = X1 at *
  generalize (if 0 ≤ x ∧ x < ((u % 6 + 1 : Nat) : Int) ∧ 0 ≤ y ∧ y ≤ 30 then (0 : Int) else 2) = E1 at *
  generalize (if 0 ≤ x ∧ x < ((u % 6 + 1 : Nat) : Int) ∧ 0 ≤ y ∧ y ≤ 31 then ((L.getD (32 * x.toNat + y.toNat) 0).toNat : Int) else 0) = X2 at *
  generalize (if 0 ≤ x ∧ x < ((u % 6 + 1 : Nat) : Int) ∧ 0 ≤ y ∧ y ≤ 31 then (0 : Int) else 2) = E2 at *
  have H1 := Lib.hid h1
  have H2 := Lib.hid h2
  have H3 := Lib.hid h3
  have H4 := Lib.hid h4
  have b1 : (X1 == X1) = true := by simp
  have b2 : (E1 == E1) = true := by simp
  have b3 : (X2 == X2) = true := by simp
  have b4 : (E2 == E2) = true := by simp
  clear hu2 hw0 hw1 h1 h2 h3 h4
  go_wp2_with fail
  refine H1.out.mono ?_; rintro e w3 ⟨rfl, k1, rfl⟩
  go_wp2_with fail
  refine (H2.out _).mono ?_; rintro e w3 ⟨rfl, k2, rfl⟩
  go_wp2_with fail
  refine (H3.out _).mono ?_; rintro e w3 ⟨rfl, rfl⟩
  go_wp2_with fail
  refine (H4.out _).mono ?_; rintro e w3 ⟨rfl, rfl⟩
  go_wp2_with fail
  go_ret
  exact ⟨by simp, HU2.out.drewN _⟩

theorem MemAt.drewN {w : World} {m fb n : Nat} {L : List UInt8} (h : MemAt w m fb n L) (k : Nat) : MemAt (w.drewN k) m fb n L := by
  obtain ⟨c, X, h⟩ := h
  exact ⟨c, X, ⟨h.obj, h.row, h.len, h.lo, h.hi⟩⟩
theorem RefAt.drewN {w : World} {m fb n : Nat} {L : List UInt8} (h : RefAt w m fb n L) (k : Nat) : RefAt (w.drewN k) m fb n L := by
  obtain ⟨c, X, h⟩ := h
  exact ⟨c, X, ⟨h.obj, h.row, h.len, h.lo, h.hi, h.cap⟩⟩
theorem MemAt.length {w : World} {m fb n : Nat} {L : List UInt8} (h : MemAt w m fb n L) : L.length = 32 * n := by
  obtain ⟨c, X, h⟩ := h
  exact h.len

theorem mem_byte_at (m fb n : Nat) (L : List UInt8) (f o : Nat) (w : World) (h : MemAt w m fb n L) (hf : f < n) (ho : o < 32) :
    Calls Try.prog 15 #[.pointer (some ⟨m, 0, none⟩), .int .i64 (f : Int), .int .i64 (o : Int)] w fun e w' =>
      e = .returned (.tuple #[.int .u8 ((L.getD (32 * f + o) 0).toNat : Int), .int .i64 0]) ∧ w = w' := by
  have := mem_byte m fb n L f o w h
  rw [if_pos (by omega), Int.toNat_natCast, Int.toNat_natCast] at this
  exact this

set_option maxRecDepth 100000 in
set_option maxHeartbeats 4000000 in
theorem writes_any (A : Option Addr) (len cap : Nat) (cs : List Value) (u0 u1 : Nat) (w : World) (hd : Deeds w A len) (hlen : len ≤ 9223372036854775807) (hx : DeedOk w cs) (hu0 : u0 < 256) (hu1 : u1 < 256) :
    Calls Try.prog 5 #[.slice A len cap, .agg cs.toArray, .agg #[.int .u8 (u0 : Int), .int .u8 (u1 : Int)]] w (TruePost w) := by
  obtain ⟨kind, f, o, x, B, c, bs, rfl, x0, x1, hc, hr⟩ := hx
  generalize bs.length = bl at *
  clear hr hc
  have hup := ((Upd.refl [] w).alloc (.cells #[.int .i64 kind, .int .i64 f, .int .i64 o, .int .u16 x, .slice B bl c] 44)).alloc (.cells #[.int .u8 (u0 : Int), .int .u8 (u1 : Int)] 23)
  have hn1 := (Blk.new w 44 #[.int .i64 kind, .int .i64 f, .int .i64 o, .int .u16 x, .slice B bl c]).alloc (.cells #[.int .u8 (u0 : Int), .int .u8 (u1 : Int)] 23)
  have hn2 := Blk.new (w.alloc (.cells #[.int .i64 kind, .int .i64 f, .int .i64 o, .int .u16 x, .slice B bl c] 44)) 23 #[.int .u8 (u0 : Int), .int .u8 (u1 : Int)]
  rw [show (w.alloc (.cells #[.int .i64 kind, .int .i64 f, .int .i64 o, .int .u16 x, .slice B bl c] 44)).heap.size = w.heap.size + 1 by simp] at hn2
  have HD := Lib.hid (hd.upd hup)
  have HUP := Lib.hid hup
  have HN1 := Lib.hid hn1
  have HN2 := Lib.hid hn2
  clear hd hup hn1 hn2
  go_enter Try.func5, Try.ntmps5
  go_wp2_with fail
  generalize ((w.alloc (.cells #[.int .i64 kind, .int .i64 f, .int .i64 o, .int .u16 x, .slice B bl c] 44)).alloc (.cells #[.int .u8 (u0 : Int), .int .u8 (u1 : Int)] 23)) = W1 at *
  have hlt1 := HN1.out.lt
  have hlt2 := HN2.out.lt
  have hne : ¬ w.heap.size = w.heap.size + 1 := by omega
  generalize w.heap.size + 1 = N2 at *
  generalize w.heap.size = N1 at *
  refine (show Calls Try.prog 10 #[.int .u8 3, .slice A len cap] _ (PlayPost _ 4) from play_any 3 (by omega) A len cap _ HD.out hlen).mono ?_; rintro e w1 ⟨m, fb, r, rb, L, rfl, hb, hu, hm0, hfb0, _, _⟩
  have HB := Lib.hid hb
  have HU := Lib.hid hu
  clear hb hu
  go_wp2_with fail
  refine (live_any _).mono ?_; rintro e w2 ⟨rfl, hu2⟩
  have HB2 := Lib.hid (HB.out.upd hu2 (by simp) (by simp) (by simp) (by simp))
  have HU2 := Lib.hid (HU.out.trans0 hu2)
  have c0 : w2.cell? ⟨N2, 0, none⟩ = some (.int .u8 (u0 : Int)) := HU2.out.lt_old (HN2.out.cellAt (i := 0) rfl)
  have c1 : w2.cell? ⟨N2, 1, none⟩ = some (.int .u8 (u1 : Int)) := HU2.out.lt_old (HN2.out.cellAt (i := 1) rfl)
  have d1 : w2.cell? ⟨N1, 1, none⟩ = some (.int .i64 f) := HU2.out.lt_old (HN1.out.cellAt (i := 1) rfl)
  have d2 : w2.cell? ⟨N1, 2, none⟩ = some (.int .i64 o) := HU2.out.lt_old (HN1.out.cellAt (i := 2) rfl)
  have d3 : w2.cell? ⟨N1, 3, none⟩ = some (.int .u16 x) := HU2.out.lt_old (HN1.out.cellAt (i := 3) rfl)
  obtain ⟨cz, Xz, hz⟩ := HB2.out.mem
  have hcell := hz.cell
  have hlen2 := Lib.hid hz.len
  clear hu2 hz
  go_wp2_with fail
  have e0 : (u0 : Int).tmod 4 = ((u0 % 4 : Nat) : Int) := by rw [Int.tmod_eq_emod_of_nonneg (by omega)]; omega
  have e1 : (u1 : Int).tmod 32 = ((u1 % 32 : Nat) : Int) := by rw [Int.tmod_eq_emod_of_nonneg (by omega)]; omega
  have s1 := Lib.hid (fun k : Nat => mem_size m fb 4 cz (w2.drewN k) hcell)
  go_quiet ((go_at_call 13; exact Calls.quiet_of_same ((s1.out _).mono fun e w' ⟨h1, h2⟩ => ⟨h1, h2.symm⟩)))
  go_wp2_with fail
  have HB3 := Lib.hid (HB2.out.mem.drewN nq)
  have HU3 := Lib.hid (HU2.out.drewN nq)
  have d1' : (w2.drewN nq).cell? ⟨N1, 1, none⟩ = some (.int .i64 f) := d1
  have d2' : (w2.drewN nq).cell? ⟨N1, 2, none⟩ = some (.int .i64 o) := d2
  have d3' : (w2.drewN nq).cell? ⟨N1, 3, none⟩ = some (.int .u16 x) := d3
  have hnfb : N1 ∉ [fb] := by simp; omega
  rw [show (u0 : Int) % 4 = ((u0 % 4 : Nat) : Int) by omega, show (u1 : Int) % 32 = ((u1 % 32 : Nat) : Int) by omega]
  have ha : u0 % 4 < 4 := by omega
  have hb : u1 % 32 < 32 := by omega
  generalize u0 % 4 = a at *
  generalize u1 % 32 = b at *
  clear e0 e1 c0 c1 d1 d2 d3 hcell s1 HB2 HU2 hlt1 hlt2
  generalize w2.drewN nq = w3 at *
  have hby0 := mem_byte_at m fb 4 L a b w3 HB3.out ha hb
  generalize hV : ((L.getD (32 * a + b) 0).toNat : Int) = V at hby0
  have HV := Lib.hid hV
  have HBY0 := Lib.hid hby0
  have kV : (V == V) = true := by simp
  clear hV hby0
  refine HBY0.out.mono ?_; rintro e w' ⟨rfl, rfl⟩
  go_wp2_with fail
  have hset := mem_setWord m fb 4 L f o x w3 HB3.out x0 x1
  by_cases hok : 0 ≤ f ∧ f < (4 : Nat) ∧ 0 ≤ o ∧ o ≤ 30
  · rw [if_pos hok, if_pos hok] at hset
    refine hset.mono ?_; rintro e w4 ⟨rfl, hm4, hu4⟩
    obtain ⟨f0, f1, o0, o1⟩ := hok
    obtain ⟨F, rfl⟩ : ∃ F : Nat, f = F := ⟨f.toNat, by omega⟩
    obtain ⟨O, rfl⟩ : ∃ O : Nat, o = O := ⟨o.toNat, by omega⟩
    rw [Int.toNat_natCast, Int.toNat_natCast] at hm4
    have hLL := hlen2.out
    have q1 : (putAt L (32 * F + O) [UInt8.ofNat (x / 256).toNat, UInt8.ofNat (x % 256).toNat]).getD (32 * F + O) 0 = UInt8.ofNat (x / 256).toNat := by
      have := putAt_getD_in L [UInt8.ofNat (x / 256).toNat, UInt8.ofNat (x % 256).toNat] (32 * F + O) 0 (by simp; omega) (by simp)
      simpa using this
    have q2 : (putAt L (32 * F + O) [UInt8.ofNat (x / 256).toNat, UInt8.ofNat (x % 256).toNat]).getD (32 * F + O + 1) 0 = UInt8.ofNat (x % 256).toNat := by
      have := putAt_getD_in L [UInt8.ofNat (x / 256).toNat, UInt8.ofNat (x % 256).toNat] (32 * F + O) 1 (by simp; omega) (by simp)
      simpa using this
    have q3 : ¬ (a = F ∧ (b = O ∨ b = O + 1)) → (putAt L (32 * F + O) [UInt8.ofNat (x / 256).toNat, UInt8.ofNat (x % 256).toNat]).getD (32 * a + b) 0 = L.getD (32 * a + b) 0 := fun hh =>
      putAt_getD_out L _ (32 * F + O) (32 * a + b) (by simp; omega) (by simp; omega)
    have hw := mem_word m fb 4 _ F O w4 hm4
    rw [if_pos (by omega), Int.toNat_natCast, Int.toNat_natCast, q1, q2] at hw
    rw [show (((UInt8.ofNat (x / 256).toNat).toNat : Int) * 256 + ((UInt8.ofNat (x % 256).toNat).toNat : Int)) = x by simp; omega] at hw
    have hby := mem_byte_at m fb 4 _ a b w4 hm4 ha hb
    generalize putAt L (32 * F + O) [UInt8.ofNat (x / 256).toNat, UInt8.ofNat (x % 256).toNat] = L4 at *
    have g1 := hu4.cellAt d1' hnfb
    have g2 := hu4.cellAt d2' hnfb
    have g3 := hu4.cellAt d3' hnfb
    have HU4 := Lib.hid (HU3.out.trans hu4 (fun s hs => .inr (by simp at hs; have := HUP.out.size; omega)))
    have HW := Lib.hid hw
    have HBY := Lib.hid hby
    have hxx : (x == x) = true := by simp
    have Q3 := Lib.hid q3
    clear hset hw hby q1 q2 q3 hm4 hu4 d1' d2' d3' hLL
    by_cases hF : a = F
    · subst hF
      have kF : ((a : Int) == (a : Int)) = true := by simp
      by_cases hO : b = O
      · subst hO
        have kO : ((b : Int) == (b : Int)) = true := by simp
        go_wp2_with fail
        refine HBY.out.mono ?_; rintro e w' ⟨rfl, rfl⟩
        go_wp2_with fail
        refine HW.out.mono ?_; rintro e w' ⟨rfl, kk, rfl⟩
        go_wp2_with fail
        go_ret
        exact ⟨by simp, (HUP.out.trans0 HU4.out).drewN _⟩
      · have kO : ((b : Int) == (O : Int)) = false := by rw [beq_eq_false_iff_ne]; omega
        by_cases hO1 : b = O + 1
        · have kO1 : ((b : Int) == (O : Int) + 1) = true := by rw [beq_iff_eq]; omega
          have HO1 := Lib.hid hO1
          clear hO1 hO
          go_wp2_with fail
          refine HBY.out.mono ?_; rintro e w' ⟨rfl, rfl⟩
          go_wp2_with fail
          refine HW.out.mono ?_; rintro e w' ⟨rfl, kk, rfl⟩
          go_wp2_with fail
          go_ret
          exact ⟨by simp, (HUP.out.trans0 HU4.out).drewN _⟩
        · have kO1 : ((b : Int) == (O : Int) + 1) = false := by rw [beq_eq_false_iff_ne]; omega
          have hq := Q3.out (by omega)
          rw [hq, HV.out] at HBY
          clear hq hO hO1
          go_wp2_with fail
          refine HBY.out.mono ?_; rintro e w' ⟨rfl, rfl⟩
          go_wp2_with fail
          refine HW.out.mono ?_; rintro e w' ⟨rfl, kk, rfl⟩
          go_wp2_with fail
          go_ret
          exact ⟨by simp, (HUP.out.trans0 HU4.out).drewN _⟩
    · have kF : ((a : Int) == (F : Int)) = false := by rw [beq_eq_false_iff_ne]; omega
      have hq := Q3.out (fun hh => hF hh.1)
      rw [hq, HV.out] at HBY
      clear hq hF
      go_wp2_with fail
      refine HBY.out.mono ?_; rintro e w' ⟨rfl, rfl⟩
      go_wp2_with fail
      refine HW.out.mono ?_; rintro e w' ⟨rfl, kk, rfl⟩
      go_wp2_with fail
      go_ret
      exact ⟨by simp, (HUP.out.trans0 HU4.out).drewN _⟩
  · rw [if_neg hok, if_neg hok] at hset
    refine hset.mono ?_; rintro e w4 ⟨rfl, hm4, hu4⟩
    have HM4 := Lib.hid hm4
    have HU4 := Lib.hid (HU3.out.trans hu4 (fun s hs => .inr (by simp at hs; have := HUP.out.size; omega)))
    clear hset hm4 hu4 hok d1' d2' d3'
    go_wp2_with fail
    have hby := mem_byte_at m fb 4 L a b w4 HM4.out ha hb
    rw [HV.out] at hby
    refine hby.mono ?_; rintro e w' ⟨rfl, rfl⟩
    clear hby
    go_wp2_with fail
    go_ret
    exact ⟨by simp, HUP.out.trans0 HU4.out⟩

end Go.Proofs.Ytmfokjifloafhaa
