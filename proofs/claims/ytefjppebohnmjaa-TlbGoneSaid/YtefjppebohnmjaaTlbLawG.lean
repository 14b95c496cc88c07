/- The walk of the statement on what Asid and Frame leave: printed by tlb_gone.py. -/
import Derived.Test.YtefjppebohnmjaaTlbLaws
namespace Go.Proofs.Ytefjppebohnmjaa
open Go.RowKit Go.Shelf

set_option maxRecDepth 100000 in
set_option maxHeartbeats 4000000 in
theorem gone_true (A : Option Addr) (len cap : Nat) (m : Mp) (w : World) (hd : Deeds w A len) (hlen : len ≤ 9223372036854775807) :
    Calls Try.prog 6 #[.slice A len cap, .agg (encM m).toArray, .bool true] w (TruePost w) := by
  have hb0 := Blk.new w 24 (encM m).toArray
  have hu0 := (Upd.refl [] w).alloc (.cells (encM m).toArray 24)
  have HD := Lib.hid (hd.upd hu0)
  have HB0 := Lib.hid hb0
  have HU0 := Lib.hid hu0
  clear hd hb0 hu0
  go_enter Try.func6, Try.ntmps6
  go_wp2_with fail
  refine (play_any A len cap _ HD.out hlen).mono ?_; rintro e w1 ⟨t, r, L, rfl, hb, hu⟩
  have HB := Lib.hid hb
  have HU := Lib.hid hu
  clear hb hu
  go_wp2_with fail
  refine (live_any _).mono ?_; rintro e w2 ⟨rfl, hu2⟩
  obtain ⟨⟨o1, o2, hh⟩, hg⟩ := HB.out.upd0 hu2
  have HU2 := Lib.hid (HU.out.trans0 hu2)
  have hle := hg.len
  have HT2 := Lib.hid hh.tab
  have htb := hh.bt
  have HOB := Lib.hid hh.b1
  have hs0 : (w.alloc (.cells (encM m).toArray 24)).heap.size = w.heap.size + 1 := World.size_alloc _ _
  have hlt0 := HB0.out.lt
  clear hu2 hh hg HB
  go_wp2_with fail
  refine (list_any t o1 L _ HT2.out).mono ?_; rintro e w3 ⟨A1, c1, rfl, hr3, hf3, hu3⟩
  have HR3 := Lib.hid hr3
  have HF3 := Lib.hid hf3
  have HU3 := Lib.hid (HU2.out.trans0 hu3)
  have HT3 := Lib.hid (HT2.out.upd0 hu3)
  have HOL := Lib.hid HT2.out.ownlt
  have htl := HT2.out.lt
  have hb3 := HB0.out.upd HU3.out (by simp)
  have q0 := hb3.cellAt (i := 0) (v := .int .u8 m.a) rfl
  have q2 := hb3.cellAt (i := 2) (v := .int .u8 m.f) rfl
  have HB3 := Lib.hid hb3
  clear hr3 hu3 hf3 HT2 hb3
  have HC := Lib.hid (asid_any t o1 L _ HT3.out m.a)
  obtain ⟨pr, hpr⟩ : ∃ pr : Mp → Bool, pr = fun x => decide (x.a = m.a) := ⟨_, rfl⟩
  have HPR := Lib.hid hpr
  rw [← hpr] at HC
  clear hpr
  generalize hn : L.length = n at *
  have HN := Lib.hid hn
  have hkl := keepL_le pr L
  rw [hn] at hkl
  obtain ⟨d, hdd⟩ : ∃ d : Nat, d = n - (keepL pr L).length := ⟨_, rfl⟩
  rw [← hdd] at HC
  generalize hk : (keepL pr L).length = k at *
  have HK := Lib.hid hk
  have heqd : ((d : Int) == (n : Int) - (k : Int)) = true := by rw [beq_iff_eq]; omega
  clear hn hk
  go_wp2_with fail
  refine HC.out.mono ?_; intro e w4 c
  have hu4 := c.upd
  obtain ⟨o1', rfl, hat4, ho4, _⟩ := c
  have hnB : w.heap.size ∉ t :: o1 := by
    intro hq
    simp at hq
    rcases hq with hq | hq
    · omega
    · have := HOB.out _ hq; omega
  have hb4 := HB3.out.upd hu4 hnB
  have hr4 := HR3.out.upd hu4 (by
    intro g hg hq
    have h1 := HF3.out g hg
    simp at hq
    rcases hq with hq | hq
    · omega
    · have := HOL.out _ hq; omega)
  have HB4 := Lib.hid hb4
  have HR4 := Lib.hid hr4.reads
  have HAT := Lib.hid hat4
  have HU4 := Lib.hid (HU3.out.trans hu4 (by
    intro s hs
    right
    simp at hs
    rcases hs with rfl | hs
    · omega
    · have := HOB.out _ hs; omega))
  clear hu4 hat4 ho4 hnB hb4 hr4
  go_wp2_with fail
  go_loopw [12, 13] (fun vl vi W => ∃ (i : Nat) (A' : Option Addr) (c' : Nat), i ≤ n ∧ vi = .int .i64 (i : Int) ∧ vl = .slice A' (keepL pr (L.take i)).length c' ∧ Row W A' c' (keepL pr (L.take i)) ∧ (∀ g, g ∈ ownA A' → w4.heap.size ≤ g) ∧ Upd [] w4 W) (fun _ vi _ => n - (intOf vi).toNat)
  case atStart => exact ⟨0, none, 0, by omega, rfl, by simp [keepL], .inl ⟨rfl, rfl, by simp [keepL]⟩, by simp [ownA], Upd.refl _ _⟩
  case round =>
    obtain ⟨i, A', c', hi, rfl, rfl, hrow, hfr, hu⟩ := hrel
    have HRW := Lib.hid hrow
    have HFR := Lib.hid hfr
    have HU5 := Lib.hid hu
    by_cases hlt : i < n
    · have hil : i < L.length := by rw [HN.out]; exact hlt
      obtain ⟨x, hx⟩ : ∃ x, L[i]? = some x := ⟨_, List.getElem?_eq_getElem hil⟩
      obtain ⟨b, o, rfl, hc⟩ := HR4.out (by rw [HN.out]; omega)
      have hra := hc i x hx
      have i0 : (0 : Int) ≤ (i : Int) := by omega
      have i1 : (i : Int) < (n : Int) := by omega
      have r0 := hu.lt_old (hra 0 (.int .u8 x.a) rfl)
      rw [Nat.add_zero] at r0
      have HRA := Lib.hid hra
      have hbm := HB4.out.upd hu (by simp)
      have s0 := hbm.cellAt (i := 0) (v := .int .u8 m.a) rfl
      have hkt := keepL_take (pr := pr) hx
      have hk8 : (keepL pr (L.take i)).length ≤ 8 := by have := keepL_le pr (L.take i); rw [List.length_take] at this; omega
      have HKT := Lib.hid hkt
      clear hc hra hbm hrow hfr hu hkt
      by_cases h1 : x.a = m.a
      · have hp : pr x = true := by rw [HPR.out]; simp [h1]
        have e1 : ((x.a : Int) != (m.a : Int)) = false := by rw [bne, beqN]; simp [h1]
        have e2 : ((x.a : Int) == (m.a : Int)) = true := by rw [beqN]; simp [h1]
        have HQ := Lib.hid (show keepL pr (L.take (i + 1)) = keepL pr (L.take i) by rw [HKT.out, hp]; simp)
        clear h1 hx hp
        generalize keepL pr (L.take i) = K at *
        go_wp2_with fail
        go_quiet (fail)
        go_wp2
        go_roundw
        case rel => exact ⟨i + 1, A', c', by omega, by go_num, by rw [HQ.out], by rw [HQ.out]; exact HRW.out, HFR.out, HU5.out.drewN _⟩
        case measure => simp [intOf]; omega
      · have hp : pr x = false := by rw [HPR.out]; simp [h1]
        have e1 : ((x.a : Int) != (m.a : Int)) = true := by rw [bne, beqN]; simp [h1]
        have e2 : ((x.a : Int) == (m.a : Int)) = false := by rw [beqN]; simp [h1]
        have HQ := Lib.hid (show keepL pr (L.take (i + 1)) = keepL pr (L.take i) ++ [x] by rw [HKT.out, hp]; simp)
        clear h1 hx hp
        generalize hKL : keepL pr (L.take i) = K at *
        go_wp2_with fail
        go_quiet (fail)
        rename_i nq
        have HU6 := Lib.hid (HU5.out.drewN nq)
        have HRW6 := Lib.hid (show Row (World.drewN _ nq) A' c' K from HRW.out)
        have h4 : (encM x).length = 4 := encM_length x
        have hra6 : World.rangeAt (World.drewN _ nq) b (o + i * 4) (encM x) := fun j v hj => HU6.out.cellAt (HRA.out j v hj) (by simp)
        go_wp2_with (first
          | (refine wpList_load_map rfl _ rfl b (o + i * 4) x rfl hra6 ?_)
          | (refine wpList_app rfl _ _ rfl A' K.length c' K rfl rfl (HRW6.out.upd ((Upd.refl [] _).alloc (.cells (encM x).toArray MapT)) (by simp)) _ rfl 1 [x] (xs_one _ x) (by omega) ?_; intro A2 c2 W2 hr2 hu2 ho2))
        have HR2 := Lib.hid hr2
        have HO2 := Lib.hid (show ∀ g, g ∈ ownA A2 → w4.heap.size ≤ g by
          intro g hg
          rcases ho2 g hg with h | h
          · exact HFR.out g h
          · have h6 := HU6.out.size; have h5 := HU5.out.size; simp at h; omega)
        have HU7 := Lib.hid ((HU6.out.alloc (.cells (encM x).toArray MapT)).trans hu2 (by intro s hs; right; exact HFR.out s hs))
        clear hr2 hu2 ho2
        go_wp2_with fail
        go_roundw
        case rel => exact ⟨i + 1, A2, c2, by omega, by go_num, by rw [HQ.out]; simp, by rw [HQ.out]; exact HR2.out, HO2.out, HU7.out⟩
        case measure => simp [intOf]; omega
    · obtain rfl : i = n := by omega
      have hkk : keepL pr (L.take i) = keepL pr L := by rw [List.take_of_length_le (by rw [HN.out]; exact Nat.le_refl _)]
      have HLX := Lib.hid (list_any t o1' (keepL pr L) _ (HAT.out.upd0 hu))
      rw [hkk] at HRW ⊢
      rw [HK.out] at HLX ⊢
      clear hrow hfr hu
      go_wp2_with fail
      refine HLX.out.mono ?_; rintro e w6 ⟨A6, c6, rfl, hr6, _, hu6⟩
      have HR6 := Lib.hid hr6
      have HU6 := Lib.hid hu6
      clear hr6 hu6
      go_wp2_with fail
      refine (same_any w6 A6 A' (keepL pr L) (keepL pr L) _ _ c6 c' HR6.out.reads (HRW.out.upd HU6.out (by simp)).reads HK.out HK.out (by omega) (by omega)).mono ?_; rintro e w7 ⟨rfl, hu7⟩
      have HU7 := Lib.hid hu7
      clear hu7
      go_wp2_with fail
      go_ret
      exact ⟨by simp, (HU0.out.trans0 (((HU4.out.trans0 HU5.out).trans0 HU6.out).trans0 HU7.out))⟩

set_option maxRecDepth 100000 in
set_option maxHeartbeats 4000000 in
theorem gone_false (A : Option Addr) (len cap : Nat) (m : Mp) (w : World) (hd : Deeds w A len) (hlen : len ≤ 9223372036854775807) :
    Calls Try.prog 6 #[.slice A len cap, .agg (encM m).toArray, .bool false] w (TruePost w) := by
  have hb0 := Blk.new w 24 (encM m).toArray
  have hu0 := (Upd.refl [] w).alloc (.cells (encM m).toArray 24)
  have HD := Lib.hid (hd.upd hu0)
  have HB0 := Lib.hid hb0
  have HU0 := Lib.hid hu0
  clear hd hb0 hu0
  go_enter Try.func6, Try.ntmps6
  go_wp2_with fail
  refine (play_any A len cap _ HD.out hlen).mono ?_; rintro e w1 ⟨t, r, L, rfl, hb, hu⟩
  have HB := Lib.hid hb
  have HU := Lib.hid hu
  clear hb hu
  go_wp2_with fail
  refine (live_any _).mono ?_; rintro e w2 ⟨rfl, hu2⟩
  obtain ⟨⟨o1, o2, hh⟩, hg⟩ := HB.out.upd0 hu2
  have HU2 := Lib.hid (HU.out.trans0 hu2)
  have hle := hg.len
  have HT2 := Lib.hid hh.tab
  have htb := hh.bt
  have HOB := Lib.hid hh.b1
  have hs0 : (w.alloc (.cells (encM m).toArray 24)).heap.size = w.heap.size + 1 := World.size_alloc _ _
  have hlt0 := HB0.out.lt
  clear hu2 hh hg HB
  go_wp2_with fail
  refine (list_any t o1 L _ HT2.out).mono ?_; rintro e w3 ⟨A1, c1, rfl, hr3, hf3, hu3⟩
  have HR3 := Lib.hid hr3
  have HF3 := Lib.hid hf3
  have HU3 := Lib.hid (HU2.out.trans0 hu3)
  have HT3 := Lib.hid (HT2.out.upd0 hu3)
  have HOL := Lib.hid HT2.out.ownlt
  have htl := HT2.out.lt
  have hb3 := HB0.out.upd HU3.out (by simp)
  have q0 := hb3.cellAt (i := 0) (v := .int .u8 m.a) rfl
  have q2 := hb3.cellAt (i := 2) (v := .int .u8 m.f) rfl
  have HB3 := Lib.hid hb3
  clear hr3 hu3 hf3 HT2 hb3
  have HC := Lib.hid (frame_any t o1 L _ HT3.out m.f)
  obtain ⟨pr, hpr⟩ : ∃ pr : Mp → Bool, pr = fun x => decide (x.f = m.f) := ⟨_, rfl⟩
  have HPR := Lib.hid hpr
  rw [← hpr] at HC
  clear hpr
  generalize hn : L.length = n at *
  have HN := Lib.hid hn
  have hkl := keepL_le pr L
  rw [hn] at hkl
  obtain ⟨d, hdd⟩ : ∃ d : Nat, d = n - (keepL pr L).length := ⟨_, rfl⟩
  rw [← hdd] at HC
  generalize hk : (keepL pr L).length = k at *
  have HK := Lib.hid hk
  have heqd : ((d : Int) == (n : Int) - (k : Int)) = true := by rw [beq_iff_eq]; omega
  clear hn hk
  go_wp2_with fail
  refine HC.out.mono ?_; intro e w4 c
  have hu4 := c.upd
  obtain ⟨o1', rfl, hat4, ho4, _⟩ := c
  have hnB : w.heap.size ∉ t :: o1 := by
    intro hq
    simp at hq
    rcases hq with hq | hq
    · omega
    · have := HOB.out _ hq; omega
  have hb4 := HB3.out.upd hu4 hnB
  have hr4 := HR3.out.upd hu4 (by
    intro g hg hq
    have h1 := HF3.out g hg
    simp at hq
    rcases hq with hq | hq
    · omega
    · have := HOL.out _ hq; omega)
  have HB4 := Lib.hid hb4
  have HR4 := Lib.hid hr4.reads
  have HAT := Lib.hid hat4
  have HU4 := Lib.hid (HU3.out.trans hu4 (by
    intro s hs
    right
    simp at hs
    rcases hs with rfl | hs
    · omega
    · have := HOB.out _ hs; omega))
  clear hu4 hat4 ho4 hnB hb4 hr4
  go_wp2_with fail
  go_loopw [12, 13] (fun vl vi W => ∃ (i : Nat) (A' : Option Addr) (c' : Nat), i ≤ n ∧ vi = .int .i64 (i : Int) ∧ vl = .slice A' (keepL pr (L.take i)).length c' ∧ Row W A' c' (keepL pr (L.take i)) ∧ (∀ g, g ∈ ownA A' → w4.heap.size ≤ g) ∧ Upd [] w4 W) (fun _ vi _ => n - (intOf vi).toNat)
  case atStart => exact ⟨0, none, 0, by omega, rfl, by simp [keepL], .inl ⟨rfl, rfl, by simp [keepL]⟩, by simp [ownA], Upd.refl _ _⟩
  case round =>
    obtain ⟨i, A', c', hi, rfl, rfl, hrow, hfr, hu⟩ := hrel
    have HRW := Lib.hid hrow
    have HFR := Lib.hid hfr
    have HU5 := Lib.hid hu
    by_cases hlt : i < n
    · have hil : i < L.length := by rw [HN.out]; exact hlt
      obtain ⟨x, hx⟩ : ∃ x, L[i]? = some x := ⟨_, List.getElem?_eq_getElem hil⟩
      obtain ⟨b, o, rfl, hc⟩ := HR4.out (by rw [HN.out]; omega)
      have hra := hc i x hx
      have i0 : (0 : Int) ≤ (i : Int) := by omega
      have i1 : (i : Int) < (n : Int) := by omega
      have r0 := hu.lt_old (hra 2 (.int .u8 x.f) rfl)
      have HRA := Lib.hid hra
      have hbm := HB4.out.upd hu (by simp)
      have s0 := hbm.cellAt (i := 2) (v := .int .u8 m.f) rfl
      have hkt := keepL_take (pr := pr) hx
      have hk8 : (keepL pr (L.take i)).length ≤ 8 := by have := keepL_le pr (L.take i); rw [List.length_take] at this; omega
      have HKT := Lib.hid hkt
      clear hc hra hbm hrow hfr hu hkt
      by_cases h1 : x.f = m.f
      · have hp : pr x = true := by rw [HPR.out]; simp [h1]
        have e1 : ((x.f : Int) != (m.f : Int)) = false := by rw [bne, beqN]; simp [h1]
        have e2 : ((x.f : Int) == (m.f : Int)) = true := by rw [beqN]; simp [h1]
        have HQ := Lib.hid (show keepL pr (L.take (i + 1)) = keepL pr (L.take i) by rw [HKT.out, hp]; simp)
        clear h1 hx hp
        generalize keepL pr (L.take i) = K at *
        go_wp2_with fail
        go_quiet (fail)
        go_wp2
        go_roundw
        case rel => exact ⟨i + 1, A', c', by omega, by go_num, by rw [HQ.out], by rw [HQ.out]; exact HRW.out, HFR.out, HU5.out.drewN _⟩
        case measure => simp [intOf]; omega
      · have hp : pr x = false := by rw [HPR.out]; simp [h1]
        have e1 : ((x.f : Int) != (m.f : Int)) = true := by rw [bne, beqN]; simp [h1]
        have e2 : ((x.f : Int) == (m.f : Int)) = false := by rw [beqN]; simp [h1]
        have HQ := Lib.hid (show keepL pr (L.take (i + 1)) = keepL pr (L.take i) ++ [x] by rw [HKT.out, hp]; simp)
        clear h1 hx hp
        generalize hKL : keepL pr (L.take i) = K at *
        go_wp2_with fail
        go_quiet (fail)
        rename_i nq
        have HU6 := Lib.hid (HU5.out.drewN nq)
        have HRW6 := Lib.hid (show Row (World.drewN _ nq) A' c' K from HRW.out)
        have h4 : (encM x).length = 4 := encM_length x
        have hra6 : World.rangeAt (World.drewN _ nq) b (o + i * 4) (encM x) := fun j v hj => HU6.out.cellAt (HRA.out j v hj) (by simp)
        go_wp2_with (first
          | (refine wpList_load_map rfl _ rfl b (o + i * 4) x rfl hra6 ?_)
          | (refine wpList_app rfl _ _ rfl A' K.length c' K rfl rfl (HRW6.out.upd ((Upd.refl [] _).alloc (.cells (encM x).toArray MapT)) (by simp)) _ rfl 1 [x] (xs_one _ x) (by omega) ?_; intro A2 c2 W2 hr2 hu2 ho2))
        have HR2 := Lib.hid hr2
        have HO2 := Lib.hid (show ∀ g, g ∈ ownA A2 → w4.heap.size ≤ g by
          intro g hg
          rcases ho2 g hg with h | h
          · exact HFR.out g h
          · have h6 := HU6.out.size; have h5 := HU5.out.size; simp at h; omega)
        have HU7 := Lib.hid ((HU6.out.alloc (.cells (encM x).toArray MapT)).trans hu2 (by intro s hs; right; exact HFR.out s hs))
        clear hr2 hu2 ho2
        go_wp2_with fail
        go_roundw
        case rel => exact ⟨i + 1, A2, c2, by omega, by go_num, by rw [HQ.out]; simp, by rw [HQ.out]; exact HR2.out, HO2.out, HU7.out⟩
        case measure => simp [intOf]; omega
    · obtain rfl : i = n := by omega
      have hkk : keepL pr (L.take i) = keepL pr L := by rw [List.take_of_length_le (by rw [HN.out]; exact Nat.le_refl _)]
      have HLX := Lib.hid (list_any t o1' (keepL pr L) _ (HAT.out.upd0 hu))
      rw [hkk] at HRW ⊢
      rw [HK.out] at HLX ⊢
      clear hrow hfr hu
      go_wp2_with fail
      refine HLX.out.mono ?_; rintro e w6 ⟨A6, c6, rfl, hr6, _, hu6⟩
      have HR6 := Lib.hid hr6
      have HU6 := Lib.hid hu6
      clear hr6 hu6
      go_wp2_with fail
      refine (same_any w6 A6 A' (keepL pr L) (keepL pr L) _ _ c6 c' HR6.out.reads (HRW.out.upd HU6.out (by simp)).reads HK.out HK.out (by omega) (by omega)).mono ?_; rintro e w7 ⟨rfl, hu7⟩
      have HU7 := Lib.hid hu7
      clear hu7
      go_wp2_with fail
      go_ret
      exact ⟨by simp, (HU0.out.trans0 (((HU4.out.trans0 HU5.out).trans0 HU6.out).trans0 HU7.out))⟩

theorem gone_any (A : Option Addr) (len cap : Nat) (m : Mp) (b : Bool) (w : World) (hd : Deeds w A len) (hlen : len ≤ 9223372036854775807) :
    Calls Try.prog 6 #[.slice A len cap, .agg (encM m).toArray, .bool b] w (TruePost w) := by
  cases b
  · exact gone_false A len cap m w hd hlen
  · exact gone_true A len cap m w hd hlen

end Go.Proofs.Ytefjppebohnmjaa
