/- The walk of the statement on what is inserted: printed by tlb_insl.py. -/
import Derived.Test.YtefjppebohnmjaaTlbLaws
namespace Go.Proofs.Ytefjppebohnmjaa
open Go.RowKit Go.Shelf

theorem wpList_st {ops : Array Oper} {rest : List Oper} {a : Act} {w : World} {Q : Exit → Act → World → Prop} {d : Option Tmp} {x y : Operand} {ty : TypeId} {p : String} {af : Array Edge} (h : wpList Try.prog ops Q (⟨d, .store 24 x y, ty, p, af, none⟩ :: rest) a w) : wpList Try.prog ops Q (⟨d, .store 24 x y, ty, p, af, none⟩ :: rest) a w := h
theorem wpList_ld {ops : Array Oper} {rest : List Oper} {a : Act} {w : World} {Q : Exit → Act → World → Prop} {d : Option Tmp} {x : Operand} {ty : TypeId} {p : String} {af : Array Edge} {g : Option (Nat × Bool)} (h : wpList Try.prog ops Q (⟨d, .load 24 x, ty, p, af, g⟩ :: rest) a w) : wpList Try.prog ops Q (⟨d, .load 24 x, ty, p, af, g⟩ :: rest) a w := h
/-! The plain law -/
theorem insL_rest (m : Mp) (L : List Mp) : insL m L = restL m L ++ [m] := rfl
theorem find_new {m : Mp} {L : List Mp} (h : Good L) : (insL m L).find? (isAt m.a m.p) = some m := by
  rw [insL_rest, List.find?_append]
  have : (restL m L).find? (isAt m.a m.p) = none := by
    rw [List.find?_eq_none]
    intro x hx
    rw [rest_no h x hx]
    simp
  rw [this]
  simp [isAt]
theorem ins_len_some {m : Mp} {L : List Mp} {i : Nat} (hg : goneI m L = some i) : (insL m L).length = L.length := by
  have := gone_lt hg
  rw [insL_rest]
  unfold restL
  rw [hg]
  simp only [List.length_append, List.length_singleton]
  rw [List.length_eraseIdx, if_pos this]
  omega
theorem ins_len_none {m : Mp} {L : List Mp} (hg : goneI m L = none) : (insL m L).length = L.length + 1 := by
  rw [insL_rest]
  unfold restL
  rw [hg]
  simp
theorem other_gone {m : Mp} {L : List Mp} (h : Good L) {i : Nat} (hg : goneI m L = some i) (hk : ¬ ((insG m L).a = m.a ∧ (insG m L).p = m.p)) : L.length = 8 ∧ (insL m L).find? (isAt (insG m L).a (insG m L).p) = none := by
  have hil := gone_lt hg
  obtain ⟨y, hy⟩ : ∃ y, L[i]? = some y := ⟨_, List.getElem?_eq_getElem hil⟩
  have hG : insG m L = y := by unfold insG; rw [hg]; simp [hy]
  rw [hG] at hk ⊢
  cases hq : L.findIdx? (isAt m.a m.p) with
  | some k =>
    have : goneI m L = some k := by unfold goneI; rw [hq]
    rw [this] at hg
    injection hg with hg
    subst hg
    obtain ⟨x, hx, hp, _⟩ := findIdx_spec _ L k hq
    rw [hx] at hy
    injection hy with hy
    subst hy
    unfold isAt at hp
    simp at hp
    exact absurd hp hk
  | none =>
    unfold goneI at hg
    rw [hq] at hg
    simp at hg
    obtain ⟨h8, rfl⟩ := hg
    refine ⟨by have := h.len; omega, ?_⟩
    rw [insL_rest, List.find?_append]
    have : (restL m L).find? (isAt y.a y.p) = none := by
      rw [List.find?_eq_none]
      intro x hx
      have hr : restL m L = L.eraseIdx 0 := by unfold restL goneI; rw [hq]; simp [h8]
      rw [hr] at hx
      rw [erase_no h.key hy (by simp [isAt]) x hx]
      simp
    rw [this]
    simp [isAt]
    intro h1 h2
    exact hk ⟨h1.symm, h2.symm⟩

set_option maxRecDepth 100000 in
set_option maxHeartbeats 4000000 in
theorem inserts_any (A : Option Addr) (len cap : Nat) (m : Mp) (w : World) (hd : Deeds w A len) (hlen : len ≤ 9223372036854775807) :
    Calls Try.prog 7 #[.slice A len cap, .agg (encM m).toArray] w (TruePost w) := by
  have hb0 := Blk.new w 24 (encM m).toArray
  have hu0 := (Upd.refl [] w).alloc (.cells (encM m).toArray 24)
  have HD := Lib.hid (hd.upd hu0)
  have HB0 := Lib.hid hb0
  have HU0 := Lib.hid hu0
  clear hd hb0 hu0
  go_enter Try.func7, Try.ntmps7
  go_wp2_with fail
  refine (play_any A len cap _ HD.out hlen).mono ?_; rintro e w1 ⟨t, r, L, rfl, hb, hu⟩
  have HB := Lib.hid hb
  have HU := Lib.hid hu
  clear hb hu
  go_wp2_with fail
  refine (live_any _).mono ?_; rintro e w2 ⟨rfl, hu2⟩
  obtain ⟨⟨o1, o2, hh⟩, hg⟩ := HB.out.upd0 hu2
  have HU2 := Lib.hid (HU.out.trans0 hu2)
  have hle := hg.len
  have HG := Lib.hid hg
  have HT2 := Lib.hid hh.tab
  have htb := hh.bt
  have HOB := Lib.hid hh.b1
  have hs0 : (w.alloc (.cells (encM m).toArray 24)).heap.size = w.heap.size + 1 := World.size_alloc _ _
  have hlt0 := HB0.out.lt
  clear hu2 hh hg HB
  go_wp2_with fail
  refine (list_any t o1 L _ HT2.out).mono ?_; rintro e w3 ⟨A1, c1, rfl, hr3, hf3, hu3⟩
  have HR3 := Lib.hid hr3
  have HF3 := Lib.hid hf3
  have HU3 := Lib.hid (HU2.out.trans0 hu3)
  have HT3 := Lib.hid (HT2.out.upd0 hu3)
  have HOL := Lib.hid HT2.out.ownlt
  have htl := HT2.out.lt
  have HB3 := Lib.hid (HB0.out.upd HU3.out (by simp))
  have hy3 := blk_range HB3.out
  have HS3 := Lib.hid hu3.size
  clear hr3 hu3 hf3 HT2
  have HI := Lib.hid (ins_any t o1 L _ HT3.out m)
  go_wp2_with ((with_reducible refine wpList_ld ?_); refine wpList_load_map rfl _ rfl w.heap.size 0 m rfl hy3 ?_)
  refine HI.out.mono ?_; intro e w4 c
  have hu4 := c.upd
  obtain ⟨o1', rfl, hat4, ho4, _⟩ := c
  have hnB : w.heap.size ∉ t :: o1 := by
    intro hq
    simp at hq
    rcases hq with hq | hq
    · omega
    · have := HOB.out _ hq; omega
  have HB4 := Lib.hid (HB3.out.upd hu4 hnB)
  have HR4 := Lib.hid (HR3.out.upd hu4 (by
    intro g hg hq
    have h1 := HF3.out g hg
    simp at hq
    rcases hq with hq | hq
    · omega
    · have := HOL.out _ hq; omega)).reads
  have HAT := Lib.hid hat4
  have HU4 := Lib.hid (HU3.out.trans hu4 (by
    intro s hs
    right
    simp at hs
    rcases hs with rfl | hs
    · omega
    · have := HOB.out _ hs; omega))
  have hw4 := HB4.out.lt
  clear hu4 hat4 ho4 hnB hy3
  cases hbad : badM m with
  | true =>
    have hv : insV m L = .tuple #[.agg (encM mz).toArray, .bool false, .int .i64 2] := by unfold insV; rw [hbad]; rfl
    have hn : insN m L = L := by unfold insN; rw [hbad]; rfl
    rw [hv]
    rw [hn] at HAT
    clear hv hn
    go_wp2_with ((with_reducible refine wpList_st ?_); refine wpList_store_map rfl _ _ rfl w4.heap.size mz mz rfl rfl (Blk.new w4 24 (encM mz).toArray) ?_; intro w5 hb5 hu5; have HU5 := Lib.hid (((Upd.refl [] w4).alloc _).trans hu5 (by intro s hs; simp at hs; right; omega)); clear hb5 hu5)
    refine (list_any t o1' L _ (HAT.out.upd0 HU5.out)).mono ?_; rintro e w6 ⟨A6, c6, rfl, hr6, _, hu6⟩
    have HR6 := Lib.hid hr6
    have HU6 := Lib.hid hu6
    clear hr6 hu6
    go_wp2_with fail
    refine (same_any w6 A6 A1 L L _ _ c6 c1 HR6.out.reads ((HR4.out.upd HU5.out (by simp)).upd HU6.out (by simp)) rfl rfl (by omega) (by omega)).mono ?_; rintro e w7 ⟨rfl, hu7⟩
    have HU7 := Lib.hid hu7
    clear hu7
    go_wp2_with fail
    go_ret
    exact ⟨by simp, HU0.out.trans0 (((HU4.out.trans0 HU5.out).trans0 HU6.out).trans0 HU7.out)⟩
  | false =>
    have hv : insV m L = .tuple #[.agg (encM (insG m L)).toArray, .bool (goneI m L).isSome, .int .i64 0] := by unfold insV; rw [hbad]; rfl
    have hn : insN m L = insL m L := by unfold insN; rw [hbad]; rfl
    rw [hv]
    rw [hn] at HAT
    clear hv hn hbad
    have hfn := find_new (m := m) HG.out
    have HF1 : Hid (∀ W, At TlbT W t o1' (insL m L) → Calls Try.prog 12 #[.pointer (some ⟨t, 0, none⟩), .int .u8 m.a, .int .u8 m.p] W fun e w' => e = .returned (.tuple #[.agg (encM m).toArray, .bool true]) ∧ Upd [] W w') := Lib.hid (fun W hW => by
      have := find_any t o1' (insL m L) W hW m.a m.p
      unfold findM hasM at this
      rw [hfn] at this
      exact this)
    have heq : ∀ w : World, (Op.equalIn 10000 24 (.agg (encM m).toArray) (.agg (encM m).toArray)).run Try.prog w = .ok true w := fun w => (eqM m m w).trans (by simp)
    clear hfn
    have HLX := Lib.hid (fun W (hW : At TlbT W t o1' (insL m L)) => list_any t o1' (insL m L) W hW)
    cases hgi : goneI m L with
    | none =>
      have hln := ins_len_none hgi
      have hG : insG m L = mz := by unfold insG; rw [hgi]
      rw [hG, show (none : Option Nat).isSome = false from rfl]
      rw [hln] at HLX
      generalize L.length = n at *
      have hbe : (((n + 1 : Nat) : Int) == (n : Int) + 1) = true := by rw [beq_iff_eq]; omega
      clear hgi hG hln
      go_wp2_with ((with_reducible refine wpList_st ?_); refine wpList_store_map rfl _ _ rfl w4.heap.size mz mz rfl rfl (Blk.new w4 24 (encM mz).toArray) ?_; intro w5 hb5 hu5; have HB5 := Lib.hid hb5; have HU5 := Lib.hid (((Upd.refl [] w4).alloc _).trans hu5 (by intro s hs; simp at hs; right; omega)); have hbm := HB4.out.upd HU5.out (by simp); have p0 := hbm.cellAt (i := 0) (v := .int .u8 m.a) rfl; have p1 := hbm.cellAt (i := 1) (v := .int .u8 m.p) rfl; clear hb5 hu5 hbm)
      refine (HF1.out _ (HAT.out.upd0 HU5.out)).mono ?_; rintro e w6 ⟨rfl, hu6⟩
      have HU6 := Lib.hid (HU5.out.trans0 hu6)
      have HX6 := Lib.hid hu6
      have hs6 := HU6.out.size
      clear hu6
      go_wp2_with (first
        | ((with_reducible refine wpList_st ?_); refine wpList_store_map rfl _ _ rfl w6.heap.size m mz rfl rfl (Blk.new w6 24 (encM mz).toArray) ?_; intro w7 hb7 hu7; have HB7 := Lib.hid hb7; have HX7 := Lib.hid (HX6.out.trans0 (((Upd.refl [] w6).alloc _).trans hu7 (by intro s hs; simp at hs; right; omega))); have HU7 := Lib.hid (HU5.out.trans0 HX7.out); have hbm := HB4.out.upd HU7.out (by simp); have a0 := hbm.cellAt (i := 0) (v := .int .u8 m.a) rfl; have a1 := hbm.cellAt (i := 1) (v := .int .u8 m.p) rfl; have hym := blk_range hbm; have hbg := HB5.out.upd HX7.out (by simp); have g0 := hbg.cellAt (i := 0) (v := .int .u8 mz.a) rfl; have g1 := hbg.cellAt (i := 1) (v := .int .u8 mz.p) rfl; have hyx := blk_range hb7; clear hb7 hu7 hbm hbg)
        | ((with_reducible refine wpList_ld ?_); refine wpList_load_map (by kernel_rfl) _ rfl w6.heap.size 0 m rfl hyx ?_)
        | ((with_reducible refine wpList_ld ?_); refine wpList_load_map (by kernel_rfl) _ rfl w.heap.size 0 m rfl hym ?_))
      refine (HLX.out _ (HAT.out.upd0 HU7.out)).mono ?_; rintro e wa ⟨Aa, ca, rfl, _, _, hua⟩
      have HUa := Lib.hid (HU7.out.trans0 hua)
      clear hua
      go_wp2_with fail
      go_ret
      exact ⟨by simp, HU0.out.trans0 (HU4.out.trans0 HUa.out)⟩
    | some i =>
      have hln := ins_len_some hgi
      have HOG := Lib.hid (other_gone HG.out hgi)
      rw [show (some i : Option Nat).isSome = true from rfl]
      rw [hln] at HLX
      generalize hgG : insG m L = g at *
      generalize hnn : L.length = n at *
      have HNN := Lib.hid hnn
      have hbe : ((n : Int) == (n : Int)) = true := by simp
      by_cases h1 : g.a = m.a
      · have e1 : ((g.a : Int) != (m.a : Int)) = false := by rw [bne, beqN]; simp [h1]
        by_cases h2 : g.p = m.p
        · have e2 : ((g.p : Int) != (m.p : Int)) = false := by rw [bne, beqN]; simp [h2]
          clear hgi hgG hln hnn h1 h2
          go_wp2_with ((with_reducible refine wpList_st ?_); refine wpList_store_map rfl _ _ rfl w4.heap.size g mz rfl rfl (Blk.new w4 24 (encM mz).toArray) ?_; intro w5 hb5 hu5; have HB5 := Lib.hid hb5; have HU5 := Lib.hid (((Upd.refl [] w4).alloc _).trans hu5 (by intro s hs; simp at hs; right; omega)); have hbm := HB4.out.upd HU5.out (by simp); have p0 := hbm.cellAt (i := 0) (v := .int .u8 m.a) rfl; have p1 := hbm.cellAt (i := 1) (v := .int .u8 m.p) rfl; clear hb5 hu5 hbm)
          refine (HF1.out _ (HAT.out.upd0 HU5.out)).mono ?_; rintro e w6 ⟨rfl, hu6⟩
          have HU6 := Lib.hid (HU5.out.trans0 hu6)
          have HX6 := Lib.hid hu6
          have hs6 := HU6.out.size
          clear hu6
          go_wp2_with (first
            | ((with_reducible refine wpList_st ?_); refine wpList_store_map rfl _ _ rfl w6.heap.size m mz rfl rfl (Blk.new w6 24 (encM mz).toArray) ?_; intro w7 hb7 hu7; have HB7 := Lib.hid hb7; have HX7 := Lib.hid (HX6.out.trans0 (((Upd.refl [] w6).alloc _).trans hu7 (by intro s hs; simp at hs; right; omega))); have HU7 := Lib.hid (HU5.out.trans0 HX7.out); have hbm := HB4.out.upd HU7.out (by simp); have a0 := hbm.cellAt (i := 0) (v := .int .u8 m.a) rfl; have a1 := hbm.cellAt (i := 1) (v := .int .u8 m.p) rfl; have hym := blk_range hbm; have hbg := HB5.out.upd HX7.out (by simp); have g0 := hbg.cellAt (i := 0) (v := .int .u8 g.a) rfl; have g1 := hbg.cellAt (i := 1) (v := .int .u8 g.p) rfl; have hyx := blk_range hb7; clear hb7 hu7 hbm hbg)
            | ((with_reducible refine wpList_ld ?_); refine wpList_load_map (by kernel_rfl) _ rfl w6.heap.size 0 m rfl hyx ?_)
            | ((with_reducible refine wpList_ld ?_); refine wpList_load_map (by kernel_rfl) _ rfl w.heap.size 0 m rfl hym ?_))
          refine (HLX.out _ (HAT.out.upd0 HU7.out)).mono ?_; rintro e wa ⟨Aa, ca, rfl, _, _, hua⟩
          have HUa := Lib.hid (HU7.out.trans0 hua)
          clear hua
          go_wp2_with fail
          go_ret
          exact ⟨by simp, HU0.out.trans0 (HU4.out.trans0 HUa.out)⟩
        · have e2 : ((g.p : Int) != (m.p : Int)) = true := by rw [bne, beqN]; simp [h2]
          obtain ⟨h8, hno⟩ := HOG.out (fun h => h2 h.2)
          have HF2 : Hid (∀ W, At TlbT W t o1' (insL m L) → Calls Try.prog 12 #[.pointer (some ⟨t, 0, none⟩), .int .u8 g.a, .int .u8 g.p] W fun e w' => e = .returned (.tuple #[.agg (encM mz).toArray, .bool false]) ∧ Upd [] W w') := Lib.hid (fun W hW => by
            have := find_any t o1' (insL m L) W hW g.a g.p
            unfold findM hasM at this
            rw [hno] at this
            exact this)
          subst h8
          clear hno
          clear hgi hgG hln hnn h1 h2
          go_wp2_with ((with_reducible refine wpList_st ?_); refine wpList_store_map rfl _ _ rfl w4.heap.size g mz rfl rfl (Blk.new w4 24 (encM mz).toArray) ?_; intro w5 hb5 hu5; have HB5 := Lib.hid hb5; have HU5 := Lib.hid (((Upd.refl [] w4).alloc _).trans hu5 (by intro s hs; simp at hs; right; omega)); have hbm := HB4.out.upd HU5.out (by simp); have p0 := hbm.cellAt (i := 0) (v := .int .u8 m.a) rfl; have p1 := hbm.cellAt (i := 1) (v := .int .u8 m.p) rfl; clear hb5 hu5 hbm)
          refine (HF1.out _ (HAT.out.upd0 HU5.out)).mono ?_; rintro e w6 ⟨rfl, hu6⟩
          have HU6 := Lib.hid (HU5.out.trans0 hu6)
          have HX6 := Lib.hid hu6
          have hs6 := HU6.out.size
          clear hu6
          go_wp2_with (first
            | ((with_reducible refine wpList_st ?_); refine wpList_store_map rfl _ _ rfl w6.heap.size m mz rfl rfl (Blk.new w6 24 (encM mz).toArray) ?_; intro w7 hb7 hu7; have HB7 := Lib.hid hb7; have HX7 := Lib.hid (HX6.out.trans0 (((Upd.refl [] w6).alloc _).trans hu7 (by intro s hs; simp at hs; right; omega))); have HU7 := Lib.hid (HU5.out.trans0 HX7.out); have hbm := HB4.out.upd HU7.out (by simp); have a0 := hbm.cellAt (i := 0) (v := .int .u8 m.a) rfl; have a1 := hbm.cellAt (i := 1) (v := .int .u8 m.p) rfl; have hym := blk_range hbm; have hbg := HB5.out.upd HX7.out (by simp); have g0 := hbg.cellAt (i := 0) (v := .int .u8 g.a) rfl; have g1 := hbg.cellAt (i := 1) (v := .int .u8 g.p) rfl; have hyx := blk_range hb7; clear hb7 hu7 hbm hbg)
            | ((with_reducible refine wpList_ld ?_); refine wpList_load_map (by kernel_rfl) _ rfl w6.heap.size 0 m rfl hyx ?_)
            | ((with_reducible refine wpList_ld ?_); refine wpList_load_map (by kernel_rfl) _ rfl w.heap.size 0 m rfl hym ?_))
          refine (HF2.out _ (HAT.out.upd0 HU7.out)).mono ?_; rintro e w8 ⟨rfl, hu8⟩
          have HU8 := Lib.hid (HU7.out.trans0 hu8)
          have HX8 := Lib.hid hu8
          have hs8 := HU8.out.size
          clear hu8
          go_wp2_with (first
            | ((with_reducible refine wpList_st ?_); refine wpList_store_map rfl _ _ rfl w8.heap.size mz mz rfl rfl (Blk.new w8 24 (encM mz).toArray) ?_; intro w9 hb9 hu9; have HX9 := Lib.hid (HX8.out.trans0 (((Upd.refl [] w8).alloc _).trans hu9 (by intro s hs; simp at hs; right; omega))); have HU9 := Lib.hid (HU7.out.trans0 HX9.out); have hbm := HB4.out.upd HU9.out (by simp); have hym2 := blk_range hbm; have hbx := HB7.out.upd HX9.out (by simp); have hyx2 := blk_range hbx; clear hb9 hu9 hbm hbx)
            | ((with_reducible refine wpList_ld ?_); refine wpList_load_map (by kernel_rfl) _ rfl w6.heap.size 0 m rfl hyx2 ?_)
            | ((with_reducible refine wpList_ld ?_); refine wpList_load_map (by kernel_rfl) _ rfl w.heap.size 0 m rfl hym2 ?_))
          refine (HLX.out _ (HAT.out.upd0 HU9.out)).mono ?_; rintro e wa ⟨Aa, ca, rfl, _, _, hua⟩
          have HUa := Lib.hid (HU9.out.trans0 hua)
          clear hua
          go_wp2_with fail
          go_ret
          exact ⟨by simp, HU0.out.trans0 (HU4.out.trans0 HUa.out)⟩
      · have e1 : ((g.a : Int) != (m.a : Int)) = true := by rw [bne, beqN]; simp [h1]
        obtain ⟨h8, hno⟩ := HOG.out (fun h => h1 h.1)
        have HF2 : Hid (∀ W, At TlbT W t o1' (insL m L) → Calls Try.prog 12 #[.pointer (some ⟨t, 0, none⟩), .int .u8 g.a, .int .u8 g.p] W fun e w' => e = .returned (.tuple #[.agg (encM mz).toArray, .bool false]) ∧ Upd [] W w') := Lib.hid (fun W hW => by
          have := find_any t o1' (insL m L) W hW g.a g.p
          unfold findM hasM at this
          rw [hno] at this
          exact this)
        subst h8
        clear hno
        clear hgi hgG hln hnn h1
        go_wp2_with ((with_reducible refine wpList_st ?_); refine wpList_store_map rfl _ _ rfl w4.heap.size g mz rfl rfl (Blk.new w4 24 (encM mz).toArray) ?_; intro w5 hb5 hu5; have HB5 := Lib.hid hb5; have HU5 := Lib.hid (((Upd.refl [] w4).alloc _).trans hu5 (by intro s hs; simp at hs; right; omega)); have hbm := HB4.out.upd HU5.out (by simp); have p0 := hbm.cellAt (i := 0) (v := .int .u8 m.a) rfl; have p1 := hbm.cellAt (i := 1) (v := .int .u8 m.p) rfl; clear hb5 hu5 hbm)
        refine (HF1.out _ (HAT.out.upd0 HU5.out)).mono ?_; rintro e w6 ⟨rfl, hu6⟩
        have HU6 := Lib.hid (HU5.out.trans0 hu6)
        have HX6 := Lib.hid hu6
        have hs6 := HU6.out.size
        clear hu6
        go_wp2_with (first
          | ((with_reducible refine wpList_st ?_); refine wpList_store_map rfl _ _ rfl w6.heap.size m mz rfl rfl (Blk.new w6 24 (encM mz).toArray) ?_; intro w7 hb7 hu7; have HB7 := Lib.hid hb7; have HX7 := Lib.hid (HX6.out.trans0 (((Upd.refl [] w6).alloc _).trans hu7 (by intro s hs; simp at hs; right; omega))); have HU7 := Lib.hid (HU5.out.trans0 HX7.out); have hbm := HB4.out.upd HU7.out (by simp); have a0 := hbm.cellAt (i := 0) (v := .int .u8 m.a) rfl; have a1 := hbm.cellAt (i := 1) (v := .int .u8 m.p) rfl; have hym := blk_range hbm; have hbg := HB5.out.upd HX7.out (by simp); have g0 := hbg.cellAt (i := 0) (v := .int .u8 g.a) rfl; have g1 := hbg.cellAt (i := 1) (v := .int .u8 g.p) rfl; have hyx := blk_range hb7; clear hb7 hu7 hbm hbg)
          | ((with_reducible refine wpList_ld ?_); refine wpList_load_map (by kernel_rfl) _ rfl w6.heap.size 0 m rfl hyx ?_)
          | ((with_reducible refine wpList_ld ?_); refine wpList_load_map (by kernel_rfl) _ rfl w.heap.size 0 m rfl hym ?_))
        refine (HF2.out _ (HAT.out.upd0 HU7.out)).mono ?_; rintro e w8 ⟨rfl, hu8⟩
        have HU8 := Lib.hid (HU7.out.trans0 hu8)
        have HX8 := Lib.hid hu8
        have hs8 := HU8.out.size
        clear hu8
        go_wp2_with (first
          | ((with_reducible refine wpList_st ?_); refine wpList_store_map rfl _ _ rfl w8.heap.size mz mz rfl rfl (Blk.new w8 24 (encM mz).toArray) ?_; intro w9 hb9 hu9; have HX9 := Lib.hid (HX8.out.trans0 (((Upd.refl [] w8).alloc _).trans hu9 (by intro s hs; simp at hs; right; omega))); have HU9 := Lib.hid (HU7.out.trans0 HX9.out); have hbm := HB4.out.upd HU9.out (by simp); have hym2 := blk_range hbm; have hbx := HB7.out.upd HX9.out (by simp); have hyx2 := blk_range hbx; clear hb9 hu9 hbm hbx)
          | ((with_reducible refine wpList_ld ?_); refine wpList_load_map (by kernel_rfl) _ rfl w6.heap.size 0 m rfl hyx2 ?_)
          | ((with_reducible refine wpList_ld ?_); refine wpList_load_map (by kernel_rfl) _ rfl w.heap.size 0 m rfl hym2 ?_))
        refine (HLX.out _ (HAT.out.upd0 HU9.out)).mono ?_; rintro e wa ⟨Aa, ca, rfl, _, _, hua⟩
        have HUa := Lib.hid (HU9.out.trans0 hua)
        clear hua
        go_wp2_with fail
        go_ret
        exact ⟨by simp, HU0.out.trans0 (HU4.out.trans0 HUa.out)⟩

end Go.Proofs.Ytefjppebohnmjaa
