/- One deed on both: printed by tlb_do.py. -/
import Derived.Test.YtefjppebohnmjaaTlbS
import Derived.Test.YtefjppebohnmjaaTlbM
import Derived.Test.YtefjppebohnmjaaTlbR
import Derived.Deep.RegionHeld3
namespace Go.Proofs.Ytefjppebohnmjaa
open Go.RowKit Go.Shelf

def DoPost (B t r : Nat) (w : World) (e : Ending) (w' : World) : Prop := e = .returned (.bool true) ∧ (∃ L', Both w' B t r L') ∧ From B w w'
theorem Chg.upd {T : TypeId} {t : Nat} {own : List Nat} {w w' : World} {V : Value} {L' : List Mp} {e : Ending} (c : Chg T t own w V L' e w') : Upd (t :: own) w w' := by
  obtain ⟨_, _, _, _, h⟩ := c
  exact h
def deedCs (K : Int) (m : Mp) : List Value := [.int .i64 K, .int .u8 m.a, .int .u8 m.p, .int .u8 m.f, .bool m.w]

set_option maxRecDepth 100000 in
set_option maxHeartbeats 4000000 in
theorem do_0 (B t r : Nat) (L : List Mp) (w : World) (h : Both w B t r L) (m : Mp) :
    Calls Try.prog 24 #[.pointer (some ⟨t, 0, none⟩), .pointer (some ⟨r, 0, none⟩), .agg #[.int .i64 0, .int .u8 m.a, .int .u8 m.p, .int .u8 m.f, .bool m.w]] w (DoPost B t r w) := by
  obtain ⟨⟨o1, o2, hh⟩, hgood⟩ := h
  have hol := hh.tab.ownlt
  have hrl := hh.ref.ownlt
  have htl := hh.tab.lt
  have hrl2 := hh.ref.lt
  have hBt := hh.bt
  have hnew := Blk.new w 51 #[.int .i64 0, .int .u8 m.a, .int .u8 m.p, .int .u8 m.f, .bool m.w]
  have hu0 := (Upd.refl [] w).alloc (.cells #[.int .i64 0, .int .u8 m.a, .int .u8 m.p, .int .u8 m.f, .bool m.w] 51)
  have hh1 := hh.upd0 hu0
  have HI := Lib.hid (fun W (hW : At TlbT W t o1 L) => ins_any t o1 L W hW m)
  have HR := Lib.hid (fun W (hW : At RefT W r o2 L) => rins_any r o2 L W hW m)
  have HG := Lib.hid (good_ins m hgood)
  obtain ⟨g, d, er, hV⟩ := insV_shape m L
  rw [hV] at HI HR
  generalize insN m L = L' at *
  have hsz : (w.alloc (.cells #[.int .i64 0, .int .u8 m.a, .int .u8 m.p, .int .u8 m.f, .bool m.w] 51)).heap.size = w.heap.size + 1 := World.size_alloc _ _
  have hra : (w.alloc (.cells #[.int .i64 0, .int .u8 m.a, .int .u8 m.p, .int .u8 m.f, .bool m.w] 51)).rangeAt w.heap.size 1 (encM m) := fun i v hv => hnew.cellAt (by
    match i, hv with
    | 0, hv => simpa [encM] using hv
    | 1, hv => simpa [encM] using hv
    | 2, hv => simpa [encM] using hv
    | 3, hv => simpa [encM] using hv
    | k + 4, hv => simp [encM] at hv)
  have c0 := hnew.cellAt (i := 0) (v := .int .i64 0) rfl
  have HH1 := Lib.hid hh1
  have HU0 := Lib.hid hu0
  have heq : ∀ w : World, (Op.equalIn 10000 24 (.agg (encM g).toArray) (.agg (encM g).toArray)).run Try.prog w = .ok true w := fun w => (eqM _ _ w).trans (by simp)
  have hbe : ((er : Int) == (er : Int)) = true := by simp
  have hbd : (d == d) = true := by simp
  clear hV hu0 hh1 hgood hh hnew
  go_enter Try.func24, Try.ntmps24
  go_wp2_with (refine wpList_load_map rfl _ rfl w.heap.size 1 m rfl hra ?_)
  refine (HI.out _ HH1.out.tab).mono ?_; intro e1 w2 c
  have hu2 := c.upd
  obtain ⟨o1', rfl, hh2, hf2⟩ := HH1.out.first c
  have hn2 : w.heap.size ∉ t :: o1 := by intro hq; simp at hq; rcases hq with hq | hq; omega; have := hol _ hq; omega
  have hra2 : w2.rangeAt w.heap.size 1 (encM m) := fun i v hv => hu2.cellAt (hra i v hv) hn2
  have HRA2 := Lib.hid hra2
  have hsz2 := hu2.size
  have HH2 := Lib.hid hh2
  have HF2 := Lib.hid hf2
  clear c hu2 hh2 hf2 hra hra2
  go_wp2_with (first
    | (refine wpList_store_map rfl _ _ rfl w2.heap.size g mz rfl rfl (Blk.new w2 24 (encM mz).toArray) ?_; intro w3 hb3 hu3; have HB3 := Lib.hid hb3; have HU3 := Lib.hid (((Upd.refl [] w2).alloc _).trans hu3 (by intro s hs; simp at hs; right; omega)); have hra3 : w3.rangeAt w.heap.size 1 (encM m) := fun i v hv => HU3.out.cellAt (HRA2.out i v hv) (by simp); clear hb3 hu3)
    | (refine wpList_load_map rfl _ rfl w.heap.size 1 m rfl hra3 ?_))
  have hh3 := HH2.out.upd0 HU3.out
  have hrl3 := hh3.ref.ownlt
  refine (HR.out _ hh3.ref).mono ?_; intro e2 w4 c
  have hu4 := c.upd
  obtain ⟨o2', rfl, hh4, hf4⟩ := hh3.second c
  have hn4 : w2.heap.size ∉ r :: o2 := by intro hq; simp at hq; rcases hq with hq | hq; omega; have := hrl _ hq; omega
  have HH4 := Lib.hid hh4
  have HF4 := Lib.hid (HF2.out.trans ((From.of0 HU3.out).trans hf4))
  have HB4 := Lib.hid (HB3.out.upd hu4 hn4)
  clear c hu4 hh4 hf4 hh3 hrl3 hra3
  go_wp2_with (first
    | (refine wpList_store_map rfl _ _ rfl w4.heap.size g mz rfl rfl (Blk.new w4 24 (encM mz).toArray) ?_; intro w5 hb5 hu5; have HU5 := Lib.hid (((Upd.refl [] w4).alloc _).trans hu5 (by intro s hs; simp at hs; right; omega)); have hy5 := blk_range hb5; have hy3 := blk_range (HB4.out.upd HU5.out (by simp)); clear hb5 hu5)
    | (refine wpList_load_map rfl _ rfl w2.heap.size 0 g rfl hy3 ?_)
    | (refine wpList_load_map rfl _ rfl w4.heap.size 0 g rfl hy5 ?_))
  go_ret
  refine ⟨by simp, ⟨L', ⟨o1', o2', HH4.out.upd0 HU5.out⟩, HG.out⟩, ?_⟩
  exact (From.of0 HU0.out).trans (HF4.out.trans (From.of0 HU5.out))

set_option maxRecDepth 100000 in
set_option maxHeartbeats 4000000 in
theorem do_1 (B t r : Nat) (L : List Mp) (w : World) (h : Both w B t r L) (m : Mp) :
    Calls Try.prog 24 #[.pointer (some ⟨t, 0, none⟩), .pointer (some ⟨r, 0, none⟩), .agg #[.int .i64 1, .int .u8 m.a, .int .u8 m.p, .int .u8 m.f, .bool m.w]] w (DoPost B t r w) := by
  obtain ⟨⟨o1, o2, hh⟩, hgood⟩ := h
  have hol := hh.tab.ownlt
  have hrl := hh.ref.ownlt
  have htl := hh.tab.lt
  have hrl2 := hh.ref.lt
  have hBt := hh.bt
  have hnew := Blk.new w 51 #[.int .i64 1, .int .u8 m.a, .int .u8 m.p, .int .u8 m.f, .bool m.w]
  have hu0 := (Upd.refl [] w).alloc (.cells #[.int .i64 1, .int .u8 m.a, .int .u8 m.p, .int .u8 m.f, .bool m.w] 51)
  have hh1 := hh.upd0 hu0
  have HI := Lib.hid (fun W (hW : At TlbT W t o1 L) => drop_any t o1 L W hW m.a m.p)
  have HR := Lib.hid (fun W (hW : At RefT W r o2 L) => rdrop_any r o2 L W hW m.a m.p)
  rw [drop_bool m.a m.p hgood, drop_keep m.a m.p hgood] at HI
  have HG := Lib.hid ((drop_keep m.a m.p hgood) ▸ good_keep (isAt m.a m.p) hgood)
  generalize (L.findIdx? (isAt m.a m.p)).isSome = d at *
  generalize dropL m.a m.p L = L' at *
  have c0 := hnew.cellAt (i := 0) (v := .int .i64 1) rfl
  have c1 := hnew.cellAt (i := 1) (v := .int .u8 m.a) rfl
  have c2 := hnew.cellAt (i := 2) (v := .int .u8 m.p) rfl
  have n1 : w.heap.size ∉ t :: o1 := by intro hq; simp at hq; rcases hq with hq | hq; omega; have := hol _ hq; omega
  have n2 : w.heap.size ∉ r :: o2 := by intro hq; simp at hq; rcases hq with hq | hq; omega; have := hrl _ hq; omega
  have HH1 := Lib.hid hh1
  have HU0 := Lib.hid hu0
  have N1 := Lib.hid n1
  have N2 := Lib.hid n2
  have hbd : (d == d) = true := by simp
  clear hu0 hh1 hgood hh hnew n1 n2 hol hrl
  go_enter Try.func24, Try.ntmps24
  go_wp2_with fail
  generalize (w.alloc (.cells #[.int .i64 1, .int .u8 m.a, .int .u8 m.p, .int .u8 m.f, .bool m.w] 51)) = W1 at *
  generalize w.heap.size = Nb at *
  go_region_held3 (fun w' => w'.cell? ⟨Nb, 1, none⟩ = some (.int .u8 m.a) ∧ w'.cell? ⟨Nb, 2, none⟩ = some (.int .u8 m.p)) (simp [*])
    (first
      | (go_at_call 25; refine (HI.out _ (HH1.out.upd0 ((Upd.refl [] W1).drew)).tab).mono ?_; intro e1 w2 c; have hu2 := c.upd; obtain ⟨o1', rfl, hh2, hf2⟩ := (HH1.out.upd0 ((Upd.refl [] W1).drew)).first c; have d1 := hu2.cellAt (w := W1.drew) c1 N1.out; have d2 := hu2.cellAt (w := W1.drew) c2 N1.out; have HH2 := Lib.hid hh2; have HF2 := Lib.hid hf2; clear c hu2 hh2 hf2)
      | (go_at_call 37; refine (HR.out _ HH2.out.ref).mono ?_; intro e2 w3 c; have hu3 := c.upd; obtain ⟨o2', rfl, hh3, hf3⟩ := HH2.out.second c; have g1 := hu3.cellAt d1 N2.out; have g2 := hu3.cellAt d2 N2.out; have HH3 := Lib.hid hh3; have HF3 := Lib.hid hf3; clear c hu3 hh3 hf3))
  go_wp2
  go_ret
  refine ⟨by simp, ⟨L', ⟨o1', o2', HH3.out⟩, HG.out⟩, ?_⟩
  exact (From.of0 HU0.out).trans ((From.of0 ((Upd.refl [] W1).drew)).trans (HF2.out.trans HF3.out))

set_option maxRecDepth 100000 in
set_option maxHeartbeats 4000000 in
theorem do_2 (B t r : Nat) (L : List Mp) (w : World) (h : Both w B t r L) (m : Mp) :
    Calls Try.prog 24 #[.pointer (some ⟨t, 0, none⟩), .pointer (some ⟨r, 0, none⟩), .agg #[.int .i64 2, .int .u8 m.a, .int .u8 m.p, .int .u8 m.f, .bool m.w]] w (DoPost B t r w) := by
  obtain ⟨⟨o1, o2, hh⟩, hgood⟩ := h
  have hol := hh.tab.ownlt
  have hrl := hh.ref.ownlt
  have htl := hh.tab.lt
  have hrl2 := hh.ref.lt
  have hBt := hh.bt
  have hnew := Blk.new w 51 #[.int .i64 2, .int .u8 m.a, .int .u8 m.p, .int .u8 m.f, .bool m.w]
  have hu0 := (Upd.refl [] w).alloc (.cells #[.int .i64 2, .int .u8 m.a, .int .u8 m.p, .int .u8 m.f, .bool m.w] 51)
  have hh1 := hh.upd0 hu0
  have HI := Lib.hid (fun W (hW : At TlbT W t o1 L) => asid_any t o1 L W hW m.a)
  have HR := Lib.hid (fun W (hW : At RefT W r o2 L) => rasid_any r o2 L W hW m.a)
  have HG := Lib.hid (good_keep (fun x => decide (x.a = m.a)) hgood)
  generalize (L.length - (keepL (fun x => decide (x.a = m.a)) L).length) = n at *
  generalize keepL (fun x => decide (x.a = m.a)) L = L' at *
  have c0 := hnew.cellAt (i := 0) (v := .int .i64 2) rfl
  have c1 := hnew.cellAt (i := 1) (v := .int .u8 m.a) rfl
  have n1 : w.heap.size ∉ t :: o1 := by intro hq; simp at hq; rcases hq with hq | hq; omega; have := hol _ hq; omega
  have n2 : w.heap.size ∉ r :: o2 := by intro hq; simp at hq; rcases hq with hq | hq; omega; have := hrl _ hq; omega
  have HH1 := Lib.hid hh1
  have HU0 := Lib.hid hu0
  have N1 := Lib.hid n1
  have N2 := Lib.hid n2
  have hbn : ((n : Int) == (n : Int)) = true := by simp
  clear hu0 hh1 hgood hh hnew n1 n2 hol hrl
  go_enter Try.func24, Try.ntmps24
  go_wp2_with fail
  generalize (w.alloc (.cells #[.int .i64 2, .int .u8 m.a, .int .u8 m.p, .int .u8 m.f, .bool m.w] 51)) = W1 at *
  generalize w.heap.size = Nb at *
  go_region_held3 (fun w' => w'.cell? ⟨Nb, 1, none⟩ = some (.int .u8 m.a)) (simp [*])
    (first
      | (go_at_call 19; refine (HI.out _ (HH1.out.upd0 ((Upd.refl [] W1).drew)).tab).mono ?_; intro e1 w2 c; have hu2 := c.upd; obtain ⟨o1', rfl, hh2, hf2⟩ := (HH1.out.upd0 ((Upd.refl [] W1).drew)).first c; have d1 := hu2.cellAt (w := W1.drew) c1 N1.out; have HH2 := Lib.hid hh2; have HF2 := Lib.hid hf2; clear c hu2 hh2 hf2)
      | (go_at_call 38; refine (HR.out _ HH2.out.ref).mono ?_; intro e2 w3 c; have hu3 := c.upd; obtain ⟨o2', rfl, hh3, hf3⟩ := HH2.out.second c; have g1 := hu3.cellAt d1 N2.out; have HH3 := Lib.hid hh3; have HF3 := Lib.hid hf3; clear c hu3 hh3 hf3))
  go_wp2
  go_ret
  refine ⟨by simp, ⟨L', ⟨o1', o2', HH3.out⟩, HG.out⟩, ?_⟩
  exact (From.of0 HU0.out).trans ((From.of0 ((Upd.refl [] W1).drew)).trans (HF2.out.trans HF3.out))

set_option maxRecDepth 100000 in
set_option maxHeartbeats 4000000 in
theorem do_3 (B t r : Nat) (L : List Mp) (w : World) (h : Both w B t r L) (m : Mp) :
    Calls Try.prog 24 #[.pointer (some ⟨t, 0, none⟩), .pointer (some ⟨r, 0, none⟩), .agg #[.int .i64 3, .int .u8 m.a, .int .u8 m.p, .int .u8 m.f, .bool m.w]] w (DoPost B t r w) := by
  obtain ⟨⟨o1, o2, hh⟩, hgood⟩ := h
  have hol := hh.tab.ownlt
  have hrl := hh.ref.ownlt
  have htl := hh.tab.lt
  have hrl2 := hh.ref.lt
  have hBt := hh.bt
  have hnew := Blk.new w 51 #[.int .i64 3, .int .u8 m.a, .int .u8 m.p, .int .u8 m.f, .bool m.w]
  have hu0 := (Upd.refl [] w).alloc (.cells #[.int .i64 3, .int .u8 m.a, .int .u8 m.p, .int .u8 m.f, .bool m.w] 51)
  have hh1 := hh.upd0 hu0
  have HI := Lib.hid (fun W (hW : At TlbT W t o1 L) => frame_any t o1 L W hW m.f)
  have HR := Lib.hid (fun W (hW : At RefT W r o2 L) => rframe_any r o2 L W hW m.f)
  have HG := Lib.hid (good_keep (fun x => decide (x.f = m.f)) hgood)
  generalize (L.length - (keepL (fun x => decide (x.f = m.f)) L).length) = n at *
  generalize keepL (fun x => decide (x.f = m.f)) L = L' at *
  have c0 := hnew.cellAt (i := 0) (v := .int .i64 3) rfl
  have c3 := hnew.cellAt (i := 3) (v := .int .u8 m.f) rfl
  have n1 : w.heap.size ∉ t :: o1 := by intro hq; simp at hq; rcases hq with hq | hq; omega; have := hol _ hq; omega
  have n2 : w.heap.size ∉ r :: o2 := by intro hq; simp at hq; rcases hq with hq | hq; omega; have := hrl _ hq; omega
  have HH1 := Lib.hid hh1
  have HU0 := Lib.hid hu0
  have N1 := Lib.hid n1
  have N2 := Lib.hid n2
  have hbn : ((n : Int) == (n : Int)) = true := by simp
  clear hu0 hh1 hgood hh hnew n1 n2 hol hrl
  go_enter Try.func24, Try.ntmps24
  go_wp2_with fail
  generalize (w.alloc (.cells #[.int .i64 3, .int .u8 m.a, .int .u8 m.p, .int .u8 m.f, .bool m.w] 51)) = W1 at *
  generalize w.heap.size = Nb at *
  go_region_held3 (fun w' => w'.cell? ⟨Nb, 3, none⟩ = some (.int .u8 m.f)) (simp [*])
    (first
      | (go_at_call 20; refine (HI.out _ (HH1.out.upd0 ((Upd.refl [] W1).drew)).tab).mono ?_; intro e1 w2 c; have hu2 := c.upd; obtain ⟨o1', rfl, hh2, hf2⟩ := (HH1.out.upd0 ((Upd.refl [] W1).drew)).first c; have d3 := hu2.cellAt (w := W1.drew) c3 N1.out; have HH2 := Lib.hid hh2; have HF2 := Lib.hid hf2; clear c hu2 hh2 hf2)
      | (go_at_call 39; refine (HR.out _ HH2.out.ref).mono ?_; intro e2 w3 c; have hu3 := c.upd; obtain ⟨o2', rfl, hh3, hf3⟩ := HH2.out.second c; have g3 := hu3.cellAt d3 N2.out; have HH3 := Lib.hid hh3; have HF3 := Lib.hid hf3; clear c hu3 hh3 hf3))
  go_wp2
  go_ret
  refine ⟨by simp, ⟨L', ⟨o1', o2', HH3.out⟩, HG.out⟩, ?_⟩
  exact (From.of0 HU0.out).trans ((From.of0 ((Upd.refl [] W1).drew)).trans (HF2.out.trans HF3.out))

set_option maxRecDepth 100000 in
set_option maxHeartbeats 4000000 in
theorem do_4 (B t r : Nat) (L : List Mp) (w : World) (h : Both w B t r L) (m : Mp) :
    Calls Try.prog 24 #[.pointer (some ⟨t, 0, none⟩), .pointer (some ⟨r, 0, none⟩), .agg #[.int .i64 4, .int .u8 m.a, .int .u8 m.p, .int .u8 m.f, .bool m.w]] w (DoPost B t r w) := by
  obtain ⟨⟨o1, o2, hh⟩, hgood⟩ := h
  have hol := hh.tab.ownlt
  have hrl := hh.ref.ownlt
  have htl := hh.tab.lt
  have hrl2 := hh.ref.lt
  have hBt := hh.bt
  have hnew := Blk.new w 51 #[.int .i64 4, .int .u8 m.a, .int .u8 m.p, .int .u8 m.f, .bool m.w]
  have hu0 := (Upd.refl [] w).alloc (.cells #[.int .i64 4, .int .u8 m.a, .int .u8 m.p, .int .u8 m.f, .bool m.w] 51)
  have hh1 := hh.upd0 hu0
  have HI := Lib.hid (fun W (hW : At TlbT W t o1 L) => prot_any t o1 L W hW m.a m.p m.w)
  have HR := Lib.hid (fun W (hW : At RefT W r o2 L) => rprot_any r o2 L W hW m.a m.p m.w)
  have HG := Lib.hid (good_prot m.a m.p m.w hgood)
  generalize (L.findIdx? (isAt m.a m.p)).isSome = d at *
  generalize protL m.a m.p m.w L = L' at *
  have c0 := hnew.cellAt (i := 0) (v := .int .i64 4) rfl
  have c1 := hnew.cellAt (i := 1) (v := .int .u8 m.a) rfl
  have c2 := hnew.cellAt (i := 2) (v := .int .u8 m.p) rfl
  have c4 := hnew.cellAt (i := 4) (v := .bool m.w) rfl
  have n1 : w.heap.size ∉ t :: o1 := by intro hq; simp at hq; rcases hq with hq | hq; omega; have := hol _ hq; omega
  have n2 : w.heap.size ∉ r :: o2 := by intro hq; simp at hq; rcases hq with hq | hq; omega; have := hrl _ hq; omega
  have HH1 := Lib.hid hh1
  have HU0 := Lib.hid hu0
  have N1 := Lib.hid n1
  have N2 := Lib.hid n2
  have hbd : (d == d) = true := by simp
  clear hu0 hh1 hgood hh hnew n1 n2 hol hrl
  go_enter Try.func24, Try.ntmps24
  go_wp2_with fail
  generalize (w.alloc (.cells #[.int .i64 4, .int .u8 m.a, .int .u8 m.p, .int .u8 m.f, .bool m.w] 51)) = W1 at *
  generalize w.heap.size = Nb at *
  go_region_held3 (fun w' => w'.cell? ⟨Nb, 1, none⟩ = some (.int .u8 m.a) ∧ w'.cell? ⟨Nb, 2, none⟩ = some (.int .u8 m.p) ∧ w'.cell? ⟨Nb, 4, none⟩ = some (.bool m.w)) (simp [*])
    (first
      | (go_at_call 26; refine (HI.out _ (HH1.out.upd0 ((Upd.refl [] W1).drew)).tab).mono ?_; intro e1 w2 c; have hu2 := c.upd; obtain ⟨o1', rfl, hh2, hf2⟩ := (HH1.out.upd0 ((Upd.refl [] W1).drew)).first c; have d1 := hu2.cellAt (w := W1.drew) c1 N1.out; have d2 := hu2.cellAt (w := W1.drew) c2 N1.out; have d4 := hu2.cellAt (w := W1.drew) c4 N1.out; have HH2 := Lib.hid hh2; have HF2 := Lib.hid hf2; clear c hu2 hh2 hf2)
      | (go_at_call 40; refine (HR.out _ HH2.out.ref).mono ?_; intro e2 w3 c; have hu3 := c.upd; obtain ⟨o2', rfl, hh3, hf3⟩ := HH2.out.second c; have g1 := hu3.cellAt d1 N2.out; have g2 := hu3.cellAt d2 N2.out; have g4 := hu3.cellAt d4 N2.out; have HH3 := Lib.hid hh3; have HF3 := Lib.hid hf3; clear c hu3 hh3 hf3))
  go_wp2
  go_ret
  refine ⟨by simp, ⟨L', ⟨o1', o2', HH3.out⟩, HG.out⟩, ?_⟩
  exact (From.of0 HU0.out).trans ((From.of0 ((Upd.refl [] W1).drew)).trans (HF2.out.trans HF3.out))

set_option maxRecDepth 100000 in
set_option maxHeartbeats 4000000 in
theorem do_else (B t r : Nat) (L : List Mp) (w : World) (h : Both w B t r L) (K : Int) (m : Mp) (k0 : K ≠ 0) (k1 : K ≠ 1) (k2 : K ≠ 2) (k3 : K ≠ 3) (k4 : K ≠ 4) :
    Calls Try.prog 24 #[.pointer (some ⟨t, 0, none⟩), .pointer (some ⟨r, 0, none⟩), .agg #[.int .i64 K, .int .u8 m.a, .int .u8 m.p, .int .u8 m.f, .bool m.w]] w (DoPost B t r w) := by
  have HB := Lib.hid h
  have b0 : (K == 0) = false := by simp [k0]
  have b1 : (K == 1) = false := by simp [k1]
  have b2 : (K == 2) = false := by simp [k2]
  have b3 : (K == 3) = false := by simp [k3]
  have b4 : (K == 4) = false := by simp [k4]
  clear h k0 k1 k2 k3 k4
  have c0 := (Blk.new w 51 #[.int .i64 K, .int .u8 m.a, .int .u8 m.p, .int .u8 m.f, .bool m.w]).cellAt (i := 0) (v := .int .i64 K) rfl
  go_enter Try.func24, Try.ntmps24
  go_wp2_with fail
  go_ret
  exact ⟨by simp, ⟨L, HB.out.upd0 ((Upd.refl [] w).alloc _)⟩, From.of0 ((Upd.refl [] w).alloc _)⟩
theorem do_any (B t r : Nat) (L : List Mp) (w : World) (h : Both w B t r L) (K : Int) (m : Mp) :
    Calls Try.prog 24 #[.pointer (some ⟨t, 0, none⟩), .pointer (some ⟨r, 0, none⟩), .agg (deedCs K m).toArray] w (DoPost B t r w) := by
  by_cases k0 : K = 0
  · subst k0; exact do_0 B t r L w h m
  by_cases k1 : K = 1
  · subst k1; exact do_1 B t r L w h m
  by_cases k2 : K = 2
  · subst k2; exact do_2 B t r L w h m
  by_cases k3 : K = 3
  · subst k3; exact do_3 B t r L w h m
  by_cases k4 : K = 4
  · subst k4; exact do_4 B t r L w h m
  exact do_else B t r L w h K m k0 k1 k2 k3 k4

end Go.Proofs.Ytefjppebohnmjaa
