/- One deed on both: printed by reg_do.py. -/
import Derived.Test.YtelmkmhmdfcnmaaRegH
import Derived.Deep.RegionHeld3
namespace Go.Proofs.Ytelmkmhmdfcnmaa
open Go.RowKit Go.Maps

def deedCs (K s : Int) (f g : Nat) (on : Bool) : List Value := [.int .i64 K, .int .i64 s, .int .u8 f, .int .u8 g, .bool on]
def DoPost (c b1 b2 b3 r : Nat) (w : World) (e : Ending) (w' : World) : Prop := e = .returned (.bool true) ∧ (∃ S', Both w' c b1 b2 b3 r S') ∧ Upd [b1, b2, b3, r] w w'

set_option maxRecDepth 100000 in
set_option maxHeartbeats 4000000 in
theorem do_0 (c b1 b2 b3 r : Nat) (S : St) (w : World) (h : Both w c b1 b2 b3 r S) (s : Int) (hs0 : -9223372036854775808 ≤ s) (hs1 : s ≤ 9223372036854775807) (f g : Nat) (hf : f < 256) (hg : g < 256) (on : Bool) :
    Calls Try.prog 22 #[.pointer (some ⟨c, 0, none⟩), .pointer (some ⟨r, 0, none⟩), .agg #[.int .i64 0, .int .i64 s, .int .u8 f, .int .u8 g, .bool on]] w (DoPost c b1 b2 b3 r w) := by
  have huse := And.intro hs0 (And.intro hs1 (And.intro hf hg))
  clear huse
  have hnew := Blk.new w 49 #[.int .i64 0, .int .i64 s, .int .u8 f, .int .u8 g, .bool on]
  have hu0 := (Upd.refl [] w).alloc (.cells #[.int .i64 0, .int .i64 s, .int .u8 f, .int .u8 g, .bool on] 49)
  have hh1 := h.upd0 hu0
  have n1 : w.heap.size ≠ b1 := by have := h.reg.m1.lt; omega
  have n2 : w.heap.size ≠ b2 := by have := h.reg.m2.lt; omega
  have n3 : w.heap.size ≠ b3 := by have := h.reg.m3.lt; omega
  have n4 : w.heap.size ≠ r := by have := h.ref.lt; omega
  have HN := Lib.hid (show w.heap.size ∉ [b1, b2, b3, r] by simp; exact ⟨n1, n2, n3, n4⟩)
  have c0 := hnew.cellAt (i := 0) (v := .int .i64 0) rfl
  have c1 := hnew.cellAt (i := 1) (v := .int .i64 s) rfl
  have c2 := hnew.cellAt (i := 2) (v := .int .u8 f) rfl
  have HH := Lib.hid hh1
  have HU0 := Lib.hid hu0
  have HGD := Lib.hid h.good
  have HI := Lib.hid (fun W (hW : RegAt W c b1 b2 b3 S) => bind_any c b1 b2 b3 S W hW f hf s hs0 hs1)
  have HJ := Lib.hid (fun W (hW : RegR W r S) => rbind_any r S W hW h.good f s hs0 hs1)
  have HG := Lib.hid (good_bind h.good f s)
  generalize bindE S f s = e at *
  generalize bindS S f s = S' at *
  have hbe : (e == e) = true := by simp
  clear hnew hu0 hh1 h n1 n2 n3 n4
  go_enter Try.func22, Try.ntmps22
  go_wp2_with fail
  generalize (w.alloc (.cells #[.int .i64 0, .int .i64 s, .int .u8 f, .int .u8 g, .bool on] 49)) = W1 at *
  generalize w.heap.size = Nb at *
  go_region_held3 (fun w' => w'.cell? ⟨Nb, 1, none⟩ = some (.int .i64 s) ∧ w'.cell? ⟨Nb, 2, none⟩ = some (.int .u8 f)) (simp [*])
    (first
      | (go_at_call 15; refine (HI.out _ (HH.out.upd0 ((Upd.refl [] W1).drew)).reg).mono ?_; intro e1 w2 d; obtain ⟨rfl, hr2, hk2, hu2⟩ := step_reg (HH.out.upd0 ((Upd.refl [] W1).drew)).reg (HH.out.upd0 ((Upd.refl [] W1).drew)).ref d; have d1 := hu2.cellAt (w := W1.drew) c1 HN.out; have d2 := hu2.cellAt (w := W1.drew) c2 HN.out; have HR2 := Lib.hid hr2; have HK2 := Lib.hid hk2; have HU2 := Lib.hid hu2; clear d hr2 hk2 hu2)
      | (go_at_call 37; refine (HJ.out _ HK2.out).mono ?_; intro e2 w3 d; obtain ⟨rfl, hr3, hk3, hu3⟩ := step_ref HR2.out HK2.out d; have g1 := hu3.cellAt d1 HN.out; have g2 := hu3.cellAt d2 HN.out; have HR3 := Lib.hid hr3; have HK3 := Lib.hid hk3; have HU3 := Lib.hid hu3; clear d hr3 hk3 hu3))
  go_wp2
  go_ret
  exact ⟨by simp, ⟨S', HR3.out, HK3.out, HG.out⟩, (((HU0.out.zero _).drew).trans' HU2.out).trans' HU3.out⟩

set_option maxRecDepth 100000 in
set_option maxHeartbeats 4000000 in
theorem do_2 (c b1 b2 b3 r : Nat) (S : St) (w : World) (h : Both w c b1 b2 b3 r S) (s : Int) (hs0 : -9223372036854775808 ≤ s) (hs1 : s ≤ 9223372036854775807) (f g : Nat) (hf : f < 256) (hg : g < 256) (on : Bool) :
    Calls Try.prog 22 #[.pointer (some ⟨c, 0, none⟩), .pointer (some ⟨r, 0, none⟩), .agg #[.int .i64 2, .int .i64 s, .int .u8 f, .int .u8 g, .bool on]] w (DoPost c b1 b2 b3 r w) := by
  have huse := And.intro hs0 (And.intro hs1 (And.intro hf hg))
  clear huse
  have hnew := Blk.new w 49 #[.int .i64 2, .int .i64 s, .int .u8 f, .int .u8 g, .bool on]
  have hu0 := (Upd.refl [] w).alloc (.cells #[.int .i64 2, .int .i64 s, .int .u8 f, .int .u8 g, .bool on] 49)
  have hh1 := h.upd0 hu0
  have n1 : w.heap.size ≠ b1 := by have := h.reg.m1.lt; omega
  have n2 : w.heap.size ≠ b2 := by have := h.reg.m2.lt; omega
  have n3 : w.heap.size ≠ b3 := by have := h.reg.m3.lt; omega
  have n4 : w.heap.size ≠ r := by have := h.ref.lt; omega
  have HN := Lib.hid (show w.heap.size ∉ [b1, b2, b3, r] by simp; exact ⟨n1, n2, n3, n4⟩)
  have c0 := hnew.cellAt (i := 0) (v := .int .i64 2) rfl
  have c2 := hnew.cellAt (i := 2) (v := .int .u8 f) rfl
  have c4 := hnew.cellAt (i := 4) (v := .bool on) rfl
  have HH := Lib.hid hh1
  have HU0 := Lib.hid hu0
  have HGD := Lib.hid h.good
  have HI := Lib.hid (fun W (hW : RegAt W c b1 b2 b3 S) => dirty_any c b1 b2 b3 S W hW f hf on)
  have HJ := Lib.hid (fun W (hW : RegR W r S) => rdirty_any r S W hW f on)
  have HG := Lib.hid (good_dir h.good f on)
  generalize mayE S f true = e at *
  generalize dirS S f on = S' at *
  have hbe : (e == e) = true := by simp
  clear hnew hu0 hh1 h n1 n2 n3 n4
  go_enter Try.func22, Try.ntmps22
  go_wp2_with fail
  generalize (w.alloc (.cells #[.int .i64 2, .int .i64 s, .int .u8 f, .int .u8 g, .bool on] 49)) = W1 at *
  generalize w.heap.size = Nb at *
  go_region_held3 (fun w' => w'.cell? ⟨Nb, 2, none⟩ = some (.int .u8 f) ∧ w'.cell? ⟨Nb, 4, none⟩ = some (.bool on)) (simp [*])
    (first
      | (go_at_call 13; refine (HI.out _ (HH.out.upd0 ((Upd.refl [] W1).drew)).reg).mono ?_; intro e1 w2 d; obtain ⟨rfl, hr2, hk2, hu2⟩ := step_reg (HH.out.upd0 ((Upd.refl [] W1).drew)).reg (HH.out.upd0 ((Upd.refl [] W1).drew)).ref d; have d2 := hu2.cellAt (w := W1.drew) c2 HN.out; have d4 := hu2.cellAt (w := W1.drew) c4 HN.out; have HR2 := Lib.hid hr2; have HK2 := Lib.hid hk2; have HU2 := Lib.hid hu2; clear d hr2 hk2 hu2)
      | (go_at_call 39; refine (HJ.out _ HK2.out).mono ?_; intro e2 w3 d; obtain ⟨rfl, hr3, hk3, hu3⟩ := step_ref HR2.out HK2.out d; have g2 := hu3.cellAt d2 HN.out; have g4 := hu3.cellAt d4 HN.out; have HR3 := Lib.hid hr3; have HK3 := Lib.hid hk3; have HU3 := Lib.hid hu3; clear d hr3 hk3 hu3))
  go_wp2
  go_ret
  exact ⟨by simp, ⟨S', HR3.out, HK3.out, HG.out⟩, (((HU0.out.zero _).drew).trans' HU2.out).trans' HU3.out⟩

set_option maxRecDepth 100000 in
set_option maxHeartbeats 4000000 in
theorem do_3 (c b1 b2 b3 r : Nat) (S : St) (w : World) (h : Both w c b1 b2 b3 r S) (s : Int) (hs0 : -9223372036854775808 ≤ s) (hs1 : s ≤ 9223372036854775807) (f g : Nat) (hf : f < 256) (hg : g < 256) (on : Bool) :
    Calls Try.prog 22 #[.pointer (some ⟨c, 0, none⟩), .pointer (some ⟨r, 0, none⟩), .agg #[.int .i64 3, .int .i64 s, .int .u8 f, .int .u8 g, .bool on]] w (DoPost c b1 b2 b3 r w) := by
  have huse := And.intro hs0 (And.intro hs1 (And.intro hf hg))
  clear huse
  have hnew := Blk.new w 49 #[.int .i64 3, .int .i64 s, .int .u8 f, .int .u8 g, .bool on]
  have hu0 := (Upd.refl [] w).alloc (.cells #[.int .i64 3, .int .i64 s, .int .u8 f, .int .u8 g, .bool on] 49)
  have hh1 := h.upd0 hu0
  have n1 : w.heap.size ≠ b1 := by have := h.reg.m1.lt; omega
  have n2 : w.heap.size ≠ b2 := by have := h.reg.m2.lt; omega
  have n3 : w.heap.size ≠ b3 := by have := h.reg.m3.lt; omega
  have n4 : w.heap.size ≠ r := by have := h.ref.lt; omega
  have HN := Lib.hid (show w.heap.size ∉ [b1, b2, b3, r] by simp; exact ⟨n1, n2, n3, n4⟩)
  have c0 := hnew.cellAt (i := 0) (v := .int .i64 3) rfl
  have c2 := hnew.cellAt (i := 2) (v := .int .u8 f) rfl
  have c3 := hnew.cellAt (i := 3) (v := .int .u8 g) rfl
  have HH := Lib.hid hh1
  have HU0 := Lib.hid hu0
  have HGD := Lib.hid h.good
  have HI := Lib.hid (fun W (hW : RegAt W c b1 b2 b3 S) => move_any c b1 b2 b3 S W hW f g hf hg h.good.le)
  have HJ := Lib.hid (fun W (hW : RegR W r S) => rmove_any r S W hW h.good f g)
  have HG := Lib.hid (good_mov h.good f g)
  generalize movE S f g = e at *
  generalize movS S f g = S' at *
  have hbe : (e == e) = true := by simp
  clear hnew hu0 hh1 h n1 n2 n3 n4
  go_enter Try.func22, Try.ntmps22
  go_wp2_with fail
  generalize (w.alloc (.cells #[.int .i64 3, .int .i64 s, .int .u8 f, .int .u8 g, .bool on] 49)) = W1 at *
  generalize w.heap.size = Nb at *
  go_region_held3 (fun w' => w'.cell? ⟨Nb, 2, none⟩ = some (.int .u8 f) ∧ w'.cell? ⟨Nb, 3, none⟩ = some (.int .u8 g)) (simp [*])
    (first
      | (go_at_call 19; refine (HI.out _ (HH.out.upd0 ((Upd.refl [] W1).drew)).reg).mono ?_; intro e1 w2 d; obtain ⟨rfl, hr2, hk2, hu2⟩ := step_reg (HH.out.upd0 ((Upd.refl [] W1).drew)).reg (HH.out.upd0 ((Upd.refl [] W1).drew)).ref d; have d2 := hu2.cellAt (w := W1.drew) c2 HN.out; have d3 := hu2.cellAt (w := W1.drew) c3 HN.out; have HR2 := Lib.hid hr2; have HK2 := Lib.hid hk2; have HU2 := Lib.hid hu2; clear d hr2 hk2 hu2)
      | (go_at_call 40; refine (HJ.out _ HK2.out).mono ?_; intro e2 w3 d; obtain ⟨rfl, hr3, hk3, hu3⟩ := step_ref HR2.out HK2.out d; have g2 := hu3.cellAt d2 HN.out; have g3 := hu3.cellAt d3 HN.out; have HR3 := Lib.hid hr3; have HK3 := Lib.hid hk3; have HU3 := Lib.hid hu3; clear d hr3 hk3 hu3))
  go_wp2
  go_ret
  exact ⟨by simp, ⟨S', HR3.out, HK3.out, HG.out⟩, (((HU0.out.zero _).drew).trans' HU2.out).trans' HU3.out⟩

set_option maxRecDepth 100000 in
set_option maxHeartbeats 4000000 in
theorem do_1 (c b1 b2 b3 r : Nat) (S : St) (w : World) (h : Both w c b1 b2 b3 r S) (s : Int) (hs0 : -9223372036854775808 ≤ s) (hs1 : s ≤ 9223372036854775807) (f g : Nat) (hf : f < 256) (hg : g < 256) (on : Bool) :
    Calls Try.prog 22 #[.pointer (some ⟨c, 0, none⟩), .pointer (some ⟨r, 0, none⟩), .agg #[.int .i64 1, .int .i64 s, .int .u8 f, .int .u8 g, .bool on]] w (DoPost c b1 b2 b3 r w) := by
  have huse := And.intro hs0 (And.intro hs1 (And.intro hf hg))
  clear huse
  have hnew := Blk.new w 49 #[.int .i64 1, .int .i64 s, .int .u8 f, .int .u8 g, .bool on]
  have hu0 := (Upd.refl [] w).alloc (.cells #[.int .i64 1, .int .i64 s, .int .u8 f, .int .u8 g, .bool on] 49)
  have hh1 := h.upd0 hu0
  have n1 : w.heap.size ≠ b1 := by have := h.reg.m1.lt; omega
  have n2 : w.heap.size ≠ b2 := by have := h.reg.m2.lt; omega
  have n3 : w.heap.size ≠ b3 := by have := h.reg.m3.lt; omega
  have n4 : w.heap.size ≠ r := by have := h.ref.lt; omega
  have HN := Lib.hid (show w.heap.size ∉ [b1, b2, b3, r] by simp; exact ⟨n1, n2, n3, n4⟩)
  have c0 := hnew.cellAt (i := 0) (v := .int .i64 1) rfl
  have c2 := hnew.cellAt (i := 2) (v := .int .u8 f) rfl
  have HH := Lib.hid hh1
  have HU0 := Lib.hid hu0
  have HGD := Lib.hid h.good
  have HI := Lib.hid (fun W (hW : RegAt W c b1 b2 b3 S) => unbind_any c b1 b2 b3 S W hW f hf h.good.le)
  have HJ := Lib.hid (fun W (hW : RegR W r S) => runbind_any r S W hW h.good f)
  have HG := Lib.hid (good_unb h.good f)
  generalize unbE S f = e at *
  generalize unbV S f = v at *
  have hbv : (v == v) = true := by simp
  generalize unbS S f = S' at *
  have hbe : (e == e) = true := by simp
  clear hnew hu0 hh1 h n1 n2 n3 n4
  go_enter Try.func22, Try.ntmps22
  go_wp2_with fail
  refine (HI.out _ HH.out.reg).mono ?_; intro e1 w2 d
  obtain ⟨rfl, hr2, hk2, hu2⟩ := step_reg HH.out.reg HH.out.ref d
  have d2 := hu2.cellAt c2 HN.out
  have HR2 := Lib.hid hr2
  have HK2 := Lib.hid hk2
  have HU2 := Lib.hid hu2
  clear d hr2 hk2 hu2
  go_wp2_with fail
  refine (HJ.out _ HK2.out).mono ?_; intro e2 w3 d
  obtain ⟨rfl, hr3, hk3, hu3⟩ := step_ref HR2.out HK2.out d
  have HR3 := Lib.hid hr3
  have HK3 := Lib.hid hk3
  have HU3 := Lib.hid hu3
  clear d hr3 hk3 hu3
  go_wp2_with fail
  go_ret
  exact ⟨by simp, ⟨S', HR3.out, HK3.out, HG.out⟩, ((HU0.out.zero _).trans' HU2.out).trans' HU3.out⟩

end Go.Proofs.Ytelmkmhmdfcnmaa
