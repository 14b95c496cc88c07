/- Any deed on both: printed by reg_do.py. -/
import Derived.Test.YtelmkmhmdfcnmaaRegJ
import Derived.Deep.RegionHeld3
namespace Go.Proofs.Ytelmkmhmdfcnmaa
open Go.RowKit Go.Maps

set_option maxRecDepth 100000 in
set_option maxHeartbeats 4000000 in
theorem do_else (c b1 b2 b3 r : Nat) (S : St) (w : World) (h : Both w c b1 b2 b3 r S) (K s : Int) (f g : Nat) (on : Bool) (k0 : K ≠ 0) (k1 : K ≠ 1) (k2 : K ≠ 2) (k3 : K ≠ 3) (k4 : K ≠ 4) :
    Calls Try.prog 22 #[.pointer (some ⟨c, 0, none⟩), .pointer (some ⟨r, 0, none⟩), .agg #[.int .i64 K, .int .i64 s, .int .u8 f, .int .u8 g, .bool on]] w (DoPost c b1 b2 b3 r w) := by
  have HB := Lib.hid h
  have b0 : (K == 0) = false := by simp [k0]
  have b1' : (K == 1) = false := by simp [k1]
  have b2' : (K == 2) = false := by simp [k2]
  have b3' : (K == 3) = false := by simp [k3]
  have b4' : (K == 4) = false := by simp [k4]
  clear h k0 k1 k2 k3 k4
  have c0 := (Blk.new w 49 #[.int .i64 K, .int .i64 s, .int .u8 f, .int .u8 g, .bool on]).cellAt (i := 0) (v := .int .i64 K) rfl
  go_enter Try.func22, Try.ntmps22
  go_wp2_with fail
  go_ret
  exact ⟨by simp, ⟨S, HB.out.upd0 ((Upd.refl [] w).alloc _)⟩, ((Upd.refl [] w).alloc _).zero _⟩
theorem do_any (c b1 b2 b3 r : Nat) (S : St) (w : World) (h : Both w c b1 b2 b3 r S) (K s : Int) (hs0 : -9223372036854775808 ≤ s) (hs1 : s ≤ 9223372036854775807) (f g : Nat) (hf : f < 256) (hg : g < 256) (on : Bool) :
    Calls Try.prog 22 #[.pointer (some ⟨c, 0, none⟩), .pointer (some ⟨r, 0, none⟩), .agg (deedCs K s f g on).toArray] w (DoPost c b1 b2 b3 r w) := by
  by_cases k0 : K = 0
  · subst k0; exact do_0 c b1 b2 b3 r S w h s hs0 hs1 f g hf hg on
  by_cases k1 : K = 1
  · subst k1; exact do_1 c b1 b2 b3 r S w h s hs0 hs1 f g hf hg on
  by_cases k2 : K = 2
  · subst k2; exact do_2 c b1 b2 b3 r S w h s hs0 hs1 f g hf hg on
  by_cases k3 : K = 3
  · subst k3; exact do_3 c b1 b2 b3 r S w h s hs0 hs1 f g hf hg on
  by_cases k4 : K = 4
  · subst k4; exact do_4 c b1 b2 b3 r S w h s hs0 hs1 f g hf hg on
  exact do_else c b1 b2 b3 r S w h K s f g on k0 k1 k2 k3 k4

end Go.Proofs.Ytelmkmhmdfcnmaa
