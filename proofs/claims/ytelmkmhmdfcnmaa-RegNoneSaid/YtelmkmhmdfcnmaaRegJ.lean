/- Clear on both: printed by reg_do.py. -/
import Derived.Test.YtelmkmhmdfcnmaaRegI
import Derived.Deep.RegionHeld3
namespace Go.Proofs.Ytelmkmhmdfcnmaa
open Go.RowKit Go.Maps

/-- Two frames in a row of their own. -/
def XOK (w : World) (g0 f g : Nat) : Prop := ∀ (j x : Nat), [f, g][j]? = some x → x < 256 ∧ w.cell? ⟨g0, 0 + j, none⟩ = some (.int .u8 x)
theorem XOK.of {w : World} {g0 f g : Nat} (hb : Blk w g0 5 #[.int .u8 f, .int .u8 g]) (hf : f < 256) (hg : g < 256) : XOK w g0 f g := by
  intro j x hx
  match j, hx with
  | 0, hx => injection hx with hx; subst hx; exact ⟨hf, hb.cellAt rfl⟩
  | 1, hx => injection hx with hx; subst hx; exact ⟨hg, hb.cellAt rfl⟩
theorem clear_step {c b1 b2 b3 r : Nat} {S : St} {W1 w : World} {g0 f g : Nat} (hh : Both W1 c b1 b2 b3 r S) (hu : Upd [] W1 w) (hx : XOK w g0 f g) (hg : g0 ∉ [b1, b2, b3]) :
    Calls Try.prog 23 #[.pointer (some ⟨c, 0, none⟩), .slice (some ⟨g0, 0, none⟩) 2 2] w fun e w' =>
      e = .returned (.int .i64 ((clrL S [f, g]).2 : Int)) ∧ RegAt w' c b1 b2 b3 (clrL S [f, g]).1 ∧ RegR w' r S ∧ Upd [b1, b2, b3, r] W1 w' ∧ Upd [b1, b2, b3, r] w w' := by
  refine (clear_any c b1 b2 b3 S w (hh.upd0 hu).reg hh.good.le g0 0 2 2 [f, g] rfl (by omega) hx hg).mono fun e w' d => ?_
  obtain ⟨h1, h2, h3, h4⟩ := step_reg (hh.upd0 hu).reg (hh.upd0 hu).ref d
  exact ⟨h1, h2, h3, (hu.zero _).trans' h4, h4⟩
theorem rclear_step {c b1 b2 b3 r : Nat} {S S' : St} {w2 w : World} {g0 f g : Nat} (hr : RegAt w2 c b1 b2 b3 S') (hk : RegR w2 r S) (hS : S' = (clrL S [f, g]).1) (hu : Upd [] w2 w) (hx : XOK w g0 f g) (hg : g0 ≠ r) :
    Calls Try.prog 41 #[.pointer (some ⟨r, 0, none⟩), .slice (some ⟨g0, 0, none⟩) 2 2] w fun e w' =>
      e = .returned (.int .i64 ((clrL S [f, g]).2 : Int)) ∧ RegAt w' c b1 b2 b3 S' ∧ RegR w' r S' ∧ Upd [b1, b2, b3, r] w2 w' := by
  subst hS
  refine (rclear_any r S w (hk.upd hu (by simp)) g0 0 2 2 [f, g] rfl (by omega) hx hg).mono fun e w' d => ?_
  obtain ⟨h1, h2, h3, h4⟩ := step_ref (hr.upd0 hu) (hk.upd hu (by simp)) d
  exact ⟨h1, h2, h3, (hu.zero _).trans' h4⟩

set_option maxRecDepth 100000 in
set_option maxHeartbeats 4000000 in
theorem do_4 (c b1 b2 b3 r : Nat) (S : St) (w : World) (h : Both w c b1 b2 b3 r S) (s : Int) (hs0 : -9223372036854775808 ≤ s) (hs1 : s ≤ 9223372036854775807) (f g : Nat) (hf : f < 256) (hg : g < 256) (on : Bool) :
    Calls Try.prog 22 #[.pointer (some ⟨c, 0, none⟩), .pointer (some ⟨r, 0, none⟩), .agg #[.int .i64 4, .int .i64 s, .int .u8 f, .int .u8 g, .bool on]] w (DoPost c b1 b2 b3 r w) := by
  have huse := And.intro hs0 (And.intro hs1 (And.intro hf hg))
  clear huse
  have hnew := Blk.new w 49 #[.int .i64 4, .int .i64 s, .int .u8 f, .int .u8 g, .bool on]
  have hu0 := (Upd.refl [] w).alloc (.cells #[.int .i64 4, .int .i64 s, .int .u8 f, .int .u8 g, .bool on] 49)
  have hh1 := h.upd0 hu0
  have n1 : w.heap.size ≠ b1 := by have := h.reg.m1.lt; omega
  have n2 : w.heap.size ≠ b2 := by have := h.reg.m2.lt; omega
  have n3 : w.heap.size ≠ b3 := by have := h.reg.m3.lt; omega
  have n4 : w.heap.size ≠ r := by have := h.ref.lt; omega
  have HN := Lib.hid (show w.heap.size ∉ [b1, b2, b3, r] by simp; exact ⟨n1, n2, n3, n4⟩)
  have c0 := hnew.cellAt (i := 0) (v := .int .i64 4) rfl
  have c2 := hnew.cellAt (i := 2) (v := .int .u8 f) rfl
  have c3 := hnew.cellAt (i := 3) (v := .int .u8 g) rfl
  have HH := Lib.hid hh1
  have HU0 := Lib.hid hu0
  have HGD := Lib.hid h.good
  have HG := Lib.hid (good_clr h.good [f, g])
  have hbe2 : ((((clrL S [f, g]).2 : Nat) : Int) == (((clrL S [f, g]).2 : Nat) : Int)) = true := by simp
  obtain ⟨e, he⟩ : ∃ e : Int, e = 0 := ⟨0, rfl⟩
  have hbe : (e == e) = true := by simp
  clear hnew hu0 hh1 h n1 n2 n3 n4
  go_enter Try.func22, Try.ntmps22
  go_wp2_with fail
  generalize (w.alloc (.cells #[.int .i64 4, .int .i64 s, .int .u8 f, .int .u8 g, .bool on] 49)) = W1 at *
  generalize w.heap.size = Nb at *
  have HB1 := Lib.hid (Blk.new W1 5 #[.int .u8 f, .int .u8 g])
  have B3 : Hid (Blk ((W1.alloc (.cells #[.int .u8 f, .int .u8 g] 5)).alloc (.cells #[.int .u8 f, .int .u8 g] 5)).drew (W1.heap.size + 1) 5 #[.int .u8 f, .int .u8 g]) := Lib.hid (show Blk ((W1.alloc (.cells #[.int .u8 f, .int .u8 g] 5)).alloc (.cells #[.int .u8 f, .int .u8 g] 5)) (W1.heap.size + 1) 5 #[.int .u8 f, .int .u8 g] by have := Blk.new (W1.alloc (.cells #[.int .u8 f, .int .u8 g] 5)) 5 #[.int .u8 f, .int .u8 g]; rw [World.size_alloc] at this; exact this)
  have B2 : Hid (Blk ((W1.alloc (.cells #[.int .u8 f, .int .u8 g] 5)).alloc (.cells #[.int .u8 f, .int .u8 g] 5)).drew W1.heap.size 5 #[.int .u8 f, .int .u8 g]) := Lib.hid (show Blk ((W1.alloc (.cells #[.int .u8 f, .int .u8 g] 5)).alloc (.cells #[.int .u8 f, .int .u8 g] 5)) W1.heap.size 5 #[.int .u8 f, .int .u8 g] from HB1.out.alloc _)
  have X1 : Hid (XOK (W1.alloc (.cells #[.int .u8 f, .int .u8 g] 5)).drew W1.heap.size f g) := Lib.hid (XOK.of HB1.out.drew hf hg)
  have X2 : Hid (XOK ((W1.alloc (.cells #[.int .u8 f, .int .u8 g] 5)).alloc (.cells #[.int .u8 f, .int .u8 g] 5)).drew W1.heap.size f g) := Lib.hid (XOK.of B2.out hf hg)
  have X3 : Hid (XOK ((W1.alloc (.cells #[.int .u8 f, .int .u8 g] 5)).alloc (.cells #[.int .u8 f, .int .u8 g] 5)).drew (W1.heap.size + 1) f g) := Lib.hid (XOK.of B3.out hf hg)
  have l1 := HH.out.reg.m1.lt
  have l2 := HH.out.reg.m2.lt
  have l3 := HH.out.reg.m3.lt
  have l4 := HH.out.ref.lt
  have HLT := Lib.hid l4
  have HNA := Lib.hid (show W1.heap.size ∉ [b1, b2, b3] by simp; omega)
  have HNA2 := Lib.hid (show W1.heap.size + 1 ∉ [b1, b2, b3] by simp; omega)
  have HNZ := Lib.hid (show W1.heap.size ∉ [b1, b2, b3, r] by simp; omega)
  have HNY := Lib.hid (show W1.heap.size + 1 ∉ [b1, b2, b3, r] by simp; omega)
  have k2 := ((Upd.refl [] W1).alloc (.cells #[.int .u8 f, .int .u8 g] 5)).cellAt c2 (by simp)
  have k3 := ((Upd.refl [] W1).alloc (.cells #[.int .u8 f, .int .u8 g] 5)).cellAt c3 (by simp)
  have k4 := (((Upd.refl [] W1).alloc (.cells #[.int .u8 f, .int .u8 g] 5)).alloc (.cells #[.int .u8 f, .int .u8 g] 5)).cellAt c2 (by simp)
  have k5 := (((Upd.refl [] W1).alloc (.cells #[.int .u8 f, .int .u8 g] 5)).alloc (.cells #[.int .u8 f, .int .u8 g] 5)).cellAt c3 (by simp)
  clear l1 l2 l3 l4
  go_region_held3 (fun w' => w'.cell? ⟨Nb, 2, none⟩ = some (.int .u8 f) ∧ w'.cell? ⟨Nb, 3, none⟩ = some (.int .u8 g)) (simp [*])
    (first
      | (go_at_call 23; refine (clear_step HH.out (by ((repeat (first | (with_reducible apply Upd.drew) | (with_reducible apply Upd.alloc))); exact Upd.refl _ _)) (by first | (with_reducible exact X1.out) | (with_reducible exact X2.out) | (with_reducible exact X3.out)) (by first | (with_reducible exact HNA.out) | (with_reducible exact HNA2.out))).mono ?_; rintro e1 w2 ⟨rfl, hr2, hk2, hU, hu2⟩; have d2 := hU.cellAt c2 HN.out; have d3 := hU.cellAt c3 HN.out; have d2b := ((Upd.refl [] w2).alloc (.cells #[.int .u8 f, .int .u8 g] 5)).cellAt d2 (by simp); have d3b := ((Upd.refl [] w2).alloc (.cells #[.int .u8 f, .int .u8 g] 5)).cellAt d3 (by simp); have XN := Lib.hid (XOK.of (Blk.new w2 5 #[.int .u8 f, .int .u8 g]) hf hg); (try (with_reducible have Y2 := Lib.hid (XOK.of (B2.out.upd hu2 HNZ.out) hf hg))); (try (with_reducible have Y3 := Lib.hid (XOK.of (B3.out.upd hu2 HNY.out) hf hg))); have HR2 := Lib.hid hr2; have HK2 := Lib.hid hk2; have HU2 := Lib.hid hU; have hs2 := Lib.hid hU.size; clear hr2 hk2 hU hu2)
      | (go_at_call 41; refine (rclear_step HR2.out HK2.out rfl (by ((repeat (first | (with_reducible apply Upd.drew) | (with_reducible apply Upd.alloc))); exact Upd.refl _ _)) (by first | (with_reducible exact XN.out) | (with_reducible exact Y2.out) | (with_reducible exact Y3.out)) (by have h1 := hs2.out; have h2 := HLT.out; omega)).mono ?_; rintro e2 w3 ⟨rfl, hr3, hk3, hu3⟩; have g2 := hu3.cellAt d2 HN.out; have g3 := hu3.cellAt d3 HN.out; have HR3 := Lib.hid hr3; have HK3 := Lib.hid hk3; have HU3 := Lib.hid hu3; clear hr3 hk3 hu3))
  all_goals go_wp2
  all_goals go_ret
  all_goals exact ⟨by simp, ⟨(clrL S [f, g]).1, HR3.out, HK3.out, HG.out⟩, ((HU0.out.zero _).trans' HU2.out).trans' HU3.out⟩

end Go.Proofs.Ytelmkmhmdfcnmaa
