/- One deed on both: printed by fds_do.py. -/
import Derived.Test.YtedaffkdfniikaaFdsX
import Derived.Deep.RegionHeld3
namespace Go.Proofs.Ytedaffkdfniikaa
open Go.RowKit Go.Shelf

def DoPost (w0 : World) (t r N : Nat) (_ : World) (e : Ending) (w' : World) : Prop := e = .returned (.bool true) ∧ ∃ S', BLive w0 t r [] (N + 1) S' S' w'

set_option maxRecDepth 100000 in
set_option maxHeartbeats 4000000 in
theorem do_0 (w0 : World) (t r N : Nat) (S : St) (w : World) (h : BLive w0 t r [] N S S w) (hN : N ≤ 499) (P Q M : Int) (o : Op) (ho : o.k < 256) :
    Calls Try.prog 26 #[.pointer (some ⟨t, 0, none⟩), .pointer (some ⟨r, 0, none⟩), .agg #[.int .i64 0, .int .i64 P, .int .i64 Q, .int .i64 M, .int .u8 o.k, .int .i64 o.r, .int .i64 o.p]] w (DoPost w0 t r N w) := by
  have huse := And.intro hN ho
  clear huse
  have hnew := Blk.new w 32 #[.int .i64 0, .int .i64 P, .int .i64 Q, .int .i64 M, .int .u8 o.k, .int .i64 o.r, .int .i64 o.p]
  have hb1 : BLive w0 t r [w.heap.size] N S S (w.alloc (.cells #[.int .i64 0, .int .i64 P, .int .i64 Q, .int .i64 M, .int .u8 o.k, .int .i64 o.r, .int .i64 o.p] 32)) := h.more (Y := [w.heap.size]) ((Upd.refl [] w).alloc _) (fun g hg => by simp at hg; subst hg; rw [World.size_alloc]; omega)
  have c0 := hnew.cellAt (i := 0) (v := .int .i64 0) rfl
  have c1 := hnew.cellAt (i := 1) (v := .int .i64 P) rfl
  have HH := Lib.hid hb1
  have HBK := Lib.hid hnew
  have HO := Lib.hid ho
  have HI := Lib.hid (fun W (hW : BLive w0 t r [w.heap.size] N S S W) => pBegin hW P)
  have HJ := Lib.hid (fun Sp W (hW : BLive w0 t r [w.heap.size] N Sp S W) => rBegin hN hW P)
  generalize frE S P = e at *
  generalize begS S P = S' at *
  have hbe : (e == e) = true := by simp
  clear hnew hb1 h
  go_enter Try.func26, Try.ntmps26
  go_wp2_with fail
  generalize (w.alloc (.cells #[.int .i64 0, .int .i64 P, .int .i64 Q, .int .i64 M, .int .u8 o.k, .int .i64 o.r, .int .i64 o.p] 32)) = W1 at *
  generalize w.heap.size = Nb at *
  go_region_held3 (fun w' => w'.cell? ⟨Nb, 1, none⟩ = some (.int .i64 P)) (simp [*])
    (first
      | (go_at_call 11; refine (HI.out _ (HH.out.upd0 ((Upd.refl [] W1).drew))).mono ?_; rintro e1 w2 ⟨rfl, hb2, hs2⟩; have hk := hs2.blk HBK.out.drew (by simp); have d1 := hk.cellAt (i := 1) (v := .int .i64 P) rfl; have HB2 := Lib.hid hb2; have HK2 := Lib.hid hk; clear hb2 hs2 hk)
      | (go_at_call 39; refine (HJ.out _ _ HB2.out).mono ?_; rintro e2 w3 ⟨rfl, hb3, hs3⟩; have hk := hs3.blk HK2.out (by simp); have g1 := hk.cellAt (i := 1) (v := .int .i64 P) rfl; have HB3 := Lib.hid hb3; clear hb3 hs3 hk))
  go_wp2
  go_ret
  exact ⟨by simp, S', HB3.out.less (by simp)⟩

set_option maxRecDepth 100000 in
set_option maxHeartbeats 4000000 in
theorem do_2 (w0 : World) (t r N : Nat) (S : St) (w : World) (h : BLive w0 t r [] N S S w) (hN : N ≤ 499) (P Q M : Int) (o : Op) (ho : o.k < 256) :
    Calls Try.prog 26 #[.pointer (some ⟨t, 0, none⟩), .pointer (some ⟨r, 0, none⟩), .agg #[.int .i64 2, .int .i64 P, .int .i64 Q, .int .i64 M, .int .u8 o.k, .int .i64 o.r, .int .i64 o.p]] w (DoPost w0 t r N w) := by
  have huse := And.intro hN ho
  clear huse
  have hnew := Blk.new w 32 #[.int .i64 2, .int .i64 P, .int .i64 Q, .int .i64 M, .int .u8 o.k, .int .i64 o.r, .int .i64 o.p]
  have hb1 : BLive w0 t r [w.heap.size] N S S (w.alloc (.cells #[.int .i64 2, .int .i64 P, .int .i64 Q, .int .i64 M, .int .u8 o.k, .int .i64 o.r, .int .i64 o.p] 32)) := h.more (Y := [w.heap.size]) ((Upd.refl [] w).alloc _) (fun g hg => by simp at hg; subst hg; rw [World.size_alloc]; omega)
  have c0 := hnew.cellAt (i := 0) (v := .int .i64 2) rfl
  have c1 := hnew.cellAt (i := 1) (v := .int .i64 P) rfl
  have c2 := hnew.cellAt (i := 2) (v := .int .i64 Q) rfl
  have HH := Lib.hid hb1
  have HBK := Lib.hid hnew
  have HO := Lib.hid ho
  have HI := Lib.hid (fun W (hW : BLive w0 t r [w.heap.size] N S S W) => pFork hW P Q)
  have HJ := Lib.hid (fun Sp W (hW : BLive w0 t r [w.heap.size] N Sp S W) => rFork hN hW P Q)
  generalize frkE S P Q = e at *
  generalize frkS S P Q = S' at *
  have hbe : (e == e) = true := by simp
  clear hnew hb1 h
  go_enter Try.func26, Try.ntmps26
  go_wp2_with fail
  generalize (w.alloc (.cells #[.int .i64 2, .int .i64 P, .int .i64 Q, .int .i64 M, .int .u8 o.k, .int .i64 o.r, .int .i64 o.p] 32)) = W1 at *
  generalize w.heap.size = Nb at *
  go_region_held3 (fun w' => w'.cell? ⟨Nb, 1, none⟩ = some (.int .i64 P) ∧ w'.cell? ⟨Nb, 2, none⟩ = some (.int .i64 Q)) (simp [*])
    (first
      | (go_at_call 13; refine (HI.out _ (HH.out.upd0 ((Upd.refl [] W1).drew))).mono ?_; rintro e1 w2 ⟨rfl, hb2, hs2⟩; have hk := hs2.blk HBK.out.drew (by simp); have d1 := hk.cellAt (i := 1) (v := .int .i64 P) rfl; have d2 := hk.cellAt (i := 2) (v := .int .i64 Q) rfl; have HB2 := Lib.hid hb2; have HK2 := Lib.hid hk; clear hb2 hs2 hk)
      | (go_at_call 42; refine (HJ.out _ _ HB2.out).mono ?_; rintro e2 w3 ⟨rfl, hb3, hs3⟩; have hk := hs3.blk HK2.out (by simp); have g1 := hk.cellAt (i := 1) (v := .int .i64 P) rfl; have g2 := hk.cellAt (i := 2) (v := .int .i64 Q) rfl; have HB3 := Lib.hid hb3; clear hb3 hs3 hk))
  go_wp2
  go_ret
  exact ⟨by simp, S', HB3.out.less (by simp)⟩

set_option maxRecDepth 100000 in
set_option maxHeartbeats 4000000 in
theorem do_6 (w0 : World) (t r N : Nat) (S : St) (w : World) (h : BLive w0 t r [] N S S w) (hN : N ≤ 499) (P Q M : Int) (o : Op) (ho : o.k < 256) :
    Calls Try.prog 26 #[.pointer (some ⟨t, 0, none⟩), .pointer (some ⟨r, 0, none⟩), .agg #[.int .i64 6, .int .i64 P, .int .i64 Q, .int .i64 M, .int .u8 o.k, .int .i64 o.r, .int .i64 o.p]] w (DoPost w0 t r N w) := by
  have huse := And.intro hN ho
  clear huse
  have hnew := Blk.new w 32 #[.int .i64 6, .int .i64 P, .int .i64 Q, .int .i64 M, .int .u8 o.k, .int .i64 o.r, .int .i64 o.p]
  have hb1 : BLive w0 t r [w.heap.size] N S S (w.alloc (.cells #[.int .i64 6, .int .i64 P, .int .i64 Q, .int .i64 M, .int .u8 o.k, .int .i64 o.r, .int .i64 o.p] 32)) := h.more (Y := [w.heap.size]) ((Upd.refl [] w).alloc _) (fun g hg => by simp at hg; subst hg; rw [World.size_alloc]; omega)
  have c0 := hnew.cellAt (i := 0) (v := .int .i64 6) rfl
  have c1 := hnew.cellAt (i := 1) (v := .int .i64 P) rfl
  have c2 := hnew.cellAt (i := 2) (v := .int .i64 Q) rfl
  have c3 := hnew.cellAt (i := 3) (v := .int .i64 M) rfl
  have HH := Lib.hid hb1
  have HBK := Lib.hid hnew
  have HO := Lib.hid ho
  have HI := Lib.hid (fun W (hW : BLive w0 t r [w.heap.size] N S S W) => pMove hW P M Q)
  have HJ := Lib.hid (fun Sp W (hW : BLive w0 t r [w.heap.size] N Sp S W) => rMove hN hW P M Q)
  generalize atE S P M = e at *
  generalize movS S P M Q = S' at *
  have hbe : (e == e) = true := by simp
  clear hnew hb1 h
  go_enter Try.func26, Try.ntmps26
  go_wp2_with fail
  generalize (w.alloc (.cells #[.int .i64 6, .int .i64 P, .int .i64 Q, .int .i64 M, .int .u8 o.k, .int .i64 o.r, .int .i64 o.p] 32)) = W1 at *
  generalize w.heap.size = Nb at *
  go_region_held3 (fun w' => w'.cell? ⟨Nb, 1, none⟩ = some (.int .i64 P) ∧ w'.cell? ⟨Nb, 2, none⟩ = some (.int .i64 Q) ∧ w'.cell? ⟨Nb, 3, none⟩ = some (.int .i64 M)) (simp [*])
    (first
      | (go_at_call 20; refine (HI.out _ (HH.out.upd0 ((Upd.refl [] W1).drew))).mono ?_; rintro e1 w2 ⟨rfl, hb2, hs2⟩; have hk := hs2.blk HBK.out.drew (by simp); have d1 := hk.cellAt (i := 1) (v := .int .i64 P) rfl; have d2 := hk.cellAt (i := 2) (v := .int .i64 Q) rfl; have d3 := hk.cellAt (i := 3) (v := .int .i64 M) rfl; have HB2 := Lib.hid hb2; have HK2 := Lib.hid hk; clear hb2 hs2 hk)
      | (go_at_call 46; refine (HJ.out _ _ HB2.out).mono ?_; rintro e2 w3 ⟨rfl, hb3, hs3⟩; have hk := hs3.blk HK2.out (by simp); have g1 := hk.cellAt (i := 1) (v := .int .i64 P) rfl; have g2 := hk.cellAt (i := 2) (v := .int .i64 Q) rfl; have g3 := hk.cellAt (i := 3) (v := .int .i64 M) rfl; have HB3 := Lib.hid hb3; clear hb3 hs3 hk))
  go_wp2
  go_ret
  exact ⟨by simp, S', HB3.out.less (by simp)⟩

set_option maxRecDepth 100000 in
set_option maxHeartbeats 4000000 in
theorem do_3 (w0 : World) (t r N : Nat) (S : St) (w : World) (h : BLive w0 t r [] N S S w) (hN : N ≤ 499) (P Q M : Int) (o : Op) (ho : o.k < 256) :
    Calls Try.prog 26 #[.pointer (some ⟨t, 0, none⟩), .pointer (some ⟨r, 0, none⟩), .agg #[.int .i64 3, .int .i64 P, .int .i64 Q, .int .i64 M, .int .u8 o.k, .int .i64 o.r, .int .i64 o.p]] w (DoPost w0 t r N w) := by
  have huse := And.intro hN ho
  clear huse
  have hnew := Blk.new w 32 #[.int .i64 3, .int .i64 P, .int .i64 Q, .int .i64 M, .int .u8 o.k, .int .i64 o.r, .int .i64 o.p]
  have hb1 : BLive w0 t r [w.heap.size] N S S (w.alloc (.cells #[.int .i64 3, .int .i64 P, .int .i64 Q, .int .i64 M, .int .u8 o.k, .int .i64 o.r, .int .i64 o.p] 32)) := h.more (Y := [w.heap.size]) ((Upd.refl [] w).alloc _) (fun g hg => by simp at hg; subst hg; rw [World.size_alloc]; omega)
  have c0 := hnew.cellAt (i := 0) (v := .int .i64 3) rfl
  have c1 := hnew.cellAt (i := 1) (v := .int .i64 P) rfl
  have c4 := hnew.cellAt (i := 4) (v := .int .u8 o.k) rfl
  have c5 := hnew.cellAt (i := 5) (v := .int .i64 o.r) rfl
  have c6 := hnew.cellAt (i := 6) (v := .int .i64 o.p) rfl
  have HH := Lib.hid hb1
  have HBK := Lib.hid hnew
  have HO := Lib.hid ho
  have HI := Lib.hid (fun W (hW : BLive w0 t r [w.heap.size] N S S W) => pOpen hW P o ho)
  have HJ := Lib.hid (fun Sp W (hW : BLive w0 t r [w.heap.size] N Sp S W) => rOpen hN hW P o ho)
  generalize opnV S P o = v at *
  generalize opnE S P o = e at *
  generalize opnS S P o = S' at *
  have hbv : (v == v) = true := by simp
  have hbe : (e == e) = true := by simp
  clear hnew hb1 h
  go_enter Try.func26, Try.ntmps26
  go_wp2_with fail
  refine (HI.out _ HH.out).mono ?_; rintro e1 w2 ⟨rfl, hb2, hs2⟩
  have hk := hs2.blk HBK.out (by simp)
  have d1 := hk.cellAt (i := 1) (v := .int .i64 P) rfl
  have d4 := hk.cellAt (i := 4) (v := .int .u8 o.k) rfl
  have d5 := hk.cellAt (i := 5) (v := .int .i64 o.r) rfl
  have d6 := hk.cellAt (i := 6) (v := .int .i64 o.p) rfl
  have HB2 := Lib.hid hb2
  clear hb2 hs2 hk
  go_wp2_with fail
  refine (HJ.out _ _ HB2.out).mono ?_; rintro e2 w3 ⟨rfl, hb3, hs3⟩
  have HB3 := Lib.hid hb3
  clear hb3 hs3
  go_wp2_with fail
  go_ret
  exact ⟨by simp, S', HB3.out.less (by simp)⟩

set_option maxRecDepth 100000 in
set_option maxHeartbeats 4000000 in
theorem do_4 (w0 : World) (t r N : Nat) (S : St) (w : World) (h : BLive w0 t r [] N S S w) (hN : N ≤ 499) (P Q M : Int) (o : Op) (ho : o.k < 256) :
    Calls Try.prog 26 #[.pointer (some ⟨t, 0, none⟩), .pointer (some ⟨r, 0, none⟩), .agg #[.int .i64 4, .int .i64 P, .int .i64 Q, .int .i64 M, .int .u8 o.k, .int .i64 o.r, .int .i64 o.p]] w (DoPost w0 t r N w) := by
  have huse := And.intro hN ho
  clear huse
  have hnew := Blk.new w 32 #[.int .i64 4, .int .i64 P, .int .i64 Q, .int .i64 M, .int .u8 o.k, .int .i64 o.r, .int .i64 o.p]
  have hb1 : BLive w0 t r [w.heap.size] N S S (w.alloc (.cells #[.int .i64 4, .int .i64 P, .int .i64 Q, .int .i64 M, .int .u8 o.k, .int .i64 o.r, .int .i64 o.p] 32)) := h.more (Y := [w.heap.size]) ((Upd.refl [] w).alloc _) (fun g hg => by simp at hg; subst hg; rw [World.size_alloc]; omega)
  have c0 := hnew.cellAt (i := 0) (v := .int .i64 4) rfl
  have c1 := hnew.cellAt (i := 1) (v := .int .i64 P) rfl
  have c3 := hnew.cellAt (i := 3) (v := .int .i64 M) rfl
  have HH := Lib.hid hb1
  have HBK := Lib.hid hnew
  have HO := Lib.hid ho
  have HI := Lib.hid (fun W (hW : BLive w0 t r [w.heap.size] N S S W) => pDup hW P M)
  have HJ := Lib.hid (fun Sp W (hW : BLive w0 t r [w.heap.size] N Sp S W) => rDup hN hW P M)
  generalize dupV S P M = v at *
  generalize dupE S P M = e at *
  generalize dupS S P M = S' at *
  have hbv : (v == v) = true := by simp
  have hbe : (e == e) = true := by simp
  clear hnew hb1 h
  go_enter Try.func26, Try.ntmps26
  go_wp2_with fail
  refine (HI.out _ HH.out).mono ?_; rintro e1 w2 ⟨rfl, hb2, hs2⟩
  have hk := hs2.blk HBK.out (by simp)
  have d1 := hk.cellAt (i := 1) (v := .int .i64 P) rfl
  have d3 := hk.cellAt (i := 3) (v := .int .i64 M) rfl
  have HB2 := Lib.hid hb2
  clear hb2 hs2 hk
  go_wp2_with fail
  refine (HJ.out _ _ HB2.out).mono ?_; rintro e2 w3 ⟨rfl, hb3, hs3⟩
  have HB3 := Lib.hid hb3
  clear hb3 hs3
  go_wp2_with fail
  go_ret
  exact ⟨by simp, S', HB3.out.less (by simp)⟩

set_option maxRecDepth 100000 in
set_option maxHeartbeats 4000000 in
theorem do_5 (w0 : World) (t r N : Nat) (S : St) (w : World) (h : BLive w0 t r [] N S S w) (hN : N ≤ 499) (P Q M : Int) (o : Op) (ho : o.k < 256) :
    Calls Try.prog 26 #[.pointer (some ⟨t, 0, none⟩), .pointer (some ⟨r, 0, none⟩), .agg #[.int .i64 5, .int .i64 P, .int .i64 Q, .int .i64 M, .int .u8 o.k, .int .i64 o.r, .int .i64 o.p]] w (DoPost w0 t r N w) := by
  have huse := And.intro hN ho
  clear huse
  have hnew := Blk.new w 32 #[.int .i64 5, .int .i64 P, .int .i64 Q, .int .i64 M, .int .u8 o.k, .int .i64 o.r, .int .i64 o.p]
  have hb1 : BLive w0 t r [w.heap.size] N S S (w.alloc (.cells #[.int .i64 5, .int .i64 P, .int .i64 Q, .int .i64 M, .int .u8 o.k, .int .i64 o.r, .int .i64 o.p] 32)) := h.more (Y := [w.heap.size]) ((Upd.refl [] w).alloc _) (fun g hg => by simp at hg; subst hg; rw [World.size_alloc]; omega)
  have c0 := hnew.cellAt (i := 0) (v := .int .i64 5) rfl
  have c1 := hnew.cellAt (i := 1) (v := .int .i64 P) rfl
  have c3 := hnew.cellAt (i := 3) (v := .int .i64 M) rfl
  have HH := Lib.hid hb1
  have HBK := Lib.hid hnew
  have HO := Lib.hid ho
  have HI := Lib.hid (fun W (hW : BLive w0 t r [w.heap.size] N S S W) => pClose hW P M)
  have HJ := Lib.hid (fun Y Sp W (hW : BLive w0 t r Y N Sp S W) => rClose hN hW P M)
  generalize getO S P M = u at *
  generalize cloL S P M = l at *
  generalize atE S P M = e at *
  generalize cloS S P M = S' at *
  have hbe : (e == e) = true := by simp
  have hbl : (l == l) = true := by simp
  clear hnew hb1 h
  go_enter Try.func26, Try.ntmps26
  go_wp2_with fail
  refine (HI.out _ HH.out).mono ?_; rintro e1 w2 ⟨rfl, hb2, hs2⟩
  have hk := (hs2.blk HBK.out (by simp)).alloc (.cells #[.int .u8 u.k, .int .i64 u.r, .int .i64 u.p] 30)
  have d1 := hk.cellAt (i := 1) (v := .int .i64 P) rfl
  have d3 := hk.cellAt (i := 3) (v := .int .i64 M) rfl
  have HB2 : Hid (BLive w0 t r [w2.heap.size, w.heap.size] N S' S (w2.alloc (.cells #[.int .u8 u.k, .int .i64 u.r, .int .i64 u.p] 30))) := Lib.hid (hb2.more (Y := [w2.heap.size]) ((Upd.refl [] w2).alloc _) (fun g hg => by simp at hg; subst hg; rw [World.size_alloc]; omega))
  have HK2 : Hid (Blk (w2.alloc (.cells #[.int .u8 u.k, .int .i64 u.r, .int .i64 u.p] 30)) w2.heap.size 30 #[.int .u8 u.k, .int .i64 u.r, .int .i64 u.p]) := Lib.hid (Blk.new w2 _ _)
  clear hb2 hs2 hk
  go_wp2_with fail
  refine (HJ.out _ _ _ HB2.out).mono ?_; rintro e2 w3 ⟨rfl, hb3, hs3⟩
  have hk := (hs3.blk HK2.out (by simp)).alloc (.cells #[.int .u8 u.k, .int .i64 u.r, .int .i64 u.p] 30)
  have q0 := hk.cellAt (i := 0) (v := .int .u8 u.k) rfl
  have q1 := hk.cellAt (i := 1) (v := .int .i64 u.r) rfl
  have q2 := hk.cellAt (i := 2) (v := .int .i64 u.p) rfl
  have HB3 := Lib.hid (hb3.upd0 ((Upd.refl [] w3).alloc (.cells #[.int .u8 u.k, .int .i64 u.r, .int .i64 u.p] 30)))
  have hq := eql_open
  have hgd := guard_open
  clear hb3 hs3 hk
  go_wp2_with fail
  go_ret
  exact ⟨by simp, S', HB3.out.less (by simp)⟩

set_option maxRecDepth 100000 in
set_option maxHeartbeats 4000000 in
theorem do_1 (w0 : World) (t r N : Nat) (S : St) (w : World) (h : BLive w0 t r [] N S S w) (hN : N ≤ 499) (P Q M : Int) (o : Op) (ho : o.k < 256) :
    Calls Try.prog 26 #[.pointer (some ⟨t, 0, none⟩), .pointer (some ⟨r, 0, none⟩), .agg #[.int .i64 1, .int .i64 P, .int .i64 Q, .int .i64 M, .int .u8 o.k, .int .i64 o.r, .int .i64 o.p]] w (DoPost w0 t r N w) := by
  have huse := And.intro hN ho
  clear huse
  have hnew := Blk.new w 32 #[.int .i64 1, .int .i64 P, .int .i64 Q, .int .i64 M, .int .u8 o.k, .int .i64 o.r, .int .i64 o.p]
  have hb1 : BLive w0 t r [w.heap.size] N S S (w.alloc (.cells #[.int .i64 1, .int .i64 P, .int .i64 Q, .int .i64 M, .int .u8 o.k, .int .i64 o.r, .int .i64 o.p] 32)) := h.more (Y := [w.heap.size]) ((Upd.refl [] w).alloc _) (fun g hg => by simp at hg; subst hg; rw [World.size_alloc]; omega)
  have c0 := hnew.cellAt (i := 0) (v := .int .i64 1) rfl
  have c1 := hnew.cellAt (i := 1) (v := .int .i64 P) rfl
  have HH := Lib.hid hb1
  have HBK := Lib.hid hnew
  have HO := Lib.hid ho
  have HI := Lib.hid (fun W (hW : BLive w0 t r [w.heap.size] N S S W) => pEnd hW P)
  have HJ := Lib.hid (fun Y Sp W (hW : BLive w0 t r Y N Sp S W) => rEnd hW P)
  have HLE : Hid ((finO S P).length ≤ 8) := Lib.hid (by
    unfold finO
    split
    · exact finL_le S P.toNat 8
    · simp)
  generalize finO S P = L at *
  generalize ofE S P = e at *
  generalize finS S P = S' at *
  have hbe : (e == e) = true := by simp
  clear hnew hb1 h
  go_enter Try.func26, Try.ntmps26
  go_wp2_with fail
  refine (HI.out _ HH.out).mono ?_; rintro e1 w2 ⟨A1, cap1, rfl, hr2, hb2, hs2⟩
  have hk := hs2.blk HBK.out (by simp)
  have d1 := hk.cellAt (i := 1) (v := .int .i64 P) rfl
  have HB2 := Lib.hid hb2
  have HR2 := Lib.hid hr2
  clear hb2 hs2 hk hr2
  go_wp2_with fail
  refine (HJ.out _ _ _ HB2.out).mono ?_; rintro e2 w3 ⟨A2, cap2, rfl, hr3, hb3, hs3⟩
  have HR3 := Lib.hid (hs3.row HR2.out (fun g hg => List.mem_append_left _ hg))
  have HR4 := Lib.hid hr3
  have HB3 := Lib.hid hb3
  have HLN := Lib.hid (show L.length = L.length from rfl)
  generalize hn : L.length = n at *
  have HN := Lib.hid hn
  clear hb3 hs3 hr3 hn HLN
  go_wp2_with fail
  refine (sameOpens_any w3 A1 A2 cap1 cap2 L n HN.out HLE.out HR3.out HR4.out).mono ?_; rintro e4 w4 ⟨rfl, kk, rfl⟩
  go_wp2_with fail
  go_ret
  exact ⟨by simp, S', (HB3.out.less (by simp)).upd0 ((Upd.refl [] w3).drewN kk)⟩

end Go.Proofs.Ytedaffkdfniikaa
