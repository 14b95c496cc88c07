/- A deed on both tables; same, live, play. -/
import Derived.Test.YtocmochdgidcmaaProcV
import Derived.Test.YtocmochdgidcmaaProcQ
import Derived.Deep.RegionHeld3
import Derived.Test.YtocmochdgidcmaaRow
namespace Go.Proofs.Ytocmochdgidcmaa
open Go.RowKit

structure Both (w : World) (t r : Nat) (T : List PS) : Prop where
  tab : TabAt w t T
  ref : RTabAt w r T
  good : Good T
section
variable {w w' : World} {t r : Nat} {T : List PS}
theorem Both.ne (h : Both w t r T) : t ≠ r := h.tab.1.ne_ h.ref.1 (by decide)
theorem Both.lt (h : Both w t r T) : t < w.heap.size ∧ r < w.heap.size := ⟨h.tab.1.lt, h.ref.1.lt⟩
theorem Both.upd {S : List Nat} (h : Both w t r T) (hu : Upd S w w') (h1 : t ∉ S) (h2 : r ∉ S) : Both w' t r T := ⟨h.tab.upd hu h1, h.ref.upd hu h2, h.good⟩
end
theorem TabAt.drew {w : World} {t : Nat} {T : List PS} (h : TabAt w t T) : TabAt w.drew t T := ⟨h.1, h.2⟩
theorem RTabAt.drew {w : World} {t : Nat} {T : List PS} (h : RTabAt w t T) : RTabAt w.drew t T := ⟨h.1, h.2⟩

def DoPost (t r : Nat) (T' : List PS) (w : World) (e : Ending) (w' : World) : Prop :=
  e = .returned (.bool true) ∧ Both w' t r T' ∧ Upd [t, r] w w'

set_option maxRecDepth 100000 in
set_option maxHeartbeats 4000000 in
theorem do_0 (t r : Nat) (T : List PS) (w : World) (h : Both w t r T) (P S : Int) :
    Calls Try.prog 20 #[.pointer (some ⟨t, 0, none⟩), .pointer (some ⟨r, 0, none⟩), .agg #[.int .i64 0, .int .i64 P, .int .i64 S]] w (DoPost t r (forkT T P) w) := by
  have HB := Lib.hid h
  have HG := Lib.hid (good_fork h.good P)
  clear h
  have h19 := fun W hm (hg : Good T) => fork_any t T P W hm (by rw [hg.zero]; intro h; cases h)
  have h44 := fun W hr => rfork_any r T P W hr
  generalize forkA T P = A at h19 h44
  generalize forkE T P = E at h19 h44
  have H19 := Lib.hid h19
  have H44 := Lib.hid h44
  clear h19 h44
  go_enter Try.func20, Try.ntmps20
  go_wp2_with fail
  have hnew := Blk.new w 45 #[.int .i64 0, .int .i64 P, .int .i64 S]
  have hu0 := (Upd.refl [t, r] w).alloc (.cells #[.int .i64 0, .int .i64 P, .int .i64 S] 45)
  have hb0 := HB.out.upd (S := []) ((Upd.refl [] w).alloc (.cells #[.int .i64 0, .int .i64 P, .int .i64 S] 45)) (by simp) (by simp)
  have hlt := HB.out.lt
  generalize (w.alloc (.cells #[.int .i64 0, .int .i64 P, .int .i64 S] 45)) = W1 at *
  have c1 := hnew.cellAt (i := 1) rfl
  have c2 := hnew.cellAt (i := 2) rfl
  have n1 : w.heap.size ∉ [t] := by simp; omega
  have n2 : w.heap.size ∉ [r] := by simp; omega
  generalize w.heap.size = Nb at *
  have HN := Lib.hid hb0.ne
  have HB0 := Lib.hid hb0
  have HU0 := Lib.hid hu0
  clear hnew hb0 hu0 hlt
  simp only [List.getElem_toArray, List.getElem_cons_succ, List.getElem_cons_zero] at c1 c2
  go_wp2_with fail
  refine (H19.out _ HB0.out.tab HB0.out.good).mono ?_; rintro e w1 ⟨rfl, hm1, hu1⟩
  have d1 := hu1.cellAt c1 n1
  have hr1 := Lib.hid (HB0.out.ref.upd hu1 (by simp; exact fun h => HN.out h.symm))
  have HM1 := Lib.hid hm1
  have HU1 := Lib.hid hu1
  clear hm1 hu1
  go_wp2_with fail
  refine (H44.out _ hr1.out).mono ?_; rintro e w2 ⟨rfl, hm2, hu2⟩
  have HM2 := Lib.hid hm2
  have HU2 := Lib.hid hu2
  clear hm2 hu2
  go_wp2_with fail
  go_ret
  have hne := HN.out
  refine ⟨by simp, ⟨HM1.out.upd HU2.out (by simp; exact hne), HM2.out, HG.out⟩, ?_⟩
  exact (HU0.out.trans HU1.out (fun s hs => .inl (by simp at hs; simp [hs]))).trans HU2.out (fun s hs => .inl (by simp at hs; simp [hs]))

set_option maxRecDepth 100000 in
set_option maxHeartbeats 4000000 in
theorem do_1 (t r : Nat) (T : List PS) (w : World) (h : Both w t r T) (P S : Int) :
    Calls Try.prog 20 #[.pointer (some ⟨t, 0, none⟩), .pointer (some ⟨r, 0, none⟩), .agg #[.int .i64 1, .int .i64 P, .int .i64 S]] w (DoPost t r (exitT T P S) w) := by
  have HB := Lib.hid h
  have HG := Lib.hid (good_exit h.good P S)
  clear h
  have h19 := fun W hm (hg : Good T) => exit_any t T P S W hm
  have h44 := fun W hr => rexit_any r T P S W hr
  generalize exitE T P = E at h19 h44
  have H19 := Lib.hid h19
  have H44 := Lib.hid h44
  clear h19 h44
  go_enter Try.func20, Try.ntmps20
  go_wp2_with fail
  have hnew := Blk.new w 45 #[.int .i64 1, .int .i64 P, .int .i64 S]
  have hu0 := (Upd.refl [t, r] w).alloc (.cells #[.int .i64 1, .int .i64 P, .int .i64 S] 45)
  have hb0 := HB.out.upd (S := []) ((Upd.refl [] w).alloc (.cells #[.int .i64 1, .int .i64 P, .int .i64 S] 45)) (by simp) (by simp)
  have hlt := HB.out.lt
  generalize (w.alloc (.cells #[.int .i64 1, .int .i64 P, .int .i64 S] 45)) = W1 at *
  have c1 := hnew.cellAt (i := 1) rfl
  have c2 := hnew.cellAt (i := 2) rfl
  have n1 : w.heap.size ∉ [t] := by simp; omega
  have n2 : w.heap.size ∉ [r] := by simp; omega
  generalize w.heap.size = Nb at *
  have HN := Lib.hid hb0.ne
  have HB0 := Lib.hid hb0
  have HU0 := Lib.hid hu0
  clear hnew hb0 hu0 hlt
  simp only [List.getElem_toArray, List.getElem_cons_succ, List.getElem_cons_zero] at c1 c2
  go_wp2_with fail
  go_region_held3 (fun w' => w'.cell? ⟨Nb, 1, none⟩ = some (.int .i64 P) ∧ w'.cell? ⟨Nb, 2, none⟩ = some (.int .i64 S)) (simp [*])
    (first
      | (go_at_call 17; refine (H19.out _ HB0.out.tab.drew HB0.out.good).mono ?_; rintro e w1 ⟨rfl, hm1, hu1⟩; have d1 := hu1.cellAt (w := W1.drew) c1 n1; have d2 := hu1.cellAt (w := W1.drew) c2 n1; have hr1 := Lib.hid (HB0.out.ref.drew.upd hu1 (by simp; exact fun h => HN.out h.symm)); have HM1 := Lib.hid hm1; have HU1 := Lib.hid hu1; clear hm1 hu1)
      | (go_at_call 36; refine (H44.out _ hr1.out).mono ?_; rintro e w2 ⟨rfl, hm2, hu2⟩; have g1 := hu2.cellAt d1 n2; have g2 := hu2.cellAt d2 n2; have HM2 := Lib.hid hm2; have HU2 := Lib.hid hu2; clear hm2 hu2))
  go_wp2
  go_ret
  have hne := HN.out
  refine ⟨by simp, ⟨HM1.out.upd HU2.out (by simp; exact hne), HM2.out, HG.out⟩, ?_⟩
  exact (HU0.out.drew.trans HU1.out (fun s hs => .inl (by simp at hs; simp [hs]))).trans HU2.out (fun s hs => .inl (by simp at hs; simp [hs]))

set_option maxRecDepth 100000 in
set_option maxHeartbeats 4000000 in
theorem do_2 (t r : Nat) (T : List PS) (w : World) (h : Both w t r T) (P S : Int) :
    Calls Try.prog 20 #[.pointer (some ⟨t, 0, none⟩), .pointer (some ⟨r, 0, none⟩), .agg #[.int .i64 2, .int .i64 P, .int .i64 S]] w (DoPost t r (exitT T P 137) w) := by
  have HB := Lib.hid h
  have HG := Lib.hid (good_exit h.good P 137)
  clear h
  have h19 := fun W hm (hg : Good T) => kill_any t T P W hm
  have h44 := fun W hr => rkill_any r T P W hr
  generalize exitE T P = E at h19 h44
  have H19 := Lib.hid h19
  have H44 := Lib.hid h44
  clear h19 h44
  go_enter Try.func20, Try.ntmps20
  go_wp2_with fail
  have hnew := Blk.new w 45 #[.int .i64 2, .int .i64 P, .int .i64 S]
  have hu0 := (Upd.refl [t, r] w).alloc (.cells #[.int .i64 2, .int .i64 P, .int .i64 S] 45)
  have hb0 := HB.out.upd (S := []) ((Upd.refl [] w).alloc (.cells #[.int .i64 2, .int .i64 P, .int .i64 S] 45)) (by simp) (by simp)
  have hlt := HB.out.lt
  generalize (w.alloc (.cells #[.int .i64 2, .int .i64 P, .int .i64 S] 45)) = W1 at *
  have c1 := hnew.cellAt (i := 1) rfl
  have c2 := hnew.cellAt (i := 2) rfl
  have n1 : w.heap.size ∉ [t] := by simp; omega
  have n2 : w.heap.size ∉ [r] := by simp; omega
  generalize w.heap.size = Nb at *
  have HN := Lib.hid hb0.ne
  have HB0 := Lib.hid hb0
  have HU0 := Lib.hid hu0
  clear hnew hb0 hu0 hlt
  simp only [List.getElem_toArray, List.getElem_cons_succ, List.getElem_cons_zero] at c1 c2
  go_wp2_with fail
  go_region_held3 (fun w' => w'.cell? ⟨Nb, 1, none⟩ = some (.int .i64 P)) (simp [*])
    (first
      | (go_at_call 22; refine (H19.out _ HB0.out.tab.drew HB0.out.good).mono ?_; rintro e w1 ⟨rfl, hm1, hu1⟩; have d1 := hu1.cellAt (w := W1.drew) c1 n1; have d2 := hu1.cellAt (w := W1.drew) c2 n1; have hr1 := Lib.hid (HB0.out.ref.drew.upd hu1 (by simp; exact fun h => HN.out h.symm)); have HM1 := Lib.hid hm1; have HU1 := Lib.hid hu1; clear hm1 hu1)
      | (go_at_call 37; refine (H44.out _ hr1.out).mono ?_; rintro e w2 ⟨rfl, hm2, hu2⟩; have g1 := hu2.cellAt d1 n2; have g2 := hu2.cellAt d2 n2; have HM2 := Lib.hid hm2; have HU2 := Lib.hid hu2; clear hm2 hu2))
  go_wp2
  go_ret
  have hne := HN.out
  refine ⟨by simp, ⟨HM1.out.upd HU2.out (by simp; exact hne), HM2.out, HG.out⟩, ?_⟩
  exact (HU0.out.drew.trans HU1.out (fun s hs => .inl (by simp at hs; simp [hs]))).trans HU2.out (fun s hs => .inl (by simp at hs; simp [hs]))

set_option maxRecDepth 100000 in
set_option maxHeartbeats 4000000 in
theorem do_3 (t r : Nat) (T : List PS) (w : World) (h : Both w t r T) (P S : Int) :
    Calls Try.prog 20 #[.pointer (some ⟨t, 0, none⟩), .pointer (some ⟨r, 0, none⟩), .agg #[.int .i64 3, .int .i64 P, .int .i64 S]] w (DoPost t r (waitT T P) w) := by
  have HB := Lib.hid h
  have HG := Lib.hid (good_wait h.good P)
  clear h
  have h19 := fun W hm (hg : Good T) => wait_any t T P W hm
  have h44 := fun W hr => rwait_any r T P W hr
  generalize waitA T P = A at h19 h44
  generalize waitS T P = B at h19 h44
  generalize waitE T P = E at h19 h44
  have H19 := Lib.hid h19
  have H44 := Lib.hid h44
  clear h19 h44
  go_enter Try.func20, Try.ntmps20
  go_wp2_with fail
  have hnew := Blk.new w 45 #[.int .i64 3, .int .i64 P, .int .i64 S]
  have hu0 := (Upd.refl [t, r] w).alloc (.cells #[.int .i64 3, .int .i64 P, .int .i64 S] 45)
  have hb0 := HB.out.upd (S := []) ((Upd.refl [] w).alloc (.cells #[.int .i64 3, .int .i64 P, .int .i64 S] 45)) (by simp) (by simp)
  have hlt := HB.out.lt
  generalize (w.alloc (.cells #[.int .i64 3, .int .i64 P, .int .i64 S] 45)) = W1 at *
  have c1 := hnew.cellAt (i := 1) rfl
  have c2 := hnew.cellAt (i := 2) rfl
  have n1 : w.heap.size ∉ [t] := by simp; omega
  have n2 : w.heap.size ∉ [r] := by simp; omega
  generalize w.heap.size = Nb at *
  have HN := Lib.hid hb0.ne
  have HB0 := Lib.hid hb0
  have HU0 := Lib.hid hu0
  clear hnew hb0 hu0 hlt
  simp only [List.getElem_toArray, List.getElem_cons_succ, List.getElem_cons_zero] at c1 c2
  go_wp2_with fail
  refine (H19.out _ HB0.out.tab HB0.out.good).mono ?_; rintro e w1 ⟨rfl, hm1, hu1⟩
  have d1 := hu1.cellAt c1 n1
  have hr1 := Lib.hid (HB0.out.ref.upd hu1 (by simp; exact fun h => HN.out h.symm))
  have HM1 := Lib.hid hm1
  have HU1 := Lib.hid hu1
  clear hm1 hu1
  go_wp2_with fail
  refine (H44.out _ hr1.out).mono ?_; rintro e w2 ⟨rfl, hm2, hu2⟩
  have HM2 := Lib.hid hm2
  have HU2 := Lib.hid hu2
  clear hm2 hu2
  go_wp2_with fail
  go_ret
  have hne := HN.out
  refine ⟨by simp, ⟨HM1.out.upd HU2.out (by simp; exact hne), HM2.out, HG.out⟩, ?_⟩
  exact (HU0.out.trans HU1.out (fun s hs => .inl (by simp at hs; simp [hs]))).trans HU2.out (fun s hs => .inl (by simp at hs; simp [hs]))

set_option maxHeartbeats 2000000 in
theorem do_else (t r : Nat) (T : List PS) (w : World) (h : Both w t r T) (K P S : Int) (k0 : K ≠ 0) (k1 : K ≠ 1) (k2 : K ≠ 2) (k3 : K ≠ 3) :
    Calls Try.prog 20 #[.pointer (some ⟨t, 0, none⟩), .pointer (some ⟨r, 0, none⟩), .agg #[.int .i64 K, .int .i64 P, .int .i64 S]] w (DoPost t r T w) := by
  have HB := Lib.hid h
  clear h
  have b0 : (K == 0) = false := by simp [k0]
  have b1 : (K == 1) = false := by simp [k1]
  have b2 : (K == 2) = false := by simp [k2]
  have b3 : (K == 3) = false := by simp [k3]
  clear k0 k1 k2 k3
  go_enter Try.func20, Try.ntmps20
  go_wp2_with fail
  go_ret
  have hu := (Upd.refl [] w).alloc (.cells #[.int .i64 K, .int .i64 P, .int .i64 S] 45)
  exact ⟨by simp, HB.out.upd hu (by simp) (by simp), hu.zero _⟩

theorem do_any (t r : Nat) (T : List PS) (w : World) (h : Both w t r T) (K P S : Int) :
    Calls Try.prog 20 #[.pointer (some ⟨t, 0, none⟩), .pointer (some ⟨r, 0, none⟩), .agg #[.int .i64 K, .int .i64 P, .int .i64 S]] w (DoPost t r (stepT T K P S) w) := by
  by_cases k0 : K = 0
  · subst k0; exact do_0 t r T w h P S
  · by_cases k1 : K = 1
    · subst k1; exact do_1 t r T w h P S
    · by_cases k2 : K = 2
      · subst k2; exact do_2 t r T w h P S
      · by_cases k3 : K = 3
        · subst k3; exact do_3 t r T w h P S
        · have e : stepT T K P S = T := by unfold stepT; rw [if_neg k0, if_neg k1, if_neg k2, if_neg k3]
          rw [e]
          exact do_else t r T w h K P S k0 k1 k2 k3

end Go.Proofs.Ytocmochdgidcmaa
