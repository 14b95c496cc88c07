/- Open. -/
import Derived.Test.YtedaffkdfniikaaFdsE
namespace Go.Proofs.Ytedaffkdfniikaa
open Go.RowKit Go.Shelf

section
variable (t : Nat) (own : List Nat) (S : St) (pb sb : Nat → Nat) (w : World) (h : Prog w t own S pb sb)
include h

set_option maxHeartbeats 1000000 in
theorem open_any (hg : Good S) (p : Int) (o : Op) (ho : o.k < 256) :
    Calls Try.prog 14 #[.pointer (some ⟨t, 0, none⟩), .int .i64 p, .agg (encO o).toArray] w (PChg w t own (.tuple #[.int .i64 (opnV S p o), .int .i64 (opnE S p o)]) (opnS S p o)) := by
  obtain ⟨k, r, q⟩ := o
  unfold encO at *
  simp only at ho ⊢
  have hu0 := (Upd.refl [] w).alloc (.cells #[.int .u8 k, .int .i64 r, .int .i64 q] 30)
  have HF := Lib.hid (of_any t own S pb sb _ (h.upd0 hu0) p)
  have HU := Lib.hid hu0
  have H := Lib.hid h
  have hb0 := Blk.new w 30 #[.int .u8 k, .int .i64 r, .int .i64 q]
  have c0 := hb0.cellAt (i := 0) (v := .int .u8 k) rfl
  have c1 := hb0.cellAt (i := 1) (v := .int .i64 r) rfl
  have c2 := hb0.cellAt (i := 2) (v := .int .i64 q) rfl
  have i0 : (0 : Int) ≤ (k : Int) := by omega
  unfold opnV opnE opnS
  unfold ofV at HF
  by_cases he : ofE S p = 0
  · rw [if_pos he, if_pos he, if_pos he]
    obtain ⟨p0, p1, hh⟩ := ofE_ok he
    simp only [he, pv, decide_true, if_true] at HF
    by_cases hbad : badO ⟨k, r, q⟩
    · rw [if_pos hbad, if_pos hbad, if_pos hbad]
      generalize pb p.toNat = y at *
      unfold badO at hbad
      simp only at hbad
      clear h hu0 he hh hb0
      rcases hbad with hbad | hbad
      · subst hbad
        go_enter Try.func14, Try.ntmps14
        go_wp2_with fail
        refine HF.out.mono ?_; rintro e w' ⟨rfl, rfl⟩
        go_wp2_with fail
        go_ret2
        simp
        exact PChg.same H.out HU.out
      · have k3 : (3 : Int) < (k : Int) := by omega
        have k0 : ((k : Int) == 0) = false := by rw [beq_eq_false_iff_ne]; omega
        go_enter Try.func14, Try.ntmps14
        go_wp2_with fail
        refine HF.out.mono ?_; rintro e w' ⟨rfl, rfl⟩
        go_wp2_with fail
        go_ret2
        simp
        exact PChg.same H.out HU.out
    · rw [if_neg hbad, if_neg hbad, if_neg hbad]
      unfold badO at hbad
      simp only at hbad
      have k3 : ¬ (3 : Int) < (k : Int) := by omega
      have k0 : ((k : Int) == 0) = false := by rw [beq_eq_false_iff_ne]; omega
      clear hbad
      have hx : Blk ((w.alloc (.cells #[.int .u8 k, .int .i64 r, .int .i64 q] 30)).alloc (.cells #[.int .u8 k, .int .i64 r, .int .i64 q, .int .i64 0] 72)) (w.alloc (.cells #[.int .u8 k, .int .i64 r, .int .i64 q] 30)).heap.size ShT (shC ⟨k, r, q⟩ 0) := Blk.new _ _ _
      have hP := h.upd0 (hu0.alloc (.cells #[.int .u8 k, .int .i64 r, .int .i64 q, .int .i64 0] 72))
      rw [World.size_alloc] at hx
      cases hl : lstF S.fd p.toNat with
      | none =>
        have HG := Lib.hid (give_no t own S pb sb _ hP (i := p.toNat) (by omega) hh hl (w.heap.size + 1))
        unfold givV givE putN
        generalize pb p.toNat = y at *
        clear h hu0 he hh hb0 hP hx hl
        go_enter Try.func14, Try.ntmps14
        go_wp2_with fail
        refine HF.out.mono ?_; rintro e w' ⟨rfl, rfl⟩
        go_wp2_with fail
        refine HG.out.mono ?_; rintro e w' ⟨rfl, rfl⟩
        go_wp2_with fail
        go_ret2
        simp
        exact PChg.same H.out (HU.out.alloc _)
      | some j =>
        obtain ⟨j8, j0, _⟩ := lst_some hl
        have HG := Lib.hid (give_ok t own S pb sb _ hP (i := p.toNat) (by omega) hh hl (w.heap.size + 1) 0 ⟨k, r, q⟩ hx (by omega))
        have HP := Lib.hid (hP.upN (i := p.toNat) (by omega) hh j8 j0 hg.le hx (fun n h0 hn => by have := h.ol _ (h.os n h0 hn); omega))
        have HU2 := Lib.hid ((((HU.out.zero own).alloc (.cells #[.int .u8 k, .int .i64 r, .int .i64 q, .int .i64 0] 72)).setCell (p := ⟨pb p.toNat, j, none⟩) (.inl (h.op p.toNat (by omega) hh)) (.pointer (some ⟨w.heap.size + 1, 0, none⟩))).setCell (p := ⟨w.heap.size + 1, 3, none⟩) (.inr (Nat.le_succ _)) (.int .i64 1))
        unfold givV givE putN
        generalize pb p.toNat = y at *
        clear h hu0 he hh hb0 hP hx hl j0 j8
        go_enter Try.func14, Try.ntmps14
        go_wp2_with fail
        refine HF.out.mono ?_; rintro e w' ⟨rfl, rfl⟩
        go_wp2_with fail
        refine HG.out.mono ?_; rintro e w' ⟨rfl, hw'⟩
        have HW := Lib.hid hw'
        clear hw'
        go_wp2_with fail
        go_ret2
        simp
        have hw' := HW.out
        simp at hw'
        subst hw'
        exact PChg.of1 HP.out (Nat.le_succ _) HU2.out
  · rw [if_neg he, if_neg he, if_neg he]
    have hO := ofE_no he
    rw [hO] at HF
    simp only [pv] at HF
    generalize pb p.toNat = y at *
    clear h hu0 he hO hb0
    go_enter Try.func14, Try.ntmps14
    go_wp2_with fail
    refine HF.out.mono ?_; rintro e w' ⟨rfl, rfl⟩
    go_wp2_with fail
    go_ret2
    simp
    exact PChg.same H.out HU.out
end

end Go.Proofs.Ytedaffkdfniikaa
