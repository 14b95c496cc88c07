/- End. -/
import Derived.Test.YtedaffkdfniikaaFdsF
namespace Go.Proofs.Ytedaffkdfniikaa
open Go.RowKit Go.Shelf

/-- A process has ended: what nobody has any more, and the error. -/
def EPost (w : World) (t : Nat) (own : List Nat) (S : St) (p : Int) (e : Ending) (w' : World) : Prop :=
  ∃ A cap, e = .returned (.tuple #[.slice A (finO S p).length cap, .int .i64 (ofE S p)]) ∧ Row w' A cap (finO S p) ∧ (∀ g, g ∈ ownA A → w.heap.size ≤ g) ∧ PAt w' t own (finS S p) ∧ Upd own w w'
theorem finL_le (S : St) (i : Nat) : ∀ n, (finL S i n).2.length ≤ n
  | 0 => by simp [finL]
  | n + 1 => by
    have ih := finL_le S i n
    unfold finL fin1
    split
    · omega
    · simp only
      split
      · rw [List.length_append]; simp; omega
      · omega
theorem finL_zero {S : St} {i j : Nat} (h : (finL S i j).1.fd i j = 0) : finL S i (j + 1) = finL S i j := by
  show fin1 i (finL S i j) j = _
  unfold fin1
  rw [if_pos h]
theorem finL_last {S : St} {i j : Nat} (h : (finL S i j).1.fd i j ≠ 0) (hc : cntF (setF (finL S i j).1.fd i j 0) ((finL S i j).1.fd i j) = 0) :
    finL S i (j + 1) = (withF (finL S i j).1 (setF (finL S i j).1.fd i j 0), (finL S i j).2 ++ [opAt (finL S i j).1 ((finL S i j).1.fd i j)]) := by
  show fin1 i (finL S i j) j = _
  unfold fin1
  rw [if_neg h, if_pos hc]
theorem finL_more {S : St} {i j : Nat} (h : (finL S i j).1.fd i j ≠ 0) (hc : cntF (setF (finL S i j).1.fd i j 0) ((finL S i j).1.fd i j) ≠ 0) :
    finL S i (j + 1) = (withF (finL S i j).1 (setF (finL S i j).1.fd i j 0), (finL S i j).2) := by
  show fin1 i (finL S i j) j = _
  unfold fin1
  rw [if_neg h, if_neg hc]

set_option maxRecDepth 100000 in
set_option maxHeartbeats 2000000 in
theorem end_any (t : Nat) (own : List Nat) (S : St) (pb sb : Nat → Nat) (w : World) (h : Prog w t own S pb sb) (p : Int) :
    Calls Try.prog 12 #[.pointer (some ⟨t, 0, none⟩), .int .i64 p] w (EPost w t own S p) := by
  have HF := Lib.hid (of_any t own S pb sb w h p)
  have H := Lib.hid h
  unfold ofV at HF
  by_cases he : ofE S p = 0
  · obtain ⟨p0, p1, hh⟩ := ofE_ok he
    simp only [he, pv, decide_true, if_true] at HF
    have HO := Lib.hid (show finO S p = (finL S p.toNat 8).2 by unfold finO; rw [if_pos he])
    have HS := Lib.hid (show finS S p = setH (finL S p.toNat 8).1 p.toNat false by unfold finS; rw [if_pos he])
    have HE := Lib.hid he
    obtain ⟨i, hi⟩ : ∃ i, i = p.toNat := ⟨_, rfl⟩
    have hpi : p = (i : Int) := by omega
    subst hpi
    rw [Int.toNat_natCast] at *
    have i6 : i < 6 := by omega
    have HH := Lib.hid (fun j => show (finL S i j).1.has i = true by rw [(finL_has S i j).1]; exact hh)
    have HLE := Lib.hid (finL_le S i)
    generalize hy : pb i = y at *
    have HY := Lib.hid hy
    clear h he hh hi hy
    go_enter Try.func12, Try.ntmps12
    go_wp2_with fail
    refine HF.out.mono ?_; rintro e w' ⟨rfl, rfl⟩
    go_wp2_with fail
    go_loopw [8, 21] (fun vo v wr => ∃ (j n cap : Nat) (A : Option Addr), j ≤ 8 ∧ v = .int .i64 (j : Int) ∧ n = (finL S i j).2.length ∧ vo = .slice A n cap ∧ Row wr A cap (finL S i j).2 ∧ Prog wr t own (finL S i j).1 pb sb ∧ Upd own w' wr ∧ (∀ g, g ∈ ownA A → w'.heap.size ≤ g)) (fun _ v _ => 8 - (intOf v).toNat)
    case atStart => exact ⟨0, 0, 0, none, by omega, rfl, rfl, rfl, .inl ⟨rfl, rfl, rfl⟩, H.out, Upd.refl _ _, by simp [ownA]⟩
    case round =>
      obtain ⟨j, n, cap, A, hj, rfl, hn, rfl, hrow, hpr, hu, ho⟩ := hrel
      have HN := Lib.hid hn
      have HROW := Lib.hid hrow
      have HPR := Lib.hid hpr
      have HU := Lib.hid hu
      have HOW := Lib.hid ho
      by_cases hlt : j < 8
      · have j0 : (0 : Int) ≤ (j : Int) := by omega
        have j1 : (j : Int) < 8 := by omega
        have hc := hpr.cellP i6 (HH.out j) hlt
        rw [HY.out] at hc
        by_cases h0 : (finL S i j).1.fd i j = 0
        · have HZ := Lib.hid (finL_zero h0)
          simp only [sv, h0, if_true] at hc
          clear hn hrow hpr hu ho h0
          go_wp2_with fail
          go_quiet (fail)
          rename_i nq
          go_wp2_with fail
          go_roundw
          case rel => exact ⟨j + 1, n, cap, A, by omega, by go_num, by rw [HZ.out]; exact HN.out, rfl, by rw [HZ.out]; exact HROW.out, by rw [HZ.out]; exact HPR.out.upd0 ((Upd.refl [] _).drewN _), HU.out.drewN _, HOW.out⟩
          case measure => simp [intOf]; omega
        · have HREL := Lib.hid (fun W (hW : Prog W t own (finL S i j).1 pb sb) => release_any t own (finL S i j).1 pb sb W hW i6 (HH.out j) hlt rfl h0)
          rw [HY.out] at HREL
          simp only [sv, h0, if_false] at hc
          by_cases hcn : cntF (setF (finL S i j).1.fd i j 0) ((finL S i j).1.fd i j) = 0
          · have HZ := Lib.hid (finL_last h0 hcn)
            have hd : decide (cntF (setF (finL S i j).1.fd i j 0) ((finL S i j).1.fd i j) = 0) = true := by simp [hcn]
            rw [hd] at HREL
            have hn8 := HLE.out j
            rw [← hn] at hn8
            clear hn hrow hpr hu ho h0 hcn hd
            generalize withF (finL S i j).1 (setF (finL S i j).1.fd i j 0) = S' at *
            generalize cntF (setF (finL S i j).1.fd i j 0) ((finL S i j).1.fd i j) = cc at *
            generalize sb ((finL S i j).1.fd i j) = z at *
            generalize opAt (finL S i j).1 ((finL S i j).1.fd i j) = oo at *
            go_wp2_with fail
            go_quiet (fail)
            rename_i nq
            go_wp2_with fail
            refine (HREL.out _ (HPR.out.upd0 ((Upd.refl [] _).drewN nq))).mono ?_; rintro e w2 ⟨rfl, hp2, hu2, hb2⟩
            have d0 := hb2.cellAt (i := 0) (v := .int .u8 oo.k) rfl
            have d1 := hb2.cellAt (i := 1) (v := .int .i64 oo.r) rfl
            have d2 := hb2.cellAt (i := 2) (v := .int .i64 oo.p) rfl
            have HX : Hid (Xs (w2.alloc (.cells #[.int .u8 oo.k, .int .i64 oo.r, .int .i64 oo.p] 30)) (.slice (some ⟨w2.heap.size, 0, none⟩) 1 1) 1 [oo]) := Lib.hid (xs_one w2 oo)
            have HR2 : Hid (Row (w2.alloc (.cells #[.int .u8 oo.k, .int .i64 oo.r, .int .i64 oo.p] 30)) A cap (finL S i j).2) := Lib.hid (((HROW.out.upd ((Upd.refl [] _).drewN nq) (by simp)).upd hu2 (fun g hg hm => by have h1 := HOW.out g hg; have h2 := H.out.ol g hm; omega)).upd ((Upd.refl [] w2).alloc _) (by simp))
            have HP2 : Hid (Prog (w2.alloc (.cells #[.int .u8 oo.k, .int .i64 oo.r, .int .i64 oo.p] 30)) t own S' pb sb) := Lib.hid (hp2.upd0 ((Upd.refl [] w2).alloc _))
            have HU2 : Hid (Upd own w' (w2.alloc (.cells #[.int .u8 oo.k, .int .i64 oo.r, .int .i64 oo.p] 30))) := Lib.hid (((HU.out.drewN nq).trans' hu2).alloc _)
            clear hp2 hu2 hb2
            go_wp2_with (refine wpList_app rfl _ _ rfl A n cap (finL S i j).2 HN.out.symm rfl HR2.out (.slice (some ⟨w2.heap.size, 0, none⟩) 1 1) rfl 1 [oo] HX.out (by omega) ?_; intro A3 cap3 W3 hr3 hu3 ho3)
            have HR3 := Lib.hid hr3
            have HP3 := Lib.hid (HP2.out.upd hu3 (fun g hg hm => by have h1 := HOW.out g hm; have h2 := H.out.ol g hg; omega))
            have HU3 := Lib.hid (HU2.out.trans hu3 (fun g hg => .inr (HOW.out g hg)))
            have HO3 : Hid (∀ g, g ∈ ownA A3 → w'.heap.size ≤ g) := Lib.hid (fun g hg => by
              rcases ho3 g hg with h1 | h1
              · exact HOW.out g h1
              · have := HU2.out.size; omega)
            clear hr3 hu3 ho3
            go_wp2_with fail
            go_roundw
            case rel => exact ⟨j + 1, n + 1, cap3, A3, by omega, by go_num, by rw [HZ.out]; simp only [List.length_append, List.length_singleton]; rw [HN.out], rfl, by rw [HZ.out]; exact HR3.out, by rw [HZ.out]; exact HP3.out, HU3.out, HO3.out⟩
            case measure => simp [intOf]; omega
          · have HZ := Lib.hid (finL_more h0 hcn)
            have hd : decide (cntF (setF (finL S i j).1.fd i j 0) ((finL S i j).1.fd i j) = 0) = false := by simp [hcn]
            rw [hd] at HREL
            clear hn hrow hpr hu ho h0 hcn hd
            generalize withF (finL S i j).1 (setF (finL S i j).1.fd i j 0) = S' at *
            generalize cntF (setF (finL S i j).1.fd i j 0) ((finL S i j).1.fd i j) = cc at *
            generalize sb ((finL S i j).1.fd i j) = z at *
            generalize opAt (finL S i j).1 ((finL S i j).1.fd i j) = oo at *
            go_wp2_with fail
            go_quiet (fail)
            rename_i nq
            go_wp2_with fail
            refine (HREL.out _ (HPR.out.upd0 ((Upd.refl [] _).drewN nq))).mono ?_; rintro e w2 ⟨rfl, hp2, hu2, hb2⟩
            have HR2 := Lib.hid ((HROW.out.upd ((Upd.refl [] _).drewN nq) (by simp)).upd hu2 (fun g hg hm => by have h1 := HOW.out g hg; have h2 := H.out.ol g hm; omega))
            have HP2 := Lib.hid hp2
            have HU2 := Lib.hid ((HU.out.drewN nq).trans' hu2)
            clear hp2 hu2 hb2
            go_wp2_with fail
            go_roundw
            case rel => exact ⟨j + 1, n, cap, A, by omega, by go_num, by rw [HZ.out]; exact HN.out, rfl, by rw [HZ.out]; exact HR2.out, by rw [HZ.out]; exact HP2.out, HU2.out, HOW.out⟩
            case measure => simp [intOf]; omega
      · obtain rfl : j = 8 := by omega
        have i0 : (0 : Int) ≤ (i : Int) := by omega
        have c0 := hpr.cellT i6
        have f0 := hpr.tab.frozen i
        have HP2 := Lib.hid (hpr.fin i)
        have HU2 := Lib.hid (hu.setCell (p := ⟨t, i, none⟩) (.inl hpr.ot) (.pointer none))
        have HR2 := Lib.hid (hrow.upd ((Upd.refl [t] _).setCell (p := ⟨t, i, none⟩) (.inl (by simp)) (.pointer none)) (fun g hg hm => by simp at hm; subst hm; have h1 := ho g hg; have h2 := H.out.ol g H.out.ot; omega))
        clear hn hrow hpr hu ho
        generalize pv ((finL S i 8).1.has i) (pb i) = vv at *
        go_wp2_with fail
        go_ret2
        refine ⟨A, cap, ?_, ?_, HOW.out, ⟨pb, sb, ?_⟩, HU2.out⟩
        · rw [HO.out, HE.out, ← HN.out]; simp
        · rw [HO.out]; exact HR2.out
        · rw [HS.out]; exact HP2.out
  · have hO := ofE_no he
    have HO := Lib.hid (show finO S p = [] by unfold finO; rw [if_neg he])
    have HS := Lib.hid (show finS S p = S by unfold finS; rw [if_neg he])
    have HE := Lib.hid hO
    rw [hO] at HF
    simp only [pv] at HF
    generalize pb p.toNat = y at *
    clear h he hO
    go_enter Try.func12, Try.ntmps12
    go_wp2_with fail
    refine HF.out.mono ?_; rintro e w' ⟨rfl, rfl⟩
    go_wp2_with fail
    go_ret2
    refine ⟨none, 0, ?_, ?_, by simp [ownA], ⟨pb, sb, ?_⟩, Upd.refl _ _⟩
    · rw [HO.out, HE.out]; simp
    · rw [HO.out]; exact .inl ⟨rfl, rfl, rfl⟩
    · rw [HS.out]; exact H.out

end Go.Proofs.Ytedaffkdfniikaa
