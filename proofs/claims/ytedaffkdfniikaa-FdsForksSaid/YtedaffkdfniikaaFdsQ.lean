/- The reference's End. -/
import Derived.Test.YtedaffkdfniikaaFdsN
namespace Go.Proofs.Ytedaffkdfniikaa
open Go.RowKit Go.Shelf

theorem atE_zero {S : St} {i j : Nat} (hi : i < 6) (hh : S.has i = true) (h0 : S.fd i j = 0) : atE S (i : Int) (j : Int) = 3 := by
  have ho : ofE S (i : Int) = 0 := by unfold ofE; rw [if_pos ⟨by omega, by omega, by rw [Int.toNat_natCast]; exact hh⟩]
  unfold atE
  simp [ho, h0]
theorem atE_some {S : St} {i j : Nat} (hi : i < 6) (hj : j < 8) (hh : S.has i = true) (h0 : S.fd i j ≠ 0) : atE S (i : Int) (j : Int) = 0 := by
  have ho : ofE S (i : Int) = 0 := by unfold ofE; rw [if_pos ⟨by omega, by omega, by rw [Int.toNat_natCast]; exact hh⟩]
  unfold atE
  simp [ho, h0]
  omega
def REPost (w : World) (r : Nat) (own : List Nat) (S : St) (p : Int) (e : Ending) (w' : World) : Prop :=
  ∃ A' cap', e = .returned (.tuple #[.slice A' (finO S p).length cap', .int .i64 (ofE S p)]) ∧ Row w' A' cap' (finO S p) ∧ (∀ g, g ∈ ownA A' → w.heap.size ≤ g) ∧ RAt w' r own (finS S p) ∧ Upd [r] w w'

set_option maxRecDepth 100000 in
set_option maxHeartbeats 4000000 in
theorem rend_any (r : Nat) (own : List Nat) (S : St) (A : Option Addr) (cap : Nat) (w : World) (h : RX w r own S A cap) (hg : Good S) (p : Int) :
    Calls Try.prog 40 #[.pointer (some ⟨r, 0, none⟩), .int .i64 p] w (REPost w r own S p) := by
  have HF := Lib.hid (rmay_any r own S A cap w h p)
  have H := Lib.hid h
  by_cases he : ofE S p = 0
  · obtain ⟨p0, p1, hh⟩ := ofE_ok he
    rw [he] at HF
    have HO := Lib.hid (show finO S p = (finL S p.toNat 8).2 by unfold finO; rw [if_pos he])
    have HS := Lib.hid (show finS S p = setH (finL S p.toNat 8).1 p.toNat false by unfold finS; rw [if_pos he])
    have HE := Lib.hid he
    obtain ⟨i, hi⟩ : ∃ i, i = p.toNat := ⟨_, rfl⟩
    have hpi : p = (i : Int) := by omega
    subst hpi
    rw [Int.toNat_natCast] at *
    have i6 : i < 6 := by omega
    have HH := Lib.hid (fun j => show (finL S i j).1.has i = true by rw [(finL_has S i j).1]; exact hh)
    have HG := Lib.hid (fun j => good_finL hg i j)
    have HLE := Lib.hid (finL_le S i)
    have i0 : (0 : Int) ≤ (i : Int) := by omega
    have i1 : (i : Int) < 6 := by omega
    clear h he hh hi hg
    go_enter Try.func40, Try.ntmps40
    go_wp2_with fail
    refine HF.out.mono ?_; rintro e w' ⟨rfl, rfl⟩
    go_wp2_with fail
    go_loopw [7, 8] (fun vo v wr => ∃ (j n cap' : Nat) (A' : Option Addr), j ≤ 8 ∧ v = .int .i64 (j : Int) ∧ n = (finL S i j).2.length ∧ vo = .slice A' n cap' ∧ Row wr A' cap' (finL S i j).2 ∧ RX wr r own (finL S i j).1 A cap ∧ Upd [r] w' wr ∧ (∀ g, g ∈ ownA A' → w'.heap.size ≤ g)) (fun _ v _ => 8 - (intOf v).toNat)
    case atStart => exact ⟨0, 0, 0, none, by omega, rfl, rfl, rfl, .inl ⟨rfl, rfl, rfl⟩, H.out, Upd.refl _ _, by simp [ownA]⟩
    case round =>
      obtain ⟨j, n, cap', A', hj, rfl, hn, rfl, hrow, hpr, hu, ho⟩ := hrel
      have HN := Lib.hid hn
      have HROW := Lib.hid hrow
      have HPR := Lib.hid hpr
      have HU := Lib.hid hu
      have HOW := Lib.hid ho
      by_cases hlt : j < 8
      · have j0 : (0 : Int) ≤ (j : Int) := by omega
        have j1 : (j : Int) < 8 := by omega
        have HC := Lib.hid (rclose_any r own (finL S i j).1 A cap wr hpr (HG.out j) (i : Int) (j : Int))
        by_cases h0 : (finL S i j).1.fd i j = 0
        · have HZ := Lib.hid (finL_zero h0)
          have ha := atE_zero i6 (HH.out j) h0
          have hcl : cloL (finL S i j).1 (i : Int) (j : Int) = false := by unfold cloL; rw [ha]; simp
          have hcs : cloS (finL S i j).1 (i : Int) (j : Int) = (finL S i j).1 := by unfold cloS; rw [ha, if_neg (by decide)]
          rw [ha, hcl, hcs] at HC
          generalize getO (finL S i j).1 (i : Int) (j : Int) = oo at *
          unfold encO at HC
          clear hn hrow hpr hu ho h0 ha hcl hcs
          go_wp2_with fail
          refine HC.out.mono ?_; rintro e w2 ⟨rfl, hp2, hu2⟩
          have HR2 : Hid (Row (w2.alloc (.cells #[.int .u8 oo.k, .int .i64 oo.r, .int .i64 oo.p] 30)) A' cap' (finL S i j).2) := Lib.hid ((HROW.out.upd hu2 (fun g hg hm => by have h1 := HOW.out g hg; have h2 := H.out.ltr g hm; omega)).upd ((Upd.refl [] w2).alloc _) (by simp))
          have HP2 : Hid (RX (w2.alloc (.cells #[.int .u8 oo.k, .int .i64 oo.r, .int .i64 oo.p] 30)) r own (finL S i j).1 A cap) := Lib.hid (hp2.upd0 ((Upd.refl [] w2).alloc _))
          have HU2 : Hid (Upd [r] w' (w2.alloc (.cells #[.int .u8 oo.k, .int .i64 oo.r, .int .i64 oo.p] 30))) := Lib.hid ((HU.out.trans' hu2).alloc _)
          clear hp2 hu2
          go_wp2_with fail
          go_roundw
          case rel => exact ⟨j + 1, n, cap', A', by omega, by go_num, by rw [HZ.out]; exact HN.out, rfl, by rw [HZ.out]; exact HR2.out, by rw [HZ.out]; exact HP2.out, HU2.out, HOW.out⟩
          case measure => simp [intOf]; omega
        · have ha := atE_some i6 hlt (HH.out j) h0
          have hcs : cloS (finL S i j).1 (i : Int) (j : Int) = withF (finL S i j).1 (setF (finL S i j).1.fd i j 0) := by unfold cloS; rw [if_pos ha]; rfl
          have hgo : getO (finL S i j).1 (i : Int) (j : Int) = opAt (finL S i j).1 ((finL S i j).1.fd i j) := by unfold getO; rw [if_pos ha]; rfl
          by_cases hcn : cntF (setF (finL S i j).1.fd i j 0) ((finL S i j).1.fd i j) = 0
          · have HZ := Lib.hid (finL_last h0 hcn)
            have hcl : cloL (finL S i j).1 (i : Int) (j : Int) = true := by unfold cloL; exact decide_eq_true ⟨ha, hcn⟩
            rw [ha, hcl, hcs, hgo] at HC
            have hn8 := HLE.out j
            rw [← hn] at hn8
            clear hn hrow hpr hu ho h0 hcn ha hcl hcs hgo
            generalize withF (finL S i j).1 (setF (finL S i j).1.fd i j 0) = S' at *
            generalize opAt (finL S i j).1 ((finL S i j).1.fd i j) = oo at *
            unfold encO at HC
            go_wp2_with fail
            refine HC.out.mono ?_; rintro e w2 ⟨rfl, hp2, hu2⟩
            have hbo := Blk.new w2 30 #[.int .u8 oo.k, .int .i64 oo.r, .int .i64 oo.p]
            have d0 := hbo.cellAt (i := 0) (v := .int .u8 oo.k) rfl
            have d1 := hbo.cellAt (i := 1) (v := .int .i64 oo.r) rfl
            have d2 := hbo.cellAt (i := 2) (v := .int .i64 oo.p) rfl
            have HX : Hid (Xs ((w2.alloc (.cells #[.int .u8 oo.k, .int .i64 oo.r, .int .i64 oo.p] 30)).alloc (.cells #[.int .u8 oo.k, .int .i64 oo.r, .int .i64 oo.p] 30)) (.slice (some ⟨w2.heap.size + 1, 0, none⟩) 1 1) 1 [oo]) := Lib.hid (by
              have := xs_one (w2.alloc (.cells #[.int .u8 oo.k, .int .i64 oo.r, .int .i64 oo.p] 30)) oo
              rw [World.size_alloc] at this
              exact this)
            have HR2 : Hid (Row ((w2.alloc (.cells #[.int .u8 oo.k, .int .i64 oo.r, .int .i64 oo.p] 30)).alloc (.cells #[.int .u8 oo.k, .int .i64 oo.r, .int .i64 oo.p] 30)) A' cap' (finL S i j).2) := Lib.hid ((HROW.out.upd hu2 (fun g hg hm => by have h1 := HOW.out g hg; have h2 := H.out.ltr g hm; omega)).upd (((Upd.refl [] w2).alloc _).alloc _) (by simp))
            have HP2 : Hid (RX ((w2.alloc (.cells #[.int .u8 oo.k, .int .i64 oo.r, .int .i64 oo.p] 30)).alloc (.cells #[.int .u8 oo.k, .int .i64 oo.r, .int .i64 oo.p] 30)) r own S' A cap) := Lib.hid (hp2.upd0 (((Upd.refl [] w2).alloc _).alloc _))
            have HU2 : Hid (Upd [r] w' ((w2.alloc (.cells #[.int .u8 oo.k, .int .i64 oo.r, .int .i64 oo.p] 30)).alloc (.cells #[.int .u8 oo.k, .int .i64 oo.r, .int .i64 oo.p] 30))) := Lib.hid (((HU.out.trans' hu2).alloc _).alloc _)
            clear hp2 hu2 hbo
            go_wp2_with (refine wpList_app rfl _ _ rfl A' n cap' (finL S i j).2 HN.out.symm rfl HR2.out (.slice (some ⟨w2.heap.size + 1, 0, none⟩) 1 1) rfl 1 [oo] HX.out (by omega) ?_; intro A3 cap3 W3 hr3 hu3 ho3)
            have HR3 := Lib.hid hr3
            have HP3 := Lib.hid (HP2.out.upd hu3 (fun g hg hm => by have h1 := HOW.out g hm; have h2 := H.out.lt g hg; omega))
            have HU3 := Lib.hid (HU2.out.trans hu3 (fun g hg => .inr (HOW.out g hg)))
            have HO3 : Hid (∀ g, g ∈ ownA A3 → w'.heap.size ≤ g) := Lib.hid (fun g hg => by
              rcases ho3 g hg with h1 | h1
              · exact HOW.out g h1
              · have := HU2.out.size; omega)
            clear hr3 hu3 ho3
            go_wp2_with fail
            go_roundw
            case rel => exact ⟨j + 1, n + 1, cap3, A3, by omega, by go_num, by rw [HZ.out]; simp only [List.length_append, List.length_singleton]; rw [HN.out], rfl, by rw [HZ.out]; exact HR3.out, by rw [HZ.out]; exact HP3.out, HU3.out, HO3.out⟩
            case measure => simp [intOf]; omega
          · have HZ := Lib.hid (finL_more h0 hcn)
            have hcl : cloL (finL S i j).1 (i : Int) (j : Int) = false := by unfold cloL; exact decide_eq_false (fun hh => hcn hh.2)
            rw [ha, hcl, hcs, hgo] at HC
            clear hn hrow hpr hu ho h0 hcn ha hcl hcs hgo
            generalize withF (finL S i j).1 (setF (finL S i j).1.fd i j 0) = S' at *
            generalize opAt (finL S i j).1 ((finL S i j).1.fd i j) = oo at *
            unfold encO at HC
            go_wp2_with fail
            refine HC.out.mono ?_; rintro e w2 ⟨rfl, hp2, hu2⟩
            have HR2 : Hid (Row (w2.alloc (.cells #[.int .u8 oo.k, .int .i64 oo.r, .int .i64 oo.p] 30)) A' cap' (finL S i j).2) := Lib.hid ((HROW.out.upd hu2 (fun g hg hm => by have h1 := HOW.out g hg; have h2 := H.out.ltr g hm; omega)).upd ((Upd.refl [] w2).alloc _) (by simp))
            have HP2 : Hid (RX (w2.alloc (.cells #[.int .u8 oo.k, .int .i64 oo.r, .int .i64 oo.p] 30)) r own S' A cap) := Lib.hid (hp2.upd0 ((Upd.refl [] w2).alloc _))
            have HU2 : Hid (Upd [r] w' (w2.alloc (.cells #[.int .u8 oo.k, .int .i64 oo.r, .int .i64 oo.p] 30))) := Lib.hid ((HU.out.trans' hu2).alloc _)
            clear hp2 hu2
            go_wp2_with fail
            go_roundw
            case rel => exact ⟨j + 1, n, cap', A', by omega, by go_num, by rw [HZ.out]; exact HN.out, rfl, by rw [HZ.out]; exact HR2.out, by rw [HZ.out]; exact HP2.out, HU2.out, HOW.out⟩
            case measure => simp [intOf]; omega
      · obtain rfl : j = 8 := by omega
        have c0 := hpr.cellH i6
        have f0 := hpr.frz i
        have HP2 := Lib.hid (hpr.setH i6 false)
        have HU2 := Lib.hid (hu.setCell (p := ⟨r, i, none⟩) (.inl (by simp)) (.bool false))
        have HR2 := Lib.hid (hrow.upd ((Upd.refl [r] _).setCell (p := ⟨r, i, none⟩) (.inl (by simp)) (.bool false)) (fun g hg hm => by simp at hm; subst hm; have h1 := ho g hg; have h2 := H.out.lt g H.out.mem; omega))
        clear hn hrow hpr hu ho
        generalize (finL S i 8).1.has i = vv at *
        go_wp2_with fail
        go_ret2
        refine ⟨A', cap', ?_, ?_, HOW.out, ⟨A, cap, ?_⟩, HU2.out⟩
        · rw [HO.out, HE.out, ← HN.out]; simp
        · rw [HO.out]; exact HR2.out
        · rw [HS.out]; exact HP2.out
  · have hO := ofE_no he
    have HO := Lib.hid (show finO S p = [] by unfold finO; rw [if_neg he])
    have HS := Lib.hid (show finS S p = S by unfold finS; rw [if_neg he])
    have HE := Lib.hid hO
    rw [hO] at HF
    clear h he hO hg
    go_enter Try.func40, Try.ntmps40
    go_wp2_with fail
    refine HF.out.mono ?_; rintro e w' ⟨rfl, rfl⟩
    go_wp2_with fail
    go_ret2
    refine ⟨none, 0, ?_, ?_, by simp [ownA], ⟨A, cap, ?_⟩, Upd.refl _ _⟩
    · rw [HO.out, HE.out]; simp
    · rw [HO.out]; exact .inl ⟨rfl, rfl, rfl⟩
    · rw [HS.out]; exact H.out

end Go.Proofs.Ytedaffkdfniikaa
