/- List, Room, Same. -/
import Derived.Test.YtedaffkdfniikaaFdsH
import Derived.LaidEqlPtr
namespace Go.Proofs.Ytedaffkdfniikaa
open Go.RowKit Go.Shelf

theorem info_sh : (Try.prog.info? ShT).map (·.size) = some 4 := by kernel_rfl
theorem under_shp : Try.prog.underlying 65 = some (.pointer ShT) := by kernel_rfl

section
variable (t : Nat) (own : List Nat) (S : St) (pb sb : Nat → Nat) (w : World) (h : Prog w t own S pb sb)
include h

set_option maxRecDepth 100000 in
set_option maxHeartbeats 2000000 in
theorem list_any (p : Int) :
    Calls Try.prog 21 #[.pointer (some ⟨t, 0, none⟩), .int .i64 p] w fun e w' =>
      ∃ v, e = .returned v ∧ w'.ownsRow w.heap.size 3 1 v (lisO S p).length (ints (lisO S p)) ∧ Upd [] w w' := by
  have HF := Lib.hid (of_any t own S pb sb w h p)
  have H := Lib.hid h
  unfold ofV at HF
  by_cases he : ofE S p = 0
  · obtain ⟨p0, p1, hh⟩ := ofE_ok he
    simp only [he, pv, decide_true, if_true] at HF
    have HO := Lib.hid (show lisO S p = lisL S.fd p.toNat 8 by unfold lisO; rw [if_pos he])
    obtain ⟨i, hi⟩ : ∃ i, i = p.toNat := ⟨_, rfl⟩
    rw [← hi] at HF HO hh
    have i6 : i < 6 := by omega
    have HC := Lib.hid (fun W (hW : Prog W t own S pb sb) k (hk : k < 8) => hW.cellP i6 hh hk)
    have HLE := Lib.hid (lisL_le S.fd i)
    generalize pb i = y at *
    clear h he hh hi
    go_enter Try.func21, Try.ntmps21
    go_wp2_with fail
    refine HF.out.mono ?_; rintro e w' ⟨rfl, rfl⟩
    go_wp2_with fail
    go_loopw [7, 19] (fun vo v wr => ∃ j : Nat, j ≤ 8 ∧ v = .int .i64 (j : Int) ∧ wr.ownsRow w'.heap.size 3 1 vo (lisL S.fd i j).length (ints (lisL S.fd i j)) ∧ Upd [] w' wr) (fun _ v _ => 8 - (intOf v).toNat)
    case atStart => exact ⟨0, by omega, rfl, by simpa [lisL, ints] using World.ownsRow_nil w' w'.heap.size 3 1, Upd.refl _ _⟩
    case round =>
      obtain ⟨j, hj, rfl, hown, hu⟩ := hrel
      have HOW := Lib.hid hown
      have HU := Lib.hid hu
      by_cases hlt : j < 8
      · have j0 : (0 : Int) ≤ (j : Int) := by omega
        have j1 : (j : Int) < 8 := by omega
        have hc := HC.out wr (H.out.upd0 hu) j hlt
        by_cases h0 : S.fd i j = 0
        · have HZ := Lib.hid (show lisL S.fd i (j + 1) = lisL S.fd i j by conv => lhs; unfold lisL; rw [if_pos h0])
          simp only [sv, h0, if_true] at hc
          clear hown hu h0
          go_wp2_with fail
          go_quiet (fail)
          rename_i nq
          go_wp2_with fail
          go_roundw
          case rel => exact ⟨j + 1, by omega, by go_num, by rw [HZ.out]; exact own_upd HOW.out ((Upd.refl [] _).drewN nq), HU.out.drewN nq⟩
          case measure => simp [intOf]; omega
        · have HZ := Lib.hid (show lisL S.fd i (j + 1) = lisL S.fd i j ++ [j] by conv => lhs; unfold lisL; rw [if_neg h0])
          simp only [sv, h0, if_false] at hc
          obtain ⟨ii, hi, hz, hsi, hb⟩ := info_parts info_int
          have HI := Lib.hid hi
          generalize sb (S.fd i j) = z at *
          have hsz := HU.out.size
          clear hown hu h0 hi
          go_wp2_with fail
          go_quiet (fail)
          rename_i nq
          have HOW2 := Lib.hid (own_upd HOW.out ((Upd.refl [] wr).drewN nq))
          have HU2 := Lib.hid (HU.out.drewN nq)
          have hsz2 := HU2.out.size
          generalize wr.drewN nq = w2 at *
          go_wp2_with (at_builtin; refine wpList_append_own_at _ rfl _ _ 52 rfl w'.heap.size 3 ii (.int .i64 0) 1 8 under_ints HI.out hz hsi hb rfl (by decide) _ _ _ rfl (HOW2.out.alloc _) ⟨w2.heap.size, 0, none⟩ 1 1 [.int .i64 (j : Int)] rfl rfl (cell_one_new _ _ _) (by simp [Value.oneCell']) (by have := HLE.out j; unfold maxLen; omega) (by have := HLE.out j; omega) (by simp; omega) ?_; intro v' w3 hown' hgrow hnil hat)
          have HF3 := Lib.hid (show w3.ownsRow w'.heap.size 3 1 v' (lisL S.fd i (j + 1)).length (ints (lisL S.fd i (j + 1))) by
            rw [HZ.out]
            simpa [ints] using hown')
          have HU3 := Lib.hid (((HU2.out.alloc _).grown hgrow (S := []) (fun j hj => .inr (HOW2.out.lt j hj).1)) : Upd [] w' w3)
          clear hown' hgrow hnil hat
          go_wp2_with fail
          go_roundw
          case rel => exact ⟨j + 1, by omega, by go_num, HF3.out, HU3.out⟩
          case measure => simp [intOf]; omega
      · obtain rfl : j = 8 := by omega
        clear hown hu
        go_wp2_with fail
        go_ret
        exact ⟨_, rfl, by rw [HO.out]; exact HOW.out, HU.out⟩
  · have hO := ofE_no he
    have HO := Lib.hid (show lisO S p = [] by unfold lisO; rw [if_neg he])
    rw [hO] at HF
    simp only [pv] at HF
    generalize pb p.toNat = y at *
    clear h he hO
    go_enter Try.func21, Try.ntmps21
    go_wp2_with fail
    refine HF.out.mono ?_; rintro e w' ⟨rfl, rfl⟩
    go_wp2_with fail
    go_ret
    exact ⟨_, rfl, by rw [HO.out]; simpa [ints] using World.ownsRow_nil w' w'.heap.size 3 1, Upd.refl _ _⟩

set_option maxHeartbeats 1000000 in
theorem room_any (p : Int) :
    Calls Try.prog 22 #[.pointer (some ⟨t, 0, none⟩), .int .i64 p] w fun e w' => e = .returned (.int .i64 (roomO S p)) ∧ Upd [] w w' := by
  have HF := Lib.hid (of_any t own S pb sb w h p)
  unfold ofV at HF
  by_cases he : ofE S p = 0
  · have HL := Lib.hid (list_any t own S pb sb w h p)
    have HO := Lib.hid (show roomO S p = 8 - ((lisO S p).length : Int) by unfold roomO lisO; rw [if_pos he, if_pos he])
    have hle := lisL_le S.fd p.toNat 8
    have e1 : lisO S p = lisL S.fd p.toNat 8 := by unfold lisO; rw [if_pos he]
    rw [← e1] at hle
    simp only [he, pv, decide_true, if_true] at HF
    generalize pb p.toNat = y at *
    generalize lisO S p = l at *
    have HLE := Lib.hid hle
    clear h he e1 hle
    go_enter Try.func22, Try.ntmps22
    go_wp2_with fail
    refine HF.out.mono ?_; rintro e w' ⟨rfl, rfl⟩
    go_wp2_with fail
    refine HL.out.mono ?_; rintro e w1 ⟨v, rfl, hown, hu⟩
    rw [ints_nums] at hown
    obtain ⟨A, c, rfl, _, _, _⟩ := RdV.of_own hown
    have HU := Lib.hid hu
    have hle := HLE.out
    have i0 : (0 : Int) ≤ (l.length : Int) := by omega
    have i1 : (l.length : Int) ≤ 8 := by omega
    clear hown hu
    go_wp2_with fail
    go_ret
    exact ⟨by rw [HO.out]; simp, HU.out⟩
  · have hO := ofE_no he
    have HO := Lib.hid (show roomO S p = 0 by unfold roomO; rw [if_neg he])
    rw [hO] at HF
    simp only [pv] at HF
    generalize pb p.toNat = y at *
    clear h he hO
    go_enter Try.func22, Try.ntmps22
    go_wp2_with fail
    refine HF.out.mono ?_; rintro e w' ⟨rfl, rfl⟩
    go_wp2_with fail
    go_ret
    exact ⟨by rw [HO.out]; simp, Upd.refl _ _⟩

theorem atV_eql (p a q b : Int) (h1 : atE S p a = 0) (h2 : atE S q b = 0) (y z : Nat) (e1 : atV S sb p a = .pointer (some ⟨y, 0, none⟩)) (e2 : atV S sb q b = .pointer (some ⟨z, 0, none⟩)) (k : Nat) :
    (binOp .eql 65 (.pointer (some ⟨y, 0, none⟩)) (.pointer (some ⟨z, 0, none⟩))).run Try.prog (w.drewN k) = .ok (.bool (decide (y = z))) (w.drewN k) := by
  obtain ⟨⟨p0, p1, hh⟩, k0, k1, h0⟩ := atE_ok h1
  obtain ⟨⟨q0, q1, hh'⟩, l0, l1, h0'⟩ := atE_ok h2
  unfold atV at e1 e2
  rw [if_pos h1] at e1
  rw [if_pos h2] at e2
  injection e1 with e1; injection e1 with e1; injection e1 with e1 _ _
  injection e2 with e2; injection e2 with e2; injection e2 with e2 _ _
  obtain ⟨j, hj, hj4⟩ : ∃ j, Try.prog.info? ShT = some j ∧ j.size = 4 := by
    have := info_sh
    cases hq : Try.prog.info? ShT with
    | none => rw [hq] at this; cases this
    | some j => rw [hq] at this; exact ⟨j, rfl, by simpa using this⟩
  by_cases hyz : y = z
  · subst hyz
    rw [run_eql_ptr_same (P := Try.prog) (w.drewN k) (te := ShT) (j := j) _ under_shp hj]
    simp
  · have b1 := h.shr _ h0 (cnt_of (i := p.toNat) (k := a.toNat) (by omega) (by omega) rfl)
    have b2 := h.shr _ h0' (cnt_of (i := q.toNat) (k := b.toNat) (by omega) (by omega) rfl)
    rw [e1] at b1
    rw [e2] at b2
    rw [run_eql_ptr_other (P := Try.prog) (w.drewN k) (te := ShT) (j := j) (a := ⟨y, 0, none⟩) (b := ⟨z, 0, none⟩) under_shp hj (by omega) (fun e => hyz (by injection e)) (b1.drewN k) (b2.drewN k)]
    simp [hyz]
theorem atV_eq (p a q b : Int) (h1 : atE S p a = 0) (h2 : atE S q b = 0) :
    ∃ y z, atV S sb p a = .pointer (some ⟨y, 0, none⟩) ∧ atV S sb q b = .pointer (some ⟨z, 0, none⟩) ∧ decide (y = z) = decide (S.fd p.toNat a.toNat = S.fd q.toNat b.toNat) := by
  refine ⟨sb (S.fd p.toNat a.toNat), sb (S.fd q.toNat b.toNat), by unfold atV; rw [if_pos h1], by unfold atV; rw [if_pos h2], ?_⟩
  obtain ⟨⟨p0, p1, hh⟩, k0, k1, h0⟩ := atE_ok h1
  obtain ⟨⟨q0, q1, hh'⟩, l0, l1, h0'⟩ := atE_ok h2
  rw [Bool.eq_iff_iff, decide_eq_true_eq, decide_eq_true_eq]
  exact ⟨fun e => h.injs _ _ h0 h0' (cnt_of (i := p.toNat) (k := a.toNat) (by omega) (by omega) rfl) (cnt_of (i := q.toNat) (k := b.toNat) (by omega) (by omega) rfl) e, fun e => by rw [e]⟩

set_option maxHeartbeats 1000000 in
theorem same_any1 (p a q b : Int) :
    Calls Try.prog 19 #[.pointer (some ⟨t, 0, none⟩), .int .i64 p, .int .i64 a, .int .i64 q, .int .i64 b] w fun e w' => e = .returned (.bool (samB S p a q b)) ∧ Upd [] w w' := by
  have HA := Lib.hid (at_any t own S pb sb w h p a)
  have HB := Lib.hid (fun n => at_any t own S pb sb _ (h.upd0 ((Upd.refl [] w).drewN n)) q b)
  by_cases h1 : atE S p a = 0
  · by_cases h2 : atE S q b = 0
    · obtain ⟨y, z, e1, e2, hyz⟩ := atV_eq t own S pb sb w h p a q b h1 h2
      have HS := Lib.hid (show samB S p a q b = decide (y = z) by unfold samB; rw [hyz]; simp [h1, h2])
      rw [e1] at HA
      rw [e2] at HB
      simp only [h1, pv, decide_true, if_true] at HA
      simp only [h2, pv, decide_true, if_true] at HB
      have hq := atV_eql t own S pb sb w h p a q b h1 h2 y z e1 e2
      generalize samB S p a q b = sB at *
      generalize pb p.toNat = u at *
      generalize pb q.toNat = v at *
      generalize decide (y = z) = d at *
      clear h h1 h2 hyz e1 e2
      go_enter Try.func19, Try.ntmps19
      go_wp2_with fail
      refine HA.out.mono ?_; rintro e w' ⟨rfl, n, rfl⟩
      go_wp2_with fail
      refine (HB.out n).mono ?_; rintro e w' ⟨rfl, m, rfl⟩
      go_wp2_with fail
      go_ret
      exact ⟨by rw [HS.out]; simp, (Upd.refl [] w).drewN (n + m)⟩
    · have HS := Lib.hid (show samB S p a q b = false by unfold samB; simp [h2])
      have hb : (atE S q b == 0) = false := by simp [h2]
      have hb' : (atE S q b != 0) = true := by simp [h2]
      simp only [h1, pv, decide_true, if_true] at HA
      generalize samB S p a q b = sB at *
      generalize pb p.toNat = u at *
      generalize pv (decide (atE S q b = 0)) (pb q.toNat) = v1 at *
      generalize atV S sb q b = v2 at *
      generalize atV S sb p a = v3 at *
      generalize atE S q b = ev at *
      clear h h1 h2
      go_enter Try.func19, Try.ntmps19
      go_wp2_with fail
      refine HA.out.mono ?_; rintro e w' ⟨rfl, n, rfl⟩
      go_wp2_with fail
      refine (HB.out n).mono ?_; rintro e w' ⟨rfl, m, rfl⟩
      go_wp2_with fail
      go_ret
      exact ⟨by rw [HS.out]; simp, (Upd.refl [] w).drewN (n + m)⟩
  · have HS := Lib.hid (show samB S p a q b = false by unfold samB; simp [h1])
    have hb : (atE S p a == 0) = false := by simp [h1]
    have hb' : (atE S p a != 0) = true := by simp [h1]
    generalize samB S p a q b = sB at *
    generalize pv (decide (atE S q b = 0)) (pb q.toNat) = v1 at *
    generalize atV S sb q b = v2 at *
    generalize pv (decide (atE S p a = 0)) (pb p.toNat) = v3 at *
    generalize atV S sb p a = v4 at *
    generalize atE S p a = ev at *
    generalize atE S q b = eu at *
    clear h h1
    go_enter Try.func19, Try.ntmps19
    go_wp2_with fail
    refine HA.out.mono ?_; rintro e w' ⟨rfl, n, rfl⟩
    go_wp2_with fail
    refine (HB.out n).mono ?_; rintro e w' ⟨rfl, m, rfl⟩
    go_wp2_with fail
    go_ret
    exact ⟨by rw [HS.out]; simp, (Upd.refl [] w).drewN (n + m)⟩
end

end Go.Proofs.Ytedaffkdfniikaa
