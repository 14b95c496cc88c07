/- The program's children: an iterator over the places whose parent is pid. -/
import Derived.Test.YtogiegehkhnlmaaTfF
import Derived.Test.YtogiegehkhnlmaaTfK
import Derived.Shelf.RegionOpen
namespace Go.Proofs.Ytogiegehkhnlmaa
open Go.RowKit Go.Shelf
attribute [local go_sem] Oper.semAt_some

def kidB (T : List PS) (pid : Int) (i : Nat) : Bool := match getP T i with
  | .none => false
  | .liv p => p == pid
  | .dead p _ => p == pid
/-- What has come when the places 1 .. m have been looked at; G: the table, when so many have come. -/
def seen (G : List Nat → List PS) (pid : Int) : Nat → List Nat
  | 0 => []
  | m + 1 => if kidB (G (seen G pid m)) pid (m + 1) then seen G pid m ++ [m + 1] else seen G pid m
def comes (G : List Nat → List PS) (pid : Int) (pre : List Nat) (x : Nat) : Prop := ∃ m, m < 5 ∧ x = m + 1 ∧ pre = seen G pid m ∧ kidB (G pre) pid x = true
theorem seen_yes {G : List Nat → List PS} {pid : Int} {m : Nat} (h : kidB (G (seen G pid m)) pid (m + 1) = true) : seen G pid (m + 1) = seen G pid m ++ [m + 1] := by
  show (if kidB (G (seen G pid m)) pid (m + 1) then seen G pid m ++ [m + 1] else seen G pid m) = _
  rw [if_pos h]
theorem seen_no {G : List Nat → List PS} {pid : Int} {m : Nat} (h : kidB (G (seen G pid m)) pid (m + 1) = false) : seen G pid (m + 1) = seen G pid m := by
  show (if kidB (G (seen G pid m)) pid (m + 1) then seen G pid m ++ [m + 1] else seen G pid m) = _
  rw [h]
  rfl

theorem neN0 (w : World) : (binOp .neq 34 .nilIface .nilIface).run Try.prog w = .ok (.bool false) w := by kernel_rfl
theorem neN1 (p : Int) (w : World) : (binOp .neq 34 (.iface 39 (.agg #[.int .i64 p])) .nilIface).run Try.prog w = .ok (.bool true) w := by kernel_rfl
theorem neN2 (p s : Int) (w : World) : (binOp .neq 34 (.iface 43 (.agg #[.int .i64 p, .int .i64 s])) .nilIface).run Try.prog w = .ok (.bool true) w := by kernel_rfl

set_option maxRecDepth 100000 in
set_option maxHeartbeats 4000000 in
theorem iter_children (n : Nat) (t Bt Bp : Nat) (pid : Int) (G : List Nat → List PS) (I : List Nat → World → Prop)
    (hI : ∀ pre A, I pre A → TabAt A t (G pre) ∧ A.cell? ⟨Bt, 0, none⟩ = some (.pointer (some ⟨t, 0, none⟩)) ∧ A.cell? ⟨Bp, 0, none⟩ = some (.int .i64 pid)) :
    Iter Fence.wide n Try.prog 13 #[.pointer (some ⟨Bt, 0, none⟩), .pointer (some ⟨Bp, 0, none⟩)] I (comes G pid) (fun xs => xs = seen G pid 5) := by
  intro l J Jx W hab hJI hY h0
  refine callsIn_of_wp Try.func13 rfl trivial ?_ rfl
  simp only [Try.ntmps13, List.size_toArray, List.length_cons, List.length_nil, Nat.reduceAdd, Nat.reduceSub, Array.replicate_succ, Array.replicate_zero, List.push_toArray, List.append_toArray, List.nil_append, List.cons_append]
  have HAB := Lib.hid hab
  have HJI := Lib.hid hJI
  have HY := Lib.hid hY
  have HI := Lib.hid hI
  clear hab hJI hY hI
  gi_wp2
  gi_loopw [4] (fun v wr => ∃ k : Nat, k ≤ 5 ∧ v = .int .i64 ((k : Int) + 1) ∧ J (seen G pid k) wr) (fun v _ => 6 - (intOf v).toNat)
  case atStart => exact ⟨0, by omega, rfl, h0⟩
  case round =>
    obtain ⟨k, hk, rfl, hJ⟩ := hrel
    have HJ := Lib.hid hJ
    clear hJ
    by_cases hlt : k < 5
    · obtain ⟨hT, hBt, hBp⟩ := HI.out _ _ (HJI.out _ _ HJ.out)
      have HT : Hid (TabAt wr.drew t (G (seen G pid k))) := ⟨hT.1, hT.2⟩
      clear hT
      have hmx : Try.prog.follows .mixedOrders = true := by kernel_rfl
      have e0 := neN0
      have e1 := neN1
      have e2 := neN2
      have i1 : (k : Int) + 1 < 6 := by omega
      have HA := Lib.hid (fun W hW => at_any t (G (seen G pid k)) ((k : Int) + 1) W hW)
      have HP := Lib.hid (fun W hW => parent_any t (G (seen G pid k)) ((k : Int) + 1) W hW)
      have ek : ((k + 1 : Nat) : Int) = (k : Int) + 1 := by omega
      have HK := Lib.hid (fun hq => show comes G pid (seen G pid k) (k + 1) from ⟨k, hlt, rfl, rfl, hq⟩)
      have HG : Hid (∀ A B, Upd [] A B → J (seen G pid k) A → J (seen G pid k) B) := Lib.hid (fun A B hu hj => HAB.out _ A B hj ⟨hu.os, hu.tape, hu.output, hu.size, fun i hi _ => hu.block i hi (by simp)⟩)
      have HJD : Hid (J (seen G pid k) wr.drew) := Lib.hid (HG.out _ _ ((Upd.refl [] wr).drew) HJ.out)
      have HBP : Hid (wr.drew.cell? ⟨Bp, 0, none⟩ = some (.int .i64 pid)) := Lib.hid hBp
      have HYD : Hid (kidB (G (seen G pid k)) pid (k + 1) = true → ∀ A, J (seen G pid k) A → YieldAt Fence.wide (n - 1) Try.prog l #[.int .i64 ((k : Int) + 1)] A fun e B => ∃ d : Bool, e = .returned (.bool d) ∧ ((d = true → J (seen G pid k ++ [k + 1]) B) ∧ (d = false → Jx (seen G pid k ++ [k + 1]) B))) := Lib.hid (fun hq A hA => by
        obtain ⟨fn, tm, asg, bd, hy, hR⟩ := HY.out _ _ A hA (HK.out hq)
        rw [ek] at hy
        refine ⟨fn, tm, asg, bd, hy, hR.mono ?_⟩
        rintro e B (⟨rfl, h⟩ | ⟨rfl, h⟩)
        · exact ⟨true, rfl, fun _ => h, fun h => (by cases h)⟩
        · exact ⟨false, rfl, fun h => (by cases h), fun _ => h⟩)
      cases hx : getP (G (seen G pid k)) ((k : Int) + 1) with
      | none =>
        have HN := Lib.hid (seen_no (G := G) (pid := pid) (m := k) (by unfold kidB; rw [ek, hx]))
        rw [hx] at HA HP
        unfold encP at HA
        clear hx HYD HK ek
        gi_wp2
        first | gi_region_with_o (first
          | (refine ⟨trivial, fun h => absurd h Bool.false_ne_true, ?_⟩; gi_at_call 12; refine (callsIn_wide.2 (HA.out _ HT.out)).mono ?_; rintro e w' ⟨rfl, rfl⟩)
          | (refine ⟨trivial, ?_⟩)
          | (refine ⟨fun _ _ => trivial, ?_⟩)) | fail "region"
        all_goals gi_wp2
        all_goals go_roundw
        all_goals first
          | exact ⟨k + 1, by omega, by go_num, by rw [HN.out]; exact HJD.out⟩
          | (simp [intOf]; omega)
      | liv p =>
        rw [hx] at HA HP
        unfold encP at HA
        unfold parP at HP
        by_cases hq : p = pid
        · have HQ := Lib.hid (show kidB (G (seen G pid k)) pid (k + 1) = true by unfold kidB; rw [ek, hx]; simp [hq])
          have HN := Lib.hid (seen_yes HQ.out)
          subst hq
          clear hx ek
          gi_wp2
          first | gi_region_with_o (first
            | (refine ⟨trivial, fun h => absurd h Bool.false_ne_true, ?_⟩; gi_at_call 12; refine (callsIn_wide.2 (HA.out _ HT.out)).mono ?_; rintro e w' ⟨rfl, rfl⟩)
            | (refine ⟨trivial, fun h => absurd h Bool.false_ne_true, ?_⟩; gi_at_call 14; refine (callsIn_wide.2 (HP.out _ HT.out)).mono ?_; rintro e w2 ⟨rfl, hu⟩; have hBp2 := hu.lt_old HBP.out; have HJ2 := Lib.hid (HG.out _ _ hu HJD.out); obtain ⟨fn, tm, asg, bd, hy, hR⟩ := HYD.out HQ.out _ HJ2.out; clear hu)
            | (refine ⟨fun h => absurd h Bool.false_ne_true, ?_⟩; refine hR.mono ?_; rintro e B ⟨d, rfl, hd⟩)
            | (refine ⟨trivial, ?_⟩)
            | (refine ⟨fun _ _ => trivial, ?_⟩)) | fail "region"
          all_goals
            rename_i d hd
            have HD := Lib.hid hd
            clear hd
            rcases d with _ | _
          all_goals gi_wp2
          all_goals first
            | (refine bodyPost_ret (results_none rfl _ _ _) rfl ?_
               exact ⟨⟨_, rfl⟩, .inr ⟨_, _, HK.out HQ.out, HD.out.2 (by first | rfl | trivial)⟩⟩)
            | go_roundw
          all_goals first
            | exact ⟨k + 1, by omega, by go_num, by rw [HN.out]; exact HD.out.1 (by first | rfl | trivial)⟩
            | (simp [intOf]; omega)
        · have hb : (p == pid) = false := by simp [hq]
          have HN := Lib.hid (seen_no (G := G) (pid := pid) (m := k) (by unfold kidB; rw [ek, hx]; exact hb))
          clear hx HYD HK ek hq
          gi_wp2
          first | gi_region_with_o (first
            | (refine ⟨trivial, fun h => absurd h Bool.false_ne_true, ?_⟩; gi_at_call 12; refine (callsIn_wide.2 (HA.out _ HT.out)).mono ?_; rintro e w' ⟨rfl, rfl⟩)
            | (refine ⟨trivial, fun h => absurd h Bool.false_ne_true, ?_⟩; gi_at_call 14; refine (callsIn_wide.2 (HP.out _ HT.out)).mono ?_; rintro e w2 ⟨rfl, hu⟩; have hBp2 := hu.lt_old HBP.out; have HJ2 := Lib.hid (HG.out _ _ hu HJD.out); clear hu)
            | (refine ⟨trivial, ?_⟩)
            | (refine ⟨fun _ _ => trivial, ?_⟩)) | fail "region"
          all_goals gi_wp2
          all_goals go_roundw
          all_goals first
            | exact ⟨k + 1, by omega, by go_num, by rw [HN.out]; exact HJ2.out⟩
            | (simp [intOf]; omega)
      | dead p s =>
        rw [hx] at HA HP
        unfold encP at HA
        unfold parP at HP
        by_cases hq : p = pid
        · have HQ := Lib.hid (show kidB (G (seen G pid k)) pid (k + 1) = true by unfold kidB; rw [ek, hx]; simp [hq])
          have HN := Lib.hid (seen_yes HQ.out)
          subst hq
          clear hx ek
          gi_wp2
          first | gi_region_with_o (first
            | (refine ⟨trivial, fun h => absurd h Bool.false_ne_true, ?_⟩; gi_at_call 12; refine (callsIn_wide.2 (HA.out _ HT.out)).mono ?_; rintro e w' ⟨rfl, rfl⟩)
            | (refine ⟨trivial, fun h => absurd h Bool.false_ne_true, ?_⟩; gi_at_call 14; refine (callsIn_wide.2 (HP.out _ HT.out)).mono ?_; rintro e w2 ⟨rfl, hu⟩; have hBp2 := hu.lt_old HBP.out; have HJ2 := Lib.hid (HG.out _ _ hu HJD.out); obtain ⟨fn, tm, asg, bd, hy, hR⟩ := HYD.out HQ.out _ HJ2.out; clear hu)
            | (refine ⟨fun h => absurd h Bool.false_ne_true, ?_⟩; refine hR.mono ?_; rintro e B ⟨d, rfl, hd⟩)
            | (refine ⟨trivial, ?_⟩)
            | (refine ⟨fun _ _ => trivial, ?_⟩)) | fail "region"
          all_goals
            rename_i d hd
            have HD := Lib.hid hd
            clear hd
            rcases d with _ | _
          all_goals gi_wp2
          all_goals first
            | (refine bodyPost_ret (results_none rfl _ _ _) rfl ?_
               exact ⟨⟨_, rfl⟩, .inr ⟨_, _, HK.out HQ.out, HD.out.2 (by first | rfl | trivial)⟩⟩)
            | go_roundw
          all_goals first
            | exact ⟨k + 1, by omega, by go_num, by rw [HN.out]; exact HD.out.1 (by first | rfl | trivial)⟩
            | (simp [intOf]; omega)
        · have hb : (p == pid) = false := by simp [hq]
          have HN := Lib.hid (seen_no (G := G) (pid := pid) (m := k) (by unfold kidB; rw [ek, hx]; exact hb))
          clear hx HYD HK ek hq
          gi_wp2
          first | gi_region_with_o (first
            | (refine ⟨trivial, fun h => absurd h Bool.false_ne_true, ?_⟩; gi_at_call 12; refine (callsIn_wide.2 (HA.out _ HT.out)).mono ?_; rintro e w' ⟨rfl, rfl⟩)
            | (refine ⟨trivial, fun h => absurd h Bool.false_ne_true, ?_⟩; gi_at_call 14; refine (callsIn_wide.2 (HP.out _ HT.out)).mono ?_; rintro e w2 ⟨rfl, hu⟩; have hBp2 := hu.lt_old HBP.out; have HJ2 := Lib.hid (HG.out _ _ hu HJD.out); clear hu)
            | (refine ⟨trivial, ?_⟩)
            | (refine ⟨fun _ _ => trivial, ?_⟩)) | fail "region"
          all_goals gi_wp2
          all_goals go_roundw
          all_goals first
            | exact ⟨k + 1, by omega, by go_num, by rw [HN.out]; exact HJ2.out⟩
            | (simp [intOf]; omega)
    · obtain rfl : k = 5 := by omega
      gi_wp2
      go_end0
      exact ⟨⟨_, rfl⟩, .inl ⟨_, rfl, HJ.out⟩⟩

end Go.Proofs.Ytogiegehkhnlmaa
