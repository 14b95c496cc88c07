/- The walk of the statement on waiting. -/
import Derived.Test.YtocmochdgidcmaaProcOpen
namespace Go.Proofs.Ytocmochdgidcmaa
open Go.RowKit

theorem seen_nodup (T : List PS) (pid : Int) : ∀ m, (seen (fun _ => T) pid m).Nodup := by
  intro m
  induction m with
  | zero => exact List.nodup_nil
  | succ m ih =>
    unfold seen
    split
    · rw [List.nodup_append]
      refine ⟨ih, by simp, fun a ha b hb => ?_⟩
      have := seen_mem ha
      simp at hb
      omega
    · exact ih
theorem seen_less {T : List PS} (hl : T.length = 6) {pid : Int} {x : Nat} (hx : x < 6) : ∀ m, seen (fun _ => T.set x .none) pid m = (seen (fun _ => T) pid m).filter (fun y => decide (y ≠ x)) := by
  intro m
  induction m with
  | zero => rfl
  | succ m ih =>
    have hk : kidB (T.set x .none) pid (m + 1) = (if m + 1 = x then false else kidB T pid (m + 1)) := by
      have := getP_set hl (k := m + 1) hx .none
      unfold kidB
      rw [this]
      by_cases h : m + 1 = x
      · rw [if_pos h, if_pos h]
      · rw [if_neg h, if_neg h]
    by_cases h : m + 1 = x
    · rw [if_pos h] at hk
      rw [seen_no hk, ih]
      cases hb : kidB T pid (m + 1) with
      | true => rw [seen_yes hb, List.filter_append]; simp [h]
      | false => rw [seen_no hb]
    · rw [if_neg h] at hk
      cases hb : kidB T pid (m + 1) with
      | true => rw [seen_yes (G := fun _ => T) hb, seen_yes (G := fun _ => T.set x .none) (hk.trans hb), List.filter_append, ih]; simp [h]
      | false => rw [seen_no (G := fun _ => T) hb, seen_no (G := fun _ => T.set x .none) (hk.trans hb), ih]

def deads (T : List PS) (pid : Int) : List Nat := (kids T pid).filter (deadB T)
theorem deads_find (T : List PS) (pid : Int) : waitF T pid = (deads T pid).head? := by
  unfold waitF deads
  rw [List.head?_filter]
theorem deads_step {T : List PS} (hl : T.length = 6) {pid p : Int} (hp : getP T pid = .liv p) {x : Nat} {ds : List Nat} (h : deads T pid = x :: ds) :
    1 ≤ x ∧ x ≤ 5 ∧ waitE T pid = 0 ∧ waitA T pid = x ∧ waitS T pid = statP (getP T (x : Int)) ∧ waitT T pid = T.set x .none ∧
    getP (T.set x .none) pid = .liv p ∧ getP (T.set x .none) (x : Int) = .none ∧ deads (T.set x .none) pid = ds ∧ (kids (T.set x .none) pid).length + 1 = (kids T pid).length := by
  have hf : waitF T pid = some x := by rw [deads_find, h]; rfl
  obtain ⟨x1, x5, hd⟩ := waitF_spec hf
  obtain ⟨q, s, hq⟩ := deadB_dead hd
  have hx6 : x < 6 := by omega
  obtain ⟨g0, g1⟩ := getP_some hl (i := pid) (by rw [hp]; intro h; cases h)
  obtain ⟨n, rfl⟩ : ∃ n : Nat, pid = n := ⟨pid.toNat, by omega⟩
  have hne : n ≠ x := by rintro rfl; rw [hp] at hq; cases hq
  have hk : kids (T.set x .none) (n : Int) = (kids T (n : Int)).filter (fun y => decide (y ≠ x)) := seen_less hl hx6 5
  have hmem : x ∈ deads T (n : Int) := by rw [h]; simp
  have hmk : x ∈ kids T (n : Int) := (List.mem_filter.1 hmem).1
  have hnd : (kids T (n : Int)).Nodup := seen_nodup T _ 5
  refine ⟨x1, x5, ?_, ?_, ?_, ?_, ?_, ?_, ?_, ?_⟩
  · simp [waitE, hp, hf]
  · simp [waitA, hp, hf]
  · simp [waitS, hp, hf]
  · simp [waitT, hp, hf]
  · rw [getP_set hl hx6, if_neg hne]; exact hp
  · rw [getP_set hl hx6, if_pos rfl]
  · unfold deads
    rw [hk, List.filter_filter]
    have e1 : (kids T (n : Int)).filter (fun a => deadB (T.set x .none) a && decide (a ≠ x)) = (deads T (n : Int)).filter (fun y => decide (y ≠ x)) := by
      unfold deads
      rw [List.filter_filter]
      apply List.filter_congr
      intro a _
      by_cases ha : a = x
      · simp [ha]
      · have : deadB (T.set x .none) a = deadB T a := by unfold deadB; rw [getP_set hl hx6, if_neg ha]
        rw [this, Bool.and_comm]
    rw [e1, h, List.filter_cons_of_neg (by simp)]
    have hnd2 : (x :: ds).Nodup := by rw [← h]; exact hnd.filter _
    have hxd : x ∉ ds := (List.nodup_cons.1 hnd2).1
    rw [List.filter_eq_self]
    intro a ha
    simp
    rintro rfl
    exact hxd ha
  · rw [hk]
    have e2 : (kids T (n : Int)).filter (fun y => decide (y ≠ x)) = (kids T (n : Int)).erase x := by
      rw [hnd.erase_eq_filter]
      apply List.filter_congr
      intro a _
      by_cases ha : a = x <;> simp [ha]
    rw [e2, List.length_erase_of_mem hmk]
    have := List.length_pos_of_mem hmk
    omega
theorem deads_end {T : List PS} {pid p : Int} (hp : getP T pid = .liv p) (h : deads T pid = []) : waitE T pid = (if (kids T pid).length = 0 then 3 else 12) := by
  have hf : waitF T pid = none := by rw [deads_find, h]; rfl
  simp [waitE, hp, hf, List.length_eq_zero_iff]

set_option maxRecDepth 100000 in
set_option maxHeartbeats 4000000 in
theorem once_any (A : Option Addr) (len cap : Nat) (u : Nat) (w : World) (hd : Deeds w A len) (hlen : len ≤ 9223372036854775807) (hu8 : u < 256) :
    Calls Try.prog 4 #[.slice A len cap, .int .u8 (u : Int)] w (TruePost w) := by
  have HD := Lib.hid hd
  clear hd
  go_enter Try.func4, Try.ntmps4
  go_wp2_with fail
  refine (play_any A len cap _ HD.out hlen).mono ?_; rintro e w1 ⟨t, r, T, rfl, hb, hu, ht0, _⟩
  have HB := Lib.hid hb
  have HU := Lib.hid hu
  clear hb hu HD
  go_wp2_with fail
  refine (live_any _).mono ?_; rintro e w2 ⟨rfl, hu2⟩
  have HT := Lib.hid (HB.out.tab.upd hu2 (by simp))
  have HU2 := Lib.hid (HU.out.trans0 hu2)
  clear hu2 HU HB
  go_wp2_with fail
  obtain ⟨pid, hpid⟩ : ∃ pid : Nat, (u : Int) % 6 = (pid : Int) := ⟨u % 6, by omega⟩
  have hp6 : pid < 6 := by omega
  rw [hpid]
  clear hpid
  have HC := Lib.hid (pchildren_any t T (pid : Int) _ HT.out)
  have HL5 : Hid ((kidsOf T (pid : Int)).length ≤ 5) := Lib.hid (by
    unfold kidsOf
    split
    · simp
    · exact seen_le _ _ 5)
  have HKO : Hid (∀ p, getP T (pid : Int) = .liv p → kidsOf T (pid : Int) = kids T (pid : Int)) := Lib.hid (fun p h => by unfold kidsOf; rw [h])
  generalize kidsOf T (pid : Int) = ks at *
  refine HC.out.mono ?_; rintro e w3 ⟨v3, rfl, hown, hu3⟩
  rw [ints_nums] at hown
  obtain ⟨A3, c3, rfl, hle3, hrd3, _⟩ := RdV.of_own hown
  have HT3 := Lib.hid (HT.out.upd hu3 (by simp))
  have HU3 := Lib.hid (HU2.out.trans0 hu3)
  have HR3 := Lib.hid hrd3
  have hl5 := HL5.out
  clear hown hu3 hrd3 HC HT HU2
  go_wp2_with fail
  go_loopw [9, 11] (fun v vi W => ∃ i : Nat, i ≤ ks.length ∧ vi = .int .i64 (i : Int) ∧ W.ownsRow w3.heap.size 3 1 v ((ks.take i).filter (deadB T)).length (ints ((ks.take i).filter (deadB T))) ∧ Upd [] w3 W) (fun _ vi _ => ks.length - (intOf vi).toNat)
  case atStart => exact ⟨0, by omega, rfl, by simpa [ints] using World.ownsRow_nil w3 w3.heap.size 3 1, Upd.refl _ _⟩
  case round =>
    obtain ⟨i, hi, rfl, hown, hu⟩ := hrel
    have HO := Lib.hid hown
    have HV := Lib.hid hu
    have HT4 := Lib.hid (HT3.out.upd hu (by simp))
    have HR4 := Lib.hid (HR3.out.upd hu (by simp))
    clear hown hu
    by_cases hil : i < ks.length
    · obtain ⟨b, o, rfl, hsrc⟩ := HR4.out (by simp [nums_length]; omega)
      obtain ⟨x, hx⟩ : ∃ x, ks[i]? = some x := ⟨_, List.getElem?_eq_getElem hil⟩
      have hrd := hsrc i (.int .i64 (x : Int)) (by simp [nums, hx])
      have j0 : (0 : Int) ≤ (i : Int) := by omega
      have j1 : (i : Int) < (ks.length : Int) := by omega
      have HS := Lib.hid (state_any t T (x : Int) _ HT4.out)
      have HTK := Lib.hid (show (ks.take (i + 1)).filter (deadB T) = (ks.take i).filter (deadB T) ++ (if deadB T x = true then [x] else []) by
        rw [List.take_add_one, hx, List.filter_append]
        cases hdx : deadB T x <;> simp [hdx])
      have HLL : Hid (((ks.take i).filter (deadB T)).length ≤ 5) := Lib.hid (by
        have h1 := List.length_filter_le (deadB T) (ks.take i)
        have h2 := List.length_take_le i ks
        omega)
      have hsz := HV.out.size
      clear hsrc hx
      by_cases hdd : deadB T x = true
      · rw [if_pos hdd] at HTK
        have hst : stP (getP T (x : Int)) = 2 := by simpa [deadB] using hdd
        rw [hst] at HS
        clear hdd hst
        obtain ⟨i0, hi0, hz, hsi, hb⟩ := info_parts info_int
        have HI := Lib.hid hi0
        clear hi0
        go_wp2_with fail
        refine HS.out.mono ?_; rintro e w' ⟨rfl, rfl⟩
        go_wp2_with (at_builtin; refine wpList_append_own_at _ rfl _ _ 31 rfl w3.heap.size 3 i0 (.int .i64 0) 1 8 under_ints HI.out hz hsi hb rfl (by decide) _ _ _ rfl (HO.out.alloc _) ⟨wr.heap.size, 0, none⟩ 1 1 [.int .i64 (x : Int)] rfl rfl (cell_one_new _ _ _) (by simp [Value.oneCell']) (by have := HLL.out; unfold maxLen; omega) (by have := HLL.out; omega) (by simp; omega) ?_; intro v' w5 hown' hgrow hnil hat)
        have hfin : w5.ownsRow w3.heap.size 3 1 v' ((ks.take (i + 1)).filter (deadB T)).length (ints ((ks.take (i + 1)).filter (deadB T))) := by
          rw [HTK.out]
          simpa [ints] using hown'
        have hup : Upd [] w3 w5 := ((HV.out.alloc _).grown hgrow (S := []) (fun j hj => .inr (HO.out.lt j hj).1))
        have HF := Lib.hid hfin
        have HP := Lib.hid hup
        clear hown' hgrow hfin hup hat hnil
        go_wp2_with fail
        go_roundw
        case rel => exact ⟨i + 1, by omega, by go_num, HF.out, HP.out⟩
        case measure => simp [intOf]; omega
      · rw [if_neg hdd, List.append_nil] at HTK
        have hb1 : ((stP (getP T (x : Int)) : Int) == 2) = false := by
          rw [beq_eq_false_iff_ne]
          intro h
          exact hdd (by simp [deadB]; omega)
        generalize stP (getP T (x : Int)) = q at *
        clear hdd
        go_wp2_with fail
        refine HS.out.mono ?_; rintro e w' ⟨rfl, rfl⟩
        go_wp2_with fail
        go_roundw
        case rel => exact ⟨i + 1, by omega, by go_num, by rw [HTK.out]; exact HO.out, HV.out⟩
        case measure => simp [intOf]; omega
    · obtain rfl : i = ks.length := by omega
      have HS := Lib.hid (state_any t T (pid : Int) _ HT4.out)
      have HU4 := Lib.hid (HU3.out.trans0 HV.out)
      have HW := Lib.hid (wait_any t T (pid : Int) _ HT4.out)
      have ho := HO.out
      rw [List.take_of_length_le (Nat.le_refl _), ints_nums] at ho
      obtain ⟨A4, c4, rfl, hle4, hrd4, hlo4⟩ := RdV.of_own ho
      have htl := HT3.out.1.lt
      have HRD : Hid (RdV wr A4 ((nums (ks.filter (deadB T))).map (Value.int .i64)) ∧ ∀ b o, A4 = some ⟨b, o, none⟩ → b ≠ t) := Lib.hid ⟨hrd4, fun b o h => by have := (hlo4 b o h).1; omega⟩
      clear ho hrd4 hlo4 HO HT3 HU3 HV
      cases hx : getP T (pid : Int) with
      | none =>
        rw [hx] at HS
        unfold stP at HS
        have HE := Lib.hid (show waitE T (pid : Int) = 5 by simp [waitE, hx])
        rw [HE.out] at HW
        generalize waitA T (pid : Int) = a1 at *
        generalize waitS T (pid : Int) = a2 at *
        clear hx
        go_wp2_with fail
        refine HS.out.mono ?_; rintro e w' ⟨rfl, rfl⟩
        go_wp2_with fail
        refine HW.out.mono ?_; rintro e w5 ⟨rfl, hm5, hu5⟩
        have HU5 := Lib.hid (HU4.out.trans hu5 (fun s hs => .inr (by simp at hs; omega)))
        clear hm5 hu5
        go_wp2_with fail
        go_ret
        exact ⟨by simp, HU5.out⟩
      | dead p s =>
        rw [hx] at HS
        unfold stP at HS
        have HE := Lib.hid (show waitE T (pid : Int) = 5 by simp [waitE, hx])
        rw [HE.out] at HW
        generalize waitA T (pid : Int) = a1 at *
        generalize waitS T (pid : Int) = a2 at *
        clear hx
        go_wp2_with fail
        refine HS.out.mono ?_; rintro e w' ⟨rfl, rfl⟩
        go_wp2_with fail
        refine HW.out.mono ?_; rintro e w5 ⟨rfl, hm5, hu5⟩
        have HU5 := Lib.hid (HU4.out.trans hu5 (fun s hs => .inr (by simp at hs; omega)))
        clear hm5 hu5
        go_wp2_with fail
        go_ret
        exact ⟨by simp, HU5.out⟩
      | liv p =>
        rw [hx] at HS
        unfold stP at HS
        have HK := Lib.hid (HKO.out p hx)
        have HX := Lib.hid hx
        clear hx HW
        have HDS := Lib.hid (show deads T (pid : Int) = ks.filter (deadB T) by unfold deads; rw [HK.out])
        have HDL : Hid ((ks.filter (deadB T)).length ≤ ks.length) := Lib.hid (List.length_filter_le _ _)
        generalize ks.filter (deadB T) = ds at *
        go_wp2_with fail
        refine HS.out.mono ?_; rintro e w' ⟨rfl, rfl⟩
        go_wp2_with fail
        go_loopw [15] (fun v W => ∃ (i : Nat) (Ti : List PS), i ≤ ds.length ∧ v = .int .i64 (i : Int) ∧ TabAt W t Ti ∧ getP Ti (pid : Int) = .liv p ∧ deads Ti (pid : Int) = ds.drop i ∧ (kids Ti (pid : Int)).length + i = ks.length ∧ Upd [] w W ∧ RdV W A4 ((nums ds).map (Value.int .i64))) (fun v _ => ds.length - (intOf v).toNat)
        case atStart => exact ⟨0, T, by omega, rfl, HT4.out, HX.out, by rw [HDS.out]; rfl, by rw [HK.out]; rfl, HU4.out, HRD.out.1⟩
        case round =>
          obtain ⟨i, Ti, hi, rfl, ht, hx, hds, hkl, hu, hrd⟩ := hrel
          have HTi := Lib.hid ht
          have HXi := Lib.hid hx
          have HUi := Lib.hid hu
          have HKL := Lib.hid hkl
          have HRi := Lib.hid hrd
          have hdl := HDL.out
          by_cases hil : i < ds.length
          · obtain ⟨b, o, rfl, hsrc⟩ := hrd (by simp [nums_length]; omega)
            obtain ⟨x, hxx⟩ : ∃ x, ds[i]? = some x := ⟨_, List.getElem?_eq_getElem hil⟩
            have hc := hsrc i (.int .i64 (x : Int)) (by simp [nums, hxx])
            have hbt : b ≠ t := HRD.out.2 b o rfl
            have j0 : (0 : Int) ≤ (i : Int) := by omega
            have j1 : (i : Int) < (ds.length : Int) := by omega
            have hdd : deads Ti (pid : Int) = x :: ds.drop (i + 1) := by
              rw [hds, List.drop_eq_getElem_cons hil]
              rw [List.getElem?_eq_getElem hil] at hxx
              injection hxx with hxx
              rw [hxx]
            obtain ⟨x1, x5, s1, s2, s3, s4, s5, s6, s7, s8⟩ := deads_step ht.2 hx hdd
            have HZ := Lib.hid (status_any t Ti (x : Int) _ ht)
            have HW := Lib.hid (fun W h => wait_any t Ti (pid : Int) W h)
            rw [s1, s2, s3, s4] at HW
            have HS6 := Lib.hid (fun W h => state_any t (Ti.set x .none) (x : Int) W h)
            rw [s6] at HS6
            unfold stP at HS6
            have H5 := Lib.hid s5
            have H7 := Lib.hid s7
            have H8 := Lib.hid s8
            generalize statP (getP Ti (x : Int)) = z at *
            generalize Ti.set x .none = Tn at *
            have hxb : ((x : Int) != (x : Int)) = false := by simp
            have hzb : (z != z) = false := by simp
            have htl2 := ht.1.lt
            have hcr : Hid (∀ W', Upd [t] wr W' → W'.cell? ⟨b, o + i, none⟩ = some (.int .i64 (x : Int))) := Lib.hid (fun W' hu' => hu'.cellAt hc (by simpa using hbt))
            clear hsrc hxx hdd s1 s2 s3 s4 s5 s6 s7 s8 ht hx hds hkl hu hrd
            go_wp2_with fail
            refine HZ.out.mono ?_; rintro e w5 ⟨rfl, hu5⟩
            have HT5 := Lib.hid (HTi.out.upd hu5 (by simp))
            have HU5 := Lib.hid (HUi.out.trans0 hu5)
            have HR5 := Lib.hid (HRi.out.upd hu5 (by simp))
            have HV5 := Lib.hid (hu5.zero [t])
            clear hu5
            go_wp2_with fail
            refine (HW.out _ HT5.out).mono ?_; rintro e w6 ⟨rfl, hm6, hu6⟩
            have HT6 := Lib.hid hm6
            have hc6 := hcr.out _ (HV5.out.trans' hu6)
            have HR6 := Lib.hid (HR5.out.upd hu6 (fun _ b o h => by
              have := HRD.out.2 b o h
              simpa using this))
            have HU6 := Lib.hid (HU5.out.trans hu6 (fun s hs => .inr (by simp at hs; omega)))
            clear hm6 hu6
            go_wp2_with fail
            refine (HS6.out _ HT6.out).mono ?_; rintro e w' ⟨rfl, rfl⟩
            go_wp2_with fail
            go_roundw
            case rel => exact ⟨i + 1, Tn, by omega, by go_num, HT6.out, H5.out, H7.out, by have := H8.out; have := HKL.out; omega, HU6.out, HR6.out⟩
            case measure => simp [intOf]; omega
          · obtain rfl : i = ds.length := by omega
            have hdd : deads Ti (pid : Int) = [] := by rw [hds, List.drop_length]
            have HE := Lib.hid (deads_end hx hdd)
            have HW := Lib.hid (wait_any t Ti (pid : Int) _ ht)
            have hll := HDL.out
            have htl2 := ht.1.lt
            have hl5' := HL5.out
            generalize waitA Ti (pid : Int) = a1 at *
            generalize waitS Ti (pid : Int) = a2 at *
            generalize waitE Ti (pid : Int) = a3 at *
            clear hdd ht hx hds hkl hu hrd
            have hkl := HKL.out
            have he := HE.out
            by_cases hz : (kids Ti (pid : Int)).length = 0
            · rw [if_pos hz] at he
              subst he
              have hq : ((ds.length : Int) == (ks.length : Int)) = true := by rw [beq_iff_eq]; omega
              clear hz hkl
              go_wp2_with fail
              refine HW.out.mono ?_; rintro e w5 ⟨rfl, hm5, hu5⟩
              have HU5 := Lib.hid (HUi.out.trans hu5 (fun s hs => .inr (by simp at hs; omega)))
              clear hm5 hu5
              go_wp2_with fail
              go_ret
              exact ⟨by simp, HU5.out⟩
            · rw [if_neg hz] at he
              subst he
              have hq : (ds.length : Int) < (ks.length : Int) := by omega
              clear hz hkl
              go_wp2_with fail
              refine HW.out.mono ?_; rintro e w5 ⟨rfl, hm5, hu5⟩
              have HU5 := Lib.hid (HUi.out.trans hu5 (fun s hs => .inr (by simp at hs; omega)))
              clear hm5 hu5
              go_wp2_with fail
              go_ret
              exact ⟨by simp, HU5.out⟩

end Go.Proofs.Ytocmochdgidcmaa
