/- slices.DeleteFunc: the walk. -/
import Derived.Test.YtefjppebohnmjaaTlbD
namespace Go.Proofs.Ytefjppebohnmjaa
open Go.RowKit Go.Shelf

theorem findIdx_spec {α : Type} (p : α → Bool) : ∀ (l : List α) (j : Nat), l.findIdx? p = some j → ∃ x, l[j]? = some x ∧ p x = true ∧ ∀ y, y ∈ l.take j → p y = false := by
  intro l
  induction l with
  | nil => intro j h; simp at h
  | cons a l ih =>
    intro j h
    rw [List.findIdx?_cons] at h
    cases ha : p a with
    | true =>
      rw [ha] at h
      simp at h
      subst h
      exact ⟨a, by simp, ha, by simp⟩
    | false =>
      rw [ha] at h
      cases hq : l.findIdx? p with
      | none => rw [hq] at h; simp at h
      | some k =>
        rw [hq] at h
        simp at h
        subst h
        obtain ⟨x, h1, h2, h3⟩ := ih k hq
        refine ⟨x, by simpa using h1, h2, ?_⟩
        intro y hy
        simp at hy
        rcases hy with rfl | hy
        · exact ha
        · exact h3 y hy

set_option maxRecDepth 100000 in
set_option maxHeartbeats 4000000 in
theorem deleteFunc_any (gf : Nat) (lb : Array Value) (pr : Mp → Bool) (C : World → Prop) (hP : Pred gf lb pr C) (gb cap : Nat) (L : List Mp) (w : World) (hK : ∀ W W', C W → Upd [gb] W W' → C W') (h : RowAt w gb cap L) (hC : C w) (hl : L.length ≤ 1000) :
    Calls Try.prog 43 #[.slice (some ⟨gb, 0, none⟩) L.length cap, .func (.func gf) #[] lb] w fun e w' =>
      e = .returned (.slice (some ⟨gb, 0, none⟩) (keepL pr L).length cap) ∧ RowAt w' gb cap (keepL pr L) ∧ Upd [gb] w w' ∧ C w' := by
  have eg := hP.eg
  have HI := Lib.hid (indexFunc_any gf lb pr C hP (some ⟨gb, 0, none⟩) cap L w hC h.reads hl)
  have HP := Lib.hid hP
  have HK := Lib.hid hK
  have HR := Lib.hid h
  have hcap : L.length ≤ cap := by obtain ⟨_, _, h1, _⟩ := h; exact h1
  have hcm : cap ≤ maxLen := by obtain ⟨_, _, _, h1, _⟩ := h; exact h1
  unfold maxLen at hcm
  clear h hP hK hC
  cases hq : L.findIdx? pr with
  | none =>
    have e1 : idx pr L = -1 := by unfold idx; rw [hq]
    have e2 : keepL pr L = L := keepL_same (List.findIdx?_eq_none_iff.1 hq)
    rw [e2]
    rw [e1] at HI
    clear e1 e2 hq
    generalize L.length = n at *
    go_enter Try.func43, Try.ntmps43
    go_wp2_with fail
    refine HI.out.mono ?_; rintro e w1 ⟨rfl, hu, hc⟩
    have HU := Lib.hid hu
    have HC := Lib.hid hc
    clear hu hc
    go_wp2_with fail
    go_ret
    exact ⟨by simp, HR.out.upd HU.out (by simp), HU.out.zero _, HC.out⟩
  | some i =>
    have e1 : idx pr L = (i : Int) := by unfold idx; rw [hq]
    obtain ⟨m, hm, hpm, hno⟩ := findIdx_spec pr L i hq
    have hil : i < L.length := (List.getElem?_eq_some_iff.1 hm).1
    have HM0 := Lib.hid (Mid.start HR.out hm hno hpm)
    have HL0 : Hid ((keepL pr (L.take (i + 1))).length = i) := Lib.hid (by
      rw [keepL_take hm, hpm, if_pos rfl, List.append_nil, keepL_same hno, List.length_take, Nat.min_eq_left (by omega)])
    rw [e1] at HI
    clear e1 hm hpm hno hq HR
    generalize hn : L.length = n at *
    have HN := Lib.hid hn
    clear hn
    have ib : ((i : Int) == -1) = false := by rw [beq_eq_false_iff_ne]; omega
    go_enter Try.func43, Try.ntmps43
    go_wp2_with fail
    refine HI.out.mono ?_; rintro e w1 ⟨rfl, hu, hc⟩
    have HU := Lib.hid (hu.zero [gb])
    have HC := Lib.hid hc
    have HM1 := Lib.hid (HM0.out.upd hu (by simp))
    clear hu hc HM0 HI
    go_wp2_with fail
    go_loopw [5, 6] (fun vi vj W => ∃ i j : Nat, i < j ∧ j ≤ n ∧ vi = .int .i64 (i : Int) ∧ vj = .int .i64 (j : Int) ∧ Mid W gb cap L pr i j ∧ (keepL pr (L.take j)).length = i ∧ C W ∧ Upd [gb] w W) (fun _ vj _ => n - (intOf vj).toNat)
    case atStart => exact ⟨i, i + 1, by omega, by omega, rfl, by go_num, HM1.out, HL0.out, HC.out, HU.out⟩
    case round =>
      obtain ⟨i', j, hij, hjn, rfl, rfl, hmid, hlen, hc, hu⟩ := hrel
      have HM := Lib.hid hmid
      have HLN := Lib.hid hlen
      have HCr := Lib.hid hc
      have HUr := Lib.hid hu
      clear hlen hc hu
      by_cases hlt : j < n
      · obtain ⟨m, hm⟩ : ∃ m, L[j]? = some m := ⟨_, List.getElem?_eq_getElem (by rw [HN.out]; exact hlt)⟩
        have hra := hmid.range hm
        have hr9 := rangeAt_new wr 24 (encM m)
        have HSZ := Lib.hid (show (Try.prog.info? 24).map (·.size) = some (encM m).length from info_map)
        have HXM := Lib.hid hm
        have H1 : Hid ((encM m).toArray.all (·.oneCell') = true) := Lib.hid (by simp [encM, Value.oneCell'])
        have j0 : (0 : Int) ≤ (j : Int) := by omega
        have j1 : (j : Int) < (n : Int) := by omega
        have HCALL := Lib.hid (HP.out.call (wr.alloc (.cells (encM m).toArray 24)) m (HP.out.keep _ _ HCr.out ((Upd.refl [] wr).alloc _)))
        have HC2 := Lib.hid (HP.out.keep wr (wr.alloc (.cells (encM m).toArray 24)) HCr.out ((Upd.refl [] wr).alloc _))
        clear hm hmid
        go_wp2_with (first
          | (refine wpList_load_midg rfl 24 _ rfl gb (j * 4) rfl _ _ hra under_map rfl HSZ.out ?_)
          | (refine wpList_store_new rfl 24 _ _ rfl _ rfl rfl 24 _ (by rw [List.size_toArray]; exact HSZ.out) (show 4 = (encM m).toArray.size from rfl) H1.out ?_)
          | (refine wpList_load_midg rfl 24 _ rfl wr.heap.size 0 rfl _ _ hr9 under_map rfl HSZ.out ?_))
        refine HCALL.out.mono ?_; rintro e w3 ⟨rfl, hu3⟩
        have HU3 := Lib.hid ((HUr.out.alloc (.cells (encM m).toArray 24)).trans0 hu3)
        have HC3 := Lib.hid (HP.out.keep _ _ HC2.out hu3)
        have HM3 := Lib.hid ((HM.out.upd ((Upd.refl [] wr).alloc (.cells (encM m).toArray 24)) (by simp)).upd hu3 (by simp))
        have hr10 : w3.rangeAt wr.heap.size 0 (encM m) := fun x v hv => hu3.lt_old (hr9 x v hv)
        clear hr9 hra hu3 HCALL HC2 HM HUr HCr H1
        cases hq : pr m with
        | true =>
          have HMS := Lib.hid (HM3.out.skip HXM.out hq)
          have HLS : Hid ((keepL pr (L.take (j + 1))).length = i') := Lib.hid (by rw [keepL_take HXM.out, hq, if_pos rfl, List.append_nil]; exact HLN.out)
          clear hq hr10
          go_wp2_with fail
          go_roundw
          case rel => exact ⟨i', j + 1, by omega, by omega, by first | rfl | trivial, by go_num, HMS.out, HLS.out, HC3.out, HU3.out⟩
          case measure => simp [intOf]; omega
        | false =>
          have HMS := Lib.hid (HM3.out.keep HXM.out hq hij (by rw [HN.out]; exact hcap))
          have HLS : Hid ((keepL pr (L.take (j + 1))).length = i' + 1) := Lib.hid (by rw [keepL_take HXM.out, hq, List.length_append, HLN.out]; rfl)
          obtain ⟨cur, hb3, hl3, _, _⟩ := HM3.out.ex
          have hcell : ∀ x, x < 4 → ∃ v, w3.cell? ⟨gb, i' * 4 + x, none⟩ = some v := fun x hx => ⟨_, hb3.cellAt (i := i' * 4 + x) (by rw [List.getElem?_toArray]; exact List.getElem?_eq_getElem (by omega))⟩
          obtain ⟨v0, c0⟩ := hcell 0 (by omega)
          obtain ⟨v1, c1⟩ := hcell 1 (by omega)
          obtain ⟨v2, c2⟩ := hcell 2 (by omega)
          obtain ⟨v3, c3⟩ := hcell 3 (by omega)
          rw [Nat.add_zero] at c0
          have f0 := hb3.frozen (i' * 4)
          have f1 := hb3.frozen (i' * 4 + 1)
          have f2 := hb3.frozen (i' * 4 + 2)
          have f3 := hb3.frozen (i' * 4 + 3)
          have k0 : (0 : Int) ≤ (i' : Int) := by omega
          have k1 : (i' : Int) < (n : Int) := by omega
          have HU4 := Lib.hid ((((HU3.out.setCell (p := ⟨gb, i' * 4, none⟩) (by simp) (.int .u8 m.a)).setCell (p := ⟨gb, i' * 4 + 1, none⟩) (by simp) (.int .u8 m.p)).setCell (p := ⟨gb, i' * 4 + 2, none⟩) (by simp) (.int .u8 m.f)).setCell (p := ⟨gb, i' * 4 + 3, none⟩) (by simp) (.bool m.w))
          have HC4 := Lib.hid (HK.out _ _ HC3.out (((((Upd.refl [gb] w3).setCell (p := ⟨gb, i' * 4, none⟩) (by simp) (.int .u8 m.a)).setCell (p := ⟨gb, i' * 4 + 1, none⟩) (by simp) (.int .u8 m.p)).setCell (p := ⟨gb, i' * 4 + 2, none⟩) (by simp) (.int .u8 m.f)).setCell (p := ⟨gb, i' * 4 + 3, none⟩) (by simp) (.bool m.w)))
          clear hq hb3 hl3 hcell HM3 HC3 HU3
          unfold encM at *
          go_wp2_with (refine wpList_load_midg rfl 24 _ rfl wr.heap.size 0 rfl _ _ hr10 under_map rfl HSZ.out ?_)
          go_roundw
          case rel => exact ⟨i' + 1, j + 1, by omega, by omega, by go_num, by go_num, HMS.out, HLS.out, HC4.out, HU4.out⟩
          case measure => simp [intOf]; omega
      · obtain rfl : j = n := by omega
        have HKE : Hid (keepL pr L = keepL pr (L.take j)) := Lib.hid (by rw [List.take_of_length_le (by rw [HN.out]; exact Nat.le_refl _)])
        obtain ⟨cur, hb, h1, h2, _⟩ := hmid.ex
        obtain ⟨zs, hz, hcl⟩ := run_clear_row wr gb i' (j - i') (cap - i') cur hb (by omega) (by omega)
        have hci : cap ≠ i' := by omega
        have hci2 : i' ≠ cap := by omega
        have HFIN : Hid (RowAt (wr.setRow gb (cur.take (i' * 4) ++ zs ++ cur.drop (i' * 4 + zs.length)).toArray) gb cap (keepL pr L)) := Lib.hid (by
          rw [HKE.out]
          refine ⟨_, hb.row _, by rw [HLN.out]; omega, by unfold maxLen; exact hcm, by simp; omega, ?_⟩
          rw [HLN.out, List.append_assoc, List.take_append_of_le_length (by simp; omega), List.take_take, Nat.min_self]
          exact h2)
        have HU5 := Lib.hid (HUr.out.setRow (g := gb) (by simp) (cur.take (i' * 4) ++ zs ++ cur.drop (i' * 4 + zs.length)).toArray)
        have HC5 := Lib.hid (HK.out _ _ HCr.out ((Upd.refl [gb] wr).setRow (g := gb) (by simp) (cur.take (i' * 4) ++ zs ++ cur.drop (i' * 4 + zs.length)).toArray))
        have HLF : Hid ((keepL pr L).length = i') := Lib.hid (by rw [HKE.out]; exact HLN.out)
        generalize (cur.take (i' * 4) ++ zs ++ cur.drop (i' * 4 + zs.length)).toArray = cs at *
        have k0 : (0 : Int) ≤ (i' : Int) := by omega
        have k1 : (i' : Int) ≤ (j : Int) := by omega
        have k2 : (i' : Int) ≤ (cap : Int) := by omega
        have k3 : (j : Int) ≤ (cap : Int) := by omega
        clear hmid hb h1 h2 hz
        go_wp2_with fail
        go_ret
        rw [HLF.out]
        exact ⟨by simp, HFIN.out, HU5.out, HC5.out⟩

end Go.Proofs.Ytefjppebohnmjaa
