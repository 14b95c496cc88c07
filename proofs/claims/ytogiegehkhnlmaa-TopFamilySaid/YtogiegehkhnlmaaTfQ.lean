/- The program's Exit and Kill. -/
import Derived.Test.YtogiegehkhnlmaaTfP
import Derived.Test.YtogiegehkhnlmaaTfT
namespace Go.Proofs.Ytogiegehkhnlmaa
open Go.RowKit Go.Shelf
attribute [local go_sem] Oper.semAt_some

set_option maxRecDepth 100000 in
set_option maxHeartbeats 4000000 in
theorem exit_any (t : Nat) (T : List PS) (pid s : Int) (w : World) (h : TabAt w t T) :
    Calls Try.prog 6 #[.pointer (some ⟨t, 0, none⟩), .int .i64 pid, .int .i64 s] w fun e w' =>
      e = .returned (.int .i64 (exitE T pid)) ∧ TabAt w' t (exitT T pid s) ∧ Upd [t] w w' := by
  have HR := Lib.hid (fun W (hW : TabAt W t T) => runs_any t T pid W hW)
  have HT := Lib.hid h
  cases hp : getP T pid with
  | none =>
    rw [hp] at HR
    unfold runE runP at HR
    rw [show exitE T pid = 5 by simp [exitE, hp], show exitT T pid s = T by simp [exitT, hp]]
    clear hp h
    go_enter Try.func6, Try.ntmps6
    go_wp2_with fail
    have HA := Lib.hid (HT.out.upd ((Upd.refl [] w).alloc (.cells #[.pointer (some ⟨t, 0, none⟩)] 23)) (by simp))
    refine (HR.out _ HA.out).mono ?_; rintro e w1 ⟨rfl, hu⟩
    have HU := Lib.hid (((Upd.refl [] w).alloc (.cells #[.pointer (some ⟨t, 0, none⟩)] 23)).trans0 hu)
    clear hu
    go_wp2_with fail
    go_ret
    exact ⟨rfl, HT.out.upd (HU.out.alloc _) (by simp), (HU.out.alloc _).zero _⟩
  | dead p q =>
    rw [hp] at HR
    unfold runE runP at HR
    rw [show exitE T pid = 5 by simp [exitE, hp], show exitT T pid s = T by simp [exitT, hp]]
    clear hp h
    go_enter Try.func6, Try.ntmps6
    go_wp2_with fail
    have HA := Lib.hid (HT.out.upd ((Upd.refl [] w).alloc (.cells #[.pointer (some ⟨t, 0, none⟩)] 23)) (by simp))
    refine (HR.out _ HA.out).mono ?_; rintro e w1 ⟨rfl, hu⟩
    have HU := Lib.hid (((Upd.refl [] w).alloc (.cells #[.pointer (some ⟨t, 0, none⟩)] 23)).trans0 hu)
    clear hu
    go_wp2_with fail
    go_ret
    exact ⟨rfl, HT.out.upd (HU.out.alloc _) (by simp), (HU.out.alloc _).zero _⟩
  | liv p =>
    rw [hp] at HR
    unfold runE runP at HR
    by_cases hz : pid = 0
    · subst hz
      rw [show exitE T 0 = 7 by simp [exitE, hp], show exitT T 0 s = T by simp [exitT, hp]]
      clear hp h
      go_enter Try.func6, Try.ntmps6
      go_wp2_with fail
      have HA := Lib.hid (HT.out.upd ((Upd.refl [] w).alloc (.cells #[.pointer (some ⟨t, 0, none⟩)] 23)) (by simp))
      refine (HR.out _ HA.out).mono ?_; rintro e w1 ⟨rfl, hu⟩
      have HU := Lib.hid (((Upd.refl [] w).alloc (.cells #[.pointer (some ⟨t, 0, none⟩)] 23)).trans0 hu)
      clear hu
      go_wp2_with fail
      go_ret
      exact ⟨rfl, HT.out.upd (HU.out.alloc _) (by simp), (HU.out.alloc _).zero _⟩
    · have hz1 : (pid == 0) = false := by simp [hz]
      obtain ⟨g0, g1⟩ := getP_some h.2 (by rw [hp]; intro h; cases h)
      obtain ⟨i, rfl⟩ : ∃ i : Nat, pid = i := ⟨pid.toNat, by omega⟩
      have hi : i < 6 := by omega
      have hlt := h.1.lt
      rw [show exitE T (i : Int) = 0 by simp [exitE, hp]; omega, show exitT T (i : Int) s = orphTo (T.set i (.dead p s)) (i : Int) 5 by simp [exitT, hp]; intro h; omega]
      obtain ⟨T1, hT1⟩ : ∃ T1, T1 = T.set i (.dead p s) := ⟨_, rfl⟩
      rw [← hT1]
      have HT1E := Lib.hid hT1
      clear hp hz h hT1
      refine (callsIn_wide (n := 6)).1 ?_
      refine callsIn_of_wp_marks Try.func6 rfl trivial ?_ rfl
      simp only [Try.ntmps6, List.size_toArray, List.length_cons, List.length_nil, Nat.reduceAdd, Nat.reduceSub, Array.replicate_succ, Array.replicate_zero, List.push_toArray, List.append_toArray, List.nil_append, List.cons_append]
      gi_wp2_with fail
      have HA := Lib.hid (HT.out.upd ((Upd.refl [] w).alloc (.cells #[.pointer (some ⟨t, 0, none⟩)] 23)) (by simp))
      refine ⟨trivial, (callsIn_wide.2 (HR.out _ HA.out)).mono ?_⟩
      rintro e w1 ⟨rfl, hu⟩
      have hB0 := (Blk.new w 23 #[.pointer (some ⟨t, 0, none⟩)]).upd hu (by simp)
      have hc3 : w1.cell? ⟨w.heap.size, 0, none⟩ = some (.pointer (some ⟨t, 0, none⟩)) := hB0.cellAt (i := 0) rfl
      have hT1 := HA.out.upd hu (by simp)
      have c0 := hT1.cell (i := i) hi
      have f0 := hT1.1.frozen i
      have HTS : Hid (∀ W, TabAt W t T → TabAt (W.setCell ⟨t, i, none⟩ (.iface 43 (.agg #[.int .i64 p, .int .i64 s]))) t T1) := Lib.hid (fun W hW => by rw [HT1E.out]; exact hW.set i (.dead p s))
      have hs1 := hu.size
      simp only [World.size_alloc] at hs1
      have l1 : w.heap.size < w1.heap.size := by omega
      have l2 : t < w1.heap.size := by omega
      have HT1 := Lib.hid hT1
      have HU1 := Lib.hid (show Upd [t] w w1 from ((((Upd.refl [] w).alloc _).trans0 hu).zero [t]))
      have HB0 := Lib.hid hB0
      have i1 : (i : Int) < 6 := by omega
      have hmx : Try.prog.follows .mixedOrders = true := by kernel_rfl
      clear hB0 hT1 hu HR HA HT
      gi_wp2_with fail
      gi_region_o
      generalize hW2 : World.drew _ = W2
      have HT2 : Hid (TabAt W2 t T1) := Lib.hid (by
        rw [← hW2]
        have := (HTS.out _ HT1.out)
        exact ⟨this.1.alloc _, this.2⟩)
      have HU2 : Hid (Upd [t] w W2) := Lib.hid (by
        rw [← hW2]
        exact ((HU1.out.setCell (by simp) _).alloc _).drew)
      have HB2 : Hid (Blk W2 w.heap.size 23 #[.pointer (some ⟨t, 0, none⟩)]) := Lib.hid (by
        rw [← hW2]
        exact ((HB0.out.far (show w.heap.size ≠ t by omega) _).alloc _).drew)
      have hc3 : W2.cell? ⟨w.heap.size, 0, none⟩ = some (.pointer (some ⟨t, 0, none⟩)) := HB2.out.cellAt (i := 0) rfl
      clear hW2 HT1 HU1 HB0 c0 f0 HTS
      gi_wp2_with fail
      refine ⟨trivial, (children_in _ t _ _).mono ?_⟩
      rintro e w' ⟨rfl, rfl⟩
      gi_wp2_with fail
      have hKept : Kept w ((W2.alloc (.cells #[.pointer (some ⟨t, 0, none⟩)] 23)).alloc (.cells #[.int .i64 (i : Int)] 3)) t w.heap.size W2.heap.size (W2.heap.size + 1) (i : Int) T1 := by
        refine ⟨⟨(HT2.out.1.alloc _).alloc _, HT2.out.2⟩, (HB2.out.alloc _).alloc _, (Blk.new W2 _ _).alloc _, ?_, (HU2.out.alloc _).alloc _⟩
        have := Blk.new (W2.alloc (.cells #[.pointer (some ⟨t, 0, none⟩)] 23)) 3 #[.int .i64 (i : Int)]
        rwa [World.size_alloc] at this
      generalize hW3 : (W2.alloc _).alloc _ = W3 at hKept ⊢
      have HK3 := Lib.hid hKept
      clear hW3 hKept hc3 HT2 HU2 HB2
      generalize W2.heap.size = N2 at *
      as_aux_lemma =>
      refine rangeFunc_var 9 rfl (by omega) (gf := 13) (lb := #[.pointer (some ⟨N2, 0, none⟩), .pointer (some ⟨N2 + 1, 0, none⟩)]) rfl trivial (enters_of Try.func13 (by kernel_rfl) rfl)
        (iter_children _ t N2 (N2 + 1) (i : Int) (orphs T1) (fun pre W => Kept w W t w.heap.size N2 (N2 + 1) (i : Int) (orphs T1 pre))
          (fun pre A hA => ⟨hA.tab, hA.bt.cellAt (i := 0) rfl, hA.bp.cellAt (i := 0) rfl⟩))
        (Ix := fun _ _ => False) ?own (fun _ _ _ _ h _ _ => h) HK3.out ?assign ?body ?done ?stop
      case own =>
        exact fun pre A C row hs hg hr => hs.own HK3.out.upd.size hg hr
      case assign =>
        intro l x W K hK
        gi_wp2
        exact hK
      case body =>
        as_aux_lemma =>
        rintro l pre x W hsz hk ⟨m, hm, hx, hpre, hkid⟩
        have x6 : x < 6 := by omega
        have i0 : (0 : Int) ≤ (x : Int) := by omega
        have j1 : (x : Int) < 6 := by omega
        have hcx := hk.tab.cell x6
        have hfx := hk.tab.1.frozen x
        have hc3 : W.cell? ⟨w.heap.size, 0, none⟩ = some (.pointer (some ⟨t, 0, none⟩)) := hk.b0.cellAt (i := 0) rfl
        have hb0 := hk.b0.lt
        have htl := hk.tab.1.lt
        have hnt : t ≠ w.heap.size := hk.tab.1.ne_ hk.b0 tne1
        have HKB := Lib.hid hkid
        have HKP := Lib.hid hk
        have l0 := asL0
        have l1 := asL1
        have l2 := asL2
        have m0 := asE0
        have m1 := asE1
        have m2 := asE2
        have HFIN : Hid (∀ W' y, orphP (getP (orphs T1 pre) (x : Int)) = y → Upd [t] W W' → TabAt W' t ((orphs T1 pre).set x y) → KeepsFrom W3.heap.size W W' ∧ Kept w W' t w.heap.size N2 (N2 + 1) (i : Int) (orphs T1 (pre ++ [x]))) := Lib.hid (fun W' y hy hu hT => by
          refine ⟨keeps_of_upd hu (fun s hs => ?_), HKP.out.step hu ?_⟩
          · rw [List.mem_singleton] at hs
            subst hs
            exact ⟨_, _, HKP.out.tab.1⟩
          · rw [orphs_snoc, orph, hy]
            exact hT)
        have HTAB := Lib.hid hk.tab
        clear hx hpre hkid hk
        simp only [List.setIfInBounds_toArray, List.set_cons_succ, List.set_cons_zero]
        cases hy : getP (orphs T1 pre) (x : Int) with
        | none =>
          have := HKB.out
          unfold kidB at this
          rw [hy] at this
          cases this
        | liv q =>
          rw [hy] at hcx HFIN
          unfold encP at hcx
          have HF := Lib.hid (fun W' hu hT => HFIN.out W' (.liv 0) rfl hu hT)
          clear hy HFIN
          as_aux_lemma =>
          gi_wp2_with fail
          refine HF.out _ ?_ ?_
          · exact Upd.alloc (Upd.setCell (Upd.refl [t] W) (.inl (List.mem_singleton.2 rfl)) _) _
          · have := HTAB.out.set x (.liv 0)
            exact ⟨this.1.alloc _, this.2⟩
        | dead q s' =>
          rw [hy] at hcx HFIN
          unfold encP at hcx
          have HF := Lib.hid (fun W' hu hT => HFIN.out W' (.dead 0 s') rfl hu hT)
          clear hy HFIN
          gi_wp2_with fail
          have HDT : Hid (∀ o : Obj, TabAt ((W.setCell ⟨t, x, none⟩ (.iface 43 (.agg #[.int .i64 0, .int .i64 s']))).alloc o).drew t ((orphs T1 pre).set x (.dead 0 s'))) := Lib.hid (fun o => ⟨(HTAB.out.set x (.dead 0 s')).1.alloc o, (HTAB.out.set x (.dead 0 s')).2⟩)
          have HDU : Hid (∀ (o : Obj) (v : Value), Upd [t] W ((W.setCell ⟨t, x, none⟩ v).alloc o).drew) := Lib.hid (fun o v => ((Upd.setCell (Upd.refl [t] W) (.inl (List.mem_singleton.2 rfl)) v).alloc o).drew)
          as_aux_lemma =>
          refine wpIn_mono (Q := fun e _ W' => e = .normal ∧ TabAt W' t ((orphs T1 pre).set x (.dead 0 s')) ∧ Upd [t] W W') ?_ ?_
          · as_aux_lemma =>
            clear l0 l1 l2 m0 m1 m2 HF HKB HKP HK3
            refine region_round l 10 rfl rfl (by kernel_rfl) hmx ?_
            refine wpAnyIn_take (i := 1) (v := ?_) rfl rfl (by kernel_rfl) (by kernel_rfl) (by kernel_rfl) (fun _ _ _ h => h) ⟨Or.inl ⟨by rfl, ?_⟩, fun _ => rfl⟩ ?_
            rotate_left
            · intro w; go_simp; first | done | with_reducible rfl
            refine wpAnyIn_take (i := 2) (v := ?_) rfl rfl (by kernel_rfl) (by kernel_rfl) (by kernel_rfl) (fun _ _ _ h => h) ⟨Or.inl ⟨by rfl, ?_⟩, fun _ => rfl⟩ ?_
            rotate_left
            · intro w; go_simp; first | done | with_reducible rfl
            refine wpAnyIn_ready (rs := [0, 3]) (by kernel_rfl) (by simp) ?_
            refine AllReadyIn.cons rfl (fun K hK => ?_) ?_
            · go_simp
              refine hK _ _ ?_; clear hK K
              refine wpAnyIn_take (i := 6) (v := ?_) rfl rfl (by kernel_rfl) (by kernel_rfl) (by kernel_rfl) (fun _ _ _ h => h) ⟨Or.inl ⟨by rfl, ?_⟩, fun _ => rfl⟩ ?_
              rotate_left
              · intro w; go_simp; first | done | with_reducible rfl
              refine wpAnyIn_take (i := 7) (v := ?_) rfl rfl (by kernel_rfl) (by kernel_rfl) (by kernel_rfl) (fun _ _ _ h => h) ⟨Or.inl ⟨by rfl, ?_⟩, fun _ => rfl⟩ ?_
              rotate_left
              · intro w; go_simp; first | done | with_reducible rfl
              refine wpAnyIn_ready (rs := [3]) (by kernel_rfl) (by simp) ?_
              refine AllReadyIn.cons rfl (fun K hK => ?_) AllReadyIn.nil
              go_simp
              refine hK _ _ ?_; clear hK K
              refine wpAnyIn_take (i := 4) (v := ?_) rfl rfl (by kernel_rfl) (by kernel_rfl) (by kernel_rfl) (fun _ _ _ h => h) ⟨Or.inl ⟨by rfl, ?_⟩, fun _ => rfl⟩ ?_
              rotate_left
              · intro w; go_simp; first | done | with_reducible rfl
              refine wpAnyIn_take (i := 5) (v := ?_) rfl rfl (by kernel_rfl) (by kernel_rfl) (by kernel_rfl) (fun _ _ _ h => h) ⟨Or.inl ⟨by rfl, ?_⟩, fun _ => rfl⟩ ?_
              rotate_left
              · intro w; go_simp; first | done | with_reducible rfl
              refine wpAnyIn_take (i := 8) (v := ?_) rfl rfl (by kernel_rfl) (by kernel_rfl) (by kernel_rfl) (fun _ _ _ h => h) ⟨Or.inl ⟨by rfl, ?_⟩, fun _ => rfl⟩ ?_
              rotate_left
              · intro w; go_simp; first | done | with_reducible rfl
              refine wpAnyIn_ready (rs := [9]) (by kernel_rfl) (by simp) ?_
              refine AllReadyIn.cons rfl (fun K hK => ?_) AllReadyIn.nil
              go_simp
              refine hK _ _ ?_; clear hK K
              refine wpAnyIn_done (by kernel_rfl) ?_ _
              exact ⟨rfl, HDT.out _, HDU.out _ _⟩
            refine AllReadyIn.cons rfl (fun K hK => ?_) ?_
            · go_simp
              refine hK _ _ ?_; clear hK K
              refine wpAnyIn_take (i := 4) (v := ?_) rfl rfl (by kernel_rfl) (by kernel_rfl) (by kernel_rfl) (fun _ _ _ h => h) ⟨Or.inl ⟨by rfl, ?_⟩, fun _ => rfl⟩ ?_
              rotate_left
              · intro w; go_simp; first | done | with_reducible rfl
              refine wpAnyIn_take (i := 5) (v := ?_) rfl rfl (by kernel_rfl) (by kernel_rfl) (by kernel_rfl) (fun _ _ _ h => h) ⟨Or.inl ⟨by rfl, ?_⟩, fun _ => rfl⟩ ?_
              rotate_left
              · intro w; go_simp; first | done | with_reducible rfl
              refine wpAnyIn_ready (rs := [0]) (by kernel_rfl) (by simp) ?_
              refine AllReadyIn.cons rfl (fun K hK => ?_) AllReadyIn.nil
              go_simp
              refine hK _ _ ?_; clear hK K
              refine wpAnyIn_take (i := 6) (v := ?_) rfl rfl (by kernel_rfl) (by kernel_rfl) (by kernel_rfl) (fun _ _ _ h => h) ⟨Or.inl ⟨by rfl, ?_⟩, fun _ => rfl⟩ ?_
              rotate_left
              · intro w; go_simp; first | done | with_reducible rfl
              refine wpAnyIn_take (i := 7) (v := ?_) rfl rfl (by kernel_rfl) (by kernel_rfl) (by kernel_rfl) (fun _ _ _ h => h) ⟨Or.inl ⟨by rfl, ?_⟩, fun _ => rfl⟩ ?_
              rotate_left
              · intro w; go_simp; first | done | with_reducible rfl
              refine wpAnyIn_take (i := 8) (v := ?_) rfl rfl (by kernel_rfl) (by kernel_rfl) (by kernel_rfl) (fun _ _ _ h => h) ⟨Or.inl ⟨by rfl, ?_⟩, fun _ => rfl⟩ ?_
              rotate_left
              · intro w; go_simp; first | done | with_reducible rfl
              refine wpAnyIn_ready (rs := [9]) (by kernel_rfl) (by simp) ?_
              refine AllReadyIn.cons rfl (fun K hK => ?_) AllReadyIn.nil
              go_simp
              refine hK _ _ ?_; clear hK K
              refine wpAnyIn_done (by kernel_rfl) ?_ _
              exact ⟨rfl, HDT.out _, HDU.out _ _⟩
            exact AllReadyIn.nil
          · rintro e a' W' ⟨rfl, h1, h2⟩
            exact HF.out _ h2 h1
      case done =>
        rintro D xs W hD hS hk hK
        have HT := Lib.hid hk.tab
        have HU := Lib.hid hk.upd
        have HS := Lib.hid hS
        clear hk
        gi_wp2
        refine ⟨by simp, .inl ⟨_, _, rfl, run_takeDeferred hK, ?_⟩⟩
        refine ⟨_, results_tmp rfl _ _ _, rfl, ⟨?_, ?_⟩, upd_put HU.out _ (Nat.le_trans HK3.out.upd.size hD)⟩
        · rw [← orphs_seen, ← HS.out]
          exact kept_put HT.out.1 hK rfl
        · rw [← orphs_seen, ← HS.out]
          exact HT.out.2
      case stop =>
        rintro D pre x W hD _ h _
        exact h.elim

end Go.Proofs.Ytogiegehkhnlmaa
