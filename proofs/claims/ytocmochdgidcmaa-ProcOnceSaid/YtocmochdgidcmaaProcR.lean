/- The program's Children. -/
import Derived.Test.YtocmochdgidcmaaProcP
import Derived.RangeFuncBox
namespace Go.Proofs.Ytocmochdgidcmaa
open Go.RowKit Go.Shelf
attribute [local go_sem] Oper.semAt_some

/-- What the loop of Children keeps. -/
structure KeptC (w W : World) (t B5 Bt Bp base : Nat) (pid : Int) (T : List PS) (pre : List Nat) (v : Value) : Prop where
  tab : TabAt W t T
  b5 : Blk W B5 31 #[v]
  bt : Blk W Bt 23 #[.pointer (some ⟨t, 0, none⟩)]
  bp : Blk W Bp 3 #[.int .i64 pid]
  own : W.ownsRow base 3 1 v pre.length (ints pre)
  upd : Upd [] w W

theorem eqG1 (p : Int) (w : World) : (eqGuard .eql 52 (.tmp 9) (.const .nilIface) (encP (.liv p)) .nilIface).run Try.prog w = .ok () w := by kernel_rfl
theorem eqG2 (p s : Int) (w : World) : (eqGuard .eql 52 (.tmp 9) (.const .nilIface) (encP (.dead p s)) .nilIface).run Try.prog w = .ok () w := by kernel_rfl
theorem comes_le {G : List Nat → List PS} {pid : Int} {pre : List Nat} {x : Nat} (h : comes G pid pre x) : pre.length ≤ 5 := by
  obtain ⟨m, hm, _, rfl, _⟩ := h
  have := seen_le G pid m
  omega

set_option maxRecDepth 100000 in
set_option maxHeartbeats 4000000 in
theorem children_some (t : Nat) (T : List PS) (pid : Int) (w : World) (h : TabAt w t T) (hp : getP T pid ≠ .none) :
    Calls Try.prog 13 #[.pointer (some ⟨t, 0, none⟩), .int .i64 pid] w fun e w' =>
      ∃ v, e = .returned v ∧ w'.ownsRow w.heap.size 3 1 v (kids T pid).length (ints (kids T pid)) ∧ Upd [] w w' := by
  have HA := Lib.hid (at_any t T pid w h)
  have HT := Lib.hid h
  obtain ⟨a, hv, hne, hgu⟩ : ∃ a, encP (getP T pid) = a ∧ (∀ w, (binOp .eql 52 a .nilIface).run Try.prog w = .ok (.bool false) w) ∧ ∀ w, (eqGuard .eql 52 (.tmp 9) (.const .nilIface) a .nilIface).run Try.prog w = .ok () w := by
    cases hx : getP T pid with
    | none => exact absurd hx hp
    | liv p => exact ⟨_, rfl, eqN1 p, eqG1 p⟩
    | dead p s => exact ⟨_, rfl, eqN2 p s, eqG2 p s⟩
  rw [hv] at HA
  clear h hp hv
  refine (callsIn_wide (n := 6)).1 ?_
  refine callsIn_of_wp_marks Try.func13 rfl trivial ?_ rfl
  simp only [Try.ntmps13, List.size_toArray, List.length_cons, List.length_nil, Nat.reduceAdd, Nat.reduceSub, Array.replicate_succ, Array.replicate_zero, List.push_toArray, List.append_toArray, List.nil_append, List.cons_append]
  gi_wp2_with fail
  refine ⟨trivial, (callsIn_wide.2 HA.out).mono ?_⟩
  rintro e w' ⟨rfl, rfl⟩
  gi_wp2_with fail
  refine ⟨trivial, (children_in _ t _ _).mono ?_⟩
  rintro e w' ⟨rfl, rfl⟩
  have hK : KeptC w (((w.alloc (.cells #[.slice none 0 0] 31)).alloc (.cells #[.pointer (some ⟨t, 0, none⟩)] 23)).alloc (.cells #[.int .i64 pid] 3)) t w.heap.size (w.heap.size + 1) (w.heap.size + 2) (w.heap.size + 3) pid T [] (.slice none 0 0) := by
    refine ⟨⟨((HT.out.1.alloc _).alloc _).alloc _, HT.out.2⟩, ((Blk.new w _ _).alloc _).alloc _, ?_, ?_, World.ownsRow_nil _ _ _ _, (((Upd.refl [] w).alloc _).alloc _).alloc _⟩
    · have := (Blk.new (w.alloc (.cells #[.slice none 0 0] 31)) 23 #[.pointer (some ⟨t, 0, none⟩)]).alloc (.cells #[.int .i64 pid] 3)
      rwa [World.size_alloc] at this
    · have := Blk.new ((w.alloc (.cells #[.slice none 0 0] 31)).alloc (.cells #[.pointer (some ⟨t, 0, none⟩)] 23)) 3 #[.int .i64 pid]
      rwa [World.size_alloc, World.size_alloc] at this
  have hs3 : (((w.alloc (.cells #[.slice none 0 0] 31)).alloc (.cells #[.pointer (some ⟨t, 0, none⟩)] 23)).alloc (.cells #[.int .i64 pid] 3)).heap.size = w.heap.size + 3 := by simp
  have HK := Lib.hid hK
  have HS3 := Lib.hid hs3
  have HTW : Hid (t < w.heap.size ∧ T.length = 6) := Lib.hid ⟨HT.out.1.lt, HT.out.2⟩
  clear hK hs3 HT HA
  generalize ((w.alloc (.cells #[.slice none 0 0] 31)).alloc (.cells #[.pointer (some ⟨t, 0, none⟩)] 23)).alloc (.cells #[.int .i64 pid] 3) = W3 at *
  gi_wp2_with fail
  refine rangeFunc_var 6 rfl (by omega) (gf := 39) (lb := #[.pointer (some ⟨w.heap.size + 1, 0, none⟩), .pointer (some ⟨w.heap.size + 2, 0, none⟩)]) rfl trivial (enters_of Try.func39 (by kernel_rfl) rfl)
    (iter_children _ t (w.heap.size + 1) (w.heap.size + 2) pid (fun _ => T) (fun pre W => ∃ v, KeptC w W t w.heap.size (w.heap.size + 1) (w.heap.size + 2) (w.heap.size + 3) pid T pre v)
      (fun pre A hA => by obtain ⟨v, hA⟩ := hA; exact ⟨hA.tab, hA.bt.cellAt (i := 0) rfl, hA.bp.cellAt (i := 0) rfl⟩))
    (Ix := fun _ _ => False) ?own (fun _ _ _ _ h _ _ => h) ⟨_, HK.out⟩ ?assign ?body ?done ?stop
  case own =>
    rintro pre A C row ⟨v, hs⟩ hg hr
    refine ⟨v, ⟨blk_own hs.tab.1 hg hr, hs.tab.2⟩, blk_own hs.b5 hg hr, blk_own hs.bt hg hr, blk_own hs.bp hg hr, hs.own.kept hg ?_, upd_own hs.upd HK.out.upd.size hg hr⟩
    rcases hs.own.2 with ⟨rfl, _⟩ | ⟨g, cap, cur, rfl, _, hgb, _⟩
    · exact .inl rfl
    · refine .inr fun e' => ?_
      obtain ⟨_, o, ho, hc⟩ := hr g (by simpa [Value.ownBlock] using e'.symm)
      rw [hgb] at ho; cases ho; cases hc
  case assign =>
    intro l x W K hK
    gi_wp2
    exact hK
  case body =>
    rintro l pre x W hsz ⟨v, hk⟩ hx
    have hle := comes_le hx
    have hc5 : W.cell? ⟨w.heap.size, 0, none⟩ = some v := hk.b5.cellAt (i := 0) rfl
    have hf5 := hk.b5.frozen 0
    have l5 := hk.b5.lt
    rw [HS3.out] at hsz
    have HKP := Lib.hid hk
    clear hk hx
    obtain ⟨i0, hi, hz0, hz1, hz2⟩ := info_parts info_int
    have HI := Lib.hid hi
    clear hi
    simp only [List.setIfInBounds_toArray, List.set_cons_succ, List.set_cons_zero]
    gi_wp2_with (gi_at_builtin; refine wpListIn_append_own _ rfl _ _ 31 rfl (w.heap.size + 3) 3 i0 (.int .i64 0) 1 8 under_ints HI.out hz0 hz1 hz2 rfl (by decide) _ _ _ rfl (HKP.out.own.alloc _) ⟨W.heap.size, 0, none⟩ 1 1 [.int .i64 (x : Int)] rfl rfl (cell_one_new _ _ _) (by simp [Value.oneCell']) (by unfold maxLen; omega) (by omega) (by simp; omega) ?_; intro v' w1 hown' hgrow _; obtain ⟨g', cap', rfl⟩ := ownsRow_succ hown'; obtain ⟨hv1, hv2, _, hk2, _⟩ := Boxed.appended (n₀ := w.heap.size) (B := w.heap.size) HKP.out.b5 (by decide) (own_mono HKP.out.own (by omega)) (by omega) (Nat.le_refl _) (own_mono hown' (by omega)) hgrow; have c5 := hv1.cell; have f5 := hv1.frozen; have HO := Lib.hid hown'; have HG := Lib.hid hgrow; have HV := Lib.hid hv2; have HKK := Lib.hid hk2; clear hown' hgrow hv1 hv2 hk2)
    show KeepsFrom _ _ _ ∧ ∃ v, KeptC _ _ _ _ _ _ _ _ _ _ v
    refine ⟨HKK.out.from _, _, ⟨?_, HTW.out.2⟩, HV.out, ?_, ?_, ?_, ?_⟩
    · exact ((HKP.out.tab.1.alloc _).grown HG.out (fun e => by have := (HKP.out.own.lt _ e.symm).1; have := HTW.out.1; omega)).far (by have := HTW.out.1; simp; omega) _
    · exact ((HKP.out.bt.alloc _).grown HG.out (fun e => by have := (HKP.out.own.lt _ e.symm).1; omega)).far (by simp) _
    · exact ((HKP.out.bp.alloc _).grown HG.out (fun e => by have := (HKP.out.own.lt _ e.symm).1; omega)).far (by simp) _
    · have := HO.out.kept (grownBy_setCell' w1 w.heap.size (.slice (some ⟨g', 0, none⟩) (pre.length + 1) cap')) (.inr (fun e => by have := (HO.out.lt _ e).1; omega))
      simpa [ints] using this
    · exact ((HKP.out.upd.alloc _).grown HG.out (S := []) (fun j hj => .inr (by have := (HKP.out.own.lt _ hj).1; omega))).setCell (.inr (Nat.le_refl _)) _
  case done =>
    rintro D xs W hD rfl ⟨v, hk⟩ hK
    have hc5 : W.cell? ⟨w.heap.size, 0, none⟩ = some v := hk.b5.cellAt (i := 0) rfl
    have HKP := Lib.hid hk
    clear hk
    gi_wp2
    refine ⟨by simp, .inl ⟨_, _, rfl, run_takeDeferred hK, ?_⟩⟩
    exact ⟨_, results_tmp rfl _ _ _, _, rfl, own_mono (ownsRow_putObj HKP.out.own _ hK rfl) (by omega), upd_put HKP.out.upd _ (by have := HK.out.upd.size; omega)⟩
  case stop =>
    rintro D pre x W hD _ h _
    exact h.elim

end Go.Proofs.Ytocmochdgidcmaa
