/- MemFills holds: what is filled stands byte by byte, over frames. No condition. -/
import Derived.Test.YtmfokjifloafhaaMemLawL
namespace Go.Proofs.Ytmfokjifloafhaa
open Go.ChangeShapes Go.WideShapes Go.ChangeAt Go.RowKit Go.Deep

set_option maxRecDepth 100000 in
theorem MemFills_lifted (os : Os) (started : os.Started) (H : Type) (enc : TypeId × Value → H) :
    ReturnsInHanded {} Try.checked os 3 .any (Rows.memFillsSpec.pre6 enc Try.prog Try.f3 Rows.memFillsRow.domain false) (Rows.memFillsSpec.post enc Try.prog Try.f3 false true false false) := by
  refine returnsInHanded_of_change (C := Try.checked) own_knob started (by kernel_rfl) Try.func3
    (ChangeSpec.witness6 (enc := enc) (C := Try.checked) false ⟨#[], #[.slice none 0 0, .agg #[.int .u8 0, .int .u8 0], .slice none 0 0], []⟩ 8 (by kernel_rfl) (by kernel_rfl) (by kernel_rfl) (by kernel_rfl)) ?_
  intro W base args ds gs before hval0 hW hcnd _
  have hval : ∀ (j : Nat) t v, Try.f3.params[j]? = some t → args[j]? = some v → Value.okWide Try.prog W .any base t v := hval0
  have hW' := hW
  have hlt := fun x hx => DataW.Whole.lt hW x hx
  obtain ⟨p, q, hA0, hV, rfl, hfz, hnd⟩ := hW
  have hA : DataW.TrodAll enc Try.prog W 0 (fun _ => true) true Try.f3.params.toList args.toList ds p := hA0
  have hA1 := hA
  rw [Try.params3] at hA hval
  obtain ⟨v0, v1, v2, d0, d1, d2, p0, p1, p2, rfl, rfl, rfl, h0, h1, h2⟩ := trodAll_three hA
  obtain ⟨rfl, rfl⟩ := trodVars_none hV
  obtain ⟨a0, l0, c0, rfl⟩ := okWide_slice (e := 44) (by kernel_rfl) (hval 0 22 v0 rfl rfl)
  obtain ⟨fuel0, g0⟩ := h0
  obtain ⟨A, len, cap, e0, hl0, hcm0, hd⟩ := open_deeds g0
  injection e0 with e0 _
  injection e0 with e0a e0b e0c
  subst e0a e0b e0c
  unfold maxLen at hcm0
  obtain ⟨q1a, q1b, rfl, wa1, wb1⟩ := open_arr2 (e := 5) (k := .u8) (by kernel_rfl) (by kernel_rfl) (by kernel_rfl) (by kernel_rfl) (hval 1 23 v1 rfl rfl) h1
  have ba1 := wf_u8 wa1
  have bb1 := wf_u8 wb1
  obtain ⟨x, rfl⟩ : ∃ x : Nat, q1a = x := ⟨q1a.toNat, by omega⟩
  obtain ⟨y, rfl⟩ : ∃ y : Nat, q1b = y := ⟨q1b.toNat, by omega⟩
  obtain ⟨a2, l2, c2, rfl⟩ := okWide_slice (e := 5) (by kernel_rfl) (hval 2 24 v2 rfl rfl)
  obtain ⟨fuel2, g2⟩ := h2
  obtain ⟨B, cb, bs, e2, hl2, hcm2, hr⟩ := open_bytes (e := 5) (by kernel_rfl) (by kernel_rfl) (by kernel_rfl) g2
  injection e2 with e2 _
  injection e2 with e2a e2b e2c
  subst e2a e2b e2c
  unfold maxLen at hcm2
  clear hA0 hval0
  simp only [List.append_nil] at hW' hlt
  refine (fills_any a0 l0 c0 x y a2 bs c2 W hd (by omega) (by omega) (by omega) hr hl2).mono fun e W' ⟨he, hu⟩ => ?_
  subst he
  exact ⟨_, rfl, post_of_below hW' (fun _ _ _ => trodAll_mk1 (shut_bool under_bool true)) (fun sp hsp => trodAll_below laid_out hu.below sp _ _ _ _ (by kernel_rfl) hA1 (fun x hx => hlt x (by simpa using hx)) (fun x hx => hsp x (by simpa using hx))) (fun _ _ => rfl) (by simp) hu.below (ok_one (by kernel_rfl) rfl (okWide_bool_mk under_bool true))⟩

theorem MemFills_holds : Rows.MemFillsSaid :=
  OpenClaim.holds_of_wide 3 Try.f3 rfl rfl rfl rfl rfl rfl rfl ⟨rfl, rfl, rfl, rfl, rfl⟩ rfl rfl rfl rfl rfl (by kernel_rfl) Try.func3 (by kernel_rfl)
    (of_decide_eq_true (by kernel_rfl)) (by unfold Func.isWrapper; first | (rw [if_pos (by decide +kernel)]; kernel_rfl) | (rw [if_neg (by decide +kernel)]; exact ⟨rfl, rfl⟩))
    (fun os started H enc _ => MemFills_lifted os started H enc)

end Go.Proofs.Ytmfokjifloafhaa
