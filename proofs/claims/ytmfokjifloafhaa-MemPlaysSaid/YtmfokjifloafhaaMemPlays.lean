/- MemPlays holds: what stands in frames is just what the document says, behind any deeds. No condition. -/
import Derived.Test.YtmfokjifloafhaaMemOpen
namespace Go.Proofs.Ytmfokjifloafhaa
open Go.ChangeShapes Go.WideShapes Go.ChangeAt Go.RowKit Go.Deep

set_option maxHeartbeats 1000000 in
theorem plays_any (u : Nat) (hu8 : u < 256) (A : Option Addr) (len cap : Nat) (w : World) (hd : Deeds w A len) (hlen : len ≤ 9223372036854775807) :
    Calls Try.prog 6 #[.int .u8 (u : Int), .slice A len cap] w (TruePost w) := by
  have HD := Lib.hid hd
  clear hd
  go_enter Try.func6, Try.ntmps6
  go_wp2_with fail
  refine (play_any u hu8 A len cap _ HD.out hlen).mono ?_; rintro e w1 ⟨m, fb, r, rb, L, rfl, hb, hu, _, _, _, _⟩
  have HB := Lib.hid hb
  have HU := Lib.hid hu
  clear hb hu
  go_wp2_with fail
  refine (live_any _).mono ?_; rintro e w2 ⟨rfl, hu2⟩
  have HB2 := Lib.hid (HB.out.upd hu2 (by simp) (by simp) (by simp) (by simp))
  have HU2 := Lib.hid (HU.out.trans0 hu2)
  clear hu2
  go_wp2_with fail
  refine (same_any m fb r rb _ L _ HB2.out).mono ?_; rintro e w3 ⟨rfl, hu3⟩
  have HU3 := Lib.hid (HU2.out.trans0 hu3)
  clear hu3
  go_wp2_with fail
  go_ret
  exact ⟨by simp, HU3.out⟩

set_option maxRecDepth 100000 in
theorem plays_lifted (os : Os) (started : os.Started) (H : Type) (enc : TypeId × Value → H) :
    ReturnsInHanded {} Try.checked os 6 .any (Rows.memPlaysSpec.pre6 enc Try.prog Try.f6 Rows.memPlaysRow.domain false) (Rows.memPlaysSpec.post enc Try.prog Try.f6 false true false false) := by
  refine returnsInHanded_of_change (C := Try.checked) own_knob started (by kernel_rfl) Try.func6
    (ChangeSpec.witness6 (enc := enc) (C := Try.checked) false ⟨#[], #[.int .u8 0, .slice none 0 0], []⟩ 8 (by kernel_rfl) (by kernel_rfl) (by kernel_rfl) (by kernel_rfl)) ?_
  intro W base args ds gs before hval0 hW hcnd _
  have hval : ∀ (j : Nat) t v, Try.f6.params[j]? = some t → args[j]? = some v → Value.okWide Try.prog W .any base t v := hval0
  have hW' := hW
  have hlt := fun x hx => DataW.Whole.lt hW x hx
  obtain ⟨p, q, hA0, hV, rfl, hfz, hnd⟩ := hW
  have hA : DataW.TrodAll enc Try.prog W 0 (fun _ => true) true Try.f6.params.toList args.toList ds p := hA0
  have hA1 := hA
  rw [Try.params6] at hA hval
  obtain ⟨v0, v1, d0, d1, p0, p1, rfl, rfl, rfl, h0, h1⟩ := trodAll_two hA
  obtain ⟨rfl, rfl⟩ := trodVars_none hV
  obtain ⟨n, rfl, rfl, rfl, wn⟩ := open_int under_byte (hval 0 5 v0 rfl rfl) h0
  obtain ⟨a1, l1, c1, rfl⟩ := okWide_slice under_deeds (hval 1 22 v1 rfl rfl)
  obtain ⟨fuel1, g1⟩ := h1
  obtain ⟨A, len, cap, e1, hl, hcm, hd⟩ := open_deeds g1
  injection e1 with e1 _
  injection e1 with e1a e1b e1c
  subst e1a e1b e1c
  have hn := wf_u8 wn
  obtain ⟨u, rfl⟩ : ∃ u : Nat, n = u := ⟨n.toNat, by omega⟩
  clear hA0 hval0
  simp only [List.append_nil] at hW' hlt
  refine (plays_any u (by omega) a1 l1 c1 W hd (by unfold maxLen at hcm; omega)).mono fun e W' ⟨he, hu⟩ => ?_
  subst he
  exact ⟨_, rfl, post_of_below hW' (fun _ _ _ => trodAll_mk1 (shut_bool under_bool true)) (fun sp hsp => trodAll_below laid_out hu.below sp _ _ _ _ (by kernel_rfl) hA1 (fun x hx => hlt x hx) (fun x hx => hsp x hx)) (fun _ _ => rfl) (by simp) hu.below (ok_one (by kernel_rfl) rfl (okWide_bool_mk under_bool true))⟩

theorem MemPlays_holds : Rows.MemPlaysSaid :=
  OpenClaim.holds_of_wide 6 Try.f6 rfl rfl rfl rfl rfl rfl rfl ⟨rfl, rfl, rfl, rfl, rfl⟩ rfl rfl rfl rfl rfl (by kernel_rfl) Try.func6 (by kernel_rfl)
    (of_decide_eq_true (by kernel_rfl)) (by unfold Func.isWrapper; first | (rw [if_pos (by decide +kernel)]; kernel_rfl) | (rw [if_neg (by decide +kernel)]; exact ⟨rfl, rfl⟩))
    (fun os started H enc _ => plays_lifted os started H enc)

end Go.Proofs.Ytmfokjifloafhaa
