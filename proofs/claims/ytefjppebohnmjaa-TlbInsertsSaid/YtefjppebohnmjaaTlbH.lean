/- Lists of all, forks, new ones: of both. -/
import Derived.Test.YtefjppebohnmjaaTlbG
import Derived.Laws.Cover3
namespace Go.Proofs.Ytefjppebohnmjaa
open Go.RowKit Go.Shelf

theorem eql_nil (w : World) (A : Option Addr) (n c : Nat) : (binOp .eql 39 (.slice A n c) (.slice none 0 0)).run Try.prog w = .ok (.bool A.isNone) w := by
  have := run_equal_slice_nil (P := Try.prog) w 39 MapT A n c under_maps
  simp [binOp, this]
set_option maxRecDepth 100000 in
set_option maxHeartbeats 1000000 in
theorem clone_any (A : Option Addr) (n cap : Nat) (L : List Mp) (hn : L.length = n) (hle : n ≤ 8) (w : World) (h : Row w A cap L) :
    Calls Try.prog 31 #[.slice A n cap] w fun e w' =>
      ∃ A' cap', e = .returned (.slice A' n cap') ∧ Row w' A' cap' L ∧ (∀ g, g ∈ ownA A' → w.heap.size ≤ g) ∧ Upd [] w w' := by
  have HX : Hid (Xs w (.slice A n cap) n L) := Lib.hid (by subst hn; exact h.xs)
  have HR := Lib.hid h
  have he := eql_nil
  cases A with
  | none =>
    obtain ⟨hc, hL⟩ : cap = 0 ∧ L = [] := by
      rcases h with ⟨_, h1, h2⟩ | ⟨g, h1, _⟩
      · exact ⟨h1, h2⟩
      · cases h1
    subst hc hL
    have hn0 : n = 0 := by rw [← hn]; rfl
    subst hn0
    clear h
    go_enter Try.func31, Try.ntmps31
    go_wp2_with fail
    go_ret
    exact ⟨none, 0, by simp, HR.out, by simp [ownA], Upd.refl _ _⟩
  | some a =>
    have HX2 := Lib.hid (HX.out.upd ((Upd.refl [] w).alloc (.cells #[] MapT)) (by simp))
    have HN := Lib.hid hn
    clear h
    go_enter Try.func31, Try.ntmps31
    go_wp2_with (refine wpList_app rfl _ _ rfl (some ⟨w.heap.size, 0, none⟩) 0 0 [] rfl rfl (Row.new w) _ rfl n L HX2.out (by omega) ?_; intro A' cap' W' hr hu ho; rw [Nat.zero_add])
    go_ret
    refine ⟨A', cap', by simp, by simpa using hr, ?_, (((Upd.refl [] w).alloc (.cells #[] MapT)).trans hu (by intro s hs; simp [ownA] at hs; right; omega))⟩
    intro g hg
    rcases ho g hg with h1 | h1
    · simp [ownA] at h1; omega
    · simp at h1; omega

set_option maxRecDepth 100000 in
set_option maxHeartbeats 1000000 in
theorem list_any (t : Nat) (own : List Nat) (L : List Mp) (w : World) (h : At TlbT w t own L) :
    Calls Try.prog 17 #[.pointer (some ⟨t, 0, none⟩)] w fun e w' =>
      ∃ A' cap', e = .returned (.slice A' L.length cap') ∧ Row w' A' cap' L ∧ (∀ g, g ∈ ownA A' → w.heap.size ≤ g) ∧ Upd [] w w' := by
  obtain ⟨A, cap, hb, hr, _, hl⟩ := h
  have hc := hb.cellAt (i := 0) rfl
  simp only [List.getElem_toArray, List.getElem_cons_zero] at hc
  have HR := Lib.hid hr
  generalize hn : L.length = n at *
  have HN := Lib.hid hn
  clear hr hb hn
  go_enter Try.func17, Try.ntmps17
  go_wp2_with fail
  refine (clone_any A n cap L HN.out hl w HR.out).mono ?_; rintro e w' ⟨A', cap', rfl, h1, h2, h3⟩
  go_wp2_with fail
  go_ret
  exact ⟨A', cap', by simp, h1, h2, h3⟩

set_option maxRecDepth 100000 in
set_option maxHeartbeats 1000000 in
theorem rlist_any (t : Nat) (own : List Nat) (L : List Mp) (w : World) (h : At RefT w t own L) :
    Calls Try.prog 18 #[.pointer (some ⟨t, 0, none⟩)] w fun e w' =>
      ∃ A' cap', e = .returned (.slice A' L.length cap') ∧ Row w' A' cap' L ∧ (∀ g, g ∈ ownA A' → w.heap.size ≤ g) ∧ Upd [] w w' := by
  obtain ⟨A, cap, hb, hr, _, hl⟩ := h
  have hc := (hb.alloc (.cells #[] 24)).cellAt (i := 0) rfl
  simp only [List.getElem_toArray, List.getElem_cons_zero] at hc
  have HX := Lib.hid (hr.xs.upd ((Upd.refl [] w).alloc (.cells #[] MapT)) (by simp))
  generalize hn : L.length = n at *
  have HN := Lib.hid hn
  clear hr hb hn
  go_enter Try.func18, Try.ntmps18
  go_wp2_with (refine wpList_app rfl _ _ rfl (some ⟨w.heap.size, 0, none⟩) 0 0 [] rfl rfl (Row.new w) _ rfl n L HX.out (by omega) ?_; intro A' cap' W' hr hu ho; rw [Nat.zero_add])
  go_ret
  refine ⟨A', cap', by simp, by simpa using hr, ?_, (((Upd.refl [] w).alloc (.cells #[] MapT)).trans hu (by intro s hs; simp [ownA] at hs; right; omega))⟩
  intro g hg
  rcases ho g hg with h1 | h1
  · simp [ownA] at h1; omega
  · simp at h1; omega

theorem new_any (w : World) :
    Calls Try.prog 27 #[] w fun e w' => e = .returned (.pointer (some ⟨w.heap.size, 0, none⟩)) ∧ At TlbT w' w.heap.size [] [] ∧ Upd [] w w' := by
  go_enter Try.func27, Try.ntmps27
  go_wp2
  go_ret
  exact ⟨by simp, ⟨none, 0, Blk.new w TlbT #[.slice none 0 0], .inl ⟨rfl, rfl, rfl⟩, rfl, by simp⟩, (Upd.refl [] w).alloc _⟩
theorem rnew_any (w : World) :
    Calls Try.prog 28 #[] w fun e w' => e = .returned (.pointer (some ⟨w.heap.size, 0, none⟩)) ∧ At RefT w' w.heap.size [] [] ∧ Upd [] w w' := by
  go_enter Try.func28, Try.ntmps28
  go_wp2
  go_ret
  exact ⟨by simp, ⟨none, 0, Blk.new w RefT #[.slice none 0 0], .inl ⟨rfl, rfl, rfl⟩, rfl, by simp⟩, (Upd.refl [] w).alloc _⟩

set_option maxRecDepth 100000 in
set_option maxHeartbeats 1000000 in
theorem fork_any (t : Nat) (own : List Nat) (L : List Mp) (w : World) (h : At TlbT w t own L) :
    Calls Try.prog 22 #[.pointer (some ⟨t, 0, none⟩)] w fun e w' =>
      ∃ t' own', e = .returned (.pointer (some ⟨t', 0, none⟩)) ∧ At TlbT w' t' own' L ∧ w.heap.size ≤ t' ∧ (∀ g, g ∈ own' → w.heap.size ≤ g) ∧ Upd [] w w' := by
  have HL := Lib.hid (list_any t own L w h)
  have hle : L.length ≤ 8 := by obtain ⟨_, _, _, _, _, h⟩ := h; exact h
  have HLE := Lib.hid hle
  clear h hle
  generalize hn : L.length = n at *
  have HN := Lib.hid hn
  clear hn
  go_enter Try.func22, Try.ntmps22
  go_wp2_with fail
  refine HL.out.mono ?_; rintro e w1 ⟨A', cap', rfl, h1, h2, h3⟩
  go_wp2_with fail
  go_ret
  refine ⟨w1.heap.size, ownA A', by simp, ⟨A', cap', ?_, h1.upd ((Upd.refl [] w1).alloc _) (by simp), rfl, by rw [HN.out]; exact HLE.out⟩, h3.size, h2, h3.alloc _⟩
  rw [HN.out]
  exact Blk.new w1 TlbT _
set_option maxRecDepth 100000 in
set_option maxHeartbeats 1000000 in
theorem rfork_any (t : Nat) (own : List Nat) (L : List Mp) (w : World) (h : At RefT w t own L) :
    Calls Try.prog 23 #[.pointer (some ⟨t, 0, none⟩)] w fun e w' =>
      ∃ t' own', e = .returned (.pointer (some ⟨t', 0, none⟩)) ∧ At RefT w' t' own' L ∧ w.heap.size ≤ t' ∧ (∀ g, g ∈ own' → w.heap.size ≤ g) ∧ Upd [] w w' := by
  have HL := Lib.hid (rlist_any t own L w h)
  have hle : L.length ≤ 8 := by obtain ⟨_, _, _, _, _, h⟩ := h; exact h
  have HLE := Lib.hid hle
  clear h hle
  generalize hn : L.length = n at *
  have HN := Lib.hid hn
  clear hn
  go_enter Try.func23, Try.ntmps23
  go_wp2_with fail
  refine HL.out.mono ?_; rintro e w1 ⟨A', cap', rfl, h1, h2, h3⟩
  go_wp2_with fail
  go_ret
  refine ⟨w1.heap.size, ownA A', by simp, ⟨A', cap', ?_, h1.upd ((Upd.refl [] w1).alloc _) (by simp), rfl, by rw [HN.out]; exact HLE.out⟩, h3.size, h2, h3.alloc _⟩
  rw [HN.out]
  exact Blk.new w1 RefT _

end Go.Proofs.Ytefjppebohnmjaa
