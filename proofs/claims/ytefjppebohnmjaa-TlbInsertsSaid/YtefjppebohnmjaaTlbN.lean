/- The program's out, Drop, Asid, Frame. -/
import Derived.Test.YtefjppebohnmjaaTlbL
namespace Go.Proofs.Ytefjppebohnmjaa
open Go.RowKit Go.Shelf

theorem deleteFunc_row (gf : Nat) (lb : Array Value) (pr : Mp → Bool) (C : World → Prop) (hP : Pred gf lb pr C) (A : Option Addr) (n cap : Nat) (L : List Mp) (w : World) (hK : ∀ W W' g, g ∈ ownA A → C W → Upd [g] W W' → C W') (hn : L.length = n) (h : Row w A cap L) (hC : C w) (hl : n ≤ 1000) :
    Calls Try.prog 43 #[.slice A n cap, .func (.func gf) #[] lb] w fun e w' =>
      e = .returned (.slice A (keepL pr L).length cap) ∧ Row w' A cap (keepL pr L) ∧ Upd (ownA A) w w' := by
  subst hn
  rcases h with ⟨rfl, rfl, rfl⟩ | ⟨g, rfl, h⟩
  · have eg := hP.eg
    have HI := Lib.hid (indexFunc_any gf lb pr C hP none 0 [] w hC (by intro h; simp at h) hl)
    simp only [idx_def, List.findIdx?_nil, List.length_nil] at HI
    simp only [List.length_nil]
    clear hP hK hC
    go_enter Try.func43, Try.ntmps43
    go_wp2_with fail
    refine HI.out.mono ?_; rintro e w1 ⟨rfl, hu, hc⟩
    have HU := Lib.hid hu
    clear hu hc
    go_wp2_with fail
    go_ret
    exact ⟨by simp [keepL], .inl ⟨rfl, rfl, rfl⟩, HU.out.zero _⟩
  · refine (deleteFunc_any gf lb pr C hP g cap L w (fun W W' => hK W W' g (by simp [ownA])) h hC hl).mono ?_
    rintro e w' ⟨rfl, h1, h2, _⟩
    exact ⟨rfl, .inr ⟨g, rfl, h1⟩, h2⟩

set_option maxRecDepth 100000 in
set_option maxHeartbeats 2000000 in
theorem out_any (gf : Nat) (lb : Array Value) (pr : Mp → Bool) (C : World → Prop) (hP : Pred gf lb pr C) (t : Nat) (own : List Nat) (L : List Mp) (w : World) (hK : ∀ W W' g, g ∈ own → C W → Upd [g] W W' → C W') (h : At TlbT w t own L) (hC : C w) :
    Calls Try.prog 32 #[.pointer (some ⟨t, 0, none⟩), .func (.func gf) #[] lb] w (Chg TlbT t own w (.int .i64 ((L.length - (keepL pr L).length : Nat) : Int)) (keepL pr L)) := by
  have hlt := h.lt
  have hol := h.ownlt
  obtain ⟨A, cap, hb, hr, hown, hl⟩ := h
  have hta : t ∉ ownA A := hown ▸ (show At TlbT w t own L from ⟨A, cap, hb, hr, hown, hl⟩).out hb (by decide)
  have HD := Lib.hid (deleteFunc_row gf lb pr C hP A L.length cap L w (by rw [← hown]; exact hK) rfl hr hC (by omega))
  have hkl := keepL_le pr L
  have HB := Lib.hid hb
  have HTA := Lib.hid hta
  have hc := hb.cellAt (i := 0) rfl
  simp only [List.getElem_toArray, List.getElem_cons_zero] at hc
  have HOW := Lib.hid hown
  generalize hn : L.length = n at *
  generalize hk : (keepL pr L).length = k at *
  have HKL := Lib.hid hk
  have hwr : IntKind.i64.wrap ((n : Int) - (k : Int)) = ((n - k : Nat) : Int) := by rw [IntKind.wrap_i64]; omega
  have HWR := Lib.hid hwr
  clear hP hK hC hr hb hta hown hn hk hwr
  go_enter Try.func32, Try.ntmps32
  go_wp2_with fail
  refine HD.out.mono ?_; rintro e w1 ⟨rfl, hr1, hu1⟩
  have hb1 := HB.out.upd hu1 HTA.out
  have hc1 := hb1.cellAt (i := 0) rfl
  have hf1 := hb1.frozen 0
  have HAT := Lib.hid (at_store hb1 hr1 HKL.out (by omega) HTA.out)
  have HU1 := Lib.hid hu1
  have hc2 := (hb1.set_ 0 (.slice A k cap)).cellAt (i := 0) (v := .slice A k cap) rfl
  clear hr1 hu1 hb1
  go_wp2_with fail
  go_ret
  refine ⟨ownA A, ?_, HAT.out, fun g hg => .inl (by rw [HOW.out]; exact hg), ?_⟩
  · simp; omega
  · exact (HU1.out.mono (fun s hs => .inl (by rw [HOW.out]; simp [hs]))).setCell (.inl (by simp)) _

theorem pred_asid (a Ba : Nat) : Pred 33 #[.pointer (some ⟨Ba, 0, none⟩)] (fun m => decide (m.a = a)) (fun W => W.cell? ⟨Ba, 0, none⟩ = some (.int .u8 a)) :=
  ⟨enters_of Try.func33 (by kernel_rfl) rfl, fun W m h => asid1_any m a Ba W h, fun _ _ h hu => hu.lt_old h⟩
theorem pred_frame (a Ba : Nat) : Pred 34 #[.pointer (some ⟨Ba, 0, none⟩)] (fun m => decide (m.f = a)) (fun W => W.cell? ⟨Ba, 0, none⟩ = some (.int .u8 a)) :=
  ⟨enters_of Try.func34 (by kernel_rfl) rfl, fun W m h => frame1_any m a Ba W h, fun _ _ h hu => hu.lt_old h⟩

/-- A deed begun in a world behind w. -/
theorem Chg.since {T : TypeId} {t : Nat} {own : List Nat} {w w1 : World} {V : Value} {L' : List Mp} {e : Ending} {w' : World} (hu : Upd [] w w1) (h : Chg T t own w1 V L' e w') : Chg T t own w V L' e w' := by
  obtain ⟨own', h1, h2, h3, h4⟩ := h
  refine ⟨own', h1, h2, fun g hg => ?_, (hu.zero _).trans' h4⟩
  rcases h3 g hg with h | h
  · exact .inl h
  · exact .inr (Nat.le_trans hu.size h)
theorem Chg.with {T : TypeId} {t : Nat} {own : List Nat} {w : World} {V V' : Value} {L' : List Mp} {w' : World} (h : Chg T t own w V L' (.returned V) w') : Chg T t own w V' L' (.returned V') w' := by
  obtain ⟨own', _, h2, h3, h4⟩ := h
  exact ⟨own', rfl, h2, h3, h4⟩

set_option maxRecDepth 100000 in
set_option maxHeartbeats 2000000 in
theorem drop_any (t : Nat) (own : List Nat) (L : List Mp) (w : World) (h : At TlbT w t own L) (a p : Nat) :
    Calls Try.prog 25 #[.pointer (some ⟨t, 0, none⟩), .int .u8 a, .int .u8 p] w (Chg TlbT t own w (.bool (decide (0 < L.length - (keepL (isAt a p) L).length))) (keepL (isAt a p) L)) := by
  have hol := h.ownlt
  have hu : Upd [] w ((w.alloc (.cells #[.int .u8 a] 5)).alloc (.cells #[.int .u8 p] 5)) := ((Upd.refl [] w).alloc _).alloc _
  have hb1 := (Blk.new w 5 #[.int .u8 a]).alloc (.cells #[.int .u8 p] 5)
  have hb2 := Blk.new (w.alloc (.cells #[.int .u8 a] 5)) 5 #[.int .u8 p]
  rw [World.size_alloc] at hb2
  have HO := Lib.hid (out_any _ _ (isAt a p) _ (pred_of a p w.heap.size (w.heap.size + 1)) t own L _ (by
    intro W W' g hg hc hu
    have := hol g hg
    exact ⟨hu.cellAt hc.1 (by simp; omega), hu.cellAt hc.2 (by simp; omega)⟩) (h.upd0 hu) ⟨hb1.cellAt (i := 0) rfl, hb2.cellAt (i := 0) rfl⟩)
  have HU := Lib.hid hu
  clear hu hb1 hb2 h hol
  go_enter Try.func25, Try.ntmps25
  go_wp2_with fail
  refine (of_any a p w).mono ?_; rintro e w1 ⟨rfl, rfl⟩
  go_wp2_with fail
  refine HO.out.mono ?_; intro e w2 hc
  obtain ⟨own', rfl, h2, h3, h4⟩ := hc
  have HC := Lib.hid (Chg.since (V := .int .i64 0) HU.out ⟨own', rfl, h2, h3, h4⟩)
  clear h2 h3 h4
  go_wp2_with fail
  go_ret
  obtain ⟨own', _, h2, h3, h4⟩ := HC.out
  exact ⟨own', by simp, h2, h3, h4⟩

set_option maxRecDepth 100000 in
set_option maxHeartbeats 2000000 in
theorem asid_any (t : Nat) (own : List Nat) (L : List Mp) (w : World) (h : At TlbT w t own L) (a : Nat) :
    Calls Try.prog 19 #[.pointer (some ⟨t, 0, none⟩), .int .u8 a] w (Chg TlbT t own w (.int .i64 ((L.length - (keepL (fun m => decide (m.a = a)) L).length : Nat) : Int)) (keepL (fun m => decide (m.a = a)) L)) := by
  have hol := h.ownlt
  have hu : Upd [] w (w.alloc (.cells #[.int .u8 a] 5)) := (Upd.refl [] w).alloc _
  have hb1 := Blk.new w 5 #[.int .u8 a]
  have HO := Lib.hid (out_any _ _ _ _ (pred_asid a w.heap.size) t own L _ (by
    intro W W' g hg hc hu
    have := hol g hg
    exact hu.cellAt hc (by simp; omega)) (h.upd0 hu) (hb1.cellAt (i := 0) rfl))
  have HU := Lib.hid hu
  clear hu hb1 h hol
  go_enter Try.func19, Try.ntmps19
  go_wp2_with fail
  refine HO.out.mono ?_; intro e w2 hc
  obtain ⟨own', rfl, h2, h3, h4⟩ := hc
  have HC := Lib.hid (Chg.since (V := .int .i64 0) HU.out ⟨own', rfl, h2, h3, h4⟩)
  clear h2 h3 h4
  go_wp2_with fail
  go_ret
  obtain ⟨own', _, h2, h3, h4⟩ := HC.out
  exact ⟨own', by simp, h2, h3, h4⟩
set_option maxRecDepth 100000 in
set_option maxHeartbeats 2000000 in
theorem frame_any (t : Nat) (own : List Nat) (L : List Mp) (w : World) (h : At TlbT w t own L) (a : Nat) :
    Calls Try.prog 20 #[.pointer (some ⟨t, 0, none⟩), .int .u8 a] w (Chg TlbT t own w (.int .i64 ((L.length - (keepL (fun m => decide (m.f = a)) L).length : Nat) : Int)) (keepL (fun m => decide (m.f = a)) L)) := by
  have hol := h.ownlt
  have hu : Upd [] w (w.alloc (.cells #[.int .u8 a] 5)) := (Upd.refl [] w).alloc _
  have hb1 := Blk.new w 5 #[.int .u8 a]
  have HO := Lib.hid (out_any _ _ _ _ (pred_frame a w.heap.size) t own L _ (by
    intro W W' g hg hc hu
    have := hol g hg
    exact hu.cellAt hc (by simp; omega)) (h.upd0 hu) (hb1.cellAt (i := 0) rfl))
  have HU := Lib.hid hu
  clear hu hb1 h hol
  go_enter Try.func20, Try.ntmps20
  go_wp2_with fail
  refine HO.out.mono ?_; intro e w2 hc
  obtain ⟨own', rfl, h2, h3, h4⟩ := hc
  have HC := Lib.hid (Chg.since (V := .int .i64 0) HU.out ⟨own', rfl, h2, h3, h4⟩)
  clear h2 h3 h4
  go_wp2_with fail
  go_ret
  obtain ⟨own', _, h2, h3, h4⟩ := HC.out
  exact ⟨own', by simp, h2, h3, h4⟩

end Go.Proofs.Ytefjppebohnmjaa
