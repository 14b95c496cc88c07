/- The program's Insert. -/
import Derived.Test.YtefjppebohnmjaaTlbK
namespace Go.Proofs.Ytefjppebohnmjaa
open Go.RowKit Go.Shelf

def goneI (m : Mp) (L : List Mp) : Option Nat := match L.findIdx? (isAt m.a m.p) with
  | some i => some i
  | none => if 8 ≤ L.length then some 0 else none
def insL (m : Mp) (L : List Mp) : List Mp := (match goneI m L with | some i => L.eraseIdx i | none => L) ++ [m]
def insG (m : Mp) (L : List Mp) : Mp := match goneI m L with | some i => (L[i]?).getD mz | none => mz
def badM (m : Mp) : Bool := decide (16 ≤ m.p ∨ 64 ≤ m.f)
def insV (m : Mp) (L : List Mp) : Value := if badM m then .tuple #[.agg (encM mz).toArray, .bool false, .int .i64 2] else .tuple #[.agg (encM (insG m L)).toArray, .bool (goneI m L).isSome, .int .i64 0]
def insN (m : Mp) (L : List Mp) : List Mp := if badM m then L else insL m L

/-- A deed is done: it answers V, and what is at hand is then L'. -/
def Chg (T : TypeId) (t : Nat) (own : List Nat) (w : World) (V : Value) (L' : List Mp) (e : Ending) (w' : World) : Prop :=
  ∃ own', e = .returned V ∧ At T w' t own' L' ∧ (∀ g, g ∈ own' → g ∈ own ∨ w.heap.size ≤ g) ∧ Upd (t :: own) w w'
theorem at_store {T : TypeId} {W : World} {t n : Nat} {A : Option Addr} {cap : Nat} {L : List Mp} {v : Value} (hb : Blk W t T #[v]) (hr : Row W A cap L) (hn : L.length = n) (hl : n ≤ 8) (ht : t ∉ ownA A) :
    At T (W.setCell ⟨t, 0, none⟩ (.slice A n cap)) t (ownA A) L := by
  subst hn
  exact ⟨A, cap, hb.set_ 0 _, hr.upd ((Upd.refl [t] W).setCell (.inl (by simp)) _) (by intro k hk hkt; simp at hkt; subst hkt; exact ht hk), rfl, hl⟩
theorem chg_end {T : TypeId} {w w3 w6 : World} {t : Nat} {own own2 : List Nat} {L' : List Mp} {V : Value} {X B : Nat} (hat : At T w3 t own2 L') (ho : ∀ g, g ∈ own2 → g ∈ own ∨ B ≤ g) (hu : Upd (t :: own) w w3) (hu6 : Upd [X] w3 w6)
    (ht : t < w.heap.size) (hol : ∀ g, g ∈ own → g < w.heap.size) (h1 : w.heap.size ≤ X) (h2 : X < B) : Chg T t own w V L' (.returned V) w6 := by
  refine ⟨own2, rfl, hat.upd hu6 (by simp; omega) ?_, ?_, hu.trans hu6 (by intro s hs; simp at hs; right; omega)⟩
  · intro g hg hx
    simp at hx
    rcases ho g hg with h | h
    · have := hol g h; omega
    · omega
  · intro g hg
    rcases ho g hg with h | h
    · exact .inl h
    · right; omega
theorem TlbV.upd {w w' : World} {t : Nat} {A : Option Addr} {cap : Nat} {L : List Mp} (h : TlbV w t A cap L) (hu : Upd [] w w') : TlbV w' t A cap L := ⟨h.row.upd hu (by simp), h.rd.upd hu (by simp), h.le⟩
set_option maxRecDepth 100000 in
set_option maxHeartbeats 4000000 in
theorem ins_any (t : Nat) (own : List Nat) (L : List Mp) (w : World) (h : At TlbT w t own L) (m : Mp) :
    Calls Try.prog 21 #[.pointer (some ⟨t, 0, none⟩), .agg (encM m).toArray] w (Chg TlbT t own w (insV m L) (insN m L)) := by
  have HA := Lib.hid h
  have hlt := h.lt
  have hol := h.ownlt
  have hu0 := ((Upd.refl [] w).alloc (.cells (encM m).toArray 24)).alloc (.cells #[.int .u8 0, .int .u8 0, .int .u8 0, .bool false] 24)
  have hb3 := (Blk.new w 24 (encM m).toArray).alloc (.cells #[.int .u8 0, .int .u8 0, .int .u8 0, .bool false] 24)
  have hb4 := Blk.new (w.alloc (.cells (encM m).toArray 24)) 24 (encM mz).toArray
  rw [World.size_alloc] at hb4
  have p0 := hb3.cellAt (i := 0) (v := .int .u8 m.a) rfl
  have p1 := hb3.cellAt (i := 1) (v := .int .u8 m.p) rfl
  have p2 := hb3.cellAt (i := 2) (v := .int .u8 m.f) rfl
  have hy4 := blk_range hb4
  have HU0 := Lib.hid hu0
  have HOL := Lib.hid hol
  clear h hu0 hol
  cases hbad : badM m with
  | true =>
    have hv : insV m L = .tuple #[.agg (encM mz).toArray, .bool false, .int .i64 2] := by unfold insV; rw [hbad]; rfl
    have hn : insN m L = L := by unfold insN; rw [hbad]; rfl
    rw [hv, hn]
    have HB := Lib.hid hbad
    clear hv hn hbad
    by_cases h1 : 16 ≤ m.p
    · have j1 : (16 : Int) ≤ (m.p : Int) := by omega
      go_enter Try.func21, Try.ntmps21
      go_wp2_with (first
        | (refine wpList_load_map rfl _ rfl (w.heap.size + 1) 0 mz rfl hy4 ?_)
        | (refine wpList_store_map rfl _ _ rfl (w.heap.size + 1) mz mz rfl rfl hb4 ?_; intro w2 hb2 hu2))
      refine bodyPost_ret (res_ctt rfl _ _ (w.heap.size + 1) mz rfl hb2 _ _ rfl rfl) rfl ?_
      refine ⟨own, rfl, HA.out.upd ((HU0.out).trans hu2 (by simp)) (by simp) (by simp), fun g hg => .inl hg, (HU0.out.trans hu2 (by simp)).zero _⟩
    · have h2 : 64 ≤ m.f := by have := HB.out; unfold badM at this; simp at this; omega
      have j1 : ¬ (16 : Int) ≤ (m.p : Int) := by omega
      have j2 : (64 : Int) ≤ (m.f : Int) := by omega
      go_enter Try.func21, Try.ntmps21
      go_wp2_with (first
        | (refine wpList_load_map rfl _ rfl (w.heap.size + 1) 0 mz rfl hy4 ?_)
        | (refine wpList_store_map rfl _ _ rfl (w.heap.size + 1) mz mz rfl rfl hb4 ?_; intro w2 hb2 hu2))
      refine bodyPost_ret (res_ctt rfl _ _ (w.heap.size + 1) mz rfl hb2 _ _ rfl rfl) rfl ?_
      refine ⟨own, rfl, HA.out.upd ((HU0.out).trans hu2 (by simp)) (by simp) (by simp), fun g hg => .inl hg, (HU0.out.trans hu2 (by simp)).zero _⟩
  | false =>
    have hv : insV m L = .tuple #[.agg (encM (insG m L)).toArray, .bool (goneI m L).isSome, .int .i64 0] := by unfold insV; rw [hbad]; rfl
    have hn : insN m L = insL m L := by unfold insN; rw [hbad]; rfl
    rw [hv, hn]
    have j1 : ¬ (16 : Int) ≤ (m.p : Int) := by unfold badM at hbad; simp at hbad; omega
    have j2 : ¬ (64 : Int) ≤ (m.f : Int) := by unfold badM at hbad; simp at hbad; omega
    clear hv hn hbad
    obtain ⟨A, cap, hb, hr, rfl, hl⟩ := HA.out
    have HAt := Lib.hid (at_any t A cap L _ ((⟨hb, hr.reads, by omega⟩ : TlbV w t A cap L).upd HU0.out) m.a m.p)
    rw [idx_def] at HAt
    cases hq : L.findIdx? (isAt m.a m.p) with
    | none =>
      rw [hq] at HAt
      simp only at HAt
      by_cases h8 : 8 ≤ L.length
      · have HGO := Lib.hid (show goneI m L = some 0 by unfold goneI; rw [hq]; simp [h8])
        have HIL := Lib.hid (show 0 < L.length by omega)
        have hil : 0 < L.length := HIL.out
        obtain ⟨mi, hm⟩ : ∃ mi, L[0]? = some mi := ⟨_, List.getElem?_eq_getElem hil⟩
        have hg : goneI m L = some 0 := HGO.out
        have hi : insL m L = L.eraseIdx 0 ++ [m] := by unfold insL; rw [hg]
        have hz : insG m L = mi := by unfold insG; rw [hg]; simp [hm]
        rw [hi, hz, hg]
        obtain ⟨g, rfl, hrg⟩ : ∃ g, A = some ⟨g, 0, none⟩ ∧ RowAt w g cap L := by
          rcases hr with ⟨_, _, rfl⟩ | hr
          · simp at hil
          · exact hr
        clear hr
        obtain ⟨b, o, hbo, hcs⟩ := hrg.reads (by omega)
        simp at hbo
        obtain ⟨rfl, rfl⟩ := hbo
        have hra : ∀ W, Upd [] w W → W.rangeAt g (0) (encM mi) := fun W hu j v hv => hu.cellAt (by have := hcs 0 mi hm j v hv; simpa using this) (by simp)
        have HRA := Lib.hid hra
        have HDEL := Lib.hid (fun W (hW : RowAt W g cap L) => delete_any g cap L 0 hil W hW)
        have HRG := Lib.hid hrg
        have HBT := Lib.hid hb
        have HTA := Lib.hid (HA.out.out hb (by decide))
        have hc0 := hb.upd HU0.out (by simp)
        have hgl := hrg.lt
        have HN := Lib.hid (show (L.eraseIdx 0).length = L.length - 1 by rw [List.length_eraseIdx, if_pos hil])
        obtain ⟨n, hn⟩ : ∃ n, L.length = n + 1 := ⟨L.length - 1, by omega⟩
        rw [hn] at HN HDEL hil hl hc0 HBT
        rw [Nat.add_sub_cancel] at HN
        simp only [Nat.add_sub_cancel] at HDEL
        have j8 : (8 : Int) ≤ ((n + 1 : Nat) : Int) := by omega
        simp only [Int.ofNat_zero, Int.zero_add] at HDEL
        clear hq hg hi hz hb hra hrg hcs hm hn
        go_enter Try.func21, Try.ntmps21
        go_wp2_with fail
        refine HAt.out.mono ?_; rintro e w1 ⟨rfl, hu1⟩
        have HU1 := Lib.hid (HU0.out.trans0 hu1)
        have hc1 := (hc0.upd hu1 (by simp)).cellAt (i := 0) rfl
        simp only [List.getElem_toArray, List.getElem_cons_zero] at hc1
        have HB3 := Lib.hid (hb3.upd hu1 (by simp))
        have hb4w := (hb4.upd hu1 (by simp))
        have hra1 := HRA.out w1 HU1.out
        clear hu1 hb3 hb4 p0 p1 p2 hy4 hc0
        go_wp2_with (first
          | (refine wpList_load_map rfl _ rfl g (0) mi rfl hra1 ?_)
          | (refine wpList_store_map rfl _ _ rfl (w.heap.size + 1) mi mz rfl rfl hb4w ?_; intro w2 hb2 hu2; have hbt2 := (HBT.out.upd HU1.out (by simp)).upd hu2 (by simp; omega); have hc2 := hbt2.cellAt (i := 0) rfl; simp only [List.getElem_toArray, List.getElem_cons_zero] at hc2; have HBT2 := Lib.hid hbt2; have HB2 := Lib.hid hb2; have HU2 := Lib.hid hu2; clear hb2 hu2 hbt2))
        refine (HDEL.out w2 ((HRG.out.upd HU1.out (by simp)).upd HU2.out (by simp; omega))).mono ?_; rintro e w3 ⟨rfl, hr3, hu3⟩
        have hb3t := HBT2.out.upd hu3 (by have := HTA.out; simp [ownA] at this; simp; exact this)
        have hc3 := hb3t.cellAt (i := 0) rfl
        have hf3 := hb3t.frozen 0
        have HRR := Lib.hid hr3
        have HU3 := Lib.hid hu3
        have HB3T := Lib.hid hb3t
        clear hr3 hu3 hb3t
        go_wp2_with fail
        have HU4 : Hid (Upd (t :: ownA (some ⟨g, 0, none⟩)) w (w3.setCell ⟨t, 0, none⟩ (.slice (some ⟨g, 0, none⟩) n cap))) := Lib.hid (((((HU1.out.zero (t :: ownA (some ⟨g, 0, none⟩)))).trans HU2.out (by intro s hs; simp at hs; right; omega)).trans HU3.out (by intro s hs; left; simp [ownA] at hs ⊢; exact .inr hs)).setCell (.inl (by simp)) _)
        have HB1 := Lib.hid (HB3T.out.set_ 0 (.slice (some ⟨g, 0, none⟩) n cap))
        have htg : t ≠ g := by have := HTA.out; simp [ownA] at this; exact this
        have HR1 : Hid (Row (w3.setCell ⟨t, 0, none⟩ (.slice (some ⟨g, 0, none⟩) n cap)) (some ⟨g, 0, none⟩) cap (L.eraseIdx 0)) := Lib.hid (.inr ⟨g, rfl, HRR.out.upd ((Upd.refl [t] w3).setCell (.inl (by simp)) _) (by simp; exact fun h => htg h.symm)⟩)
        have HB3' := Lib.hid (((HB3.out.upd HU2.out (by simp)).upd HU3.out (by simp; omega)).far (p := ⟨t, 0, none⟩) (by simp; omega) (.slice (some ⟨g, 0, none⟩) n cap))
        have HB4' := Lib.hid ((HB2.out.upd HU3.out (by simp; omega)).far (p := ⟨t, 0, none⟩) (by simp; omega) (.slice (some ⟨g, 0, none⟩) n cap))
        generalize w3.setCell ⟨t, 0, none⟩ (.slice (some ⟨g, 0, none⟩) n cap) = w4 at *
        have hbt1 := HB1.out
        have HX := Lib.hid (xs_one w4 m)
        clear HB3 HU3 HU2 HU1 HB3T HBT HBT2 HB2 HRR hb4w hra1
        have HB3 := HB3'
        have HB4 := HB4'
        have HU1 := HU4
        clear HB3' HB4' HU4
        have hlt1 := HU1.out.size
        have q0 := HB3.out.drew.cellAt (i := 0) (v := .int .u8 m.a) rfl
        have q1 := HB3.out.drew.cellAt (i := 1) (v := .int .u8 m.p) rfl
        have q2 := HB3.out.drew.cellAt (i := 2) (v := .int .u8 m.f) rfl
        have q3 := HB3.out.drew.cellAt (i := 3) (v := .bool m.w) rfl
        have d1 := hbt1.drew.cellAt (i := 0) rfl
        have d2 := (hbt1.alloc (.cells #[.int .u8 m.a, .int .u8 m.p, .int .u8 m.f, .bool m.w] 24)).drew.cellAt (i := 0) rfl
        try simp only [List.getElem_toArray, List.getElem_cons_zero] at d1 d2
        clear hbt1
        go_region_law (first
          | (refine step_app rfl (.tmp 60) (.tmp 62) rfl (some ⟨g, 0, none⟩) n cap (L.eraseIdx 0) HN.out rfl (HR1.out.upd (((Upd.refl [] w4).alloc _).drew) (by simp)) (.slice (some ⟨w4.heap.size, 0, none⟩) 1 1) rfl 1 [m] HX.out (by omega) ?_; intro A2 cap2 W2 hr2 hu2 ho2; have hb7 := ((HB1.out.alloc (.cells (encM m).toArray MapT)).drew.upd hu2 HTA.out); have hc7 := hb7.cellAt (i := 0) rfl; have hf7 := hb7.frozen 0; have HR2 := Lib.hid hr2; have HU3 := Lib.hid hu2; have HO2 := Lib.hid ho2; have HB7 := Lib.hid hb7; clear hr2 hu2 ho2 hb7))
        all_goals
          have htA : t ∉ ownA A2 := by
            intro hg
            rcases HO2.out t hg with h | h
            · exact HTA.out h
            · simp at h; omega
          have hat := at_store (n := n + 1) HB7.out HR2.out (by rw [List.length_append, HN.out]; rfl) (by omega) htA
          have hU : Upd (t :: ownA (some (⟨g, 0, none⟩ : Addr))) w (W2.setCell ⟨t, 0, none⟩ (.slice A2 (n + 1) cap2)) := (((HU1.out.alloc (.cells (encM m).toArray MapT)).drew).trans HU3.out (by intro s hs; left; simp [hs])).setCell (.inl (by simp)) _
          have hO : ∀ k, k ∈ ownA A2 → k ∈ ownA (some (⟨g, 0, none⟩ : Addr)) ∨ w4.heap.size ≤ k := by
            intro k hk
            rcases HO2.out k hk with h | h
            · exact .inl h
            · simp at h; right; omega
          have hx4 := ((HB4.out.alloc (.cells (encM m).toArray MapT)).drew.upd HU3.out (by intro h; have := HOL.out _ h; omega)).far (p := ⟨t, 0, none⟩) (by simp; omega) (.slice A2 (n + 1) cap2)
          have hy4 := blk_range hx4
          have hw4 := HB4.out.lt
          have HAT := Lib.hid hat
          have HUT := Lib.hid hU
          have HO3 := Lib.hid hO
          clear hat hU hO htA
          go_wp2_with (first
            | (refine wpList_load_map rfl _ rfl (w.heap.size + 1) 0 mi rfl hy4 ?_)
            | (refine wpList_store_map rfl _ _ rfl (w.heap.size + 1) mi mi rfl rfl hx4 ?_; intro w6 hb6 hu6))
          refine bodyPost_ret (res_ctt rfl _ _ (w.heap.size + 1) mi rfl hb6 _ _ rfl rfl) rfl ?_
          exact chg_end HAT.out HO3.out HUT.out hu6 hlt HOL.out (by omega) hw4
      · have hg : goneI m L = none := by unfold goneI; rw [hq]; simp [h8]
        have hi : insL m L = L ++ [m] := by unfold insL; rw [hg]
        have hz : insG m L = mz := by unfold insG; rw [hg]
        rw [hi, hz, hg]
        have j8 : ¬ (8 : Int) ≤ (L.length : Int) := by omega
        have hc0 := hb.upd HU0.out (by simp)
        have HBT := Lib.hid hb
        have HR := Lib.hid hr
        have HTA := Lib.hid (HA.out.out hb (by decide))
        generalize hn : L.length = n at *
        have HN := Lib.hid hn
        clear hq hg hi hz hn hb hr
        go_enter Try.func21, Try.ntmps21
        go_wp2_with fail
        refine HAt.out.mono ?_; rintro e w1 ⟨rfl, hu1⟩
        have HU1 := Lib.hid (HU0.out.trans0 hu1)
        have hc1 := (hc0.upd hu1 (by simp)).cellAt (i := 0) rfl
        simp only [List.getElem_toArray, List.getElem_cons_zero] at hc1
        have HB3 := Lib.hid (hb3.upd hu1 (by simp))
        have HB4 := Lib.hid (hb4.upd hu1 (by simp))
        clear hu1 hb3 hb4 p0 p1 p2 hy4 hc0
        go_wp2_with fail
        have hbt1 := (HBT.out.upd HU1.out (by simp))
        have HR1 := Lib.hid (HR.out.upd HU1.out (by simp))
        have HB1 := Lib.hid hbt1
        have HX := Lib.hid (xs_one w1 m)
        have hlt1 := HU1.out.size
        have q0 := HB3.out.drew.cellAt (i := 0) (v := .int .u8 m.a) rfl
        have q1 := HB3.out.drew.cellAt (i := 1) (v := .int .u8 m.p) rfl
        have q2 := HB3.out.drew.cellAt (i := 2) (v := .int .u8 m.f) rfl
        have q3 := HB3.out.drew.cellAt (i := 3) (v := .bool m.w) rfl
        have d1 := hbt1.drew.cellAt (i := 0) rfl
        have d2 := (hbt1.alloc (.cells #[.int .u8 m.a, .int .u8 m.p, .int .u8 m.f, .bool m.w] 24)).drew.cellAt (i := 0) rfl
        try simp only [List.getElem_toArray, List.getElem_cons_zero] at d1 d2
        clear hbt1
        go_region_law (first
          | (refine step_app rfl (.tmp 60) (.tmp 62) rfl A n cap L HN.out rfl (HR1.out.upd (((Upd.refl [] w1).alloc _).drew) (by simp)) (.slice (some ⟨w1.heap.size, 0, none⟩) 1 1) rfl 1 [m] HX.out (by omega) ?_; intro A2 cap2 W2 hr2 hu2 ho2; have hb7 := ((HB1.out.alloc (.cells (encM m).toArray MapT)).drew.upd hu2 HTA.out); have hc7 := hb7.cellAt (i := 0) rfl; have hf7 := hb7.frozen 0; have HR2 := Lib.hid hr2; have HU3 := Lib.hid hu2; have HO2 := Lib.hid ho2; have HB7 := Lib.hid hb7; clear hr2 hu2 ho2 hb7))
        all_goals
          have htA : t ∉ ownA A2 := by
            intro hg
            rcases HO2.out t hg with h | h
            · exact HTA.out h
            · simp at h; omega
          have hat := at_store (n := n + 1) HB7.out HR2.out (by rw [List.length_append, HN.out]; rfl) (by omega) htA
          have hU : Upd (t :: ownA A) w (W2.setCell ⟨t, 0, none⟩ (.slice A2 (n + 1) cap2)) := (((HU1.out.alloc (.cells (encM m).toArray MapT)).drew.zero (t :: ownA A)).trans HU3.out (by intro s hs; left; simp [hs])).setCell (.inl (by simp)) _
          have hO : ∀ k, k ∈ ownA A2 → k ∈ ownA A ∨ w1.heap.size ≤ k := by
            intro k hk
            rcases HO2.out k hk with h | h
            · exact .inl h
            · simp at h; right; omega
          have hx4 := ((HB4.out.alloc (.cells (encM m).toArray MapT)).drew.upd HU3.out (by intro h; have := HOL.out _ h; omega)).far (p := ⟨t, 0, none⟩) (by simp; omega) (.slice A2 (n + 1) cap2)
          have hy4 := blk_range hx4
          have hw1 := HB4.out.lt
          have HAT := Lib.hid hat
          have HUT := Lib.hid hU
          have HO3 := Lib.hid hO
          clear hat hU hO htA
          go_wp2_with (first
            | (refine wpList_load_map rfl _ rfl (w.heap.size + 1) 0 mz rfl hy4 ?_)
            | (refine wpList_store_map rfl _ _ rfl (w.heap.size + 1) mz mz rfl rfl hx4 ?_; intro w6 hb6 hu6))
          refine bodyPost_ret (res_ctt rfl _ _ (w.heap.size + 1) mz rfl hb6 _ _ rfl rfl) rfl ?_
          exact chg_end HAT.out HO3.out HUT.out hu6 hlt HOL.out (by omega) hw1
    | some i =>
      rw [hq] at HAt
      simp only at HAt
      have HGO := Lib.hid (show goneI m L = some i by unfold goneI; rw [hq])
      have HIL := Lib.hid (show i < L.length by obtain ⟨x, hx, _⟩ := findIdx_spec _ L i hq; exact (List.getElem?_eq_some_iff.1 hx).1)
      have hil : i < L.length := HIL.out
      obtain ⟨mi, hm⟩ : ∃ mi, L[i]? = some mi := ⟨_, List.getElem?_eq_getElem hil⟩
      have hg : goneI m L = some i := HGO.out
      have hi : insL m L = L.eraseIdx i ++ [m] := by unfold insL; rw [hg]
      have hz : insG m L = mi := by unfold insG; rw [hg]; simp [hm]
      rw [hi, hz, hg]
      obtain ⟨g, rfl, hrg⟩ : ∃ g, A = some ⟨g, 0, none⟩ ∧ RowAt w g cap L := by
        rcases hr with ⟨_, _, rfl⟩ | hr
        · simp at hil
        · exact hr
      clear hr
      obtain ⟨b, o, hbo, hcs⟩ := hrg.reads (by omega)
      simp at hbo
      obtain ⟨rfl, rfl⟩ := hbo
      have hra : ∀ W, Upd [] w W → W.rangeAt g (i * 4) (encM mi) := fun W hu j v hv => hu.cellAt (by have := hcs i mi hm j v hv; simpa using this) (by simp)
      have HRA := Lib.hid hra
      have HDEL := Lib.hid (fun W (hW : RowAt W g cap L) => delete_any g cap L i hil W hW)
      have HRG := Lib.hid hrg
      have HBT := Lib.hid hb
      have HTA := Lib.hid (HA.out.out hb (by decide))
      have hc0 := hb.upd HU0.out (by simp)
      have hgl := hrg.lt
      have HN := Lib.hid (show (L.eraseIdx i).length = L.length - 1 by rw [List.length_eraseIdx, if_pos hil])
      obtain ⟨n, hn⟩ : ∃ n, L.length = n + 1 := ⟨L.length - 1, by omega⟩
      rw [hn] at HN HDEL hil hl hc0 HBT
      rw [Nat.add_sub_cancel] at HN
      simp only [Nat.add_sub_cancel] at HDEL
      have i0 : (0 : Int) ≤ (i : Int) := by omega
      have i1 : (i : Int) < ((n + 1 : Nat) : Int) := by omega
      have i2 : ¬ (i : Int) < 0 := by omega
      have hwr : IntKind.i64.wrap ((i : Int) + 1) = (i : Int) + 1 := by rw [IntKind.wrap_i64]; omega
      clear hq hg hi hz hb hra hrg hcs hm hn
      go_enter Try.func21, Try.ntmps21
      go_wp2_with fail
      refine HAt.out.mono ?_; rintro e w1 ⟨rfl, hu1⟩
      have HU1 := Lib.hid (HU0.out.trans0 hu1)
      have hc1 := (hc0.upd hu1 (by simp)).cellAt (i := 0) rfl
      simp only [List.getElem_toArray, List.getElem_cons_zero] at hc1
      have HB3 := Lib.hid (hb3.upd hu1 (by simp))
      have hb4w := (hb4.upd hu1 (by simp))
      have hra1 := HRA.out w1 HU1.out
      clear hu1 hb3 hb4 p0 p1 p2 hy4 hc0
      go_wp2_with (first
        | (refine wpList_load_map rfl _ rfl g (i * 4) mi rfl hra1 ?_)
        | (refine wpList_store_map rfl _ _ rfl (w.heap.size + 1) mi mz rfl rfl hb4w ?_; intro w2 hb2 hu2; have hbt2 := (HBT.out.upd HU1.out (by simp)).upd hu2 (by simp; omega); have hc2 := hbt2.cellAt (i := 0) rfl; simp only [List.getElem_toArray, List.getElem_cons_zero] at hc2; have HBT2 := Lib.hid hbt2; have HB2 := Lib.hid hb2; have HU2 := Lib.hid hu2; clear hb2 hu2 hbt2))
      refine (HDEL.out w2 ((HRG.out.upd HU1.out (by simp)).upd HU2.out (by simp; omega))).mono ?_; rintro e w3 ⟨rfl, hr3, hu3⟩
      have hb3t := HBT2.out.upd hu3 (by have := HTA.out; simp [ownA] at this; simp; exact this)
      have hc3 := hb3t.cellAt (i := 0) rfl
      have hf3 := hb3t.frozen 0
      have HRR := Lib.hid hr3
      have HU3 := Lib.hid hu3
      have HB3T := Lib.hid hb3t
      clear hr3 hu3 hb3t
      go_wp2_with fail
      have HU4 : Hid (Upd (t :: ownA (some ⟨g, 0, none⟩)) w (w3.setCell ⟨t, 0, none⟩ (.slice (some ⟨g, 0, none⟩) n cap))) := Lib.hid (((((HU1.out.zero (t :: ownA (some ⟨g, 0, none⟩)))).trans HU2.out (by intro s hs; simp at hs; right; omega)).trans HU3.out (by intro s hs; left; simp [ownA] at hs ⊢; exact .inr hs)).setCell (.inl (by simp)) _)
      have HB1 := Lib.hid (HB3T.out.set_ 0 (.slice (some ⟨g, 0, none⟩) n cap))
      have htg : t ≠ g := by have := HTA.out; simp [ownA] at this; exact this
      have HR1 : Hid (Row (w3.setCell ⟨t, 0, none⟩ (.slice (some ⟨g, 0, none⟩) n cap)) (some ⟨g, 0, none⟩) cap (L.eraseIdx i)) := Lib.hid (.inr ⟨g, rfl, HRR.out.upd ((Upd.refl [t] w3).setCell (.inl (by simp)) _) (by simp; exact fun h => htg h.symm)⟩)
      have HB3' := Lib.hid (((HB3.out.upd HU2.out (by simp)).upd HU3.out (by simp; omega)).far (p := ⟨t, 0, none⟩) (by simp; omega) (.slice (some ⟨g, 0, none⟩) n cap))
      have HB4' := Lib.hid ((HB2.out.upd HU3.out (by simp; omega)).far (p := ⟨t, 0, none⟩) (by simp; omega) (.slice (some ⟨g, 0, none⟩) n cap))
      generalize w3.setCell ⟨t, 0, none⟩ (.slice (some ⟨g, 0, none⟩) n cap) = w4 at *
      have hbt1 := HB1.out
      have HX := Lib.hid (xs_one w4 m)
      clear HB3 HU3 HU2 HU1 HB3T HBT HBT2 HB2 HRR hb4w hra1
      have HB3 := HB3'
      have HB4 := HB4'
      have HU1 := HU4
      clear HB3' HB4' HU4
      have hlt1 := HU1.out.size
      have q0 := HB3.out.drew.cellAt (i := 0) (v := .int .u8 m.a) rfl
      have q1 := HB3.out.drew.cellAt (i := 1) (v := .int .u8 m.p) rfl
      have q2 := HB3.out.drew.cellAt (i := 2) (v := .int .u8 m.f) rfl
      have q3 := HB3.out.drew.cellAt (i := 3) (v := .bool m.w) rfl
      have d1 := hbt1.drew.cellAt (i := 0) rfl
      have d2 := (hbt1.alloc (.cells #[.int .u8 m.a, .int .u8 m.p, .int .u8 m.f, .bool m.w] 24)).drew.cellAt (i := 0) rfl
      try simp only [List.getElem_toArray, List.getElem_cons_zero] at d1 d2
      clear hbt1
      go_region_law (first
        | (refine step_app rfl (.tmp 60) (.tmp 62) rfl (some ⟨g, 0, none⟩) n cap (L.eraseIdx i) HN.out rfl (HR1.out.upd (((Upd.refl [] w4).alloc _).drew) (by simp)) (.slice (some ⟨w4.heap.size, 0, none⟩) 1 1) rfl 1 [m] HX.out (by omega) ?_; intro A2 cap2 W2 hr2 hu2 ho2; have hb7 := ((HB1.out.alloc (.cells (encM m).toArray MapT)).drew.upd hu2 HTA.out); have hc7 := hb7.cellAt (i := 0) rfl; have hf7 := hb7.frozen 0; have HR2 := Lib.hid hr2; have HU3 := Lib.hid hu2; have HO2 := Lib.hid ho2; have HB7 := Lib.hid hb7; clear hr2 hu2 ho2 hb7))
      all_goals
        have htA : t ∉ ownA A2 := by
          intro hg
          rcases HO2.out t hg with h | h
          · exact HTA.out h
          · simp at h; omega
        have hat := at_store (n := n + 1) HB7.out HR2.out (by rw [List.length_append, HN.out]; rfl) (by omega) htA
        have hU : Upd (t :: ownA (some (⟨g, 0, none⟩ : Addr))) w (W2.setCell ⟨t, 0, none⟩ (.slice A2 (n + 1) cap2)) := (((HU1.out.alloc (.cells (encM m).toArray MapT)).drew).trans HU3.out (by intro s hs; left; simp [hs])).setCell (.inl (by simp)) _
        have hO : ∀ k, k ∈ ownA A2 → k ∈ ownA (some (⟨g, 0, none⟩ : Addr)) ∨ w4.heap.size ≤ k := by
          intro k hk
          rcases HO2.out k hk with h | h
          · exact .inl h
          · simp at h; right; omega
        have hx4 := ((HB4.out.alloc (.cells (encM m).toArray MapT)).drew.upd HU3.out (by intro h; have := HOL.out _ h; omega)).far (p := ⟨t, 0, none⟩) (by simp; omega) (.slice A2 (n + 1) cap2)
        have hy4 := blk_range hx4
        have hw4 := HB4.out.lt
        have HAT := Lib.hid hat
        have HUT := Lib.hid hU
        have HO3 := Lib.hid hO
        clear hat hU hO htA
        go_wp2_with (first
          | (refine wpList_load_map rfl _ rfl (w.heap.size + 1) 0 mi rfl hy4 ?_)
          | (refine wpList_store_map rfl _ _ rfl (w.heap.size + 1) mi mi rfl rfl hx4 ?_; intro w6 hb6 hu6))
        refine bodyPost_ret (res_ctt rfl _ _ (w.heap.size + 1) mi rfl hb6 _ _ rfl rfl) rfl ?_
        exact chg_end HAT.out HO3.out HUT.out hu6 hlt HOL.out (by omega) hw4

end Go.Proofs.Ytefjppebohnmjaa
