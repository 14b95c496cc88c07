/- The reference's Insert. -/
import Derived.Test.YtefjppebohnmjaaTlbL
namespace Go.Proofs.Ytefjppebohnmjaa
open Go.RowKit Go.Shelf

theorem Xs.drew {w : World} {X : Value} {k : Nat} {K : List Mp} (h : Xs w X k K) : Xs w.drew X k K := h

set_option maxRecDepth 100000 in
set_option maxHeartbeats 8000000 in
theorem rins_any (t : Nat) (own : List Nat) (L : List Mp) (w : World) (h : At RefT w t own L) (m : Mp) :
    Calls Try.prog 36 #[.pointer (some ⟨t, 0, none⟩), .agg (encM m).toArray] w (Chg RefT t own w (insV m L) (insN m L)) := by
  have hlt := h.lt
  have hol := h.ownlt
  have hu0 := ((Upd.refl [] w).alloc (.cells (encM m).toArray 24)).alloc (.cells #[.int .u8 0, .int .u8 0, .int .u8 0, .bool false] 24)
  have hb3 := (Blk.new w 24 (encM m).toArray).alloc (.cells #[.int .u8 0, .int .u8 0, .int .u8 0, .bool false] 24)
  have hb4 := Blk.new (w.alloc (.cells (encM m).toArray 24)) 24 (encM mz).toArray
  rw [World.size_alloc] at hb4
  have p0 := hb3.cellAt (i := 0) (v := .int .u8 m.a) rfl
  have p1 := hb3.cellAt (i := 1) (v := .int .u8 m.p) rfl
  have p2 := hb3.cellAt (i := 2) (v := .int .u8 m.f) rfl
  have hy4 := blk_range hb4
  have HA := Lib.hid h
  have HU0 := Lib.hid hu0
  have HOL := Lib.hid hol
  clear h hu0 hol
  cases hbad : badM m with
  | true =>
    have hv : insV m L = .tuple #[.agg (encM mz).toArray, .bool false, .int .i64 2] := by unfold insV; rw [hbad]; rfl
    have hn : insN m L = L := by unfold insN; rw [hbad]; rfl
    rw [hv, hn]
    have HB := Lib.hid hbad
    clear hv hn hbad
    by_cases h1 : 16 ≤ m.p
    · have j1 : (16 : Int) ≤ (m.p : Int) := by omega
      go_enter Try.func36, Try.ntmps36
      go_wp2_with (first
        | (refine wpList_load_map rfl _ rfl (w.heap.size + 1) 0 mz rfl hy4 ?_)
        | (refine wpList_store_map rfl _ _ rfl (w.heap.size + 1) mz mz rfl rfl hb4 ?_; intro w2 hb2 hu2))
      refine bodyPost_ret (res_ctt rfl _ _ (w.heap.size + 1) mz rfl hb2 _ _ rfl rfl) rfl ?_
      refine ⟨own, rfl, HA.out.upd ((HU0.out).trans hu2 (by simp)) (by simp) (by simp), fun g hg => .inl hg, (HU0.out.trans hu2 (by simp)).zero _⟩
    · have h2 : 64 ≤ m.f := by have := HB.out; unfold badM at this; simp at this; omega
      have j1 : ¬ (16 : Int) ≤ (m.p : Int) := by omega
      have j2 : (64 : Int) ≤ (m.f : Int) := by omega
      go_enter Try.func36, Try.ntmps36
      go_wp2_with (first
        | (refine wpList_load_map rfl _ rfl (w.heap.size + 1) 0 mz rfl hy4 ?_)
        | (refine wpList_store_map rfl _ _ rfl (w.heap.size + 1) mz mz rfl rfl hb4 ?_; intro w2 hb2 hu2))
      refine bodyPost_ret (res_ctt rfl _ _ (w.heap.size + 1) mz rfl hb2 _ _ rfl rfl) rfl ?_
      refine ⟨own, rfl, HA.out.upd ((HU0.out).trans hu2 (by simp)) (by simp) (by simp), fun g hg => .inl hg, (HU0.out.trans hu2 (by simp)).zero _⟩
  | false =>
    have hv : insV m L = .tuple #[.agg (encM (insG m L)).toArray, .bool (goneI m L).isSome, .int .i64 0] := by unfold insV; rw [hbad]; rfl
    have hn : insN m L = insL m L := by unfold insN; rw [hbad]; rfl
    rw [hv, hn]
    have j1 : ¬ (16 : Int) ≤ (m.p : Int) := by unfold badM at hbad; simp at hbad; omega
    have j2 : ¬ (64 : Int) ≤ (m.f : Int) := by unfold badM at hbad; simp at hbad; omega
    clear hv hn hbad
    have hl : L.length ≤ 8 := by obtain ⟨_, _, _, _, _, hl⟩ := HA.out; exact hl
    have HAt := Lib.hid (rat_any t own L _ (HA.out.upd0 HU0.out) m.a m.p)
    rw [idx_def] at HAt
    cases hq : L.findIdx? (isAt m.a m.p) with
    | none =>
      rw [hq] at HAt
      simp only at HAt
      by_cases h8 : 8 ≤ L.length
      · have HGO := Lib.hid (show goneI m L = some 0 by unfold goneI; rw [hq]; simp [h8])
        have HIL := Lib.hid (show 0 < L.length by omega)
        have hil : 0 < L.length := HIL.out
        obtain ⟨mi, hm⟩ : ∃ mi, L[0]? = some mi := ⟨_, List.getElem?_eq_getElem hil⟩
        have hg : goneI m L = some 0 := HGO.out
        have hi : insL m L = L.eraseIdx 0 ++ [m] := by unfold insL; rw [hg]
        have hz : insG m L = mi := by unfold insG; rw [hg]; simp [hm]
        rw [hi, hz, hg]
        obtain ⟨A0, cap0, hb, hr, hown, _⟩ := HA.out
        have hc0 := hb.upd HU0.out (by simp)
        have HN := Lib.hid (show (L.eraseIdx 0).length = L.length - 1 by rw [List.length_eraseIdx, if_pos hil])
        have HCUT := Lib.hid (fun W (hW : At RefT W t own L) => cut_any t own L W hW 0 mi hm)
        have HA2 := Lib.hid HA.out
        obtain ⟨n, hn⟩ : ∃ n, L.length = n + 1 := ⟨L.length - 1, by omega⟩
        rw [hn] at HN hil hl hc0
        rw [Nat.add_sub_cancel] at HN
        have j8 : ((n + 1 : Nat) : Int) = 8 := by omega
        simp only [Int.ofNat_zero] at HCUT
        clear hq hg hi hz hb hr hm hn hown
        go_enter Try.func36, Try.ntmps36
        go_wp2_with fail
        refine HAt.out.mono ?_; rintro e w1 ⟨rfl, hu1⟩
        have hc1 := (hc0.upd hu1 (by simp)).cellAt (i := 0) rfl
        simp only [List.getElem_toArray, List.getElem_cons_zero] at hc1
        have HU1' := Lib.hid (HU0.out.trans0 hu1)
        have HB31 := Lib.hid ((hb3.upd hu1 (by simp)).alloc (.cells #[.int .u8 0, .int .u8 0, .int .u8 0, .bool false] 24))
        have HB41 := Lib.hid ((hb4.upd hu1 (by simp)).alloc (.cells #[.int .u8 0, .int .u8 0, .int .u8 0, .bool false] 24))
        have hsz1 := hu1.size
        simp only [World.size_alloc] at hsz1
        clear hu1 hb3 hb4 p0 p1 p2 hy4 hc0
        go_wp2_with fail
        have HB81 := Lib.hid (Blk.new w1 24 (encM mz).toArray)
        have HUX1 := Lib.hid (HU1'.out.alloc (.cells #[.int .u8 0, .int .u8 0, .int .u8 0, .bool false] 24))
        refine (HCUT.out _ (HA.out.upd0 HUX1.out)).mono ?_; rintro e w3 ⟨own3, rfl, hat3, hO3, hu3⟩
        simp only [World.size_alloc] at hO3
        have hb83 := HB81.out.upd hu3 (by simp; omega)
        have HU3 := Lib.hid hu3
        have HAT3 := Lib.hid hat3
        have HO30 := Lib.hid hO3
        clear hu3 hat3 hO3 hc1
        go_wp2_with (refine wpList_store_map rfl _ _ rfl w1.heap.size mi mz rfl rfl hb83 ?_; intro W0 hb80 hu80)
        obtain ⟨A, cap, hbT, hrT, hown3, _⟩ := HAT3.out.upd hu80 (by simp; omega) (by intro k hk hks; have := HO30.out k hk; simp at hks; omega)
        have HBT := Lib.hid hbT
        have HRT := Lib.hid hrT.xs
        rw [HN.out] at HBT HRT
        have HB3' := Lib.hid ((HB31.out.upd HU3.out (by simp; omega)).upd hu80 (by simp; omega))
        have HB4' := Lib.hid ((HB41.out.upd HU3.out (by simp; omega)).upd hu80 (by simp; omega))
        have HUW : Hid (Upd (t :: own) w W0) := Lib.hid (((HUX1.out.zero (t :: own)).trans HU3.out (by intro s hs; left; simp at hs; simp [hs])).trans hu80 (by intro s hs; simp at hs; right; omega))
        have HB8 := Lib.hid hb80
        clear hbT hrT hown3 hu80 hb80 hb83 HU3 HUX1 HB31 HB41 HB81 HU1'
        generalize hB8 : w1.heap.size = B8 at *
        obtain ⟨B3, hB3⟩ : ∃ B3, B3 = w.heap.size := ⟨_, rfl⟩
        have HB3 : Hid (Blk W0 B3 MapT (encM m).toArray) := Lib.hid (by rw [hB3]; exact HB3'.out)
        have HB4 : Hid (Blk W0 (B3 + 1) MapT (encM mz).toArray) := Lib.hid (by rw [hB3]; exact HB4'.out)
        rw [← hB3]
        have HB3E := Lib.hid hB3
        have HB8E := Lib.hid hB8
        have htB : ¬ t = B3 := by omega
        have htB8 : ¬ t = B8 := by omega
        clear HB3' HB4' hB3 hB8
        have hB3l : B3 < W0.heap.size := HB3.out.lt
        have htl1 : t < W0.heap.size := HBT.out.lt
        have HXB : Hid (Xs ((W0.alloc (.cells #[] MapT)).alloc (.cells (encM m).toArray MapT)) (.slice (some ⟨W0.heap.size + 1, 0, none⟩) 1 1) 1 [m]) := Lib.hid (by have := xs_one (W0.alloc (.cells #[] MapT)) m; rw [World.size_alloc] at this; exact this)
        have HXC : Hid (Xs ((W0.alloc (.cells (encM m).toArray MapT)).alloc (.cells #[] MapT)) (.slice (some ⟨W0.heap.size, 0, none⟩) 1 1) 1 [m]) := Lib.hid ((xs_one W0 m).upd ((Upd.refl [] _).alloc _) (by simp))
        have HRN : Hid (Row ((W0.alloc (.cells (encM m).toArray MapT)).alloc (.cells #[] MapT)) (some ⟨W0.heap.size + 1, 0, none⟩) 0 []) := Lib.hid (by have := Row.new (W0.alloc (.cells (encM m).toArray MapT)); rw [World.size_alloc] at this; exact this)
        have q0 := HB3.out.cellAt (i := 0) (v := .int .u8 m.a) rfl
        have q1 := HB3.out.cellAt (i := 1) (v := .int .u8 m.p) rfl
        have q2 := HB3.out.cellAt (i := 2) (v := .int .u8 m.f) rfl
        have q3 := HB3.out.cellAt (i := 3) (v := .bool m.w) rfl
        have b3n := HB3.out.alloc (.cells #[] 24)
        have r0 := b3n.cellAt (i := 0) (v := .int .u8 m.a) rfl
        have r1 := b3n.cellAt (i := 1) (v := .int .u8 m.p) rfl
        have r2 := b3n.cellAt (i := 2) (v := .int .u8 m.f) rfl
        have r3 := b3n.cellAt (i := 3) (v := .bool m.w) rfl
        clear b3n
        have d1 := HBT.out.cellAt (i := 0) (v := .slice A n cap) rfl
        have d2 := (HBT.out.alloc (.cells #[] 24)).cellAt (i := 0) (v := .slice A n cap) rfl
        have d3 := (HBT.out.alloc (.cells #[.int .u8 m.a, .int .u8 m.p, .int .u8 m.f, .bool m.w] 24)).cellAt (i := 0) (v := .slice A n cap) rfl
        have d4 := ((HBT.out.alloc (.cells #[.int .u8 m.a, .int .u8 m.p, .int .u8 m.f, .bool m.w] 24)).alloc (.cells #[] 24)).cellAt (i := 0) (v := .slice A n cap) rfl
        have d5 := ((HBT.out.alloc (.cells #[] 24)).alloc (.cells #[.int .u8 m.a, .int .u8 m.p, .int .u8 m.f, .bool m.w] 24)).cellAt (i := 0) (v := .slice A n cap) rfl
        go_region_law (first
          | (refine step_app rfl (.tmp 45) (.tmp 49) rfl (some ⟨W0.heap.size, 0, none⟩) 0 0 [] rfl rfl (Row.new W0).drew (.slice A n cap) rfl n (L.eraseIdx 0) (HRT.out.upd ((Upd.refl [] W0).alloc (.cells #[] MapT)).drew (by simp)) (by omega) ?_; intro A1 cap1 W1 hr1 hu1 ho1; rw [Nat.zero_add]; have HU1 := Lib.hid ((((Upd.refl [] W0).alloc (.cells #[] MapT)).drew).trans hu1 (by intro s hs; simp [ownA] at hs; right; omega)); have HO1 := Lib.hid (show ∀ k, k ∈ ownA A1 → W0.heap.size ≤ k by intro k hk; rcases ho1 k hk with h | h <;> simp [ownA] at h <;> omega); have HR1 := Lib.hid hr1; clear hr1 hu1 ho1; have b3 := HB3.out.upd HU1.out (by simp); have e0 := b3.cellAt (i := 0) (v := .int .u8 m.a) rfl; have e1 := b3.cellAt (i := 1) (v := .int .u8 m.p) rfl; have e2 := b3.cellAt (i := 2) (v := .int .u8 m.f) rfl; have e3 := b3.cellAt (i := 3) (v := .bool m.w) rfl; have b4 := (b3.alloc (.cells (encM m).toArray MapT)); have f0 := b4.cellAt (i := 0) (v := .int .u8 m.a) rfl; clear b3 b4)
          | (refine step_app rfl (.tmp 45) (.tmp 49) rfl (some ⟨W0.heap.size, 0, none⟩) 0 0 [] rfl rfl ((Row.new W0).upd ((Upd.refl [] _).alloc (.cells (encM m).toArray MapT)) (by simp)).drew (.slice A n cap) rfl n (L.eraseIdx 0) (HRT.out.upd (((Upd.refl [] W0).alloc (.cells #[] MapT)).alloc (.cells (encM m).toArray MapT)).drew (by simp)) (by omega) ?_; intro A1 cap1 W1 hr1 hu1 ho1; rw [Nat.zero_add]; have HU1 := Lib.hid (((((Upd.refl [] W0).alloc (.cells #[] MapT)).alloc (.cells (encM m).toArray MapT)).drew).trans hu1 (by intro s hs; simp [ownA] at hs; right; omega)); have HO1 := Lib.hid (show ∀ k, k ∈ ownA A1 → W0.heap.size ≤ k by intro k hk; rcases ho1 k hk with h | h <;> simp [ownA] at h <;> omega); have HR1 := Lib.hid hr1; have HX1 := Lib.hid (HXB.out.drew.upd hu1 (by intro a c e _; injection e with e1; injection e1 with e1; subst e1; simp [ownA])); clear hr1 hu1 ho1; have b3 := HB3.out.upd HU1.out (by simp); have e0 := b3.cellAt (i := 0) (v := .int .u8 m.a) rfl; have e1 := b3.cellAt (i := 1) (v := .int .u8 m.p) rfl; have e2 := b3.cellAt (i := 2) (v := .int .u8 m.f) rfl; have e3 := b3.cellAt (i := 3) (v := .bool m.w) rfl; have b4 := (b3.alloc (.cells (encM m).toArray MapT)); have f0 := b4.cellAt (i := 0) (v := .int .u8 m.a) rfl; clear b3 b4)
          | (refine step_app rfl (.tmp 45) (.tmp 49) rfl (some ⟨(W0.heap.size + 1), 0, none⟩) 0 0 [] rfl rfl HRN.out.drew (.slice A n cap) rfl n (L.eraseIdx 0) (HRT.out.upd (((Upd.refl [] W0).alloc (.cells (encM m).toArray MapT)).alloc (.cells #[] MapT)).drew (by simp)) (by omega) ?_; intro A1 cap1 W1 hr1 hu1 ho1; rw [Nat.zero_add]; have HU1 := Lib.hid (((((Upd.refl [] W0).alloc (.cells (encM m).toArray MapT)).alloc (.cells #[] MapT)).drew).trans hu1 (by intro s hs; simp [ownA] at hs; right; omega)); have HO1 := Lib.hid (show ∀ k, k ∈ ownA A1 → W0.heap.size ≤ k by intro k hk; rcases ho1 k hk with h | h <;> simp [ownA] at h <;> omega); have HR1 := Lib.hid hr1; have HX1 := Lib.hid (HXC.out.drew.upd hu1 (by intro a c e _; injection e with e1; injection e1 with e1; subst e1; simp [ownA])); clear hr1 hu1 ho1; have b3 := HB3.out.upd HU1.out (by simp); have e0 := b3.cellAt (i := 0) (v := .int .u8 m.a) rfl; have e1 := b3.cellAt (i := 1) (v := .int .u8 m.p) rfl; have e2 := b3.cellAt (i := 2) (v := .int .u8 m.f) rfl; have e3 := b3.cellAt (i := 3) (v := .bool m.w) rfl; have b4 := (b3.alloc (.cells (encM m).toArray MapT)); have f0 := b4.cellAt (i := 0) (v := .int .u8 m.a) rfl; clear b3 b4)
          | (refine step_app rfl (.tmp 50) (.tmp 52) rfl A1 n cap1 (L.eraseIdx 0) HN.out rfl (HR1.out.upd ((Upd.refl [] W1).alloc (.cells (encM m).toArray MapT)) (by simp)) (.slice (some ⟨W1.heap.size, 0, none⟩) 1 1) rfl 1 [m] (xs_one W1 m) (by omega) ?_; intro A2 cap2 W2 hr2 hu2 ho2; have HR2 := Lib.hid hr2; have HU2 := Lib.hid ((HU1.out.alloc (.cells (encM m).toArray MapT)).trans hu2 (by intro s hs; right; exact HO1.out s hs)); have HO2 := Lib.hid (show ∀ k, k ∈ ownA A2 → W0.heap.size ≤ k by intro k hk; have hs1 := HU1.out.size; rcases ho2 k hk with h | h; (exact HO1.out k h); ((try simp at h); omega)); have b7 := HBT.out.upd HU2.out (by simp); have hc7 := b7.cellAt (i := 0) rfl; have hf7 := b7.frozen 0; clear hr2 hu2 ho2 b7)
          | (refine step_app rfl (.tmp 50) (.tmp 52) rfl A1 n cap1 (L.eraseIdx 0) HN.out rfl HR1.out (.slice (some ⟨W0.heap.size + 1, 0, none⟩) 1 1) rfl 1 [m] HX1.out (by omega) ?_; intro A2 cap2 W2 hr2 hu2 ho2; have HR2 := Lib.hid hr2; have HU2 := Lib.hid (HU1.out.trans hu2 (by intro s hs; right; exact HO1.out s hs)); have HO2 := Lib.hid (show ∀ k, k ∈ ownA A2 → W0.heap.size ≤ k by intro k hk; have hs1 := HU1.out.size; rcases ho2 k hk with h | h; (exact HO1.out k h); ((try simp at h); omega)); have b7 := HBT.out.upd HU2.out (by simp); have hc7 := b7.cellAt (i := 0) rfl; have hf7 := b7.frozen 0; clear hr2 hu2 ho2 b7)
          | (refine step_app rfl (.tmp 50) (.tmp 52) rfl A1 n cap1 (L.eraseIdx 0) HN.out rfl HR1.out (.slice (some ⟨W0.heap.size, 0, none⟩) 1 1) rfl 1 [m] HX1.out (by omega) ?_; intro A2 cap2 W2 hr2 hu2 ho2; have HR2 := Lib.hid hr2; have HU2 := Lib.hid (HU1.out.trans hu2 (by intro s hs; right; exact HO1.out s hs)); have HO2 := Lib.hid (show ∀ k, k ∈ ownA A2 → W0.heap.size ≤ k by intro k hk; have hs1 := HU1.out.size; rcases ho2 k hk with h | h; (exact HO1.out k h); ((try simp at h); omega)); have b7 := HBT.out.upd HU2.out (by simp); have hc7 := b7.cellAt (i := 0) rfl; have hf7 := b7.frozen 0; clear hr2 hu2 ho2 b7))
        all_goals
          have htA : t ∉ ownA A2 := by intro hg; have := HO2.out t hg; omega
          have hat := at_store (n := n + 1) (HBT.out.upd HU2.out (by simp)) HR2.out (by rw [List.length_append, HN.out]; rfl) (by omega) htA
          have hU : Upd (t :: own) w (W2.setCell ⟨t, 0, none⟩ (.slice A2 (n + 1) cap2)) := (HUW.out.trans0 HU2.out).setCell (.inl (by simp)) _
          have hO : ∀ k, k ∈ ownA A2 → k ∈ own ∨ W0.heap.size ≤ k := fun k hk => .inr (HO2.out k hk)
          have hx4 := (HB4.out.upd HU2.out (by simp)).far (p := ⟨t, 0, none⟩) (by have := HB3E.out; simp; omega) (.slice A2 (n + 1) cap2)
          have hx8 := (HB8.out.upd HU2.out (by simp)).far (p := ⟨t, 0, none⟩) (by simp; omega) (.slice A2 (n + 1) cap2)
          have hy8 := blk_range hx8
          have hw1 := HB4.out.lt
          have HAT := Lib.hid hat
          have HUT := Lib.hid hU
          have HO3 := Lib.hid hO
          clear hat hU hO htA
          go_wp2_with (first
            | (refine wpList_load_map rfl _ rfl B8 0 mi rfl hy8 ?_)
            | (refine wpList_store_map rfl _ _ rfl (B3 + 1) mi mz rfl rfl hx4 ?_; intro w6 hb6 hu6))
          refine bodyPost_ret (res_ctt rfl _ _ (B3 + 1) mi rfl hb6 _ _ rfl rfl) rfl ?_
          exact chg_end HAT.out HO3.out HUT.out hu6 hlt HOL.out (by have := HB3E.out; omega) hw1
      · have hg : goneI m L = none := by unfold goneI; rw [hq]; simp [h8]
        have hi : insL m L = L ++ [m] := by unfold insL; rw [hg]
        have hz : insG m L = mz := by unfold insG; rw [hg]
        rw [hi, hz, hg]
        have j8 : ¬ (L.length : Int) = 8 := by omega
        obtain ⟨A, cap, hb, hr, hown, hl⟩ := HA.out
        have hc0 := hb.upd HU0.out (by simp)
        have HBT0 := Lib.hid hb
        have HR := Lib.hid hr
        have HXS := Lib.hid hr.xs
        have HA2 := Lib.hid HA.out
        generalize hn : L.length = n at *
        have HN := Lib.hid hn
        clear hq hg hi hz hn hb hr
        go_enter Try.func36, Try.ntmps36
        go_wp2_with fail
        refine HAt.out.mono ?_; rintro e w1 ⟨rfl, hu1⟩
        have hc1 := (hc0.upd hu1 (by simp)).cellAt (i := 0) rfl
        simp only [List.getElem_toArray, List.getElem_cons_zero] at hc1
        have HU1' := Lib.hid (HU0.out.trans0 hu1)
        have HB3' := Lib.hid ((hb3.upd hu1 (by simp)).alloc (.cells #[.int .u8 0, .int .u8 0, .int .u8 0, .bool false] 24))
        have HB4' := Lib.hid ((hb4.upd hu1 (by simp)).alloc (.cells #[.int .u8 0, .int .u8 0, .int .u8 0, .bool false] 24))
        have hsz1 := hu1.size
        simp only [World.size_alloc] at hsz1
        clear hu1 hb3 hb4 p0 p1 p2 hy4 hc0
        go_wp2_with fail
        have HB8' : Hid (Blk (w1.alloc (.cells #[.int .u8 0, .int .u8 0, .int .u8 0, .bool false] 24)) w1.heap.size MapT (encM mz).toArray) := Lib.hid (Blk.new w1 24 (encM mz).toArray)
        have HUX := Lib.hid (HU1'.out.alloc (.cells #[.int .u8 0, .int .u8 0, .int .u8 0, .bool false] 24))
        have HBT := Lib.hid (HBT0.out.upd HUX.out (by simp))
        have HRT := Lib.hid (HXS.out.upd HUX.out (by simp))
        generalize hB8 : w1.heap.size = B8 at *
        generalize w1.alloc (.cells #[.int .u8 0, .int .u8 0, .int .u8 0, .bool false] 24) = W0 at *
        clear hc1 HBT0 HXS HU1'
        obtain ⟨B3, hB3⟩ : ∃ B3, B3 = w.heap.size := ⟨_, rfl⟩
        have HB3 : Hid (Blk W0 B3 MapT (encM m).toArray) := Lib.hid (by rw [hB3]; exact HB3'.out)
        have HB4 : Hid (Blk W0 (B3 + 1) MapT (encM mz).toArray) := Lib.hid (by rw [hB3]; exact HB4'.out)
        have HB8 : Hid (Blk W0 B8 MapT (encM mz).toArray) := HB8'
        have HUW : Hid (Upd (t :: own) w W0) := Lib.hid (HUX.out.zero _)
        rw [← hB3]
        have HB3E := Lib.hid hB3
        have HB8E := Lib.hid hB8
        have htB : ¬ t = B3 := by omega
        have htB8 : ¬ t = B8 := by omega
        clear HB3' HB4' HB8' hB3 hB8
        have hB3l : B3 < W0.heap.size := HB3.out.lt
        have htl1 : t < W0.heap.size := HBT.out.lt
        have HXB : Hid (Xs ((W0.alloc (.cells #[] MapT)).alloc (.cells (encM m).toArray MapT)) (.slice (some ⟨W0.heap.size + 1, 0, none⟩) 1 1) 1 [m]) := Lib.hid (by have := xs_one (W0.alloc (.cells #[] MapT)) m; rw [World.size_alloc] at this; exact this)
        have HXC : Hid (Xs ((W0.alloc (.cells (encM m).toArray MapT)).alloc (.cells #[] MapT)) (.slice (some ⟨W0.heap.size, 0, none⟩) 1 1) 1 [m]) := Lib.hid ((xs_one W0 m).upd ((Upd.refl [] _).alloc _) (by simp))
        have HRN : Hid (Row ((W0.alloc (.cells (encM m).toArray MapT)).alloc (.cells #[] MapT)) (some ⟨W0.heap.size + 1, 0, none⟩) 0 []) := Lib.hid (by have := Row.new (W0.alloc (.cells (encM m).toArray MapT)); rw [World.size_alloc] at this; exact this)
        have q0 := HB3.out.cellAt (i := 0) (v := .int .u8 m.a) rfl
        have q1 := HB3.out.cellAt (i := 1) (v := .int .u8 m.p) rfl
        have q2 := HB3.out.cellAt (i := 2) (v := .int .u8 m.f) rfl
        have q3 := HB3.out.cellAt (i := 3) (v := .bool m.w) rfl
        have b3n := HB3.out.alloc (.cells #[] 24)
        have r0 := b3n.cellAt (i := 0) (v := .int .u8 m.a) rfl
        have r1 := b3n.cellAt (i := 1) (v := .int .u8 m.p) rfl
        have r2 := b3n.cellAt (i := 2) (v := .int .u8 m.f) rfl
        have r3 := b3n.cellAt (i := 3) (v := .bool m.w) rfl
        clear b3n
        have d1 := HBT.out.cellAt (i := 0) (v := .slice A n cap) rfl
        have d2 := (HBT.out.alloc (.cells #[] 24)).cellAt (i := 0) (v := .slice A n cap) rfl
        have d3 := (HBT.out.alloc (.cells #[.int .u8 m.a, .int .u8 m.p, .int .u8 m.f, .bool m.w] 24)).cellAt (i := 0) (v := .slice A n cap) rfl
        have d4 := ((HBT.out.alloc (.cells #[.int .u8 m.a, .int .u8 m.p, .int .u8 m.f, .bool m.w] 24)).alloc (.cells #[] 24)).cellAt (i := 0) (v := .slice A n cap) rfl
        have d5 := ((HBT.out.alloc (.cells #[] 24)).alloc (.cells #[.int .u8 m.a, .int .u8 m.p, .int .u8 m.f, .bool m.w] 24)).cellAt (i := 0) (v := .slice A n cap) rfl
        go_region_law (first
          | (refine step_app rfl (.tmp 45) (.tmp 49) rfl (some ⟨W0.heap.size, 0, none⟩) 0 0 [] rfl rfl (Row.new W0).drew (.slice A n cap) rfl n L (HRT.out.upd ((Upd.refl [] W0).alloc (.cells #[] MapT)).drew (by simp)) (by omega) ?_; intro A1 cap1 W1 hr1 hu1 ho1; rw [Nat.zero_add]; have HU1 := Lib.hid ((((Upd.refl [] W0).alloc (.cells #[] MapT)).drew).trans hu1 (by intro s hs; simp [ownA] at hs; right; omega)); have HO1 := Lib.hid (show ∀ k, k ∈ ownA A1 → W0.heap.size ≤ k by intro k hk; rcases ho1 k hk with h | h <;> simp [ownA] at h <;> omega); have HR1 := Lib.hid hr1; clear hr1 hu1 ho1; have b3 := HB3.out.upd HU1.out (by simp); have e0 := b3.cellAt (i := 0) (v := .int .u8 m.a) rfl; have e1 := b3.cellAt (i := 1) (v := .int .u8 m.p) rfl; have e2 := b3.cellAt (i := 2) (v := .int .u8 m.f) rfl; have e3 := b3.cellAt (i := 3) (v := .bool m.w) rfl; have b4 := (b3.alloc (.cells (encM m).toArray MapT)); have f0 := b4.cellAt (i := 0) (v := .int .u8 m.a) rfl; clear b3 b4)
          | (refine step_app rfl (.tmp 45) (.tmp 49) rfl (some ⟨W0.heap.size, 0, none⟩) 0 0 [] rfl rfl ((Row.new W0).upd ((Upd.refl [] _).alloc (.cells (encM m).toArray MapT)) (by simp)).drew (.slice A n cap) rfl n L (HRT.out.upd (((Upd.refl [] W0).alloc (.cells #[] MapT)).alloc (.cells (encM m).toArray MapT)).drew (by simp)) (by omega) ?_; intro A1 cap1 W1 hr1 hu1 ho1; rw [Nat.zero_add]; have HU1 := Lib.hid (((((Upd.refl [] W0).alloc (.cells #[] MapT)).alloc (.cells (encM m).toArray MapT)).drew).trans hu1 (by intro s hs; simp [ownA] at hs; right; omega)); have HO1 := Lib.hid (show ∀ k, k ∈ ownA A1 → W0.heap.size ≤ k by intro k hk; rcases ho1 k hk with h | h <;> simp [ownA] at h <;> omega); have HR1 := Lib.hid hr1; have HX1 := Lib.hid (HXB.out.drew.upd hu1 (by intro a c e _; injection e with e1; injection e1 with e1; subst e1; simp [ownA])); clear hr1 hu1 ho1; have b3 := HB3.out.upd HU1.out (by simp); have e0 := b3.cellAt (i := 0) (v := .int .u8 m.a) rfl; have e1 := b3.cellAt (i := 1) (v := .int .u8 m.p) rfl; have e2 := b3.cellAt (i := 2) (v := .int .u8 m.f) rfl; have e3 := b3.cellAt (i := 3) (v := .bool m.w) rfl; have b4 := (b3.alloc (.cells (encM m).toArray MapT)); have f0 := b4.cellAt (i := 0) (v := .int .u8 m.a) rfl; clear b3 b4)
          | (refine step_app rfl (.tmp 45) (.tmp 49) rfl (some ⟨(W0.heap.size + 1), 0, none⟩) 0 0 [] rfl rfl HRN.out.drew (.slice A n cap) rfl n L (HRT.out.upd (((Upd.refl [] W0).alloc (.cells (encM m).toArray MapT)).alloc (.cells #[] MapT)).drew (by simp)) (by omega) ?_; intro A1 cap1 W1 hr1 hu1 ho1; rw [Nat.zero_add]; have HU1 := Lib.hid (((((Upd.refl [] W0).alloc (.cells (encM m).toArray MapT)).alloc (.cells #[] MapT)).drew).trans hu1 (by intro s hs; simp [ownA] at hs; right; omega)); have HO1 := Lib.hid (show ∀ k, k ∈ ownA A1 → W0.heap.size ≤ k by intro k hk; rcases ho1 k hk with h | h <;> simp [ownA] at h <;> omega); have HR1 := Lib.hid hr1; have HX1 := Lib.hid (HXC.out.drew.upd hu1 (by intro a c e _; injection e with e1; injection e1 with e1; subst e1; simp [ownA])); clear hr1 hu1 ho1; have b3 := HB3.out.upd HU1.out (by simp); have e0 := b3.cellAt (i := 0) (v := .int .u8 m.a) rfl; have e1 := b3.cellAt (i := 1) (v := .int .u8 m.p) rfl; have e2 := b3.cellAt (i := 2) (v := .int .u8 m.f) rfl; have e3 := b3.cellAt (i := 3) (v := .bool m.w) rfl; have b4 := (b3.alloc (.cells (encM m).toArray MapT)); have f0 := b4.cellAt (i := 0) (v := .int .u8 m.a) rfl; clear b3 b4)
          | (refine step_app rfl (.tmp 50) (.tmp 52) rfl A1 n cap1 L HN.out rfl (HR1.out.upd ((Upd.refl [] W1).alloc (.cells (encM m).toArray MapT)) (by simp)) (.slice (some ⟨W1.heap.size, 0, none⟩) 1 1) rfl 1 [m] (xs_one W1 m) (by omega) ?_; intro A2 cap2 W2 hr2 hu2 ho2; have HR2 := Lib.hid hr2; have HU2 := Lib.hid ((HU1.out.alloc (.cells (encM m).toArray MapT)).trans hu2 (by intro s hs; right; exact HO1.out s hs)); have HO2 := Lib.hid (show ∀ k, k ∈ ownA A2 → W0.heap.size ≤ k by intro k hk; have hs1 := HU1.out.size; rcases ho2 k hk with h | h; (exact HO1.out k h); ((try simp at h); omega)); have b7 := HBT.out.upd HU2.out (by simp); have hc7 := b7.cellAt (i := 0) rfl; have hf7 := b7.frozen 0; clear hr2 hu2 ho2 b7)
          | (refine step_app rfl (.tmp 50) (.tmp 52) rfl A1 n cap1 L HN.out rfl HR1.out (.slice (some ⟨W0.heap.size + 1, 0, none⟩) 1 1) rfl 1 [m] HX1.out (by omega) ?_; intro A2 cap2 W2 hr2 hu2 ho2; have HR2 := Lib.hid hr2; have HU2 := Lib.hid (HU1.out.trans hu2 (by intro s hs; right; exact HO1.out s hs)); have HO2 := Lib.hid (show ∀ k, k ∈ ownA A2 → W0.heap.size ≤ k by intro k hk; have hs1 := HU1.out.size; rcases ho2 k hk with h | h; (exact HO1.out k h); ((try simp at h); omega)); have b7 := HBT.out.upd HU2.out (by simp); have hc7 := b7.cellAt (i := 0) rfl; have hf7 := b7.frozen 0; clear hr2 hu2 ho2 b7)
          | (refine step_app rfl (.tmp 50) (.tmp 52) rfl A1 n cap1 L HN.out rfl HR1.out (.slice (some ⟨W0.heap.size, 0, none⟩) 1 1) rfl 1 [m] HX1.out (by omega) ?_; intro A2 cap2 W2 hr2 hu2 ho2; have HR2 := Lib.hid hr2; have HU2 := Lib.hid (HU1.out.trans hu2 (by intro s hs; right; exact HO1.out s hs)); have HO2 := Lib.hid (show ∀ k, k ∈ ownA A2 → W0.heap.size ≤ k by intro k hk; have hs1 := HU1.out.size; rcases ho2 k hk with h | h; (exact HO1.out k h); ((try simp at h); omega)); have b7 := HBT.out.upd HU2.out (by simp); have hc7 := b7.cellAt (i := 0) rfl; have hf7 := b7.frozen 0; clear hr2 hu2 ho2 b7))
        all_goals
          have htA : t ∉ ownA A2 := by intro hg; have := HO2.out t hg; omega
          have hat := at_store (n := n + 1) (HBT.out.upd HU2.out (by simp)) HR2.out (by rw [List.length_append, HN.out]; rfl) (by omega) htA
          have hU : Upd (t :: own) w (W2.setCell ⟨t, 0, none⟩ (.slice A2 (n + 1) cap2)) := (HUW.out.trans0 HU2.out).setCell (.inl (by simp)) _
          have hO : ∀ k, k ∈ ownA A2 → k ∈ own ∨ W0.heap.size ≤ k := fun k hk => .inr (HO2.out k hk)
          have hx4 := (HB4.out.upd HU2.out (by simp)).far (p := ⟨t, 0, none⟩) (by have := HB3E.out; simp; omega) (.slice A2 (n + 1) cap2)
          have hx8 := (HB8.out.upd HU2.out (by simp)).far (p := ⟨t, 0, none⟩) (by simp; omega) (.slice A2 (n + 1) cap2)
          have hy8 := blk_range hx8
          have hw1 := HB4.out.lt
          have HAT := Lib.hid hat
          have HUT := Lib.hid hU
          have HO3 := Lib.hid hO
          clear hat hU hO htA
          go_wp2_with (first
            | (refine wpList_load_map rfl _ rfl B8 0 mz rfl hy8 ?_)
            | (refine wpList_store_map rfl _ _ rfl (B3 + 1) mz mz rfl rfl hx4 ?_; intro w6 hb6 hu6))
          refine bodyPost_ret (res_ctt rfl _ _ (B3 + 1) mz rfl hb6 _ _ rfl rfl) rfl ?_
          exact chg_end HAT.out HO3.out HUT.out hu6 hlt HOL.out (by have := HB3E.out; omega) hw1
    | some i =>
      rw [hq] at HAt
      simp only at HAt
      have HGO := Lib.hid (show goneI m L = some i by unfold goneI; rw [hq])
      have HIL := Lib.hid (show i < L.length by obtain ⟨x, hx, _⟩ := findIdx_spec _ L i hq; exact (List.getElem?_eq_some_iff.1 hx).1)
      have hil : i < L.length := HIL.out
      obtain ⟨mi, hm⟩ : ∃ mi, L[i]? = some mi := ⟨_, List.getElem?_eq_getElem hil⟩
      have hg : goneI m L = some i := HGO.out
      have hi : insL m L = L.eraseIdx i ++ [m] := by unfold insL; rw [hg]
      have hz : insG m L = mi := by unfold insG; rw [hg]; simp [hm]
      rw [hi, hz, hg]
      obtain ⟨A0, cap0, hb, hr, hown, _⟩ := HA.out
      have hc0 := hb.upd HU0.out (by simp)
      have HN := Lib.hid (show (L.eraseIdx i).length = L.length - 1 by rw [List.length_eraseIdx, if_pos hil])
      have HCUT := Lib.hid (fun W (hW : At RefT W t own L) => cut_any t own L W hW i mi hm)
      have HA2 := Lib.hid HA.out
      obtain ⟨n, hn⟩ : ∃ n, L.length = n + 1 := ⟨L.length - 1, by omega⟩
      rw [hn] at HN hil hl hc0
      rw [Nat.add_sub_cancel] at HN
      have i0 : (0 : Int) ≤ (i : Int) := by omega
      have i2 : ¬ (i : Int) < 0 := by omega
      clear hq hg hi hz hb hr hm hn hown
      go_enter Try.func36, Try.ntmps36
      go_wp2_with fail
      refine HAt.out.mono ?_; rintro e w1 ⟨rfl, hu1⟩
      have hc1 := (hc0.upd hu1 (by simp)).cellAt (i := 0) rfl
      simp only [List.getElem_toArray, List.getElem_cons_zero] at hc1
      have HU1' := Lib.hid (HU0.out.trans0 hu1)
      have HB31 := Lib.hid ((hb3.upd hu1 (by simp)).alloc (.cells #[.int .u8 0, .int .u8 0, .int .u8 0, .bool false] 24))
      have HB41 := Lib.hid ((hb4.upd hu1 (by simp)).alloc (.cells #[.int .u8 0, .int .u8 0, .int .u8 0, .bool false] 24))
      have hsz1 := hu1.size
      simp only [World.size_alloc] at hsz1
      clear hu1 hb3 hb4 p0 p1 p2 hy4 hc0
      go_wp2_with fail
      have HB81 := Lib.hid (Blk.new w1 24 (encM mz).toArray)
      have HUX1 := Lib.hid (HU1'.out.alloc (.cells #[.int .u8 0, .int .u8 0, .int .u8 0, .bool false] 24))
      refine (HCUT.out _ (HA.out.upd0 HUX1.out)).mono ?_; rintro e w3 ⟨own3, rfl, hat3, hO3, hu3⟩
      simp only [World.size_alloc] at hO3
      have hb83 := HB81.out.upd hu3 (by simp; omega)
      have HU3 := Lib.hid hu3
      have HAT3 := Lib.hid hat3
      have HO30 := Lib.hid hO3
      clear hu3 hat3 hO3 hc1
      go_wp2_with (refine wpList_store_map rfl _ _ rfl w1.heap.size mi mz rfl rfl hb83 ?_; intro W0 hb80 hu80)
      obtain ⟨A, cap, hbT, hrT, hown3, _⟩ := HAT3.out.upd hu80 (by simp; omega) (by intro k hk hks; have := HO30.out k hk; simp at hks; omega)
      have HBT := Lib.hid hbT
      have HRT := Lib.hid hrT.xs
      rw [HN.out] at HBT HRT
      have HB3' := Lib.hid ((HB31.out.upd HU3.out (by simp; omega)).upd hu80 (by simp; omega))
      have HB4' := Lib.hid ((HB41.out.upd HU3.out (by simp; omega)).upd hu80 (by simp; omega))
      have HUW : Hid (Upd (t :: own) w W0) := Lib.hid (((HUX1.out.zero (t :: own)).trans HU3.out (by intro s hs; left; simp at hs; simp [hs])).trans hu80 (by intro s hs; simp at hs; right; omega))
      have HB8 := Lib.hid hb80
      clear hbT hrT hown3 hu80 hb80 hb83 HU3 HUX1 HB31 HB41 HB81 HU1'
      generalize hB8 : w1.heap.size = B8 at *
      obtain ⟨B3, hB3⟩ : ∃ B3, B3 = w.heap.size := ⟨_, rfl⟩
      have HB3 : Hid (Blk W0 B3 MapT (encM m).toArray) := Lib.hid (by rw [hB3]; exact HB3'.out)
      have HB4 : Hid (Blk W0 (B3 + 1) MapT (encM mz).toArray) := Lib.hid (by rw [hB3]; exact HB4'.out)
      rw [← hB3]
      have HB3E := Lib.hid hB3
      have HB8E := Lib.hid hB8
      have htB : ¬ t = B3 := by omega
      have htB8 : ¬ t = B8 := by omega
      clear HB3' HB4' hB3 hB8
      have hB3l : B3 < W0.heap.size := HB3.out.lt
      have htl1 : t < W0.heap.size := HBT.out.lt
      have HXB : Hid (Xs ((W0.alloc (.cells #[] MapT)).alloc (.cells (encM m).toArray MapT)) (.slice (some ⟨W0.heap.size + 1, 0, none⟩) 1 1) 1 [m]) := Lib.hid (by have := xs_one (W0.alloc (.cells #[] MapT)) m; rw [World.size_alloc] at this; exact this)
      have HXC : Hid (Xs ((W0.alloc (.cells (encM m).toArray MapT)).alloc (.cells #[] MapT)) (.slice (some ⟨W0.heap.size, 0, none⟩) 1 1) 1 [m]) := Lib.hid ((xs_one W0 m).upd ((Upd.refl [] _).alloc _) (by simp))
      have HRN : Hid (Row ((W0.alloc (.cells (encM m).toArray MapT)).alloc (.cells #[] MapT)) (some ⟨W0.heap.size + 1, 0, none⟩) 0 []) := Lib.hid (by have := Row.new (W0.alloc (.cells (encM m).toArray MapT)); rw [World.size_alloc] at this; exact this)
      have q0 := HB3.out.cellAt (i := 0) (v := .int .u8 m.a) rfl
      have q1 := HB3.out.cellAt (i := 1) (v := .int .u8 m.p) rfl
      have q2 := HB3.out.cellAt (i := 2) (v := .int .u8 m.f) rfl
      have q3 := HB3.out.cellAt (i := 3) (v := .bool m.w) rfl
      have b3n := HB3.out.alloc (.cells #[] 24)
      have r0 := b3n.cellAt (i := 0) (v := .int .u8 m.a) rfl
      have r1 := b3n.cellAt (i := 1) (v := .int .u8 m.p) rfl
      have r2 := b3n.cellAt (i := 2) (v := .int .u8 m.f) rfl
      have r3 := b3n.cellAt (i := 3) (v := .bool m.w) rfl
      clear b3n
      have d1 := HBT.out.cellAt (i := 0) (v := .slice A n cap) rfl
      have d2 := (HBT.out.alloc (.cells #[] 24)).cellAt (i := 0) (v := .slice A n cap) rfl
      have d3 := (HBT.out.alloc (.cells #[.int .u8 m.a, .int .u8 m.p, .int .u8 m.f, .bool m.w] 24)).cellAt (i := 0) (v := .slice A n cap) rfl
      have d4 := ((HBT.out.alloc (.cells #[.int .u8 m.a, .int .u8 m.p, .int .u8 m.f, .bool m.w] 24)).alloc (.cells #[] 24)).cellAt (i := 0) (v := .slice A n cap) rfl
      have d5 := ((HBT.out.alloc (.cells #[] 24)).alloc (.cells #[.int .u8 m.a, .int .u8 m.p, .int .u8 m.f, .bool m.w] 24)).cellAt (i := 0) (v := .slice A n cap) rfl
      go_region_law (first
        | (refine step_app rfl (.tmp 45) (.tmp 49) rfl (some ⟨W0.heap.size, 0, none⟩) 0 0 [] rfl rfl (Row.new W0).drew (.slice A n cap) rfl n (L.eraseIdx i) (HRT.out.upd ((Upd.refl [] W0).alloc (.cells #[] MapT)).drew (by simp)) (by omega) ?_; intro A1 cap1 W1 hr1 hu1 ho1; rw [Nat.zero_add]; have HU1 := Lib.hid ((((Upd.refl [] W0).alloc (.cells #[] MapT)).drew).trans hu1 (by intro s hs; simp [ownA] at hs; right; omega)); have HO1 := Lib.hid (show ∀ k, k ∈ ownA A1 → W0.heap.size ≤ k by intro k hk; rcases ho1 k hk with h | h <;> simp [ownA] at h <;> omega); have HR1 := Lib.hid hr1; clear hr1 hu1 ho1; have b3 := HB3.out.upd HU1.out (by simp); have e0 := b3.cellAt (i := 0) (v := .int .u8 m.a) rfl; have e1 := b3.cellAt (i := 1) (v := .int .u8 m.p) rfl; have e2 := b3.cellAt (i := 2) (v := .int .u8 m.f) rfl; have e3 := b3.cellAt (i := 3) (v := .bool m.w) rfl; have b4 := (b3.alloc (.cells (encM m).toArray MapT)); have f0 := b4.cellAt (i := 0) (v := .int .u8 m.a) rfl; clear b3 b4)
        | (refine step_app rfl (.tmp 45) (.tmp 49) rfl (some ⟨W0.heap.size, 0, none⟩) 0 0 [] rfl rfl ((Row.new W0).upd ((Upd.refl [] _).alloc (.cells (encM m).toArray MapT)) (by simp)).drew (.slice A n cap) rfl n (L.eraseIdx i) (HRT.out.upd (((Upd.refl [] W0).alloc (.cells #[] MapT)).alloc (.cells (encM m).toArray MapT)).drew (by simp)) (by omega) ?_; intro A1 cap1 W1 hr1 hu1 ho1; rw [Nat.zero_add]; have HU1 := Lib.hid (((((Upd.refl [] W0).alloc (.cells #[] MapT)).alloc (.cells (encM m).toArray MapT)).drew).trans hu1 (by intro s hs; simp [ownA] at hs; right; omega)); have HO1 := Lib.hid (show ∀ k, k ∈ ownA A1 → W0.heap.size ≤ k by intro k hk; rcases ho1 k hk with h | h <;> simp [ownA] at h <;> omega); have HR1 := Lib.hid hr1; have HX1 := Lib.hid (HXB.out.drew.upd hu1 (by intro a c e _; injection e with e1; injection e1 with e1; subst e1; simp [ownA])); clear hr1 hu1 ho1; have b3 := HB3.out.upd HU1.out (by simp); have e0 := b3.cellAt (i := 0) (v := .int .u8 m.a) rfl; have e1 := b3.cellAt (i := 1) (v := .int .u8 m.p) rfl; have e2 := b3.cellAt (i := 2) (v := .int .u8 m.f) rfl; have e3 := b3.cellAt (i := 3) (v := .bool m.w) rfl; have b4 := (b3.alloc (.cells (encM m).toArray MapT)); have f0 := b4.cellAt (i := 0) (v := .int .u8 m.a) rfl; clear b3 b4)
        | (refine step_app rfl (.tmp 45) (.tmp 49) rfl (some ⟨(W0.heap.size + 1), 0, none⟩) 0 0 [] rfl rfl HRN.out.drew (.slice A n cap) rfl n (L.eraseIdx i) (HRT.out.upd (((Upd.refl [] W0).alloc (.cells (encM m).toArray MapT)).alloc (.cells #[] MapT)).drew (by simp)) (by omega) ?_; intro A1 cap1 W1 hr1 hu1 ho1; rw [Nat.zero_add]; have HU1 := Lib.hid (((((Upd.refl [] W0).alloc (.cells (encM m).toArray MapT)).alloc (.cells #[] MapT)).drew).trans hu1 (by intro s hs; simp [ownA] at hs; right; omega)); have HO1 := Lib.hid (show ∀ k, k ∈ ownA A1 → W0.heap.size ≤ k by intro k hk; rcases ho1 k hk with h | h <;> simp [ownA] at h <;> omega); have HR1 := Lib.hid hr1; have HX1 := Lib.hid (HXC.out.drew.upd hu1 (by intro a c e _; injection e with e1; injection e1 with e1; subst e1; simp [ownA])); clear hr1 hu1 ho1; have b3 := HB3.out.upd HU1.out (by simp); have e0 := b3.cellAt (i := 0) (v := .int .u8 m.a) rfl; have e1 := b3.cellAt (i := 1) (v := .int .u8 m.p) rfl; have e2 := b3.cellAt (i := 2) (v := .int .u8 m.f) rfl; have e3 := b3.cellAt (i := 3) (v := .bool m.w) rfl; have b4 := (b3.alloc (.cells (encM m).toArray MapT)); have f0 := b4.cellAt (i := 0) (v := .int .u8 m.a) rfl; clear b3 b4)
        | (refine step_app rfl (.tmp 50) (.tmp 52) rfl A1 n cap1 (L.eraseIdx i) HN.out rfl (HR1.out.upd ((Upd.refl [] W1).alloc (.cells (encM m).toArray MapT)) (by simp)) (.slice (some ⟨W1.heap.size, 0, none⟩) 1 1) rfl 1 [m] (xs_one W1 m) (by omega) ?_; intro A2 cap2 W2 hr2 hu2 ho2; have HR2 := Lib.hid hr2; have HU2 := Lib.hid ((HU1.out.alloc (.cells (encM m).toArray MapT)).trans hu2 (by intro s hs; right; exact HO1.out s hs)); have HO2 := Lib.hid (show ∀ k, k ∈ ownA A2 → W0.heap.size ≤ k by intro k hk; have hs1 := HU1.out.size; rcases ho2 k hk with h | h; (exact HO1.out k h); ((try simp at h); omega)); have b7 := HBT.out.upd HU2.out (by simp); have hc7 := b7.cellAt (i := 0) rfl; have hf7 := b7.frozen 0; clear hr2 hu2 ho2 b7)
        | (refine step_app rfl (.tmp 50) (.tmp 52) rfl A1 n cap1 (L.eraseIdx i) HN.out rfl HR1.out (.slice (some ⟨W0.heap.size + 1, 0, none⟩) 1 1) rfl 1 [m] HX1.out (by omega) ?_; intro A2 cap2 W2 hr2 hu2 ho2; have HR2 := Lib.hid hr2; have HU2 := Lib.hid (HU1.out.trans hu2 (by intro s hs; right; exact HO1.out s hs)); have HO2 := Lib.hid (show ∀ k, k ∈ ownA A2 → W0.heap.size ≤ k by intro k hk; have hs1 := HU1.out.size; rcases ho2 k hk with h | h; (exact HO1.out k h); ((try simp at h); omega)); have b7 := HBT.out.upd HU2.out (by simp); have hc7 := b7.cellAt (i := 0) rfl; have hf7 := b7.frozen 0; clear hr2 hu2 ho2 b7)
        | (refine step_app rfl (.tmp 50) (.tmp 52) rfl A1 n cap1 (L.eraseIdx i) HN.out rfl HR1.out (.slice (some ⟨W0.heap.size, 0, none⟩) 1 1) rfl 1 [m] HX1.out (by omega) ?_; intro A2 cap2 W2 hr2 hu2 ho2; have HR2 := Lib.hid hr2; have HU2 := Lib.hid (HU1.out.trans hu2 (by intro s hs; right; exact HO1.out s hs)); have HO2 := Lib.hid (show ∀ k, k ∈ ownA A2 → W0.heap.size ≤ k by intro k hk; have hs1 := HU1.out.size; rcases ho2 k hk with h | h; (exact HO1.out k h); ((try simp at h); omega)); have b7 := HBT.out.upd HU2.out (by simp); have hc7 := b7.cellAt (i := 0) rfl; have hf7 := b7.frozen 0; clear hr2 hu2 ho2 b7))
      all_goals
        have htA : t ∉ ownA A2 := by intro hg; have := HO2.out t hg; omega
        have hat := at_store (n := n + 1) (HBT.out.upd HU2.out (by simp)) HR2.out (by rw [List.length_append, HN.out]; rfl) (by omega) htA
        have hU : Upd (t :: own) w (W2.setCell ⟨t, 0, none⟩ (.slice A2 (n + 1) cap2)) := (HUW.out.trans0 HU2.out).setCell (.inl (by simp)) _
        have hO : ∀ k, k ∈ ownA A2 → k ∈ own ∨ W0.heap.size ≤ k := fun k hk => .inr (HO2.out k hk)
        have hx4 := (HB4.out.upd HU2.out (by simp)).far (p := ⟨t, 0, none⟩) (by have := HB3E.out; simp; omega) (.slice A2 (n + 1) cap2)
        have hx8 := (HB8.out.upd HU2.out (by simp)).far (p := ⟨t, 0, none⟩) (by simp; omega) (.slice A2 (n + 1) cap2)
        have hy8 := blk_range hx8
        have hw1 := HB4.out.lt
        have HAT := Lib.hid hat
        have HUT := Lib.hid hU
        have HO3 := Lib.hid hO
        clear hat hU hO htA
        go_wp2_with (first
          | (refine wpList_load_map rfl _ rfl B8 0 mi rfl hy8 ?_)
          | (refine wpList_store_map rfl _ _ rfl (B3 + 1) mi mz rfl rfl hx4 ?_; intro w6 hb6 hu6))
        refine bodyPost_ret (res_ctt rfl _ _ (B3 + 1) mi rfl hb6 _ _ rfl rfl) rfl ?_
        exact chg_end HAT.out HO3.out HUT.out hu6 hlt HOL.out (by have := HB3E.out; omega) hw1

end Go.Proofs.Ytefjppebohnmjaa
