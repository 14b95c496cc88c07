/- The reference's Open. -/
import Derived.Test.YtedaffkdfniikaaFdsU
namespace Go.Proofs.Ytedaffkdfniikaa
open Go.RowKit Go.Shelf

theorem Xs.drew {w : World} {X : Value} {k : Nat} {K : List Op} (h : Xs w X k K) : Xs w.drew X k K := h
theorem lisL_full (f : Nat → Nat → Nat) (i : Nat) : ∀ n, (lisL f i n).length = n ↔ ∀ k, k < n → f i k ≠ 0 := by
  intro n
  induction n with
  | zero => simp [lisL]
  | succ n ih =>
    unfold lisL
    have hle := lisL_le f i n
    split
    · rename_i h0
      constructor
      · intro h; omega
      · intro h; exact absurd h0 (h n (by omega))
    · rename_i h0
      rw [List.length_append, List.length_singleton]
      constructor
      · intro h k hk
        by_cases hkn : k = n
        · rw [hkn]; exact h0
        · exact ih.1 (by omega) k (by omega)
      · intro h
        rw [ih.2 (fun k hk => h k (by omega))]
theorem room_zero {S : St} {p : Int} (he : ofE S p = 0) : roomO S p = 0 ↔ lstF S.fd p.toNat = none := by
  unfold roomO
  rw [if_pos he]
  have hle := lisL_le S.fd p.toNat 8
  have hf := lisL_full S.fd p.toNat 8
  constructor
  · intro h
    exact lst_no (hf.1 (by omega))
  · intro h
    have := hf.2 (lst_none h)
    omega

set_option maxRecDepth 100000 in
set_option maxHeartbeats 8000000 in
theorem ropen_any (r : Nat) (own : List Nat) (S : St) (A : Option Addr) (cap : Nat) (w : World) (h : RX w r own S A cap) (hl : S.all.length ≤ 500) (p : Int) (o : Op) (ho : o.k < 256) :
    Calls Try.prog 43 #[.pointer (some ⟨r, 0, none⟩), .int .i64 p, .agg (encO o).toArray] w (RChg w r own (.tuple #[.int .i64 (opnV S p o), .int .i64 (opnE S p o)]) (opnS S p o)) := by
  obtain ⟨k, x, q⟩ := o
  unfold encO at *
  simp only at ho ⊢
  have hu0 := (Upd.refl [] w).alloc (.cells #[.int .u8 k, .int .i64 x, .int .i64 q] 30)
  have h1 := h.upd0 hu0
  have HF := Lib.hid (rmay_any r own S A cap _ h1 p)
  have HU := Lib.hid hu0
  have H := Lib.hid h
  have hb0 := Blk.new w 30 #[.int .u8 k, .int .i64 x, .int .i64 q]
  have c0 := hb0.cellAt (i := 0) (v := .int .u8 k) rfl
  have c1 := hb0.cellAt (i := 1) (v := .int .i64 x) rfl
  have c2 := hb0.cellAt (i := 2) (v := .int .i64 q) rfl
  have i0 : (0 : Int) ≤ (k : Int) := by omega
  have HB0 := Lib.hid hb0
  have HROOM := Lib.hid (rroom_any r own S A cap _ h1 p)
  unfold opnV opnE opnS
  by_cases he : ofE S p = 0
  · rw [if_pos he, if_pos he, if_pos he]
    obtain ⟨p0, p1, hh⟩ := ofE_ok he
    rw [he] at HF
    by_cases hbad : badO ⟨k, x, q⟩
    · rw [if_pos hbad, if_pos hbad, if_pos hbad]
      unfold badO at hbad
      simp only at hbad
      clear h h1 hu0 he hh hb0
      rcases hbad with hbad | hbad
      · subst hbad
        go_enter Try.func43, Try.ntmps43
        go_wp2_with fail
        refine HF.out.mono ?_; rintro e w' ⟨rfl, rfl⟩
        go_wp2_with fail
        go_ret2
        simp
        exact RChg.same H.out HU.out
      · have k3 : (3 : Int) < (k : Int) := by omega
        have k0 : ((k : Int) == 0) = false := by rw [beq_eq_false_iff_ne]; omega
        go_enter Try.func43, Try.ntmps43
        go_wp2_with fail
        refine HF.out.mono ?_; rintro e w' ⟨rfl, rfl⟩
        go_wp2_with fail
        go_ret2
        simp
        exact RChg.same H.out HU.out
    · rw [if_neg hbad, if_neg hbad, if_neg hbad]
      unfold badO at hbad
      simp only at hbad
      have k3 : ¬ (3 : Int) < (k : Int) := by omega
      have k0 : ((k : Int) == 0) = false := by rw [beq_eq_false_iff_ne]; omega
      have hrz := room_zero he
      clear hbad
      cases hl0 : lstF S.fd p.toNat with
      | none =>
        rw [hrz.2 hl0] at HROOM
        unfold givV givE putN
        clear h h1 hu0 he hh hb0 hrz hl0
        go_enter Try.func43, Try.ntmps43
        go_wp2_with fail
        refine HF.out.mono ?_; rintro e w' ⟨rfl, rfl⟩
        go_wp2_with fail
        refine HROOM.out.mono ?_; rintro e w2 ⟨rfl, hu2⟩
        have HU2 := Lib.hid (HU.out.trans0 hu2)
        clear hu2
        go_wp2_with fail
        go_ret2
        simp
        exact RChg.same H.out HU2.out
      | some j =>
        have hrb : (roomO S p == 0) = false := by
          rw [beq_eq_false_iff_ne]
          intro hz
          rw [hrz.1 hz] at hl0
          cases hl0
        unfold givV givE
        generalize roomO S p = rm at *
        obtain ⟨i, hi⟩ : ∃ i, i = p.toNat := ⟨_, rfl⟩
        have hpi : p = (i : Int) := by omega
        subst hpi
        simp only [Int.toNat_natCast] at hl0 ⊢
        have HI6 := Lib.hid (show i < 6 by omega)
        have HLST := Lib.hid hl0
        generalize hn : S.all.length = n at *
        have HLEN := Lib.hid hn
        clear h h1 hu0 he hh hb0 hrz hl0 hi hn
        go_enter Try.func43, Try.ntmps43
        go_wp2_with fail
        refine HF.out.mono ?_; rintro e w' ⟨rfl, rfl⟩
        go_wp2_with fail
        refine HROOM.out.mono ?_; rintro e W0 ⟨rfl, hu2⟩
        have HUW := Lib.hid (HU.out.trans0 hu2)
        have HB3' := Lib.hid (HB0.out.upd hu2 (by simp))
        have HRX0 := Lib.hid (H.out.upd0 HUW.out)
        have HRT := Lib.hid HRX0.out.row.xs
        rw [HLEN.out] at HRT
        have HBT := Lib.hid HRX0.out.blk
        have HC54 : Hid ((rowF 55 (refC S A cap))[54]? = some (.slice A n cap)) := Lib.hid (by rw [rowF_get (by omega), ← HLEN.out]; rfl)
        have HRM := Lib.hid H.out.mem
        obtain ⟨B3, hB3⟩ : ∃ B3, B3 = w.heap.size := ⟨_, rfl⟩
        rw [← hB3] at HB3'
        have HB3 : Hid (Blk W0 B3 30 #[.int .u8 k, .int .i64 x, .int .i64 q]) := HB3'
        clear HB3' hu2
        have hB3l : B3 < W0.heap.size := HB3.out.lt
        have htl1 : r < W0.heap.size := HBT.out.lt
        have HXB : Hid (Xs ((W0.alloc (.cells #[] 30)).alloc (.cells #[.int .u8 k, .int .i64 x, .int .i64 q] 30)) (.slice (some ⟨W0.heap.size + 1, 0, none⟩) 1 1) 1 [⟨k, x, q⟩]) := Lib.hid (by have := xs_one (W0.alloc (.cells #[] 30)) ⟨k, x, q⟩; rw [World.size_alloc] at this; exact this)
        have HXC : Hid (Xs ((W0.alloc (.cells #[.int .u8 k, .int .i64 x, .int .i64 q] 30)).alloc (.cells #[] 30)) (.slice (some ⟨W0.heap.size, 0, none⟩) 1 1) 1 [⟨k, x, q⟩]) := Lib.hid ((xs_one W0 ⟨k, x, q⟩).upd ((Upd.refl [] _).alloc _) (by simp))
        have HRN : Hid (Row ((W0.alloc (.cells #[.int .u8 k, .int .i64 x, .int .i64 q] 30)).alloc (.cells #[] 30)) (some ⟨W0.heap.size + 1, 0, none⟩) 0 []) := Lib.hid (by have := Row.new (W0.alloc (.cells #[.int .u8 k, .int .i64 x, .int .i64 q] 30)); rw [World.size_alloc] at this; exact this)
        have q0 := HB3.out.cellAt (i := 0) (v := .int .u8 k) rfl
        have q1 := HB3.out.cellAt (i := 1) (v := .int .i64 x) rfl
        have q2 := HB3.out.cellAt (i := 2) (v := .int .i64 q) rfl
        have b3n := HB3.out.alloc (.cells #[] 30)
        have r0 := b3n.cellAt (i := 0) (v := .int .u8 k) rfl
        have r1 := b3n.cellAt (i := 1) (v := .int .i64 x) rfl
        have r2 := b3n.cellAt (i := 2) (v := .int .i64 q) rfl
        clear b3n
        have d1 := HBT.out.cellAt (i := 54) (v := .slice A n cap) HC54.out
        have d2 := (HBT.out.alloc (.cells #[] 30)).cellAt (i := 54) (v := .slice A n cap) HC54.out
        have d3 := (HBT.out.alloc (.cells #[.int .u8 k, .int .i64 x, .int .i64 q] 30)).cellAt (i := 54) (v := .slice A n cap) HC54.out
        have d4 := ((HBT.out.alloc (.cells #[.int .u8 k, .int .i64 x, .int .i64 q] 30)).alloc (.cells #[] 30)).cellAt (i := 54) (v := .slice A n cap) HC54.out
        have d5 := ((HBT.out.alloc (.cells #[] 30)).alloc (.cells #[.int .u8 k, .int .i64 x, .int .i64 q] 30)).cellAt (i := 54) (v := .slice A n cap) HC54.out
        rw [← hB3] at c0 c1 c2
        clear c0 c1 c2
        go_wp2_with fail
        rw [← hB3]
        have HB3E := Lib.hid hB3
        clear hB3
        go_region_law (first
        | (refine step_app rfl (.tmp 30) (.tmp 34) rfl (some ⟨W0.heap.size, 0, none⟩) 0 0 [] rfl rfl (Row.new W0).drew (.slice A n cap) rfl n S.all (HRT.out.upd ((Upd.refl [] W0).alloc (.cells #[] 30)).drew (by simp)) (by omega) ?_; intro A1 cap1 W1 hr1 hu1 ho1; rw [Nat.zero_add]; have HU1 := Lib.hid ((((Upd.refl [] W0).alloc (.cells #[] 30)).drew).trans hu1 (by intro s hs; simp [ownA] at hs; right; omega)); have HO1 := Lib.hid (show ∀ k, k ∈ ownA A1 → W0.heap.size ≤ k by intro k hk; rcases ho1 k hk with h | h <;> simp [ownA] at h <;> omega); have HR1 := Lib.hid hr1; clear hr1 hu1 ho1; have b3 := HB3.out.upd HU1.out (by simp); have e0 := b3.cellAt (i := 0) (v := .int .u8 k) rfl; have e1 := b3.cellAt (i := 1) (v := .int .i64 x) rfl; have e2 := b3.cellAt (i := 2) (v := .int .i64 q) rfl; clear b3)
        | (refine step_app rfl (.tmp 30) (.tmp 34) rfl (some ⟨W0.heap.size, 0, none⟩) 0 0 [] rfl rfl ((Row.new W0).upd ((Upd.refl [] _).alloc (.cells #[.int .u8 k, .int .i64 x, .int .i64 q] 30)) (by simp)).drew (.slice A n cap) rfl n S.all (HRT.out.upd (((Upd.refl [] W0).alloc (.cells #[] 30)).alloc (.cells #[.int .u8 k, .int .i64 x, .int .i64 q] 30)).drew (by simp)) (by omega) ?_; intro A1 cap1 W1 hr1 hu1 ho1; rw [Nat.zero_add]; have HU1 := Lib.hid (((((Upd.refl [] W0).alloc (.cells #[] 30)).alloc (.cells #[.int .u8 k, .int .i64 x, .int .i64 q] 30)).drew).trans hu1 (by intro s hs; simp [ownA] at hs; right; omega)); have HO1 := Lib.hid (show ∀ k, k ∈ ownA A1 → W0.heap.size ≤ k by intro k hk; rcases ho1 k hk with h | h <;> simp [ownA] at h <;> omega); have HR1 := Lib.hid hr1; have HX1 := Lib.hid (HXB.out.drew.upd hu1 (by intro a c e _; injection e with e1; injection e1 with e1; subst e1; simp [ownA])); clear hr1 hu1 ho1; have b3 := HB3.out.upd HU1.out (by simp); have e0 := b3.cellAt (i := 0) (v := .int .u8 k) rfl; have e1 := b3.cellAt (i := 1) (v := .int .i64 x) rfl; have e2 := b3.cellAt (i := 2) (v := .int .i64 q) rfl; clear b3)
        | (refine step_app rfl (.tmp 30) (.tmp 34) rfl (some ⟨(W0.heap.size + 1), 0, none⟩) 0 0 [] rfl rfl HRN.out.drew (.slice A n cap) rfl n S.all (HRT.out.upd (((Upd.refl [] W0).alloc (.cells #[.int .u8 k, .int .i64 x, .int .i64 q] 30)).alloc (.cells #[] 30)).drew (by simp)) (by omega) ?_; intro A1 cap1 W1 hr1 hu1 ho1; rw [Nat.zero_add]; have HU1 := Lib.hid (((((Upd.refl [] W0).alloc (.cells #[.int .u8 k, .int .i64 x, .int .i64 q] 30)).alloc (.cells #[] 30)).drew).trans hu1 (by intro s hs; simp [ownA] at hs; right; omega)); have HO1 := Lib.hid (show ∀ k, k ∈ ownA A1 → W0.heap.size ≤ k by intro k hk; rcases ho1 k hk with h | h <;> simp [ownA] at h <;> omega); have HR1 := Lib.hid hr1; have HX1 := Lib.hid (HXC.out.drew.upd hu1 (by intro a c e _; injection e with e1; injection e1 with e1; subst e1; simp [ownA])); clear hr1 hu1 ho1; have b3 := HB3.out.upd HU1.out (by simp); have e0 := b3.cellAt (i := 0) (v := .int .u8 k) rfl; have e1 := b3.cellAt (i := 1) (v := .int .i64 x) rfl; have e2 := b3.cellAt (i := 2) (v := .int .i64 q) rfl; clear b3)
        | (refine step_app rfl (.tmp 35) (.tmp 37) rfl A1 n cap1 S.all HLEN.out rfl (HR1.out.upd ((Upd.refl [] W1).alloc (.cells #[.int .u8 k, .int .i64 x, .int .i64 q] 30)) (by simp)) (.slice (some ⟨W1.heap.size, 0, none⟩) 1 1) rfl 1 [⟨k, x, q⟩] (xs_one W1 ⟨k, x, q⟩) (by omega) ?_; intro A2 cap2 W2 hr2 hu2 ho2; have HR2 := Lib.hid hr2; have HU2 := Lib.hid ((HU1.out.alloc (.cells #[.int .u8 k, .int .i64 x, .int .i64 q] 30)).trans hu2 (by intro s hs; right; exact HO1.out s hs)); have HO2 := Lib.hid (show ∀ k, k ∈ ownA A2 → W0.heap.size ≤ k by intro k hk; have hs1 := HU1.out.size; rcases ho2 k hk with h | h; (exact HO1.out k h); ((try simp at h); omega)); have b7 := HBT.out.upd HU2.out (by simp); have hc7 := b7.cellAt (i := 54) (v := .slice A n cap) HC54.out; have hf7 := b7.frozen 54; clear hr2 hu2 ho2 b7)
        | (refine step_app rfl (.tmp 35) (.tmp 37) rfl A1 n cap1 S.all HLEN.out rfl HR1.out (.slice (some ⟨W0.heap.size + 1, 0, none⟩) 1 1) rfl 1 [⟨k, x, q⟩] HX1.out (by omega) ?_; intro A2 cap2 W2 hr2 hu2 ho2; have HR2 := Lib.hid hr2; have HU2 := Lib.hid (HU1.out.trans hu2 (by intro s hs; right; exact HO1.out s hs)); have HO2 := Lib.hid (show ∀ k, k ∈ ownA A2 → W0.heap.size ≤ k by intro k hk; have hs1 := HU1.out.size; rcases ho2 k hk with h | h; (exact HO1.out k h); ((try simp at h); omega)); have b7 := HBT.out.upd HU2.out (by simp); have hc7 := b7.cellAt (i := 54) (v := .slice A n cap) HC54.out; have hf7 := b7.frozen 54; clear hr2 hu2 ho2 b7)
        | (refine step_app rfl (.tmp 35) (.tmp 37) rfl A1 n cap1 S.all HLEN.out rfl HR1.out (.slice (some ⟨W0.heap.size, 0, none⟩) 1 1) rfl 1 [⟨k, x, q⟩] HX1.out (by omega) ?_; intro A2 cap2 W2 hr2 hu2 ho2; have HR2 := Lib.hid hr2; have HU2 := Lib.hid (HU1.out.trans hu2 (by intro s hs; right; exact HO1.out s hs)); have HO2 := Lib.hid (show ∀ k, k ∈ ownA A2 → W0.heap.size ≤ k by intro k hk; have hs1 := HU1.out.size; rcases ho2 k hk with h | h; (exact HO1.out k h); ((try simp at h); omega)); have b7 := HBT.out.upd HU2.out (by simp); have hc7 := b7.cellAt (i := 54) (v := .slice A n cap) HC54.out; have hf7 := b7.frozen 54; clear hr2 hu2 ho2 b7))
        all_goals
          have hrA : r ∉ ownA A2 := by intro hg; have := HO2.out r hg; omega
          have hx := RX.setA (S' := ⟨S.has, S.fd, S.all ++ [⟨k, x, q⟩]⟩) (A' := A2) (cap' := cap2) (own := r :: ownA A2) (HBT.out.upd HU2.out (by simp)) rfl rfl HR2.out rfl hrA
          simp only [List.length_append, List.length_singleton, HLEN.out] at hx
          have hU : Upd [r] w (W2.setCell ⟨r, 54, none⟩ (.slice A2 (n + 1) cap2)) := (((HUW.out.trans0 HU2.out).zero [r]).setCell (p := ⟨r, 54, none⟩) (.inl (by simp)) _)
          have cA := hx.cellA
          simp only [List.length_append, List.length_singleton, HLEN.out] at cA
          have HGV := Lib.hid (rgive_any r _ _ _ _ _ hx (i := i) HI6.out (n + 1))
          have HUF := Lib.hid hU
          have HOF := Lib.hid (show ∀ g, g ∈ r :: ownA A2 → g ∈ own ∨ w.heap.size ≤ g from fun g hg => by
            rcases List.mem_cons.1 hg with rfl | hg
            · exact .inl HRM.out
            · have h1 := HO2.out g hg; have h2 := HUW.out.size; exact .inr (by omega))
          simp only [HLST.out] at HGV
          rw [show ((n + 1 : Nat) : Int) = (n : Int) + 1 by omega] at HGV
          clear hx hU hrA
          generalize (W2.setCell ⟨r, 54, none⟩ (.slice A2 (n + 1) cap2)) = W5 at *
          go_wp2_with fail
          refine HGV.out.mono ?_; rintro e w6 ⟨rfl, own6, hr6, ho6, hu6⟩
          have HR6 := Lib.hid hr6
          have HOO := Lib.hid (show ∀ g, g ∈ own6 → g ∈ own ∨ w.heap.size ≤ g from fun g hg => by
            rcases ho6 g hg with h | h
            · exact HOF.out g h
            · have := HUF.out.size; exact .inr (by omega))
          have HUO := Lib.hid (HUF.out.trans' hu6)
          clear hr6 ho6 hu6
          go_wp2_with fail
          go_ret2
          simp
          refine ⟨rfl, own6, ?_, HOO.out, HUO.out⟩
          have := HR6.out
          unfold putF withF at this
          unfold putN
          rw [HLEN.out]
          exact this
  · rw [if_neg he, if_neg he, if_neg he]
    have hO := ofE_no he
    rw [hO] at HF
    clear h h1 hu0 he hO hb0
    go_enter Try.func43, Try.ntmps43
    go_wp2_with fail
    refine HF.out.mono ?_; rintro e w' ⟨rfl, rfl⟩
    go_wp2_with fail
    go_ret2
    simp
    exact RChg.same H.out HU.out

end Go.Proofs.Ytedaffkdfniikaa
