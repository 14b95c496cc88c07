/- The reference's Get, Close, End. -/
import Derived.Test.YtedaffkdfniikaaFdsM
namespace Go.Proofs.Ytedaffkdfniikaa
open Go.RowKit Go.Shelf

theorem RX.opn {w : World} {r : Nat} {own : List Nat} {S : St} {A : Option Addr} {cap : Nat} (h : RX w r own S A cap) {j : Nat} (hj : j < S.all.length) :
    ∃ g, A = some ⟨g, 0, none⟩ ∧ w.rangeAt g (j * 3) (encO (opAt S (j + 1))) ∧ g ∈ own ∧ g ≠ r := by
  rcases h.row with ⟨_, _, h1⟩ | ⟨g, rfl, hr⟩
  · rw [h1] at hj
    exact absurd hj (Nat.not_lt_zero _)
  · obtain ⟨b, o, he, hc⟩ := hr.reads (by omega)
    injection he with he
    injection he with he1 he2 _
    subst he1 he2
    refine ⟨g, rfl, ?_, by rw [h.own]; simp [ownA], ?_⟩
    · have := hc j (opAt S (j + 1)) (by unfold opAt; rw [Nat.add_sub_cancel, List.getD, List.getElem?_eq_getElem hj]; rfl)
      rw [Nat.zero_add] at this
      exact this
    · obtain ⟨cur, hb, _⟩ := hr
      exact (h.blk.ne_ hb (by decide)).symm

section
variable (r : Nat) (own : List Nat) (S : St) (A : Option Addr) (cap : Nat) (w : World) (h : RX w r own S A cap) (hg : Good S)
include h hg

set_option maxHeartbeats 1000000 in
theorem rget_any (p k : Int) :
    Calls Try.prog 36 #[.pointer (some ⟨r, 0, none⟩), .int .i64 p, .int .i64 k] w fun e w' => e = .returned (.tuple #[.agg (encO (getO S p k)).toArray, .int .i64 (atE S p k)]) ∧ Upd [] w w' := by
  have hu0 := (Upd.refl [] w).alloc (.cells #[.int .u8 0, .int .i64 0, .int .i64 0] 30)
  have h1 := h.upd0 hu0
  have HA := Lib.hid (rat_any r own S A cap _ h1 p k)
  have HB : Hid (Blk (w.alloc (.cells #[.int .u8 0, .int .i64 0, .int .i64 0] 30)) w.heap.size OpenT (encO opZ).toArray) := Lib.hid (Blk.new w OpenT (encO opZ).toArray)
  have HU := Lib.hid hu0
  unfold getO
  by_cases he : atE S p k = 0
  · rw [if_pos he]
    obtain ⟨⟨p0, p1, hh⟩, k0, k1, h0⟩ := atE_ok he
    obtain ⟨n, hn⟩ : ∃ n, n = k.toNat := ⟨_, rfl⟩
    have hkn : k = (n : Int) := by omega
    subst hkn
    obtain ⟨i, hi⟩ : ∃ i, i = p.toNat := ⟨_, rfl⟩
    have hpi : p = (i : Int) := by omega
    subst hpi
    simp only [Int.toNat_natCast] at h0 hh ⊢
    obtain ⟨j, hj⟩ : ∃ j, S.fd i n = j + 1 := ⟨S.fd i n - 1, by omega⟩
    have hle := hg.le i n
    obtain ⟨g, rfl, hra, _, _⟩ := h1.opn (j := j) (by omega)
    have c0 := h1.cellF (i := i) (k := n) (by omega) (by omega)
    have cA := h1.cellA
    rw [hj] at c0 ⊢
    rw [show (((j + 1 : Nat)) : Int) = (j : Int) + 1 by omega] at c0
    have j0 : (0 : Int) ≤ (j : Int) := by omega
    have j1 : (j : Int) < (S.all.length : Int) := by omega
    have j2 : (j : Int) ≤ 9223372036854775806 := by have := h1.row.cap; unfold maxLen at this; omega
    have hwr : IntKind.i64.wrap (j : Int) = (j : Int) := by rw [IntKind.wrap_i64]; omega
    rw [he] at HA ⊢
    generalize opAt S (j + 1) = oo at *
    generalize S.all.length = len at *
    have hb := HB.out
    clear h h1 he hh h0 hu0 hi hn hj hle
    go_enter Try.func36, Try.ntmps36
    go_wp2_with fail
    refine HA.out.mono ?_; rintro e w' ⟨rfl, rfl⟩
    generalize (w.alloc (.cells #[.int .u8 0, .int .i64 0, .int .i64 0] 30)) = W at *
    have d0 := hra 0 (.int .u8 oo.k) rfl
    rw [Nat.add_zero] at d0
    have d1 := hra 1 (.int .i64 oo.r) rfl
    have d2 := hra 2 (.int .i64 oo.p) rfl
    have s0 := hb.cellAt (i := 0) (v := .int .u8 0) rfl
    have s1 := hb.cellAt (i := 1) (v := .int .i64 0) rfl
    have s2 := hb.cellAt (i := 2) (v := .int .i64 0) rfl
    have z0 := hb.frozen 0
    have z1 := hb.frozen 1
    have z2 := hb.frozen 2
    have HB2 := Lib.hid hb
    have i0 : (0 : Int) ≤ (i : Int) := by omega
    have i1 : (i : Int) < 6 := by omega
    clear hra hb
    go_wp2_with fail
    go_region
    all_goals go_wp2_with fail
    all_goals
      obtain ⟨hz3, hu3⟩ := store3 HB2.out.drew oo
      refine bodyPost_ret (res_ct rfl _ _ w.heap.size oo rfl hz3 _ rfl) rfl ?_
      exact ⟨by simp, ((HU.out.drew).trans hu3 (by simp))⟩
  · rw [if_neg he]
    have hb : (atE S p k == 0) = false := by simp [he]
    have hb' : (atE S p k != 0) = true := by simp [he]
    generalize atE S p k = e at *
    have hbb := HB.out
    clear h h1 he hu0
    go_enter Try.func36, Try.ntmps36
    go_wp2_with fail
    refine HA.out.mono ?_; rintro e w' ⟨rfl, rfl⟩
    generalize (w.alloc (.cells #[.int .u8 0, .int .i64 0, .int .i64 0] 30)) = W at *
    go_wp2_with (refine wpList_store_op rfl _ _ rfl w.heap.size opZ opZ rfl rfl hbb ?_; intro w2 hb2 hu2)
    refine bodyPost_ret (res_ct rfl _ _ w.heap.size opZ rfl hb2 _ rfl) rfl ?_
    exact ⟨by simp, HU.out.trans hu2 (by simp)⟩

set_option maxRecDepth 100000 in
set_option maxHeartbeats 2000000 in
theorem rclose_any (p k : Int) :
    Calls Try.prog 45 #[.pointer (some ⟨r, 0, none⟩), .int .i64 p, .int .i64 k] w fun e w' =>
      e = .returned (.tuple #[.agg (encO (getO S p k)).toArray, .bool (cloL S p k), .int .i64 (atE S p k)]) ∧ RX w' r own (cloS S p k) A cap ∧ Upd [r] w w' := by
  have hu0 := (Upd.refl [] w).alloc (.cells #[.int .u8 0, .int .i64 0, .int .i64 0] 30)
  have h1 := h.upd0 hu0
  have HA := Lib.hid (rat_any r own S A cap _ h1 p k)
  have HB : Hid (Blk (w.alloc (.cells #[.int .u8 0, .int .i64 0, .int .i64 0] 30)) w.heap.size OpenT (encO opZ).toArray) := Lib.hid (Blk.new w OpenT (encO opZ).toArray)
  have HU := Lib.hid hu0
  have HOT : Hid (w.heap.size ∉ own) := Lib.hid (fun hm => by have := h.lt _ hm; omega)
  have H := Lib.hid h
  unfold getO cloL cloS
  by_cases he : atE S p k = 0
  · rw [if_pos he, if_pos he]
    obtain ⟨⟨p0, p1, hh⟩, k0, k1, h0⟩ := atE_ok he
    obtain ⟨n, hn⟩ : ∃ n, n = k.toNat := ⟨_, rfl⟩
    have hkn : k = (n : Int) := by omega
    subst hkn
    obtain ⟨i, hi⟩ : ∃ i, i = p.toNat := ⟨_, rfl⟩
    have hpi : p = (i : Int) := by omega
    subst hpi
    simp only [Int.toNat_natCast] at h0 hh ⊢
    obtain ⟨j, hj⟩ : ∃ j, S.fd i n = j + 1 := ⟨S.fd i n - 1, by omega⟩
    have hle := hg.le i n
    have c0 := h1.cellF (i := i) (k := n) (by omega) (by omega)
    have f0 := h1.frz (6 + i * 8 + n)
    have h2 := h1.setF (i := i) (k := n) (by omega) (by omega) 0
    obtain ⟨g, hA, hra, hgo, hgr⟩ := h2.opn (j := j) (by unfold withF; simp only; omega)
    rw [opAt_withF] at hra
    have cA := h2.cellA
    have HH := Lib.hid (fun W (hW : RX W r own (withF S (setF S.fd i n 0)) A cap) => rheld_any r own (withF S (setF S.fd i n 0)) A cap W hW (j + 1))
    have hfd : (withF S (setF S.fd i n 0)).fd = setF S.fd i n 0 := rfl
    have hal : (withF S (setF S.fd i n 0)).all = S.all := rfl
    rw [hfd] at HH
    rw [hal] at cA
    have hu2 := (hu0.zero [r]).setCell (p := ⟨r, 6 + i * 8 + n, none⟩) (.inl (by simp)) (.int .i64 ((0 : Nat) : Int))
    have HB2 := Lib.hid (HB.out.far (p := ⟨r, 6 + i * 8 + n, none⟩) (fun e => HOT.out (by rw [e]; exact h.mem)) (.int .i64 ((0 : Nat) : Int)))
    have HX2 := Lib.hid h2
    have HU2 := Lib.hid hu2
    have d0 := hra 0 (.int .u8 (opAt S (j + 1)).k) rfl
    rw [Nat.add_zero] at d0
    have d1 := hra 1 (.int .i64 (opAt S (j + 1)).r) rfl
    have d2 := hra 2 (.int .i64 (opAt S (j + 1)).p) rfl
    have hd : decide (atE S (i : Int) (n : Int) = 0 ∧ cntF (setF S.fd i n 0) (S.fd i n) = 0) = !decide (cntF (setF S.fd i n 0) (j + 1) ≠ 0) := by
      have hcj : cntF (setF S.fd i n 0) (S.fd i n) = cntF (setF S.fd i n 0) (j + 1) := by rw [hj]
      simp only [he, true_and, hcj]
      by_cases hc : cntF (setF S.fd i n 0) (j + 1) = 0 <;> simp [hc]
    rw [hd]
    rw [hj] at c0 ⊢
    rw [show (((j + 1 : Nat)) : Int) = (j : Int) + 1 by omega] at c0 HH
    have j0 : (0 : Int) ≤ (j : Int) := by omega
    have j1 : (j : Int) < (S.all.length : Int) := by omega
    have j2 : (j : Int) ≤ 9223372036854775806 := by have := h1.row.cap; unfold maxLen at this; omega
    have hwr : IntKind.i64.wrap (j : Int) = (j : Int) := by rw [IntKind.wrap_i64]; omega
    rw [he] at HA ⊢
    rw [hA] at cA
    rw [show (((0 : Nat)) : Int) = 0 from rfl] at *
    generalize decide (cntF (setF S.fd i n 0) (j + 1) ≠ 0) = d at *
    generalize opAt S (j + 1) = oo at *
    generalize S.all.length = len at *
    have i0 : (0 : Int) ≤ (i : Int) := by omega
    have i1 : (i : Int) < 6 := by omega
    clear h h1 h2 he hh h0 hu0 hu2 hi hn hj hle hra hd hfd hal
    go_enter Try.func45, Try.ntmps45
    go_wp2_with fail
    refine HA.out.mono ?_; rintro e w' ⟨rfl, rfl⟩
    go_wp2_with fail
    generalize ((w.alloc (.cells #[.int .u8 0, .int .i64 0, .int .i64 0] 30)).setCell ⟨r, 6 + i * 8 + n, none⟩ (.int .i64 0)) = W at *
    have hz := HB2.out
    have s0 := hz.cellAt (i := 0) (v := .int .u8 0) rfl
    have s1 := hz.cellAt (i := 1) (v := .int .i64 0) rfl
    have s2 := hz.cellAt (i := 2) (v := .int .i64 0) rfl
    have z0 := hz.frozen 0
    have z1 := hz.frozen 1
    have z2 := hz.frozen 2
    clear hz
    go_region_with (go_at_call 52; refine (HH.out _ (HX2.out.upd0 ((Upd.refl [] W).drew))).mono ?_; rintro e w2 ⟨rfl, rfl⟩)
    all_goals go_wp2_with fail
    all_goals
      obtain ⟨hz3, hu3⟩ := store3 HB2.out.drew oo
      refine bodyPost_ret (res_ctt rfl _ _ w.heap.size oo rfl hz3 _ _ rfl rfl) rfl ?_
      exact ⟨rfl, (HX2.out.upd0 ((Upd.refl [] W).drew)).upd hu3 (by intro g hg hm; simp at hm; subst hm; exact HOT.out hg), (HU2.out.drew).trans hu3 (by intro g hg; simp at hg; right; omega)⟩
  · rw [if_neg he, if_neg he]
    have hd : decide (atE S p k = 0 ∧ cntF (setF S.fd p.toNat k.toNat 0) (S.fd p.toNat k.toNat) = 0) = false := by simp [he]
    rw [hd]
    have hb : (atE S p k == 0) = false := by simp [he]
    have hb' : (atE S p k != 0) = true := by simp [he]
    generalize atE S p k = e at *
    have hbb := HB.out
    clear h h1 he hu0 hd
    go_enter Try.func45, Try.ntmps45
    go_wp2_with fail
    refine HA.out.mono ?_; rintro e w' ⟨rfl, rfl⟩
    generalize (w.alloc (.cells #[.int .u8 0, .int .i64 0, .int .i64 0] 30)) = W at *
    go_wp2_with (refine wpList_store_op rfl _ _ rfl w.heap.size opZ opZ rfl rfl hbb ?_; intro w2 hb2 hu2)
    refine bodyPost_ret (res_ctt rfl _ _ w.heap.size opZ rfl hb2 _ _ rfl rfl) rfl ?_
    have hz : Upd [] w w2 := HU.out.trans hu2 (by simp)
    exact ⟨by simp, H.out.upd0 hz, hz.zero _⟩
end

end Go.Proofs.Ytedaffkdfniikaa
