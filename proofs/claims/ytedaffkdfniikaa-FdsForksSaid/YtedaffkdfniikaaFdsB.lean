/- The table: of, fresh, at, release, Begin, New. -/
import Derived.Test.YtedaffkdfniikaaFdsR
namespace Go.Proofs.Ytedaffkdfniikaa
open Go.RowKit Go.Shelf

def ofE (S : St) (p : Int) : Int := if 0 ≤ p ∧ p < 6 ∧ S.has p.toNat = true then 0 else 5
def frE (S : St) (p : Int) : Int := if p < 0 ∨ 6 ≤ p then 2 else if S.has p.toNat = true then 6 else 0
def atE (S : St) (p k : Int) : Int := if ofE S p ≠ 0 then 5 else if 0 ≤ k ∧ k < 8 ∧ S.fd p.toNat k.toNat ≠ 0 then 0 else 3
theorem ofE_ok {S : St} {p : Int} (h : ofE S p = 0) : 0 ≤ p ∧ p < 6 ∧ S.has p.toNat = true := by
  unfold ofE at h
  split at h
  · assumption
  · cases h
theorem ofE_no {S : St} {p : Int} (h : ofE S p ≠ 0) : ofE S p = 5 := by
  unfold ofE at h ⊢
  split at h
  · exact absurd rfl h
  · rename_i h1; rw [if_neg h1]
theorem frE_ok {S : St} {p : Int} (h : frE S p = 0) : 0 ≤ p ∧ p < 6 ∧ S.has p.toNat = false := by
  unfold frE at h
  split at h
  · cases h
  · split at h
    · cases h
    · rename_i h1 h2
      exact ⟨by omega, by omega, by simpa using h2⟩
theorem atE_ok {S : St} {p k : Int} (h : atE S p k = 0) : (0 ≤ p ∧ p < 6 ∧ S.has p.toNat = true) ∧ 0 ≤ k ∧ k < 8 ∧ S.fd p.toNat k.toNat ≠ 0 := by
  unfold atE at h
  split at h
  · cases h
  · rename_i h1
    split at h
    · rename_i h2
      exact ⟨ofE_ok (Decidable.not_not.1 h1), h2⟩
    · cases h
def ofV (S : St) (pb : Nat → Nat) (p : Int) : Value := pv (decide (ofE S p = 0)) (pb p.toNat)
def atV (S : St) (sb : Nat → Nat) (p k : Int) : Value := if atE S p k = 0 then .pointer (some ⟨sb (S.fd p.toNat k.toNat), 0, none⟩) else .pointer none
section
variable (t : Nat) (own : List Nat) (S : St) (pb sb : Nat → Nat) (w : World) (h : Prog w t own S pb sb)
include h

set_option maxHeartbeats 1000000 in
theorem of_any (p : Int) :
    Calls Try.prog 28 #[.pointer (some ⟨t, 0, none⟩), .int .i64 p] w fun e w' => e = .returned (.tuple #[ofV S pb p, .int .i64 (ofE S p)]) ∧ w' = w := by
  by_cases hr : 0 ≤ p ∧ p < 6
  · obtain ⟨r0, r1⟩ := hr
    obtain ⟨n, rfl⟩ : ∃ n : Nat, p = n := ⟨p.toNat, by omega⟩
    have hc := h.cellT (i := n) (by omega)
    unfold ofV ofE
    simp only [Int.toNat_natCast, r0, r1, true_and]
    generalize pb n = x at *
    cases hh : S.has n with
    | true =>
      rw [hh] at hc
      simp only [pv, if_true, decide_true] at hc ⊢
      clear h hh
      go_enter Try.func28, Try.ntmps28
      go_wp2_with fail
      go_ret2
      exact ⟨by simp, rfl⟩
    | false =>
      rw [hh] at hc
      simp only [pv] at hc ⊢
      clear h hh
      go_enter Try.func28, Try.ntmps28
      go_wp2_with fail
      go_ret2
      exact ⟨by simp, rfl⟩
  · have e : ofE S p = 5 := by unfold ofE; rw [if_neg (fun hh => hr ⟨hh.1, hh.2.1⟩)]
    unfold ofV
    rw [e]
    have hr2 : p < 0 ∨ 6 ≤ p := by omega
    clear e h
    rcases hr2 with hr2 | hr2
    · go_enter Try.func28, Try.ntmps28
      go_wp2_with fail
      go_ret2
      exact ⟨by simp [pv], rfl⟩
    · have hr3 : 0 ≤ p := by omega
      go_enter Try.func28, Try.ntmps28
      go_wp2_with fail
      go_ret2
      exact ⟨by simp [pv], rfl⟩

set_option maxHeartbeats 1000000 in
theorem fresh_any (p : Int) :
    Calls Try.prog 27 #[.pointer (some ⟨t, 0, none⟩), .int .i64 p] w fun e w' => e = .returned (.int .i64 (frE S p)) ∧ w' = w := by
  unfold frE
  by_cases hr : p < 0 ∨ 6 ≤ p
  · rw [if_pos hr]
    clear h
    rcases hr with hr2 | hr2
    · go_enter Try.func27, Try.ntmps27
      go_wp2_with fail
      go_ret
      exact ⟨by simp, rfl⟩
    · have hr3 : 0 ≤ p := by omega
      go_enter Try.func27, Try.ntmps27
      go_wp2_with fail
      go_ret
      exact ⟨by simp, rfl⟩
  · rw [if_neg hr]
    obtain ⟨n, rfl⟩ : ∃ n : Nat, p = n := ⟨p.toNat, by omega⟩
    have hc := h.cellT (i := n) (by omega)
    have r0 : 0 ≤ (n : Int) := by omega
    have r1 : (n : Int) < 6 := by omega
    simp only [Int.toNat_natCast]
    generalize pb n = x at *
    clear hr
    by_cases hh : S.has n = true
    · rw [hh] at hc
      rw [if_pos hh]
      simp only [pv, if_true] at hc ⊢
      clear h hh
      go_enter Try.func27, Try.ntmps27
      go_wp2_with fail
      go_ret
      exact ⟨by simp, rfl⟩
    · have hh' : S.has n = false := by simpa using hh
      rw [hh'] at hc
      rw [if_neg hh]
      simp only [pv] at hc ⊢
      clear hh'
      clear h hh
      go_enter Try.func27, Try.ntmps27
      go_wp2_with fail
      go_ret
      exact ⟨by simp, rfl⟩

set_option maxHeartbeats 1000000 in
theorem at_any (p k : Int) :
    Calls Try.prog 31 #[.pointer (some ⟨t, 0, none⟩), .int .i64 p, .int .i64 k] w fun e w' =>
      e = .returned (.tuple #[pv (decide (atE S p k = 0)) (pb p.toNat), atV S sb p k, .int .i64 (atE S p k)]) ∧ ∃ n, w' = w.drewN n := by
  have HO := Lib.hid (of_any t own S pb sb w h p)
  unfold ofV at HO
  by_cases ho : ofE S p = 0
  · obtain ⟨p0, p1, hh⟩ := ofE_ok ho
    rw [ho] at HO
    simp only [decide_true, pv, if_true] at HO
    by_cases hk : 0 ≤ k ∧ k < 8
    · obtain ⟨k0, k1⟩ := hk
      obtain ⟨n, rfl⟩ : ∃ n : Nat, k = n := ⟨k.toNat, by omega⟩
      have hc := h.cellP (i := p.toNat) (k := n) (by omega) hh (by omega)
      unfold atV
      by_cases h0 : S.fd p.toNat n = 0
      · have hE : atE S p (n : Int) = 3 := by unfold atE; simp [ho, h0]
        rw [hE]
        simp only [sv, h0, if_true] at hc
        generalize pb p.toNat = x at *
        clear h ho hh h0 hE
        go_enter Try.func31, Try.ntmps31
        go_wp2_with fail
        refine HO.out.mono ?_; rintro e w' ⟨rfl, rfl⟩
        go_wp2_with fail
        go_ret3
        exact ⟨by simp [pv], 0, rfl⟩
      · have hE : atE S p (n : Int) = 0 := by unfold atE; simp [ho, h0, k1]
        rw [hE]
        simp only [sv, h0, if_false, Int.toNat_natCast, if_true] at hc ⊢
        generalize sb (S.fd p.toNat n) = y at *
        generalize pb p.toNat = x at *
        clear h ho hh h0 hE
        go_enter Try.func31, Try.ntmps31
        go_wp2_with fail
        refine HO.out.mono ?_; rintro e w' ⟨rfl, rfl⟩
        have hc2 : ∀ n, (w'.drewN n).cell? ⟨x, n, none⟩ = w'.cell? ⟨x, n, none⟩ := fun _ => rfl
        go_wp2_with fail
        go_quiet (fail)
        rename_i nq
        go_wp2_with fail
        go_ret3
        exact ⟨by simp [pv], nq, rfl⟩
    · have hE : atE S p k = 3 := by unfold atE; rw [ho, if_neg (by decide), if_neg (fun hh => hk ⟨hh.1, hh.2.1⟩)]
      unfold atV
      rw [hE]
      have hr2 : k < 0 ∨ 8 ≤ k := by omega
      generalize pb p.toNat = x at *
      clear h ho hh hE hk
      rcases hr2 with hr2 | hr2
      · go_enter Try.func31, Try.ntmps31
        go_wp2_with fail
        refine HO.out.mono ?_; rintro e w' ⟨rfl, rfl⟩
        go_wp2_with fail
        go_ret3
        exact ⟨by simp [pv], 0, rfl⟩
      · have hr3 : 0 ≤ k := by omega
        go_enter Try.func31, Try.ntmps31
        go_wp2_with fail
        refine HO.out.mono ?_; rintro e w' ⟨rfl, rfl⟩
        go_wp2_with fail
        go_ret3
        exact ⟨by simp [pv], 0, rfl⟩
  · have hE : atE S p k = 5 := by unfold atE; rw [if_pos ho]
    have hO := ofE_no ho
    unfold atV
    rw [hE]
    rw [hO] at HO
    generalize pb p.toNat = x at *
    clear h ho hE hO
    simp only [pv] at HO ⊢
    go_enter Try.func31, Try.ntmps31
    go_wp2_with fail
    refine HO.out.mono ?_; rintro e w' ⟨rfl, rfl⟩
    go_wp2_with fail
    go_ret3
    exact ⟨by simp, 0, rfl⟩

set_option maxHeartbeats 1000000 in
theorem release_any {i k n : Nat} (hi : i < 6) (hh : S.has i = true) (hk : k < 8) (hn : S.fd i k = n) (h0 : n ≠ 0) :
    Calls Try.prog 29 #[.pointer (some ⟨pb i, 0, none⟩), .int .i64 k] w fun e w' =>
      e = .returned (.bool (decide (cntF (setF S.fd i k 0) n = 0))) ∧ Prog w' t own (withF S (setF S.fd i k 0)) pb sb ∧ Upd own w w' ∧ Blk w' (sb n) ShT (shC (opAt S n) (cntF (setF S.fd i k 0) n)) := by
  have hc : cntF S.fd n ≠ 0 := cnt_of hi hk hn
  have hcc : cntF (setF S.fd i k 0) n + 1 = cntF S.fd n := by
    have := cnt_setF S.fd i k 0 n hi hk
    rw [hn, if_pos rfl, if_neg (fun e : 0 = n => h0 e.symm)] at this
    exact this
  have hle := cnt_le S.fd n
  have hop := h.op i hi hh
  have hos := h.os n h0 hc
  have HF := Lib.hid (h.down hi hh hk hn h0)
  have c0 := h.cellP hi hh hk
  rw [hn] at c0
  simp only [sv, h0, if_false] at c0
  have f0 := (h.prc i hi hh).frozen k
  have hb1 := (h.shr n h0 hc).far (p := ⟨pb i, k, none⟩) (h.nps hi hh h0 hc).symm (.pointer none)
  have c1 := hb1.cellAt (i := 3) (v := .int .i64 (cntF S.fd n : Int)) rfl
  have f1 := hb1.frozen 3
  have c2 := (hb1.set_ 3 (.int .i64 ((cntF S.fd n : Int) - 1))).cellAt (i := 3) (v := .int .i64 ((cntF S.fd n : Int) - 1)) rfl
  have HBK : Hid (Blk ((w.setCell ⟨pb i, k, none⟩ (.pointer none)).setCell ⟨sb n, 3, none⟩ (.int .i64 ((cntF S.fd n : Int) - 1))) (sb n) ShT (shC (opAt S n) (cntF (setF S.fd i k 0) n))) := Lib.hid (by
    have e : shC (opAt S n) (cntF (setF S.fd i k 0) n) = (shC (opAt S n) (cntF S.fd n)).setIfInBounds 3 (.int .i64 ((cntF S.fd n : Int) - 1)) := by
      have : ((cntF (setF S.fd i k 0) n : Nat) : Int) = (cntF S.fd n : Int) - 1 := by omega
      unfold shC
      rw [this]
      simp
    rw [e]
    exact hb1.set_ 3 _)
  have hd : decide (cntF (setF S.fd i k 0) n = 0) = decide ((cntF S.fd n : Int) - 1 = 0) := by
    rw [Bool.eq_iff_iff, decide_eq_true_eq, decide_eq_true_eq]; omega
  rw [hd]
  have HU := Lib.hid (((Upd.refl own w).setCell (p := ⟨pb i, k, none⟩) (.inl hop) (.pointer none)).setCell (p := ⟨sb n, 3, none⟩) (.inl hos) (.int .i64 ((cntF S.fd n : Int) - 1)))
  have i0 : (1 : Int) ≤ (cntF S.fd n : Int) := by omega
  have i1 : (cntF S.fd n : Int) ≤ 48 := by omega
  have k0 : (0 : Int) ≤ (k : Int) := by omega
  have k1 : (k : Int) < 8 := by omega
  have hbe : ((cntF S.fd n : Int) - 1 == 0) = decide ((cntF S.fd n : Int) - 1 = 0) := by rw [Bool.eq_iff_iff, beq_iff_eq, decide_eq_true_eq]
  clear h hc hcc hle hop hos hb1 hd hh hn hi hk
  generalize (cntF S.fd n : Int) = c at *
  generalize pb i = x at *
  generalize sb n = y at *
  go_enter Try.func29, Try.ntmps29
  go_wp2_with fail
  go_ret
  exact ⟨by simp, HF.out, HU.out, HBK.out⟩
end

theorem new_any (w : World) :
    Calls Try.prog 9 #[] w fun e w' => e = .returned (.pointer (some ⟨w.heap.size, 0, none⟩)) ∧ w' = w.alloc (.cells (rowF 6 fun _ => .pointer none) TabT) := by
  go_enter Try.func9, Try.ntmps9
  go_wp2_with fail
  go_ret
  exact ⟨by simp, rfl⟩

end Go.Proofs.Ytedaffkdfniikaa
