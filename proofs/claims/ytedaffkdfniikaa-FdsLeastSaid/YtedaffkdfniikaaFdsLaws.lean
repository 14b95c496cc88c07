/- What descriptors are of is just what the document says; the least is given: the walks. -/
import Derived.Test.YtedaffkdfniikaaFdsSm
namespace Go.Proofs.Ytedaffkdfniikaa
open Go.RowKit Go.Shelf

set_option maxRecDepth 100000 in
set_option maxHeartbeats 2000000 in
theorem plays_any (A : Option Addr) (len cap : Nat) (w : World) (hd : Deeds w A len) (hlen : len ≤ 9223372036854775807) :
    Calls Try.prog 6 #[.slice A len cap] w (TruePost w) := by
  have HD := Lib.hid hd
  clear hd
  go_enter Try.func6, Try.ntmps6
  go_wp2_with fail
  refine (play_any A len cap _ HD.out hlen).mono ?_; rintro e w1 ⟨t, r, S, rfl, hb⟩
  have HB := Lib.hid hb
  clear hb
  go_wp2_with fail
  refine (live_any _).mono ?_; rintro e w2 ⟨rfl, hu2⟩
  have HB2 := Lib.hid (HB.out.upd0 hu2)
  clear hu2
  go_wp2_with fail
  refine (same_any w t r 51 [] S w2 HB2.out).mono ?_; rintro e w3 ⟨rfl, hu3⟩
  have HU := Lib.hid (HB2.out.upd.trans' hu3)
  clear hu3
  go_wp2_with fail
  go_ret
  exact ⟨by simp, HU.out⟩

theorem lisL_all (f : Nat → Nat → Nat) (i : Nat) : ∀ n, (∀ k, k < n → f i k ≠ 0) → lisL f i n = List.range n := by
  intro n
  induction n with
  | zero => intro _; rfl
  | succ n ih =>
    intro h
    unfold lisL
    rw [if_neg (h n (by omega)), ih (fun k hk => h k (by omega)), List.range_succ]
theorem lisL_pre (f : Nat → Nat → Nat) (i : Nat) : ∀ n m, ∃ l, lisL f i (n + m) = lisL f i n ++ l := by
  intro n m
  induction m with
  | zero => exact ⟨[], by simp⟩
  | succ m ih =>
    obtain ⟨l, hl⟩ := ih
    rw [← Nat.add_assoc]
    show ∃ l, (if f i (n + m) = 0 then lisL f i (n + m) else lisL f i (n + m) ++ [n + m]) = _
    split
    · exact ⟨l, hl⟩
    · exact ⟨l ++ [n + m], by rw [hl, List.append_assoc]⟩
theorem lisL_mem (f : Nat → Nat → Nat) (i k : Nat) : ∀ n, k ∈ lisL f i n → k < n ∧ f i k ≠ 0 := by
  intro n
  induction n with
  | zero => intro h; simp [lisL] at h
  | succ n ih =>
    intro h
    unfold lisL at h
    split at h
    · have := ih h; exact ⟨by omega, this.2⟩
    · rename_i h0
      rcases List.mem_append.1 h with h | h
      · have := ih h; exact ⟨by omega, this.2⟩
      · simp at h; subst h; exact ⟨by omega, h0⟩
/-- Where the row of descriptors first leaves out a number, that one is the least free. -/
theorem want_is {f : Nat → Nat → Nat} {i j : Nat} (hp : ∀ y, y < j → (lisL f i 8)[y]? = some y) (hx : (lisL f i 8)[j]? ≠ some j) (hj : j ≤ 8) {k : Nat} (hk : lstF f i = some k) : k = j := by
  obtain ⟨k8, k0, kl⟩ := lst_some hk
  have hnz : ∀ y, y < j → f i y ≠ 0 := fun y hy => (lisL_mem f i y 8 (List.mem_of_getElem? (hp y hy))).2
  have hkj : j ≤ k := by
    rcases Nat.lt_or_ge k j with h | h
    · exact absurd k0 (hnz k h)
    · exact h
  rcases Nat.lt_or_ge j k with h | h
  · exfalso
    apply hx
    have hall := lisL_all f i (j + 1) (fun y hy => by
      by_cases hyj : y = j
      · rw [hyj]; exact kl j h
      · exact hnz y (by omega))
    obtain ⟨l, hl⟩ := lisL_pre f i (j + 1) (8 - (j + 1))
    rw [show j + 1 + (8 - (j + 1)) = 8 by omega, hall] at hl
    rw [hl, List.getElem?_append_left (by simp), List.getElem?_range (by omega)]
  · omega
theorem lisL_set {f : Nat → Nat → Nat} {i k v : Nat} (h0 : f i k = 0) (hv : v ≠ 0) : ∀ n, (lisL (setF f i k v) i n).length = (lisL f i n).length + (if k < n then 1 else 0) := by
  intro n
  induction n with
  | zero => simp [lisL]
  | succ n ih =>
    unfold lisL
    by_cases hkn : n = k
    · subst hkn
      rw [setF_at, if_neg hv, if_pos h0, List.length_append, ih, if_neg (by omega), if_pos (by omega)]
      simp
    · rw [setF_ne (by omega)]
      have e : (k < n + 1) ↔ (k < n) := by omega
      split
      · rw [ih]; simp only [e]
      · rw [List.length_append, List.length_append, ih]; simp only [e, List.length_singleton]; omega
theorem opn_ok {S : St} {p : Int} {o : Op} (h : opnE S p o = 0) : ∃ k, ofE S p = 0 ∧ ¬ badO o ∧ lstF S.fd p.toNat = some k ∧ opnV S p o = k ∧ opnS S p o = putN S p.toNat o (some k) := by
  unfold opnE at h
  split at h
  · rename_i he
    split at h
    · cases h
    · rename_i hb
      cases hl : lstF S.fd p.toNat with
      | none => rw [hl] at h; cases h
      | some k =>
        refine ⟨k, he, hb, rfl, ?_, ?_⟩
        · unfold opnV; rw [if_pos he, if_neg hb, hl]; rfl
        · unfold opnS; rw [if_pos he, if_neg hb, hl]
  · cases h
theorem opn_get {S : St} {p : Int} {o : Op} {k : Nat} (he : ofE S p = 0) (hl : lstF S.fd p.toNat = some k) : atE (putN S p.toNat o (some k)) p (k : Int) = 0 ∧ getO (putN S p.toNat o (some k)) p (k : Int) = o ∧ roomO (putN S p.toNat o (some k)) p = roomO S p - 1 := by
  obtain ⟨k8, k0, _⟩ := lst_some hl
  have ho : ofE (putN S p.toNat o (some k)) p = 0 := he
  have hat : atE (putN S p.toNat o (some k)) p (k : Int) = 0 := by
    unfold atE
    rw [if_neg (by simp [ho])]
    rw [if_pos ⟨by omega, by omega, by rw [Int.toNat_natCast]; unfold putN; simp only; rw [setF_at]; omega⟩]
  refine ⟨hat, ?_, ?_⟩
  · unfold getO
    rw [if_pos hat, Int.toNat_natCast]
    unfold putN opAt
    simp only
    rw [setF_at, Nat.add_sub_cancel, List.getD, List.getElem?_append_right (Nat.le_refl _), Nat.sub_self]
    rfl
  · unfold roomO
    rw [if_pos ho, if_pos he]
    have := lisL_set (f := S.fd) (i := p.toNat) (k := k) (v := S.all.length + 1) k0 (by omega) 8
    rw [if_pos k8] at this
    unfold putN
    simp only
    rw [this]
    omega

end Go.Proofs.Ytedaffkdfniikaa
