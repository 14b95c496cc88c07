/- Plainly: how much is in use, and what the deeds make of that. -/
import Derived.Test.YtedaffkdfniikaaFdsOpen
namespace Go.Proofs.Ytedaffkdfniikaa

def usedB (f : Nat → Nat → Nat) (n : Nat) : Bool := decide (n ≠ 0 ∧ cntF f n ≠ 0)
def useN (S : St) : Nat := (List.range (S.all.length + 1)).countP (usedB S.fd)
theorem countP_same {p q : Nat → Bool} (N : Nat) (h : ∀ n, n < N → p n = q n) : (List.range N).countP p = (List.range N).countP q :=
  List.countP_congr fun n hn => by rw [h n (List.mem_range.1 hn)]
theorem countP_one {p q : Nat → Bool} {m : Nat} (h : ∀ n, n ≠ m → q n = p n) : ∀ N, (List.range N).countP q + (if m < N ∧ p m = true then 1 else 0) = (List.range N).countP p + (if m < N ∧ q m = true then 1 else 0) := by
  intro N
  induction N with
  | zero => simp
  | succ N ih =>
    rw [List.range_succ, List.countP_append, List.countP_append, List.countP_singleton, List.countP_singleton]
    by_cases hm : N = m
    · subst hm
      have a1 : ¬ N < N := by omega
      simp only [a1, false_and, if_false, Nat.add_zero] at ih
      have a2 : N < N + 1 := by omega
      simp only [a2, true_and]
      rw [ih]
      omega
    · rw [h N hm]
      have e : (m < N + 1) ↔ (m < N) := by omega
      simp only [e]
      omega
theorem used_up {f : Nat → Nat → Nat} {i k m : Nat} (hi : i < 6) (hk : k < 8) (h0 : f i k = 0) (hc : m = 0 ∨ cntF f m ≠ 0) (n : Nat) : usedB (setF f i k m) n = usedB f n := by
  have h := cnt_setF f i k m n hi hk
  unfold usedB
  by_cases hn : n = 0
  · simp [hn]
  · rw [h0, if_neg (fun e : 0 = n => hn e.symm)] at h
    by_cases hmn : m = n
    · subst hmn
      rcases hc with hc | hc
      · exact absurd hc hn
      · rw [if_pos rfl] at h
        have : cntF (setF f i k m) m ≠ 0 := by omega
        simp [hn, hc, this]
    · rw [if_neg hmn, Nat.add_zero, Nat.add_zero] at h
      rw [h]
theorem used_down {f : Nat → Nat → Nat} {i k : Nat} (hi : i < 6) (hk : k < 8) (n : Nat) (hn : n ≠ f i k) : usedB (setF f i k 0) n = usedB f n := by
  have h := cnt_setF f i k 0 n hi hk
  unfold usedB
  by_cases h0 : n = 0
  · simp [h0]
  · rw [if_neg (fun e : f i k = n => hn e.symm), if_neg (fun e : 0 = n => h0 e.symm), Nat.add_zero, Nat.add_zero] at h
    rw [h]
theorem use_down {S : St} (hg : Good S) {i k : Nat} (hi : i < 6) (hk : k < 8) (h0 : S.fd i k ≠ 0) :
    useN (withF S (setF S.fd i k 0)) + (if cntF (setF S.fd i k 0) (S.fd i k) = 0 then 1 else 0) = useN S := by
  have h := countP_one (p := usedB S.fd) (q := usedB (setF S.fd i k 0)) (m := S.fd i k) (fun n hn => used_down hi hk n hn) (S.all.length + 1)
  have hle := hg.le i k
  have u1 : usedB S.fd (S.fd i k) = true := by
    unfold usedB
    exact decide_eq_true ⟨h0, cnt_of hi hk rfl⟩
  have u2 : usedB (setF S.fd i k 0) (S.fd i k) = decide (cntF (setF S.fd i k 0) (S.fd i k) ≠ 0) := by
    unfold usedB
    simp [h0]
  have hlt : S.fd i k < S.all.length + 1 := by omega
  rw [u1, u2] at h
  simp only [hlt, true_and, if_true, decide_eq_true_eq] at h
  unfold useN withF
  simp only
  by_cases hc : cntF (setF S.fd i k 0) (S.fd i k) = 0
  · simp only [hc, ne_eq, not_true_eq_false, if_false, Nat.add_zero] at h
    rw [if_pos hc]
    exact h
  · rw [if_neg hc]
    simp only [ne_eq, hc, not_false_eq_true, if_true] at h
    omega
theorem use_up {S : St} {i k m : Nat} (hi : i < 6) (hk : k < 8) (h0 : S.fd i k = 0) (hc : m = 0 ∨ cntF S.fd m ≠ 0) : useN (withF S (setF S.fd i k m)) = useN S := by
  unfold useN withF
  exact countP_same _ fun n _ => used_up hi hk h0 hc n
theorem use_setH (S : St) (i : Nat) (b : Bool) : useN (setH S i b) = useN S := rfl
theorem use_beg (S : St) (p : Int) : useN (begS S p) = useN S := by
  unfold begS
  split
  · rfl
  · rfl
theorem use_dup {S : St} (p k : Int) : useN (dupS S p k) = useN S := by
  unfold dupS
  split
  · rename_i hE
    obtain ⟨⟨p0, p1, hh⟩, k0, k1, h0⟩ := atE_ok hE
    cases hl : lstF S.fd p.toNat with
    | none => rfl
    | some j =>
      obtain ⟨j8, j0, _⟩ := lst_some hl
      exact use_up (by omega) j8 j0 (.inr (cnt_of (i := p.toNat) (k := k.toNat) (by omega) (by omega) rfl))
  · rfl
theorem use_clo {S : St} (hg : Good S) (p k : Int) : useN (cloS S p k) + (if cloL S p k = true then 1 else 0) = useN S := by
  unfold cloS cloL
  by_cases hE : atE S p k = 0
  · obtain ⟨⟨p0, p1, hh⟩, k0, k1, h0⟩ := atE_ok hE
    rw [if_pos hE]
    simp only [hE, true_and, decide_eq_true_eq]
    exact use_down hg (by omega) (by omega) h0
  · rw [if_neg hE]
    simp [hE]
theorem use_finL {S : St} (hg : Good S) {i : Nat} (hi : i < 6) : ∀ n, n ≤ 8 → useN (finL S i n).1 + (finL S i n).2.length = useN S
  | 0, _ => by simp [finL]
  | n + 1, hn => by
    have ih := use_finL hg hi n (by omega)
    have hgn := good_finL hg i n
    by_cases h0 : (finL S i n).1.fd i n = 0
    · rw [finL_zero h0]
      exact ih
    · have hd := use_down hgn hi (show n < 8 by omega) h0
      by_cases hc : cntF (setF (finL S i n).1.fd i n 0) ((finL S i n).1.fd i n) = 0
      · rw [finL_last h0 hc]
        rw [if_pos hc] at hd
        simp only [List.length_append, List.length_singleton]
        omega
      · rw [finL_more h0 hc]
        rw [if_neg hc] at hd
        simp only
        omega
theorem use_fin {S : St} (hg : Good S) (p : Int) : useN (finS S p) + (finO S p).length = useN S := by
  unfold finS finO
  by_cases hE : ofE S p = 0
  · obtain ⟨p0, p1, hh⟩ := ofE_ok hE
    rw [if_pos hE, if_pos hE, use_setH]
    exact use_finL hg (i := p.toNat) (by omega) 8 (by omega)
  · rw [if_neg hE, if_neg hE]
    simp
theorem use_frkL {S : St} (hg : Good S) {i j : Nat} (hij : i ≠ j) (hi : i < 6) (hj : j < 6) (hh : S.has j = false) : ∀ n, n ≤ 8 → useN (frkL S i j n) = useN S
  | 0, _ => rfl
  | n + 1, hn => by
    have ih := use_frkL hg hij hi hj hh n (by omega)
    rw [frkL_succ]
    have h0 : (frkL S i j n).fd j n = 0 := by rw [frkL_fd S i j hij, if_neg (by omega)]; exact hg.z j n hh
    rw [use_up hj (by omega) h0 (by
      by_cases hz : S.fd i n = 0
      · exact .inl hz
      · exact .inr (frkL_cnt hij hi (by omega) n))]
    exact ih
theorem use_frk {S : St} (hg : Good S) (a b : Int) : useN (frkS S a b) = useN S := by
  unfold frkS
  split
  · rename_i hE
    obtain ⟨h1, h2, h3⟩ := frkE_ok hE
    obtain ⟨a0, a1, _⟩ := ofE_ok h1
    obtain ⟨b0, b1, hb⟩ := frE_ok h2
    rw [use_setH]
    exact use_frkL hg h3 (by omega) (by omega) hb 8 (by omega)
  · rfl
theorem use_opn {S : St} (hg : Good S) (p : Int) (o : Op) : useN (opnS S p o) = useN S + (if opnE S p o = 0 then 1 else 0) := by
  unfold opnS opnE
  by_cases hE : ofE S p = 0
  · obtain ⟨p0, p1, hh⟩ := ofE_ok hE
    rw [if_pos hE, if_pos hE]
    by_cases hb : badO o
    · rw [if_pos hb, if_pos hb]; simp
    · rw [if_neg hb, if_neg hb]
      cases hl : lstF S.fd p.toNat with
      | none => simp [putN, givE]
      | some k =>
        obtain ⟨k8, k0, _⟩ := lst_some hl
        have hcN : cntF S.fd (S.all.length + 1) = 0 := by
          by_cases hc : cntF S.fd (S.all.length + 1) = 0
          · exact hc
          · obtain ⟨a, b, _, _, he⟩ := cnt_pos.1 hc
            have := hg.le a b
            omega
        have hset := cnt_setF S.fd p.toNat k (S.all.length + 1) (S.all.length + 1) (by omega) k8
        rw [k0, if_neg (by omega), if_pos rfl, hcN] at hset
        unfold putN givE useN
        simp only [List.length_append, List.length_singleton, if_true]
        rw [List.range_succ (n := S.all.length + 1), List.countP_append, List.countP_singleton]
        have hu : usedB (setF S.fd p.toNat k (S.all.length + 1)) (S.all.length + 1) = true := by
          unfold usedB
          exact decide_eq_true ⟨by omega, by omega⟩
        rw [hu, if_pos rfl]
        congr 1
        refine countP_same _ fun n hn => ?_
        have h := cnt_setF S.fd p.toNat k (S.all.length + 1) n (by omega) k8
        unfold usedB
        by_cases hn0 : n = 0
        · simp [hn0]
        · rw [k0, if_neg (fun e : 0 = n => hn0 e.symm), if_neg (by omega)] at h
          simp only [Nat.add_zero] at h
          rw [h]
  · rw [if_neg hE, if_neg hE]; simp
theorem use_none {S : St} (h : ∀ i k, i < 6 → k < 8 → S.fd i k = 0) : useN S = 0 := by
  unfold useN
  rw [List.countP_eq_zero]
  intro n _
  unfold usedB
  simp only [decide_eq_true_eq]
  rintro ⟨h0, hc⟩
  obtain ⟨i, k, hi, hk, he⟩ := cnt_pos.1 hc
  rw [h i k hi hk] at he
  exact h0 he.symm
theorem use_new : useN newS = 0 := use_none fun _ _ _ _ => rfl
theorem fin_has {S : St} (p : Nat) (hp : p < 6) : (finS S (p : Int)).has p = false ∧ ∀ j, S.has j = false → (finS S (p : Int)).has j = false := by
  unfold finS
  by_cases hE : ofE S (p : Int) = 0
  · rw [if_pos hE]
    unfold setH
    simp only [Int.toNat_natCast, if_true]
    refine ⟨trivial, fun j hj => ?_⟩
    split
    · rfl
    · rw [(finL_has S p 8).1]; exact hj
  · rw [if_neg hE]
    refine ⟨?_, fun j hj => hj⟩
    unfold ofE at hE
    by_cases hh : S.has p = true
    · rw [if_pos ⟨by omega, by omega, by rw [Int.toNat_natCast]; exact hh⟩] at hE
      exact absurd rfl hE
    · simpa using hh

end Go.Proofs.Ytedaffkdfniikaa
