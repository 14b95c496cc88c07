/- What every deed keeps: place 0 runs, and who is there comes by parents that run from 0, in the order of birth. Plain law. -/
import Derived.Test.YtocmochdgidcmaaProcS
namespace Go.Proofs.Ytocmochdgidcmaa
open Go.RowKit

theorem getP_set {T : List PS} (hl : T.length = 6) {i k : Nat} (hi : i < 6) (x : PS) : getP (T.set i x) (k : Int) = if k = i then x else getP T (k : Int) := by
  unfold getP
  simp only [Int.toNat_natCast]
  have h0 : (0 : Int) ≤ (k : Int) := by omega
  rw [if_pos h0, if_pos h0, List.getD, List.getD, List.getElem?_set]
  by_cases h : k = i
  · subst h
    simp [hl, hi]
  · rw [if_neg h, if_neg (fun e => h e.symm)]
theorem kidB_eq {T T' : List PS} {pid : Int} {k : Nat} (h : getP T (k : Int) = getP T' (k : Int)) : kidB T pid k = kidB T' pid k := by unfold kidB; rw [h]
theorem orphTo_length (T : List PS) (pid : Int) : ∀ m, (orphTo T pid m).length = T.length := by
  intro m
  induction m with
  | zero => rfl
  | succ m ih =>
    unfold orphTo
    split
    · unfold orph; rw [List.length_set]; exact ih
    · exact ih
theorem orphTo_get {T : List PS} (hl : T.length = 6) (pid : Int) : ∀ m, m ≤ 5 → ∀ k : Nat, getP (orphTo T pid m) (k : Int) = if 1 ≤ k ∧ k ≤ m ∧ kidB T pid k = true then orphP (getP T (k : Int)) else getP T (k : Int) := by
  intro m
  induction m with
  | zero =>
    intro _ k
    rw [if_neg (by omega)]
    rfl
  | succ m ih =>
    intro hm k
    have ih := ih (by omega)
    have hl' := orphTo_length T pid m
    have hk1 : getP (orphTo T pid m) ((m + 1 : Nat) : Int) = getP T ((m + 1 : Nat) : Int) := by rw [ih]; rw [if_neg (by omega)]
    have hkb := kidB_eq (pid := pid) hk1
    cases hb : kidB T pid (m + 1) with
    | true =>
      rw [orphTo_yes (by rw [hkb]; exact hb)]
      unfold orph
      rw [getP_set (by rw [hl']; exact hl) (by omega)]
      by_cases h : k = m + 1
      · subst h
        rw [if_pos rfl, if_pos ⟨by omega, by omega, hb⟩, hk1]
      · rw [if_neg h, ih]
        by_cases h2 : 1 ≤ k ∧ k ≤ m ∧ kidB T pid k = true
        · rw [if_pos h2, if_pos ⟨h2.1, by omega, h2.2.2⟩]
        · rw [if_neg h2, if_neg (fun h3 => h2 ⟨h3.1, by omega, h3.2.2⟩)]
    | false =>
      rw [orphTo_no (by rw [hkb]; exact hb), ih]
      by_cases h : k = m + 1
      · subst h
        rw [if_neg (by omega), if_neg (by rw [hb]; simp)]
      · by_cases h2 : 1 ≤ k ∧ k ≤ m ∧ kidB T pid k = true
        · rw [if_pos h2, if_pos ⟨h2.1, by omega, h2.2.2⟩]
        · rw [if_neg h2, if_neg (fun h3 => h2 ⟨h3.1, by omega, h3.2.2⟩)]

/-- Those that are there, but for 0, the youngest first. -/
def Ord (T : List PS) : List Nat → Prop
  | [] => True
  | i :: L => i ∉ L ∧ 1 ≤ i ∧ i < 6 ∧ getP T (i : Int) ≠ .none ∧ (∃ (j : Nat) (q : Int), parP (getP T (i : Int)) = (j : Int) ∧ getP T (j : Int) = .liv q ∧ (j = 0 ∨ j ∈ L)) ∧ Ord T L
structure Good (T : List PS) : Prop where
  len : T.length = 6
  zero : getP T 0 = .liv 0
  ord : ∃ L, Ord T L ∧ ∀ i : Nat, 1 ≤ i → i < 6 → getP T (i : Int) ≠ .none → i ∈ L

theorem Ord.there {T : List PS} : ∀ {L : List Nat}, Ord T L → ∀ i, i ∈ L → 1 ≤ i ∧ i < 6 ∧ getP T (i : Int) ≠ .none
  | [], _, i, h => by cases h
  | k :: L, h, i, hi => by
    rcases List.mem_cons.1 hi with rfl | hi
    · exact ⟨h.2.1, h.2.2.1, h.2.2.2.1⟩
    · exact Ord.there h.2.2.2.2.2 i hi
theorem good_new : Good newT := ⟨rfl, rfl, [], trivial, by
  intro i h1 h2 h3
  rcases (show i = 1 ∨ i = 2 ∨ i = 3 ∨ i = 4 ∨ i = 5 by omega) with rfl | rfl | rfl | rfl | rfl <;> exact absurd rfl h3⟩

theorem ord_fork {T : List PS} (hl : T.length = 6) {i : Nat} (hi : i < 6) (hn : getP T (i : Int) = .none) (x : PS) : ∀ {L : List Nat}, Ord T L → Ord (T.set i x) L
  | [], _ => trivial
  | k :: L, h => by
    obtain ⟨h1, h2, h3, h4, ⟨j, q, h5, h6, h7⟩, h8⟩ := h
    have hk : k ≠ i := by rintro rfl; exact h4 hn
    have hj : j ≠ i := by rintro rfl; rw [hn] at h6; cases h6
    refine ⟨h1, h2, h3, ?_, ⟨j, q, ?_, ?_, h7⟩, ord_fork hl hi hn x h8⟩
    · rw [getP_set hl hi, if_neg hk]; exact h4
    · rw [getP_set hl hi, if_neg hk]; exact h5
    · rw [getP_set hl hi, if_neg hj]; exact h6
theorem good_fork {T : List PS} (h : Good T) (pid : Int) : Good (forkT T pid) := by
  unfold forkT
  cases hf : forkN T pid with
  | none => exact h
  | some i =>
    unfold forkN at hf
    cases hp : getP T pid with
    | none => rw [hp] at hf; cases hf
    | dead p s => rw [hp] at hf; cases hf
    | liv p =>
      rw [hp] at hf
      obtain ⟨i1, i2, hn⟩ := freeFrom_some _ _ _ hf
      have hi : i < 6 := by omega
      obtain ⟨g0, g1⟩ := getP_some h.len (by rw [hp]; intro h; cases h)
      obtain ⟨j, rfl⟩ : ∃ j : Nat, pid = j := ⟨pid.toNat, by omega⟩
      have hji : j ≠ i := by rintro rfl; rw [hn] at hp; cases hp
      obtain ⟨L, hL, hall⟩ := h.ord
      refine ⟨by simp [h.len], ?_, i :: L, ⟨?_, by omega, hi, ?_, ⟨j, p, ?_, ?_, ?_⟩, ord_fork h.len hi hn _ hL⟩, ?_⟩
      · have := getP_set h.len (k := 0) hi (.liv (j : Int))
        rw [if_neg (by omega)] at this
        exact this.trans h.zero
      · intro hm
        exact (hL.there i hm).2.2 hn
      · rw [getP_set h.len hi, if_pos rfl]; intro h; cases h
      · rw [getP_set h.len hi, if_pos rfl]; rfl
      · rw [getP_set h.len hi, if_neg hji]; exact hp
      · rcases Nat.eq_zero_or_pos j with h0 | h0
        · exact .inl h0
        · exact .inr (hall j h0 (by omega) (by rw [hp]; intro h; cases h))
      · intro k k1 k2 k3
        rw [getP_set h.len hi] at k3
        by_cases hk : k = i
        · subst hk; exact List.mem_cons_self
        · rw [if_neg hk] at k3
          exact List.mem_cons_of_mem _ (hall k k1 k2 k3)

theorem waitF_spec {T : List PS} {pid : Int} {x : Nat} (h : waitF T pid = some x) : 1 ≤ x ∧ x ≤ 5 ∧ deadB T x = true := by
  unfold waitF at h
  have h1 := List.mem_of_find?_eq_some h
  have h2 := List.find?_some h
  have := seen_mem h1
  exact ⟨this.1, this.2, h2⟩
theorem deadB_dead {T : List PS} {x : Nat} (h : deadB T x = true) : ∃ p s, getP T (x : Int) = .dead p s := by
  unfold deadB at h
  cases hx : getP T (x : Int) with
  | none => rw [hx] at h; cases h
  | liv p => rw [hx] at h; cases h
  | dead p s => exact ⟨p, s, rfl⟩
theorem ord_wait {T : List PS} (hl : T.length = 6) {x : Nat} (hx : x < 6) {p s : Int} (hd : getP T (x : Int) = .dead p s) : ∀ {L : List Nat}, Ord T L → Ord (T.set x .none) (L.filter (fun y => decide (y ≠ x)))
  | [], _ => trivial
  | k :: L, h => by
    obtain ⟨h1, h2, h3, h4, ⟨j, q, h5, h6, h7⟩, h8⟩ := h
    have ih := ord_wait hl hx hd h8
    by_cases hk : k = x
    · rw [List.filter_cons_of_neg (by simp [hk])]
      exact ih
    · rw [List.filter_cons_of_pos (by simp [hk])]
      have hj : j ≠ x := by rintro rfl; rw [hd] at h6; cases h6
      refine ⟨fun hm => h1 (List.mem_filter.1 hm).1, h2, h3, ?_, ⟨j, q, ?_, ?_, ?_⟩, ih⟩
      · rw [getP_set hl hx, if_neg hk]; exact h4
      · rw [getP_set hl hx, if_neg hk]; exact h5
      · rw [getP_set hl hx, if_neg hj]; exact h6
      · rcases h7 with h7 | h7
        · exact .inl h7
        · exact .inr (List.mem_filter.2 ⟨h7, by simp [hj]⟩)
theorem good_wait {T : List PS} (h : Good T) (pid : Int) : Good (waitT T pid) := by
  unfold waitT
  cases hp : getP T pid with
  | none => exact h
  | dead p s => exact h
  | liv p =>
    cases hf : waitF T pid with
    | none => exact h
    | some x =>
      obtain ⟨x1, x2, hd⟩ := waitF_spec hf
      obtain ⟨p', s', hd⟩ := deadB_dead hd
      obtain ⟨L, hL, hall⟩ := h.ord
      refine ⟨by simp [h.len], ?_, _, ord_wait h.len (by omega) hd hL, ?_⟩
      · have := getP_set h.len (k := 0) (show x < 6 by omega) .none
        rw [if_neg (by omega)] at this
        exact this.trans h.zero
      · intro k k1 k2 k3
        rw [getP_set h.len (by omega)] at k3
        by_cases hk : k = x
        · rw [if_pos hk] at k3; exact absurd rfl k3
        · rw [if_neg hk] at k3
          exact List.mem_filter.2 ⟨hall k k1 k2 k3, by simp [hk]⟩

/-- The table behind an Exit. -/
theorem exit_get {T : List PS} (hl : T.length = 6) {pid : Nat} {p s : Int} (hp : getP T (pid : Int) = .liv p) (h1 : 1 ≤ pid) (h6 : pid < 6) (hself : p ≠ (pid : Int)) (k : Nat) (hk : k < 6) :
    getP (exitT T (pid : Int) s) (k : Int) = if k = pid then .dead p s else if 1 ≤ k ∧ kidB T (pid : Int) k = true then orphP (getP T (k : Int)) else getP T (k : Int) := by
  have hz : ¬ ((pid : Int) = 0) := by omega
  have e : exitT T (pid : Int) s = orphTo (T.set pid (.dead p s)) (pid : Int) 5 := by
    unfold exitT
    rw [hp]
    simp [hz]
    intro h
    omega
  rw [e, orphTo_get (by simp [hl]) _ 5 (by omega)]
  have hg := getP_set hl (k := k) h6 (.dead p s)
  by_cases hkp : k = pid
  · subst hkp
    rw [if_pos rfl] at hg ⊢
    have hb : kidB (T.set k (.dead p s)) (k : Int) k = false := by
      unfold kidB
      rw [hg]
      simp [hself]
    rw [hb, if_neg (by simp), hg]
  · rw [if_neg hkp] at hg ⊢
    rw [kidB_eq hg, hg]
    by_cases h : 1 ≤ k ∧ kidB T (pid : Int) k = true
    · rw [if_pos h, if_pos ⟨h.1, by omega, h.2⟩]
    · rw [if_neg h, if_neg (fun h3 => h ⟨h3.1, h3.2.2⟩)]

theorem Ord.parent {T : List PS} : ∀ {L : List Nat}, Ord T L → ∀ i, i ∈ L → ∃ (j : Nat) (q : Int), parP (getP T (i : Int)) = (j : Int) ∧ getP T (j : Int) = .liv q ∧ j ≠ i
  | [], _, i, h => by cases h
  | k :: L, h, i, hi => by
    obtain ⟨h1, h2, h3, h4, ⟨j, q, h5, h6, h7⟩, h8⟩ := h
    rcases List.mem_cons.1 hi with rfl | hi
    · refine ⟨j, q, h5, h6, ?_⟩
      rintro rfl
      rcases h7 with h7 | h7
      · omega
      · exact h1 h7
    · exact Ord.parent h8 i hi
theorem kid_par {T : List PS} {pid : Int} {k : Nat} (hn : getP T (k : Int) ≠ .none) : kidB T pid k = (parP (getP T (k : Int)) == pid) := by
  unfold kidB
  cases hx : getP T (k : Int) with
  | none => exact absurd hx hn
  | liv p => rfl
  | dead p s => rfl

theorem ord_exit {T : List PS} (h : Good T) {pid : Nat} {p s : Int} (hp : getP T (pid : Int) = .liv p) (h1 : 1 ≤ pid) (h6 : pid < 6) (hself : p ≠ (pid : Int)) : ∀ {L : List Nat}, Ord T L → Ord (exitT T (pid : Int) s) L
  | [], _ => trivial
  | k :: L, hL => by
    obtain ⟨g1, g2, g3, g4, ⟨j, q, g5, g6, g7⟩, g8⟩ := hL
    have hget := fun k hk => exit_get h.len hp h1 h6 hself (s := s) k hk
    have ih := ord_exit h (s := s) hp h1 h6 hself g8
    have hj6 : j < 6 := by
      have := getP_some h.len (i := (j : Int)) (by rw [g6]; intro h; cases h)
      omega
    have hliv : ∀ (j : Nat) (q : Int), j < 6 → j ≠ pid → getP T (j : Int) = .liv q → ∃ q', getP (exitT T (pid : Int) s) (j : Int) = .liv q' := by
      intro j q hj hne hg
      rw [hget j hj, if_neg hne]
      split
      · rw [hg]; exact ⟨0, rfl⟩
      · exact ⟨q, hg⟩
    by_cases hk : k = pid
    · have hjp : j ≠ pid := by
        rintro rfl
        rcases g7 with g7 | g7
        · omega
        · exact g1 (hk ▸ g7)
      obtain ⟨q', hq'⟩ := hliv j q hj6 hjp g6
      refine ⟨g1, g2, g3, ?_, ⟨j, q', ?_, hq', g7⟩, ih⟩
      · rw [hget k g3, if_pos hk]; intro h; cases h
      · rw [hget k g3, if_pos hk]
        rw [hk, hp] at g5
        exact g5
    · cases hb : kidB T (pid : Int) k with
      | true =>
        have h0 : getP (exitT T (pid : Int) s) ((0 : Nat) : Int) = .liv 0 := by
          rw [hget 0 (by omega), if_neg (by omega), if_neg (by omega)]
          exact h.zero
        refine ⟨g1, g2, g3, ?_, ⟨0, 0, ?_, h0, .inl rfl⟩, ih⟩
        · rw [hget k g3, if_neg hk, if_pos ⟨g2, hb⟩]
          cases hx : getP T (k : Int) with
          | none => exact absurd hx g4
          | liv p => intro h; cases h
          | dead p s => intro h; cases h
        · rw [hget k g3, if_neg hk, if_pos ⟨g2, hb⟩]
          cases hx : getP T (k : Int) with
          | none => exact absurd hx g4
          | liv p => rfl
          | dead p s => rfl
      | false =>
        have hjp : j ≠ pid := by
          rintro rfl
          rw [kid_par g4, g5] at hb
          simp at hb
        obtain ⟨q', hq'⟩ := hliv j q hj6 hjp g6
        refine ⟨g1, g2, g3, ?_, ⟨j, q', ?_, hq', g7⟩, ih⟩
        · rw [hget k g3, if_neg hk, if_neg (by rw [hb]; simp)]; exact g4
        · rw [hget k g3, if_neg hk, if_neg (by rw [hb]; simp)]; exact g5

theorem Good.self {T : List PS} (h : Good T) {pid : Nat} {p : Int} (hp : getP T (pid : Int) = .liv p) (h1 : 1 ≤ pid) (h6 : pid < 6) : p ≠ (pid : Int) := by
  obtain ⟨L, hL, hall⟩ := h.ord
  obtain ⟨j, q, h2, _, h4⟩ := hL.parent pid (hall pid h1 h6 (by rw [hp]; intro h; cases h))
  rw [hp] at h2
  have : p = (j : Int) := h2
  omega

theorem exit_length {T : List PS} (pid s : Int) : (exitT T pid s).length = T.length := by
  unfold exitT
  split
  · split
    · rfl
    · rw [orphTo_length, List.length_set]
  · rfl
theorem good_exit {T : List PS} (h : Good T) (pid s : Int) : Good (exitT T pid s) := by
  cases hp : getP T pid with
  | none => unfold exitT; rw [hp]; exact h
  | dead p q => unfold exitT; rw [hp]; exact h
  | liv p =>
    by_cases hz : pid = 0
    · unfold exitT; rw [hp]; simp [hz]; exact h
    · obtain ⟨g0, g1⟩ := getP_some h.len (by rw [hp]; intro h; cases h)
      obtain ⟨i, rfl⟩ : ∃ i : Nat, pid = i := ⟨pid.toNat, by omega⟩
      have hself := h.self hp (by omega) (by omega)
      obtain ⟨L, hL, hall⟩ := h.ord
      have hget := fun k hk => exit_get h.len hp (by omega) (by omega) hself (s := s) k hk
      refine ⟨by rw [exit_length]; exact h.len, ?_, L, ord_exit h hp (by omega) (by omega) hself hL, ?_⟩
      · have := hget 0 (by omega)
        rw [if_neg (by omega), if_neg (by omega)] at this
        exact this.trans h.zero
      · intro k k1 k2 k3
        by_cases hk : k = i
        · subst hk
          exact hall k k1 k2 (by rw [hp]; intro h; cases h)
        · rw [hget k k2, if_neg hk] at k3
          refine hall k k1 k2 (fun hn => k3 ?_)
          rw [hn]
          split <;> rfl

/-- What a deed makes of the table. -/
def stepT (T : List PS) (K P S : Int) : List PS :=
  if K = 0 then forkT T P else if K = 1 then exitT T P S else if K = 2 then exitT T P 137 else if K = 3 then waitT T P else T
theorem good_step {T : List PS} (h : Good T) (K P S : Int) : Good (stepT T K P S) := by
  unfold stepT
  split
  · exact good_fork h P
  · split
    · exact good_exit h P S
    · split
      · exact good_exit h P 137
      · split
        · exact good_wait h P
        · exact h

end Go.Proofs.Ytocmochdgidcmaa
