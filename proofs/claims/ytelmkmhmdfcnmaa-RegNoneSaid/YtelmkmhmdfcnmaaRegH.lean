/- The plain law: what the deeds keep; both registries. -/
import Derived.Test.YtelmkmhmdfcnmaaRegG
namespace Go.Proofs.Ytelmkmhmdfcnmaa
open Go.RowKit Go.Maps

theorem good_newS : GoodS newS := ⟨fun _ => by simp [newS], fun _ _ => by simp [newS], fun _ _ => by simp [newS], fun _ h => by simp [newS] at h⟩
theorem good_put {S : St} (h : GoodS S) {n s : Nat} (hn : n < 64) (hs : s < 64) (h0 : S.sec n = 0) (hf : S.fr (s : Int) = none) (b : Bool) : GoodS (putS S n s b) := by
  refine ⟨fun i => ?_, fun i hi => ?_, fun j i => ?_, fun i hi => ?_⟩
  · unfold putS; simp only; split
    · omega
    · exact h.le i
  · unfold putS
    have hin : i ≠ n := by omega
    simp only [hin, false_and, if_false]
    exact h.big i hi
  · unfold putS
    simp only
    by_cases hj : j = (s : Int)
    · rw [if_pos hj]
      constructor
      · intro he
        injection he with he
        subst he
        rw [if_pos rfl]
        omega
      · rintro ⟨h1, h2⟩
        by_cases hi : i = n
        · rw [hi]
        · rw [if_neg hi] at h1 h2
          have := (h.fr j i).2 ⟨h1, h2⟩
          rw [hj, hf] at this
          cases this
    · rw [if_neg hj]
      by_cases hi : i = n
      · rw [if_pos hi]
        constructor
        · intro he
          have := (h.fr j i).1 he
          rw [hi] at this
          exact absurd h0 this.1
        · rintro ⟨_, h2⟩
          omega
      · rw [if_neg hi]
        exact h.fr j i
  · unfold putS at hi ⊢
    simp only at hi ⊢
    by_cases hin : i = n
    · rw [if_pos hin]; omega
    · rw [if_neg hin]
      rw [if_neg (fun hh => hin hh.1)] at hi
      exact h.wr i hi
theorem good_cut {S : St} (h : GoodS S) {n : Nat} (h0 : S.sec n ≠ 0) : GoodS (cutS S n) := by
  have hfn : S.fr ((S.sec n : Int) - 1) = some n := (h.fr _ n).2 ⟨h0, rfl⟩
  refine ⟨fun i => ?_, fun i hi => ?_, fun j i => ?_, fun i hi => ?_⟩
  · unfold cutS; simp only; split
    · omega
    · exact h.le i
  · unfold cutS
    simp only
    have := h.big i hi
    constructor
    · split
      · rfl
      · exact this.1
    · split
      · rfl
      · exact this.2
  · unfold cutS
    simp only
    by_cases hj : j = (S.sec n : Int) - 1
    · rw [if_pos hj]
      constructor
      · intro he; cases he
      · rintro ⟨h1, h2⟩
        by_cases hi : i = n
        · rw [if_pos hi] at h1; exact absurd rfl h1
        · rw [if_neg hi] at h1 h2
          have h3 := (h.fr j i).2 ⟨h1, h2⟩
          rw [hj, hfn] at h3
          injection h3 with h3
          exact absurd h3.symm hi
    · rw [if_neg hj]
      by_cases hi : i = n
      · rw [if_pos hi]
        constructor
        · intro he
          have := (h.fr j i).1 he
          rw [hi] at this
          exact absurd this.2 hj
        · rintro ⟨h1, _⟩
          exact absurd rfl h1
      · rw [if_neg hi]
        exact h.fr j i
  · unfold cutS at hi ⊢
    simp only at hi ⊢
    by_cases hin : i = n
    · rw [if_pos hin] at hi; cases hi
    · rw [if_neg hin] at hi ⊢
      exact h.wr i hi
theorem good_bind {S : St} (h : GoodS S) (n : Nat) (s : Int) : GoodS (bindS S n s) := by
  unfold bindS
  split
  · rename_i hE
    unfold bindE at hE
    split at hE
    · cases hE
    · split at hE
      · cases hE
      · split at hE
        · cases hE
        · rename_i h1 h2 h3
          have h4 : S.sec n = 0 := Decidable.not_not.1 (fun hh => h3 (.inl hh))
          have h5 : S.fr s = none := by
            cases hq : S.fr s with
            | none => rfl
            | some i => exact absurd (Or.inr (by rw [hq]; rfl)) h3
          refine good_put h (by omega) (by omega) h4 ?_ false
          have : ((s.toNat : Nat) : Int) = s := by omega
          rw [this]
          exact h5
  · exact h
theorem good_unb {S : St} (h : GoodS S) (n : Nat) : GoodS (unbS S n) := by
  unfold unbS
  split
  · rename_i hE
    unfold unbE at hE
    split at hE
    · rename_i h1; exact absurd hE h1
    · rename_i h1
      exact good_cut h (may_zero (Decidable.not_not.1 h1)).2
  · exact h
theorem good_dir {S : St} (h : GoodS S) (n : Nat) (on : Bool) : GoodS (dirS S n on) := by
  unfold dirS
  split
  · rename_i hm
    obtain ⟨hn, h0⟩ := may_zero hm
    refine ⟨h.le, fun i hi => ⟨(h.big i hi).1, ?_⟩, h.fr, fun i hi => ?_⟩
    · simp only
      rw [if_neg (by omega)]
      exact (h.big i hi).2
    · simp only at hi ⊢
      by_cases hin : i = n
      · rw [hin]; exact h0
      · rw [if_neg hin] at hi
        exact h.wr i hi
  · exact h
theorem good_mov {S : St} (h : GoodS S) (a b : Nat) : GoodS (movS S a b) := by
  by_cases hE : movE S a b = 0
  · obtain ⟨h1, h2, h3, h4, h5⟩ := movS_ok hE
    rw [h5]
    have hle := h.le a
    refine good_put (good_cut h h3) h2 (by omega) ?_ ?_ _
    · unfold cutS; simp only; split
      · rfl
      · exact h4
    · unfold cutS; simp only
      rw [if_pos (by omega)]
  · unfold movS
    rw [if_neg hE]
    exact h
theorem good_clr {S : St} (h : GoodS S) : ∀ (xs : List Nat), GoodS (clrL S xs).1 := by
  have key : ∀ (xs : List Nat) (p : St × Nat), GoodS p.1 → GoodS (xs.foldl clr1 p).1 := by
    intro xs
    induction xs with
    | nil => intro p hp; exact hp
    | cons x xs ih =>
      intro p hp
      rw [List.foldl_cons]
      refine ih _ ?_
      unfold clr1
      split
      · rename_i hm
        exact good_cut hp (may_zero hm).2
      · exact hp
  exact fun xs => key xs (S, 0) h

/-- Both registries hold S. -/
structure Both (w : World) (c b1 b2 b3 r : Nat) (S : St) : Prop where
  reg : RegAt w c b1 b2 b3 S
  ref : RegR w r S
  good : GoodS S
section
variable {w w' : World} {c b1 b2 b3 r : Nat} {S S' : St} {X : List Nat} {V : Value} {e : Ending}
theorem Both.upd0 (h : Both w c b1 b2 b3 r S) (hu : Upd [] w w') : Both w' c b1 b2 b3 r S := ⟨h.reg.upd0 hu, h.ref.upd hu (by simp), h.good⟩
theorem ne_of (h : RegAt w c b1 b2 b3 S) (k : RegR w r S') : r ≠ c ∧ r ≠ b1 ∧ r ≠ b2 ∧ r ≠ b3 := by
  obtain ⟨cs, hb, _⟩ := k
  exact ⟨hb.ne_ h.box (by decide), h.m1.ne hb, h.m2.ne hb, h.m3.ne hb⟩
/-- The program's deed first, then the reference's. -/
theorem step_reg (h : RegAt w c b1 b2 b3 S) (k : RegR w r S) (d : RChg w c b1 b2 b3 V S' e w') : e = .returned V ∧ RegAt w' c b1 b2 b3 S' ∧ RegR w' r S ∧ Upd [b1, b2, b3, r] w w' := by
  obtain ⟨he, h1, h2⟩ := d
  obtain ⟨_, n1, n2, n3⟩ := ne_of h k
  exact ⟨he, h1, k.upd h2 (by simp; exact ⟨n1, n2, n3⟩), h2.mono (fun s hs => .inl (by simp at hs ⊢; omega))⟩
theorem step_ref (h : RegAt w c b1 b2 b3 S') (k : RegR w r S) (d : RRChg w r V S' e w') : e = .returned V ∧ RegAt w' c b1 b2 b3 S' ∧ RegR w' r S' ∧ Upd [b1, b2, b3, r] w w' := by
  obtain ⟨he, h1, h2⟩ := d
  obtain ⟨n0, n1, n2, n3⟩ := ne_of h k
  exact ⟨he, h.upd h2 (by simp; exact fun e => n0 e.symm) (by simp; exact fun e => n1 e.symm) (by simp; exact fun e => n2 e.symm) (by simp; exact fun e => n3 e.symm), h1, h2.mono (fun s hs => .inl (by simp at hs ⊢; omega))⟩
end
theorem rnew_any (w : World) :
    Calls Try.prog 25 #[] w fun e w' => e = .returned (.pointer (some ⟨w.heap.size, 0, none⟩)) ∧ RegR w' w.heap.size newS ∧ Upd [] w w' := by
  go_enter Try.func25, Try.ntmps25
  go_wp2_with fail
  go_ret
  refine ⟨by simp, ⟨(List.replicate 64 (Value.int .i64 0) ++ List.replicate 64 (Value.bool false)).toArray, Blk.new w RRegT _, fun i hi => ⟨?_, ?_⟩⟩, (Upd.refl [] w).alloc _⟩
  · rw [List.getElem?_toArray, List.getElem?_append_left (by simp; exact hi), List.getElem?_replicate]
    simp [hi, newS]
  · rw [List.getElem?_toArray, List.getElem?_append_right (by simp), List.getElem?_replicate]
    simp [hi, newS]

end Go.Proofs.Ytelmkmhmdfcnmaa
