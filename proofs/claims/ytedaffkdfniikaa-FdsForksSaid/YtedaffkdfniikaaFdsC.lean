/- The table's deeds, plainly. -/
import Derived.Test.YtedaffkdfniikaaFdsI
namespace Go.Proofs.Ytedaffkdfniikaa
open Go.RowKit Go.Shelf

/-- The least place of process i that is free. -/
def lstF (f : Nat → Nat → Nat) (i : Nat) : Option Nat := (List.range 8).find? fun k => f i k == 0
theorem lst_at {f : Nat → Nat → Nat} {i j : Nat} (hj : j < 8) (h0 : f i j = 0) (hn : ∀ y, y < j → f i y ≠ 0) : lstF f i = some j := by
  unfold lstF
  rw [List.find?_range_eq_some]
  exact ⟨by simp [h0], by simpa using hj, fun y hy => by simp [hn y hy]⟩
theorem lst_no {f : Nat → Nat → Nat} {i : Nat} (hn : ∀ y, y < 8 → f i y ≠ 0) : lstF f i = none := by
  unfold lstF
  rw [List.find?_range_eq_none]
  exact fun y hy => by simp [hn y hy]
theorem lst_some {f : Nat → Nat → Nat} {i k : Nat} (h : lstF f i = some k) : k < 8 ∧ f i k = 0 ∧ ∀ y, y < k → f i y ≠ 0 := by
  unfold lstF at h
  rw [List.find?_range_eq_some] at h
  obtain ⟨h1, h2, h3⟩ := h
  exact ⟨by simpa using h2, by simpa using h1, fun y hy => by simpa using h3 y hy⟩
theorem lst_none {f : Nat → Nat → Nat} {i : Nat} (h : lstF f i = none) : ∀ y, y < 8 → f i y ≠ 0 := by
  unfold lstF at h
  rw [List.find?_range_eq_none] at h
  exact fun y hy => by simpa using h y hy
def ixI : Option Nat → Int
  | none => -1
  | some k => (k : Int)
def setH (S : St) (i : Nat) (b : Bool) : St := ⟨fun j => if j = i then b else S.has j, S.fd, S.all⟩
def begS (S : St) (p : Int) : St := if frE S p = 0 then setH S p.toNat true else S
def givV : Option Nat → Int
  | none => 0
  | some k => (k : Int)
def givE : Option Nat → Int
  | none => 11
  | some _ => 0
def putF (S : St) (i n : Nat) : Option Nat → St
  | none => S
  | some k => withF S (setF S.fd i k n)
def dupV (S : St) (p k : Int) : Int := if atE S p k = 0 then givV (lstF S.fd p.toNat) else 0
def dupE (S : St) (p k : Int) : Int := if atE S p k = 0 then givE (lstF S.fd p.toNat) else atE S p k
def dupS (S : St) (p k : Int) : St := if atE S p k = 0 then putF S p.toNat (S.fd p.toNat k.toNat) (lstF S.fd p.toNat) else S
def badO (o : Op) : Prop := o.k = 0 ∨ 3 < o.k
instance (o : Op) : Decidable (badO o) := by unfold badO; infer_instance
def opnV (S : St) (p : Int) (o : Op) : Int := if ofE S p = 0 then (if badO o then 0 else givV (lstF S.fd p.toNat)) else 0
def opnE (S : St) (p : Int) (o : Op) : Int := if ofE S p = 0 then (if badO o then 2 else givE (lstF S.fd p.toNat)) else 5
def putN (S : St) (i : Nat) (o : Op) : Option Nat → St
  | none => S
  | some k => ⟨S.has, setF S.fd i k (S.all.length + 1), S.all ++ [o]⟩
def opnS (S : St) (p : Int) (o : Op) : St := if ofE S p = 0 then (if badO o then S else putN S p.toNat o (lstF S.fd p.toNat)) else S
def opZ : Op := ⟨0, 0, 0⟩
def cloS (S : St) (p k : Int) : St := if atE S p k = 0 then withF S (setF S.fd p.toNat k.toNat 0) else S
def getO (S : St) (p k : Int) : Op := if atE S p k = 0 then opAt S (S.fd p.toNat k.toNat) else opZ
def cloL (S : St) (p k : Int) : Bool := decide (atE S p k = 0 ∧ cntF (setF S.fd p.toNat k.toNat 0) (S.fd p.toNat k.toNat) = 0)
def movS (S : St) (p k x : Int) : St := if atE S p k = 0 then ⟨S.has, S.fd, S.all.set (S.fd p.toNat k.toNat - 1) { opAt S (S.fd p.toNat k.toNat) with p := x }⟩ else S
/-- One of End's descriptors. -/
def fin1 (i : Nat) (q : St × List Op) (k : Nat) : St × List Op :=
  if q.1.fd i k = 0 then q else (withF q.1 (setF q.1.fd i k 0), if cntF (setF q.1.fd i k 0) (q.1.fd i k) = 0 then q.2 ++ [opAt q.1 (q.1.fd i k)] else q.2)
def finL (S : St) (i : Nat) : Nat → St × List Op
  | 0 => (S, [])
  | k + 1 => fin1 i (finL S i k) k
def finO (S : St) (p : Int) : List Op := if ofE S p = 0 then (finL S p.toNat 8).2 else []
def finS (S : St) (p : Int) : St := if ofE S p = 0 then setH (finL S p.toNat 8).1 p.toNat false else S
/-- One of Fork's descriptors. -/
def frkL (S : St) (i j : Nat) : Nat → St
  | 0 => S
  | k + 1 => withF S (setF (frkL S i j k).fd j k (S.fd i k))
def frkE (S : St) (a b : Int) : Int := if ofE S a = 0 then frE S b else 5
def frkS (S : St) (a b : Int) : St := if frkE S a b = 0 then setH (frkL S a.toNat b.toNat 8) b.toNat true else S
def lisL (f : Nat → Nat → Nat) (i : Nat) : Nat → List Nat
  | 0 => []
  | k + 1 => if f i k = 0 then lisL f i k else lisL f i k ++ [k]
def lisO (S : St) (p : Int) : List Nat := if ofE S p = 0 then lisL S.fd p.toNat 8 else []
def roomO (S : St) (p : Int) : Int := if ofE S p = 0 then 8 - ((lisL S.fd p.toNat 8).length : Int) else 0
def samB (S : St) (p a q b : Int) : Bool := decide (atE S p a = 0 ∧ atE S q b = 0 ∧ S.fd p.toNat a.toNat = S.fd q.toNat b.toNat)
theorem lisL_le (f : Nat → Nat → Nat) (i : Nat) : ∀ n, (lisL f i n).length ≤ n := by
  intro n
  induction n with
  | zero => simp [lisL]
  | succ n ih =>
    unfold lisL
    split
    · omega
    · rw [List.length_append]; simp; omega

/-- What the deeds keep. -/
structure Good (S : St) : Prop where
  z : ∀ i k, S.has i = false → S.fd i k = 0
  le : ∀ i k, S.fd i k ≤ S.all.length
  k8 : ∀ o, o ∈ S.all → o.k < 256
theorem good_setF {S : St} (h : Good S) {i k v : Nat} (hi : v = 0 ∨ S.has i = true) (hv : v ≤ S.all.length) : Good (withF S (setF S.fd i k v)) := by
  refine ⟨fun a b hab => ?_, fun a b => ?_, h.k8⟩
  · unfold withF setF at *
    simp only at hab ⊢
    split
    · rename_i hh
      rcases hi with hi | hi
      · exact hi
      · rw [hh.1, hi] at hab; cases hab
    · exact h.z a b hab
  · unfold withF setF
    simp only
    split
    · exact hv
    · exact h.le a b
theorem good_putF {S : St} (h : Good S) {i n : Nat} (hi : S.has i = true) (hn : n ≤ S.all.length) : ∀ m, Good (putF S i n m)
  | none => h
  | some _ => good_setF h (.inr hi) hn
theorem good_beg {S : St} (h : Good S) (p : Int) : Good (begS S p) := by
  unfold begS
  split
  · refine ⟨fun i k hi => ?_, h.le, h.k8⟩
    unfold setH at hi ⊢
    simp only at hi ⊢
    split at hi
    · cases hi
    · exact h.z i k hi
  · exact h
theorem good_dup {S : St} (h : Good S) (p k : Int) : Good (dupS S p k) := by
  unfold dupS
  split
  · rename_i hE
    exact good_putF h (atE_ok hE).1.2.2 (h.le _ _) _
  · exact h
theorem good_opn {S : St} (h : Good S) (p : Int) (o : Op) (ho : o.k < 256) : Good (opnS S p o) := by
  unfold opnS
  split
  · rename_i hE
    split
    · exact h
    · cases hl : lstF S.fd p.toNat with
      | none => exact h
      | some k =>
        refine ⟨fun a b hab => ?_, fun a b => ?_, fun x hx => ?_⟩
        · unfold putN setF at *
          simp only at hab ⊢
          split
          · rename_i hh
            rw [hh.1, (ofE_ok hE).2.2] at hab
            cases hab
          · exact h.z a b hab
        · unfold putN setF
          simp only [List.length_append, List.length_singleton]
          split
          · omega
          · have := h.le a b; omega
        · unfold putN at hx
          simp only [List.mem_append, List.mem_singleton] at hx
          rcases hx with hx | rfl
          · exact h.k8 x hx
          · exact ho
  · exact h
theorem good_clo {S : St} (h : Good S) (p k : Int) : Good (cloS S p k) := by
  unfold cloS
  split
  · exact good_setF h (.inl rfl) (by omega)
  · exact h
theorem opAt_mem {S : St} {n : Nat} (h0 : n ≠ 0) (hn : n ≤ S.all.length) : opAt S n ∈ S.all := by
  unfold opAt
  rw [List.getD, List.getElem?_eq_getElem (by omega)]
  exact List.getElem_mem _
theorem good_mov {S : St} (h : Good S) (p k x : Int) : Good (movS S p k x) := by
  unfold movS
  split
  · rename_i hE
    refine ⟨h.z, fun a b => ?_, fun o ho => ?_⟩
    · simp only [List.length_set]
      exact h.le a b
    · simp only at ho
      rcases List.mem_or_eq_of_mem_set ho with ho | rfl
      · exact h.k8 o ho
      · exact h.k8 (opAt S (S.fd p.toNat k.toNat)) (opAt_mem (atE_ok hE).2.2.2 (h.le _ _))
  · exact h
theorem finL_has (S : St) (i : Nat) : ∀ n, (finL S i n).1.has = S.has ∧ (finL S i n).1.all = S.all
  | 0 => ⟨rfl, rfl⟩
  | n + 1 => by
    obtain ⟨h1, h2⟩ := finL_has S i n
    unfold finL fin1
    split
    · exact ⟨h1, h2⟩
    · exact ⟨h1, h2⟩
theorem good_finL {S : St} (h : Good S) (i : Nat) : ∀ n, Good (finL S i n).1
  | 0 => h
  | n + 1 => by
    have ih := good_finL h i n
    unfold finL fin1
    split
    · exact ih
    · exact good_setF ih (.inl rfl) (by omega)
theorem finL_fd (S : St) (i : Nat) : ∀ n a b, (finL S i n).1.fd a b = if a = i ∧ b < n then 0 else S.fd a b
  | 0, a, b => by simp [finL]
  | n + 1, a, b => by
    have ih := finL_fd S i n
    unfold finL fin1
    by_cases h0 : (finL S i n).1.fd i n = 0
    · rw [if_pos h0, ih]
      by_cases hab : a = i ∧ b = n
      · obtain ⟨rfl, rfl⟩ := hab
        rw [ih] at h0
        simp at h0
        simp [h0]
      · have : (a = i ∧ b < n) ↔ (a = i ∧ b < n + 1) := by omega
        simp only [this]
    · rw [if_neg h0]
      unfold withF setF
      simp only
      rw [ih]
      by_cases hab : a = i ∧ b = n
      · obtain ⟨rfl, rfl⟩ := hab
        simp
      · rw [if_neg hab]
        have : (a = i ∧ b < n) ↔ (a = i ∧ b < n + 1) := by omega
        simp only [this]
/-- Places behind the eighth hold nothing. -/
def Small (S : St) : Prop := ∀ i k, 8 ≤ k → S.fd i k = 0
theorem good_setH_no {S : St} (h : Good S) (i : Nat) (hz : ∀ k, S.fd i k = 0) : Good (setH S i false) := by
  refine ⟨fun a k hi => ?_, h.le, h.k8⟩
  unfold setH at hi ⊢
  simp only at hi ⊢
  split at hi
  · rename_i he; rw [he]; exact hz k
  · exact h.z a k hi
theorem good_setH_yes {S : St} (h : Good S) (i : Nat) : Good (setH S i true) := by
  refine ⟨fun a k hi => ?_, h.le, h.k8⟩
  unfold setH at hi ⊢
  simp only at hi ⊢
  split at hi
  · cases hi
  · exact h.z a k hi
theorem good_fin {S : St} (h : Good S) (hs : Small S) (p : Int) : Good (finS S p) := by
  unfold finS
  split
  · refine good_setH_no (good_finL h p.toNat 8) _ (fun k => ?_)
    rw [finL_fd]
    split
    · rfl
    · exact hs _ k (by omega)
  · exact h
theorem frkL_all (S : St) (i j : Nat) : ∀ n, (frkL S i j n).has = S.has ∧ (frkL S i j n).all = S.all
  | 0 => ⟨rfl, rfl⟩
  | _ + 1 => ⟨rfl, rfl⟩
theorem frkL_fd (S : St) (i j : Nat) (_hij : i ≠ j) : ∀ n a b, (frkL S i j n).fd a b = if a = j ∧ b < n then S.fd i b else S.fd a b
  | 0, a, b => by simp [frkL]
  | n + 1, a, b => by
    have ih := frkL_fd S i j _hij n
    unfold frkL withF setF
    simp only
    rw [ih]
    by_cases hab : a = j ∧ b = n
    · obtain ⟨rfl, rfl⟩ := hab
      simp
    · rw [if_neg hab]
      have : (a = j ∧ b < n) ↔ (a = j ∧ b < n + 1) := by omega
      simp only [this]
theorem frkE_ok {S : St} {a b : Int} (h : frkE S a b = 0) : ofE S a = 0 ∧ frE S b = 0 ∧ a.toNat ≠ b.toNat := by
  unfold frkE at h
  split at h
  · rename_i h1
    refine ⟨h1, h, fun e => ?_⟩
    have h2 := (ofE_ok h1).2.2
    have h3 := (frE_ok h).2.2
    rw [e, h3] at h2
    cases h2
  · cases h
theorem good_frk {S : St} (h : Good S) (a b : Int) : Good (frkS S a b) := by
  unfold frkS
  split
  · rename_i hE
    obtain ⟨h1, h2, h3⟩ := frkE_ok hE
    refine ⟨fun i k hi => ?_, fun i k => ?_, fun o ho => ?_⟩
    · unfold setH at hi ⊢
      simp only at hi ⊢
      rw [frkL_fd S _ _ h3]
      split at hi
      · cases hi
      · rename_i hn
        rw [(frkL_all S _ _ 8).1] at hi
        rw [if_neg (fun e => hn e.1)]
        exact h.z i k hi
    · unfold setH
      simp only
      rw [frkL_fd S _ _ h3, (frkL_all S _ _ 8).2]
      split
      · exact h.le _ _
      · exact h.le _ _
    · unfold setH at ho
      simp only at ho
      rw [(frkL_all S _ _ 8).2] at ho
      exact h.k8 o ho
  · exact h
theorem small_beg {S : St} (h : Small S) (p : Int) : Small (begS S p) := by
  unfold begS; split <;> exact h
theorem small_setF {S : St} (h : Small S) {i k v : Nat} (hk : k < 8) : Small (withF S (setF S.fd i k v)) := fun a b hb => by
  unfold withF setF
  simp only
  rw [if_neg (by omega)]
  exact h a b hb
theorem small_dup {S : St} (h : Small S) (p k : Int) : Small (dupS S p k) := by
  unfold dupS
  split
  · cases hl : lstF S.fd p.toNat with
    | none => exact h
    | some j => exact small_setF h (lst_some hl).1
  · exact h
theorem small_opn {S : St} (h : Small S) (p : Int) (o : Op) : Small (opnS S p o) := by
  unfold opnS
  split
  · split
    · exact h
    · cases hl : lstF S.fd p.toNat with
      | none => exact h
      | some j => exact small_setF (S := S) h (lst_some hl).1
  · exact h
theorem small_clo {S : St} (h : Small S) (p k : Int) : Small (cloS S p k) := by
  unfold cloS
  split
  · rename_i hE
    have := (atE_ok hE).2
    exact small_setF h (by omega)
  · exact h
theorem small_mov {S : St} (h : Small S) (p k x : Int) : Small (movS S p k x) := by
  unfold movS; split <;> exact h
theorem small_setH {S : St} (h : Small S) (i : Nat) (b : Bool) : Small (setH S i b) := h
theorem small_fin {S : St} (h : Small S) (p : Int) : Small (finS S p) := by
  unfold finS
  split
  · refine small_setH (fun i k hk => ?_) _ _
    rw [finL_fd, if_neg (by omega)]
    exact h i k hk
  · exact h
theorem small_frk {S : St} (h : Small S) (a b : Int) : Small (frkS S a b) := by
  unfold frkS
  split
  · rename_i hE
    obtain ⟨h1, h2, h3⟩ := frkE_ok hE
    refine small_setH (fun i k hk => ?_) _ _
    rw [frkL_fd S _ _ h3, if_neg (by omega)]
    exact h i k hk
  · exact h

end Go.Proofs.Ytedaffkdfniikaa
