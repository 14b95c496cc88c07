/- The reference's Wait. -/
import Derived.Test.YtogiegehkhnlmaaTfN
namespace Go.Proofs.Ytogiegehkhnlmaa
open Go.RowKit

def deadB (T : List PS) (x : Nat) : Bool := stP (getP T x) == 2
def waitF (T : List PS) (pid : Int) : Option Nat := (kids T pid).find? (deadB T)
def waitE (T : List PS) (pid : Int) : Int := match getP T pid with
  | .liv _ => (match waitF T pid with
    | some _ => 0
    | none => if kids T pid = [] then 3 else 12)
  | _ => 5
def waitA (T : List PS) (pid : Int) : Int := match getP T pid with
  | .liv _ => (match waitF T pid with
    | some x => (x : Int)
    | none => 0)
  | _ => 0
def waitS (T : List PS) (pid : Int) : Int := match getP T pid with
  | .liv _ => (match waitF T pid with
    | some x => statP (getP T x)
    | none => 0)
  | _ => 0
def waitT (T : List PS) (pid : Int) : List PS := match getP T pid with
  | .liv _ => (match waitF T pid with
    | some x => T.set x .none
    | none => T)
  | _ => T
theorem seen_mem {G : List Nat → List PS} {pid : Int} : ∀ {n x : Nat}, x ∈ seen G pid n → 1 ≤ x ∧ x ≤ n := by
  intro n
  induction n with
  | zero => intro x h; simp [seen] at h
  | succ n ih =>
    intro x h
    unfold seen at h
    split at h
    · rcases List.mem_append.1 h with h | h
      · have := ih h; omega
      · simp at h; omega
    · have := ih h; omega
theorem find_at {α : Type} (p : α → Bool) : ∀ (l : List α) (j : Nat) (x : α), l[j]? = some x → (∀ y, y ∈ l.take j → p y = false) → p x = true → l.find? p = some x := by
  intro l
  induction l with
  | nil => intro j x h; simp at h
  | cons a l ih =>
    intro j x h hn hx
    cases j with
    | zero => simp at h; subst h; simp [hx]
    | succ j =>
      have ha := hn a (by simp)
      rw [List.find?_cons_of_neg (by simp [ha])]
      exact ih j x (by simpa using h) (fun y hy => hn y (by simp [hy])) hx
theorem find_no {α : Type} (p : α → Bool) (l : List α) (hn : ∀ y, y ∈ l → p y = false) : l.find? p = none := by
  rw [List.find?_eq_none]
  intro y hy
  simp [hn y hy]
theorem take_step {α : Type} {p : α → Bool} {l : List α} {j : Nat} {x : α} (h : l[j]? = some x) (hn : ∀ y, y ∈ l.take j → p y = false) (hx : p x = false) : ∀ y, y ∈ l.take (j + 1) → p y = false := by
  intro y hy
  rw [List.take_add_one, h] at hy
  simp at hy
  rcases hy with hy | rfl
  · exact hn y hy
  · exact hx

end Go.Proofs.Ytogiegehkhnlmaa
