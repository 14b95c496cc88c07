/- All mappings at which a predicate holds are taken out of a row (slices.DeleteFunc). -/
import Derived.Test.YtefjppebohnmjaaTlbC
namespace Go.Proofs.Ytefjppebohnmjaa
open Go.RowKit Go.Shelf

def keepL (pr : Mp → Bool) (L : List Mp) : List Mp := L.filter fun m => !pr m
theorem keepL_le (pr : Mp → Bool) (L : List Mp) : (keepL pr L).length ≤ L.length := List.length_filter_le _ _
theorem keepL_take {pr : Mp → Bool} {L : List Mp} {j : Nat} {m : Mp} (h : L[j]? = some m) : keepL pr (L.take (j + 1)) = keepL pr (L.take j) ++ (if pr m then [] else [m]) := by
  unfold keepL
  rw [List.take_add_one, h, List.filter_append]
  cases hq : pr m <;> simp [hq]
theorem keepL_same {pr : Mp → Bool} {L : List Mp} (h : ∀ y, y ∈ L → pr y = false) : keepL pr L = L := by
  unfold keepL
  rw [List.filter_eq_self]
  intro a ha
  simp [h a ha]
/-- In the midst of the loop: i are kept, j have been looked at. -/
structure Mid (w : World) (g cap : Nat) (L : List Mp) (pr : Mp → Bool) (i j : Nat) : Prop where
  ex : ∃ cur : List Value, Blk w g MapT cur.toArray ∧ cur.length = cap * 4 ∧ cur.take (i * 4) = flatM (keepL pr (L.take j)) ∧ ∀ q m, j ≤ q → L[q]? = some m → ∀ x v, (encM m)[x]? = some v → cur[q * 4 + x]? = some v
theorem Mid.upd {w w' : World} {g cap : Nat} {L : List Mp} {pr : Mp → Bool} {i j : Nat} {S : List Nat} (h : Mid w g cap L pr i j) (hu : Upd S w w') (hS : g ∉ S) : Mid w' g cap L pr i j := by
  obtain ⟨cur, hb, h1, h2, h3⟩ := h.ex
  exact ⟨cur, hb.upd hu hS, h1, h2, h3⟩
theorem Mid.range {w : World} {g cap : Nat} {L : List Mp} {pr : Mp → Bool} {i j : Nat} {m : Mp} (h : Mid w g cap L pr i j) (hm : L[j]? = some m) : w.rangeAt g (j * 4) (encM m) := by
  obtain ⟨cur, hb, h1, h2, h3⟩ := h.ex
  intro x v hv
  exact hb.cellAt (by simpa using h3 j m (Nat.le_refl _) hm x v hv)
theorem Mid.skip {w : World} {g cap : Nat} {L : List Mp} {pr : Mp → Bool} {i j : Nat} {m : Mp} (h : Mid w g cap L pr i j) (hm : L[j]? = some m) (hp : pr m = true) : Mid w g cap L pr i (j + 1) := by
  obtain ⟨cur, hb, h1, h2, h3⟩ := h.ex
  refine ⟨cur, hb, h1, ?_, fun q m hq => h3 q m (by omega)⟩
  rw [keepL_take hm, hp, if_pos rfl, List.append_nil]
  exact h2
theorem four_take (cur : List Value) (k : Nat) (a b c d : Value) (h : k + 4 ≤ cur.length) : ((((cur.set k a).set (k + 1) b).set (k + 2) c).set (k + 3) d).take (k + 4) = cur.take k ++ [a, b, c, d] := by
  apply List.ext_getElem?
  intro x
  by_cases hx : x < k
  · rw [List.getElem?_take, if_pos (by omega), List.getElem?_append_left (by simp; omega), List.getElem?_take, if_pos hx]
    rw [List.getElem?_set_ne (by omega), List.getElem?_set_ne (by omega), List.getElem?_set_ne (by omega), List.getElem?_set_ne (by omega)]
  · by_cases h4 : x < k + 4
    · rw [List.getElem?_take, if_pos h4, List.getElem?_append_right (by simp; omega), List.length_take, Nat.min_eq_left (by omega)]
      rcases (show x = k ∨ x = k + 1 ∨ x = k + 2 ∨ x = k + 3 by omega) with rfl | rfl | rfl | rfl
      · rw [List.getElem?_set_ne (by omega), List.getElem?_set_ne (by omega), List.getElem?_set_ne (by omega), List.getElem?_set_self (by omega)]; simp
      · rw [List.getElem?_set_ne (by omega), List.getElem?_set_ne (by omega), List.getElem?_set_self (by simp; omega)]; simp
      · rw [List.getElem?_set_ne (by omega), List.getElem?_set_self (by simp; omega)]; simp
      · rw [List.getElem?_set_self (by simp; omega)]; simp
    · rw [List.getElem?_eq_none (by simp; omega), List.getElem?_eq_none (by simp; omega)]
theorem Mid.keep {w : World} {g cap : Nat} {L : List Mp} {pr : Mp → Bool} {i j : Nat} {m : Mp} (h : Mid w g cap L pr i j) (hm : L[j]? = some m) (hp : pr m = false) (hij : i < j) (hc : L.length ≤ cap) :
    Mid ((((w.setCell ⟨g, i * 4, none⟩ (.int .u8 m.a)).setCell ⟨g, i * 4 + 1, none⟩ (.int .u8 m.p)).setCell ⟨g, i * 4 + 2, none⟩ (.int .u8 m.f)).setCell ⟨g, i * 4 + 3, none⟩ (.bool m.w)) g cap L pr (i + 1) (j + 1) := by
  obtain ⟨cur, hb, h1, h2, h3⟩ := h.ex
  have hj : j < L.length := (List.getElem?_eq_some_iff.1 hm).1
  have b4 := (((hb.set_ (i * 4) (.int .u8 m.a)).set_ (i * 4 + 1) (.int .u8 m.p)).set_ (i * 4 + 2) (.int .u8 m.f)).set_ (i * 4 + 3) (.bool m.w)
  refine ⟨(((cur.set (i * 4) (.int .u8 m.a)).set (i * 4 + 1) (.int .u8 m.p)).set (i * 4 + 2) (.int .u8 m.f)).set (i * 4 + 3) (.bool m.w), by simpa using b4, by simpa using h1, ?_, ?_⟩
  · rw [show (i + 1) * 4 = i * 4 + 4 by omega, four_take _ _ _ _ _ _ (by omega), h2, keepL_take hm, hp, flatM_append]
    rfl
  · intro q m' hq hm' x v hv
    have hx : x < 4 := (List.getElem?_eq_some_iff.1 hv).1
    rw [List.getElem?_set_ne (by omega), List.getElem?_set_ne (by omega), List.getElem?_set_ne (by omega), List.getElem?_set_ne (by omega)]
    exact h3 q m' (by omega) hm' x v hv
theorem Mid.start {w : World} {g cap : Nat} {L : List Mp} {pr : Mp → Bool} (h : RowAt w g cap L) {i : Nat} {m : Mp} (hm : L[i]? = some m) (hno : ∀ y, y ∈ L.take i → pr y = false) (hp : pr m = true) : Mid w g cap L pr i (i + 1) := by
  obtain ⟨cur, hb, h1, h2, h3, h4⟩ := h
  have hi : i < L.length := (List.getElem?_eq_some_iff.1 hm).1
  refine ⟨cur, hb, h3, ?_, ?_⟩
  · rw [keepL_take hm, hp, if_pos rfl, List.append_nil, keepL_same hno, flatM_take, ← h4, List.take_take, Nat.min_eq_left (by omega)]
  · intro q m' hq hm' x v hv
    have hx : x < 4 := (List.getElem?_eq_some_iff.1 hv).1
    have hql : q < L.length := (List.getElem?_eq_some_iff.1 hm').1
    have := flatM_get L q x m' v hm' hv
    rw [← h4, List.getElem?_take, if_pos (by omega)] at this
    exact this

end Go.Proofs.Ytefjppebohnmjaa
