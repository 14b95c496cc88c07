/- Rows of what is open, and what append makes of them (turned from the rows of things). -/
import Derived.Test.YtedaffkdfniikaaFdsA
import Derived.Deep.AppendSrc
import Derived.Deep.RegionLaw
import Derived.Deep.RegionHeld3
import Derived.Shelf.Abstract
namespace Go.Proofs.Ytedaffkdfniikaa
open Go.RowKit Go.Shelf

/-- A slice of things that reads as L. -/
def Reads (w : World) (A : Option Addr) (L : List Op) : Prop :=
  0 < L.length → ∃ b o, A = some ⟨b, o, none⟩ ∧ ∀ (j : Nat) (m : Op), L[j]? = some m → w.rangeAt b (o + j * 3) (encO m)
theorem Reads.upd {w w' : World} {A : Option Addr} {L : List Op} {S : List Nat} (h : Reads w A L) (hu : Upd S w w') (hS : 0 < L.length → ∀ b o, A = some ⟨b, o, none⟩ → b ∉ S) : Reads w' A L := by
  intro hk
  obtain ⟨b, o, rfl, hc⟩ := h hk
  refine ⟨b, o, rfl, fun j m hj i v hv => hu.cellAt (hc j m hj i v hv) (hS hk b o rfl)⟩
theorem Reads.drew {w : World} {A : Option Addr} {L : List Op} (h : Reads w A L) : Reads w.drew A L := h

def flatO (L : List Op) : List Value := L.flatMap encO
theorem flatO_length (L : List Op) : (flatO L).length = L.length * 3 := by
  induction L with
  | nil => rfl
  | cons m L ih => unfold flatO at *; rw [List.flatMap_cons, List.length_append, ih, encO_length]; simp; omega
theorem flatO_append (L K : List Op) : flatO (L ++ K) = flatO L ++ flatO K := by unfold flatO; rw [List.flatMap_append]
theorem flatO_one (L : List Op) : ∀ v, v ∈ flatO L → v.oneCell' = true := by
  intro v hv
  unfold flatO at hv
  rw [List.mem_flatMap] at hv
  obtain ⟨m, _, hm⟩ := hv
  simp [encO] at hm
  rcases hm with rfl | rfl | rfl <;> rfl
theorem flatO_get : ∀ (L : List Op) (j i : Nat) (m : Op) (v : Value), L[j]? = some m → (encO m)[i]? = some v → (flatO L)[j * 3 + i]? = some v := by
  intro L
  induction L with
  | nil => intro j i m v h; simp at h
  | cons x L ih =>
    intro j i m v h hv
    unfold flatO
    rw [List.flatMap_cons]
    have hi : i < 3 := (List.getElem?_eq_some_iff.1 hv).1
    cases j with
    | zero =>
      simp at h
      subst h
      rw [List.getElem?_append_left (by rw [encO_length]; omega), Nat.zero_mul, Nat.zero_add]
      exact hv
    | succ j =>
      rw [List.getElem?_append_right (by rw [encO_length]; omega), encO_length, show (j + 1) * 3 + i - 3 = j * 3 + i by omega]
      exact ih j i m v (by simpa using h) hv
def OpenT : TypeId := 30
/-- Block g is a row of room for cap things that begins with L. -/
def RowAt (w : World) (g cap : Nat) (L : List Op) : Prop :=
  ∃ cur : List Value, Blk w g OpenT cur.toArray ∧ L.length ≤ cap ∧ cap ≤ maxLen ∧ cur.length = cap * 3 ∧ cur.take (L.length * 3) = flatO L
theorem RowAt.upd {w w' : World} {g cap : Nat} {L : List Op} {S : List Nat} (h : RowAt w g cap L) (hu : Upd S w w') (hS : g ∉ S) : RowAt w' g cap L := by
  obtain ⟨cur, hb, h1, h2, h3, h4⟩ := h
  exact ⟨cur, hb.upd hu hS, h1, h2, h3, h4⟩
theorem RowAt.reads {w : World} {g cap : Nat} {L : List Op} (h : RowAt w g cap L) : Reads w (some ⟨g, 0, none⟩) L := by
  obtain ⟨cur, hb, h1, h2, h3, h4⟩ := h
  intro _
  refine ⟨g, 0, rfl, fun j m hj i v hv => hb.cellAt ?_⟩
  have hjl : j < L.length := (List.getElem?_eq_some_iff.1 hj).1
  have hi : i < 3 := (List.getElem?_eq_some_iff.1 hv).1
  have := flatO_get L j i m v hj hv
  rw [← h4, List.getElem?_take, if_pos (by omega)] at this
  simpa using this

theorem under_opens : Try.prog.underlying 33 = some (.slice OpenT) := by kernel_rfl
/-- append, as one step of a region that draws. -/
theorem step_append {P : Program} {ops : Array Oper} {o : Oper} {a : Act} {w W' : World} {K : Act → World → Prop} {Q : Exit → Act → World → Prop} {E : Prop} {V : Value}
    (hg : o.guard = none) (s x : Operand) (t : TypeId) (hop : o.op = Op.call { callee := Callee.builtin Builtin.append, args := #[s, x], argTypes := #[t, t] })
    (hrun : ∀ ty, (Builtin.append_ #[t, t] ty #[a.eval s, a.eval x]).run P w = .ok V W') (hK : K (a.put o.dst V) W') :
    if Region.wanted o (yielded ops a.tmps) = true then Oper.wp P o a w K Q else E := by
  have hw : Region.wanted o (yielded ops a.tmps) = true := by simp [Region.wanted, hg]
  rw [if_pos hw]
  unfold Oper.wp
  simp [execOp, hop, resolve, invoke, builtin, hrun, Result.andThen]
  exact hK
theorem flatO_drop (L : List Op) (k : Nat) : flatO (L.drop k) = (flatO L).drop (k * 3) := by
  by_cases h : k ≤ L.length
  · have e : flatO L = flatO (L.take k) ++ flatO (L.drop k) := by rw [← flatO_append, List.take_append_drop]
    rw [e]
    have : (flatO (L.take k)).length = k * 3 := by rw [flatO_length, List.length_take, Nat.min_eq_left h]
    rw [← this, List.drop_left]
  · rw [List.drop_eq_nil_of_le (by omega), List.drop_eq_nil_of_le (by rw [flatO_length]; omega)]
    rfl
theorem flatO_take (L : List Op) (k : Nat) : flatO (L.take k) = (flatO L).take (k * 3) := by
  by_cases h : k ≤ L.length
  · have e : flatO L = flatO (L.take k) ++ flatO (L.drop k) := by rw [← flatO_append, List.take_append_drop]
    rw [e]
    have : (flatO (L.take k)).length = k * 3 := by rw [flatO_length, List.length_take, Nat.min_eq_left h]
    rw [← this, List.take_left]
  · rw [List.take_of_length_le (by omega), List.take_of_length_le (by rw [flatO_length]; omega)]
def ownA : Option Addr → List Nat
  | none => []
  | some a => [a.block]
/-- A slice that is nil, or the head of a row of its own, and reads as L. -/
def Row (w : World) (A : Option Addr) (cap : Nat) (L : List Op) : Prop :=
  (A = none ∧ cap = 0 ∧ L = []) ∨ ∃ g, A = some ⟨g, 0, none⟩ ∧ RowAt w g cap L
theorem RowAt.lt {w : World} {g cap : Nat} {L : List Op} (h : RowAt w g cap L) : g < w.heap.size := by
  obtain ⟨cur, hb, _⟩ := h
  exact hb.lt
theorem Row.upd {w w' : World} {A : Option Addr} {cap : Nat} {L : List Op} {S : List Nat} (h : Row w A cap L) (hu : Upd S w w') (hS : ∀ g, g ∈ ownA A → g ∉ S) : Row w' A cap L := by
  rcases h with h | ⟨g, rfl, h⟩
  · exact .inl h
  · exact .inr ⟨g, rfl, h.upd hu (hS g (by simp [ownA]))⟩
theorem Row.drew {w : World} {A : Option Addr} {cap : Nat} {L : List Op} (h : Row w A cap L) : Row w.drew A cap L := h
theorem Row.lt {w : World} {A : Option Addr} {cap : Nat} {L : List Op} (h : Row w A cap L) : ∀ g, g ∈ ownA A → g < w.heap.size := by
  intro g hg
  rcases h with ⟨rfl, _⟩ | ⟨g', rfl, h⟩
  · simp [ownA] at hg
  · simp [ownA] at hg
    subst hg
    exact h.lt
theorem Row.reads {w : World} {A : Option Addr} {cap : Nat} {L : List Op} (h : Row w A cap L) : Reads w A L := by
  rcases h with ⟨rfl, _, rfl⟩ | ⟨g, rfl, h⟩
  · intro h; simp at h
  · exact h.reads
theorem Row.cap {w : World} {A : Option Addr} {cap : Nat} {L : List Op} (h : Row w A cap L) : L.length ≤ cap ∧ cap ≤ maxLen := by
  rcases h with ⟨rfl, rfl, rfl⟩ | ⟨g, rfl, _, _, h1, h2, _⟩
  · simp
  · exact ⟨h1, h2⟩
theorem Row.new (w : World) : Row (w.alloc (.cells #[] OpenT)) (some ⟨w.heap.size, 0, none⟩) 0 [] :=
  .inr ⟨_, rfl, [], Blk.new w OpenT #[], by simp, by simp, by simp, rfl⟩
theorem Row.owns {w : World} {A : Option Addr} {cap : Nat} {L : List Op} (h : Row w A cap L) : w.ownsRow 0 OpenT 3 (.slice A L.length cap) L.length (flatO L) := by
  refine ⟨flatO_length L, ?_⟩
  rcases h with ⟨rfl, rfl, rfl⟩ | ⟨g, rfl, cur, hb, h1, h2, h3, h4⟩
  · exact .inl ⟨rfl, rfl⟩
  · exact .inr ⟨g, cap, cur.toArray, rfl, Nat.zero_le _, hb, h1, h2, by simpa using h3, by simpa using h4⟩
theorem info_open3 : (Try.prog.info? OpenT).map (fun i => (i.size, i.bytes, i.zero.map (·.cells.size))) = some (3, 24, some 3) := by kernel_rfl

/-- What is appended: a slice that reads as K. -/
def Xs (w : World) (X : Value) (m : Nat) (K : List Op) : Prop :=
  K.length = m ∧ ((∃ a c, X = .slice (some a) m c ∧ ∀ j u, (flatO K)[j]? = some u → w.cell? (a.add j) = some u) ∨ (∃ c, X = .slice none 0 c ∧ m = 0))
theorem Xs.upd {w w' : World} {X : Value} {m : Nat} {K : List Op} {S : List Nat} (h : Xs w X m K) (hu : Upd S w w') (hS : ∀ a c, X = .slice (some a) m c → 0 < m → a.block ∉ S) : Xs w' X m K := by
  obtain ⟨h0, h⟩ := h
  refine ⟨h0, ?_⟩
  rcases h with ⟨a, c, rfl, h⟩ | h
  · refine .inl ⟨a, c, rfl, fun j u hj => ?_⟩
    have hm : 0 < m := by
      have := (List.getElem?_eq_some_iff.1 hj).1
      rw [flatO_length] at this
      omega
    have h1 := h j u hj
    have hb : (a.add j).block = a.block := by unfold Addr.add; split <;> rfl
    have hlt := World.block_lt_of_cell? w _ h1
    rw [World.cell?_of_block (hu.block _ hlt (by rw [hb]; exact hS a c rfl hm))]
    exact h1
  · exact .inr h
theorem Row.xs {w : World} {A : Option Addr} {cap : Nat} {L : List Op} (h : Row w A cap L) : Xs w (.slice A L.length cap) L.length L := by
  refine ⟨rfl, ?_⟩
  rcases h with ⟨rfl, rfl, rfl⟩ | ⟨g, rfl, cur, hb, h1, h2, h3, h4⟩
  · exact .inr ⟨0, rfl, rfl⟩
  · refine .inl ⟨_, _, rfl, fun j u hu => ?_⟩
    rw [Addr.add_mid]
    refine hb.cellAt ?_
    rw [← h4, List.getElem?_take] at hu
    split at hu
    · simpa using hu
    · cases hu
theorem xs_one (w : World) (m : Op) : Xs (w.alloc (.cells (encO m).toArray OpenT)) (.slice (some ⟨w.heap.size, 0, none⟩) 1 1) 1 [m] := by
  refine ⟨rfl, .inl ⟨_, _, rfl, fun j u hu => ?_⟩⟩
  rw [Addr.add_mid]
  refine (Blk.new w OpenT (encO m).toArray).cellAt ?_
  simpa [flatO] using hu

theorem app_row (W : World) (A : Option Addr) (n cap : Nat) (L : List Op) (hn : L.length = n) (h : Row W A cap L) (X : Value) (m : Nat) (K : List Op) (hs : Xs W X m K) (hle : n + m ≤ 1000) :
    ∃ A' cap' W', (∀ ty, (Builtin.append_ #[33, 33] ty #[.slice A n cap, X]).run Try.prog W = .ok (.slice A' (n + m) cap') W') ∧ Row W' A' cap' (L ++ K) ∧ Upd (ownA A) W W' ∧ ∀ g, g ∈ ownA A' → g ∈ ownA A ∨ W.heap.size ≤ g := by
  subst hn
  obtain ⟨i, hi, hsz⟩ : ∃ i, Try.prog.info? OpenT = some i ∧ i.size = 3 ∧ i.bytes = 24 ∧ ∃ z, i.zero = some z ∧ z.cells.size = 3 := by
    have := info_open3
    cases hq : Try.prog.info? OpenT with
    | none => rw [hq] at this; cases this
    | some i =>
      rw [hq] at this
      simp at this
      obtain ⟨h1, h2, z, h3, h4⟩ := this
      exact ⟨i, rfl, h1, h2, z, h3, h4⟩
  obtain ⟨hk, hs⟩ := hs
  obtain ⟨hz1, hz2, z, hz3, hz4⟩ := hsz
  rcases hs with ⟨a, c, rfl, hc⟩ | ⟨c, rfl, rfl⟩
  · have hlK : (flatO K).length = m * 3 := by rw [flatO_length, hk]
    have hrun := fun ty => run_append_own_at (P := Try.prog) W 0 33 ty OpenT i z 3 24 under_opens hi hz3 hz1 hz2 hz4 (by omega) _ _ _ h.owns a m c (flatO K) hlK hc (flatO_one K) (by unfold maxLen; omega) (by omega) (Nat.zero_le _)
    obtain ⟨v', w', hr, hown, hg, hnil, hat⟩ := hrun 0
    have hall : ∀ ty, (Builtin.append_ #[33, 33] ty #[.slice A L.length cap, .slice (some a) m c]).run Try.prog W = .ok v' w' := by
      intro ty
      rw [← hr]
      rfl
    have hown2 := hown.2
    have hu : Upd (ownA A) W w' := (Upd.refl (ownA A) W).grown hg (fun k hk => .inl (by
      cases A with
      | none => simp [Value.ownBlock] at hk
      | some a => simp [Value.ownBlock] at hk; simp [ownA, hk]))
    rcases hown2 with ⟨rfl, h0⟩ | ⟨g, cap', cur, rfl, _, hb, h1, h2, h3, h4⟩
    · have hL : L = [] := List.eq_nil_of_length_eq_zero (by omega)
      have hK : K = [] := List.eq_nil_of_length_eq_zero (by omega)
      refine ⟨none, 0, w', fun ty => by rw [hall, h0], .inl ⟨rfl, rfl, by rw [hL, hK]; rfl⟩, hu, by simp [ownA]⟩
    · refine ⟨some ⟨g, 0, none⟩, cap', w', hall, .inr ⟨g, rfl, cur.toList, (show Blk w' g OpenT cur.toList.toArray from by rw [Array.toArray_toList]; exact hb), by rw [List.length_append]; omega, h2, by simpa using h3, ?_⟩, hu, ?_⟩
      · rw [List.length_append, hk, h4, flatO_append]
      · intro k hk'
        simp [ownA] at hk'
        subst hk'
        rcases hat with hat | hat
        · left
          cases A with
          | none => simp [Value.ownBlock] at hat
          | some a => simp [Value.ownBlock] at hat; simp [ownA, hat]
        · right
          simp [Value.ownBlock] at hat
          omega
  · have hK : K = [] := List.eq_nil_of_length_eq_zero hk
    subst hK
    refine ⟨A, cap, W, fun ty => ?_, by simpa using h, Upd.refl _ _, fun g hg => .inl hg⟩
    have hc := h.cap.1
    have : L.length + 0 ≤ cap := hc
    cases A with
    | none => simp [Builtin.append_, run_underlying under_opens, sizeOf, typeInfo, hi, Builtin.lenOf, Builtin.firstCells, hc]
    | some a => simp [Builtin.append_, run_underlying under_opens, sizeOf, typeInfo, hi, Builtin.lenOf, Builtin.firstCells, loadCells, hc, storeCells]

section
variable {ops : Array Oper} {rest : List Oper} {o : Oper} {a : Act} {W : World} {K' : Act → World → Prop} {Q : Exit → Act → World → Prop} {E : Prop}
theorem wp_app (s x : Operand) (hop : o.op = Op.call { callee := Callee.builtin Builtin.append, args := #[s, x], argTypes := #[33, 33] })
    (A : Option Addr) (n cap : Nat) (L : List Op) (hn : L.length = n) (hv : a.eval s = .slice A n cap) (h : Row W A cap L) (X : Value) (hx : a.eval x = X) (m : Nat) (K : List Op) (hs : Xs W X m K) (hle : n + m ≤ 1000)
    (hK : ∀ A' cap' W', Row W' A' cap' (L ++ K) → Upd (ownA A) W W' → (∀ g, g ∈ ownA A' → g ∈ ownA A ∨ W.heap.size ≤ g) → K' (a.put o.dst (.slice A' (n + m) cap')) W') : o.wp Try.prog a W K' Q := by
  obtain ⟨A', cap', W', hr, h1, h2, h3⟩ := app_row W A n cap L hn h X m K hs hle
  unfold Oper.wp execOp
  simp only [hop, resolve, invoke, builtin, Sem.run_bind, Sem.run_pure, Result.andThen_ok, List.map_toArray, List.map_cons, List.map_nil, hv, hx, hr]
  exact hK A' cap' W' h1 h2 h3
theorem wpList_app (hgd : o.guard = none) (s x : Operand) (hop : o.op = Op.call { callee := Callee.builtin Builtin.append, args := #[s, x], argTypes := #[33, 33] })
    (A : Option Addr) (n cap : Nat) (L : List Op) (hn : L.length = n) (hv : a.eval s = .slice A n cap) (h : Row W A cap L) (X : Value) (hx : a.eval x = X) (m : Nat) (K : List Op) (hs : Xs W X m K) (hle : n + m ≤ 1000)
    (hK : ∀ A' cap' W', Row W' A' cap' (L ++ K) → Upd (ownA A) W W' → (∀ g, g ∈ ownA A' → g ∈ ownA A ∨ W.heap.size ≤ g) → wpList Try.prog ops Q rest (a.put o.dst (.slice A' (n + m) cap')) W') : wpList Try.prog ops Q (o :: rest) a W :=
  wpList_plain hgd fun _ hKK => wp_app s x hop A n cap L hn hv h X hx m K hs hle fun A' cap' W' h1 h2 h3 => hKK _ _ (hK A' cap' W' h1 h2 h3)
theorem step_app (hgd : o.guard = none) (s x : Operand) (hop : o.op = Op.call { callee := Callee.builtin Builtin.append, args := #[s, x], argTypes := #[33, 33] })
    (A : Option Addr) (n cap : Nat) (L : List Op) (hn : L.length = n) (hv : a.eval s = .slice A n cap) (h : Row W A cap L) (X : Value) (hx : a.eval x = X) (m : Nat) (K : List Op) (hs : Xs W X m K) (hle : n + m ≤ 1000)
    (hK : ∀ A' cap' W', Row W' A' cap' (L ++ K) → Upd (ownA A) W W' → (∀ g, g ∈ ownA A' → g ∈ ownA A ∨ W.heap.size ≤ g) → K' (a.put o.dst (.slice A' (n + m) cap')) W') :
    if Region.wanted o (yielded ops a.tmps) = true then Oper.wp Try.prog o a W K' Q else E := by
  have hw : Region.wanted o (yielded ops a.tmps) = true := by simp [Region.wanted, hgd]
  rw [if_pos hw]
  exact wp_app s x hop A n cap L hn hv h X hx m K hs hle hK
end


end Go.Proofs.Ytedaffkdfniikaa
