/- Rows of mappings, and what append makes of them. -/
import Derived.Test.YtefjppebohnmjaaTlbF
import Derived.Deep.RegionHeld3
namespace Go.Proofs.Ytefjppebohnmjaa
open Go.RowKit Go.Shelf

def ownA : Option Addr → List Nat
  | none => []
  | some a => [a.block]
/-- A slice that is nil, or the head of a row of its own, and reads as L. -/
def Row (w : World) (A : Option Addr) (cap : Nat) (L : List Mp) : Prop :=
  (A = none ∧ cap = 0 ∧ L = []) ∨ ∃ g, A = some ⟨g, 0, none⟩ ∧ RowAt w g cap L
theorem RowAt.lt {w : World} {g cap : Nat} {L : List Mp} (h : RowAt w g cap L) : g < w.heap.size := by
  obtain ⟨cur, hb, _⟩ := h
  exact hb.lt
theorem Row.upd {w w' : World} {A : Option Addr} {cap : Nat} {L : List Mp} {S : List Nat} (h : Row w A cap L) (hu : Upd S w w') (hS : ∀ g, g ∈ ownA A → g ∉ S) : Row w' A cap L := by
  rcases h with h | ⟨g, rfl, h⟩
  · exact .inl h
  · exact .inr ⟨g, rfl, h.upd hu (hS g (by simp [ownA]))⟩
theorem Row.drew {w : World} {A : Option Addr} {cap : Nat} {L : List Mp} (h : Row w A cap L) : Row w.drew A cap L := h
theorem Row.lt {w : World} {A : Option Addr} {cap : Nat} {L : List Mp} (h : Row w A cap L) : ∀ g, g ∈ ownA A → g < w.heap.size := by
  intro g hg
  rcases h with ⟨rfl, _⟩ | ⟨g', rfl, h⟩
  · simp [ownA] at hg
  · simp [ownA] at hg
    subst hg
    exact h.lt
theorem Row.reads {w : World} {A : Option Addr} {cap : Nat} {L : List Mp} (h : Row w A cap L) : Reads w A L := by
  rcases h with ⟨rfl, _, rfl⟩ | ⟨g, rfl, h⟩
  · intro h; simp at h
  · exact h.reads
theorem Row.cap {w : World} {A : Option Addr} {cap : Nat} {L : List Mp} (h : Row w A cap L) : L.length ≤ cap ∧ cap ≤ maxLen := by
  rcases h with ⟨rfl, rfl, rfl⟩ | ⟨g, rfl, _, _, h1, h2, _⟩
  · simp
  · exact ⟨h1, h2⟩
theorem Row.new (w : World) : Row (w.alloc (.cells #[] MapT)) (some ⟨w.heap.size, 0, none⟩) 0 [] :=
  .inr ⟨_, rfl, [], Blk.new w MapT #[], by simp, by simp, by simp, rfl⟩
theorem Row.owns {w : World} {A : Option Addr} {cap : Nat} {L : List Mp} (h : Row w A cap L) : w.ownsRow 0 MapT 4 (.slice A L.length cap) L.length (flatM L) := by
  refine ⟨flatM_length L, ?_⟩
  rcases h with ⟨rfl, rfl, rfl⟩ | ⟨g, rfl, cur, hb, h1, h2, h3, h4⟩
  · exact .inl ⟨rfl, rfl⟩
  · exact .inr ⟨g, cap, cur.toArray, rfl, Nat.zero_le _, hb, h1, h2, by simpa using h3, by simpa using h4⟩
theorem info_map3 : (Try.prog.info? MapT).map (fun i => (i.size, i.bytes, i.zero.map (·.cells.size))) = some (4, 4, some 4) := by kernel_rfl

/-- What is appended: a slice that reads as K. -/
def Xs (w : World) (X : Value) (m : Nat) (K : List Mp) : Prop :=
  K.length = m ∧ ((∃ a c, X = .slice (some a) m c ∧ ∀ j u, (flatM K)[j]? = some u → w.cell? (a.add j) = some u) ∨ (∃ c, X = .slice none 0 c ∧ m = 0))
theorem Xs.upd {w w' : World} {X : Value} {m : Nat} {K : List Mp} {S : List Nat} (h : Xs w X m K) (hu : Upd S w w') (hS : ∀ a c, X = .slice (some a) m c → 0 < m → a.block ∉ S) : Xs w' X m K := by
  obtain ⟨h0, h⟩ := h
  refine ⟨h0, ?_⟩
  rcases h with ⟨a, c, rfl, h⟩ | h
  · refine .inl ⟨a, c, rfl, fun j u hj => ?_⟩
    have hm : 0 < m := by
      have := (List.getElem?_eq_some_iff.1 hj).1
      rw [flatM_length] at this
      omega
    have h1 := h j u hj
    have hb : (a.add j).block = a.block := by unfold Addr.add; split <;> rfl
    have hlt := World.block_lt_of_cell? w _ h1
    rw [World.cell?_of_block (hu.block _ hlt (by rw [hb]; exact hS a c rfl hm))]
    exact h1
  · exact .inr h
theorem Row.xs {w : World} {A : Option Addr} {cap : Nat} {L : List Mp} (h : Row w A cap L) : Xs w (.slice A L.length cap) L.length L := by
  refine ⟨rfl, ?_⟩
  rcases h with ⟨rfl, rfl, rfl⟩ | ⟨g, rfl, cur, hb, h1, h2, h3, h4⟩
  · exact .inr ⟨0, rfl, rfl⟩
  · refine .inl ⟨_, _, rfl, fun j u hu => ?_⟩
    rw [Addr.add_mid]
    refine hb.cellAt ?_
    rw [← h4, List.getElem?_take] at hu
    split at hu
    · simpa using hu
    · cases hu
theorem xs_one (w : World) (m : Mp) : Xs (w.alloc (.cells (encM m).toArray MapT)) (.slice (some ⟨w.heap.size, 0, none⟩) 1 1) 1 [m] := by
  refine ⟨rfl, .inl ⟨_, _, rfl, fun j u hu => ?_⟩⟩
  rw [Addr.add_mid]
  refine (Blk.new w MapT (encM m).toArray).cellAt ?_
  simpa [flatM] using hu

theorem app_row (W : World) (A : Option Addr) (n cap : Nat) (L : List Mp) (hn : L.length = n) (h : Row W A cap L) (X : Value) (m : Nat) (K : List Mp) (hs : Xs W X m K) (hle : n + m ≤ 1000) :
    ∃ A' cap' W', (∀ ty, (Builtin.append_ #[39, 39] ty #[.slice A n cap, X]).run Try.prog W = .ok (.slice A' (n + m) cap') W') ∧ Row W' A' cap' (L ++ K) ∧ Upd (ownA A) W W' ∧ ∀ g, g ∈ ownA A' → g ∈ ownA A ∨ W.heap.size ≤ g := by
  subst hn
  obtain ⟨i, hi, hsz⟩ : ∃ i, Try.prog.info? MapT = some i ∧ i.size = 4 ∧ i.bytes = 4 ∧ ∃ z, i.zero = some z ∧ z.cells.size = 4 := by
    have := info_map3
    cases hq : Try.prog.info? MapT with
    | none => rw [hq] at this; cases this
    | some i =>
      rw [hq] at this
      simp at this
      obtain ⟨h1, h2, z, h3, h4⟩ := this
      exact ⟨i, rfl, h1, h2, z, h3, h4⟩
  obtain ⟨hk, hs⟩ := hs
  obtain ⟨hz1, hz2, z, hz3, hz4⟩ := hsz
  rcases hs with ⟨a, c, rfl, hc⟩ | ⟨c, rfl, rfl⟩
  · have hlK : (flatM K).length = m * 4 := by rw [flatM_length, hk]
    have hrun := fun ty => run_append_own_at (P := Try.prog) W 0 39 ty MapT i z 4 4 under_maps hi hz3 hz1 hz2 hz4 (by omega) _ _ _ h.owns a m c (flatM K) hlK hc (flatM_one K) (by unfold maxLen; omega) (by omega) (Nat.zero_le _)
    obtain ⟨v', w', hr, hown, hg, hnil, hat⟩ := hrun 0
    have hall : ∀ ty, (Builtin.append_ #[39, 39] ty #[.slice A L.length cap, .slice (some a) m c]).run Try.prog W = .ok v' w' := by
      intro ty
      rw [← hr]
      rfl
    have hown2 := hown.2
    have hu : Upd (ownA A) W w' := (Upd.refl (ownA A) W).grown hg (fun k hk => .inl (by
      cases A with
      | none => simp [Value.ownBlock] at hk
      | some a => simp [Value.ownBlock] at hk; simp [ownA, hk]))
    rcases hown2 with ⟨rfl, h0⟩ | ⟨g, cap', cur, rfl, _, hb, h1, h2, h3, h4⟩
    · have hL : L = [] := List.eq_nil_of_length_eq_zero (by omega)
      have hK : K = [] := List.eq_nil_of_length_eq_zero (by omega)
      refine ⟨none, 0, w', fun ty => by rw [hall, h0], .inl ⟨rfl, rfl, by rw [hL, hK]; rfl⟩, hu, by simp [ownA]⟩
    · refine ⟨some ⟨g, 0, none⟩, cap', w', hall, .inr ⟨g, rfl, cur.toList, (show Blk w' g MapT cur.toList.toArray from by rw [Array.toArray_toList]; exact hb), by rw [List.length_append]; omega, h2, by simpa using h3, ?_⟩, hu, ?_⟩
      · rw [List.length_append, hk, h4, flatM_append]
      · intro k hk'
        simp [ownA] at hk'
        subst hk'
        rcases hat with hat | hat
        · left
          cases A with
          | none => simp [Value.ownBlock] at hat
          | some a => simp [Value.ownBlock] at hat; simp [ownA, hat]
        · right
          simp [Value.ownBlock] at hat
          omega
  · have hK : K = [] := List.eq_nil_of_length_eq_zero hk
    subst hK
    refine ⟨A, cap, W, fun ty => ?_, by simpa using h, Upd.refl _ _, fun g hg => .inl hg⟩
    have hc := h.cap.1
    have : L.length + 0 ≤ cap := hc
    cases A with
    | none => simp [Builtin.append_, run_underlying under_maps, sizeOf, typeInfo, hi, Builtin.lenOf, Builtin.firstCells, hc]
    | some a => simp [Builtin.append_, run_underlying under_maps, sizeOf, typeInfo, hi, Builtin.lenOf, Builtin.firstCells, loadCells, hc, storeCells]

section
variable {ops : Array Oper} {rest : List Oper} {o : Oper} {a : Act} {W : World} {K' : Act → World → Prop} {Q : Exit → Act → World → Prop} {E : Prop}
theorem wp_app (s x : Operand) (hop : o.op = Op.call { callee := Callee.builtin Builtin.append, args := #[s, x], argTypes := #[39, 39] })
    (A : Option Addr) (n cap : Nat) (L : List Mp) (hn : L.length = n) (hv : a.eval s = .slice A n cap) (h : Row W A cap L) (X : Value) (hx : a.eval x = X) (m : Nat) (K : List Mp) (hs : Xs W X m K) (hle : n + m ≤ 1000)
    (hK : ∀ A' cap' W', Row W' A' cap' (L ++ K) → Upd (ownA A) W W' → (∀ g, g ∈ ownA A' → g ∈ ownA A ∨ W.heap.size ≤ g) → K' (a.put o.dst (.slice A' (n + m) cap')) W') : o.wp Try.prog a W K' Q := by
  obtain ⟨A', cap', W', hr, h1, h2, h3⟩ := app_row W A n cap L hn h X m K hs hle
  unfold Oper.wp execOp
  simp only [hop, resolve, invoke, builtin, Sem.run_bind, Sem.run_pure, Result.andThen_ok, List.map_toArray, List.map_cons, List.map_nil, hv, hx, hr]
  exact hK A' cap' W' h1 h2 h3
theorem wpList_app (hgd : o.guard = none) (s x : Operand) (hop : o.op = Op.call { callee := Callee.builtin Builtin.append, args := #[s, x], argTypes := #[39, 39] })
    (A : Option Addr) (n cap : Nat) (L : List Mp) (hn : L.length = n) (hv : a.eval s = .slice A n cap) (h : Row W A cap L) (X : Value) (hx : a.eval x = X) (m : Nat) (K : List Mp) (hs : Xs W X m K) (hle : n + m ≤ 1000)
    (hK : ∀ A' cap' W', Row W' A' cap' (L ++ K) → Upd (ownA A) W W' → (∀ g, g ∈ ownA A' → g ∈ ownA A ∨ W.heap.size ≤ g) → wpList Try.prog ops Q rest (a.put o.dst (.slice A' (n + m) cap')) W') : wpList Try.prog ops Q (o :: rest) a W :=
  wpList_plain hgd fun _ hKK => wp_app s x hop A n cap L hn hv h X hx m K hs hle fun A' cap' W' h1 h2 h3 => hKK _ _ (hK A' cap' W' h1 h2 h3)
theorem step_app (hgd : o.guard = none) (s x : Operand) (hop : o.op = Op.call { callee := Callee.builtin Builtin.append, args := #[s, x], argTypes := #[39, 39] })
    (A : Option Addr) (n cap : Nat) (L : List Mp) (hn : L.length = n) (hv : a.eval s = .slice A n cap) (h : Row W A cap L) (X : Value) (hx : a.eval x = X) (m : Nat) (K : List Mp) (hs : Xs W X m K) (hle : n + m ≤ 1000)
    (hK : ∀ A' cap' W', Row W' A' cap' (L ++ K) → Upd (ownA A) W W' → (∀ g, g ∈ ownA A' → g ∈ ownA A ∨ W.heap.size ≤ g) → K' (a.put o.dst (.slice A' (n + m) cap')) W') :
    if Region.wanted o (yielded ops a.tmps) = true then Oper.wp Try.prog o a W K' Q else E := by
  have hw : Region.wanted o (yielded ops a.tmps) = true := by simp [Region.wanted, hgd]
  rw [if_pos hw]
  exact wp_app s x hop A n cap L hn hv h X hx m K hs hle hK
end

/-- A box of type T at t whose own row is L. -/
def At (T : TypeId) (w : World) (t : Nat) (own : List Nat) (L : List Mp) : Prop :=
  ∃ A cap, Blk w t T #[.slice A L.length cap] ∧ Row w A cap L ∧ own = ownA A ∧ L.length ≤ 8
def RefT : TypeId := 60
section
variable {T : TypeId} {w w' : World} {t : Nat} {own : List Nat} {L : List Mp}
theorem At.lt (h : At T w t own L) : t < w.heap.size := by
  obtain ⟨A, cap, hb, _⟩ := h
  exact hb.lt
theorem At.ownlt (h : At T w t own L) : ∀ g, g ∈ own → g < w.heap.size := by
  obtain ⟨A, cap, hb, hr, rfl, _⟩ := h
  exact hr.lt
theorem At.upd {S : List Nat} (h : At T w t own L) (hu : Upd S w w') (h1 : t ∉ S) (h2 : ∀ g, g ∈ own → g ∉ S) : At T w' t own L := by
  obtain ⟨A, cap, hb, hr, rfl, hl⟩ := h
  exact ⟨A, cap, hb.upd hu h1, hr.upd hu h2, rfl, hl⟩
theorem At.upd0 (h : At T w t own L) (hu : Upd [] w w') : At T w' t own L := h.upd hu (by simp) (by simp)
theorem At.out {g : Nat} {T' : TypeId} {cs : Array Value} (h : At T w t own L) (hb : Blk w g T' cs) (hne : T' ≠ MapT) : g ∉ own := by
  obtain ⟨A, cap, _, hr, rfl, _⟩ := h
  intro hg
  rcases hr with ⟨rfl, _⟩ | ⟨g', rfl, cur, hb', _⟩
  · simp [ownA] at hg
  · simp [ownA] at hg
    subst hg
    exact hb.ne_ hb' hne rfl
end

end Go.Proofs.Ytefjppebohnmjaa
