/- The plain law: what each deed keeps of a table of mappings. No program in sight. -/
import Derived.Test.YtefjppebohnmjaaTlbO
import Derived.Test.YtefjppebohnmjaaTlbQ
namespace Go.Proofs.Ytefjppebohnmjaa
open Go.RowKit Go.Shelf

def keyM (m : Mp) : Nat × Nat := (m.a, m.p)
theorem isAt_key (a p : Nat) (m : Mp) : isAt a p m = true ↔ keyM m = (a, p) := by simp [isAt, keyM, Prod.ext_iff]
/-- Never more than eight, each in its bounds, none twice of one address space and page. -/
structure Good (L : List Mp) : Prop where
  len : L.length ≤ 8
  rng : ∀ m, m ∈ L → m.p < 16 ∧ m.f < 64
  key : L.Pairwise fun x y => keyM x ≠ keyM y
theorem good_nil : Good [] := ⟨by simp, by simp, List.Pairwise.nil⟩
theorem key_uniq {L : List Mp} (h : L.Pairwise fun x y => keyM x ≠ keyM y) {i j : Nat} {x y : Mp} (hi : L[i]? = some x) (hj : L[j]? = some y) (hk : keyM x = keyM y) : i = j := by
  obtain ⟨hi1, rfl⟩ := List.getElem?_eq_some_iff.1 hi
  obtain ⟨hj1, rfl⟩ := List.getElem?_eq_some_iff.1 hj
  rw [List.pairwise_iff_getElem] at h
  rcases Nat.lt_trichotomy i j with h1 | h1 | h1
  · exact absurd hk (h i j hi1 hj1 h1)
  · exact h1
  · exact absurd hk.symm (h j i hj1 hi1 h1)
theorem erase_no {L : List Mp} (h : L.Pairwise fun x y => keyM x ≠ keyM y) {i : Nat} {m : Mp} {a p : Nat} (hi : L[i]? = some m) (hp : isAt a p m = true) : ∀ x, x ∈ L.eraseIdx i → isAt a p x = false := by
  intro x hx
  rw [List.mem_eraseIdx_iff_getElem?] at hx
  obtain ⟨j, hne, hj⟩ := hx
  rw [Bool.eq_false_iff]
  intro hq
  exact hne (key_uniq h hj hi ((isAt_key a p x).1 hq |>.trans ((isAt_key a p m).1 hp).symm))
theorem gone_lt {m : Mp} {L : List Mp} {i : Nat} (h : goneI m L = some i) : i < L.length := by
  unfold goneI at h
  cases hq : L.findIdx? (isAt m.a m.p) with
  | some k =>
    rw [hq] at h
    simp at h
    subst h
    obtain ⟨x, hx, _⟩ := findIdx_spec _ L k hq
    exact (List.getElem?_eq_some_iff.1 hx).1
  | none =>
    rw [hq] at h
    simp at h
    omega
theorem good_sub {L K : List Mp} (h : Good L) (hs : K.Sublist L) : Good K := ⟨Nat.le_trans hs.length_le h.len, fun m hm => h.rng m (hs.subset hm), h.key.sublist hs⟩
def restL (m : Mp) (L : List Mp) : List Mp := match goneI m L with | some i => L.eraseIdx i | none => L
theorem rest_no {m : Mp} {L : List Mp} (h : Good L) : ∀ x, x ∈ restL m L → isAt m.a m.p x = false := by
  intro x hx
  unfold restL goneI at hx
  cases hq : L.findIdx? (isAt m.a m.p) with
  | some k =>
    rw [hq] at hx
    simp at hx
    obtain ⟨y, hy, hp, _⟩ := findIdx_spec _ L k hq
    exact erase_no h.key hy hp x hx
  | none =>
    rw [hq] at hx
    have hn := List.findIdx?_eq_none_iff.1 hq
    split at hx
    · exact hn x ((List.eraseIdx_sublist L _).subset hx)
    · exact hn x hx
theorem good_ins (m : Mp) {L : List Mp} (h : Good L) : Good (insN m L) := by
  unfold insN
  cases hb : badM m with
  | true => simpa using h
  | false =>
    simp only [Bool.false_eq_true, if_false]
    have hr := rest_no (m := m) h
    have hsub : (restL m L).Sublist L := by
      unfold restL
      split
      · exact List.eraseIdx_sublist _ _
      · exact List.Sublist.refl _
    have hg := good_sub h hsub
    have hl : (restL m L).length ≤ 7 := by
      unfold restL
      cases hq : goneI m L with
      | some i =>
        have := gone_lt hq
        have := h.len
        simp only
        rw [List.length_eraseIdx, if_pos (by assumption)]
        omega
      | none =>
        simp only
        unfold goneI at hq
        split at hq
        · cases hq
        · split at hq
          · cases hq
          · omega
    show Good (restL m L ++ [m])
    generalize restL m L = K at *
    unfold badM at hb
    simp at hb
    refine ⟨by simp; omega, fun x hx => ?_, ?_⟩
    · simp at hx
      rcases hx with hx | rfl
      · exact hg.rng x hx
      · omega
    · rw [List.pairwise_append]
      refine ⟨hg.key, by simp, fun x hx y hy => ?_⟩
      simp at hy
      subst hy
      intro hk
      have := hr x hx
      rw [Bool.eq_false_iff] at this
      exact this ((isAt_key y.a y.p x).2 hk)
theorem good_keep (pr : Mp → Bool) {L : List Mp} (h : Good L) : Good (keepL pr L) := good_sub h List.filter_sublist
theorem drop_keep (a p : Nat) {L : List Mp} (h : Good L) : keepL (isAt a p) L = dropL a p L := by
  unfold dropL
  cases hq : L.findIdx? (isAt a p) with
  | none => exact keepL_same (List.findIdx?_eq_none_iff.1 hq)
  | some i =>
    obtain ⟨m, hm, hp, hno⟩ := findIdx_spec _ L i hq
    obtain ⟨hi, he⟩ := List.getElem?_eq_some_iff.1 hm
    have hd : L.drop i = m :: L.drop (i + 1) := by rw [← he]; exact List.drop_eq_getElem_cons hi
    have hn2 := erase_no h.key hm hp
    simp only
    rw [List.eraseIdx_eq_take_drop_succ]
    rw [List.eraseIdx_eq_take_drop_succ] at hn2
    conv => lhs; rw [← List.take_append_drop i L, hd]
    unfold keepL
    rw [List.filter_append, List.filter_cons]
    simp only [hp, Bool.not_true, Bool.false_eq_true, if_false]
    congr 1
    · exact keepL_same hno
    · exact keepL_same (fun y hy => hn2 y (by simp [hy]))
theorem drop_bool (a p : Nat) {L : List Mp} (h : Good L) : decide (0 < L.length - (keepL (isAt a p) L).length) = (L.findIdx? (isAt a p)).isSome := by
  rw [drop_keep a p h]
  unfold dropL
  cases hq : L.findIdx? (isAt a p) with
  | none => simp
  | some i =>
    obtain ⟨m, hm, _⟩ := findIdx_spec _ L i hq
    have hi := (List.getElem?_eq_some_iff.1 hm).1
    simp only [Option.isSome_some, decide_eq_true_eq]
    rw [List.length_eraseIdx, if_pos hi]
    omega
theorem good_prot (a p : Nat) (b : Bool) {L : List Mp} (h : Good L) : Good (protL a p b L) := by
  unfold protL
  cases hq : L.findIdx? (isAt a p) with
  | none => exact h
  | some i =>
    obtain ⟨m, hm, _⟩ := findIdx_spec _ L i hq
    obtain ⟨hi, he⟩ := List.getElem?_eq_some_iff.1 hm
    simp only [hm, Option.getD_some]
    refine ⟨by rw [List.length_set]; exact h.len, fun x hx => ?_, ?_⟩
    · rcases List.mem_or_eq_of_mem_set hx with hx | rfl
      · exact h.rng x hx
      · exact h.rng m (List.mem_of_getElem? hm)
    · have hk := h.key
      rw [List.pairwise_iff_getElem] at hk ⊢
      intro x y hx hy hxy
      rw [List.length_set] at hx hy
      have hg : ∀ k (hk : k < L.length) (hk2 : k < (L.set i { m with w := b }).length), keyM (L.set i { m with w := b })[k] = keyM L[k] := by
        intro k hk hk2
        rw [List.getElem_set]
        split
        · subst i
          rw [he]
          rfl
        · rfl
      rw [hg x hx, hg y hy]
      exact hk x y hx hy hxy
theorem find_bound (a p : Nat) {L : List Mp} (h : Good L) : (findM a p L).f < 256 := by
  unfold findM
  cases hq : L.find? (isAt a p) with
  | none => simp [mz]
  | some m => have := (h.rng m (List.mem_of_find?_eq_some hq)).2; simp; omega
theorem insV_shape (m : Mp) (L : List Mp) : ∃ (g : Mp) (d : Bool) (e : Nat), insV m L = .tuple #[.agg (encM g).toArray, .bool d, .int .i64 (e : Int)] := by
  unfold insV
  split
  · exact ⟨_, _, 2, rfl⟩
  · exact ⟨_, _, 0, rfl⟩

/-- From B on alone the memory may have turned. -/
def From (B : Nat) (w w' : World) : Prop := ∃ S, (∀ s, s ∈ S → B ≤ s) ∧ Upd S w w'
theorem From.of0 {B : Nat} {w w' : World} (h : Upd [] w w') : From B w w' := ⟨[], by simp, h⟩
theorem From.trans {B : Nat} {w w1 w2 : World} (h : From B w w1) (k : From B w1 w2) : From B w w2 := by
  obtain ⟨S, h1, h2⟩ := h
  obtain ⟨S', k1, k2⟩ := k
  refine ⟨S ++ S', fun s hs => ?_, (h2.mono (fun s hs => .inl (by simp [hs]))).trans k2 (fun s hs => .inl (by simp [hs]))⟩
  simp at hs
  rcases hs with hs | hs
  · exact h1 s hs
  · exact k1 s hs
theorem From.upd {B : Nat} {w0 w w' : World} (h : From B w w') (hu : Upd [] w0 w) (hB : w0.heap.size ≤ B) : Upd [] w0 w' := by
  obtain ⟨S, h1, h2⟩ := h
  exact hu.trans h2 (fun s hs => .inr (Nat.le_trans hB (h1 s hs)))

/-- The program's table at t holds L1, the reference's at r holds L2; all from B on. -/
structure Half (w : World) (B t r : Nat) (o1 o2 : List Nat) (L1 L2 : List Mp) : Prop where
  tab : At TlbT w t o1 L1
  ref : At RefT w r o2 L2
  dis : ∀ g, g ∈ o1 → g ∉ o2
  bt : B ≤ t
  br : B ≤ r
  b1 : ∀ g, g ∈ o1 → B ≤ g
  b2 : ∀ g, g ∈ o2 → B ≤ g
section
variable {w w' : World} {B t r : Nat} {o1 o2 : List Nat} {L1 L2 L' : List Mp} {V : Value} {e : Ending}
theorem Half.upd0 (h : Half w B t r o1 o2 L1 L2) (hu : Upd [] w w') : Half w' B t r o1 o2 L1 L2 := ⟨h.tab.upd0 hu, h.ref.upd0 hu, h.dis, h.bt, h.br, h.b1, h.b2⟩
theorem At.blk {T : TypeId} {own : List Nat} {L : List Mp} (h : At T w t own L) : ∃ cs, Blk w t T cs := by
  obtain ⟨A, cap, hb, _⟩ := h
  exact ⟨_, hb⟩
theorem Half.ne (h : Half w B t r o1 o2 L1 L2) : t ≠ r := by
  obtain ⟨_, h1⟩ := h.tab.blk
  obtain ⟨_, h2⟩ := h.ref.blk
  exact h1.ne_ h2 (by decide)
theorem Half.tout (h : Half w B t r o1 o2 L1 L2) : t ∉ o2 := by
  obtain ⟨_, h1⟩ := h.tab.blk
  exact h.ref.out h1 (by decide)
theorem Half.rout (h : Half w B t r o1 o2 L1 L2) : r ∉ o1 := by
  obtain ⟨_, h1⟩ := h.ref.blk
  exact h.tab.out h1 (by decide)
theorem Half.first (h : Half w B t r o1 o2 L1 L2) (c : Chg TlbT t o1 w V L' e w') : ∃ o1', e = .returned V ∧ Half w' B t r o1' o2 L' L2 ∧ From B w w' := by
  obtain ⟨o1', he, hat, ho, hu⟩ := c
  have hr2 := h.ref.ownlt
  have hBw : B ≤ w.heap.size := Nat.le_trans h.bt (Nat.le_of_lt h.tab.lt)
  have hd := h.dis
  have hto := h.tout
  refine ⟨o1', he, ⟨hat, h.ref.upd hu ?_ ?_, ?_, h.bt, h.br, ?_, h.b2⟩, t :: o1, ?_, hu⟩
  · simp
    exact ⟨fun hh => h.ne hh.symm, h.rout⟩
  · intro g hg hs
    simp at hs
    rcases hs with rfl | hs
    · exact hto hg
    · exact hd g hs hg
  · intro g hg hg2
    rcases ho g hg with hh | hh
    · exact hd g hh hg2
    · have := hr2 g hg2; omega
  · intro g hg
    rcases ho g hg with hh | hh
    · exact h.b1 g hh
    · omega
  · intro s hs
    simp at hs
    rcases hs with rfl | hs
    · exact h.bt
    · exact h.b1 s hs
theorem Half.second (h : Half w B t r o1 o2 L1 L2) (c : Chg RefT r o2 w V L' e w') : ∃ o2', e = .returned V ∧ Half w' B t r o1 o2' L1 L' ∧ From B w w' := by
  obtain ⟨o2', he, hat, ho, hu⟩ := c
  have hr1 := h.tab.ownlt
  have hBw : B ≤ w.heap.size := Nat.le_trans h.bt (Nat.le_of_lt h.tab.lt)
  have hd := h.dis
  have hro := h.rout
  refine ⟨o2', he, ⟨h.tab.upd hu ?_ ?_, hat, ?_, h.bt, h.br, h.b1, ?_⟩, r :: o2, ?_, hu⟩
  · simp
    exact ⟨h.ne, h.tout⟩
  · intro g hg hs
    simp at hs
    rcases hs with rfl | hs
    · exact hro hg
    · exact hd g hg hs
  · intro g hg hg2
    rcases ho g hg2 with hh | hh
    · exact hd g hg hh
    · have := hr1 g hg; omega
  · intro g hg
    rcases ho g hg with hh | hh
    · exact h.b2 g hh
    · omega
  · intro s hs
    simp at hs
    rcases hs with rfl | hs
    · exact h.br
    · exact h.b2 s hs
end
def Both (w : World) (B t r : Nat) (L : List Mp) : Prop := (∃ o1 o2, Half w B t r o1 o2 L L) ∧ Good L
theorem Both.upd0 {w w' : World} {B t r : Nat} {L : List Mp} (h : Both w B t r L) (hu : Upd [] w w') : Both w' B t r L := by
  obtain ⟨⟨o1, o2, h⟩, hg⟩ := h
  exact ⟨⟨o1, o2, h.upd0 hu⟩, hg⟩
/-- What lies from B2 on may turn. -/
theorem Both.from {w w' : World} {B B2 t r : Nat} {L : List Mp} (h : Both w B t r L) (hf : From B2 w w') (hB : w.heap.size ≤ B2) : Both w' B t r L := h.upd0 (hf.upd (Upd.refl [] w) hB)

end Go.Proofs.Ytefjppebohnmjaa
