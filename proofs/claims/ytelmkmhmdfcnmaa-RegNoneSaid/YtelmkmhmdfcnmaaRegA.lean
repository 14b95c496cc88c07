/- Maps with integer keys: what a look-up, a store and a delete do. -/
import Derived.Test.YtelmkmhmdfcnmaaRows
import Derived.Test.YtelmkmhmdfcnmaaLib
import Derived.Maps.OwnOps
import Derived.Maps.OwnSet
namespace Go.Proofs.Ytelmkmhmdfcnmaa
open Go.RowKit Go.Maps Go.ChangeMaps

/-- Block b is a map with integer keys of kind q that holds f. -/
def MapAt (w : World) (b : Nat) (q : IntKind) (f : Int → Option Value) : Prop :=
  ∃ (es : Array MapEntry) (clock : Nat), w.heap[b]? = some (.map es clock) ∧ (∀ e, e ∈ es.toList → ∃ k, e.key = .int q k ∧ (Lit.int q k).wf = true) ∧ es.toList.Pairwise (fun x y => x.key ≠ y.key) ∧
    ∀ k v, f k = some v ↔ ∃ e, e ∈ es.toList ∧ e.key = .int q k ∧ e.val = v
section
variable {w w' : World} {b : Nat} {q : IntKind} {f : Int → Option Value} {S : List Nat}
theorem MapAt.lt (h : MapAt w b q f) : b < w.heap.size := by
  obtain ⟨es, clock, hb, _⟩ := h
  rcases Nat.lt_or_ge b w.heap.size with hlt | hge
  · exact hlt
  · rw [Array.getElem?_eq_none hge] at hb; cases hb
theorem MapAt.upd (h : MapAt w b q f) (hu : Upd S w w') (hS : b ∉ S) : MapAt w' b q f := by
  have hl := h.lt
  obtain ⟨es, clock, hb, h1, h2, h3⟩ := h
  exact ⟨es, clock, (hu.block b hl hS).trans hb, h1, h2, h3⟩
theorem MapAt.ne {g : Nat} {t : TypeId} {cs : Array Value} (h : MapAt w b q f) (hb : Blk w g t cs) : g ≠ b := by
  obtain ⟨es, clock, hm, _⟩ := h
  rintro rfl
  unfold Blk at hb
  rw [hm] at hb
  cases hb
theorem MapAt.new (w : World) (q : IntKind) : MapAt (w.alloc (.map #[] 0)) w.heap.size q (fun _ => none) :=
  ⟨#[], 0, heap_alloc_new w _, by simp, by simp, by simp⟩
end

theorem int_eq {q : IntKind} {a b : Int} (h : Value.int q a = Value.int q b) : a = b := by injection h
theorem pair_uniq {es : List MapEntry} (h : es.Pairwise (fun x y => x.key ≠ y.key)) {i j : Nat} {x y : MapEntry} (hi : es[i]? = some x) (hj : es[j]? = some y) (hk : x.key = y.key) : i = j := by
  obtain ⟨hi1, rfl⟩ := List.getElem?_eq_some_iff.1 hi
  obtain ⟨hj1, rfl⟩ := List.getElem?_eq_some_iff.1 hj
  rw [List.pairwise_iff_getElem] at h
  rcases Nat.lt_trichotomy i j with h1 | h1 | h1
  · exact absurd hk (h i j hi1 hj1 h1)
  · exact h1
  · exact absurd hk.symm (h j i hj1 hi1 h1)
theorem upd_set (w : World) (b : Nat) (o : Obj) : Upd [b] w (setBlock w b o) :=
  ⟨rfl, rfl, rfl, by simp [setBlock], fun i _ hn => by
    simp at hn
    simp only [setBlock]
    rw [Array.getElem?_setIfInBounds_ne (fun h => hn h.symm)]⟩
theorem heap_setB {w : World} {b : Nat} {o o' : Obj} (h : w.heap[b]? = some o) : (setBlock w b o').heap[b]? = some o' := (MapKept.heap_set (o' := o') h).1

section
variable {P : Program} {w : World} {b : Nat} {q : IntKind} {f : Int → Option Value} {t kt e : TypeId}
theorem MapAt.find (h : MapAt w b q f) (hk : P.underlying kt = some (.int q)) (k : Int) (hw : (Lit.int q k).wf = true) : ∃ es clock, w.heap[b]? = some (.map es clock) ∧
    (((Instr.findKey kt (.int q k) es.toList).run P w = .ok none w ∧ f k = none) ∨ ∃ j e0, (Instr.findKey kt (.int q k) es.toList).run P w = .ok (some (j, e0.val)) w ∧ es.toList[j]? = some e0 ∧ e0.key = .int q k ∧ f k = some e0.val) := by
  obtain ⟨es, clock, hb, h1, h2, h3⟩ := h
  refine ⟨es, clock, hb, ?_⟩
  rcases (int_keyed hk).find w (keyOf_int_mk hk hw) es.toList (fun x hx => by
    obtain ⟨k', e1, e2⟩ := h1 x hx
    exact ⟨_, by rw [e1]; exact keyOf_int_mk hk e2⟩) with ⟨g1, g2⟩ | ⟨j, e0, g1, g2, g3⟩
  · left
    refine ⟨g1, ?_⟩
    cases hq : f k with
    | none => rfl
    | some v =>
      obtain ⟨x, hx, hkx, _⟩ := (h3 k v).1 hq
      exact absurd hkx (g2 x hx)
  · exact .inr ⟨j, e0, g1, g2, g3, (h3 k e0.val).2 ⟨e0, List.mem_of_getElem? g2, g3, rfl⟩⟩
theorem MapAt.look (h : MapAt w b q f) (hk : P.underlying kt = some (.int q)) (ht : P.underlying t = some (.map kt e)) {z : Value} (hz : (zeroValue e).run P w = .ok z w) (k : Int) (hw : (Lit.int q k).wf = true) (c : Bool) :
    (Instr.lookup t (.map (some b)) (.int q k) c).run P w = .ok (if c then .tuple #[(f k).getD z, .bool (f k).isSome] else (f k).getD z) w := by
  have K := int_keyed hk
  obtain ⟨es, clock, hb, hf⟩ := h.find hk k hw
  rcases hf with ⟨g1, g2⟩ | ⟨j, e0, g1, _, _, g2⟩
  · simp [Instr.lookup, run_underlying ht, MapKept.run_getObj_map hb, K.check w _ (keyOf_int_mk hk hw), g1, g2, hz, Result.andThen]
  · simp [Instr.lookup, run_underlying ht, MapKept.run_getObj_map hb, K.check w _ (keyOf_int_mk hk hw), g1, g2, Result.andThen]
theorem modify_set {α : Type} (l : Array α) (j : Nat) (g : α → α) (x : α) (h : l.toList[j]? = some x) : (l.modify j g).toList = l.toList.set j (g x) := by rw [Array.toList_modify, modify_eq_set _ _ _ _ h]
theorem MapAt.store (h : MapAt w b q f) (hk : P.underlying kt = some (.int q)) (ht : P.underlying t = some (.map kt e)) (k : Int) (hw : (Lit.int q k).wf = true) (v : Value) :
    ∃ w', (Instr.mapUpdate t (.map (some b)) (.int q k) v).run P w = .ok () w' ∧ MapAt w' b q (fun j => if j = k then some v else f j) ∧ Upd [b] w w' := by
  have K := int_keyed hk
  obtain ⟨es0, clock0, hb0, h1, h2, h3⟩ := id h
  obtain ⟨es, clock, hb, hf⟩ := h.find hk k hw
  rw [hb] at hb0
  injection hb0 with hb0
  injection hb0 with he hc
  subst he hc
  rcases hf with ⟨g1, g2⟩ | ⟨j, e0, g1, g3, g4, g2⟩
  · refine ⟨setBlock w b (.map (es.push ⟨.int q k, v, clock⟩) (clock + 1)), ?_, ⟨_, _, heap_setB hb, ?_, ?_, ?_⟩, upd_set _ _ _⟩
    · simp [Instr.mapUpdate, run_underlying ht, MapKept.run_getObj_map hb, K.check w false (keyOf_int_mk hk hw), g1, MapKept.run_setObj_map _ hb, Result.andThen, setBlock]
    · intro x hx
      simp at hx
      rcases hx with hx | rfl
      · exact h1 x (by simpa using hx)
      · exact ⟨k, rfl, hw⟩
    · rw [Array.toList_push, List.pairwise_append]
      refine ⟨h2, by simp, fun x hx y hy => ?_⟩
      simp at hy
      subst hy
      intro hkx
      have := (h3 k x.val).2 ⟨x, hx, hkx, rfl⟩
      rw [g2] at this
      cases this
    · intro j u
      simp only [Array.toList_push, List.mem_append, List.mem_singleton]
      by_cases hj : j = k
      · subst hj
        simp only [eq_self]
        constructor
        · intro hu
          injection hu with hu
          exact ⟨_, .inr rfl, rfl, hu⟩
        · rintro ⟨x, hx | rfl, hkx, hvx⟩
          · have := (h3 j x.val).2 ⟨x, hx, hkx, rfl⟩
            rw [g2] at this
            cases this
          · rw [← hvx]; simp
      · simp only [if_neg hj]
        rw [h3 j u]
        constructor
        · rintro ⟨x, hx, h4, h5⟩
          exact ⟨x, .inl hx, h4, h5⟩
        · rintro ⟨x, hx | rfl, h4, h5⟩
          · exact ⟨x, hx, h4, h5⟩
          · exact absurd (int_eq h4).symm hj
  · have hjl := (List.getElem?_eq_some_iff.1 g3).1
    have hj0 : es[j]? = some e0 := by simpa using g3
    have hlist := modify_set es j (fun e' => { e' with key := .int q k, val := v }) e0 g3
    have hin : ∀ x, x ∈ es.toList.set j { e0 with key := .int q k, val := v } ↔ x = { e0 with key := .int q k, val := v } ∨ (x ∈ es.toList ∧ x.key ≠ .int q k) := by
      intro x
      constructor
      · intro hx
        obtain ⟨i, hi, ex⟩ := List.getElem_of_mem hx
        rw [List.getElem_set] at ex
        split at ex
        · exact .inl ex.symm
        · rename_i hne
          have hi' : i < es.toList.length := by simpa using hi
          refine .inr ⟨ex ▸ List.getElem_mem hi', fun hkx => hne ?_⟩
          exact pair_uniq h2 g3 (List.getElem?_eq_some_iff.2 ⟨hi', ex⟩) (by rw [g4, hkx])
      · rintro (rfl | ⟨hx, hne⟩)
        · exact List.mem_iff_getElem.2 ⟨j, by simpa using hjl, by simp⟩
        · obtain ⟨i, hi, ex⟩ := List.getElem_of_mem hx
          refine List.mem_iff_getElem.2 ⟨i, by simpa using hi, ?_⟩
          rw [List.getElem_set_ne]
          · exact ex
          · rintro rfl
            apply hne
            obtain ⟨hq, hq2⟩ := List.getElem?_eq_some_iff.1 g3
            rw [← ex, hq2, g4]
    refine ⟨setBlock w b (.map (es.modify j (fun e' => { e' with key := .int q k, val := v })) clock), ?_, ⟨_, _, heap_setB hb, ?_, ?_, ?_⟩, upd_set _ _ _⟩
    · simp [Instr.mapUpdate, run_underlying ht, MapKept.run_getObj_map hb, K.check w false (keyOf_int_mk hk hw), g1, hj0, g4, K.stays w (keyOf_int_mk hk hw), MapKept.run_setObj_map _ hb, Result.andThen, setBlock]
    · intro x hx
      rw [hlist, hin] at hx
      rcases hx with rfl | ⟨hx, _⟩
      · exact ⟨k, rfl, hw⟩
      · exact h1 x hx
    · rw [hlist]
      rw [List.pairwise_iff_getElem]
      intro x y hx hy hxy hkk
      have hx' : x < es.toList.length := by simpa using hx
      have hy' : y < es.toList.length := by simpa using hy
      have hg : ∀ i (hi : i < es.toList.length) (hi2 : i < (es.toList.set j { e0 with key := .int q k, val := v }).length), (es.toList.set j { e0 with key := .int q k, val := v })[i].key = es.toList[i].key := by
        intro i hi hi2
        rw [List.getElem_set]
        split
        · rename_i hji
          subst hji
          obtain ⟨hq, hq2⟩ := List.getElem?_eq_some_iff.1 g3
          rw [hq2, g4]
        · rfl
      rw [hg x hx' hx, hg y hy' hy] at hkk
      have := pair_uniq h2 (List.getElem?_eq_getElem hx') (List.getElem?_eq_getElem hy') hkk
      omega
    · intro i u
      rw [hlist]
      by_cases hj : i = k
      · subst hj
        simp only [eq_self]
        constructor
        · intro hu
          injection hu with hu
          exact ⟨_, (hin _).2 (.inl rfl), rfl, hu⟩
        · rintro ⟨x, hx, hkx, hvx⟩
          rcases (hin x).1 hx with rfl | ⟨_, hne⟩
          · rw [← hvx]; simp
          · exact absurd hkx hne
      · simp only [if_neg hj]
        rw [h3 i u]
        constructor
        · rintro ⟨x, hx, h4, h5⟩
          exact ⟨x, (hin x).2 (.inr ⟨hx, by rw [h4]; exact fun hh => hj (int_eq hh)⟩), h4, h5⟩
        · rintro ⟨x, hx, h4, h5⟩
          rcases (hin x).1 hx with rfl | ⟨hx, _⟩
          · exact absurd (int_eq h4).symm hj
          · exact ⟨x, hx, h4, h5⟩
theorem MapAt.drop (h : MapAt w b q f) (hk : P.underlying kt = some (.int q)) (ht : P.underlying t = some (.map kt e)) (k : Int) (hw : (Lit.int q k).wf = true) :
    ∃ w', (∀ ty, (Builtin.delete_ #[t, kt] ty #[.map (some b), .int q k]).run P w = .ok (.tuple #[]) w') ∧ MapAt w' b q (fun j => if j = k then none else f j) ∧ Upd [b] w w' := by
  have K := int_keyed hk
  obtain ⟨es0, clock0, hb0, h1, h2, h3⟩ := id h
  obtain ⟨es, clock, hb, hf⟩ := h.find hk k hw
  rw [hb] at hb0
  injection hb0 with hb0
  injection hb0 with he hc
  subst he hc
  rcases hf with ⟨g1, g2⟩ | ⟨j, e0, g1, g3, g4, g2⟩
  · refine ⟨setBlock w b (.map es clock), fun ty => ?_, ⟨_, _, heap_setB hb, h1, h2, fun i u => ?_⟩, upd_set _ _ _⟩
    · simp [Builtin.delete_, run_underlying ht, MapKept.run_getObj_map hb, K.check w _ (keyOf_int_mk hk hw), g1, MapKept.run_setObj_map _ hb, Result.andThen, setBlock]
    · by_cases hj : i = k
      · subst hj
        rw [← h3, g2]
        simp
      · simp only [if_neg hj]
        exact h3 i u
  · have hjl := (List.getElem?_eq_some_iff.1 g3).1
    have hjs : j < es.size := by simpa using hjl
    have hsub : (es.eraseIdxIfInBounds j).toList = es.toList.eraseIdx j := by
      unfold Array.eraseIdxIfInBounds
      rw [dif_pos hjs]
      simp
    have hin : ∀ x, x ∈ es.toList.eraseIdx j ↔ x ∈ es.toList ∧ x.key ≠ .int q k := by
      intro x
      rw [List.mem_eraseIdx_iff_getElem?]
      constructor
      · rintro ⟨i, hne, hi⟩
        exact ⟨List.mem_of_getElem? hi, fun hkx => hne (pair_uniq h2 hi g3 (by rw [g4, hkx]))⟩
      · rintro ⟨hx, hne⟩
        obtain ⟨i, hi, ex⟩ := List.getElem_of_mem hx
        refine ⟨i, ?_, List.getElem?_eq_some_iff.2 ⟨hi, ex⟩⟩
        rintro rfl
        obtain ⟨hq, hq2⟩ := List.getElem?_eq_some_iff.1 g3
        exact hne (by rw [← ex, hq2, g4])
    refine ⟨setBlock w b (.map (es.eraseIdxIfInBounds j) clock), fun ty => ?_, ⟨_, _, heap_setB hb, ?_, ?_, ?_⟩, upd_set _ _ _⟩
    · simp [Builtin.delete_, run_underlying ht, MapKept.run_getObj_map hb, K.check w _ (keyOf_int_mk hk hw), g1, MapKept.run_setObj_map _ hb, Result.andThen, setBlock]
    · intro x hx
      rw [hsub, hin] at hx
      exact h1 x hx.1
    · rw [hsub]
      exact h2.sublist (List.eraseIdx_sublist _ _)
    · intro i u
      rw [hsub]
      by_cases hj : i = k
      · subst hj
        simp only [eq_self]
        constructor
        · intro hu; cases hu
        · rintro ⟨x, hx, hkx, _⟩
          exact absurd hkx ((hin x).1 hx).2
      · simp only [if_neg hj]
        rw [h3 i u]
        constructor
        · rintro ⟨x, hx, h4, h5⟩
          exact ⟨x, (hin x).2 ⟨hx, by rw [h4]; exact fun hh => hj (int_eq hh)⟩, h4, h5⟩
        · rintro ⟨x, hx, h4, h5⟩
          exact ⟨x, ((hin x).1 hx).1, h4, h5⟩
end

end Go.Proofs.Ytelmkmhmdfcnmaa
