/- Protect: both. -/
import Derived.Test.YtefjppebohnmjaaTlbO
namespace Go.Proofs.Ytefjppebohnmjaa
open Go.RowKit Go.Shelf

theorem flatM_cons (m : Mp) (L : List Mp) : flatM (m :: L) = encM m ++ flatM L := rfl
theorem flatM_set : ∀ (L : List Mp) (i : Nat) (m : Mp) (b : Bool), L[i]? = some m → flatM (L.set i { m with w := b }) = (flatM L).set (i * 4 + 3) (.bool b) := by
  intro L
  induction L with
  | nil => intro i m b h; simp at h
  | cons x L ih =>
    intro i m b h
    cases i with
    | zero =>
      simp at h
      subst h
      rfl
    | succ i =>
      rw [List.set_cons_succ, flatM_cons, flatM_cons, List.set_append_right _ _ (by rw [encM_length]; omega), encM_length, ih i m b (by simpa using h), show (i + 1) * 4 + 3 - 4 = i * 4 + 3 by omega]
theorem RowAt.set {w : World} {g cap : Nat} {L : List Mp} (h : RowAt w g cap L) (i : Nat) (m : Mp) (hm : L[i]? = some m) (b : Bool) : RowAt (w.setCell ⟨g, i * 4 + 3, none⟩ (.bool b)) g cap (L.set i { m with w := b }) := by
  have hi := (List.getElem?_eq_some_iff.1 hm).1
  obtain ⟨cur, hb, h1, h2, h3, h4⟩ := h
  refine ⟨cur.set (i * 4 + 3) (.bool b), ?_, by rw [List.length_set]; exact h1, h2, by rw [List.length_set]; exact h3, ?_⟩
  · have := hb.set_ (i * 4 + 3) (.bool b)
    simpa using this
  · rw [List.length_set, flatM_set L i m b hm, ← h4, List.take_set]
theorem RowAt.cell3 {w : World} {g cap : Nat} {L : List Mp} (h : RowAt w g cap L) (i : Nat) (m : Mp) (hm : L[i]? = some m) : w.cell? ⟨g, i * 4 + 3, none⟩ = some (.bool m.w) ∧ w.frozen? ⟨g, i * 4 + 3, none⟩ = false := by
  have hi := (List.getElem?_eq_some_iff.1 hm).1
  obtain ⟨b, o, hbo, hcs⟩ := h.reads (by omega)
  simp at hbo
  obtain ⟨rfl, rfl⟩ := hbo
  have := hcs i m hm 3 (.bool m.w) rfl
  rw [Nat.zero_add] at this
  obtain ⟨cur, hb, _⟩ := h
  exact ⟨this, hb.frozen _⟩
theorem row_some {w : World} {A : Option Addr} {cap : Nat} {L : List Mp} (h : Row w A cap L) (hl : 0 < L.length) : ∃ g, A = some ⟨g, 0, none⟩ ∧ RowAt w g cap L := by
  rcases h with ⟨_, _, rfl⟩ | h
  · simp at hl
  · exact h
theorem fresh_le {w : World} {g : Nat} {o : Obj} (h : g ∈ ownA (some (⟨w.heap.size, 0, none⟩ : Addr)) ∨ (w.alloc o).heap.size ≤ g) : w.heap.size ≤ g := by
  rcases h with h | h
  · simp [ownA] at h; omega
  · simp at h; omega
def protL (a p : Nat) (b : Bool) (L : List Mp) : List Mp := match L.findIdx? (isAt a p) with
  | some i => L.set i { (L[i]?).getD mz with w := b }
  | none => L

set_option maxRecDepth 100000 in
set_option maxHeartbeats 2000000 in
theorem prot_any (t : Nat) (own : List Nat) (L : List Mp) (w : World) (h : At TlbT w t own L) (a p : Nat) (b : Bool) :
    Calls Try.prog 26 #[.pointer (some ⟨t, 0, none⟩), .int .u8 a, .int .u8 p, .bool b] w (Chg TlbT t own w (.bool (L.findIdx? (isAt a p)).isSome) (protL a p b L)) := by
  have HA := Lib.hid h
  have hlt := h.lt
  have hol := h.ownlt
  obtain ⟨A, cap, hv⟩ := h.v
  have HAt := Lib.hid (at_any t A cap L w hv a p)
  rw [idx_def] at HAt
  unfold protL
  clear h hv A cap
  cases hq : L.findIdx? (isAt a p) with
  | none =>
    rw [hq] at HAt
    simp only at HAt
    clear hq
    go_enter Try.func26, Try.ntmps26
    go_wp2_with fail
    refine HAt.out.mono ?_; rintro e w1 ⟨rfl, hu1⟩
    have HU1 := Lib.hid hu1
    clear hu1
    go_wp2_with fail
    go_ret
    exact ⟨own, by simp, HA.out.upd0 HU1.out, fun g hg => .inl hg, HU1.out.zero _⟩
  | some i =>
    rw [hq] at HAt
    simp only at HAt
    obtain ⟨m, hm, _⟩ := findIdx_spec _ L i hq
    have hil := (List.getElem?_eq_some_iff.1 hm).1
    have HM := Lib.hid hm
    obtain ⟨A, cap, hb, hr, hown, hl⟩ := HA.out
    have hta : t ∉ ownA A := hown ▸ HA.out.out hb (by decide)
    obtain ⟨g, rfl, hr1⟩ : ∃ g, A = some ⟨g, 0, none⟩ ∧ RowAt w g cap L := by
      rcases hr with ⟨_, _, rfl⟩ | hr
      · simp at hil
      · exact hr
    have i0 : (0 : Int) ≤ (i : Int) := by omega
    have i1 : (i : Int) < (L.length : Int) := by omega
    have HB := Lib.hid hb
    have HR := Lib.hid hr1
    have HOW := Lib.hid hown
    have HTA := Lib.hid hta
    have HS : Hid ((L.set i { (L[i]?).getD mz with w := b }).length = L.length) := Lib.hid (by rw [List.length_set])
    generalize hn : L.length = n at *
    have HN := Lib.hid hn
    clear hq hm hb hr hr1 hta hown hn
    go_enter Try.func26, Try.ntmps26
    go_wp2_with fail
    refine HAt.out.mono ?_; rintro e w1 ⟨rfl, hu1⟩
    have hb1 := HB.out.upd hu1 (by simp)
    have hc1 := hb1.cellAt (i := 0) rfl
    simp only [List.getElem_toArray, List.getElem_cons_zero] at hc1
    have hr1 := HR.out.upd hu1 (by simp)
    obtain ⟨hc3, hf3⟩ := hr1.cell3 i m HM.out
    have HB1 := Lib.hid hb1
    have HR1 := Lib.hid hr1
    have HU1 := Lib.hid hu1
    clear hu1 hb1 hr1
    go_wp2_with fail
    go_ret
    have htg : t ≠ g := by have := HTA.out; simp [ownA] at this; exact this
    refine ⟨[g], by simp, ⟨some ⟨g, 0, none⟩, cap, ?_, .inr ⟨g, rfl, ?_⟩, rfl, by rw [HS.out]; exact hl⟩, fun k hk => .inl (by rw [HOW.out]; simpa [ownA] using hk), (HU1.out.zero _).setCell (.inl (by rw [HOW.out]; simp [ownA])) _⟩
    · rw [HS.out]
      exact HB1.out.far (by simp; exact htg) _
    · rw [HM.out]
      exact HR1.out.set i m HM.out b

set_option maxRecDepth 100000 in
set_option maxHeartbeats 2000000 in
theorem rprot_any (t : Nat) (own : List Nat) (L : List Mp) (w : World) (h : At RefT w t own L) (a p : Nat) (b : Bool) :
    Calls Try.prog 40 #[.pointer (some ⟨t, 0, none⟩), .int .u8 a, .int .u8 p, .bool b] w (Chg RefT t own w (.bool (L.findIdx? (isAt a p)).isSome) (protL a p b L)) := by
  have HA := Lib.hid h
  have hlt := h.lt
  have hol := h.ownlt
  have HAt := Lib.hid (rat_any t own L w h a p)
  rw [idx_def] at HAt
  unfold protL
  clear h
  cases hq : L.findIdx? (isAt a p) with
  | none =>
    rw [hq] at HAt
    simp only at HAt
    clear hq
    go_enter Try.func40, Try.ntmps40
    go_wp2_with fail
    refine HAt.out.mono ?_; rintro e w1 ⟨rfl, hu1⟩
    have HU1 := Lib.hid hu1
    clear hu1
    go_wp2_with fail
    go_ret
    exact ⟨own, by simp, HA.out.upd0 HU1.out, fun g hg => .inl hg, HU1.out.zero _⟩
  | some i =>
    rw [hq] at HAt
    simp only at HAt
    obtain ⟨m, hm, _⟩ := findIdx_spec _ L i hq
    have hil := (List.getElem?_eq_some_iff.1 hm).1
    have HM := Lib.hid hm
    obtain ⟨A, cap, hb, hr, hown, hl⟩ := HA.out
    have i0 : (0 : Int) ≤ (i : Int) := by omega
    have i1 : (i : Int) < (L.length : Int) := by omega
    have HB := Lib.hid hb
    have HX := Lib.hid hr.xs
    have HS : Hid ((L.set i { (L[i]?).getD mz with w := b }).length = L.length) := Lib.hid (by rw [List.length_set])
    have hc0 := hb.cellAt (i := 0) rfl
    simp only [List.getElem_toArray, List.getElem_cons_zero] at hc0
    generalize hn : L.length = n at *
    have HN := Lib.hid hn
    clear hq hm hb hr hown hn hc0
    go_enter Try.func40, Try.ntmps40
    go_wp2_with fail
    refine HAt.out.mono ?_; rintro e w1 ⟨rfl, hu1⟩
    have hb1 := HB.out.upd hu1 (by simp)
    have hc1 := (hb1.alloc (.cells #[] 24)).cellAt (i := 0) rfl
    simp only [List.getElem_toArray, List.getElem_cons_zero] at hc1
    have HX1 := Lib.hid ((HX.out.upd hu1 (by simp)).upd ((Upd.refl [] w1).alloc (.cells #[] MapT)) (by simp))
    have HB1 := Lib.hid hb1
    have HU1 := Lib.hid hu1
    have hsz1 := hu1.size
    clear hu1 hb1
    go_wp2_with (refine wpList_app rfl _ _ rfl (some ⟨w1.heap.size, 0, none⟩) 0 0 [] rfl rfl (Row.new w1) _ rfl n L HX1.out (by omega) ?_; intro A2 cap2 w2 hr2 hu2 ho2; rw [Nat.zero_add]; obtain ⟨g, rfl, hrg⟩ := row_some hr2 (show 0 < L.length by rw [HN.out]; omega); obtain ⟨hc3, hf3⟩ := hrg.cell3 i m HM.out; have hgl : w1.heap.size ≤ g := fresh_le (ho2 g (by simp [ownA])); have htg : t ≠ g := Nat.ne_of_lt (Nat.lt_of_lt_of_le hlt (Nat.le_trans hsz1 hgl)); have hb2 := (HB1.out.alloc (.cells #[] MapT)).upd hu2 (by simp [ownA]; have := HB1.out.lt; omega); have hb3 := hb2.far (p := ⟨g, i * 4 + 3, none⟩) htg (.bool b); have hc4 := hb3.cellAt (i := 0) rfl; have hf4 := hb3.frozen 0; have HB3 := Lib.hid hb3; have HR2 := Lib.hid hrg; have HU2 := Lib.hid (HU1.out.trans (((Upd.refl [] w1).alloc (.cells #[] MapT)).trans hu2 (by intro s hs; simp [ownA] at hs; right; omega)) (by simp)); have HTG := Lib.hid htg; have HGL := Lib.hid hgl; clear hr2 hu2 ho2 hrg hb2 hb3 htg hgl)
    go_ret
    have htg := HTG.out
    have hgl := HGL.out
    have hsz1 := HU1.out.size
    have hat := at_store (cap := cap2) HB3.out (.inr ⟨g, rfl, HR2.out.set i m HM.out b⟩ : Row _ (some ⟨g, 0, none⟩) cap2 (L.set i { m with w := b })) (by rw [List.length_set]; exact HN.out) hl (by simp [ownA]; exact htg)
    refine ⟨ownA (some ⟨g, 0, none⟩), by simp, (by rw [HM.out]; exact hat), fun k hk => .inr (by simp [ownA] at hk; omega), ((HU2.out.zero _).setCell (.inr (by simp; omega)) _).setCell (.inl (by simp)) _⟩

end Go.Proofs.Ytefjppebohnmjaa
