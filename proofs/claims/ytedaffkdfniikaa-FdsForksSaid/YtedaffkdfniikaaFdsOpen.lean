/- The arguments of the statements on descriptors, opened: what is open, deeds. -/
import Derived.Test.YtedaffkdfniikaaFdsL
import Derived.Test.YtedaffkdfniikaaRow
namespace Go.Proofs.Ytedaffkdfniikaa
open Go.ChangeShapes Go.WideShapes Go.ChangeAt Go.RowKit Go.Deep

noncomputable def openFs : Array Field := Try.prog.fieldsOf 30
noncomputable def deedFs : Array Field := Try.prog.fieldsOf 32
theorem open_f0 : openFs[0]?.map (fun f => (f.type, f.offset)) = some (28, 0) := by kernel_rfl
theorem open_f1 : openFs[1]?.map (fun f => (f.type, f.offset)) = some (3, 1) := by kernel_rfl
theorem open_f2 : openFs[2]?.map (fun f => (f.type, f.offset)) = some (3, 2) := by kernel_rfl
theorem deed_f0 : deedFs[0]?.map (fun f => (f.type, f.offset)) = some (3, 0) := by kernel_rfl
theorem deed_f1 : deedFs[1]?.map (fun f => (f.type, f.offset)) = some (3, 1) := by kernel_rfl
theorem deed_f2 : deedFs[2]?.map (fun f => (f.type, f.offset)) = some (3, 2) := by kernel_rfl
theorem deed_f3 : deedFs[3]?.map (fun f => (f.type, f.offset)) = some (3, 3) := by kernel_rfl
theorem deed_f4 : deedFs[4]?.map (fun f => (f.type, f.offset)) = some (30, 4) := by kernel_rfl
theorem cells_kind : Try.prog.cellsOf 28 = 1 := by kernel_rfl
theorem cells_int : Try.prog.cellsOf 3 = 1 := by kernel_rfl
theorem cells_open : Try.prog.cellsOf 30 = 3 := by kernel_rfl
theorem cells_deed : Try.prog.cellsOf 32 = 7 := by kernel_rfl
theorem under_kind : Try.prog.underlying 28 = some (.int .u8) := by kernel_rfl
theorem under_int : Try.prog.underlying 3 = some (.int .i64) := by kernel_rfl
theorem under_deeds : Try.prog.underlying 22 = some (.slice 32) := by kernel_rfl

section
variable {H : Type} {enc : TypeId × Value → H} {w : World} {spare : Nat → Bool} {held : Bool}

theorem field_trod {fs : Array Field} {j T off k n : Nat} {cs : List Value} {xs : List (DataW H × List MemPlace)} (h : fs[j]?.map (fun f => (f.type, f.offset)) = some (T, off)) (hk : Try.prog.cellsOf T = k) (hl : xs.length = fs.size)
    (hg : ∀ (i : Nat) (f : Field), fs[i]? = some f → DataW.trod enc Try.prog w 0 spare held n f.type ((cs.drop f.offset).take (Try.prog.cellsOf f.type)) = xs[i]?) :
    ∃ y, DataW.trod enc Try.prog w 0 spare held n T ((cs.drop off).take k) = some y := by
  cases hq : fs[j]? with
  | none => rw [hq] at h; cases h
  | some f =>
    rw [hq] at h
    injection h with h
    injection h with h1 h2
    have := hg j f hq
    have hjl : j < fs.size := (Array.getElem?_eq_some_iff.1 hq).1
    rw [h1, h2, hk, List.getElem?_eq_getElem (by omega)] at this
    exact ⟨_, this⟩
theorem op_trod {n : Nat} {cs : List Value} {y : DataW H × List MemPlace} (h : DataW.trod enc Try.prog w 0 spare held n 30 cs = some y) : ∃ o : Op, cs = encO o ∧ o.k < 256 := by
  obtain ⟨xs, n', _, _, hcl, hlen, hg⟩ := DataW.trod_struct (fs := openFs) under_open h
  rw [cells_open] at hcl
  obtain ⟨y0, g0⟩ := field_trod open_f0 cells_kind hlen hg
  obtain ⟨y1, g1⟩ := field_trod open_f1 cells_int hlen hg
  obtain ⟨y2, g2⟩ := field_trod open_f2 cells_int hlen hg
  match cs, hcl with
  | [c0, c1, c2], _ =>
    simp only [List.drop_zero, List.drop_succ_cons, List.take_succ_cons, List.take_zero] at g0 g1 g2
    obtain ⟨a0, e0, w0, _⟩ := DataW.trod_int under_kind g0
    obtain ⟨a1, e1, w1, _⟩ := DataW.trod_int under_int g1
    obtain ⟨a2, e2, w2, _⟩ := DataW.trod_int under_int g2
    injection e0 with e0 _
    injection e1 with e1 _
    injection e2 with e2 _
    subst e0 e1 e2
    have b0 := wf_u8 (by assumption : (Lit.int .u8 a0).wf = true)
    obtain ⟨k0, rfl⟩ : ∃ k : Nat, a0 = k := ⟨a0.toNat, by omega⟩
    exact ⟨⟨k0, a1, a2⟩, rfl, by simp only; omega⟩
theorem deed_trod {n : Nat} {cs : List Value} {y : DataW H × List MemPlace} (h : DataW.trod enc Try.prog w 0 spare held n 32 cs = some y) : DeedOk cs := by
  obtain ⟨xs, n', _, _, hcl, hlen, hg⟩ := DataW.trod_struct (fs := deedFs) under_deed h
  rw [cells_deed] at hcl
  obtain ⟨y0, g0⟩ := field_trod deed_f0 cells_int hlen hg
  obtain ⟨y1, g1⟩ := field_trod deed_f1 cells_int hlen hg
  obtain ⟨y2, g2⟩ := field_trod deed_f2 cells_int hlen hg
  obtain ⟨y3, g3⟩ := field_trod deed_f3 cells_int hlen hg
  obtain ⟨y4, g4⟩ := field_trod deed_f4 cells_open hlen hg
  match cs, hcl with
  | [c0, c1, c2, c3, c4, c5, c6], _ =>
    simp only [List.drop_zero, List.drop_succ_cons, List.take_succ_cons, List.take_zero] at g0 g1 g2 g3 g4
    obtain ⟨a0, e0, w0, _⟩ := DataW.trod_int under_int g0
    obtain ⟨a1, e1, w1, _⟩ := DataW.trod_int under_int g1
    obtain ⟨a2, e2, w2, _⟩ := DataW.trod_int under_int g2
    obtain ⟨a3, e3, w3, _⟩ := DataW.trod_int under_int g3
    obtain ⟨o, ho, hk⟩ := op_trod g4
    injection e0 with e0 _
    injection e1 with e1 _
    injection e2 with e2 _
    injection e3 with e3 _
    subst e0 e1 e2 e3
    exact ⟨a0, a1, a2, a3, o, by unfold deedCs; rw [ho]; rfl, hk⟩

theorem open_op {r : Reach} {b0 : Nat} {v : Value} {d : DataW H} {p : List MemPlace} (hv : Value.okWide Try.prog w r b0 30 v) (h : DataW.Trod enc Try.prog w 0 spare held 30 v d p) :
    ∃ o : Op, v = .agg (encO o).toArray ∧ o.k < 256 := by
  obtain ⟨cs, rfl, hsz⟩ := okWide_struct (fs := openFs) under_open hv
  obtain ⟨fuel, hf⟩ := h
  obtain ⟨o, ho, hk⟩ := op_trod hf
  refine ⟨o, ?_, hk⟩
  simp only [Value.cells] at ho
  rw [← ho]
theorem open_deed {r : Reach} {b0 : Nat} {v : Value} {d : DataW H} {p : List MemPlace} (hv : Value.okWide Try.prog w r b0 32 v) (h : DataW.Trod enc Try.prog w 0 spare held 32 v d p) :
    ∃ cs : List Value, v = .agg cs.toArray ∧ DeedOk cs := by
  obtain ⟨cs, rfl, hsz⟩ := okWide_struct (fs := deedFs) under_deed hv
  obtain ⟨fuel, hf⟩ := h
  refine ⟨cs.toList, by simp, ?_⟩
  have := deed_trod hf
  simpa only [Value.cells] using this

theorem open_deeds {fuel : Nat} {cs : List Value} {x : DataW H × List MemPlace} (h : DataW.trod enc Try.prog w 0 (fun _ => true) held fuel 22 cs = some x) :
    ∃ A len cap, cs = [.slice A len cap] ∧ len ≤ cap ∧ cap ≤ maxLen ∧ Deeds w A len := by
  rcases open_slice under_deeds h with ⟨rfl, _⟩ | ⟨a, len, cap, m, n, D, Pl, rfl, hb, hl, hm, hmm, hx, hi⟩
  · exact ⟨none, 0, 0, rfl, Nat.le_refl _, by unfold maxLen; omega, fun hk => by omega⟩
  · refine ⟨some a, len, cap, rfl, hl, hm, fun hk => ?_⟩
    have hmc : m = cap := by simpa using hmm
    rw [cells_deed] at hi
    obtain ⟨cs0, hc0, _⟩ := hi 0 (by omega)
    obtain ⟨_, hcl0, hat0⟩ := World.cells?_some hc0
    have h00 := hat0 0 (by omega)
    rw [List.getElem?_eq_getElem (by omega)] at h00
    have ha := addr_of_cell h00
    have ha2 : a = ⟨a.block, a.off, none⟩ := by simpa [Addr.add] using ha
    refine ⟨a.block, a.off, by rw [← ha2], fun i hil => ?_⟩
    obtain ⟨cs', hc, ht⟩ := hi i (by omega)
    obtain ⟨_, hcl, hat⟩ := World.cells?_some hc
    refine ⟨cs', deed_trod ht, fun j u hj => ?_⟩
    have hjl := (List.getElem?_eq_some_iff.1 hj).1
    have := hat j (by omega)
    rw [hj] at this
    rw [← this, ha2, Addr.add_mid, Addr.add_mid]
end

end Go.Proofs.Ytedaffkdfniikaa
