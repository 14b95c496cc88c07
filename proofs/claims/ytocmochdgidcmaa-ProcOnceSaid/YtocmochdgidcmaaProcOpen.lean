/- The arguments of the statements on processes, opened: deeds. -/
import Derived.Test.YtocmochdgidcmaaProcX
namespace Go.Proofs.Ytocmochdgidcmaa
open Go.ChangeShapes Go.WideShapes Go.ChangeAt Go.RowKit Go.Deep

noncomputable def deedFs : Array Field := Try.prog.fieldsOf 45
theorem deed_one : oneCellFields Try.prog deedFs = true := by kernel_rfl
theorem deed_size : deedFs.size = 3 := by kernel_rfl
theorem deed_cells : Try.prog.cellsOf 45 = deedFs.size := by kernel_rfl
theorem under_deeds : Try.prog.underlying 22 = some (.slice 45) := by kernel_rfl
theorem deed_f0 : deedFs[0]?.map (·.type) = some 3 := by kernel_rfl
theorem deed_f1 : deedFs[1]?.map (·.type) = some 3 := by kernel_rfl
theorem deed_f2 : deedFs[2]?.map (·.type) = some 3 := by kernel_rfl

section
variable {H : Type} {enc : TypeId × Value → H} {w : World} {spare : Nat → Bool} {held : Bool}

theorem deed_of {v0 v1 v2 : Value} {n0 n1 n2 : Nat} {y0 y1 y2 : DataW H × List MemPlace} 
    (h0 : DataW.trod enc Try.prog w 0 spare held n0 3 [v0] = some y0) (h1 : DataW.trod enc Try.prog w 0 spare held n1 3 [v1] = some y1) (h2 : DataW.trod enc Try.prog w 0 spare held n2 3 [v2] = some y2) : DeedOk [v0, v1, v2] := by
  obtain ⟨a0, e0, _, _⟩ := DataW.trod_int under_int h0
  obtain ⟨a1, e1, _, _⟩ := DataW.trod_int under_int h1
  obtain ⟨a2, e2, _, _⟩ := DataW.trod_int under_int h2
  injection e0 with e0 _
  injection e1 with e1 _
  injection e2 with e2 _
  subst e0 e1 e2
  exact ⟨a0, a1, a2, rfl⟩

theorem field_of {j t : Nat} (h : deedFs[j]?.map (·.type) = some t) : ∃ f, deedFs[j]? = some f ∧ f.type = t := by
  cases hq : deedFs[j]? with
  | none => rw [hq] at h; cases h
  | some f => rw [hq] at h; injection h with h; exact ⟨f, rfl, h⟩

theorem open_deed {r : Reach} {b0 : Nat} {v : Value} {d : DataW H} {p : List MemPlace} (hv : Value.okWide Try.prog w r b0 45 v) (h : DataW.Trod enc Try.prog w 0 spare held 45 v d p) :
    ∃ cs : List Value, v = .agg cs.toArray ∧ DeedOk cs := by
  obtain ⟨cs, rfl, hsz, hf⟩ := open_parts (fs := deedFs) under_deed deed_one deed_cells hv h
  obtain ⟨l⟩ := cs
  obtain ⟨f0, q0, t0⟩ := field_of deed_f0
  obtain ⟨f1, q1, t1⟩ := field_of deed_f1
  obtain ⟨f2, q2, t2⟩ := field_of deed_f2
  obtain ⟨v0, n0, y0, c0, p0⟩ := hf 0 f0 q0
  obtain ⟨v1, n1, y1, c1, p1⟩ := hf 1 f1 q1
  obtain ⟨v2, n2, y2, c2, p2⟩ := hf 2 f2 q2
  rw [t0] at p0
  rw [t1] at p1
  rw [t2] at p2
  rw [deed_size] at hsz
  match l, hsz with
  | [a0, a1, a2], _ =>
    simp at c0 c1 c2
    subst c0 c1 c2
    exact ⟨_, rfl, deed_of p0 p1 p2⟩

theorem open_deeds {fuel : Nat} {cs : List Value} {x : DataW H × List MemPlace} (h : DataW.trod enc Try.prog w 0 (fun _ => true) held fuel 22 cs = some x) :
    ∃ A len cap, cs = [.slice A len cap] ∧ len ≤ cap ∧ cap ≤ maxLen ∧ Deeds w A len := by
  rcases open_slice_fields (fs := deedFs) under_deeds under_deed deed_one deed_cells h with ⟨rfl, _⟩ | ⟨a, len, cap, m, rfl, hl, hm, hmm, hf⟩
  · exact ⟨none, 0, 0, rfl, Nat.le_refl _, by unfold maxLen; omega, fun hk => by omega⟩
  · refine ⟨some a, len, cap, rfl, hl, hm, fun hk => ?_⟩
    have hmc : m = cap := by simpa using hmm
    obtain ⟨f0, q0, t0⟩ := field_of deed_f0
    obtain ⟨f1, q1, t1⟩ := field_of deed_f1
    obtain ⟨f2, q2, t2⟩ := field_of deed_f2
    obtain ⟨v, n, y, hc, _⟩ := hf 0 (by omega) 0 f0 q0
    have ha := addr_of_cell hc
    have ha2 : a = ⟨a.block, a.off, none⟩ := by simpa [Addr.add] using ha
    refine ⟨a.block, a.off, by rw [← ha2], fun i hi => ?_⟩
    obtain ⟨v0, n0, y0, c0, p0⟩ := hf i (by omega) 0 f0 q0
    obtain ⟨v1, n1, y1, c1, p1⟩ := hf i (by omega) 1 f1 q1
    obtain ⟨v2, n2, y2, c2, p2⟩ := hf i (by omega) 2 f2 q2
    rw [t0] at p0
    rw [t1] at p1
    rw [t2] at p2
    refine ⟨[v0, v1, v2], deed_of p0 p1 p2, fun j u hj => ?_⟩
    rw [deed_size, ha2, Addr.add_mid] at c0 c1 c2
    match j, hj with
    | 0, hj => injection hj with hj; subst hj; rw [← c0]; congr 2
    | 1, hj => injection hj with hj; subst hj; rw [← c1]; congr 2
    | 2, hj => injection hj with hj; subst hj; rw [← c2]; congr 2
end

end Go.Proofs.Ytocmochdgidcmaa
