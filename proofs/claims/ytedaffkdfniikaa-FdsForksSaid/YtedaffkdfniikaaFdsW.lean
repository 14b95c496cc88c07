/- SameOpens; both tables; a deed on each. -/
import Derived.Test.YtedaffkdfniikaaFdsV
namespace Go.Proofs.Ytedaffkdfniikaa
open Go.RowKit Go.Shelf

theorem neq_gen (k r p k' r' p' : Int) (w : World) : (binOp .neq 30 (.agg #[.int .u8 k, .int .i64 r, .int .i64 p]) (.agg #[.int .u8 k', .int .i64 r', .int .i64 p'])).run Try.prog w = .ok (.bool (!decide (k = k' ∧ r = r' ∧ p = p'))) w := by
  have u5 := Try.underlying28
  have a5 := Try.isAgg28
  have z5 := Try.sizeOf28
  have u4 := Try.underlying3
  have a4 := Try.isAgg3
  have z4 := Try.sizeOf3
  rw [run_neq_struct, show (10000 : Nat) = 9999 + 1 from rfl, run_equalIn_agg w 9999 _ _ _ under_open held_open]
  simp only [Program.fieldsOf, Try.underlying30]
  go_simp
  by_cases h1 : k = k' <;> by_cases h2 : r = r' <;> by_cases h3 : p = p' <;> simp [h1, h2, h3]
theorem neq_open (k r p : Int) (w : World) : (binOp .neq 30 (.agg #[.int .u8 k, .int .i64 r, .int .i64 p]) (.agg #[.int .u8 k, .int .i64 r, .int .i64 p])).run Try.prog w = .ok (.bool false) w := by
  rw [neq_gen]
  simp
theorem Row.cells {w : World} {A : Option Addr} {cap : Nat} {L : List Op} (h : Row w A cap L) {j : Nat} {o : Op} (hj : L[j]? = some o) :
    ∃ g, A = some ⟨g, 0, none⟩ ∧ w.cell? ⟨g, j * 3, none⟩ = some (.int .u8 o.k) ∧ w.cell? ⟨g, j * 3 + 1, none⟩ = some (.int .i64 o.r) ∧ w.cell? ⟨g, j * 3 + 2, none⟩ = some (.int .i64 o.p) := by
  obtain ⟨g, rfl, hra⟩ := h.form (by have := (List.getElem?_eq_some_iff.1 hj).1; omega)
  obtain ⟨b, o', he, hc⟩ := hra.reads (by have := (List.getElem?_eq_some_iff.1 hj).1; omega)
  injection he with he
  injection he with he1 he2 _
  subst he1 he2
  have h0 := hc j o hj 0 (.int .u8 o.k) rfl
  have h1 := hc j o hj 1 (.int .i64 o.r) rfl
  have h2 := hc j o hj 2 (.int .i64 o.p) rfl
  rw [Nat.zero_add] at h0 h1 h2
  exact ⟨g, rfl, h0, h1, h2⟩

set_option maxRecDepth 100000 in
set_option maxHeartbeats 2000000 in
theorem sameOpens_any (w : World) (A B : Option Addr) (c d : Nat) (L : List Op) (len : Nat) (hl : L.length = len) (h8 : len ≤ 8) (hA : Row w A c L) (hB : Row w B d L) :
    Calls Try.prog 41 #[.slice A len c, .slice B len d] w fun e w' => e = .returned (.bool true) ∧ ∃ k, w' = w.drewN k := by
  have HA := Lib.hid hA
  have HB := Lib.hid hB
  have HL := Lib.hid hl
  have hq := neq_open
  have hg := guard_open
  clear hA hB hl
  have hb : ((len : Int) == (len : Int)) = true := by simp
  have hb' : ((len : Int) != (len : Int)) = false := by simp
  go_enter Try.func41, Try.ntmps41
  go_wp2_with fail
  go_loopw [5] (fun v wr => ∃ j k : Nat, j ≤ len ∧ v = .int .i64 (j : Int) ∧ wr = w.drewN k) (fun v _ => len - (intOf v).toNat)
  case atStart => exact ⟨0, 0, by omega, rfl, rfl⟩
  case round =>
    obtain ⟨j, k, hj, rfl, rfl⟩ := hrel
    by_cases hlt : j < len
    · obtain ⟨o, ho⟩ : ∃ o, L[j]? = some o := ⟨_, List.getElem?_eq_getElem (by rw [HL.out]; exact hlt)⟩
      obtain ⟨g1, rfl, a0, a1, a2⟩ := HA.out.cells ho
      obtain ⟨g2, rfl, b0, b1, b2⟩ := HB.out.cells ho
      have i0 : (0 : Int) ≤ (j : Int) := by omega
      have i1 : (j : Int) < (len : Int) := by omega
      clear ho
      go_wp2_with fail
      go_quiet (fail)
      go_wp2_with fail
      go_roundw
      case rel => exact ⟨j + 1, _, by omega, by go_num, rfl⟩
      case measure => simp [intOf]; omega
    · obtain rfl : j = len := by omega
      go_wp2_with fail
      go_ret
      exact ⟨by simp, k, rfl⟩

/-- Nothing has turned at the blocks of X. -/
def Same (X : List Nat) (W w' : World) : Prop := ∀ g, g ∈ X → w'.heap[g]? = W.heap[g]?
theorem Same.blk {X : List Nat} {W w' : World} (h : Same X W w') {g : Nat} {T : TypeId} {cs : Array Value} (hb : Blk W g T cs) (hg : g ∈ X) : Blk w' g T cs := (h g hg).trans hb
theorem Same.row {X : List Nat} {W w' : World} (h : Same X W w') {A : Option Addr} {cap : Nat} {L : List Op} (hr : Row W A cap L) (hX : ∀ g, g ∈ ownA A → g ∈ X) : Row w' A cap L := by
  rcases hr with hr | ⟨g, rfl, cur, hb, hrest⟩
  · exact .inl hr
  · exact .inr ⟨g, rfl, cur, h.blk hb (hX g (by simp [ownA])), hrest⟩
/-- Both tables: the program's holds Sp, the reference's Sr; the blocks of X are neither's. -/
structure Bth (w0 : World) (t r : Nat) (X : List Nat) (N : Nat) (Sp Sr : St) (ot og : List Nat) (W : World) : Prop where
  p : PAt W t ot Sp
  rf : RAt W r og Sr
  d : ∀ g, g ∈ ot → g ∉ og
  lt : ∀ g, g ∈ ot → w0.heap.size ≤ g
  lr : w0.heap.size ≤ r
  x : ∀ g, g ∈ X → g ∉ ot ∧ g ∉ og ∧ g < W.heap.size
  u : Upd [] w0 W
  g : Good Sr
  s : Small Sr
  n : Sr.all.length ≤ N
def BLive (w0 : World) (t r : Nat) (X : List Nat) (N : Nat) (Sp Sr : St) (W : World) : Prop := ∃ ot og, Bth w0 t r X N Sp Sr ot og W
theorem PAt.lt {w : World} {t : Nat} {own : List Nat} {S : St} (h : PAt w t own S) : ∀ g, g ∈ own → g < w.heap.size := by
  obtain ⟨pb, sb, h⟩ := h
  exact h.ol
theorem PAt.upd {w w' : World} {t : Nat} {own X : List Nat} {S : St} (h : PAt w t own S) (hu : Upd X w w') (hX : ∀ g, g ∈ own → g ∉ X) : PAt w' t own S := by
  obtain ⟨pb, sb, h⟩ := h
  exact ⟨pb, sb, h.upd hu hX⟩
section
variable {w0 W W' : World} {t r N : Nat} {X Y : List Nat} {Sp Sr S' : St} {ot og : List Nat} {V : Value} {e : Ending}
theorem BLive.upd0 (h : BLive w0 t r X N Sp Sr W) (hu : Upd [] W W') : BLive w0 t r X N Sp Sr W' := by
  obtain ⟨ot, og, h⟩ := h
  exact ⟨ot, og, h.p.upd hu (by simp), h.rf.upd0 hu, h.d, h.lt, h.lr, fun g hg => ⟨(h.x g hg).1, (h.x g hg).2.1, Nat.lt_of_lt_of_le (h.x g hg).2.2 hu.size⟩, h.u.trans' hu, h.g, h.s, h.n⟩
theorem BLive.upd (h : BLive w0 t r X N Sp Sr W) : Upd [] w0 W := by
  obtain ⟨_, _, h⟩ := h
  exact h.u
theorem BLive.less (h : BLive w0 t r X N Sp Sr W) (hY : ∀ g, g ∈ Y → g ∈ X) : BLive w0 t r Y N Sp Sr W := by
  obtain ⟨ot, og, h⟩ := h
  exact ⟨ot, og, h.p, h.rf, h.d, h.lt, h.lr, fun g hg => h.x g (hY g hg), h.u, h.g, h.s, h.n⟩
/-- What is new behind W is neither's. -/
theorem BLive.more (h : BLive w0 t r X N Sp Sr W) (hu : Upd [] W W') (hY : ∀ g, g ∈ Y → W.heap.size ≤ g ∧ g < W'.heap.size) : BLive w0 t r (Y ++ X) N Sp Sr W' := by
  have h' := h.upd0 hu
  obtain ⟨ot, og, h⟩ := h
  refine ⟨ot, og, h.p.upd hu (by simp), h.rf.upd0 hu, h.d, h.lt, h.lr, fun g hg => ?_, h.u.trans' hu, h.g, h.s, h.n⟩
  rcases List.mem_append.1 hg with hg | hg
  · have := hY g hg
    exact ⟨fun hm => by have := h.p.lt g hm; omega, fun hm => by have := h.rf.lt g hm; omega, this.2⟩
  · exact ⟨(h.x g hg).1, (h.x g hg).2.1, Nat.lt_of_lt_of_le (h.x g hg).2.2 hu.size⟩
theorem Bth.pstep (h : Bth w0 t r X N Sp Sr ot og W) (d : PChg W t ot V S' e W') : e = .returned V ∧ BLive w0 t r X N S' Sr W' ∧ Same X W W' := by
  obtain ⟨he, own', hp, ho, hu⟩ := d
  refine ⟨he, ⟨own', og, hp, h.rf.upd hu (fun g hg hm => h.d g hm hg), fun g hg hm => ?_, fun g hg => ?_, h.lr, fun g hg => ?_, h.u.trans hu (fun g hg => .inr (h.lt g hg)), h.g, h.s, h.n⟩, fun g hg => hu.block g (h.x g hg).2.2 (h.x g hg).1⟩
  · rcases ho g hg with h1 | h1
    · exact h.d g h1 hm
    · have := h.rf.lt g hm; omega
  · rcases ho g hg with h1 | h1
    · exact h.lt g h1
    · exact Nat.le_trans h.u.size h1
  · obtain ⟨h1, h2, h3⟩ := h.x g hg
    refine ⟨fun hm => ?_, h2, Nat.lt_of_lt_of_le h3 hu.size⟩
    rcases ho g hm with h4 | h4
    · exact h1 h4
    · omega
theorem Bth.rstep (h : Bth w0 t r X N Sp Sr ot og W) (hg : Good S') (hs : Small S') {N' : Nat} (hn : S'.all.length ≤ N') (d : RChg W r og V S' e W') : e = .returned V ∧ BLive w0 t r X N' Sp S' W' ∧ Same X W W' := by
  obtain ⟨he, own', hp, ho, hu⟩ := d
  refine ⟨he, ⟨ot, own', h.p.upd hu (fun g hg hm => by simp at hm; subst hm; exact h.d g hg h.rf.mem), hp, fun g hg hm => ?_, h.lt, h.lr, fun g hg => ?_, h.u.trans hu (fun g hg => by simp at hg; subst hg; exact .inr h.lr), hg, hs, hn⟩, fun g hg => hu.block g (h.x g hg).2.2 (fun hm => by simp at hm; subst hm; exact (h.x g hg).2.1 h.rf.mem)⟩
  · rcases ho g hm with h1 | h1
    · exact h.d g hg h1
    · have := h.p.lt g hg; omega
  · obtain ⟨h1, h2, h3⟩ := h.x g hg
    refine ⟨h1, fun hm => ?_, Nat.lt_of_lt_of_le h3 hu.size⟩
    rcases ho g hm with h4 | h4
    · exact h2 h4
    · omega
end

end Go.Proofs.Ytedaffkdfniikaa
