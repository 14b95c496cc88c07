/- A table of one's own; live. -/
import Derived.Test.YtedaffkdfniikaaFdsJ
import Derived.Test.YtedaffkdfniikaaRow
namespace Go.Proofs.Ytedaffkdfniikaa
open Go.RowKit Go.Shelf

def newS : St := ⟨fun _ => false, fun _ _ => 0, []⟩
theorem good_new : Good newS := ⟨fun _ _ _ => rfl, fun _ _ => Nat.le_refl _, fun o h => by simp [newS] at h⟩
theorem small_new : Small newS := fun _ _ _ => rfl
theorem cnt_new {n : Nat} (h : n ≠ 0) : cntF newS.fd n = 0 := by
  by_cases hc : cntF newS.fd n = 0
  · exact hc
  · obtain ⟨_, _, _, _, he⟩ := cnt_pos.1 hc
    exact absurd he.symm h
/-- Behind w0 a table of one's own holds S, and nothing else has turned. -/
def PLive (w0 : World) (t : Nat) (S : St) (W : World) : Prop := ∃ own, PAt W t own S ∧ (∀ g, g ∈ own → w0.heap.size ≤ g) ∧ Upd [] w0 W
section
variable {w0 W W' : World} {t : Nat} {S S' : St}
theorem PLive.upd0 (h : PLive w0 t S W) (hu : Upd [] W W') : PLive w0 t S W' := by
  obtain ⟨own, ⟨pb, sb, h1⟩, h2, h3⟩ := h
  exact ⟨own, ⟨pb, sb, h1.upd0 hu⟩, h2, h3.trans' hu⟩
theorem PLive.upd (h : PLive w0 t S W) : Upd [] w0 W := by
  obtain ⟨_, _, _, h3⟩ := h
  exact h3
theorem PLive.chg {V : Value} {own : List Nat} {e : Ending} (h2 : ∀ g, g ∈ own → w0.heap.size ≤ g) (h3 : Upd [] w0 W) (d : PChg W t own V S' e W') : e = .returned V ∧ PLive w0 t S' W' := by
  obtain ⟨he, own', hp, ho, hu⟩ := d
  refine ⟨he, own', hp, fun g hg => ?_, h3.trans hu (fun g hg => .inr (h2 g hg))⟩
  rcases ho g hg with h | h
  · exact h2 g h
  · exact Nat.le_trans h3.size h
end
section
variable {w0 W : World} {t : Nat} {S : St} (h : PLive w0 t S W)
include h
theorem lbegin (hg : Good S) (p : Int) : Calls Try.prog 11 #[.pointer (some ⟨t, 0, none⟩), .int .i64 p] W fun e w' => e = .returned (.int .i64 (frE S p)) ∧ PLive w0 t (begS S p) w' := by
  obtain ⟨own, ⟨pb, sb, h1⟩, h2, h3⟩ := h
  exact (begin_any t own S pb sb W h1 hg p).mono fun e w' d => PLive.chg h2 h3 d
theorem lopen (hg : Good S) (p : Int) (o : Op) (ho : o.k < 256) : Calls Try.prog 14 #[.pointer (some ⟨t, 0, none⟩), .int .i64 p, .agg (encO o).toArray] W fun e w' => e = .returned (.tuple #[.int .i64 (opnV S p o), .int .i64 (opnE S p o)]) ∧ PLive w0 t (opnS S p o) w' := by
  obtain ⟨own, ⟨pb, sb, h1⟩, h2, h3⟩ := h
  exact (open_any t own S pb sb W h1 hg p o ho).mono fun e w' d => PLive.chg h2 h3 d
theorem ldup (p k : Int) : Calls Try.prog 15 #[.pointer (some ⟨t, 0, none⟩), .int .i64 p, .int .i64 k] W fun e w' => e = .returned (.tuple #[.int .i64 (dupV S p k), .int .i64 (dupE S p k)]) ∧ PLive w0 t (dupS S p k) w' := by
  obtain ⟨own, ⟨pb, sb, h1⟩, h2, h3⟩ := h
  exact (dup_any t own S pb sb W h1 p k).mono fun e w' d => PLive.chg h2 h3 d
theorem lmove (hg : Good S) (p k x : Int) : Calls Try.prog 20 #[.pointer (some ⟨t, 0, none⟩), .int .i64 p, .int .i64 k, .int .i64 x] W fun e w' => e = .returned (.int .i64 (atE S p k)) ∧ PLive w0 t (movS S p k x) w' := by
  obtain ⟨own, ⟨pb, sb, h1⟩, h2, h3⟩ := h
  exact (move_any t own S pb sb W h1 hg p k x).mono fun e w' d => PLive.chg h2 h3 d
theorem lclose (p k : Int) : Calls Try.prog 16 #[.pointer (some ⟨t, 0, none⟩), .int .i64 p, .int .i64 k] W fun e w' => e = .returned (.tuple #[.agg (encO (getO S p k)).toArray, .bool (cloL S p k), .int .i64 (atE S p k)]) ∧ PLive w0 t (cloS S p k) w' := by
  obtain ⟨own, ⟨pb, sb, h1⟩, h2, h3⟩ := h
  exact (close_any t own S pb sb W h1 p k).mono fun e w' d => PLive.chg h2 h3 d
theorem lfork (hg : Good S) (p q : Int) : Calls Try.prog 13 #[.pointer (some ⟨t, 0, none⟩), .int .i64 p, .int .i64 q] W fun e w' => e = .returned (.int .i64 (frkE S p q)) ∧ PLive w0 t (frkS S p q) w' := by
  obtain ⟨own, ⟨pb, sb, h1⟩, h2, h3⟩ := h
  exact (fork_any t own S pb sb W h1 hg p q).mono fun e w' d => PLive.chg h2 h3 d
theorem lend (p : Int) : Calls Try.prog 12 #[.pointer (some ⟨t, 0, none⟩), .int .i64 p] W fun e w' => ∃ A cap, e = .returned (.tuple #[.slice A (finO S p).length cap, .int .i64 (ofE S p)]) ∧ PLive w0 t (finS S p) w' := by
  obtain ⟨own, ⟨pb, sb, h1⟩, h2, h3⟩ := h
  refine (end_any t own S pb sb W h1 p).mono fun e w' ⟨A, cap, he, _, _, hp, hu⟩ => ?_
  exact ⟨A, cap, he, own, hp, h2, h3.trans hu (fun g hg => .inr (h2 g hg))⟩
theorem lget (p k : Int) : Calls Try.prog 18 #[.pointer (some ⟨t, 0, none⟩), .int .i64 p, .int .i64 k] W fun e w' => e = .returned (.tuple #[.agg (encO (getO S p k)).toArray, .int .i64 (atE S p k)]) ∧ PLive w0 t S w' := by
  have h' := h
  obtain ⟨own, ⟨pb, sb, h1⟩, h2, h3⟩ := h
  exact (get_any t own S pb sb W h1 p k).mono fun e w' d => ⟨d.1, h'.upd0 d.2⟩
theorem lroom (p : Int) : Calls Try.prog 22 #[.pointer (some ⟨t, 0, none⟩), .int .i64 p] W fun e w' => e = .returned (.int .i64 (roomO S p)) ∧ PLive w0 t S w' := by
  have h' := h
  obtain ⟨own, ⟨pb, sb, h1⟩, h2, h3⟩ := h
  exact (room_any t own S pb sb W h1 p).mono fun e w' d => ⟨d.1, h'.upd0 d.2⟩
theorem lsame (p a q b : Int) : Calls Try.prog 19 #[.pointer (some ⟨t, 0, none⟩), .int .i64 p, .int .i64 a, .int .i64 q, .int .i64 b] W fun e w' => e = .returned (.bool (samB S p a q b)) ∧ PLive w0 t S w' := by
  have h' := h
  obtain ⟨own, ⟨pb, sb, h1⟩, h2, h3⟩ := h
  exact (same_any1 t own S pb sb W h1 p a q b).mono fun e w' d => ⟨d.1, h'.upd0 d.2⟩
theorem llist (p : Int) : Calls Try.prog 21 #[.pointer (some ⟨t, 0, none⟩), .int .i64 p] W fun e w' => ∃ A cap, e = .returned (.slice A (lisO S p).length cap) ∧ RdV w' A (ints (lisO S p)) ∧ (∀ b o, A = some ⟨b, o, none⟩ → W.heap.size ≤ b) ∧ PLive w0 t S w' ∧ Upd [] W w' := by
  have h' := h
  obtain ⟨own, ⟨pb, sb, h1⟩, h2, h3⟩ := h
  refine (list_any t own S pb sb W h1 p).mono fun e w' ⟨v, he, hown, hu⟩ => ?_
  obtain ⟨A, c, rfl, _, hrd, hlo⟩ := RdV.of_own hown
  exact ⟨A, c, he, hrd, fun b o hb => (hlo b o hb).1, h'.upd0 hu, hu⟩
end
theorem lnew (w : World) : Calls Try.prog 9 #[] w fun e w' => ∃ t, e = .returned (.pointer (some ⟨t, 0, none⟩)) ∧ PLive w t newS w' := by
  refine (new_any w).mono fun e w' ⟨he, hw⟩ => ?_
  subst hw
  refine ⟨w.heap.size, he, [w.heap.size], ⟨fun _ => 0, fun _ => 0, ⟨Blk.new w TabT _, fun i _ hh => by simp [newS] at hh, fun n h0 hn => absurd (cnt_new h0) hn, fun i j _ _ hh => by simp [newS] at hh, fun n m h0 _ hn => absurd (cnt_new h0) hn, by simp, fun i _ hh => by simp [newS] at hh, fun n h0 hn => absurd (cnt_new h0) hn, fun g hg => ?_⟩⟩, fun g hg => by simp at hg; omega, (Upd.refl [] w).alloc _⟩
  simp at hg
  subst hg
  rw [World.size_alloc]
  omega

/-- What lies at n and behind it has not turned. -/
def Kp (n : Nat) (W w' : World) : Prop := ∀ (b o : Nat) (v : Value), n ≤ b → W.cell? ⟨b, o, none⟩ = some v → w'.cell? ⟨b, o, none⟩ = some v
theorem PLive.split {w0 W1 W : World} {t : Nat} {S : St} (h : PLive w0 t S W1) (hu : Upd [] W1 W) : ∃ own, PAt W t own S ∧ (∀ g, g ∈ own → w0.heap.size ≤ g) ∧ Upd [] w0 W ∧ ∀ w', Upd own W w' → Kp W1.heap.size W w' := by
  obtain ⟨own, ⟨pb, sb, h1⟩, h2, h3⟩ := h
  exact ⟨own, ⟨pb, sb, h1.upd0 hu⟩, h2, h3.trans' hu, fun w' hk b o v hb hc => hk.cellAt hc (fun hm => by have := h1.ol b hm; omega)⟩
theorem lcloseK {w0 W1 W : World} {t : Nat} {S : St} (h : PLive w0 t S W1) (hu : Upd [] W1 W) (p k : Int) : Calls Try.prog 16 #[.pointer (some ⟨t, 0, none⟩), .int .i64 p, .int .i64 k] W fun e w' => e = .returned (.tuple #[.agg (encO (getO S p k)).toArray, .bool (cloL S p k), .int .i64 (atE S p k)]) ∧ PLive w0 t (cloS S p k) w' ∧ Kp W1.heap.size W w' := by
  obtain ⟨own, ⟨pb, sb, h1⟩, h2, h3, hk⟩ := h.split hu
  refine (close_any t own S pb sb W h1 p k).mono fun e w' d => ?_
  obtain ⟨he, hp⟩ := PLive.chg h2 h3 d
  obtain ⟨_, own', _, _, hu'⟩ := d
  exact ⟨he, hp, hk w' hu'⟩

def S1 : St := begS newS 0
def S2 : St := opnS S1 0 ⟨1, 3, 0⟩
def S3 : St := dupS S2 0 0
def S4 : St := movS S3 0 1 5
def S5 : St := cloS S4 0 0
theorem g1 : Good S1 := good_beg good_new 0
theorem g2 : Good S2 := good_opn g1 0 _ (by decide)
theorem g3 : Good S3 := good_dup g2 0 0

set_option maxHeartbeats 1000000 in
theorem live_any (w : World) : Calls Try.prog 10 #[] w (TruePost w) := by
  have H1 := Lib.hid (fun c W (hW : PLive w c newS W) => lbegin hW good_new 0)
  have H2 : Hid (∀ c W, PLive w c S1 W → Calls Try.prog 14 #[.pointer (some ⟨c, 0, none⟩), .int .i64 0, .agg #[.int .u8 1, .int .i64 3, .int .i64 0]] W fun e w' => e = .returned (.tuple #[.int .i64 0, .int .i64 0]) ∧ PLive w c S2 w') := Lib.hid (fun c W hW => by
    have := lopen hW g1 0 ⟨1, 3, 0⟩ (by decide)
    rw [show opnV S1 0 ⟨1, 3, 0⟩ = 0 by decide, show opnE S1 0 ⟨1, 3, 0⟩ = 0 by decide] at this
    exact this)
  have H3 : Hid (∀ c W, PLive w c S2 W → Calls Try.prog 15 #[.pointer (some ⟨c, 0, none⟩), .int .i64 0, .int .i64 0] W fun e w' => e = .returned (.tuple #[.int .i64 1, .int .i64 0]) ∧ PLive w c S3 w') := Lib.hid (fun c W hW => by
    have := ldup hW 0 0
    rw [show dupV S2 0 0 = 1 by decide, show dupE S2 0 0 = 0 by decide] at this
    exact this)
  have H4 : Hid (∀ c W, PLive w c S3 W → Calls Try.prog 20 #[.pointer (some ⟨c, 0, none⟩), .int .i64 0, .int .i64 1, .int .i64 5] W fun e w' => e = .returned (.int .i64 0) ∧ PLive w c S4 w') := Lib.hid (fun c W hW => by
    have := lmove hW g3 0 1 5
    rw [show atE S3 0 1 = 0 by decide] at this
    exact this)
  have H5 : Hid (∀ c W, PLive w c S4 W → Calls Try.prog 18 #[.pointer (some ⟨c, 0, none⟩), .int .i64 0, .int .i64 0] W fun e w' => e = .returned (.tuple #[.agg #[.int .u8 1, .int .i64 3, .int .i64 5], .int .i64 0]) ∧ PLive w c S4 w') := Lib.hid (fun c W hW => by
    have := lget hW 0 0
    rw [show getO S4 0 0 = ⟨1, 3, 5⟩ by decide, show atE S4 0 0 = 0 by decide] at this
    exact this)
  have H6 : Hid (∀ c W1 W, PLive w c S4 W1 → Upd [] W1 W → Calls Try.prog 16 #[.pointer (some ⟨c, 0, none⟩), .int .i64 0, .int .i64 0] W fun e w' => e = .returned (.tuple #[.agg #[.int .u8 1, .int .i64 3, .int .i64 5], .bool false, .int .i64 0]) ∧ PLive w c S5 w' ∧ Kp W1.heap.size W w') := Lib.hid (fun c W1 W hW hu => by
    have := lcloseK hW hu 0 0
    rw [show getO S4 0 0 = ⟨1, 3, 5⟩ by decide, show cloL S4 0 0 = false by decide, show atE S4 0 0 = 0 by decide] at this
    exact this)
  have H7 : Hid (∀ c W, PLive w c S5 W → Calls Try.prog 21 #[.pointer (some ⟨c, 0, none⟩), .int .i64 0] W fun e w' => ∃ A cap, e = .returned (.slice A 1 cap) ∧ PLive w c S5 w') := Lib.hid (fun c W hW => by
    refine (llist hW 0).mono fun e w' ⟨A, cap, he, _, _, hp, _⟩ => ⟨A, cap, ?_, hp⟩
    rw [he, show (lisO S5 0).length = 1 by decide])
  go_enter Try.func10, Try.ntmps10
  go_wp2_with fail
  refine (lnew w).mono ?_; rintro e w1 ⟨c, rfl, h1⟩
  have P1 := Lib.hid h1
  clear h1
  go_wp2_with fail
  refine (H1.out _ _ P1.out).mono ?_; rintro e w2 ⟨rfl, h1⟩
  have P2 := Lib.hid h1
  clear h1
  go_wp2_with fail
  refine (H2.out _ _ P2.out).mono ?_; rintro e w3 ⟨rfl, h1⟩
  have P3 := Lib.hid h1
  clear h1
  go_wp2_with fail
  refine (H3.out _ _ P3.out).mono ?_; rintro e w4 ⟨rfl, h1⟩
  have P4 := Lib.hid h1
  clear h1
  go_wp2_with fail
  refine (H4.out _ _ P4.out).mono ?_; rintro e w5 ⟨rfl, h1⟩
  have P5 := Lib.hid h1
  clear h1
  go_wp2_with fail
  refine (H5.out _ _ P5.out).mono ?_; rintro e w6 ⟨rfl, h1⟩
  have P6 := Lib.hid h1
  clear h1
  go_wp2_with fail
  have HU6 : Hid (Upd [] w6 (w6.alloc (.cells #[.int .u8 1, .int .i64 3, .int .i64 5] 30))) := Lib.hid ((Upd.refl [] _).alloc _)
  have hb6 := Blk.new w6 30 #[.int .u8 1, .int .i64 3, .int .i64 5]
  refine (H6.out _ _ _ P6.out HU6.out).mono ?_; rintro e w7 ⟨rfl, h1, hk⟩
  have P7 := Lib.hid h1
  have c2 := hk _ _ _ (Nat.le_refl _) (hb6.cellAt (i := 2) (v := .int .i64 5) rfl)
  have hlt := World.block_lt_of_cell? w7 ⟨w6.heap.size, 2, none⟩ c2
  clear h1 hk hb6
  have H0 := Lib.hid (show frE newS 0 = 0 by decide)
  go_wp2_with (refine (H7.out _ _ (P7.out.upd0 ((Upd.refl [] _).alloc _))).mono ?_; rintro e w8 ⟨A, cap, rfl, h1⟩)
  go_ret
  exact ⟨by simp, h1.upd⟩

end Go.Proofs.Ytedaffkdfniikaa
