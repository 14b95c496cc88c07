/- A deed on the program's table, and then on the reference's: printed by fds_do.py. -/
import Derived.Test.YtedaffkdfniikaaFdsW
namespace Go.Proofs.Ytedaffkdfniikaa
open Go.RowKit Go.Shelf

theorem len_beg (S : St) (p : Int) : (begS S p).all.length = S.all.length := by unfold begS; split <;> rfl
theorem len_dup (S : St) (p k : Int) : (dupS S p k).all.length = S.all.length := by
  unfold dupS
  split
  · cases lstF S.fd p.toNat <;> rfl
  · rfl
theorem len_clo (S : St) (p k : Int) : (cloS S p k).all.length = S.all.length := by unfold cloS; split <;> rfl
theorem len_mov (S : St) (p k x : Int) : (movS S p k x).all.length = S.all.length := by
  unfold movS
  split
  · simp
  · rfl
theorem len_setH (S : St) (i : Nat) (b : Bool) : (setH S i b).all = S.all := rfl
theorem len_fin (S : St) (p : Int) : (finS S p).all.length = S.all.length := by
  unfold finS
  split
  · rw [len_setH, (finL_has S p.toNat 8).2]
  · rfl
theorem len_frk (S : St) (p q : Int) : (frkS S p q).all.length = S.all.length := by
  unfold frkS
  split
  · rw [len_setH, (frkL_all S p.toNat q.toNat 8).2]
  · rfl
theorem len_opn (S : St) (p : Int) (o : Op) : (opnS S p o).all.length ≤ S.all.length + 1 := by
  unfold opnS
  split
  · split
    · omega
    · cases lstF S.fd p.toNat
      · exact Nat.le_succ _
      · simp [putN]
  · omega
section
variable {w0 W : World} {t r N : Nat} {X : List Nat} {S : St}
theorem pBegin (h : BLive w0 t r X N S S W) (p : Int) : Calls Try.prog 11 #[.pointer (some ⟨t, 0, none⟩), .int .i64 p] W fun e w' => e = .returned (.int .i64 (frE S p)) ∧ BLive w0 t r X N (begS S p) S w' ∧ Same X W w' := by
  obtain ⟨ot, og, h⟩ := h
  obtain ⟨pb, sb, hp⟩ := h.p
  exact (begin_any t ot S pb sb W hp h.g p).mono fun e w' d => h.pstep d
theorem rBegin {Sp : St} (_hN : N ≤ 499) (h : BLive w0 t r X N Sp S W) (p : Int) : Calls Try.prog 39 #[.pointer (some ⟨r, 0, none⟩), .int .i64 p] W fun e w' => e = .returned (.int .i64 (frE S p)) ∧ BLive w0 t r X (N + 1) Sp (begS S p) w' ∧ Same X W w' := by
  obtain ⟨ot, og, h⟩ := h
  obtain ⟨A, cap, hx⟩ := h.rf
  exact (rbegin_any r og S A cap W hx p).mono fun e w' d => h.rstep (good_beg h.g p) (small_beg h.s p) (by rw [len_beg]; have := h.n; omega) d
theorem pFork (h : BLive w0 t r X N S S W) (p q : Int) : Calls Try.prog 13 #[.pointer (some ⟨t, 0, none⟩), .int .i64 p, .int .i64 q] W fun e w' => e = .returned (.int .i64 (frkE S p q)) ∧ BLive w0 t r X N (frkS S p q) S w' ∧ Same X W w' := by
  obtain ⟨ot, og, h⟩ := h
  obtain ⟨pb, sb, hp⟩ := h.p
  exact (fork_any t ot S pb sb W hp h.g p q).mono fun e w' d => h.pstep d
theorem rFork {Sp : St} (_hN : N ≤ 499) (h : BLive w0 t r X N Sp S W) (p q : Int) : Calls Try.prog 42 #[.pointer (some ⟨r, 0, none⟩), .int .i64 p, .int .i64 q] W fun e w' => e = .returned (.int .i64 (frkE S p q)) ∧ BLive w0 t r X (N + 1) Sp (frkS S p q) w' ∧ Same X W w' := by
  obtain ⟨ot, og, h⟩ := h
  obtain ⟨A, cap, hx⟩ := h.rf
  exact (rfork_any r og S A cap W hx p q).mono fun e w' d => h.rstep (good_frk h.g p q) (small_frk h.s p q) (by rw [len_frk]; have := h.n; omega) d
theorem pOpen (h : BLive w0 t r X N S S W) (p : Int) (o : Op) (ho : o.k < 256) : Calls Try.prog 14 #[.pointer (some ⟨t, 0, none⟩), .int .i64 p, .agg #[.int .u8 o.k, .int .i64 o.r, .int .i64 o.p]] W fun e w' => e = .returned (.tuple #[.int .i64 (opnV S p o), .int .i64 (opnE S p o)]) ∧ BLive w0 t r X N (opnS S p o) S w' ∧ Same X W w' := by
  obtain ⟨ot, og, h⟩ := h
  obtain ⟨pb, sb, hp⟩ := h.p
  exact (open_any t ot S pb sb W hp h.g p o ho).mono fun e w' d => h.pstep d
theorem rOpen {Sp : St} (_hN : N ≤ 499) (h : BLive w0 t r X N Sp S W) (p : Int) (o : Op) (ho : o.k < 256) : Calls Try.prog 43 #[.pointer (some ⟨r, 0, none⟩), .int .i64 p, .agg #[.int .u8 o.k, .int .i64 o.r, .int .i64 o.p]] W fun e w' => e = .returned (.tuple #[.int .i64 (opnV S p o), .int .i64 (opnE S p o)]) ∧ BLive w0 t r X (N + 1) Sp (opnS S p o) w' ∧ Same X W w' := by
  obtain ⟨ot, og, h⟩ := h
  obtain ⟨A, cap, hx⟩ := h.rf
  exact (ropen_any r og S A cap W hx (by have := h.n; omega) p o ho).mono fun e w' d => h.rstep (good_opn h.g p o ho) (small_opn h.s p o) (by have := len_opn S p o; have := h.n; omega) d
theorem pDup (h : BLive w0 t r X N S S W) (p k : Int) : Calls Try.prog 15 #[.pointer (some ⟨t, 0, none⟩), .int .i64 p, .int .i64 k] W fun e w' => e = .returned (.tuple #[.int .i64 (dupV S p k), .int .i64 (dupE S p k)]) ∧ BLive w0 t r X N (dupS S p k) S w' ∧ Same X W w' := by
  obtain ⟨ot, og, h⟩ := h
  obtain ⟨pb, sb, hp⟩ := h.p
  exact (dup_any t ot S pb sb W hp p k).mono fun e w' d => h.pstep d
theorem rDup {Sp : St} (_hN : N ≤ 499) (h : BLive w0 t r X N Sp S W) (p k : Int) : Calls Try.prog 44 #[.pointer (some ⟨r, 0, none⟩), .int .i64 p, .int .i64 k] W fun e w' => e = .returned (.tuple #[.int .i64 (dupV S p k), .int .i64 (dupE S p k)]) ∧ BLive w0 t r X (N + 1) Sp (dupS S p k) w' ∧ Same X W w' := by
  obtain ⟨ot, og, h⟩ := h
  obtain ⟨A, cap, hx⟩ := h.rf
  exact (rdup_any r og S A cap W hx p k).mono fun e w' d => h.rstep (good_dup h.g p k) (small_dup h.s p k) (by rw [len_dup]; have := h.n; omega) d
theorem pClose (h : BLive w0 t r X N S S W) (p k : Int) : Calls Try.prog 16 #[.pointer (some ⟨t, 0, none⟩), .int .i64 p, .int .i64 k] W fun e w' => e = .returned (.tuple #[.agg #[.int .u8 (getO S p k).k, .int .i64 (getO S p k).r, .int .i64 (getO S p k).p], .bool (cloL S p k), .int .i64 (atE S p k)]) ∧ BLive w0 t r X N (cloS S p k) S w' ∧ Same X W w' := by
  obtain ⟨ot, og, h⟩ := h
  obtain ⟨pb, sb, hp⟩ := h.p
  exact (close_any t ot S pb sb W hp p k).mono fun e w' d => h.pstep d
theorem rClose {Sp : St} (_hN : N ≤ 499) (h : BLive w0 t r X N Sp S W) (p k : Int) : Calls Try.prog 45 #[.pointer (some ⟨r, 0, none⟩), .int .i64 p, .int .i64 k] W fun e w' => e = .returned (.tuple #[.agg #[.int .u8 (getO S p k).k, .int .i64 (getO S p k).r, .int .i64 (getO S p k).p], .bool (cloL S p k), .int .i64 (atE S p k)]) ∧ BLive w0 t r X (N + 1) Sp (cloS S p k) w' ∧ Same X W w' := by
  obtain ⟨ot, og, h⟩ := h
  obtain ⟨A, cap, hx⟩ := h.rf
  refine (rclose_any r og S A cap W hx h.g p k).mono fun e w' d => ?_
  exact h.rstep (good_clo h.g p k) (small_clo h.s p k) (by rw [len_clo]; have := h.n; omega) ⟨d.1, og, ⟨A, cap, d.2.1⟩, fun g hg => .inl hg, d.2.2⟩
theorem pMove (h : BLive w0 t r X N S S W) (p k x : Int) : Calls Try.prog 20 #[.pointer (some ⟨t, 0, none⟩), .int .i64 p, .int .i64 k, .int .i64 x] W fun e w' => e = .returned (.int .i64 (atE S p k)) ∧ BLive w0 t r X N (movS S p k x) S w' ∧ Same X W w' := by
  obtain ⟨ot, og, h⟩ := h
  obtain ⟨pb, sb, hp⟩ := h.p
  exact (move_any t ot S pb sb W hp h.g p k x).mono fun e w' d => h.pstep d
theorem rMove {Sp : St} (_hN : N ≤ 499) (h : BLive w0 t r X N Sp S W) (p k x : Int) : Calls Try.prog 46 #[.pointer (some ⟨r, 0, none⟩), .int .i64 p, .int .i64 k, .int .i64 x] W fun e w' => e = .returned (.int .i64 (atE S p k)) ∧ BLive w0 t r X (N + 1) Sp (movS S p k x) w' ∧ Same X W w' := by
  obtain ⟨ot, og, h⟩ := h
  obtain ⟨A, cap, hx⟩ := h.rf
  exact (rmove_any r og S A cap W hx h.g (by have := h.n; omega) p k x).mono fun e w' d => h.rstep (good_mov h.g p k x) (small_mov h.s p k x) (by rw [len_mov]; have := h.n; omega) d
theorem pEnd (h : BLive w0 t r X N S S W) (p : Int) : Calls Try.prog 12 #[.pointer (some ⟨t, 0, none⟩), .int .i64 p] W fun e w' => ∃ A cap, e = .returned (.tuple #[.slice A (finO S p).length cap, .int .i64 (ofE S p)]) ∧ Row w' A cap (finO S p) ∧ BLive w0 t r (ownA A ++ X) N (finS S p) S w' ∧ Same X W w' := by
  obtain ⟨ot, og, h⟩ := h
  obtain ⟨pb, sb, hp⟩ := h.p
  refine (end_any t ot S pb sb W hp p).mono fun e w' ⟨A, cap, he, hr, ha, hq, hu⟩ => ?_
  obtain ⟨_, ⟨ot', og', h'⟩, hs⟩ := h.pstep (V := .bool true) (e := .returned (.bool true)) ⟨rfl, ot, hq, fun g hg => .inl hg, hu⟩
  refine ⟨A, cap, he, hr, ⟨ot, og, hq, h.rf.upd hu (fun g hg hm => h.d g hm hg), h.d, h.lt, h.lr, fun g hg => ?_, h.u.trans hu (fun g hg => .inr (h.lt g hg)), h.g, h.s, h.n⟩, hs⟩
  rcases List.mem_append.1 hg with hg | hg
  · have h1 := ha g hg
    exact ⟨fun hm => by have := h.p.lt g hm; omega, fun hm => by have := h.rf.lt g hm; omega, hr.lt g hg⟩
  · obtain ⟨h1, h2, h3⟩ := h.x g hg
    exact ⟨h1, h2, Nat.lt_of_lt_of_le h3 hu.size⟩
theorem rEnd {Sp : St} (h : BLive w0 t r X N Sp S W) (p : Int) : Calls Try.prog 40 #[.pointer (some ⟨r, 0, none⟩), .int .i64 p] W fun e w' => ∃ A cap, e = .returned (.tuple #[.slice A (finO S p).length cap, .int .i64 (ofE S p)]) ∧ Row w' A cap (finO S p) ∧ BLive w0 t r X (N + 1) Sp (finS S p) w' ∧ Same X W w' := by
  obtain ⟨ot, og, h⟩ := h
  obtain ⟨A, cap, hx⟩ := h.rf
  refine (rend_any r og S A cap W hx h.g p).mono fun e w' ⟨A', cap', he, hr, ha, hq, hu⟩ => ?_
  obtain ⟨_, hb, hs⟩ := h.rstep (V := .bool true) (e := .returned (.bool true)) (good_fin h.g h.s p) (small_fin h.s p) (N' := N + 1) (by rw [len_fin]; have := h.n; omega) ⟨rfl, og, hq, fun g hg => .inl hg, hu⟩
  exact ⟨A', cap', he, hr, hb, hs⟩
end

end Go.Proofs.Ytedaffkdfniikaa
