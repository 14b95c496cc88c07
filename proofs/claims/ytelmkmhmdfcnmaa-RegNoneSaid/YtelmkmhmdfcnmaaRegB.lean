/- The registry: three maps in a box; may, cut, put. -/
import Derived.Test.YtelmkmhmdfcnmaaRegA
import Derived.Deep.RegionHeld3
import Derived.BigQuiet
namespace Go.Proofs.Ytelmkmhmdfcnmaa
open Go.RowKit Go.Maps

/-- What is held: of each frame 1 more than its sector (0: none); of each sector its frame; which frames are written. -/
structure St where
  sec : Nat → Nat
  fr : Int → Option Nat
  wr : Nat → Bool
def secV (S : St) (k : Int) : Option Value := if 0 ≤ k ∧ S.sec k.toNat ≠ 0 then some (.int .i64 ((S.sec k.toNat : Int) - 1)) else none
def frV (S : St) (s : Int) : Option Value := (S.fr s).map fun i => .int .u8 (i : Int)
def wrV (S : St) (k : Int) : Option Value := if 0 ≤ k ∧ S.wr k.toNat = true then some (.bool true) else none
def RegT : TypeId := 57
/-- At c lies a registry whose maps are b1, b2, b3. -/
structure RegAt (w : World) (c b1 b2 b3 : Nat) (S : St) : Prop where
  box : Blk w c RegT #[.map (some b1), .map (some b2), .map (some b3)]
  m1 : MapAt w b1 .u8 (secV S)
  m2 : MapAt w b2 .i64 (frV S)
  m3 : MapAt w b3 .u8 (wrV S)
  n12 : b1 ≠ b2
  n13 : b1 ≠ b3
  n23 : b2 ≠ b3
section
variable {w w' : World} {c b1 b2 b3 : Nat} {S : St} {X : List Nat}
theorem RegAt.nc1 (h : RegAt w c b1 b2 b3 S) : c ≠ b1 := h.m1.ne h.box
theorem RegAt.nc2 (h : RegAt w c b1 b2 b3 S) : c ≠ b2 := h.m2.ne h.box
theorem RegAt.nc3 (h : RegAt w c b1 b2 b3 S) : c ≠ b3 := h.m3.ne h.box
theorem RegAt.upd (h : RegAt w c b1 b2 b3 S) (hu : Upd X w w') (h0 : c ∉ X) (h1 : b1 ∉ X) (h2 : b2 ∉ X) (h3 : b3 ∉ X) : RegAt w' c b1 b2 b3 S :=
  ⟨h.box.upd hu h0, h.m1.upd hu h1, h.m2.upd hu h2, h.m3.upd hu h3, h.n12, h.n13, h.n23⟩
theorem RegAt.upd0 (h : RegAt w c b1 b2 b3 S) (hu : Upd [] w w') : RegAt w' c b1 b2 b3 S := h.upd hu (by simp) (by simp) (by simp) (by simp)
end
theorem MapAt.congr {w : World} {b : Nat} {q : IntKind} {f g : Int → Option Value} (h : MapAt w b q f) (hfg : ∀ k, f k = g k) : MapAt w b q g := by
  have : f = g := funext hfg
  rw [← this]
  exact h
theorem wf8 {n : Nat} (h : n < 256) : (Lit.int .u8 (n : Int)).wf = true := by simp [Lit.wf, IntKind.min, IntKind.max, IntKind.bits, IntKind.signed]; omega
theorem wf64 {n : Int} (h0 : -9223372036854775808 ≤ n) (h : n ≤ 9223372036854775807) : (Lit.int .i64 n).wf = true := by simp [Lit.wf, IntKind.min, IntKind.max, IntKind.bits, IntKind.signed]; omega
theorem u5 : Try.prog.underlying 5 = some (.int .u8) := by kernel_rfl
theorem u3 : Try.prog.underlying 3 = some (.int .i64) := by kernel_rfl
theorem t53 : Try.prog.underlying 53 = some (.map 5 3) := by kernel_rfl
theorem t54 : Try.prog.underlying 54 = some (.map 3 5) := by kernel_rfl
theorem t55 : Try.prog.underlying 55 = some (.map 5 4) := by kernel_rfl
theorem z3 (w : World) : (zeroValue 3).run Try.prog w = .ok (.int .i64 0) w := by kernel_rfl
theorem z5 (w : World) : (zeroValue 5).run Try.prog w = .ok (.int .u8 0) w := by kernel_rfl
theorem z4 (w : World) : (zeroValue 4).run Try.prog w = .ok (.bool false) w := by kernel_rfl
section
variable {w : World} {c b1 b2 b3 : Nat} {S : St}
theorem RegAt.look1 (h : RegAt w c b1 b2 b3 S) (n : Nat) (hn : n < 256) (ok : Bool) : (Instr.lookup 53 (.map (some b1)) (.int .u8 n) ok).run Try.prog w =
    .ok (if ok then .tuple #[.int .i64 (if S.sec n = 0 then 0 else (S.sec n : Int) - 1), .bool (decide (S.sec n ≠ 0))] else .int .i64 (if S.sec n = 0 then 0 else (S.sec n : Int) - 1)) w := by
  rw [h.m1.look u5 t53 (z3 w) n (wf8 hn) ok]
  unfold secV
  by_cases h0 : S.sec n = 0 <;> cases ok <;> simp [h0]
theorem RegAt.look2 (h : RegAt w c b1 b2 b3 S) (s : Int) (h0 : -9223372036854775808 ≤ s) (h1 : s ≤ 9223372036854775807) (ok : Bool) : (Instr.lookup 54 (.map (some b2)) (.int .i64 s) ok).run Try.prog w =
    .ok (if ok then .tuple #[.int .u8 (((S.fr s).getD 0 : Nat) : Int), .bool (S.fr s).isSome] else .int .u8 (((S.fr s).getD 0 : Nat) : Int)) w := by
  rw [h.m2.look u3 t54 (z5 w) s (wf64 h0 h1) ok]
  unfold frV
  cases S.fr s <;> cases ok <;> simp
theorem RegAt.look3 (h : RegAt w c b1 b2 b3 S) (n : Nat) (hn : n < 256) : (Instr.lookup 55 (.map (some b3)) (.int .u8 n) false).run Try.prog w = .ok (.bool (S.wr n)) w := by
  rw [h.m3.look u5 t55 (z4 w) n (wf8 hn) false]
  unfold wrV
  cases hq : S.wr n <;> simp [hq]
end

def mayE (S : St) (n : Nat) (holds : Bool) : Int := if 64 ≤ n then 2 else if holds = true ∧ S.sec n = 0 then 5 else 0
set_option maxHeartbeats 1000000 in
theorem may_any (c b1 b2 b3 : Nat) (S : St) (w : World) (h : RegAt w c b1 b2 b3 S) (n : Nat) (hn : n < 256) (holds : Bool) :
    Calls Try.prog 26 #[.pointer (some ⟨c, 0, none⟩), .int .u8 n, .bool holds] w fun e w' => e = .returned (.int .i64 (mayE S n holds)) ∧ w' = w := by
  unfold mayE
  have hl := h.look1 n hn true
  have hc := h.box.cellAt (i := 0) (v := .map (some b1)) rfl
  by_cases h64 : 64 ≤ n
  · have j1 : (64 : Int) ≤ (n : Int) := by omega
    rw [if_pos h64]
    clear h hl h64
    go_enter Try.func26, Try.ntmps26
    go_wp2_with fail
    go_ret
    exact ⟨by simp, rfl⟩
  · have j1 : ¬ (64 : Int) ≤ (n : Int) := by omega
    rw [if_neg h64]
    by_cases h0 : S.sec n = 0
    · simp only [h0, if_pos, ne_eq, not_true_eq_false, decide_false] at hl
      have hm : (if holds = true ∧ S.sec n = 0 then (5 : Int) else 0) = if holds = true then 5 else 0 := by simp [h0]
      rw [hm]
      clear hm
      cases holds
      · rw [if_neg (by simp)]
        clear h h64 h0
        go_enter Try.func26, Try.ntmps26
        go_wp2_with fail
        go_ret
        exact ⟨by simp, rfl⟩
      · rw [if_pos rfl]
        clear h h64 h0
        go_enter Try.func26, Try.ntmps26
        go_wp2_with fail
        go_ret
        exact ⟨by simp, rfl⟩
    · have hd : decide (S.sec n ≠ 0) = true := by simp [h0]
      rw [if_neg h0, hd] at hl
      rw [if_neg (fun hh => h0 hh.2)]
      generalize S.sec n = s at *
      cases holds
      all_goals
        clear h h64 h0 hd
        go_enter Try.func26, Try.ntmps26
        go_wp2_with fail
        go_ret
        exact ⟨by simp, rfl⟩

/-- Frame n, which holds a sector, holds none. -/
def cutS (S : St) (n : Nat) : St := ⟨fun i => if i = n then 0 else S.sec i, fun s => if s = (S.sec n : Int) - 1 then none else S.fr s, fun i => if i = n then false else S.wr i⟩
def putS (S : St) (n : Nat) (s : Nat) (b : Bool) : St := ⟨fun i => if i = n then s + 1 else S.sec i, fun j => if j = (s : Int) then some n else S.fr j, fun i => if i = n ∧ b = true then true else S.wr i⟩

set_option maxHeartbeats 1000000 in
theorem cut_any (c b1 b2 b3 : Nat) (S : St) (w : World) (h : RegAt w c b1 b2 b3 S) (n : Nat) (hn : n < 256) (h0 : S.sec n ≠ 0) (h64 : S.sec n ≤ 64) :
    Calls Try.prog 27 #[.pointer (some ⟨c, 0, none⟩), .int .u8 n] w fun e w' =>
      e = .returned (.tuple #[.int .i64 ((S.sec n : Int) - 1), .bool (S.wr n)]) ∧ RegAt w' c b1 b2 b3 (cutS S n) ∧ Upd [b1, b2, b3] w w' := by
  have l1 : ∀ k, (Instr.lookup 53 (.map (some b1)) (.int .u8 n) false).run Try.prog (w.drewN k) = .ok (.int .i64 ((S.sec n : Int) - 1)) (w.drewN k) := fun k => by
    have := RegAt.look1 (w := w.drewN k) (h.upd0 ((Upd.refl [] w).drewN k)) n hn false
    rw [this]
    simp [h0]
  have l3 : ∀ k, (Instr.lookup 55 (.map (some b3)) (.int .u8 n) false).run Try.prog (w.drewN k) = .ok (.bool (S.wr n)) (w.drewN k) := fun k => RegAt.look3 (w := w.drewN k) (h.upd0 ((Upd.refl [] w).drewN k)) n hn
  have hc0 := h.box.cellAt (i := 0) (v := .map (some b1)) rfl
  have hc2 := h.box.cellAt (i := 2) (v := .map (some b3)) rfl
  go_enter Try.func27, Try.ntmps27
  go_wp2_with fail
  go_quiet (fail)
  rename_i nq
  have hq := h.upd0 ((Upd.refl [] w).drewN nq)
  have hu0 := (Upd.refl [b1, b2, b3] w).drewN nq
  clear l1 l3 hc0 hc2
  generalize w.drewN nq = w0 at *
  obtain ⟨w1, d1, m1, u1⟩ := hq.m1.drop u5 t53 n (wf8 hn)
  obtain ⟨w2, d2, m2, u2⟩ := (hq.m2.upd u1 (by simp; exact fun e => h.n12 e.symm)).drop u3 t54 ((S.sec n : Int) - 1) (wf64 (by omega) (by omega))
  obtain ⟨w3, d3, m3, u3⟩ := ((hq.m3.upd u1 (by simp; exact fun e => h.n13 e.symm)).upd u2 (by simp; exact fun e => h.n23 e.symm)).drop u5 t55 n (wf8 hn)
  have c0 := hq.box.cellAt (i := 0) (v := .map (some b1)) rfl
  have hb1 := hq.box.upd u1 (by simp; exact h.nc1)
  have c1 := hb1.cellAt (i := 1) (v := .map (some b2)) rfl
  have hb2 := hb1.upd u2 (by simp; exact h.nc2)
  have c2 := hb2.cellAt (i := 2) (v := .map (some b3)) rfl
  have HF : Hid (RegAt w3 c b1 b2 b3 (cutS S n) ∧ Upd [b1, b2, b3] w w3) := Lib.hid ⟨⟨hb2.upd u3 (by simp; exact h.nc3),
    ((m1.upd u2 (by simp; exact h.n12)).upd u3 (by simp; exact h.n13)).congr (fun k => by
      unfold secV cutS
      by_cases hk : k = (n : Int)
      · subst hk; simp
      · simp only [if_neg hk]
        by_cases hk0 : 0 ≤ k
        · have : k.toNat ≠ n := by omega
          simp [this]
        · simp [hk0]),
    (m2.upd u3 (by simp; exact h.n23)).congr (fun k => by
      unfold frV cutS
      by_cases hk : k = (S.sec n : Int) - 1
      · simp [hk]
      · simp [hk]),
    m3.congr (fun k => by
      unfold wrV cutS
      by_cases hk : k = (n : Int)
      · subst hk; simp
      · simp only [if_neg hk]
        by_cases hk0 : 0 ≤ k
        · have : k.toNat ≠ n := by omega
          simp [this]
        · simp [hk0]), h.n12, h.n13, h.n23⟩,
    ((hu0.trans u1 (by intro s hs; left; simp at hs; simp [hs])).trans u2 (by intro s hs; left; simp at hs; simp [hs])).trans u3 (by intro s hs; left; simp at hs; simp [hs])⟩
  clear hq hu0 h m1 m2 m3 u1 u2 u3 hb1 hb2 h0
  go_wp2_with fail
  go_ret2
  exact ⟨by simp, HF.out⟩

set_option maxHeartbeats 1000000 in
theorem put_any (c b1 b2 b3 : Nat) (S : St) (w : World) (h : RegAt w c b1 b2 b3 S) (n : Nat) (hn : n < 256) (s : Nat) (hs : s < 64) (b : Bool) :
    Calls Try.prog 28 #[.pointer (some ⟨c, 0, none⟩), .int .u8 n, .int .i64 s, .bool b] w fun e w' =>
      e = .returned (.tuple #[]) ∧ RegAt w' c b1 b2 b3 (putS S n s b) ∧ Upd [b1, b2, b3] w w' := by
  obtain ⟨w1, d1, m1, u1⟩ := h.m1.store u5 t53 n (wf8 hn) (.int .i64 s)
  obtain ⟨w2, d2, m2, u2⟩ := (h.m2.upd u1 (by simp; exact fun e => h.n12 e.symm)).store u3 t54 (s : Int) (wf64 (by omega) (by omega)) (.int .u8 n)
  have m3 := (h.m3.upd u1 (by simp; exact fun e => h.n13 e.symm)).upd u2 (by simp; exact fun e => h.n23 e.symm)
  obtain ⟨w3, d3, m3', u3⟩ := m3.store u5 t55 n (wf8 hn) (.bool true)
  have c0 := h.box.cellAt (i := 0) (v := .map (some b1)) rfl
  have hb1 := h.box.upd u1 (by simp; exact h.nc1)
  have c1 := hb1.cellAt (i := 1) (v := .map (some b2)) rfl
  have hb2 := hb1.upd u2 (by simp; exact h.nc2)
  have c2 := hb2.cellAt (i := 2) (v := .map (some b3)) rfl
  have e1 : ∀ (b : Bool) (k : Int), (if k = (n : Int) then some (.int .i64 (s : Int)) else secV S k) = secV (putS S n s b) k := fun b k => by
    unfold secV putS
    by_cases hk : k = (n : Int)
    · subst hk; simp
    · simp only [if_neg hk]
      by_cases hk0 : 0 ≤ k
      · have : k.toNat ≠ n := by omega
        simp [this]
      · simp [hk0]
  have e2 : ∀ (b : Bool) (k : Int), (if k = (s : Int) then some (.int .u8 (n : Int)) else frV S k) = frV (putS S n s b) k := fun b k => by
    unfold frV putS
    by_cases hk : k = (s : Int)
    · simp [hk]
    · simp [hk]
  cases b with
  | false =>
    have HF : Hid (RegAt w2 c b1 b2 b3 (putS S n s false) ∧ Upd [b1, b2, b3] w w2) := Lib.hid ⟨⟨hb2, (m1.upd u2 (by simp; exact h.n12)).congr (e1 false), m2.congr (e2 false), m3.congr (fun k => by unfold wrV putS; simp), h.n12, h.n13, h.n23⟩,
      ((Upd.refl [b1, b2, b3] w).trans u1 (by intro s hs; left; simp at hs; simp [hs])).trans u2 (by intro s hs; left; simp at hs; simp [hs])⟩
    clear h m1 m2 m3 m3' u1 u2 u3 hb1 hb2 e1 e2
    go_enter Try.func28, Try.ntmps28
    go_wp2_with fail
    go_end0
    exact ⟨rfl, HF.out⟩
  | true =>
    have HF : Hid (RegAt w3 c b1 b2 b3 (putS S n s true) ∧ Upd [b1, b2, b3] w w3) := Lib.hid ⟨⟨hb2.upd u3 (by simp; exact h.nc3), ((m1.upd u2 (by simp; exact h.n12)).upd u3 (by simp; exact h.n13)).congr (e1 true), (m2.upd u3 (by simp; exact h.n23)).congr (e2 true), m3'.congr (fun k => by
      unfold wrV putS
      by_cases hk : k = (n : Int)
      · subst hk; simp
      · simp only [if_neg hk]
        by_cases hk0 : 0 ≤ k
        · have : k.toNat ≠ n := by omega
          simp [this]
        · simp [hk0]), h.n12, h.n13, h.n23⟩,
      (((Upd.refl [b1, b2, b3] w).trans u1 (by intro s hs; left; simp at hs; simp [hs])).trans u2 (by intro s hs; left; simp at hs; simp [hs])).trans u3 (by intro s hs; left; simp at hs; simp [hs])⟩
    clear h m1 m2 m3 m3' u1 u2 u3 hb1 hb2 e1 e2
    go_enter Try.func28, Try.ntmps28
    go_wp2_with fail
    go_end0
    exact ⟨rfl, HF.out⟩

end Go.Proofs.Ytelmkmhmdfcnmaa
