/- The registry's deeds: Bind, Unbind, Dirty, Move; and what it tells: Sector, Written, Frame. -/
import Derived.Test.YtelmkmhmdfcnmaaRegB
namespace Go.Proofs.Ytelmkmhmdfcnmaa
open Go.RowKit Go.Maps

/-- A deed is done: it answers V, and the registry then holds S'. -/
def RChg (w : World) (c b1 b2 b3 : Nat) (V : Value) (S' : St) (e : Ending) (w' : World) : Prop := e = .returned V ∧ RegAt w' c b1 b2 b3 S' ∧ Upd [b1, b2, b3] w w'
def bindE (S : St) (n : Nat) (s : Int) : Int := if 64 ≤ n then 2 else if s < 0 ∨ 64 ≤ s then 2 else if S.sec n ≠ 0 ∨ (S.fr s).isSome = true then 6 else 0
def bindS (S : St) (n : Nat) (s : Int) : St := if bindE S n s = 0 then putS S n s.toNat false else S
section
variable (c b1 b2 b3 : Nat) (S : St) (w : World) (h : RegAt w c b1 b2 b3 S)
include h

set_option maxHeartbeats 2000000 in
theorem bind_any (n : Nat) (hn : n < 256) (s : Int) (hs0 : -9223372036854775808 ≤ s) (hs1 : s ≤ 9223372036854775807) :
    Calls Try.prog 15 #[.pointer (some ⟨c, 0, none⟩), .int .u8 n, .int .i64 s] w (RChg w c b1 b2 b3 (.int .i64 (bindE S n s)) (bindS S n s)) := by
  have HM := Lib.hid (may_any c b1 b2 b3 S w h n hn false)
  have H := Lib.hid h
  unfold mayE at HM
  unfold bindS bindE
  by_cases h64 : 64 ≤ n
  · rw [if_pos h64, if_neg (by decide)]
    rw [if_pos h64] at HM
    clear h h64
    go_enter Try.func15, Try.ntmps15
    go_wp2_with fail
    refine HM.out.mono ?_; rintro e w' ⟨rfl, rfl⟩
    go_wp2_with fail
    go_ret
    exact ⟨by simp, H.out, Upd.refl _ _⟩
  · rw [if_neg h64]
    rw [if_neg h64, if_neg (by simp)] at HM
    by_cases hr : s < 0 ∨ 64 ≤ s
    · rw [if_pos hr, if_neg (by decide)]
      clear h h64
      rcases hr with hr | hr
      · go_enter Try.func15, Try.ntmps15
        go_wp2_with fail
        refine HM.out.mono ?_; rintro e w' ⟨rfl, rfl⟩
        go_wp2_with fail
        go_ret
        exact ⟨by simp, H.out, Upd.refl _ _⟩
      · have hr0 : ¬ s < 0 := by omega
        go_enter Try.func15, Try.ntmps15
        go_wp2_with fail
        refine HM.out.mono ?_; rintro e w' ⟨rfl, rfl⟩
        go_wp2_with fail
        go_ret
        exact ⟨by simp, H.out, Upd.refl _ _⟩
    · rw [if_neg hr]
      have hr0 : ¬ s < 0 := by omega
      have hr1 : ¬ 64 ≤ s := by omega
      have l1 := h.look1 n hn true
      have l2 := h.look2 s hs0 hs1 true
      have c0 := h.box.cellAt (i := 0) (v := .map (some b1)) rfl
      have c1 := h.box.cellAt (i := 1) (v := .map (some b2)) rfl
      have HP := Lib.hid (put_any c b1 b2 b3 S w h n hn s.toNat (by omega) false)
      have hsn : ((s.toNat : Nat) : Int) = s := by omega
      rw [hsn] at HP
      simp only [if_true] at l1 l2
      generalize (if S.sec n = 0 then 0 else (S.sec n : Int) - 1) = v1 at *
      generalize (((S.fr s).getD 0 : Nat) : Int) = v2 at *
      clear hr hsn
      cases hf : (S.fr s).isSome with
      | true =>
        rw [if_pos (Or.inr rfl), if_neg (by decide)]
        rw [hf] at l2
        cases hd : decide (S.sec n ≠ 0)
        all_goals
          rw [hd] at l1
          clear h h64 hf hd
          go_enter Try.func15, Try.ntmps15
          go_wp2_with fail
          refine HM.out.mono ?_; rintro e w' ⟨rfl, rfl⟩
          go_wp2_with fail
          go_ret
          exact ⟨by simp, H.out, Upd.refl _ _⟩
      | false =>
        rw [hf] at l2
        by_cases h0 : S.sec n = 0
        · rw [if_neg (by simp [h0]), if_pos rfl]
          have hd : decide (S.sec n ≠ 0) = false := by simp [h0]
          rw [hd] at l1
          clear h h64 hf hd h0
          go_enter Try.func15, Try.ntmps15
          go_wp2_with fail
          refine HM.out.mono ?_; rintro e w' ⟨rfl, rfl⟩
          go_wp2_with fail
          refine HP.out.mono ?_; rintro e w1 ⟨rfl, h1, h2⟩
          have H1 := Lib.hid h1
          have H2 := Lib.hid h2
          clear h1 h2
          go_wp2_with fail
          go_ret
          exact ⟨by simp, H1.out, H2.out⟩
        · rw [if_pos (Or.inl h0), if_neg (by decide)]
          have hd : decide (S.sec n ≠ 0) = true := by simp [h0]
          rw [hd] at l1
          clear h h64 hf hd h0
          go_enter Try.func15, Try.ntmps15
          go_wp2_with fail
          refine HM.out.mono ?_; rintro e w' ⟨rfl, rfl⟩
          go_wp2_with fail
          go_ret
          exact ⟨by simp, H.out, Upd.refl _ _⟩
end

def unbE (S : St) (n : Nat) : Int := if mayE S n true ≠ 0 then mayE S n true else if S.wr n = true then 8 else 0
def unbV (S : St) (n : Nat) : Int := if unbE S n = 0 then (S.sec n : Int) - 1 else 0
def unbS (S : St) (n : Nat) : St := if unbE S n = 0 then cutS S n else S
theorem may_zero {S : St} {n : Nat} (h : mayE S n true = 0) : n < 64 ∧ S.sec n ≠ 0 := by
  unfold mayE at h
  split at h
  · cases h
  · split at h
    · cases h
    · rename_i h1 h2
      exact ⟨by omega, fun hh => h2 ⟨rfl, hh⟩⟩
def dirS (S : St) (n : Nat) (on : Bool) : St := if mayE S n true = 0 then ⟨S.sec, S.fr, fun i => if i = n then on else S.wr i⟩ else S
section
variable (c b1 b2 b3 : Nat) (S : St) (w : World) (h : RegAt w c b1 b2 b3 S)
include h

set_option maxHeartbeats 2000000 in
theorem unbind_any (n : Nat) (hn : n < 256) (hle : ∀ i, S.sec i ≤ 64) :
    Calls Try.prog 12 #[.pointer (some ⟨c, 0, none⟩), .int .u8 n] w (RChg w c b1 b2 b3 (.tuple #[.int .i64 (unbV S n), .int .i64 (unbE S n)]) (unbS S n)) := by
  have HM := Lib.hid (may_any c b1 b2 b3 S w h n hn true)
  have H := Lib.hid h
  by_cases hm : mayE S n true = 0
  · obtain ⟨_, h0⟩ := may_zero hm
    rw [hm] at HM
    have l3 := h.look3 n hn
    have c2 := h.box.cellAt (i := 2) (v := .map (some b3)) rfl
    have HC := Lib.hid (cut_any c b1 b2 b3 S w h n hn h0 (hle n))
    cases hw : S.wr n with
    | true =>
      have hE : unbE S n = 8 := by unfold unbE; simp [hm, hw]
      have hV : unbV S n = 0 := by unfold unbV; simp [hE]
      have hS : unbS S n = S := by unfold unbS; simp [hE]
      rw [hV, hS, hE]
      rw [hw] at l3
      clear hE hV hS
      clear h hm h0 hw
      go_enter Try.func12, Try.ntmps12
      go_wp2_with fail
      refine HM.out.mono ?_; rintro e w' ⟨rfl, rfl⟩
      go_wp2_with fail
      go_ret2
      exact ⟨by simp, H.out, Upd.refl _ _⟩
    | false =>
      have hE : unbE S n = 0 := by unfold unbE; simp [hm, hw]
      have hV : unbV S n = (S.sec n : Int) - 1 := by unfold unbV; simp [hE]
      have hS : unbS S n = cutS S n := by unfold unbS; simp [hE]
      rw [hV, hS, hE]
      rw [hw] at l3 HC
      clear hE hV hS
      generalize ((S.sec n : Int) - 1) = v at *
      clear h hm h0 hw
      go_enter Try.func12, Try.ntmps12
      go_wp2_with fail
      refine HM.out.mono ?_; rintro e w' ⟨rfl, rfl⟩
      go_wp2_with fail
      refine HC.out.mono ?_; rintro e w1 ⟨rfl, h1, h2⟩
      have H1 := Lib.hid h1
      have H2 := Lib.hid h2
      clear h1 h2
      go_wp2_with fail
      go_ret2
      exact ⟨by simp, H1.out, H2.out⟩
  · have hE : unbE S n = mayE S n true := by unfold unbE; simp [hm]
    have hV : unbV S n = 0 := by unfold unbV; simp [hE, hm]
    have hS : unbS S n = S := by unfold unbS; simp [hE, hm]
    rw [hV, hS, hE]
    clear hE hV hS
    have hb : (mayE S n true == 0) = false := by simp [hm]
    have hb' : (mayE S n true != 0) = true := by simp [hm]
    generalize mayE S n true = ev at *
    clear h hm
    go_enter Try.func12, Try.ntmps12
    go_wp2_with fail
    refine HM.out.mono ?_; rintro e w' ⟨rfl, rfl⟩
    go_wp2_with fail
    go_ret2
    exact ⟨by simp, H.out, Upd.refl _ _⟩

set_option maxHeartbeats 2000000 in
theorem dirty_any (n : Nat) (hn : n < 256) (on : Bool) :
    Calls Try.prog 13 #[.pointer (some ⟨c, 0, none⟩), .int .u8 n, .bool on] w (RChg w c b1 b2 b3 (.int .i64 (mayE S n true)) (dirS S n on)) := by
  have HM := Lib.hid (may_any c b1 b2 b3 S w h n hn true)
  have H := Lib.hid h
  unfold dirS
  by_cases hm : mayE S n true = 0
  · rw [if_pos hm]
    rw [hm] at HM
    rw [hm]
    obtain ⟨w1, d1, m1, u1⟩ := h.m3.drop u5 t55 n (wf8 hn)
    obtain ⟨w2, d2, m2, u2⟩ := m1.store u5 t55 n (wf8 hn) (.bool true)
    have c2 := h.box.cellAt (i := 2) (v := .map (some b3)) rfl
    have hb1 := h.box.upd u1 (by simp; exact h.nc3)
    have d2' := hb1.cellAt (i := 2) (v := .map (some b3)) rfl
    cases on with
    | false =>
      have HF : Hid (RegAt w1 c b1 b2 b3 ⟨S.sec, S.fr, fun i => if i = n then false else S.wr i⟩ ∧ Upd [b1, b2, b3] w w1) := Lib.hid ⟨⟨hb1, h.m1.upd u1 (by simp; exact h.n13), h.m2.upd u1 (by simp; exact h.n23), m1.congr (fun k => by
          unfold wrV
          by_cases hk : k = (n : Int)
          · subst hk; simp
          · simp only [if_neg hk]
            by_cases hk0 : 0 ≤ k
            · have : k.toNat ≠ n := by omega
              simp [this]
            · simp [hk0]), h.n12, h.n13, h.n23⟩, (Upd.refl _ w).trans u1 (by intro s hs; left; simp at hs; simp [hs])⟩
      clear h hm m1 m2 u1 u2 hb1
      go_enter Try.func13, Try.ntmps13
      go_wp2_with fail
      refine HM.out.mono ?_; rintro e w' ⟨rfl, rfl⟩
      go_wp2_with fail
      go_ret
      exact ⟨by simp, HF.out⟩
    | true =>
      have HF : Hid (RegAt w2 c b1 b2 b3 ⟨S.sec, S.fr, fun i => if i = n then true else S.wr i⟩ ∧ Upd [b1, b2, b3] w w2) := Lib.hid ⟨⟨hb1.upd u2 (by simp; exact h.nc3), (h.m1.upd u1 (by simp; exact h.n13)).upd u2 (by simp; exact h.n13), (h.m2.upd u1 (by simp; exact h.n23)).upd u2 (by simp; exact h.n23), m2.congr (fun k => by
          unfold wrV
          by_cases hk : k = (n : Int)
          · subst hk; simp
          · simp only [if_neg hk]
            by_cases hk0 : 0 ≤ k
            · have : k.toNat ≠ n := by omega
              simp [this]
            · simp [hk0]), h.n12, h.n13, h.n23⟩, ((Upd.refl _ w).trans u1 (by intro s hs; left; simp at hs; simp [hs])).trans u2 (by intro s hs; left; simp at hs; simp [hs])⟩
      clear h hm m1 m2 u1 u2 hb1
      go_enter Try.func13, Try.ntmps13
      go_wp2_with fail
      refine HM.out.mono ?_; rintro e w' ⟨rfl, rfl⟩
      go_wp2_with fail
      go_ret
      exact ⟨by simp, HF.out⟩
  · rw [if_neg hm]
    have hb : (mayE S n true == 0) = false := by simp [hm]
    have hb' : (mayE S n true != 0) = true := by simp [hm]
    generalize mayE S n true = ev at *
    clear h hm
    go_enter Try.func13, Try.ntmps13
    go_wp2_with fail
    refine HM.out.mono ?_; rintro e w' ⟨rfl, rfl⟩
    go_wp2_with fail
    go_ret
    exact ⟨by simp, H.out, Upd.refl _ _⟩
end

end Go.Proofs.Ytelmkmhmdfcnmaa
