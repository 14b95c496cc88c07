/- The registry's Move, Clear; Sector, Written, Frame; New. -/
import Derived.Test.YtelmkmhmdfcnmaaRegC
import Derived.Carry
namespace Go.Proofs.Ytelmkmhmdfcnmaa
open Go.RowKit Go.Maps

def movE (S : St) (a b : Nat) : Int := if mayE S a false ≠ 0 then mayE S a false else if mayE S b false ≠ 0 then mayE S b false else if mayE S a true ≠ 0 then mayE S a true else if S.sec b ≠ 0 then 6 else 0
def movS (S : St) (a b : Nat) : St := if movE S a b = 0 then putS (cutS S a) b (S.sec a - 1) (S.wr a) else S
section
variable (c b1 b2 b3 : Nat) (S : St) (w : World) (h : RegAt w c b1 b2 b3 S)
include h

set_option maxHeartbeats 2000000 in
theorem move_any (a b : Nat) (ha : a < 256) (hb : b < 256) (hle : ∀ i, S.sec i ≤ 64) :
    Calls Try.prog 19 #[.pointer (some ⟨c, 0, none⟩), .int .u8 a, .int .u8 b] w (RChg w c b1 b2 b3 (.int .i64 (movE S a b)) (movS S a b)) := by
  have M1 := Lib.hid (may_any c b1 b2 b3 S w h a ha false)
  have M2 := Lib.hid (may_any c b1 b2 b3 S w h b hb false)
  have M3 := Lib.hid (may_any c b1 b2 b3 S w h a ha true)
  have H := Lib.hid h
  by_cases h1 : mayE S a false = 0
  · rw [h1] at M1
    by_cases h2 : mayE S b false = 0
    · rw [h2] at M2
      by_cases h3 : mayE S a true = 0
      · rw [h3] at M3
        obtain ⟨_, h0⟩ := may_zero h3
        have l1 := h.look1 b hb true
        simp only [if_true] at l1
        have c0 := h.box.cellAt (i := 0) (v := .map (some b1)) rfl
        by_cases h4 : S.sec b = 0
        · have hE : movE S a b = 0 := by unfold movE; simp [h1, h2, h3, h4]
          have hS : movS S a b = putS (cutS S a) b (S.sec a - 1) (S.wr a) := by unfold movS; simp [hE]
          rw [hE, hS]
          have hd : decide (S.sec b ≠ 0) = false := by simp [h4]
          rw [hd] at l1
          have HC := Lib.hid (cut_any c b1 b2 b3 S w h a ha h0 (hle a))
          have h64 := hle a
          have HP := Lib.hid (fun W hW => put_any c b1 b2 b3 (cutS S a) W hW b hb (S.sec a - 1) (by omega) (S.wr a))
          have hsn : ((S.sec a - 1 : Nat) : Int) = (S.sec a : Int) - 1 := by omega
          rw [hsn] at HP
          generalize ((S.sec a : Int) - 1) = v at *
          generalize (if S.sec b = 0 then 0 else (S.sec b : Int) - 1) = v1 at *
          clear h h1 h2 h3 h4 h0 hE hS hd hsn h64
          go_enter Try.func19, Try.ntmps19
          go_wp2_with fail
          refine M1.out.mono ?_; rintro e w' ⟨rfl, rfl⟩
          go_wp2_with fail
          refine M2.out.mono ?_; rintro e w' ⟨rfl, rfl⟩
          go_wp2_with fail
          refine M3.out.mono ?_; rintro e w' ⟨rfl, rfl⟩
          go_wp2_with fail
          refine HC.out.mono ?_; rintro e w1 ⟨rfl, k1, k2⟩
          have K1 := Lib.hid k1
          have K2 := Lib.hid k2
          clear k1 k2
          go_wp2_with fail
          refine (HP.out w1 K1.out).mono ?_; rintro e w2 ⟨rfl, k1, k2⟩
          have K3 := Lib.hid k1
          have K4 := Lib.hid k2
          clear k1 k2
          go_wp2_with fail
          go_ret
          exact ⟨by simp, K3.out, K2.out.trans' K4.out⟩
        · have hE : movE S a b = 6 := by unfold movE; simp [h1, h2, h3, h4]
          have hS : movS S a b = S := by unfold movS; simp [hE]
          rw [hE, hS]
          have hd : decide (S.sec b ≠ 0) = true := by simp [h4]
          rw [hd] at l1
          generalize (if S.sec b = 0 then 0 else (S.sec b : Int) - 1) = v1 at *
          clear h h1 h2 h3 h4 h0 hE hS hd
          go_enter Try.func19, Try.ntmps19
          go_wp2_with fail
          refine M1.out.mono ?_; rintro e w' ⟨rfl, rfl⟩
          go_wp2_with fail
          refine M2.out.mono ?_; rintro e w' ⟨rfl, rfl⟩
          go_wp2_with fail
          refine M3.out.mono ?_; rintro e w' ⟨rfl, rfl⟩
          go_wp2_with fail
          go_ret
          exact ⟨by simp, H.out, Upd.refl _ _⟩
      · have hE : movE S a b = mayE S a true := by unfold movE; simp [h1, h2, h3]
        have hS : movS S a b = S := by unfold movS; simp [hE, h3]
        rw [hE, hS]
        have hb1 : (mayE S a true == 0) = false := by simp [h3]
        have hb2 : (mayE S a true != 0) = true := by simp [h3]
        generalize mayE S a true = ev at *
        clear h h1 h2 h3 hE hS
        go_enter Try.func19, Try.ntmps19
        go_wp2_with fail
        refine M1.out.mono ?_; rintro e w' ⟨rfl, rfl⟩
        go_wp2_with fail
        refine M2.out.mono ?_; rintro e w' ⟨rfl, rfl⟩
        go_wp2_with fail
        refine M3.out.mono ?_; rintro e w' ⟨rfl, rfl⟩
        go_wp2_with fail
        go_ret
        exact ⟨by simp, H.out, Upd.refl _ _⟩
    · have hE : movE S a b = mayE S b false := by unfold movE; simp [h1, h2]
      have hS : movS S a b = S := by unfold movS; simp [hE, h2]
      rw [hE, hS]
      have hb1 : (mayE S b false == 0) = false := by simp [h2]
      have hb2 : (mayE S b false != 0) = true := by simp [h2]
      generalize mayE S b false = ev at *
      clear h h1 h2 hE hS
      go_enter Try.func19, Try.ntmps19
      go_wp2_with fail
      refine M1.out.mono ?_; rintro e w' ⟨rfl, rfl⟩
      go_wp2_with fail
      refine M2.out.mono ?_; rintro e w' ⟨rfl, rfl⟩
      go_wp2_with fail
      go_ret
      exact ⟨by simp, H.out, Upd.refl _ _⟩
  · have hE : movE S a b = mayE S a false := by unfold movE; simp [h1]
    have hS : movS S a b = S := by unfold movS; simp [hE, h1]
    rw [hE, hS]
    have hb1 : (mayE S a false == 0) = false := by simp [h1]
    have hb2 : (mayE S a false != 0) = true := by simp [h1]
    generalize mayE S a false = ev at *
    clear h h1 hE hS
    go_enter Try.func19, Try.ntmps19
    go_wp2_with fail
    refine M1.out.mono ?_; rintro e w' ⟨rfl, rfl⟩
    go_wp2_with fail
    go_ret
    exact ⟨by simp, H.out, Upd.refl _ _⟩

set_option maxHeartbeats 2000000 in
theorem sector_any (n : Nat) (hn : n < 256) :
    Calls Try.prog 11 #[.pointer (some ⟨c, 0, none⟩), .int .u8 n] w fun e w' => e = .returned (.tuple #[.int .i64 (if mayE S n true = 0 then (S.sec n : Int) - 1 else 0), .bool (decide (mayE S n true = 0))]) ∧ w' = w := by
  have HM := Lib.hid (may_any c b1 b2 b3 S w h n hn true)
  by_cases hm : mayE S n true = 0
  · obtain ⟨_, h0⟩ := may_zero hm
    rw [hm] at HM
    rw [if_pos hm, hm]
    have l1 := h.look1 n hn false
    rw [if_neg h0, if_neg (by simp)] at l1
    have c0 := h.box.cellAt (i := 0) (v := .map (some b1)) rfl
    generalize ((S.sec n : Int) - 1) = v at *
    clear h hm h0
    go_enter Try.func11, Try.ntmps11
    go_wp2_with fail
    refine HM.out.mono ?_; rintro e w' ⟨rfl, rfl⟩
    go_wp2_with fail
    go_ret2
    exact ⟨by simp, rfl⟩
  · rw [if_neg hm]
    have hb : (mayE S n true == 0) = false := by simp [hm]
    have hb' : (mayE S n true != 0) = true := by simp [hm]
    have hd : decide (mayE S n true = 0) = false := by simp [hm]
    rw [hd]
    generalize mayE S n true = ev at *
    clear h hm hd
    go_enter Try.func11, Try.ntmps11
    go_wp2_with fail
    refine HM.out.mono ?_; rintro e w' ⟨rfl, rfl⟩
    go_wp2_with fail
    go_ret2
    exact ⟨by simp, rfl⟩
theorem written_any (n : Nat) (hn : n < 256) :
    Calls Try.prog 14 #[.pointer (some ⟨c, 0, none⟩), .int .u8 n] w fun e w' => e = .returned (.bool (S.wr n)) ∧ w' = w := by
  have l3 := h.look3 n hn
  have c2 := h.box.cellAt (i := 2) (v := .map (some b3)) rfl
  generalize S.wr n = v at *
  clear h
  go_enter Try.func14, Try.ntmps14
  go_wp2_with fail
  go_ret
  exact ⟨by simp, rfl⟩
theorem frame_any (s : Int) (h0 : -9223372036854775808 ≤ s) (h1 : s ≤ 9223372036854775807) :
    Calls Try.prog 18 #[.pointer (some ⟨c, 0, none⟩), .int .i64 s] w fun e w' => e = .returned (.tuple #[.int .u8 (((S.fr s).getD 0 : Nat) : Int), .bool (S.fr s).isSome]) ∧ w' = w := by
  have l2 := h.look2 s h0 h1 true
  simp only [if_true] at l2
  have c1 := h.box.cellAt (i := 1) (v := .map (some b2)) rfl
  generalize (((S.fr s).getD 0 : Nat) : Int) = v at *
  generalize (S.fr s).isSome = d at *
  clear h
  go_enter Try.func18, Try.ntmps18
  go_wp2_with fail
  go_ret2
  exact ⟨by simp, rfl⟩
end

def newS : St := ⟨fun _ => 0, fun _ => none, fun _ => false⟩
theorem new_any (w : World) :
    Calls Try.prog 24 #[] w fun e w' => ∃ c b1 b2 b3, e = .returned (.pointer (some ⟨c, 0, none⟩)) ∧ RegAt w' c b1 b2 b3 newS ∧ Upd [] w w' ∧ w.heap.size ≤ c ∧ w.heap.size ≤ b1 ∧ w.heap.size ≤ b2 ∧ w.heap.size ≤ b3 := by
  have hmm := @run_makeMap Try.prog
  go_enter Try.func24, Try.ntmps24
  go_wp2_with fail
  go_ret
  have m1 := MapAt.new w .u8
  have m2 := MapAt.new (w.alloc (.map #[] 0)) .i64
  have m3 := MapAt.new ((w.alloc (.map #[] 0)).alloc (.map #[] 0)) .u8
  rw [World.size_alloc] at m2 m3
  rw [World.size_alloc] at m3
  have u1 := ((Upd.refl [] (w.alloc (.map #[] 0))).alloc (.map #[] 0)).alloc (.map #[] 0)
  have u2 := (Upd.refl [] ((w.alloc (.map #[] 0)).alloc (.map #[] 0))).alloc (.map #[] 0)
  have hb := Blk.new (((w.alloc (.map #[] 0)).alloc (.map #[] 0)).alloc (.map #[] 0)) RegT #[.map (some w.heap.size), .map (some (w.heap.size + 1)), .map (some (w.heap.size + 1 + 1))]
  rw [World.size_alloc, World.size_alloc, World.size_alloc] at hb
  refine ⟨w.heap.size + 1 + 1 + 1, w.heap.size, w.heap.size + 1, w.heap.size + 1 + 1, by simp, ⟨hb, ?_, ?_, ?_, by omega, by omega, by omega⟩, ?_, by omega, by omega, by omega, by omega⟩
  · exact ((m1.upd u1 (by simp)).upd ((Upd.refl [] _).alloc _) (by simp)).congr (fun k => by simp [secV, newS])
  · exact ((m2.upd u2 (by simp)).upd ((Upd.refl [] _).alloc _) (by simp)).congr (fun k => by simp [frV, newS])
  · exact (m3.upd ((Upd.refl [] _).alloc _) (by simp)).congr (fun k => by simp [wrV, newS])
  · exact ((((Upd.refl [] w).alloc _).alloc _).alloc _).alloc _

/-- One of Clear's frames. -/
def clr1 (p : St × Nat) (n : Nat) : St × Nat := if mayE p.1 n true = 0 then (cutS p.1 n, p.2 + 1) else p
def clrL (S : St) (xs : List Nat) : St × Nat := xs.foldl clr1 (S, 0)
theorem clrL_take (S : St) (xs : List Nat) (j : Nat) (x : Nat) (hx : xs[j]? = some x) : clrL S (xs.take (j + 1)) = clr1 (clrL S (xs.take j)) x := by
  unfold clrL
  rw [List.take_add_one, hx, List.foldl_append]
  rfl
theorem clrL_count (S : St) : ∀ (j : Nat) (xs : List Nat), (clrL S (xs.take j)).2 ≤ j := by
  intro j
  induction j with
  | zero => intro xs; simp [clrL]
  | succ j ih =>
    intro xs
    cases hx : xs[j]? with
    | none =>
      rw [List.take_add_one, hx]
      simp
      have := ih xs
      omega
    | some x =>
      rw [clrL_take S xs j x hx]
      have := ih xs
      unfold clr1
      split <;> simp <;> omega

set_option maxRecDepth 100000 in
set_option maxHeartbeats 2000000 in
theorem clear_any (c b1 b2 b3 : Nat) (S : St) (w : World) (h : RegAt w c b1 b2 b3 S) (hle : ∀ i, S.sec i ≤ 64) (g o len cap : Nat) (xs : List Nat) (hl : xs.length = len) (hn : len ≤ 1000) (hx : ∀ (j x : Nat), xs[j]? = some x → x < 256 ∧ w.cell? ⟨g, o + j, none⟩ = some (.int .u8 x)) (hg : g ∉ [b1, b2, b3]) :
    Calls Try.prog 23 #[.pointer (some ⟨c, 0, none⟩), .slice (some ⟨g, o, none⟩) len cap] w (RChg w c b1 b2 b3 (.int .i64 ((clrL S xs).2 : Int)) (clrL S xs).1) := by
  have H := Lib.hid h
  have HX := Lib.hid hx
  have HL := Lib.hid hl
  have HG := Lib.hid hg
  have HLE := Lib.hid hle
  clear h hx hl hg hle
  go_enter Try.func23, Try.ntmps23
  go_wp2_with fail
  go_loopw [5, 10] (fun vn vi W => ∃ (j k : Nat) (S' : St), j ≤ len ∧ vi = .int .i64 (j : Int) ∧ vn = .int .i64 (k : Int) ∧ clrL S (xs.take j) = (S', k) ∧ (∀ i, S'.sec i ≤ 64) ∧ RegAt W c b1 b2 b3 S' ∧ Upd [b1, b2, b3] w W) (fun _ vi _ => len - (intOf vi).toNat)
  case atStart => exact ⟨0, 0, S, by omega, rfl, rfl, rfl, HLE.out, H.out, Upd.refl _ _⟩
  case round =>
    obtain ⟨j, k, S', hj, rfl, rfl, hcl, hle, hreg, hu⟩ := hrel
    have HCL := Lib.hid hcl
    have HLE' := Lib.hid hle
    have HR := Lib.hid hreg
    have HU := Lib.hid hu
    have hkj : k ≤ j := by have := clrL_count S j xs; rw [hcl] at this; exact this
    by_cases hlt : j < len
    · obtain ⟨x, hxj⟩ : ∃ x, xs[j]? = some x := ⟨_, List.getElem?_eq_getElem (by rw [HL.out]; exact hlt)⟩
      obtain ⟨hx8, hcx⟩ := HX.out j x hxj
      have hc : wr.cell? ⟨g, o + j, none⟩ = some (.int .u8 x) := hu.cellAt hcx HG.out
      have HM := Lib.hid (may_any c b1 b2 b3 S' wr hreg x hx8 true)
      have HXJ := Lib.hid hxj
      have i0 : (0 : Int) ≤ (j : Int) := by omega
      have i1 : (j : Int) < (len : Int) := by omega
      by_cases hm : mayE S' x true = 0
      · obtain ⟨_, h0⟩ := may_zero hm
        rw [hm] at HM
        have HC := Lib.hid (cut_any c b1 b2 b3 S' wr hreg x hx8 h0 (hle x))
        have HQ := Lib.hid (show clrL S (xs.take (j + 1)) = (cutS S' x, k + 1) by rw [clrL_take S xs j x hxj, hcl]; unfold clr1; rw [if_pos hm])
        generalize ((S'.sec x : Int) - 1) = v at *
        generalize S'.wr x = v2 at *
        clear hcl hle hreg hu hm h0 hcx hxj
        go_wp2_with fail
        refine HM.out.mono ?_; rintro e w' ⟨rfl, rfl⟩
        go_wp2_with fail
        refine HC.out.mono ?_; rintro e w2 ⟨rfl, k1, k2⟩
        have K1 := Lib.hid k1
        have K2 := Lib.hid k2
        clear k1 k2
        go_wp2_with fail
        go_roundw
        case rel => exact ⟨j + 1, k + 1, cutS S' x, by omega, by go_num, by go_num, HQ.out, fun i => by have := HLE'.out i; unfold cutS; simp only; split <;> omega, K1.out, HU.out.trans' K2.out⟩
        case measure => simp [intOf]; omega
      · have HQ := Lib.hid (show clrL S (xs.take (j + 1)) = (S', k) by rw [clrL_take S xs j x hxj, hcl]; unfold clr1; rw [if_neg hm])
        have hb1 : (mayE S' x true == 0) = false := by simp [hm]
        have hb2 : (mayE S' x true != 0) = true := by simp [hm]
        generalize mayE S' x true = ev at *
        clear hcl hle hreg hu hm hcx hxj
        go_wp2_with fail
        refine HM.out.mono ?_; rintro e w' ⟨rfl, rfl⟩
        go_wp2_with fail
        go_roundw
        case rel => exact ⟨j + 1, k, S', by omega, by go_num, rfl, HQ.out, HLE'.out, HR.out, HU.out⟩
        case measure => simp [intOf]; omega
    · obtain rfl : j = len := by omega
      clear hcl hle hreg hu
      go_wp2_with fail
      go_ret
      have hq := HCL.out
      rw [List.take_of_length_le (by rw [HL.out]; exact Nat.le_refl _)] at hq
      exact ⟨by rw [hq]; simp, by rw [hq]; exact HR.out, HU.out⟩

end Go.Proofs.Ytelmkmhmdfcnmaa
