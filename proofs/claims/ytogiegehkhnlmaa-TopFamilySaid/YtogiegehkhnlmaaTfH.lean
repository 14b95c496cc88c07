/- What both sides tell of all places: Running, Children of the reference; how two rows of ints are held against one another. -/
import Derived.Test.YtogiegehkhnlmaaTfL
import Derived.Maps.AppendAt
namespace Go.Proofs.Ytogiegehkhnlmaa
open Go.RowKit

def ints (l : List Nat) : List Value := l.map fun (k : Nat) => .int .i64 (k : Int)
def nums (l : List Nat) : List Int := l.map fun (k : Nat) => (k : Int)
theorem ints_nums (l : List Nat) : ints l = (nums l).map (Value.int .i64) := by simp [ints, nums]
theorem nums_length (l : List Nat) : (nums l).length = l.length := by simp [nums]
theorem own_mono {w : World} {base base' : Nat} {e : TypeId} {size n : Nat} {v : Value} {xs : List Value} (h : w.ownsRow base e size v n xs) (hb : base' ≤ base) : w.ownsRow base' e size v n xs := by
  refine ⟨h.1, ?_⟩
  rcases h.2 with hn | ⟨g, cap, cur, h1, h2, h3⟩
  · exact .inl hn
  · exact .inr ⟨g, cap, cur, h1, Nat.le_trans hb h2, h3⟩
theorem own_upd {w w' : World} {base : Nat} {e : TypeId} {size n : Nat} {v : Value} {xs : List Value} (h : w.ownsRow base e size v n xs) (hu : Upd [] w w') : w'.ownsRow base e size v n xs :=
  h.kept (row := none) ⟨hu.os, hu.tape, hu.output, hu.size, fun i hi _ => hu.block i hi (by simp)⟩ (by cases v.ownBlock <;> simp)
theorem info_int : (Try.prog.info? 3).map (fun i => (i.zero, i.size, i.bytes)) = some (some (.int .i64 0), 1, 8) := by kernel_rfl
theorem under_ints : Try.prog.underlying 31 = some (.slice 3) := by kernel_rfl

/-- Those of the places below n that run. -/
def runTo (T : List PS) : Nat → List Nat
  | 0 => []
  | n + 1 => if stP (getP T n) = 1 then runTo T n ++ [n] else runTo T n
theorem runTo_le (T : List PS) : ∀ n, (runTo T n).length ≤ n := by
  intro n
  induction n with
  | zero => simp [runTo]
  | succ n ih =>
    unfold runTo
    split
    · rw [List.length_append]; simp; omega
    · omega
theorem runTo_yes {T : List PS} {n : Nat} (h : stP (getP T n) = 1) : runTo T (n + 1) = runTo T n ++ [n] := by
  show (if stP (getP T n) = 1 then runTo T n ++ [n] else runTo T n) = _
  rw [if_pos h]
theorem runTo_no {T : List PS} {n : Nat} (h : stP (getP T n) ≠ 1) : runTo T (n + 1) = runTo T n := by
  show (if stP (getP T n) = 1 then runTo T n ++ [n] else runTo T n) = _
  rw [if_neg h]

set_option maxRecDepth 100000 in
set_option maxHeartbeats 4000000 in
theorem running_any (t : Nat) (T : List PS) (w : World) (h : TabAt w t T) :
    Calls Try.prog 8 #[.pointer (some ⟨t, 0, none⟩)] w fun e w' =>
      ∃ v, e = .returned v ∧ w'.ownsRow w.heap.size 3 1 v (runTo T 6).length (ints (runTo T 6)) ∧ Upd [] w w' := by
  have HT := Lib.hid h
  clear h
  go_enter Try.func8, Try.ntmps8
  go_wp2_with fail
  go_loopw [3, 5] (fun v c wr => ∃ k : Nat, k ≤ 6 ∧ c = .int .i64 (k : Int) ∧ wr.ownsRow w.heap.size 3 1 v (runTo T k).length (ints (runTo T k)) ∧ Upd [] w wr) (fun _ c _ => 6 - (intOf c).toNat)
  case atStart => exact ⟨0, by omega, rfl, by simpa [runTo, ints] using World.ownsRow_nil w w.heap.size 3 1, Upd.refl _ _⟩
  case round =>
    obtain ⟨k, hk, rfl, hown, hu⟩ := hrel
    have HO := Lib.hid hown
    have HU := Lib.hid hu
    have HR := Lib.hid (HT.out.upd hu (by simp))
    clear hown hu
    by_cases hlt : k < 6
    · have i1 : (k : Int) < 6 := by omega
      have HS := Lib.hid (state_any t T (k : Int) wr HR.out)
      have hsz := HU.out.size
      by_cases hs : stP (getP T (k : Int)) = 1
      · have HX := Lib.hid (runTo_yes hs)
        rw [hs] at HS
        clear hs
        obtain ⟨i, hi, hz, hsi, hb⟩ := info_parts info_int
        have HI := Lib.hid hi
        have HL := Lib.hid (runTo_le T k)
        clear hi
        go_wp2_with fail
        refine HS.out.mono ?_; rintro e w' ⟨rfl, rfl⟩
        go_wp2_with (at_builtin; refine wpList_append_own_at _ rfl _ _ 31 rfl w.heap.size 3 i (.int .i64 0) 1 8 under_ints HI.out hz hsi hb rfl (by decide) _ _ _ rfl (HO.out.alloc _) ⟨wr.heap.size, 0, none⟩ 1 1 [.int .i64 (k : Int)] rfl rfl (cell_one_new _ _ _) (by simp [Value.oneCell']) (by have := HL.out; unfold maxLen; omega) (by have := HL.out; omega) (by simp; omega) ?_; intro v' w3 hown' hgrow hnil hat)
        have hfin : w3.ownsRow w.heap.size 3 1 v' (runTo T (k + 1)).length (ints (runTo T (k + 1))) := by
          rw [HX.out]
          simpa [ints] using hown'
        have hup : Upd [] w w3 := ((HU.out.alloc _).grown hgrow (S := []) (fun j hj => .inr (HO.out.lt j hj).1))
        have HF := Lib.hid hfin
        have HP := Lib.hid hup
        clear hown' hgrow hfin hup hat hnil
        go_wp2_with fail
        go_roundw
        case rel => exact ⟨k + 1, by omega, by go_num, HF.out, HP.out⟩
        case measure => simp [intOf]; omega
      · have HX := Lib.hid (runTo_no hs)
        have hb1 : ((stP (getP T (k : Int)) : Int) == 1) = false := by rw [beq_eq_false_iff_ne]; omega
        have hv : IntKind.u8.wrap (stP (getP T (k : Int)) : Int) = (stP (getP T (k : Int)) : Int) := by
          cases getP T (k : Int) <;> rfl
        generalize stP (getP T (k : Int)) = q at *
        clear hs
        go_wp2_with fail
        refine HS.out.mono ?_; rintro e w' ⟨rfl, rfl⟩
        go_wp2_with fail
        go_roundw
        case rel => exact ⟨k + 1, by omega, by go_num, by rw [HX.out]; exact HO.out, HU.out⟩
        case measure => simp [intOf]; omega
    · obtain rfl : k = 6 := by omega
      go_wp2_with fail
      go_ret
      exact ⟨_, rfl, HO.out, HU.out⟩

end Go.Proofs.Ytogiegehkhnlmaa
