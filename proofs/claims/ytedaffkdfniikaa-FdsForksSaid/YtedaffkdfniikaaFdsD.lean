/- The table's deeds: Begin, Dup, Move, and what gives a descriptor. -/
import Derived.Test.YtedaffkdfniikaaFdsC
namespace Go.Proofs.Ytedaffkdfniikaa
open Go.RowKit Go.Shelf

def PAt (w : World) (t : Nat) (own : List Nat) (S : St) : Prop := ∃ pb sb, Prog w t own S pb sb
/-- A deed is done: it answers V, and the table then holds S'. -/
def PChg (w : World) (t : Nat) (own : List Nat) (V : Value) (S' : St) (e : Ending) (w' : World) : Prop :=
  e = .returned V ∧ ∃ own', PAt w' t own' S' ∧ (∀ g, g ∈ own' → g ∈ own ∨ w.heap.size ≤ g) ∧ Upd own w w'
theorem PChg.same {w w' : World} {t : Nat} {own : List Nat} {V : Value} {S : St} {pb sb : Nat → Nat} (h : Prog w t own S pb sb) (hu : Upd [] w w') : PChg w t own V S (.returned V) w' :=
  ⟨rfl, own, ⟨pb, sb, h.upd0 hu⟩, fun _ hg => .inl hg, hu.zero _⟩
theorem PChg.of {w w' : World} {t : Nat} {own : List Nat} {V : Value} {S' : St} {pb sb : Nat → Nat} (h : Prog w' t own S' pb sb) (hu : Upd own w w') : PChg w t own V S' (.returned V) w' :=
  ⟨rfl, own, ⟨pb, sb, h⟩, fun _ hg => .inl hg, hu⟩
theorem PChg.of1 {w w' : World} {t x : Nat} {own : List Nat} {V : Value} {S' : St} {pb sb : Nat → Nat} (h : Prog w' t (x :: own) S' pb sb) (hx : w.heap.size ≤ x) (hu : Upd own w w') : PChg w t own V S' (.returned V) w' :=
  ⟨rfl, x :: own, ⟨pb, sb, h⟩, fun g hg => by
    rcases List.mem_cons.1 hg with rfl | hg
    · exact .inr hx
    · exact .inl hg, hu⟩
theorem under_proc : Try.prog.underlying ProcT = some (.array 8 65) := by kernel_rfl
theorem slice_proc (p : Nat) (w : World) :
    (Instr.sliceAt 67 (.pointer (some ⟨p, 0, none⟩)) none none none).run Try.prog w = .ok (.slice (some ⟨p, 0, none⟩) 8 8) w := by kernel_rfl
theorem eql_np (z : Nat) (w : World) : (binOp .eql 65 (.pointer none) (.pointer (some ⟨z, 0, none⟩))).run Try.prog w = .ok (.bool false) w := by kernel_rfl

section
variable (t : Nat) (own : List Nat) (S : St) (pb sb : Nat → Nat) (w : World) (h : Prog w t own S pb sb)
include h

set_option maxHeartbeats 1000000 in
theorem begin_any (hg : Good S) (p : Int) :
    Calls Try.prog 11 #[.pointer (some ⟨t, 0, none⟩), .int .i64 p] w (PChg w t own (.int .i64 (frE S p)) (begS S p)) := by
  have HF := Lib.hid (fresh_any t own S pb sb w h p)
  have H := Lib.hid h
  unfold begS
  by_cases he : frE S p = 0
  · rw [if_pos he]
    rw [he] at HF ⊢
    obtain ⟨p0, p1, hh⟩ := frE_ok he
    obtain ⟨n, rfl⟩ : ∃ n : Nat, p = n := ⟨p.toNat, by omega⟩
    rw [Int.toNat_natCast] at hh ⊢
    have hx : Blk (w.alloc (.cells #[.pointer none, .pointer none, .pointer none, .pointer none, .pointer none, .pointer none, .pointer none, .pointer none] 67)) w.heap.size ProcT (rowF 8 fun k => sv sb (S.fd n k)) := by
      have e : rowF 8 (fun k => sv sb (S.fd n k)) = #[.pointer none, .pointer none, .pointer none, .pointer none, .pointer none, .pointer none, .pointer none, .pointer none] := by
        rw [rowF_congr (g := fun _ => .pointer none) (fun k _ => by rw [hg.z n k hh]; rfl)]
        rfl
      rw [e]
      exact Blk.new w ProcT _
    have ha := h.upd0 ((Upd.refl [] w).alloc (.cells #[.pointer none, .pointer none, .pointer none, .pointer none, .pointer none, .pointer none, .pointer none, .pointer none] 67))
    have c0 := ha.cellT (i := n) (by omega)
    have f0 := ha.tab.frozen n
    have HP := Lib.hid (ha.begin (i := n) hh hx (fun j hj hhj => by have := (h.prc j hj hhj).lt; omega))
    have HU := Lib.hid (((Upd.refl own w).alloc (.cells #[.pointer none, .pointer none, .pointer none, .pointer none, .pointer none, .pointer none, .pointer none, .pointer none] 67)).setCell (p := ⟨t, n, none⟩) (.inl h.ot) (.pointer (some ⟨w.heap.size, 0, none⟩)))
    clear h ha hx hh he
    go_enter Try.func11, Try.ntmps11
    go_wp2_with fail
    refine HF.out.mono ?_; rintro e w' ⟨rfl, rfl⟩
    go_wp2_with fail
    go_ret
    simp
    exact PChg.of1 HP.out (Nat.le_refl _) HU.out
  · rw [if_neg he]
    have hb : (frE S p == 0) = false := by simp [he]
    generalize frE S p = e at *
    clear h he
    go_enter Try.func11, Try.ntmps11
    go_wp2_with fail
    refine HF.out.mono ?_; rintro e w' ⟨rfl, rfl⟩
    go_wp2_with fail
    go_ret
    simp
    exact PChg.same H.out (Upd.refl _ _)

set_option maxHeartbeats 1000000 in
theorem index_any {i : Nat} (hi : i < 6) (hh : S.has i = true) :
    Calls Try.prog 47 #[.slice (some ⟨pb i, 0, none⟩) 8 8, .pointer none] w fun e w' => e = .returned (.int .i64 (ixI (lstF S.fd i))) ∧ w' = w := by
  obtain ⟨r, hr⟩ : ∃ r, r = lstF S.fd i := ⟨_, rfl⟩
  rw [← hr]
  have HR := Lib.hid hr
  have HC := Lib.hid (fun k (hk : k < 8) => h.cellP hi hh hk)
  generalize pb i = x at *
  clear h hr
  go_enter Try.func47, Try.ntmps47
  go_wp2_with fail
  go_loopw [8] (fun v wr => ∃ j : Nat, j ≤ 8 ∧ v = .int .i64 (j : Int) ∧ wr = w ∧ ∀ y, y < j → S.fd i y ≠ 0) (fun v _ => 8 - (intOf v).toNat)
  case atStart => exact ⟨0, by omega, rfl, rfl, by simp⟩
  case round =>
    obtain ⟨j, hj, rfl, rfl, hno⟩ := hrel
    have HN := Lib.hid hno
    clear hno
    by_cases hlt : j < 8
    · have hc := HC.out j hlt
      have i0 : (0 : Int) ≤ (j : Int) := by omega
      have i1 : (j : Int) < 8 := by omega
      by_cases h0 : S.fd i j = 0
      · have HQ := Lib.hid (lst_at hlt h0 HN.out)
        simp only [sv, h0, if_true] at hc
        clear h0
        go_wp2_with fail
        go_ret
        exact ⟨by rw [HR.out, HQ.out]; simp [ixI], rfl⟩
      · have HN2 := Lib.hid (show ∀ y, y < j + 1 → S.fd i y ≠ 0 from fun y hy => by
          by_cases hyj : y = j
          · rw [hyj]; exact h0
          · exact HN.out y (by omega))
        simp only [sv, h0, if_false] at hc
        generalize sb (S.fd i j) = z at *
        have hq := eql_np z
        clear h0
        go_wp2_with fail
        go_roundw
        case rel => exact ⟨j + 1, by omega, by go_num, (by first | rfl | trivial), HN2.out⟩
        case measure => simp [intOf]; omega
    · obtain rfl : j = 8 := by omega
      have HQ := Lib.hid (lst_no HN.out)
      go_wp2_with fail
      go_ret
      exact ⟨by rw [HR.out, HQ.out]; simp [ixI], rfl⟩

set_option maxHeartbeats 1000000 in
theorem give_no {i : Nat} (hi : i < 6) (hh : S.has i = true) (hl : lstF S.fd i = none) (x : Nat) :
    Calls Try.prog 30 #[.pointer (some ⟨pb i, 0, none⟩), .pointer (some ⟨x, 0, none⟩)] w fun e w' => e = .returned (.tuple #[.int .i64 0, .int .i64 11]) ∧ w' = w := by
  have HI := Lib.hid (index_any t own S pb sb w h hi hh)
  have hs := slice_proc (pb i)
  rw [hl] at HI
  unfold ixI at HI
  generalize pb i = y at *
  clear h hl hh
  go_enter Try.func30, Try.ntmps30
  go_wp2_with fail
  refine HI.out.mono ?_; rintro e w' ⟨rfl, rfl⟩
  go_wp2_with fail
  go_ret2
  exact ⟨by simp, rfl⟩
set_option maxHeartbeats 1000000 in
theorem give_ok {i k : Nat} (hi : i < 6) (hh : S.has i = true) (hl : lstF S.fd i = some k) (x c : Nat) (o : Op) (hx : Blk w x ShT (shC o c)) (hc : c ≤ 48) :
    Calls Try.prog 30 #[.pointer (some ⟨pb i, 0, none⟩), .pointer (some ⟨x, 0, none⟩)] w fun e w' => e = .returned (.tuple #[.int .i64 k, .int .i64 0]) ∧
      w' = (w.setCell ⟨pb i, k, none⟩ (.pointer (some ⟨x, 0, none⟩))).setCell ⟨x, 3, none⟩ (.int .i64 ((c : Int) + 1)) := by
  obtain ⟨k8, k0, _⟩ := lst_some hl
  have HI := Lib.hid (index_any t own S pb sb w h hi hh)
  have hs := slice_proc (pb i)
  rw [hl] at HI
  unfold ixI at HI
  have c0 := h.cellP hi hh k8
  rw [k0] at c0
  simp only [sv, if_true] at c0
  have f0 := (h.prc i hi hh).frozen k
  have hb1 := hx.far (p := ⟨pb i, k, none⟩) ((h.prc i hi hh).ne_ hx (by decide)).symm (.pointer (some ⟨x, 0, none⟩))
  have c1 := hb1.cellAt (i := 3) (v := .int .i64 (c : Int)) rfl
  have f1 := hb1.frozen 3
  have i0 : (0 : Int) ≤ (c : Int) := by omega
  have i1 : (c : Int) ≤ 48 := by omega
  have j0 : (0 : Int) ≤ (k : Int) := by omega
  have j1 : (k : Int) < 8 := by omega
  have j2 : ¬ (k : Int) < 0 := by omega
  generalize (c : Int) = cc at *
  generalize pb i = y at *
  clear h hl hh hb1 k0 k8 hx
  go_enter Try.func30, Try.ntmps30
  go_wp2_with fail
  refine HI.out.mono ?_; rintro e w' ⟨rfl, rfl⟩
  go_wp2_with fail
  go_ret2
  exact ⟨by simp, rfl⟩

set_option maxHeartbeats 1000000 in
theorem dup_any (p k : Int) :
    Calls Try.prog 15 #[.pointer (some ⟨t, 0, none⟩), .int .i64 p, .int .i64 k] w (PChg w t own (.tuple #[.int .i64 (dupV S p k), .int .i64 (dupE S p k)]) (dupS S p k)) := by
  have HA := Lib.hid (at_any t own S pb sb w h p k)
  have H := Lib.hid h
  unfold dupV dupE dupS
  by_cases he : atE S p k = 0
  · rw [if_pos he, if_pos he, if_pos he]
    unfold atV at HA
    rw [if_pos he] at HA
    obtain ⟨⟨p0, p1, hh⟩, k0, k1, h0⟩ := atE_ok he
    have hcn : cntF S.fd (S.fd p.toNat k.toNat) ≠ 0 := cnt_of (i := p.toNat) (k := k.toNat) (by omega) (by omega) rfl
    have hle := cnt_le S.fd (S.fd p.toNat k.toNat)
    cases hl : lstF S.fd p.toNat with
    | none =>
      have HG := Lib.hid (fun W (hW : Prog W t own S pb sb) => give_no t own S pb sb W hW (i := p.toNat) (by omega) hh hl (sb (S.fd p.toNat k.toNat)))
      simp only [he, pv, decide_true, if_true] at HA
      unfold givV givE putF
      clear h he hh h0 hcn hle hl
      generalize pb p.toNat = y at *
      generalize sb (S.fd p.toNat k.toNat) = z at *
      go_enter Try.func15, Try.ntmps15
      go_wp2_with fail
      refine HA.out.mono ?_; rintro e w' ⟨rfl, n, rfl⟩
      go_wp2_with fail
      refine (HG.out _ (H.out.upd0 ((Upd.refl [] w).drewN n))).mono ?_; rintro e w' ⟨rfl, rfl⟩
      go_wp2_with fail
      go_ret2
      simp
      exact PChg.same H.out ((Upd.refl [] w).drewN n)
    | some j =>
      obtain ⟨j8, j0, _⟩ := lst_some hl
      have HG := Lib.hid (fun W (hW : Prog W t own S pb sb) => give_ok t own S pb sb W hW (i := p.toNat) (by omega) hh hl (sb (S.fd p.toNat k.toNat)) _ _ (hW.shr _ h0 hcn) hle)
      have HQ := Lib.hid (fun W (hW : Prog W t own S pb sb) => hW.up (i := p.toNat) (by omega) hh j8 j0 h0 hcn)
      have HU := Lib.hid (fun n v u => (((Upd.refl own w).drewN n).setCell (p := ⟨pb p.toNat, j, none⟩) (.inl (h.op p.toNat (by omega) hh)) v).setCell (p := ⟨sb (S.fd p.toNat k.toNat), 3, none⟩) (.inl (h.os _ h0 hcn)) u)
      simp only [he, pv, decide_true, if_true] at HA
      unfold givV givE putF
      clear h he hh h0 hcn hle hl j0 j8
      generalize pb p.toNat = y at *
      generalize hz : sb (S.fd p.toNat k.toNat) = z at *
      clear hz
      go_enter Try.func15, Try.ntmps15
      go_wp2_with fail
      refine HA.out.mono ?_; rintro e w' ⟨rfl, n, rfl⟩
      go_wp2_with fail
      refine (HG.out _ (H.out.upd0 ((Upd.refl [] w).drewN n))).mono ?_; rintro e w' ⟨rfl, hw'⟩
      have HW := Lib.hid hw'
      clear hw'
      go_wp2_with fail
      go_ret2
      simp
      have hw' := HW.out
      subst hw'
      exact PChg.of (HQ.out _ (H.out.upd0 ((Upd.refl [] w).drewN n))) (HU.out n _ _)
  · rw [if_neg he, if_neg he, if_neg he]
    have hb : (atE S p k == 0) = false := by simp [he]
    have hb' : (atE S p k != 0) = true := by simp [he]
    generalize pv (decide (atE S p k = 0)) (pb p.toNat) = v1 at *
    generalize atV S sb p k = v2 at *
    generalize atE S p k = e at *
    clear h he
    go_enter Try.func15, Try.ntmps15
    go_wp2_with fail
    refine HA.out.mono ?_; rintro e w' ⟨rfl, n, rfl⟩
    go_wp2_with fail
    go_ret2
    simp
    exact PChg.same H.out ((Upd.refl [] w).drewN n)

set_option maxHeartbeats 1000000 in
theorem move_any (hg : Good S) (p k x : Int) :
    Calls Try.prog 20 #[.pointer (some ⟨t, 0, none⟩), .int .i64 p, .int .i64 k, .int .i64 x] w (PChg w t own (.int .i64 (atE S p k)) (movS S p k x)) := by
  have HA := Lib.hid (at_any t own S pb sb w h p k)
  have H := Lib.hid h
  unfold movS
  by_cases he : atE S p k = 0
  · rw [if_pos he]
    unfold atV at HA
    rw [if_pos he] at HA
    obtain ⟨⟨p0, p1, hh⟩, k0, k1, h0⟩ := atE_ok he
    have hcn : cntF S.fd (S.fd p.toNat k.toNat) ≠ 0 := cnt_of (i := p.toNat) (k := k.toNat) (by omega) (by omega) rfl
    have HC := Lib.hid (fun n => ((h.shr _ h0 hcn).drewN n).cellAt (i := 2) (v := .int .i64 (opAt S (S.fd p.toNat k.toNat)).p) rfl)
    have HFZ := Lib.hid (fun n => ((h.shr _ h0 hcn).drewN n).frozen 2)
    have HQ := Lib.hid (fun W (hW : Prog W t own S pb sb) => hW.move h0 hcn (hg.le _ _) hg.le x)
    have HU := Lib.hid (fun n v => ((Upd.refl own w).drewN n).setCell (p := ⟨sb (S.fd p.toNat k.toNat), 2, none⟩) (.inl (h.os _ h0 hcn)) v)
    simp only [he, pv, decide_true, if_true] at HA ⊢
    clear h he hh h0 hcn
    generalize pb p.toNat = y at *
    generalize sb (S.fd p.toNat k.toNat) = z at *
    go_enter Try.func20, Try.ntmps20
    go_wp2_with fail
    refine HA.out.mono ?_; rintro e w' ⟨rfl, n, rfl⟩
    have hc := HC.out n
    have hf := HFZ.out n
    go_wp2_with fail
    go_ret
    simp
    exact PChg.of (HQ.out _ (H.out.upd0 ((Upd.refl [] w).drewN n))) (HU.out n _)
  · rw [if_neg he]
    have hb : (atE S p k == 0) = false := by simp [he]
    have hb' : (atE S p k != 0) = true := by simp [he]
    generalize pv (decide (atE S p k = 0)) (pb p.toNat) = v1 at *
    generalize atV S sb p k = v2 at *
    generalize atE S p k = e at *
    clear h he
    go_enter Try.func20, Try.ntmps20
    go_wp2_with fail
    refine HA.out.mono ?_; rintro e w' ⟨rfl, n, rfl⟩
    go_wp2_with fail
    go_ret
    simp
    exact PChg.same H.out ((Upd.refl [] w).drewN n)
end

end Go.Proofs.Ytedaffkdfniikaa
