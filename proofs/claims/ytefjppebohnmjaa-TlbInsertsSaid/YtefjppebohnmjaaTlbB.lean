/- The first mapping at which a predicate holds (slices.IndexFunc). -/
import Derived.Test.YtefjppebohnmjaaTlbA
import Derived.Shelf.Abstract
namespace Go.Proofs.Ytefjppebohnmjaa
open Go.RowKit Go.Shelf

/-- A slice of mappings that reads as L. -/
def Reads (w : World) (A : Option Addr) (L : List Mp) : Prop :=
  0 < L.length → ∃ b o, A = some ⟨b, o, none⟩ ∧ ∀ (j : Nat) (m : Mp), L[j]? = some m → w.rangeAt b (o + j * 4) (encM m)
theorem Reads.upd {w w' : World} {A : Option Addr} {L : List Mp} {S : List Nat} (h : Reads w A L) (hu : Upd S w w') (hS : 0 < L.length → ∀ b o, A = some ⟨b, o, none⟩ → b ∉ S) : Reads w' A L := by
  intro hk
  obtain ⟨b, o, rfl, hc⟩ := h hk
  refine ⟨b, o, rfl, fun j m hj i v hv => hu.cellAt (hc j m hj i v hv) (hS hk b o rfl)⟩
theorem Reads.drew {w : World} {A : Option Addr} {L : List Mp} (h : Reads w A L) : Reads w.drew A L := h

theorem findIdx_at {α : Type} (p : α → Bool) : ∀ (l : List α) (j : Nat) (x : α), l[j]? = some x → (∀ y, y ∈ l.take j → p y = false) → p x = true → l.findIdx? p = some j := by
  intro l
  induction l with
  | nil => intro j x h; simp at h
  | cons a l ih =>
    intro j x h hn hx
    rw [List.findIdx?_cons]
    cases j with
    | zero => simp at h; subst h; simp [hx]
    | succ j =>
      have ha := hn a (by simp)
      rw [ha, ih j x (by simpa using h) (fun y hy => hn y (by simp [hy])) hx]
      rfl
theorem findIdx_no {α : Type} (p : α → Bool) (l : List α) (hn : ∀ y, y ∈ l → p y = false) : l.findIdx? p = none := by
  rw [List.findIdx?_eq_none_iff]
  exact hn
theorem take_step {α : Type} {p : α → Bool} {l : List α} {j : Nat} {x : α} (h : l[j]? = some x) (hn : ∀ y, y ∈ l.take j → p y = false) (hx : p x = false) : ∀ y, y ∈ l.take (j + 1) → p y = false := by
  intro y hy
  rw [List.take_add_one, h] at hy
  simp at hy
  rcases hy with hy | rfl
  · exact hn y hy
  · exact hx
def idx (pr : Mp → Bool) (L : List Mp) : Int := match L.findIdx? pr with
  | some i => (i : Int)
  | none => -1

/-- A function value that tells of a mapping, as long as C holds. -/
structure Pred (g : Nat) (lb : Array Value) (pr : Mp → Bool) (C : World → Prop) : Prop where
  eg : ∀ args w, (callFunc g args).run Try.prog w = .ok (.enter g args) w
  call : ∀ W m, C W → Calls Try.prog g (#[.agg (encM m).toArray] ++ lb) W fun e W' => e = .returned (.bool (pr m)) ∧ Upd [] W W'
  keep : ∀ W W', C W → Upd [] W W' → C W'

set_option maxRecDepth 100000 in
set_option maxHeartbeats 2000000 in
theorem indexFunc_any (g : Nat) (lb : Array Value) (pr : Mp → Bool) (C : World → Prop) (hP : Pred g lb pr C) (A : Option Addr) (cap : Nat) (L : List Mp) (w : World) (hC : C w) (hr : Reads w A L) (hl : L.length ≤ 1000) :
    Calls Try.prog 42 #[.slice A L.length cap, .func (.func g) #[] lb] w fun e w' =>
      e = .returned (.int .i64 (idx pr L)) ∧ Upd [] w w' ∧ C w' := by
  have eg := hP.eg
  have HP := Lib.hid hP
  have HR := Lib.hid hr
  have HC0 := Lib.hid hC
  obtain ⟨r, hrr⟩ : ∃ r, r = idx pr L := ⟨_, rfl⟩
  rw [← hrr]
  have HI := Lib.hid hrr
  generalize hn : L.length = n at *
  have HN := Lib.hid hn
  clear hr hP hrr hn hC
  go_enter Try.func42, Try.ntmps42
  go_wp2_with fail
  go_loopw [8] (fun v wr => ∃ k : Nat, k ≤ n ∧ v = .int .i64 (k : Int) ∧ C wr ∧ Upd [] w wr ∧ (∀ y, y ∈ L.take k → pr y = false)) (fun v _ => n - (intOf v).toNat)
  case atStart => exact ⟨0, by omega, rfl, HC0.out, Upd.refl _ _, by simp⟩
  case round =>
    obtain ⟨k, hk, rfl, hc, hu, hno⟩ := hrel
    have HC := Lib.hid hc
    have HU := Lib.hid hu
    have HNO := Lib.hid hno
    by_cases hlt : k < n
    · have i1 : (k : Int) < (n : Int) := by omega
      have i0 : (0 : Int) ≤ (k : Int) := by omega
      have hkl : k < L.length := by rw [HN.out]; exact hlt
      obtain ⟨m, hm⟩ : ∃ m, L[k]? = some m := ⟨_, List.getElem?_eq_getElem hkl⟩
      have hr2 := HR.out.upd hu (by simp)
      obtain ⟨b, o, rfl, hcs⟩ := hr2 (by rw [HN.out]; omega)
      have hra := hcs k m hm
      have HM := Lib.hid hm
      have hcall := HP.out.call _ m hc
      have HSZ := Lib.hid (show (Try.prog.info? 24).map (·.size) = some (encM m).length from info_map)
      have HCALL := Lib.hid hcall
      clear hc hu hno hcs hm hr2 hcall
      cases hq : pr m with
      | true =>
        have HQ := Lib.hid hq
        rw [hq] at HCALL
        clear hq
        go_wp2_with (first
          | (refine wpList_load_midg rfl 24 _ rfl b (o + k * 4) rfl _ _ hra under_map rfl HSZ.out ?_)
          | (go_at_fn g; refine HCALL.out.mono ?_; rintro e w' ⟨rfl, hu1⟩))
        go_ret
        refine ⟨?_, HU.out.trans0 hu1, HP.out.keep _ _ HC.out hu1⟩
        rw [HI.out]
        unfold idx
        rw [findIdx_at pr L k m HM.out HNO.out HQ.out]
        rfl
      | false =>
        have HQ := Lib.hid hq
        rw [hq] at HCALL
        clear hq
        go_wp2_with (first
          | (refine wpList_load_midg rfl 24 _ rfl b (o + k * 4) rfl _ _ hra under_map rfl HSZ.out ?_)
          | (go_at_fn g; refine HCALL.out.mono ?_; rintro e w' ⟨rfl, hu1⟩))
        go_roundw
        case rel => exact ⟨k + 1, by omega, by go_num, HP.out.keep _ _ HC.out hu1, HU.out.trans0 hu1, take_step HM.out HNO.out HQ.out⟩
        case measure => simp [intOf]; omega
    · obtain rfl : k = n := by omega
      clear hc hu hno
      go_wp2_with fail
      go_ret
      refine ⟨?_, HU.out, HC.out⟩
      rw [HI.out]
      unfold idx
      rw [findIdx_no pr L (fun y hy => HNO.out y (by rw [List.take_of_length_le (by rw [HN.out]; exact Nat.le_refl _)]; exact hy))]
      rfl

end Go.Proofs.Ytefjppebohnmjaa
