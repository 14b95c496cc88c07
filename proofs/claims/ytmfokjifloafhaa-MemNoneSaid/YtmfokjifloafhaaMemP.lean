/- The program's frames (package mem): what each method answers, and what it leaves in memory. -/
import Derived.Test.YtmfokjifloafhaaRows
import Derived.Test.YtmfokjifloafhaaLib
import Derived.Lib.SliceRun
import Derived.Deep.MidRow
import Derived.Deep.QuietTactic
import Derived.BigQuiet
import Derived.StillTailTactics
import Derived.Laws.BitsAllLaws
import Derived.Lib.Hide
namespace Go.Proofs.Ytmfokjifloafhaa
open Go.RowKit

def FrT : TypeId := 70
def MemT : TypeId := 67

/-- At m lies a memory of n frames, its bytes L, in block fb; c, X: room behind them. -/
structure MemX (w : World) (m fb n c : Nat) (L : List UInt8) (X : List Value) : Prop where
  obj : Blk w m MemT #[.slice (some ⟨fb, 0, none⟩) n c]
  row : Blk w fb FrT (bcs L ++ X).toArray
  len : L.length = 32 * n
  lo : 1 ≤ n
  hi : n ≤ 64
def MemAt (w : World) (m fb n : Nat) (L : List UInt8) : Prop := ∃ c X, MemX w m fb n c L X

theorem MemX.cell {w : World} {m fb n c : Nat} {L : List UInt8} {X : List Value} (h : MemX w m fb n c L X) : w.cell? ⟨m, 0, none⟩ = some (.slice (some ⟨fb, 0, none⟩) n c) := h.obj.cellAt rfl
theorem MemX.byte {w : World} {m fb n c : Nat} {L : List UInt8} {X : List Value} (h : MemX w m fb n c L X) {i : Nat} (hi : i < 32 * n) : w.cell? ⟨fb, i, none⟩ = some (.int .u8 ((L.getD i 0).toNat : Int)) := by
  have hl : i < L.length := by have := h.len; omega
  refine h.row.cellAt ?_
  rw [List.getElem?_toArray, List.getElem?_append_left (by rw [bcs_length]; exact hl)]
  simp [bcs, hl]

theorem mem_at_nil (f o k : Int) (w : World) :
    Calls Try.prog 32 #[.pointer none, .int .i64 f, .int .i64 o, .int .i64 k] w fun e w' => e = .returned (.tuple #[.slice none 0 0, .int .i64 1]) ∧ w = w' := by
  go_enter Try.func32, Try.ntmps32
  go_wp2
  go_ret2
  exact ⟨rfl, rfl⟩

theorem mem_at_bad (m fb n c : Nat) (f o k : Int) (w : World) (h : w.cell? ⟨m, 0, none⟩ = some (.slice (some ⟨fb, 0, none⟩) n c))
    (k0 : 0 ≤ k) (k1 : k ≤ 32) (hb : f < 0 ∨ n ≤ f ∨ o < 0 ∨ 32 - k < o) :
    Calls Try.prog 32 #[.pointer (some ⟨m, 0, none⟩), .int .i64 f, .int .i64 o, .int .i64 k] w fun e w' => e = .returned (.tuple #[.slice none 0 0, .int .i64 2]) ∧ w = w' := by
  go_enter Try.func32, Try.ntmps32
  go_wp2
  all_goals (try (exfalso; omega))
  all_goals (go_ret2; exact ⟨rfl, rfl⟩)

theorem mem_at_ok (m fb n c : Nat) (f o k : Int) (w : World) (h : w.cell? ⟨m, 0, none⟩ = some (.slice (some ⟨fb, 0, none⟩) n c)) (hn : n ≤ 64)
    (k0 : 0 < k) (k1 : k ≤ 32) (f0 : 0 ≤ f) (f1 : f < n) (o0 : 0 ≤ o) (o1 : o ≤ 32 - k) :
    Calls Try.prog 32 #[.pointer (some ⟨m, 0, none⟩), .int .i64 f, .int .i64 o, .int .i64 k] w fun e w' => e = .returned (.tuple #[.slice (some ⟨fb, 32 * f.toNat + o.toNat, none⟩) k.toNat k.toNat, .int .i64 0]) ∧ w = w' := by
  have f1' : o ≤ o + k := by omega
  have f2' : o + k ≤ 32 := by omega
  go_enter Try.func32, Try.ntmps32
  go_wp2
  go_ret2
  have e1 : f.toNat * 32 + o.toNat = 32 * f.toNat + o.toNat := by omega
  have e2 : (o + k).toNat - o.toNat = k.toNat := by omega
  exact ⟨by simp [e1, e2], rfl⟩

theorem mem_byte (m fb n : Nat) (L : List UInt8) (f o : Int) (w : World) (h : MemAt w m fb n L) :
    Calls Try.prog 15 #[.pointer (some ⟨m, 0, none⟩), .int .i64 f, .int .i64 o] w fun e w' =>
      e = .returned (if 0 ≤ f ∧ f < n ∧ 0 ≤ o ∧ o ≤ 31 then .tuple #[.int .u8 ((L.getD (32 * f.toNat + o.toNat) 0).toNat : Int), .int .i64 0] else .tuple #[.int .u8 0, .int .i64 2]) ∧ w = w' := by
  obtain ⟨cp, X, h⟩ := h
  have hc := h.cell
  have hn := h.hi
  by_cases hk : 0 ≤ f ∧ f < n ∧ 0 ≤ o ∧ o ≤ 31
  · rw [if_pos hk]
    obtain ⟨f0, f1, o0, o1⟩ := hk
    have hby := h.byte (i := 32 * f.toNat + o.toNat) (by omega)
    clear h
    go_enter Try.func15, Try.ntmps15
    go_wp2_with (go_at_call 32; refine (mem_at_ok m fb n _ _ _ _ _ hc hn (by omega) (by omega) (by omega) (by omega) (by omega) (by omega)).mono ?_; rintro e w' ⟨rfl, rfl⟩)
    go_ret2
    exact ⟨by simp, rfl⟩
  · rw [if_neg hk]
    clear h
    go_enter Try.func15, Try.ntmps15
    go_wp2_with (go_at_call 32; refine (mem_at_bad m fb n _ _ _ _ _ hc (by omega) (by omega) (by omega)).mono ?_; rintro e w' ⟨rfl, rfl⟩)
    go_ret2
    exact ⟨by simp, rfl⟩

theorem bytes_any (x : Int) (w : World) (x0 : 0 ≤ x) (x1 : x < 65536) :
    Calls Try.prog 36 #[.int .u16 x] w fun e w' => e = .returned (.agg #[.int .u8 (x / 256), .int .u8 (x % 256)]) ∧ w.alloc (.cells #[.int .u8 (x / 256), .int .u8 (x % 256)] 23) = w' := by
  go_enter Try.func36, Try.ntmps36
  go_wp2
  exact bodyPost_ret (v := .agg #[.int .u8 (x / 256), .int .u8 (x % 256)]) (by simp [results, Try.results36, go_sem]) rfl ⟨rfl, rfl⟩

theorem join_bits (x y : Int) (x0 : 0 ≤ x) (x1 : x < 256) (y0 : 0 ≤ y) (y1 : y < 256) : bits BinOp.or IntKind.u16 (x * 256) y = x * 256 + y := by
  rw [u16_or _ _ (by omega) (by omega) (by omega) (by omega), nat_join 8 _ _ (by omega) (by omega)]
  omega

theorem join_any (x y : Int) (w : World) (x0 : 0 ≤ x) (x1 : x < 256) (y0 : 0 ≤ y) (y1 : y < 256) :
    Calls Try.prog 33 #[.int .u8 x, .int .u8 y] w fun e w' => e = .returned (.int .u16 (x * 256 + y)) ∧ w = w' := by
  have hj := join_bits x y x0 x1 y0 y1
  go_enter Try.func33, Try.ntmps33
  go_wp2
  go_ret
  exact ⟨by simp [hj], rfl⟩

theorem mem_word (m fb n : Nat) (L : List UInt8) (f o : Int) (w : World) (h : MemAt w m fb n L) :
    Calls Try.prog 16 #[.pointer (some ⟨m, 0, none⟩), .int .i64 f, .int .i64 o] w fun e w' =>
      e = .returned (if 0 ≤ f ∧ f < n ∧ 0 ≤ o ∧ o ≤ 30 then .tuple #[.int .u16 ((L.getD (32 * f.toNat + o.toNat) 0).toNat * 256 + (L.getD (32 * f.toNat + o.toNat + 1) 0).toNat : Int), .int .i64 0] else .tuple #[.int .u16 0, .int .i64 2]) ∧ ∃ k, w' = w.drewN k := by
  obtain ⟨cp, X, h⟩ := h
  have hc := h.cell
  have hn := h.hi
  by_cases hk : 0 ≤ f ∧ f < n ∧ 0 ≤ o ∧ o ≤ 30
  · rw [if_pos hk]
    obtain ⟨f0, f1, o0, o1⟩ := hk
    have hby := h.byte (i := 32 * f.toNat + o.toNat) (by omega)
    have hby1 := h.byte (i := 32 * f.toNat + o.toNat + 1) (by omega)
    have a0 : (0 : Int) ≤ (L.getD (32 * f.toNat + o.toNat) 0).toNat := by omega
    have a1 : ((L.getD (32 * f.toNat + o.toNat) 0).toNat : Int) < 256 := by have := (L.getD (32 * f.toNat + o.toNat) 0).toNat_lt; omega
    have b0 : (0 : Int) ≤ (L.getD (32 * f.toNat + o.toNat + 1) 0).toNat := by omega
    have b1 : ((L.getD (32 * f.toNat + o.toNat + 1) 0).toNat : Int) < 256 := by have := (L.getD (32 * f.toNat + o.toNat + 1) 0).toNat_lt; omega
    generalize ((L.getD (32 * f.toNat + o.toNat) 0).toNat : Int) = x at *
    generalize ((L.getD (32 * f.toNat + o.toNat + 1) 0).toNat : Int) = y at *
    clear h
    go_enter Try.func16, Try.ntmps16
    go_wp2_with (go_at_call 32; refine (mem_at_ok m fb n _ _ _ _ _ hc hn (by omega) (by omega) (by omega) (by omega) (by omega) (by omega)).mono ?_; rintro e w' ⟨rfl, rfl⟩)
    go_quiet ((go_at_call 33; exact Calls.quiet_of_same ((join_any x y _ a0 a1 b0 b1).mono fun e w' ⟨h1, h2⟩ => ⟨h1, h2.symm⟩)))
    go_wp2
    go_ret2
    exact ⟨by simp, _, rfl⟩
  · rw [if_neg hk]
    clear h
    go_enter Try.func16, Try.ntmps16
    go_wp2_with (go_at_call 32; refine (mem_at_bad m fb n _ _ _ _ _ hc (by omega) (by omega) (by omega)).mono ?_; rintro e w' ⟨rfl, rfl⟩)
    go_ret2
    exact ⟨by simp, 0, rfl⟩

theorem mem_size (m fb n c : Nat) (w : World) (h : w.cell? ⟨m, 0, none⟩ = some (.slice (some ⟨fb, 0, none⟩) n c)) :
    Calls Try.prog 13 #[.pointer (some ⟨m, 0, none⟩)] w fun e w' => e = .returned (.int .i64 n) ∧ w = w' := by
  go_enter Try.func13, Try.ntmps13
  go_wp2
  go_ret
  exact ⟨rfl, rfl⟩

theorem bcs_set_in (L : List UInt8) (X : List Value) (i : Nat) (c : UInt8) (hi : i < L.length) : (bcs L ++ X).set i (.int .u8 (c.toNat : Int)) = bcs (L.set i c) ++ X := by
  rw [List.set_append_left _ _ (by rw [bcs_length]; exact hi), bcs_set]

/-- A byte is written. -/
theorem MemX.set_ {w : World} {m fb n cp : Nat} {L : List UInt8} {X : List Value} (h : MemX w m fb n cp L X) (i : Nat) (c : UInt8) (hi : i < 32 * n) : MemX (w.setCell ⟨fb, i, none⟩ (.int .u8 (c.toNat : Int))) m fb n cp (L.set i c) X := by
  refine ⟨h.obj.far (p := ⟨fb, i, none⟩) (h.obj.ne_ h.row (by decide)) _, ?_, by simpa using h.len, h.lo, h.hi⟩
  have := h.row.set_ i (.int .u8 (c.toNat : Int))
  rw [List.setIfInBounds_toArray, bcs_set_in _ _ _ _ (by have := h.len; omega)] at this
  exact this

theorem mem_setByte (m fb n : Nat) (L : List UInt8) (f o : Int) (c : UInt8) (w : World) (h : MemAt w m fb n L) :
    Calls Try.prog 29 #[.pointer (some ⟨m, 0, none⟩), .int .i64 f, .int .i64 o, .int .u8 (c.toNat : Int)] w fun e w' =>
      (e = .returned (.int .i64 (if 0 ≤ f ∧ f < n ∧ 0 ≤ o ∧ o ≤ 31 then 0 else 2))) ∧
      MemAt w' m fb n (if 0 ≤ f ∧ f < n ∧ 0 ≤ o ∧ o ≤ 31 then L.set (32 * f.toNat + o.toNat) c else L) ∧ Upd [fb] w w' := by
  obtain ⟨cp, X, h⟩ := h
  have hc := h.cell
  have hn := h.hi
  by_cases hk : 0 ≤ f ∧ f < n ∧ 0 ≤ o ∧ o ≤ 31
  · rw [if_pos hk, if_pos hk]
    obtain ⟨f0, f1, o0, o1⟩ := hk
    have hby := h.byte (i := 32 * f.toNat + o.toNat) (by omega)
    have hfz := h.row.frozen (32 * f.toNat + o.toNat)
    have HF := Lib.hid (h.set_ (32 * f.toNat + o.toNat) c (by omega))
    clear h
    go_enter Try.func29, Try.ntmps29
    go_wp2_with (go_at_call 32; refine (mem_at_ok m fb n _ _ _ _ _ hc hn (by omega) (by omega) (by omega) (by omega) (by omega) (by omega)).mono ?_; rintro e w' ⟨rfl, rfl⟩)
    go_ret
    exact ⟨by simp, ⟨_, _, HF.out⟩, (Upd.refl _ _).setCell (.inl (by simp)) _⟩
  · rw [if_neg hk, if_neg hk]
    have HF := Lib.hid h
    clear h
    go_enter Try.func29, Try.ntmps29
    go_wp2_with (go_at_call 32; refine (mem_at_bad m fb n _ _ _ _ _ hc (by omega) (by omega) (by omega)).mono ?_; rintro e w' ⟨rfl, rfl⟩)
    go_ret
    exact ⟨by simp, ⟨_, _, HF.out⟩, Upd.refl _ _⟩

end Go.Proofs.Ytmfokjifloafhaa
