/- The reference's frames (package embrasureref06): what each method answers, and what it leaves in memory. -/
import Derived.Test.YtmfokjifloafhaaMemU
namespace Go.Proofs.Ytmfokjifloafhaa
open Go.RowKit

def U8T : TypeId := 5
def RefT : TypeId := 74

/-- At r lies the reference's memory of n frames, its bytes L, in block rb. -/
structure RefX (w : World) (r rb n c : Nat) (L : List UInt8) (X : List Value) : Prop where
  obj : Blk w r RefT #[.slice (some ⟨rb, 0, none⟩) (32 * n) c]
  row : Blk w rb U8T (bcs L ++ X).toArray
  len : L.length = 32 * n
  lo : 1 ≤ n
  hi : n ≤ 64
  cap : 32 * n ≤ c
def RefAt (w : World) (r rb n : Nat) (L : List UInt8) : Prop := ∃ c X, RefX w r rb n c L X

theorem RefX.cell {w : World} {r rb n c : Nat} {L : List UInt8} {X : List Value} (h : RefX w r rb n c L X) : w.cell? ⟨r, 0, none⟩ = some (.slice (some ⟨rb, 0, none⟩) (32 * n) c) := h.obj.cellAt rfl
theorem RefX.byte {w : World} {r rb n c : Nat} {L : List UInt8} {X : List Value} (h : RefX w r rb n c L X) {i : Nat} (hi : i < 32 * n) : w.cell? ⟨rb, i, none⟩ = some (.int .u8 ((L.getD i 0).toNat : Int)) := by
  have hl : i < L.length := by have := h.len; omega
  refine h.row.cellAt ?_
  rw [List.getElem?_toArray, List.getElem?_append_left (by rw [bcs_length]; exact hl)]
  simp [bcs, hl]
theorem RefX.set_ {w : World} {r rb n cp : Nat} {L : List UInt8} {X : List Value} (h : RefX w r rb n cp L X) (i : Nat) (c : UInt8) (hi : i < 32 * n) : RefX (w.setCell ⟨rb, i, none⟩ (.int .u8 (c.toNat : Int))) r rb n cp (L.set i c) X := by
  refine ⟨h.obj.far (p := ⟨rb, i, none⟩) (h.obj.ne_ h.row (by decide)) _, ?_, by simpa using h.len, h.lo, h.hi, h.cap⟩
  have := h.row.set_ i (.int .u8 (c.toNat : Int))
  rw [List.setIfInBounds_toArray, bcs_set_in _ _ _ _ (by have := h.len; omega)] at this
  exact this
theorem RefX.upd {w w' : World} {m fb n cp : Nat} {L : List UInt8} {X : List Value} {S : List Nat} (h : RefX w m fb n cp L X) (hu : Upd S w w') (h1 : m ∉ S) (h2 : fb ∉ S) : RefX w' m fb n cp L X :=
  ⟨h.obj.upd hu h1, h.row.upd hu h2, h.len, h.lo, h.hi, h.cap⟩
theorem RefX.alloc {w : World} {m fb n cp : Nat} {L : List UInt8} {X : List Value} (h : RefX w m fb n cp L X) (o : Obj) : RefX (w.alloc o) m fb n cp L X :=
  ⟨h.obj.alloc o, h.row.alloc o, h.len, h.lo, h.hi, h.cap⟩
theorem RefX.drewN {w : World} {m fb n cp : Nat} {L : List UInt8} {X : List Value} (h : RefX w m fb n cp L X) (k : Nat) : RefX (w.drewN k) m fb n cp L X := ⟨h.obj, h.row, h.len, h.lo, h.hi, h.cap⟩
theorem RefAt.upd {w w' : World} {m fb n : Nat} {L : List UInt8} {S : List Nat} (h : RefAt w m fb n L) (hu : Upd S w w') (h1 : m ∉ S) (h2 : fb ∉ S) : RefAt w' m fb n L := by
  obtain ⟨c, X, h⟩ := h
  exact ⟨c, X, h.upd hu h1 h2⟩

theorem ref_size (m fb n c : Nat) (w : World) (h : w.cell? ⟨m, 0, none⟩ = some (.slice (some ⟨fb, 0, none⟩) (32 * n) c)) (hn : n ≤ 64) :
    Calls Try.prog 37 #[.pointer (some ⟨m, 0, none⟩)] w fun e w' => e = .returned (.int .i64 n) ∧ w = w' := by
  go_enter Try.func37, Try.ntmps37
  go_wp2
  go_ret
  refine ⟨?_, rfl⟩
  simp

theorem ref_may_ok (m fb n c : Nat) (f o k : Int) (w : World) (h : w.cell? ⟨m, 0, none⟩ = some (.slice (some ⟨fb, 0, none⟩) (32 * n) c)) (hn : n ≤ 64)
    (k0 : 0 ≤ k) (k1 : k ≤ 32) (f0 : 0 ≤ f) (f1 : f < n) (o0 : 0 ≤ o) (o1 : o ≤ 32 - k) :
    Calls Try.prog 34 #[.pointer (some ⟨m, 0, none⟩), .int .i64 f, .int .i64 o, .int .i64 k] w fun e w' => e = .returned (.int .i64 0) ∧ w = w' := by
  go_enter Try.func34, Try.ntmps34
  go_wp2_with (go_at_call 37; refine (ref_size m fb n c _ h hn).mono ?_; rintro e w' ⟨rfl, rfl⟩)
  all_goals (first | (exfalso; omega) | (go_ret; exact ⟨rfl, rfl⟩))

theorem ref_may_bad (m fb n c : Nat) (f o k : Int) (w : World) (h : w.cell? ⟨m, 0, none⟩ = some (.slice (some ⟨fb, 0, none⟩) (32 * n) c)) (hn : n ≤ 64)
    (k0 : 0 ≤ k) (k1 : k ≤ 32) (hb : f < 0 ∨ n ≤ f ∨ o < 0 ∨ 32 - k < o) :
    Calls Try.prog 34 #[.pointer (some ⟨m, 0, none⟩), .int .i64 f, .int .i64 o, .int .i64 k] w fun e w' => e = .returned (.int .i64 2) ∧ w = w' := by
  go_enter Try.func34, Try.ntmps34
  go_wp2_with (go_at_call 37; refine (ref_size m fb n c _ h hn).mono ?_; rintro e w' ⟨rfl, rfl⟩)
  all_goals (first | (exfalso; omega) | (go_ret; exact ⟨rfl, rfl⟩))

theorem refbytes_any (x : Int) (w : World) (x0 : 0 ≤ x) (x1 : x < 65536) :
    Calls Try.prog 49 #[.int .u16 x] w fun e w' => e = .returned (.agg #[.int .u8 (x / 256), .int .u8 (x % 256)]) ∧ w.alloc (.cells #[.int .u8 (x / 256), .int .u8 (x % 256)] 23) = w' := by
  go_enter Try.func49, Try.ntmps49
  go_wp2
  exact bodyPost_ret (v := .agg #[.int .u8 (x / 256), .int .u8 (x % 256)]) (by simp [results, Try.results49, go_sem]) rfl ⟨rfl, rfl⟩

theorem refjoin_any (x y : Int) (w : World) (x0 : 0 ≤ x) (x1 : x < 256) (y0 : 0 ≤ y) (y1 : y < 256) :
    Calls Try.prog 35 #[.int .u8 x, .int .u8 y] w fun e w' => e = .returned (.int .u16 (x * 256 + y)) ∧ w = w' := by
  have hj : 0 ≤ x * 256 + y := by omega
  have hj2 : x * 256 + y < 65536 := by omega
  go_enter Try.func35, Try.ntmps35
  go_wp2
  go_ret
  exact ⟨by simp, rfl⟩

theorem ref_byte (m fb n : Nat) (L : List UInt8) (f o : Int) (w : World) (h : RefAt w m fb n L) :
    Calls Try.prog 18 #[.pointer (some ⟨m, 0, none⟩), .int .i64 f, .int .i64 o] w fun e w' =>
      e = .returned (if 0 ≤ f ∧ f < n ∧ 0 ≤ o ∧ o ≤ 31 then .tuple #[.int .u8 ((L.getD (32 * f.toNat + o.toNat) 0).toNat : Int), .int .i64 0] else .tuple #[.int .u8 0, .int .i64 2]) ∧ w = w' := by
  obtain ⟨cp, X, h⟩ := h
  have hc := h.cell
  have hn := h.hi
  by_cases hk : 0 ≤ f ∧ f < n ∧ 0 ≤ o ∧ o ≤ 31
  · rw [if_pos hk]
    obtain ⟨f0, f1, o0, o1⟩ := hk
    have hby := h.byte (i := (f * 32 + o).toNat) (by omega)
    have e1 : (f * 32 + o).toNat = 32 * f.toNat + o.toNat := by omega
    have HE := Lib.hid e1
    have i1 : 0 ≤ f * 32 + o := by omega
    have i2 : f * 32 + o < ((32 * n : Nat) : Int) := by omega
    clear h e1
    go_enter Try.func18, Try.ntmps18
    go_wp2_with (go_at_call 34; refine (ref_may_ok m fb n _ _ _ _ _ hc hn (by omega) (by omega) (by omega) (by omega) (by omega) (by omega)).mono ?_; rintro e w' ⟨rfl, rfl⟩)
    go_ret2
    exact ⟨by simp [HE.out], rfl⟩
  · rw [if_neg hk]
    clear h
    go_enter Try.func18, Try.ntmps18
    go_wp2_with (go_at_call 34; refine (ref_may_bad m fb n _ _ _ _ _ hc hn (by omega) (by omega) (by omega)).mono ?_; rintro e w' ⟨rfl, rfl⟩)
    go_ret2
    exact ⟨by simp, rfl⟩

end Go.Proofs.Ytmfokjifloafhaa
