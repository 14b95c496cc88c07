/- The program's pipe: a ring of bytes in one block, and its counters. -/
import Derived.Test.YtdcecihojidiaaaRows
import Derived.Test.YtdcecihojidiaaaLib
import Derived.Lib.BufferWrite
import Derived.Lib.SliceRun
import Derived.Deep.MidRow
import Derived.Deep.QuietTactic
import Derived.BigQuiet
import Derived.StillTailTactics
import Derived.Lib.Hide
namespace Go.Proofs.Ytdcecihojidiaaa
open Go.RowKit

/-- Bytes of a string. -/
def bl (s : ByteArray) : List UInt8 := s.data.toList
theorem bl_length (s : ByteArray) : (bl s).length = s.size := by show s.data.toList.length = s.data.size; rw [Array.length_toList]
theorem bl_extract (s : ByteArray) (a b : Nat) : bl (s.extract a b) = ((bl s).take b).drop a := by
  simp [bl, List.extract_eq_take_drop, List.drop_take]
theorem bl_ext {s t : ByteArray} (h : bl s = bl t) : s = t := by
  obtain ⟨⟨s⟩⟩ := s
  obtain ⟨⟨t⟩⟩ := t
  simp [bl] at h
  rw [h]

/-- copy from a string, into a block. -/
theorem run_copys (w : World) (ty g o dLen dCap : Nat) (s : ByteArray) (cur : List Value) (t : TypeId) (k : Nat)
    (hg : Blk w g t cur.toArray) (hk : k = Nat.min s.size dLen) (hfit : o + k ≤ cur.length) :
    (Builtin.copy_ #[23, 9] ty #[.slice (some ⟨g, o, none⟩) dLen dCap, .string s]).run Try.prog w =
      .ok (goInt k) (w.setRow g (cur.take o ++ bcs ((bl s).take k) ++ cur.drop (o + k)).toArray) := by
  have hu : Try.prog.underlying 23 = some (.slice 5) := by kernel_rfl
  have hs : (Try.prog.info? 5).map (·.size) = some 1 := by kernel_rfl
  have hlen : (bcs ((bl s).take k)).length = k := by rw [bcs_length, List.length_take, bl_length, hk]; exact Nat.min_eq_left (Nat.min_le_left _ _)
  have hst := run_storeCells_at Try.prog g o t (bcs ((bl s).take k)) 0 cur.toArray w hg (by rw [hlen]; simpa using hfit) (bcs_one _)
  have htk : List.take k (List.map (fun b : UInt8 => Value.int IntKind.u8 (b.toNat : Int)) s.data.toList) = bcs ((bl s).take k) := by
    rw [bcs, List.map_take]; rfl
  rw [hlen] at hst
  simp only [Nat.add_zero] at hst
  obtain ⟨i, hi, hz⟩ := Option.map_eq_some_iff.1 hs
  simp [Builtin.copy_, run_underlying hu, Builtin.lenOf, Builtin.firstCells, sizeOf, typeInfo, hi, hz, ← hk]
  rw [htk, hst]
  simp [Result.andThen]

theorem info_byte : (Try.prog.info? 5).map (·.size) = some 1 := by kernel_rfl
theorem under_bytes : Try.prog.underlying 23 = some (.slice 5) := by kernel_rfl
theorem under_byte : Try.prog.underlying 5 = some (.int .u8) := by kernel_rfl
theorem under_string : Try.prog.underlying 9 = some .string := by kernel_rfl

/-- copy of bytes, both sides slices of bytes in memory. -/
theorem run_copyb (w : World) (ty g o dLen dCap sb so sLen sCap : Nat) (cur : List Value) (t : TypeId) (cs : List UInt8)
    (hg : Blk w g t cur.toArray) (hn : cs.length = Nat.min sLen dLen)
    (hsrc : ∀ j c, cs[j]? = some c → w.cell? ⟨sb, so + j, none⟩ = some (.int .u8 (c.toNat : Int))) (hfit : o + cs.length ≤ cur.length) :
    (Builtin.copy_ #[23, 23] ty #[.slice (some ⟨g, o, none⟩) dLen dCap, .slice (some ⟨sb, so, none⟩) sLen sCap]).run Try.prog w =
      .ok (goInt cs.length) (w.setRow g (cur.take o ++ bcs cs ++ cur.drop (o + (bcs cs).length)).toArray) := by
  have := run_copy_row (P := Try.prog) w 23 23 ty 5 g o dLen dCap ⟨sb, so, none⟩ sLen sCap cur.toArray t (bcs cs) under_bytes info_byte hg
    (by rw [bcs_length]; exact hn) (fun j v hv => by
      rw [bcs_get] at hv
      cases hc : cs[j]? with
      | none => simp [hc] at hv
      | some c =>
        simp [hc] at hv
        subst hv
        rw [Addr.add_mid]
        exact hsrc j c hc) (by simpa [bcs_length] using hfit) (bcs_one cs)
  rw [this, bcs_length]

/-- The ring. -/
def PipT : TypeId := 55
structure Ring (B L : List UInt8) (f : Nat) : Prop where
  len : B.length = 24
  from_ : f < 24
  hi : L.length ≤ 24
  at_ : ∀ i c, L[i]? = some c → B[(f + i) % 24]? = some c
def ringCells (B : List UInt8) (f n rd wr : Nat) : List Value := bcs B ++ [.int .i64 f, .int .i64 n, .int .i64 rd, .int .i64 wr]

theorem room_any (p : Nat) (n : Nat) (w : World) (hc : w.cell? ⟨p, 25, none⟩ = some (.int .i64 n)) (hn : n ≤ 24) :
    Calls Try.prog 25 #[.pointer (some ⟨p, 0, none⟩)] w fun e w' => e = .returned (.int .i64 (24 - n)) ∧ w = w' := by
  go_enter Try.func25, Try.ntmps25
  go_wp2
  go_ret
  exact ⟨by simp, rfl⟩

/-- Bytes cs into B from place i on. -/
def putB (B : List UInt8) (i : Nat) (cs : List UInt8) : List UInt8 := B.take i ++ cs ++ B.drop (i + cs.length)
theorem putB_length (B : List UInt8) (i : Nat) (cs : List UInt8) (h : i + cs.length ≤ B.length) : (putB B i cs).length = B.length := by simp [putB]; omega
theorem putB_cells (B : List UInt8) (X : List Value) (i : Nat) (cs : List UInt8) (k : Nat) (hk : cs.length = k) (hi : i + k ≤ B.length) :
    (bcs B ++ X).take i ++ bcs cs ++ (bcs B ++ X).drop (i + k) = bcs (putB B i cs) ++ X := by
  unfold putB
  rw [bcs_append, bcs_append, ← bcs_take, ← bcs_drop, List.take_append_of_le_length (by rw [bcs_length]; omega), List.drop_append_of_le_length (by rw [bcs_length]; omega), hk]
  simp

end Go.Proofs.Ytdcecihojidiaaa
