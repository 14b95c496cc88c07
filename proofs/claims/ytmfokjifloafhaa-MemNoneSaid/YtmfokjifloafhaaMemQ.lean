/- The program's frames (package mem), the second half: writes of many bytes, copies, forks. -/
import Derived.Test.YtmfokjifloafhaaMemP
namespace Go.Proofs.Ytmfokjifloafhaa
open Go.RowKit

/-- The bytes cs from place i on. -/
def putAt (L : List UInt8) (i : Nat) (cs : List UInt8) : List UInt8 := L.take i ++ cs ++ L.drop (i + cs.length)
theorem putAt_length (L : List UInt8) (i : Nat) (cs : List UInt8) (h : i + cs.length ≤ L.length) : (putAt L i cs).length = L.length := by simp [putAt]; omega

theorem bcs_put_in (L : List UInt8) (X : List Value) (i : Nat) (cs : List UInt8) (hi : i + cs.length ≤ L.length) :
    (bcs L ++ X).take i ++ bcs cs ++ (bcs L ++ X).drop (i + (bcs cs).length) = bcs (putAt L i cs) ++ X := by
  unfold putAt
  rw [bcs_append, bcs_append, ← bcs_take, ← bcs_drop, bcs_length, List.take_append_of_le_length (by rw [bcs_length]; omega), List.drop_append_of_le_length (by rw [bcs_length]; omega)]
  simp

theorem MemX.put {w : World} {m fb n cp : Nat} {L : List UInt8} {X : List Value} (h : MemX w m fb n cp L X) (i : Nat) (cs : List UInt8) (hi : i + cs.length ≤ 32 * n) :
    MemX (w.setRow fb ((bcs L ++ X).take i ++ bcs cs ++ (bcs L ++ X).drop (i + (bcs cs).length)).toArray) m fb n cp (putAt L i cs) X := by
  have hl := h.len
  refine ⟨h.obj.rowFar (h.obj.ne_ h.row (by decide)) _, ?_, by rw [putAt_length _ _ _ (by omega)]; exact h.len, h.lo, h.hi⟩
  have := h.row.row ((bcs L ++ X).take i ++ bcs cs ++ (bcs L ++ X).drop (i + (bcs cs).length)).toArray
  rw [bcs_put_in _ _ _ _ (by omega)] at this ⊢
  exact this

theorem MemX.upd {w w' : World} {m fb n cp : Nat} {L : List UInt8} {X : List Value} {S : List Nat} (h : MemX w m fb n cp L X) (hu : Upd S w w') (h1 : m ∉ S) (h2 : fb ∉ S) : MemX w' m fb n cp L X :=
  ⟨h.obj.upd hu h1, h.row.upd hu h2, h.len, h.lo, h.hi⟩
theorem MemX.alloc {w : World} {m fb n cp : Nat} {L : List UInt8} {X : List Value} (h : MemX w m fb n cp L X) (o : Obj) : MemX (w.alloc o) m fb n cp L X :=
  ⟨h.obj.alloc o, h.row.alloc o, h.len, h.lo, h.hi⟩
theorem MemAt.upd {w w' : World} {m fb n : Nat} {L : List UInt8} {S : List Nat} (h : MemAt w m fb n L) (hu : Upd S w w') (h1 : m ∉ S) (h2 : fb ∉ S) : MemAt w' m fb n L := by
  obtain ⟨c, X, h⟩ := h
  exact ⟨c, X, h.upd hu h1 h2⟩

theorem info_byte : (Try.prog.info? 5).map (·.size) = some 1 := by kernel_rfl
theorem under_bytes : Try.prog.underlying 24 = some (.slice 5) := by kernel_rfl

/-- copy of bytes, both sides slices of bytes in memory. -/
theorem run_copyb (w : World) (ty g o dLen dCap sb so sLen sCap : Nat) (cur : List Value) (t : TypeId) (cs : List UInt8)
    (hg : Blk w g t cur.toArray) (hn : cs.length = Nat.min sLen dLen)
    (hsrc : ∀ j c, cs[j]? = some c → w.cell? ⟨sb, so + j, none⟩ = some (.int .u8 (c.toNat : Int))) (hfit : o + cs.length ≤ cur.length) :
    (Builtin.copy_ #[24, 24] ty #[.slice (some ⟨g, o, none⟩) dLen dCap, .slice (some ⟨sb, so, none⟩) sLen sCap]).run Try.prog w =
      .ok (goInt cs.length) (w.setRow g (cur.take o ++ bcs cs ++ cur.drop (o + (bcs cs).length)).toArray) := by
  have := run_copy_row (P := Try.prog) w 24 24 ty 5 g o dLen dCap ⟨sb, so, none⟩ sLen sCap cur.toArray t (bcs cs) under_bytes info_byte hg
    (by rw [bcs_length]; exact hn) (fun j v hv => by
      rw [bcs_get] at hv
      cases hc : cs[j]? with
      | none => simp [hc] at hv
      | some c =>
        simp [hc] at hv
        subst hv
        rw [Addr.add_mid]
        exact hsrc j c hc) (by simpa [bcs_length] using hfit) (bcs_one cs)
  rw [this, bcs_length]

theorem mem_setWord (m fb n : Nat) (L : List UInt8) (f o x : Int) (w : World) (h : MemAt w m fb n L) (x0 : 0 ≤ x) (x1 : x < 65536) :
    Calls Try.prog 19 #[.pointer (some ⟨m, 0, none⟩), .int .i64 f, .int .i64 o, .int .u16 x] w fun e w' =>
      (e = .returned (.int .i64 (if 0 ≤ f ∧ f < n ∧ 0 ≤ o ∧ o ≤ 30 then 0 else 2))) ∧
      MemAt w' m fb n (if 0 ≤ f ∧ f < n ∧ 0 ≤ o ∧ o ≤ 30 then putAt L (32 * f.toNat + o.toNat) [UInt8.ofNat (x / 256).toNat, UInt8.ofNat (x % 256).toNat] else L) ∧ Upd [fb] w w' := by
  obtain ⟨cp, X, h⟩ := h
  have hc := h.cell
  have hn := h.hi
  by_cases hk : 0 ≤ f ∧ f < n ∧ 0 ≤ o ∧ o ≤ 30
  · rw [if_pos hk, if_pos hk]
    obtain ⟨f0, f1, o0, o1⟩ := hk
    have hX : (bcs [UInt8.ofNat (x / 256).toNat, UInt8.ofNat (x % 256).toNat]) = [.int .u8 (x / 256), .int .u8 (x % 256)] := by
      simp [bcs]
      omega
    have hcp : ∀ ty, _ := fun ty => run_copyb (((w.alloc (.cells #[.int .u8 (x / 256), .int .u8 (x % 256)] 23)).alloc (.cells #[.int .u8 (x / 256), .int .u8 (x % 256)] 23))) ty fb (32 * f.toNat + o.toNat) 2 2 (w.heap.size + 1) 0 2 2 (bcs L ++ X) FrT [UInt8.ofNat (x / 256).toNat, UInt8.ofNat (x % 256).toNat]
      ((h.row.alloc _).alloc _) rfl (fun j c hj => by
        have hb := Blk.new (w.alloc (.cells #[.int .u8 (x / 256), .int .u8 (x % 256)] 23)) 23 #[.int .u8 (x / 256), .int .u8 (x % 256)]
        have : (w.alloc (.cells #[.int .u8 (x / 256), .int .u8 (x % 256)] 23)).heap.size = w.heap.size + 1 := by simp
        rw [this] at hb
        refine hb.cellAt ?_
        have h2 := bcs_get [UInt8.ofNat (x / 256).toNat, UInt8.ofNat (x % 256).toNat] j
        rw [hX, hj] at h2
        simpa using h2) (by have := h.len; simp [bcs_length]; omega)
    have hfin := ((h.alloc (.cells #[.int .u8 (x / 256), .int .u8 (x % 256)] 23)).alloc (.cells #[.int .u8 (x / 256), .int .u8 (x % 256)] 23)).put (32 * f.toNat + o.toNat) [UInt8.ofNat (x / 256).toNat, UInt8.ofNat (x % 256).toNat] (by simp; omega)
    have hup := (((Upd.refl [fb] w).alloc (.cells #[.int .u8 (x / 256), .int .u8 (x % 256)] 23)).alloc (.cells #[.int .u8 (x / 256), .int .u8 (x % 256)] 23)).setRow (g := fb) (.inl (by simp)) ((bcs L ++ X).take (32 * f.toNat + o.toNat) ++ bcs [UInt8.ofNat (x / 256).toNat, UInt8.ofNat (x % 256).toNat] ++ (bcs L ++ X).drop ((32 * f.toNat + o.toNat) + (bcs [UInt8.ofNat (x / 256).toNat, UInt8.ofNat (x % 256).toNat]).length)).toArray
    clear h
    generalize ((bcs L ++ X).take (32 * f.toNat + o.toNat) ++ bcs [UInt8.ofNat (x / 256).toNat, UInt8.ofNat (x % 256).toNat] ++ (bcs L ++ X).drop ((32 * f.toNat + o.toNat) + (bcs [UInt8.ofNat (x / 256).toNat, UInt8.ofNat (x % 256).toNat]).length)).toArray = R at *
    generalize putAt L (32 * f.toNat + o.toNat) [UInt8.ofNat (x / 256).toNat, UInt8.ofNat (x % 256).toNat] = L' at *
    have HF := Lib.hid hfin
    have HU := Lib.hid hup
    clear hfin hup hX
    simp only [List.length_cons, List.length_nil] at hcp
    go_enter Try.func19, Try.ntmps19
    go_wp2_with (first | (go_at_call 32; refine (mem_at_ok m fb n _ _ _ _ _ hc hn (by omega) (by omega) (by omega) (by omega) (by omega) (by omega)).mono ?_; rintro e w' ⟨rfl, rfl⟩) | (go_at_call 36; refine (bytes_any x _ x0 x1).mono ?_; rintro e w' ⟨rfl, rfl⟩))
    go_ret
    exact ⟨by simp, ⟨_, _, HF.out⟩, HU.out⟩
  · rw [if_neg hk, if_neg hk]
    go_enter Try.func19, Try.ntmps19
    go_wp2_with (go_at_call 32; refine (mem_at_bad m fb n _ _ _ _ _ hc (by omega) (by omega) (by omega)).mono ?_; rintro e w' ⟨rfl, rfl⟩)
    go_ret
    exact ⟨by simp, ⟨_, _, h⟩, Upd.refl _ _⟩

end Go.Proofs.Ytmfokjifloafhaa
