/- A deed on both memories: both answer alike, and hold the same bytes behind it. -/
import Derived.Test.YtmfokjifloafhaaMemZ
import Derived.Deep.RegionHeld3
namespace Go.Proofs.Ytmfokjifloafhaa
open Go.RowKit

theorem MemAt.drew {w : World} {m fb n : Nat} {L : List UInt8} (h : MemAt w m fb n L) : MemAt w.drew m fb n L := by
  obtain ⟨c, X, h⟩ := h
  exact ⟨c, X, ⟨h.obj, h.row, h.len, h.lo, h.hi⟩⟩
theorem RefAt.drew {w : World} {m fb n : Nat} {L : List UInt8} (h : RefAt w m fb n L) : RefAt w.drew m fb n L := by
  obtain ⟨c, X, h⟩ := h
  exact ⟨c, X, ⟨h.obj, h.row, h.len, h.lo, h.hi, h.cap⟩⟩

/-- Both hold the same bytes. -/
structure Both (w : World) (m fb r rb n : Nat) (L : List UInt8) : Prop where
  mem : MemAt w m fb n L
  ref : RefAt w r rb n L
theorem Both.ne {w : World} {m fb r rb n : Nat} {L : List UInt8} (h : Both w m fb r rb n L) : m ≠ fb ∧ m ≠ r ∧ m ≠ rb ∧ fb ≠ r ∧ fb ≠ rb ∧ r ≠ rb := by
  obtain ⟨⟨c, X, h1⟩, c', X', h2⟩ := h
  exact ⟨h1.obj.ne_ h1.row (by decide), h1.obj.ne_ h2.obj (by decide), h1.obj.ne_ h2.row (by decide), h1.row.ne_ h2.obj (by decide), h1.row.ne_ h2.row (by decide), h2.obj.ne_ h2.row (by decide)⟩
theorem Both.lt {w : World} {m fb r rb n : Nat} {L : List UInt8} (h : Both w m fb r rb n L) : m < w.heap.size ∧ fb < w.heap.size ∧ r < w.heap.size ∧ rb < w.heap.size := by
  obtain ⟨⟨c, X, h1⟩, c', X', h2⟩ := h
  exact ⟨h1.obj.lt, h1.row.lt, h2.obj.lt, h2.row.lt⟩
theorem Both.upd {w w' : World} {m fb r rb n : Nat} {L : List UInt8} {S : List Nat} (h : Both w m fb r rb n L) (hu : Upd S w w') (h1 : m ∉ S) (h2 : fb ∉ S) (h3 : r ∉ S) (h4 : rb ∉ S) : Both w' m fb r rb n L :=
  ⟨h.mem.upd hu h1 h2, h.ref.upd hu h3 h4⟩

def DoPost (m fb r rb n : Nat) (w : World) (e : Ending) (w' : World) : Prop :=
  e = .returned (.bool true) ∧ (∃ L', Both w' m fb r rb n L') ∧ Upd [fb, rb] w w'


theorem RdB.take200 {w w' : World} {A : Option Addr} {cs : List UInt8} {S : List Nat} (h : RdB w A cs) (hu : Upd S w w') (hS : 0 < cs.length → ∀ b o, A = some ⟨b, o, none⟩ → b ∉ S) : RdB w' A (cs.take 200) := by
  intro hk
  obtain ⟨b, o, rfl, hc⟩ := (h.upd hu hS) (by simp at hk; omega)
  exact ⟨b, o, rfl, fun j c hj => hc j c (by
    by_cases h2 : j < 200
    · rw [List.getElem?_take, if_pos h2] at hj; exact hj
    · rw [List.getElem?_take, if_neg h2] at hj; cases hj)⟩

def fits (n : Nat) (f o : Int) (k : Nat) : Prop := 0 ≤ f ∧ f < n ∧ 0 ≤ o ∧ o ≤ 31 ∧ 32 * f + o + k ≤ 32 * n
instance (n : Nat) (f o : Int) (k : Nat) : Decidable (fits n f o k) := inferInstanceAs (Decidable (_ ∧ _))

theorem mem_fill (m fb n : Nat) (L : List UInt8) (f o : Int) (A : Option Addr) (cq : Nat) (cs : List UInt8) (w : World) (h : MemAt w m fb n L) 
    (hr : RdB w A cs) (hA : 0 < cs.length → ∀ b o, A = some ⟨b, o, none⟩ → b ≠ fb) (hcq : cs.length ≤ cq) :
    Calls Try.prog 14 #[.pointer (some ⟨m, 0, none⟩), .int .i64 f, .int .i64 o, .slice A cs.length cq] w fun e w' =>
      e = .returned (.int .i64 (if fits n f o cs.length then 0 else 2)) ∧ MemAt w' m fb n (if fits n f o cs.length then putAt L (32 * f.toNat + o.toNat) cs else L) ∧ Upd [fb] w w' := by
  by_cases hf : fits n f o cs.length
  · rw [if_pos hf, if_pos hf]
    obtain ⟨f0, f1, o0, o1, h5⟩ := hf
    obtain ⟨a, rfl⟩ : ∃ a : Nat, f = a := ⟨f.toNat, by omega⟩
    obtain ⟨b, rfl⟩ : ∃ b : Nat, o = b := ⟨o.toNat, by omega⟩
    exact mem_fill_ok m fb n L a b A cq cs w h (by omega) (by omega) hr hA hcq (by omega)
  · rw [if_neg hf, if_neg hf]
    unfold fits at hf
    by_cases hk : 0 ≤ f ∧ f < n ∧ 0 ≤ o ∧ o ≤ 31
    · exact (mem_fill_long m fb n L f o A cs.length cq w h (by omega) (by omega) (by omega) (by omega) (by omega)).mono fun e w' ⟨h1, h2⟩ => ⟨h1, h2 ▸ h, h2 ▸ Upd.refl _ _⟩
    · exact (mem_fill_bad m fb n L f o A cs.length cq w h (by omega)).mono fun e w' ⟨h1, h2⟩ => ⟨h1, h2 ▸ h, h2 ▸ Upd.refl _ _⟩

theorem ref_fill (m fb n : Nat) (L : List UInt8) (f o : Int) (A : Option Addr) (cq : Nat) (cs : List UInt8) (w : World) (h : RefAt w m fb n L) 
    (hr : RdB w A cs) (hA : 0 < cs.length → ∀ b o, A = some ⟨b, o, none⟩ → b ≠ fb) :
    Calls Try.prog 48 #[.pointer (some ⟨m, 0, none⟩), .int .i64 f, .int .i64 o, .slice A cs.length cq] w fun e w' =>
      e = .returned (.int .i64 (if fits n f o cs.length then 0 else 2)) ∧ RefAt w' m fb n (if fits n f o cs.length then putAt L (32 * f.toNat + o.toNat) cs else L) ∧ Upd [fb] w w' := by
  by_cases hf : fits n f o cs.length
  · rw [if_pos hf, if_pos hf]
    obtain ⟨f0, f1, o0, o1, h5⟩ := hf
    obtain ⟨a, rfl⟩ : ∃ a : Nat, f = a := ⟨f.toNat, by omega⟩
    obtain ⟨b, rfl⟩ : ∃ b : Nat, o = b := ⟨o.toNat, by omega⟩
    exact ref_fill_ok m fb n L a b A cq cs w h (by omega) (by omega) hr hA (by omega)
  · rw [if_neg hf, if_neg hf]
    unfold fits at hf
    by_cases hk : 0 ≤ f ∧ f < n ∧ 0 ≤ o ∧ o ≤ 31
    · exact (ref_fill_long m fb n L f o A cs.length cq w h (by omega) (by omega) (by omega) (by omega) (by omega)).mono fun e w' ⟨h1, h2⟩ => ⟨h1, h2 ▸ h, h2 ▸ Upd.refl _ _⟩
    · exact (ref_fill_bad m fb n L f o A cs.length cq w h (by omega)).mono fun e w' ⟨h1, h2⟩ => ⟨h1, h2 ▸ h, h2 ▸ Upd.refl _ _⟩

theorem few_any (A : Option Addr) (k c : Nat) (w : World) (hc : k ≤ c) :
    Calls Try.prog 12 #[.slice A k c] w fun e w' => e = .returned (.slice A (min k 200) c) ∧ w = w' := by
  by_cases h : 200 < k
  · rw [show min k 200 = 200 by omega]
    have h2 : ¬ c = 0 := by omega
    have h3 : (200 : Int) ≤ (c : Int) := by omega
    go_enter Try.func12, Try.ntmps12
    go_wp2
    go_ret
    exact ⟨by simp, rfl⟩
  · rw [show min k 200 = k by omega]
    go_enter Try.func12, Try.ntmps12
    go_wp2
    go_ret
    exact ⟨by simp, rfl⟩

set_option maxRecDepth 100000 in
set_option maxHeartbeats 2000000 in
theorem do_0 (m fb r rb n : Nat) (L : List UInt8) (w : World) (h : Both w m fb r rb n L) (f o x : Int) (A : Option Addr) (k c : Nat) (x0 : 0 ≤ x) (x1 : x < 65536) :
    Calls Try.prog 28 #[.pointer (some ⟨m, 0, none⟩), .pointer (some ⟨r, 0, none⟩), .agg #[.int .i64 0, .int .i64 f, .int .i64 o, .int .u16 x, .slice A k c]] w (DoPost m fb r rb n w) := by
  have HB := Lib.hid h
  clear h
  have h19 := fun W hm => mem_setWord m fb n L f o x W hm x0 x1
  have h44 := fun W hr => ref_setWord r rb n L f o x W hr x0 x1
  generalize (if 0 ≤ f ∧ f < n ∧ 0 ≤ o ∧ o ≤ 30 then (0 : Int) else 2) = E at h19 h44
  generalize (if 0 ≤ f ∧ f < n ∧ 0 ≤ o ∧ o ≤ 30 then putAt L (32 * f.toNat + o.toNat) [UInt8.ofNat (x / 256).toNat, UInt8.ofNat (x % 256).toNat] else L) = L' at h19 h44
  have H19 := Lib.hid h19
  have H44 := Lib.hid h44
  clear h19 h44
  go_enter Try.func28, Try.ntmps28
  go_wp2_with fail
  have hnew := Blk.new w 44 #[.int .i64 0, .int .i64 f, .int .i64 o, .int .u16 x, .slice A k c]
  have hu0 := (Upd.refl [fb, rb] w).alloc (.cells #[.int .i64 0, .int .i64 f, .int .i64 o, .int .u16 x, .slice A k c] 44)
  have hu9 := (Upd.refl [] w).alloc (.cells #[.int .i64 0, .int .i64 f, .int .i64 o, .int .u16 x, .slice A k c] 44)
  have hb0 := HB.out.upd (S := []) ((Upd.refl [] w).alloc (.cells #[.int .i64 0, .int .i64 f, .int .i64 o, .int .u16 x, .slice A k c] 44)) (by simp) (by simp) (by simp) (by simp)
  have hlt := HB.out.lt
  generalize (w.alloc (.cells #[.int .i64 0, .int .i64 f, .int .i64 o, .int .u16 x, .slice A k c] 44)) = W1 at *
  have c1 := hnew.cellAt (i := 1) rfl
  have c2 := hnew.cellAt (i := 2) rfl
  have c3 := hnew.cellAt (i := 3) rfl
  have n1 : w.heap.size ∉ [fb] := by simp; omega
  have n2 : w.heap.size ∉ [rb] := by simp; omega
  generalize w.heap.size = Nb at *
  have HN := Lib.hid hb0.ne
  have HB0 := Lib.hid hb0
  have HU0 := Lib.hid hu0
  have HU9 := Lib.hid hu9
  clear hnew hb0 hu0 hlt hu9
  simp only [List.getElem_toArray, List.getElem_cons_succ, List.getElem_cons_zero] at c1 c2 c3
  go_region_held3 (fun w' => w'.cell? ⟨Nb, 1, none⟩ = some (.int .i64 f) ∧ w'.cell? ⟨Nb, 2, none⟩ = some (.int .i64 o) ∧ w'.cell? ⟨Nb, 3, none⟩ = some (.int .u16 x)) (simp [*])
    (first
      | (go_at_call 19; refine (H19.out _ HB0.out.mem.drew).mono ?_; rintro e w1 ⟨rfl, hm1, hu1⟩; have d1 := hu1.cellAt (w := W1.drew) c1 n1; have d2 := hu1.cellAt (w := W1.drew) c2 n1; have d3 := hu1.cellAt (w := W1.drew) c3 n1; have hr1 := Lib.hid (HB0.out.ref.drew.upd hu1 (by simp; exact fun h => HN.out.2.2.2.1 h.symm) (by simp; exact fun h => HN.out.2.2.2.2.1 h.symm)); have HM1 := Lib.hid hm1; have HU1 := Lib.hid hu1; clear hm1 hu1)
      | (go_at_call 44; refine (H44.out _ hr1.out).mono ?_; rintro e w2 ⟨rfl, hm2, hu2⟩; have g1 := hu2.cellAt d1 n2; have g2 := hu2.cellAt d2 n2; have g3 := hu2.cellAt d3 n2; have HM2 := Lib.hid hm2; have HU2 := Lib.hid hu2; clear hm2 hu2))
  go_wp2
  go_ret
  have hne := HN.out
  refine ⟨by simp, ⟨L', ⟨HM1.out.upd HU2.out (by simp; exact hne.2.2.1) (by simp; exact hne.2.2.2.2.1), HM2.out⟩⟩, ?_⟩
  exact (HU0.out.drew.trans HU1.out (fun s hs => .inl (by simp at hs; simp [hs]))).trans HU2.out (fun s hs => .inl (by simp at hs; simp [hs]))

set_option maxRecDepth 100000 in
set_option maxHeartbeats 2000000 in
theorem do_1 (m fb r rb n : Nat) (L : List UInt8) (w : World) (h : Both w m fb r rb n L) (f o x : Int) (A : Option Addr) (k c : Nat) (x0 : 0 ≤ x) (x1 : x < 65536) :
    Calls Try.prog 28 #[.pointer (some ⟨m, 0, none⟩), .pointer (some ⟨r, 0, none⟩), .agg #[.int .i64 1, .int .i64 f, .int .i64 o, .int .u16 x, .slice A k c]] w (DoPost m fb r rb n w) := by
  have HB := Lib.hid h
  clear h
  have h19 := fun W hm => mem_setByte m fb n L f o (UInt8.ofNat (x % 256).toNat) W hm
  have h44 := fun W hr => ref_setByte r rb n L f o (UInt8.ofNat (x % 256).toNat) W hr
  have hxb : ((UInt8.ofNat (x % 256).toNat).toNat : Int) = x % 256 := by simp; omega
  simp only [hxb] at h19 h44
  generalize (if 0 ≤ f ∧ f < n ∧ 0 ≤ o ∧ o ≤ 31 then (0 : Int) else 2) = E at h19 h44
  generalize (if 0 ≤ f ∧ f < n ∧ 0 ≤ o ∧ o ≤ 31 then L.set (32 * f.toNat + o.toNat) (UInt8.ofNat (x % 256).toNat) else L) = L' at h19 h44
  clear hxb
  have hw : IntKind.u8.wrap (x.tmod 256) = x % 256 := by rw [Int.tmod_eq_emod_of_nonneg x0, IntKind.wrap_u8']; omega
  have H19 := Lib.hid h19
  have H44 := Lib.hid h44
  clear h19 h44
  go_enter Try.func28, Try.ntmps28
  go_wp2_with fail
  have hnew := Blk.new w 44 #[.int .i64 1, .int .i64 f, .int .i64 o, .int .u16 x, .slice A k c]
  have hu0 := (Upd.refl [fb, rb] w).alloc (.cells #[.int .i64 1, .int .i64 f, .int .i64 o, .int .u16 x, .slice A k c] 44)
  have hu9 := (Upd.refl [] w).alloc (.cells #[.int .i64 1, .int .i64 f, .int .i64 o, .int .u16 x, .slice A k c] 44)
  have hb0 := HB.out.upd (S := []) ((Upd.refl [] w).alloc (.cells #[.int .i64 1, .int .i64 f, .int .i64 o, .int .u16 x, .slice A k c] 44)) (by simp) (by simp) (by simp) (by simp)
  have hlt := HB.out.lt
  generalize (w.alloc (.cells #[.int .i64 1, .int .i64 f, .int .i64 o, .int .u16 x, .slice A k c] 44)) = W1 at *
  have c1 := hnew.cellAt (i := 1) rfl
  have c2 := hnew.cellAt (i := 2) rfl
  have c3 := hnew.cellAt (i := 3) rfl
  have n1 : w.heap.size ∉ [fb] := by simp; omega
  have n2 : w.heap.size ∉ [rb] := by simp; omega
  generalize w.heap.size = Nb at *
  have HN := Lib.hid hb0.ne
  have HB0 := Lib.hid hb0
  have HU0 := Lib.hid hu0
  have HU9 := Lib.hid hu9
  clear hnew hb0 hu0 hlt hu9
  simp only [List.getElem_toArray, List.getElem_cons_succ, List.getElem_cons_zero] at c1 c2 c3
  go_region_held3 (fun w' => w'.cell? ⟨Nb, 1, none⟩ = some (.int .i64 f) ∧ w'.cell? ⟨Nb, 2, none⟩ = some (.int .i64 o) ∧ w'.cell? ⟨Nb, 3, none⟩ = some (.int .u16 x)) (simp [*])
    (first
      | (go_at_call 29; refine (H19.out _ HB0.out.mem.drew).mono ?_; rintro e w1 ⟨rfl, hm1, hu1⟩; have d1 := hu1.cellAt (w := W1.drew) c1 n1; have d2 := hu1.cellAt (w := W1.drew) c2 n1; have d3 := hu1.cellAt (w := W1.drew) c3 n1; have hr1 := Lib.hid (HB0.out.ref.drew.upd hu1 (by simp; exact fun h => HN.out.2.2.2.1 h.symm) (by simp; exact fun h => HN.out.2.2.2.2.1 h.symm)); have HM1 := Lib.hid hm1; have HU1 := Lib.hid hu1; clear hm1 hu1)
      | (go_at_call 45; refine (H44.out _ hr1.out).mono ?_; rintro e w2 ⟨rfl, hm2, hu2⟩; have g1 := hu2.cellAt d1 n2; have g2 := hu2.cellAt d2 n2; have g3 := hu2.cellAt d3 n2; have HM2 := Lib.hid hm2; have HU2 := Lib.hid hu2; clear hm2 hu2))
  go_wp2
  go_ret
  have hne := HN.out
  refine ⟨by simp, ⟨L', ⟨HM1.out.upd HU2.out (by simp; exact hne.2.2.1) (by simp; exact hne.2.2.2.2.1), HM2.out⟩⟩, ?_⟩
  exact (HU0.out.drew.trans HU1.out (fun s hs => .inl (by simp at hs; simp [hs]))).trans HU2.out (fun s hs => .inl (by simp at hs; simp [hs]))

set_option maxRecDepth 100000 in
set_option maxHeartbeats 2000000 in
theorem do_2 (m fb r rb n : Nat) (L : List UInt8) (w : World) (h : Both w m fb r rb n L) (f o x : Int) (A : Option Addr) (k c : Nat) (x0 : 0 ≤ x) (x1 : x < 65536) :
    Calls Try.prog 28 #[.pointer (some ⟨m, 0, none⟩), .pointer (some ⟨r, 0, none⟩), .agg #[.int .i64 2, .int .i64 f, .int .i64 o, .int .u16 x, .slice A k c]] w (DoPost m fb r rb n w) := by
  have HB := Lib.hid h
  clear h
  have h19 := fun W hm => mem_zero m fb n L f W hm
  have h44 := fun W hr => ref_zero r rb n L f W hr
  generalize (if 0 ≤ f ∧ f < n then (0 : Int) else 2) = E at h19 h44
  generalize (if 0 ≤ f ∧ f < n then putAt L (32 * f.toNat) (List.replicate 32 0) else L) = L' at h19 h44
  have H19 := Lib.hid h19
  have H44 := Lib.hid h44
  clear h19 h44
  go_enter Try.func28, Try.ntmps28
  go_wp2_with fail
  have hnew := Blk.new w 44 #[.int .i64 2, .int .i64 f, .int .i64 o, .int .u16 x, .slice A k c]
  have hu0 := (Upd.refl [fb, rb] w).alloc (.cells #[.int .i64 2, .int .i64 f, .int .i64 o, .int .u16 x, .slice A k c] 44)
  have hu9 := (Upd.refl [] w).alloc (.cells #[.int .i64 2, .int .i64 f, .int .i64 o, .int .u16 x, .slice A k c] 44)
  have hb0 := HB.out.upd (S := []) ((Upd.refl [] w).alloc (.cells #[.int .i64 2, .int .i64 f, .int .i64 o, .int .u16 x, .slice A k c] 44)) (by simp) (by simp) (by simp) (by simp)
  have hlt := HB.out.lt
  generalize (w.alloc (.cells #[.int .i64 2, .int .i64 f, .int .i64 o, .int .u16 x, .slice A k c] 44)) = W1 at *
  have c1 := hnew.cellAt (i := 1) rfl
  have n1 : w.heap.size ∉ [fb] := by simp; omega
  have n2 : w.heap.size ∉ [rb] := by simp; omega
  generalize w.heap.size = Nb at *
  have HN := Lib.hid hb0.ne
  have HB0 := Lib.hid hb0
  have HU0 := Lib.hid hu0
  have HU9 := Lib.hid hu9
  clear hnew hb0 hu0 hlt hu9
  simp only [List.getElem_toArray, List.getElem_cons_succ, List.getElem_cons_zero] at c1
  go_region_held3 (fun w' => w'.cell? ⟨Nb, 1, none⟩ = some (.int .i64 f)) (simp [*])
    (first
      | (go_at_call 24; refine (H19.out _ HB0.out.mem.drew).mono ?_; rintro e w1 ⟨rfl, hm1, hu1⟩; have d1 := hu1.cellAt (w := W1.drew) c1 n1; have hr1 := Lib.hid (HB0.out.ref.drew.upd hu1 (by simp; exact fun h => HN.out.2.2.2.1 h.symm) (by simp; exact fun h => HN.out.2.2.2.2.1 h.symm)); have HM1 := Lib.hid hm1; have HU1 := Lib.hid hu1; clear hm1 hu1)
      | (go_at_call 46; refine (H44.out _ hr1.out).mono ?_; rintro e w2 ⟨rfl, hm2, hu2⟩; have g1 := hu2.cellAt d1 n2; have HM2 := Lib.hid hm2; have HU2 := Lib.hid hu2; clear hm2 hu2))
  go_wp2
  go_ret
  have hne := HN.out
  refine ⟨by simp, ⟨L', ⟨HM1.out.upd HU2.out (by simp; exact hne.2.2.1) (by simp; exact hne.2.2.2.2.1), HM2.out⟩⟩, ?_⟩
  exact (HU0.out.drew.trans HU1.out (fun s hs => .inl (by simp at hs; simp [hs]))).trans HU2.out (fun s hs => .inl (by simp at hs; simp [hs]))

set_option maxRecDepth 100000 in
set_option maxHeartbeats 2000000 in
theorem do_3 (m fb r rb n : Nat) (L : List UInt8) (w : World) (h : Both w m fb r rb n L) (f o x : Int) (A : Option Addr) (k c : Nat) (x0 : 0 ≤ x) (x1 : x < 65536) :
    Calls Try.prog 28 #[.pointer (some ⟨m, 0, none⟩), .pointer (some ⟨r, 0, none⟩), .agg #[.int .i64 3, .int .i64 f, .int .i64 o, .int .u16 x, .slice A k c]] w (DoPost m fb r rb n w) := by
  have HB := Lib.hid h
  clear h
  have h19 := fun W hm => mem_copy m fb n L f o W hm
  have h44 := fun W hr => ref_copy r rb n L f o W hr
  generalize (if (0 ≤ f ∧ f < n) ∧ 0 ≤ o ∧ o < n then (0 : Int) else 2) = E at h19 h44
  generalize (if (0 ≤ f ∧ f < n) ∧ 0 ≤ o ∧ o < n then putAt L (32 * f.toNat) (frameOf L o.toNat) else L) = L' at h19 h44
  have H19 := Lib.hid h19
  have H44 := Lib.hid h44
  clear h19 h44
  go_enter Try.func28, Try.ntmps28
  go_wp2_with fail
  have hnew := Blk.new w 44 #[.int .i64 3, .int .i64 f, .int .i64 o, .int .u16 x, .slice A k c]
  have hu0 := (Upd.refl [fb, rb] w).alloc (.cells #[.int .i64 3, .int .i64 f, .int .i64 o, .int .u16 x, .slice A k c] 44)
  have hu9 := (Upd.refl [] w).alloc (.cells #[.int .i64 3, .int .i64 f, .int .i64 o, .int .u16 x, .slice A k c] 44)
  have hb0 := HB.out.upd (S := []) ((Upd.refl [] w).alloc (.cells #[.int .i64 3, .int .i64 f, .int .i64 o, .int .u16 x, .slice A k c] 44)) (by simp) (by simp) (by simp) (by simp)
  have hlt := HB.out.lt
  generalize (w.alloc (.cells #[.int .i64 3, .int .i64 f, .int .i64 o, .int .u16 x, .slice A k c] 44)) = W1 at *
  have c1 := hnew.cellAt (i := 1) rfl
  have c2 := hnew.cellAt (i := 2) rfl
  have n1 : w.heap.size ∉ [fb] := by simp; omega
  have n2 : w.heap.size ∉ [rb] := by simp; omega
  generalize w.heap.size = Nb at *
  have HN := Lib.hid hb0.ne
  have HB0 := Lib.hid hb0
  have HU0 := Lib.hid hu0
  have HU9 := Lib.hid hu9
  clear hnew hb0 hu0 hlt hu9
  simp only [List.getElem_toArray, List.getElem_cons_succ, List.getElem_cons_zero] at c1 c2
  go_region_held3 (fun w' => w'.cell? ⟨Nb, 1, none⟩ = some (.int .i64 f) ∧ w'.cell? ⟨Nb, 2, none⟩ = some (.int .i64 o)) (simp [*])
    (first
      | (go_at_call 21; refine (H19.out _ HB0.out.mem.drew).mono ?_; rintro e w1 ⟨rfl, hm1, hu1⟩; have d1 := hu1.cellAt (w := W1.drew) c1 n1; have d2 := hu1.cellAt (w := W1.drew) c2 n1; have hr1 := Lib.hid (HB0.out.ref.drew.upd hu1 (by simp; exact fun h => HN.out.2.2.2.1 h.symm) (by simp; exact fun h => HN.out.2.2.2.2.1 h.symm)); have HM1 := Lib.hid hm1; have HU1 := Lib.hid hu1; clear hm1 hu1)
      | (go_at_call 47; refine (H44.out _ hr1.out).mono ?_; rintro e w2 ⟨rfl, hm2, hu2⟩; have g1 := hu2.cellAt d1 n2; have g2 := hu2.cellAt d2 n2; have HM2 := Lib.hid hm2; have HU2 := Lib.hid hu2; clear hm2 hu2))
  go_wp2
  go_ret
  have hne := HN.out
  refine ⟨by simp, ⟨L', ⟨HM1.out.upd HU2.out (by simp; exact hne.2.2.1) (by simp; exact hne.2.2.2.2.1), HM2.out⟩⟩, ?_⟩
  exact (HU0.out.drew.trans HU1.out (fun s hs => .inl (by simp at hs; simp [hs]))).trans HU2.out (fun s hs => .inl (by simp at hs; simp [hs]))

set_option maxRecDepth 100000 in
set_option maxHeartbeats 2000000 in
theorem do_4 (m fb r rb n : Nat) (L : List UInt8) (w : World) (h : Both w m fb r rb n L) (f o x : Int) (A : Option Addr) (k c : Nat) (x0 : 0 ≤ x) (x1 : x < 65536) (cs : List UInt8) (hk : cs.length = k) (hkc : k ≤ c) (hr : RdB w A cs) (hA : 0 < cs.length → ∀ b o, A = some ⟨b, o, none⟩ → b ≠ fb ∧ b ≠ rb) :
    Calls Try.prog 28 #[.pointer (some ⟨m, 0, none⟩), .pointer (some ⟨r, 0, none⟩), .agg #[.int .i64 4, .int .i64 f, .int .i64 o, .int .u16 x, .slice A k c]] w (DoPost m fb r rb n w) := by
  have HB := Lib.hid h
  clear h
  have hl : (cs.take 200).length = min k 200 := by simp [hk]; omega
  have h19 := fun W hm hr => mem_fill m fb n L f o A c (cs.take 200) W hm hr (fun hh b o h => (hA (by simp at hh; omega) b o h).1) (by omega)
  have h44 := fun W hm hr => ref_fill r rb n L f o A c (cs.take 200) W hm hr (fun hh b o h => (hA (by simp at hh; omega) b o h).2)
  simp only [hl] at h19 h44
  generalize (if fits n f o (min k 200) then (0 : Int) else 2) = E at h19 h44
  generalize (if fits n f o (min k 200) then putAt L (32 * f.toNat + o.toNat) (cs.take 200) else L) = L' at h19 h44
  have HR := Lib.hid hr
  have HA := Lib.hid hA
  have hfew := fun W => few_any A k c W hkc
  have HFEW := Lib.hid hfew
  clear hl hr hA hk hfew
  generalize min k 200 = K at *
  have H19 := Lib.hid h19
  have H44 := Lib.hid h44
  clear h19 h44
  go_enter Try.func28, Try.ntmps28
  go_wp2_with fail
  have hnew := Blk.new w 44 #[.int .i64 4, .int .i64 f, .int .i64 o, .int .u16 x, .slice A k c]
  have hu0 := (Upd.refl [fb, rb] w).alloc (.cells #[.int .i64 4, .int .i64 f, .int .i64 o, .int .u16 x, .slice A k c] 44)
  have hu9 := (Upd.refl [] w).alloc (.cells #[.int .i64 4, .int .i64 f, .int .i64 o, .int .u16 x, .slice A k c] 44)
  have hb0 := HB.out.upd (S := []) ((Upd.refl [] w).alloc (.cells #[.int .i64 4, .int .i64 f, .int .i64 o, .int .u16 x, .slice A k c] 44)) (by simp) (by simp) (by simp) (by simp)
  have hlt := HB.out.lt
  generalize (w.alloc (.cells #[.int .i64 4, .int .i64 f, .int .i64 o, .int .u16 x, .slice A k c] 44)) = W1 at *
  have c1 := hnew.cellAt (i := 1) rfl
  have c2 := hnew.cellAt (i := 2) rfl
  have c4 := hnew.cellAt (i := 4) rfl
  have n1 : w.heap.size ∉ [fb] := by simp; omega
  have n2 : w.heap.size ∉ [rb] := by simp; omega
  generalize w.heap.size = Nb at *
  have HN := Lib.hid hb0.ne
  have HB0 := Lib.hid hb0
  have HU0 := Lib.hid hu0
  have HU9 := Lib.hid hu9
  clear hnew hb0 hu0 hlt hu9
  simp only [List.getElem_toArray, List.getElem_cons_succ, List.getElem_cons_zero] at c1 c2 c4
  go_region_held3 (fun w' => w'.cell? ⟨Nb, 1, none⟩ = some (.int .i64 f) ∧ w'.cell? ⟨Nb, 2, none⟩ = some (.int .i64 o) ∧ w'.cell? ⟨Nb, 4, none⟩ = some (.slice A k c)) (simp [*])
    (first
      | (go_at_call 12; refine (HFEW.out _).mono ?_; rintro e wf ⟨rfl, rfl⟩)
      | (go_at_call 14; refine (H19.out _ HB0.out.mem.drew (HR.out.take200 (HU9.out.drew) (fun _ b o h => by simp))).mono ?_; rintro e w1 ⟨rfl, hm1, hu1⟩; have d1 := hu1.cellAt (w := W1.drew) c1 n1; have d2 := hu1.cellAt (w := W1.drew) c2 n1; have d4 := hu1.cellAt (w := W1.drew) c4 n1; have hr1 := Lib.hid (HB0.out.ref.drew.upd hu1 (by simp; exact fun h => HN.out.2.2.2.1 h.symm) (by simp; exact fun h => HN.out.2.2.2.2.1 h.symm)); have HM1 := Lib.hid hm1; have HU1 := Lib.hid hu1; clear hm1 hu1)
      | (go_at_call 48; refine (H44.out _ hr1.out ((HR.out.take200 (HU9.out.drew) (fun _ b o h => by simp)).upd HU1.out (fun hh b o h => by simp; exact (HA.out (by simp at hh; omega) b o h).1))).mono ?_; rintro e w2 ⟨rfl, hm2, hu2⟩; have g1 := hu2.cellAt d1 n2; have g2 := hu2.cellAt d2 n2; have g4 := hu2.cellAt d4 n2; have HM2 := Lib.hid hm2; have HU2 := Lib.hid hu2; clear hm2 hu2))
  go_wp2
  go_ret
  have hne := HN.out
  refine ⟨by simp, ⟨L', ⟨HM1.out.upd HU2.out (by simp; exact hne.2.2.1) (by simp; exact hne.2.2.2.2.1), HM2.out⟩⟩, ?_⟩
  exact (HU0.out.drew.trans HU1.out (fun s hs => .inl (by simp at hs; simp [hs]))).trans HU2.out (fun s hs => .inl (by simp at hs; simp [hs]))

end Go.Proofs.Ytmfokjifloafhaa
