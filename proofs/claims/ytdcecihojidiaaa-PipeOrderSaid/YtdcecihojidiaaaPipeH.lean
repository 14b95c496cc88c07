/- A deed on both pipes. -/
import Derived.Test.YtdcecihojidiaaaPipeG
namespace Go.Proofs.Ytdcecihojidiaaa
open Go.RowKit

structure Both (w : World) (p r : Nat) (L : List UInt8) (rd wr : Nat) : Prop where
  pipe : PipeAt w p L rd wr
  ref : RefAt w r L rd wr
section
variable {w w' : World} {p r : Nat} {L : List UInt8} {rd wr : Nat}
theorem Both.ne (h : Both w p r L rd wr) : p ≠ r := by
  obtain ⟨⟨⟨B, f, hb, _⟩, _⟩, hr, _⟩ := h
  exact hb.ne_ hr (by decide)
theorem Both.lt (h : Both w p r L rd wr) : p < w.heap.size ∧ r < w.heap.size := ⟨h.pipe.lt, h.ref.1.lt⟩
theorem Both.upd {S : List Nat} (h : Both w p r L rd wr) (hu : Upd S w w') (h1 : p ∉ S) (h2 : r ∉ S) : Both w' p r L rd wr := ⟨h.pipe.upd hu h1, h.ref.upd hu h2⟩
end

def DoPost (p r : Nat) (w : World) (e : Ending) (w' : World) : Prop :=
  e = .returned (.bool true) ∧ (∃ L rd wr, Both w' p r L rd wr) ∧ Upd [p, r] w w'

def shortS (s : ByteArray) : ByteArray := if 100 < s.size then s.extract 0 100 else s
theorem short_any (s : ByteArray) (w : World) :
    Calls Try.prog 12 #[.string s] w fun e w' => e = .returned (.string (shortS s)) ∧ w = w' := by
  unfold shortS
  by_cases h : 100 < s.size
  · rw [if_pos h]
    have h' : (100 : Int) < s.size := by omega
    go_enter Try.func12, Try.ntmps12
    go_wp2
    go_ret
    exact ⟨by simp, rfl⟩
  · rw [if_neg h]
    have h' : (s.size : Int) ≤ 100 := by omega
    go_enter Try.func12, Try.ntmps12
    go_wp2
    go_ret
    exact ⟨by simp, rfl⟩

set_option maxRecDepth 100000 in
set_option maxHeartbeats 2000000 in
theorem do_0 (p r : Nat) (L : List UInt8) (rd wr : Nat) (w : World) (h : Both w p r L rd wr) (n : Int) (b : Bool) (s : ByteArray) :
    Calls Try.prog 22 #[.pointer (some ⟨p, 0, none⟩), .pointer (some ⟨r, 0, none⟩), .agg #[.int .i64 0, .int .i64 n, .bool b, .string s]] w (DoPost p r w) := by
  have HB := Lib.hid h
  clear h
  have h19 := fun W hm => open_any p L rd wr W b hm
  have h44 := fun W hr => ropen_any r L rd wr W b hr
  generalize upE (if b then wr else rd) = E at h19 h44
  have H19 := Lib.hid h19
  have H44 := Lib.hid h44
  clear h19 h44
  go_enter Try.func22, Try.ntmps22
  go_wp2_with fail
  have hnew := Blk.new w 47 #[.int .i64 0, .int .i64 n, .bool b, .string s]
  have hu0 := (Upd.refl [p, r] w).alloc (.cells #[.int .i64 0, .int .i64 n, .bool b, .string s] 47)
  have hb0 := HB.out.upd (S := []) ((Upd.refl [] w).alloc (.cells #[.int .i64 0, .int .i64 n, .bool b, .string s] 47)) (by simp) (by simp)
  have hlt := HB.out.lt
  generalize (w.alloc (.cells #[.int .i64 0, .int .i64 n, .bool b, .string s] 47)) = W1 at *
  have c1 := hnew.cellAt (i := 1) rfl
  have c2 := hnew.cellAt (i := 2) rfl
  have c3 := hnew.cellAt (i := 3) rfl
  have n1 : w.heap.size ∉ [p] := by simp; omega
  have n2 : w.heap.size ∉ [r] := by simp; omega
  generalize w.heap.size = Nb at *
  have HN := Lib.hid hb0.ne
  have HB0 := Lib.hid hb0
  have HU0 := Lib.hid hu0
  clear hnew hb0 hu0 hlt
  simp only [List.getElem_toArray, List.getElem_cons_succ, List.getElem_cons_zero] at c1 c2 c3
  go_region_held3 (fun w' => w'.cell? ⟨Nb, 2, none⟩ = some (.bool b)) (simp [*])
    (first
      | (go_at_call 10; refine (H19.out _ HB0.out.pipe.drew).mono ?_; rintro e w1 ⟨rfl, hm1, hu1⟩; have d2 := hu1.cellAt (w := W1.drew) c2 n1; have hr1 := Lib.hid (HB0.out.ref.drew.upd hu1 (by simp; exact fun h => HN.out h.symm)); have HM1 := Lib.hid hm1; have HU1 := Lib.hid hu1; clear hm1 hu1)
      | (go_at_call 33; refine (H44.out _ hr1.out).mono ?_; rintro e w2 ⟨rfl, hm2, hu2⟩; have g2 := hu2.cellAt d2 n2; have HM2 := Lib.hid hm2; have HU2 := Lib.hid hu2; clear hm2 hu2))
  go_wp2
  go_ret
  have hne := HN.out
  refine ⟨by simp, ⟨_, _, _, ⟨HM1.out.upd HU2.out (by simp; exact hne), HM2.out⟩⟩, ?_⟩
  exact (HU0.out.drew.trans HU1.out (fun s hs => .inl (by simp at hs; simp [hs]))).trans HU2.out (fun s hs => .inl (by simp at hs; simp [hs]))

set_option maxRecDepth 100000 in
set_option maxHeartbeats 2000000 in
theorem do_1 (p r : Nat) (L : List UInt8) (rd wr : Nat) (w : World) (h : Both w p r L rd wr) (n : Int) (b : Bool) (s : ByteArray) :
    Calls Try.prog 22 #[.pointer (some ⟨p, 0, none⟩), .pointer (some ⟨r, 0, none⟩), .agg #[.int .i64 1, .int .i64 n, .bool b, .string s]] w (DoPost p r w) := by
  have HB := Lib.hid h
  clear h
  have h19 := fun W hm => close_any p L rd wr W b hm
  have h44 := fun W hr => rclose_any r L rd wr W b hr
  generalize downE (if b then wr else rd) = E at h19 h44
  have H19 := Lib.hid h19
  have H44 := Lib.hid h44
  clear h19 h44
  go_enter Try.func22, Try.ntmps22
  go_wp2_with fail
  have hnew := Blk.new w 47 #[.int .i64 1, .int .i64 n, .bool b, .string s]
  have hu0 := (Upd.refl [p, r] w).alloc (.cells #[.int .i64 1, .int .i64 n, .bool b, .string s] 47)
  have hb0 := HB.out.upd (S := []) ((Upd.refl [] w).alloc (.cells #[.int .i64 1, .int .i64 n, .bool b, .string s] 47)) (by simp) (by simp)
  have hlt := HB.out.lt
  generalize (w.alloc (.cells #[.int .i64 1, .int .i64 n, .bool b, .string s] 47)) = W1 at *
  have c1 := hnew.cellAt (i := 1) rfl
  have c2 := hnew.cellAt (i := 2) rfl
  have c3 := hnew.cellAt (i := 3) rfl
  have n1 : w.heap.size ∉ [p] := by simp; omega
  have n2 : w.heap.size ∉ [r] := by simp; omega
  generalize w.heap.size = Nb at *
  have HN := Lib.hid hb0.ne
  have HB0 := Lib.hid hb0
  have HU0 := Lib.hid hu0
  clear hnew hb0 hu0 hlt
  simp only [List.getElem_toArray, List.getElem_cons_succ, List.getElem_cons_zero] at c1 c2 c3
  go_region_held3 (fun w' => w'.cell? ⟨Nb, 2, none⟩ = some (.bool b)) (simp [*])
    (first
      | (go_at_call 19; refine (H19.out _ HB0.out.pipe.drew).mono ?_; rintro e w1 ⟨rfl, hm1, hu1⟩; have d2 := hu1.cellAt (w := W1.drew) c2 n1; have hr1 := Lib.hid (HB0.out.ref.drew.upd hu1 (by simp; exact fun h => HN.out h.symm)); have HM1 := Lib.hid hm1; have HU1 := Lib.hid hu1; clear hm1 hu1)
      | (go_at_call 34; refine (H44.out _ hr1.out).mono ?_; rintro e w2 ⟨rfl, hm2, hu2⟩; have g2 := hu2.cellAt d2 n2; have HM2 := Lib.hid hm2; have HU2 := Lib.hid hu2; clear hm2 hu2))
  go_wp2
  go_ret
  have hne := HN.out
  refine ⟨by simp, ⟨_, _, _, ⟨HM1.out.upd HU2.out (by simp; exact hne), HM2.out⟩⟩, ?_⟩
  exact (HU0.out.drew.trans HU1.out (fun s hs => .inl (by simp at hs; simp [hs]))).trans HU2.out (fun s hs => .inl (by simp at hs; simp [hs]))

set_option maxRecDepth 100000 in
set_option maxHeartbeats 2000000 in
theorem do_2 (p r : Nat) (L : List UInt8) (rd wr : Nat) (w : World) (h : Both w p r L rd wr) (n : Int) (b : Bool) (s : ByteArray) :
    Calls Try.prog 22 #[.pointer (some ⟨p, 0, none⟩), .pointer (some ⟨r, 0, none⟩), .agg #[.int .i64 2, .int .i64 n, .bool b, .string s]] w (DoPost p r w) := by
  have HB := Lib.hid h
  clear h
  have h19 := fun W hm => write_any p L rd wr (shortS s) W hm
  have h44 := fun W hr => rwrite_any r L rd wr (shortS s) W hr
  generalize wN L rd (bl (shortS s)) = A at h19 h44
  generalize wE L rd (bl (shortS s)) = E at h19 h44
  have H19 := Lib.hid h19
  have H44 := Lib.hid h44
  clear h19 h44
  go_enter Try.func22, Try.ntmps22
  go_wp2_with fail
  have hnew := Blk.new w 47 #[.int .i64 2, .int .i64 n, .bool b, .string s]
  have hu0 := (Upd.refl [p, r] w).alloc (.cells #[.int .i64 2, .int .i64 n, .bool b, .string s] 47)
  have hb0 := HB.out.upd (S := []) ((Upd.refl [] w).alloc (.cells #[.int .i64 2, .int .i64 n, .bool b, .string s] 47)) (by simp) (by simp)
  have hlt := HB.out.lt
  generalize (w.alloc (.cells #[.int .i64 2, .int .i64 n, .bool b, .string s] 47)) = W1 at *
  have c1 := hnew.cellAt (i := 1) rfl
  have c2 := hnew.cellAt (i := 2) rfl
  have c3 := hnew.cellAt (i := 3) rfl
  have n1 : w.heap.size ∉ [p] := by simp; omega
  have n2 : w.heap.size ∉ [r] := by simp; omega
  generalize w.heap.size = Nb at *
  have HN := Lib.hid hb0.ne
  have HB0 := Lib.hid hb0
  have HU0 := Lib.hid hu0
  clear hnew hb0 hu0 hlt
  simp only [List.getElem_toArray, List.getElem_cons_succ, List.getElem_cons_zero] at c1 c2 c3
  go_wp2_with fail
  refine (short_any s _).mono ?_; rintro e w' ⟨rfl, rfl⟩
  go_wp2_with fail
  refine (H19.out _ HB0.out.pipe).mono ?_; rintro e w1 ⟨rfl, hm1, hu1⟩
  have d1 := hu1.cellAt c1 n1
  have d3 := hu1.cellAt c3 n1
  have hr1 := Lib.hid (HB0.out.ref.upd hu1 (by simp; exact fun h => HN.out h.symm))
  have HM1 := Lib.hid hm1
  have HU1 := Lib.hid hu1
  clear hm1 hu1
  go_wp2_with fail
  refine (short_any s _).mono ?_; rintro e w' ⟨rfl, rfl⟩
  go_wp2_with fail
  refine (H44.out _ hr1.out).mono ?_; rintro e w2 ⟨rfl, hm2, hu2⟩
  have HM2 := Lib.hid hm2
  have HU2 := Lib.hid hu2
  clear hm2 hu2
  go_wp2
  go_ret
  have hne := HN.out
  refine ⟨by simp, ⟨_, _, _, ⟨HM1.out.upd HU2.out (by simp; exact hne), HM2.out⟩⟩, ?_⟩
  exact (HU0.out.trans HU1.out (fun s hs => .inl (by simp at hs; simp [hs]))).trans HU2.out (fun s hs => .inl (by simp at hs; simp [hs]))

set_option maxRecDepth 100000 in
set_option maxHeartbeats 2000000 in
theorem do_3 (p r : Nat) (L : List UInt8) (rd wr : Nat) (w : World) (h : Both w p r L rd wr) (n : Int) (b : Bool) (s : ByteArray) :
    Calls Try.prog 22 #[.pointer (some ⟨p, 0, none⟩), .pointer (some ⟨r, 0, none⟩), .agg #[.int .i64 3, .int .i64 n, .bool b, .string s]] w (DoPost p r w) := by
  have HB := Lib.hid h
  clear h
  have h19 := fun W hm => read_any p L rd wr n W hm
  have h44 := fun W hr => rread_any r L rd wr n W hr
  generalize (⟨(L.take (rN L n)).toArray⟩ : ByteArray) = A at h19 h44
  generalize rE L wr n = E at h19 h44
  have H19 := Lib.hid h19
  have H44 := Lib.hid h44
  clear h19 h44
  go_enter Try.func22, Try.ntmps22
  go_wp2_with fail
  have hnew := Blk.new w 47 #[.int .i64 3, .int .i64 n, .bool b, .string s]
  have hu0 := (Upd.refl [p, r] w).alloc (.cells #[.int .i64 3, .int .i64 n, .bool b, .string s] 47)
  have hb0 := HB.out.upd (S := []) ((Upd.refl [] w).alloc (.cells #[.int .i64 3, .int .i64 n, .bool b, .string s] 47)) (by simp) (by simp)
  have hlt := HB.out.lt
  generalize (w.alloc (.cells #[.int .i64 3, .int .i64 n, .bool b, .string s] 47)) = W1 at *
  have c1 := hnew.cellAt (i := 1) rfl
  have c2 := hnew.cellAt (i := 2) rfl
  have c3 := hnew.cellAt (i := 3) rfl
  have n1 : w.heap.size ∉ [p] := by simp; omega
  have n2 : w.heap.size ∉ [r] := by simp; omega
  generalize w.heap.size = Nb at *
  have HN := Lib.hid hb0.ne
  have HB0 := Lib.hid hb0
  have HU0 := Lib.hid hu0
  clear hnew hb0 hu0 hlt
  simp only [List.getElem_toArray, List.getElem_cons_succ, List.getElem_cons_zero] at c1 c2 c3
  go_wp2_with fail
  refine (H19.out _ HB0.out.pipe).mono ?_; rintro e w1 ⟨rfl, hm1, hu1⟩
  have d1 := hu1.cellAt c1 n1
  have d3 := hu1.cellAt c3 n1
  have hr1 := Lib.hid (HB0.out.ref.upd hu1 (by simp; exact fun h => HN.out h.symm))
  have HM1 := Lib.hid hm1
  have HU1 := Lib.hid hu1
  clear hm1 hu1
  go_wp2_with fail
  refine (H44.out _ hr1.out).mono ?_; rintro e w2 ⟨rfl, hm2, hu2⟩
  have HM2 := Lib.hid hm2
  have HU2 := Lib.hid hu2
  clear hm2 hu2
  go_wp2
  go_ret
  have hne := HN.out
  refine ⟨by simp, ⟨_, _, _, ⟨HM1.out.upd HU2.out (by simp; exact hne), HM2.out⟩⟩, ?_⟩
  exact (HU0.out.trans HU1.out (fun s hs => .inl (by simp at hs; simp [hs]))).trans HU2.out (fun s hs => .inl (by simp at hs; simp [hs]))

set_option maxRecDepth 100000 in
set_option maxHeartbeats 2000000 in
theorem do_n (p r : Nat) (L : List UInt8) (rd wr : Nat) (w : World) (h : Both w p r L rd wr) (n : Int) (b : Bool) (s : ByteArray) (K : Int) (k0 : ¬ K = 0) (k1 : ¬ K = 1) (k2 : ¬ K = 2) (k3 : ¬ K = 3) :
    Calls Try.prog 22 #[.pointer (some ⟨p, 0, none⟩), .pointer (some ⟨r, 0, none⟩), .agg #[.int .i64 K, .int .i64 n, .bool b, .string s]] w (DoPost p r w) := by
  have HB := Lib.hid h
  clear h
  go_enter Try.func22, Try.ntmps22
  go_wp2_with fail
  go_ret
  exact ⟨by simp, ⟨_, _, _, HB.out.upd (S := []) ((Upd.refl [] w).alloc _) (by simp) (by simp)⟩, (Upd.refl _ _).alloc _⟩

theorem do_any (p r : Nat) (L : List UInt8) (rd wr : Nat) (w : World) (h : Both w p r L rd wr) (K n : Int) (b : Bool) (s : ByteArray) :
    Calls Try.prog 22 #[.pointer (some ⟨p, 0, none⟩), .pointer (some ⟨r, 0, none⟩), .agg #[.int .i64 K, .int .i64 n, .bool b, .string s]] w (DoPost p r w) := by
  by_cases k0 : K = 0
  · subst k0; exact do_0 p r L rd wr w h n b s
  by_cases k1 : K = 1
  · subst k1; exact do_1 p r L rd wr w h n b s
  by_cases k2 : K = 2
  · subst k2; exact do_2 p r L rd wr w h n b s
  by_cases k3 : K = 3
  · subst k3; exact do_3 p r L rd wr w h n b s
  exact do_n p r L rd wr w h n b s K k0 k1 k2 k3

end Go.Proofs.Ytdcecihojidiaaa
