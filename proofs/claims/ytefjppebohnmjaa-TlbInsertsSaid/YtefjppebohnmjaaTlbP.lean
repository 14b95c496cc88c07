/- Where an address lies. -/
import Derived.Test.YtefjppebohnmjaaTlbJ
namespace Go.Proofs.Ytefjppebohnmjaa
open Go.RowKit Go.Shelf

theorem res_ttt {fn : Func} {p u v : Tmp} (h : fn.results = #[.tmp p, .tmp u, .tmp v]) (tmps : Array Value) (w : World) (a b c : Value) (hp : tmps.getD p undef = a) (hu : tmps.getD u undef = b) (hv : tmps.getD v undef = c) :
    (results fn tmps).run Try.prog w = .ok (.tuple #[a, b, c]) w := by
  subst hp hu hv
  simp only [results, h]
  simp
def transV (a x : Nat) (wr : Bool) (L : List Mp) : Value :=
  if 16 ≤ x / 32 then .tuple #[.int .i64 0, .int .i64 0, .int .i64 2]
  else if !hasM a (x / 32) L || (wr && !(findM a (x / 32) L).w) then .tuple #[.int .i64 0, .int .i64 0, .int .i64 10]
  else .tuple #[.int .i64 ((findM a (x / 32) L).f : Int), .int .i64 ((x % 32 : Nat) : Int), .int .i64 0]

set_option maxRecDepth 100000 in
set_option maxHeartbeats 2000000 in
theorem trans_any (t : Nat) (own : List Nat) (L : List Mp) (w : World) (h : At TlbT w t own L) (a x : Nat) (wr : Bool) (hx : x < 65536) (hf : (findM a (x / 32) L).f < 256) :
    Calls Try.prog 14 #[.pointer (some ⟨t, 0, none⟩), .int .u8 a, .int .u16 x, .bool wr] w fun e w' =>
      e = .returned (transV a x wr L) ∧ Upd [] w w' := by
  have HF := Lib.hid (find_any t own L w h a (x / 32))
  clear h
  unfold transV
  by_cases h16 : 16 ≤ x / 32
  · rw [if_pos h16]
    have j1 : (16 : Int) ≤ (x : Int) / 32 := by omega
    go_enter Try.func14, Try.ntmps14
    go_wp2_with fail
    refine bodyPost_ret (res_ttt rfl _ _ _ _ _ rfl rfl rfl) rfl ?_
    exact ⟨rfl, Upd.refl _ _⟩
  · rw [if_neg h16]
    have j1 : ¬ (16 : Int) ≤ (x : Int) / 32 := by omega
    have j2 : IntKind.u8.wrap ((x : Int) / 32) = (x : Int) / 32 := by simp [IntKind.wrap, IntKind.bits, IntKind.signed]; omega
    have hd : ((x / 32 : Nat) : Int) = (x : Int) / 32 := by omega
    rw [hd] at HF
    generalize findM a (x / 32) L = m at *
    have j4 : IntKind.i64.wrap (m.f : Int) = (m.f : Int) := by rw [IntKind.wrap_i64]; omega
    generalize hasM a (x / 32) L = b at *
    clear h16 hd
    cases b <;> cases wr <;> cases hmw : m.w
    all_goals
      go_enter Try.func14, Try.ntmps14
      go_wp2_with fail
      refine HF.out.mono ?_; rintro e w1 ⟨rfl, hu1⟩
      have HU1 := Lib.hid hu1
      clear hu1
      go_wp2_with (refine wpList_store_map rfl _ _ rfl w1.heap.size m mz rfl rfl (Blk.new w1 24 (encM mz).toArray) ?_; intro w2 hb2 hu2; have c2 := hb2.cellAt (i := 2) (v := .int .u8 m.f) rfl; have c3 := hb2.cellAt (i := 3) (v := .bool m.w) rfl; rw [hmw] at c3)
      refine bodyPost_ret (res_ttt rfl _ _ _ _ _ rfl rfl rfl) rfl ?_
      exact ⟨by simp <;> omega, (HU1.out.alloc _).trans hu2 (by intro s hs; simp at hs; have := HU1.out.size; right; omega)⟩

set_option maxRecDepth 100000 in
set_option maxHeartbeats 2000000 in
theorem rtrans_any (t : Nat) (own : List Nat) (L : List Mp) (w : World) (h : At RefT w t own L) (a x : Nat) (wr : Bool) (hx : x < 65536) (hf : (findM a (x / 32) L).f < 256) :
    Calls Try.prog 15 #[.pointer (some ⟨t, 0, none⟩), .int .u8 a, .int .u16 x, .bool wr] w fun e w' =>
      e = .returned (transV a x wr L) ∧ Upd [] w w' := by
  have HF := Lib.hid (rfind_any t own L w h a (x / 32))
  clear h
  unfold transV
  by_cases h16 : 16 ≤ x / 32
  · rw [if_pos h16]
    have j1 : (512 : Int) ≤ (x : Int) := by omega
    go_enter Try.func15, Try.ntmps15
    go_wp2_with fail
    refine bodyPost_ret (res_ttt rfl _ _ _ _ _ rfl rfl rfl) rfl ?_
    exact ⟨rfl, Upd.refl _ _⟩
  · rw [if_neg h16]
    have j1 : ¬ (512 : Int) ≤ (x : Int) := by omega
    have j2 : IntKind.u8.wrap ((x : Int) / 32) = (x : Int) / 32 := by simp [IntKind.wrap, IntKind.bits, IntKind.signed]; omega
    have hd : ((x / 32 : Nat) : Int) = (x : Int) / 32 := by omega
    rw [hd] at HF
    generalize findM a (x / 32) L = m at *
    have j4 : IntKind.i64.wrap (m.f : Int) = (m.f : Int) := by rw [IntKind.wrap_i64]; omega
    generalize hasM a (x / 32) L = b at *
    clear h16 hd
    cases b <;> cases wr <;> cases hmw : m.w
    all_goals
      go_enter Try.func15, Try.ntmps15
      go_wp2_with fail
      refine HF.out.mono ?_; rintro e w1 ⟨rfl, hu1⟩
      have HU1 := Lib.hid hu1
      clear hu1
      go_wp2_with (refine wpList_store_map rfl _ _ rfl w1.heap.size m mz rfl rfl (Blk.new w1 24 (encM mz).toArray) ?_; intro w2 hb2 hu2; have c2 := hb2.cellAt (i := 2) (v := .int .u8 m.f) rfl; have c3 := hb2.cellAt (i := 3) (v := .bool m.w) rfl; rw [hmw] at c3)
      refine bodyPost_ret (res_ttt rfl _ _ _ _ _ rfl rfl rfl) rfl ?_
      exact ⟨by simp <;> omega, (HU1.out.alloc _).trans hu2 (by intro s hs; simp at hs; have := HU1.out.size; right; omega)⟩

end Go.Proofs.Ytefjppebohnmjaa
