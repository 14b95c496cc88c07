/- Get, Close, Open. -/
import Derived.Test.YtedaffkdfniikaaFdsD
import Derived.Laws.ResultCell
import Derived.Deep.RegionWith
namespace Go.Proofs.Ytedaffkdfniikaa
open Go.RowKit Go.Shelf

theorem under_open : Try.prog.underlying 30 = some (.struct (Try.prog.fieldsOf 30)) := by kernel_rfl
theorem info_open : (Try.prog.info? 30).map (·.size) = some 3 := by kernel_rfl
theorem load_op (w : World) (b k : Nat) (o : Op) (hc : w.rangeAt b k (encO o)) : (loadVar 30 ⟨b, k, none⟩).run Try.prog w = .ok (.agg (encO o).toArray) w :=
  run_loadVar_mid w b k 30 (encO o) _ hc under_open rfl info_open
theorem res_ct {fn : Func} {p u : Tmp} (h : fn.results = #[.cell p 30, .tmp u]) (tmps : Array Value) (w : World) (g : Nat) (m : Op) (hp : tmps.getD p undef = .pointer (some ⟨g, 0, none⟩)) (hg : Blk w g OpenT (encO m).toArray) (b : Value) (hu : tmps.getD u undef = b) :
    (results fn tmps).run Try.prog w = .ok (.tuple #[.agg (encO m).toArray, b]) w := by
  rw [results_cell_tmp h, hp]
  simp [asAddr, Result.andThen, run_loadVar_row w g OpenT 30 (encO m).toArray (0, 0) _ hg under_open rfl info_open]
  simpa using hu
theorem res_ctt {fn : Func} {p u v : Tmp} (h : fn.results = #[.cell p 30, .tmp u, .tmp v]) (tmps : Array Value) (w : World) (g : Nat) (m : Op) (hp : tmps.getD p undef = .pointer (some ⟨g, 0, none⟩)) (hg : Blk w g OpenT (encO m).toArray) (b c : Value) (hu : tmps.getD u undef = b) (hv : tmps.getD v undef = c) :
    (results fn tmps).run Try.prog w = .ok (.tuple #[.agg (encO m).toArray, b, c]) w := by
  subst hu hv
  rw [Array.getD_eq_getD_getElem?] at hp
  simp only [results, h]
  simp [Result.andThen, hp, asAddr, run_loadVar_row w g OpenT 30 (encO m).toArray (0, 0) _ hg under_open rfl info_open]

section
variable {ops : Array Oper} {rest : List Oper} {o : Oper} {a : Act} {w : World} {Q : Exit → Act → World → Prop}
theorem encO_all (m : Op) : (encO m).toArray.all (·.oneCell') = true := by simp [encO, Value.oneCell']
theorem wpList_store_op (hgd : o.guard = none) (x y : Operand) (ho : o.op = .store 30 x y) (g : Nat) (m old : Op)
    (hx : a.eval x = .pointer (some ⟨g, 0, none⟩)) (hy : a.eval y = .agg (encO m).toArray) (hb : Blk w g OpenT (encO old).toArray)
    (h : ∀ w', Blk w' g OpenT (encO m).toArray → Upd [g] w w' → wpList Try.prog ops Q rest (a.put o.dst undef) w') : wpList Try.prog ops Q (o :: rest) a w :=
  wpList_store_row hgd _ x y ho g _ hx hy OpenT _ hb info_open rfl (encO_all m) (h _ (hb.row _) ((Upd.refl [g] w).setRow (by simp) _))
theorem wpList_load_op (hw : Region.wanted o (yielded ops a.tmps) = true) (x : Operand) (ho : o.op = .load 30 x) (b k : Nat) (m : Op)
    (hx : a.eval x = .pointer (some ⟨b, k, none⟩)) (hc : w.rangeAt b k (encO m))
    (h : wpList Try.prog ops Q rest (a.put o.dst (.agg (encO m).toArray)) w) : wpList Try.prog ops Q (o :: rest) a w :=
  wpList_load_midg hw 30 x ho b k hx _ _ hc under_open rfl info_open h
end
theorem sh_range {w : World} {g c : Nat} {o : Op} (h : Blk w g ShT (shC o c)) : w.rangeAt g 0 (encO o) := fun i v hv => by
  rw [Nat.zero_add]
  refine h.cellAt ?_
  match i, hv with
  | 0, hv => exact hv
  | 1, hv => exact hv
  | 2, hv => exact hv
theorem op_range {w : World} {g : Nat} {T : TypeId} {o : Op} (h : Blk w g T (encO o).toArray) : w.rangeAt g 0 (encO o) := fun i v hv => by
  rw [Nat.zero_add]
  refine h.cellAt ?_
  simpa using hv

theorem store3 {w : World} {g : Nat} (h : Blk w g OpenT (encO opZ).toArray) (o : Op) :
    Blk (((w.setCell ⟨g, 0, none⟩ (.int .u8 o.k)).setCell ⟨g, 1, none⟩ (.int .i64 o.r)).setCell ⟨g, 2, none⟩ (.int .i64 o.p)) g OpenT (encO o).toArray ∧
    Upd [g] w (((w.setCell ⟨g, 0, none⟩ (.int .u8 o.k)).setCell ⟨g, 1, none⟩ (.int .i64 o.r)).setCell ⟨g, 2, none⟩ (.int .i64 o.p)) :=
  ⟨((h.set_ 0 _).set_ 1 _).set_ 2 _, (((Upd.refl [g] w).setCell (by simp) _).setCell (by simp) _).setCell (by simp) _⟩

section
variable (t : Nat) (own : List Nat) (S : St) (pb sb : Nat → Nat) (w : World) (h : Prog w t own S pb sb)
include h

set_option maxHeartbeats 1000000 in
theorem get_any (p k : Int) :
    Calls Try.prog 18 #[.pointer (some ⟨t, 0, none⟩), .int .i64 p, .int .i64 k] w fun e w' => e = .returned (.tuple #[.agg (encO (getO S p k)).toArray, .int .i64 (atE S p k)]) ∧ Upd [] w w' := by
  have hu0 := (Upd.refl [] w).alloc (.cells #[.int .u8 0, .int .i64 0, .int .i64 0] 30)
  have HA := Lib.hid (at_any t own S pb sb _ (h.upd0 hu0) p k)
  have HB : Hid (Blk (w.alloc (.cells #[.int .u8 0, .int .i64 0, .int .i64 0] 30)) w.heap.size OpenT (encO opZ).toArray) := Lib.hid (Blk.new w OpenT (encO opZ).toArray)
  have HU := Lib.hid hu0
  unfold getO
  by_cases he : atE S p k = 0
  · rw [if_pos he]
    unfold atV at HA
    rw [if_pos he] at HA
    obtain ⟨⟨p0, p1, hh⟩, k0, k1, h0⟩ := atE_ok he
    have hcn : cntF S.fd (S.fd p.toNat k.toNat) ≠ 0 := cnt_of (i := p.toNat) (k := k.toNat) (by omega) (by omega) rfl
    have HR := Lib.hid (sh_range (h.shr _ h0 hcn))
    simp only [he, pv, decide_true, if_true] at HA ⊢
    clear h he hh h0 hcn hu0
    generalize pb p.toNat = y at *
    generalize sb (S.fd p.toNat k.toNat) = z at *
    generalize opAt S (S.fd p.toNat k.toNat) = oo at *
    go_enter Try.func18, Try.ntmps18
    go_wp2_with fail
    refine HA.out.mono ?_; rintro e w' ⟨rfl, n, rfl⟩
    have hr : ((w.alloc (.cells #[.int .u8 0, .int .i64 0, .int .i64 0] 30)).drewN n).rangeAt z 0 (encO oo) := fun i v hv => (HU.out.drewN n).cellAt (HR.out i v hv) (by simp)
    have hb : Blk ((w.alloc (.cells #[.int .u8 0, .int .i64 0, .int .i64 0] 30)).drewN n) w.heap.size OpenT (encO opZ).toArray := HB.out.drewN n
    have HU2 := Lib.hid (HU.out.drewN n)
    generalize (w.alloc (.cells #[.int .u8 0, .int .i64 0, .int .i64 0] 30)).drewN n = W at *
    go_wp2_with (first
      | (refine wpList_load_op rfl _ rfl z 0 oo rfl hr ?_)
      | (refine wpList_store_op rfl _ _ rfl w.heap.size oo opZ rfl rfl hb ?_; intro w2 hb2 hu2))
    refine bodyPost_ret (res_ct rfl _ _ w.heap.size oo rfl hb2 _ rfl) rfl ?_
    exact ⟨by simp, HU2.out.trans hu2 (by simp)⟩
  · rw [if_neg he]
    have hb : (atE S p k == 0) = false := by simp [he]
    have hb' : (atE S p k != 0) = true := by simp [he]
    generalize pv (decide (atE S p k = 0)) (pb p.toNat) = v1 at *
    generalize atV S sb p k = v2 at *
    generalize atE S p k = e at *
    clear h he hu0
    go_enter Try.func18, Try.ntmps18
    go_wp2_with fail
    refine HA.out.mono ?_; rintro e w' ⟨rfl, n, rfl⟩
    have hbb : Blk ((w.alloc (.cells #[.int .u8 0, .int .i64 0, .int .i64 0] 30)).drewN n) w.heap.size OpenT (encO opZ).toArray := HB.out.drewN n
    have HU2 := Lib.hid (HU.out.drewN n)
    generalize (w.alloc (.cells #[.int .u8 0, .int .i64 0, .int .i64 0] 30)).drewN n = W at *
    go_wp2_with (refine wpList_store_op rfl _ _ rfl w.heap.size opZ opZ rfl rfl hbb ?_; intro w2 hb2 hu2)
    refine bodyPost_ret (res_ct rfl _ _ w.heap.size opZ rfl hb2 _ rfl) rfl ?_
    exact ⟨by simp, HU2.out.trans hu2 (by simp)⟩

set_option maxHeartbeats 1000000 in
theorem close_any (p k : Int) :
    Calls Try.prog 16 #[.pointer (some ⟨t, 0, none⟩), .int .i64 p, .int .i64 k] w (PChg w t own (.tuple #[.agg (encO (getO S p k)).toArray, .bool (cloL S p k), .int .i64 (atE S p k)]) (cloS S p k)) := by
  have hu0 := (Upd.refl [] w).alloc (.cells #[.int .u8 0, .int .i64 0, .int .i64 0] 30)
  have HA := Lib.hid (at_any t own S pb sb _ (h.upd0 hu0) p k)
  have HB : Hid (Blk (w.alloc (.cells #[.int .u8 0, .int .i64 0, .int .i64 0] 30)) w.heap.size OpenT (encO opZ).toArray) := Lib.hid (Blk.new w OpenT (encO opZ).toArray)
  have HU := Lib.hid hu0
  have H := Lib.hid h
  unfold getO cloL cloS
  by_cases he : atE S p k = 0
  · rw [if_pos he, if_pos he]
    unfold atV at HA
    rw [if_pos he] at HA
    obtain ⟨⟨p0, p1, hh⟩, k0, k1, h0⟩ := atE_ok he
    have hcn : cntF S.fd (S.fd p.toNat k.toNat) ≠ 0 := cnt_of (i := p.toNat) (k := k.toNat) (by omega) (by omega) rfl
    have HR := Lib.hid (sh_range (h.shr _ h0 hcn))
    have HRel := Lib.hid (fun W (hW : Prog W t own S pb sb) => release_any t own S pb sb W hW (i := p.toNat) (k := k.toNat) (by omega) hh (by omega) rfl h0)
    have hke : ((k.toNat : Nat) : Int) = k := by omega
    rw [hke] at HRel
    have HN := Lib.hid (show w.heap.size ≠ sb (S.fd p.toNat k.toNat) by have := (h.shr _ h0 hcn).lt; omega)
    simp only [he, pv, decide_true, if_true, true_and] at HA ⊢
    have HOT : Hid (w.heap.size ∉ own) := Lib.hid (fun hm => by have := h.ol _ hm; omega)
    clear h he hh h0 hcn hu0 hke
    generalize cntF (setF S.fd p.toNat k.toNat 0) (S.fd p.toNat k.toNat) = cc at *
    generalize hd : decide (cc = 0) = d at *
    generalize withF S (setF S.fd p.toNat k.toNat 0) = S' at *
    generalize pb p.toNat = y at *
    generalize sb (S.fd p.toNat k.toNat) = z at *
    generalize opAt S (S.fd p.toNat k.toNat) = oo at *
    clear hd
    go_enter Try.func16, Try.ntmps16
    go_wp2_with fail
    refine HA.out.mono ?_; rintro e w' ⟨rfl, n, rfl⟩
    have hra : ((w.alloc (.cells #[.int .u8 0, .int .i64 0, .int .i64 0] 30)).drewN n).rangeAt z 0 (encO oo) := fun i v hv => (HU.out.drewN n).cellAt (HR.out i v hv) (by simp)
    have c0 := hra 0 (.int .u8 oo.k) rfl
    have c1 := hra 1 (.int .i64 oo.r) rfl
    have c2 := hra 2 (.int .i64 oo.p) rfl
    rw [Nat.zero_add] at c0 c1 c2
    clear hra
    have HB1 : Hid (Blk (((w.alloc (.cells #[.int .u8 0, .int .i64 0, .int .i64 0] 30)).drewN n).drew) w.heap.size OpenT (encO opZ).toArray) := Lib.hid ((HB.out.drewN n).drew)
    have HP1 : Hid (Prog (((w.alloc (.cells #[.int .u8 0, .int .i64 0, .int .i64 0] 30)).drewN n).drew) t own S pb sb) := Lib.hid (H.out.upd0 ((HU.out.drewN n).drew))
    have HU1 : Hid (Upd own w (((w.alloc (.cells #[.int .u8 0, .int .i64 0, .int .i64 0] 30)).drewN n).drew)) := Lib.hid (((HU.out.drewN n).drew).zero own)
    generalize hW : (w.alloc (.cells #[.int .u8 0, .int .i64 0, .int .i64 0] 30)).drewN n = W at *
    clear hW
    go_wp2_with fail
    go_region_with (go_at_call 29; refine (HRel.out _ HP1.out).mono ?_; rintro e w2 ⟨rfl, hp2, hu2, hb2⟩; have d0 := hb2.cellAt (i := 0) (v := .int .u8 oo.k) rfl; have d1 := hb2.cellAt (i := 1) (v := .int .i64 oo.r) rfl; have d2 := hb2.cellAt (i := 2) (v := .int .i64 oo.p) rfl; have hz2 := HB1.out.upd hu2 HOT.out; have s0 := hz2.cellAt (i := 0) (v := .int .u8 0) rfl; have s1 := hz2.cellAt (i := 1) (v := .int .i64 0) rfl; have s2 := hz2.cellAt (i := 2) (v := .int .i64 0) rfl; have f0 := hz2.frozen 0; have f1 := hz2.frozen 1; have f2 := hz2.frozen 2; have HP2 := Lib.hid hp2; have HU2 := Lib.hid (HU1.out.trans' hu2); have HZ2 := Lib.hid hz2; clear hp2 hu2 hb2 hz2)
    all_goals go_wp2_with fail
    all_goals
      obtain ⟨hz3, hu3⟩ := store3 HZ2.out oo
      refine bodyPost_ret (res_ctt rfl _ _ w.heap.size oo rfl hz3 _ _ rfl rfl) rfl ?_
      exact PChg.of (HP2.out.upd hu3 (by intro g hg hm; simp at hm; subst hm; exact HOT.out hg)) (HU2.out.trans hu3 (by intro g hg; simp at hg; right; omega))
  · rw [if_neg he, if_neg he]
    have hd : decide (atE S p k = 0 ∧ cntF (setF S.fd p.toNat k.toNat 0) (S.fd p.toNat k.toNat) = 0) = false := by simp [he]
    rw [hd]
    have hb : (atE S p k == 0) = false := by simp [he]
    have hb' : (atE S p k != 0) = true := by simp [he]
    generalize pv (decide (atE S p k = 0)) (pb p.toNat) = v1 at *
    generalize atV S sb p k = v2 at *
    generalize atE S p k = e at *
    clear h he hu0 hd
    go_enter Try.func16, Try.ntmps16
    go_wp2_with fail
    refine HA.out.mono ?_; rintro e w' ⟨rfl, n, rfl⟩
    have hbb : Blk ((w.alloc (.cells #[.int .u8 0, .int .i64 0, .int .i64 0] 30)).drewN n) w.heap.size OpenT (encO opZ).toArray := HB.out.drewN n
    have HU2 := Lib.hid (HU.out.drewN n)
    generalize (w.alloc (.cells #[.int .u8 0, .int .i64 0, .int .i64 0] 30)).drewN n = W at *
    go_wp2_with (refine wpList_store_op rfl _ _ rfl w.heap.size opZ opZ rfl rfl hbb ?_; intro w2 hb2 hu2)
    refine bodyPost_ret (res_ctt rfl _ _ w.heap.size opZ rfl hb2 _ _ rfl rfl) rfl ?_
    have hz : Upd [] w w2 := HU2.out.trans hu2 (by simp)
    exact PChg.same H.out hz
end

end Go.Proofs.Ytedaffkdfniikaa
