/- Finding: both. -/
import Derived.Test.YtefjppebohnmjaaTlbH
namespace Go.Proofs.Ytefjppebohnmjaa
open Go.RowKit Go.Shelf

theorem idx_def (pr : Mp → Bool) (L : List Mp) : idx pr L = match L.findIdx? pr with | some i => (i : Int) | none => -1 := rfl
theorem At.v {w : World} {t : Nat} {own : List Nat} {L : List Mp} (h : At TlbT w t own L) : ∃ A cap, TlbV w t A cap L := by
  obtain ⟨A, cap, hb, hr, _, hl⟩ := h
  exact ⟨A, cap, hb, hr.reads, by omega⟩
def mz : Mp := ⟨0, 0, 0, false⟩
def findM (a p : Nat) (L : List Mp) : Mp := (L.find? (isAt a p)).getD mz
def hasM (a p : Nat) (L : List Mp) : Bool := (L.find? (isAt a p)).isSome
theorem find_idx {α : Type} (p : α → Bool) : ∀ (l : List α), l.find? p = (l.findIdx? p).bind (fun i => l[i]?) := by
  intro l
  induction l with
  | nil => rfl
  | cons a l ih =>
    rw [List.findIdx?_cons, List.find?_cons]
    cases ha : p a with
    | true => rfl
    | false =>
      simp only [ih, Bool.false_eq_true, if_false]
      cases l.findIdx? p <;> simp
theorem res_ct {fn : Func} {p u : Tmp} (h : fn.results = #[.cell p 24, .tmp u]) (tmps : Array Value) (w : World) (g : Nat) (m : Mp) (hp : tmps.getD p undef = .pointer (some ⟨g, 0, none⟩)) (hg : Blk w g MapT (encM m).toArray) (b : Value) (hu : tmps.getD u undef = b) :
    (results fn tmps).run Try.prog w = .ok (.tuple #[.agg (encM m).toArray, b]) w := by
  rw [results_cell_tmp h, hp]
  simp [asAddr, Result.andThen, run_loadVar_row w g MapT 24 (encM m).toArray (0, 0) _ hg under_map rfl info_map]
  simpa using hu
theorem res_ctt {fn : Func} {p u v : Tmp} (h : fn.results = #[.cell p 24, .tmp u, .tmp v]) (tmps : Array Value) (w : World) (g : Nat) (m : Mp) (hp : tmps.getD p undef = .pointer (some ⟨g, 0, none⟩)) (hg : Blk w g MapT (encM m).toArray) (b c : Value) (hu : tmps.getD u undef = b) (hv : tmps.getD v undef = c) :
    (results fn tmps).run Try.prog w = .ok (.tuple #[.agg (encM m).toArray, b, c]) w := by
  subst hu hv
  rw [Array.getD_eq_getD_getElem?] at hp
  simp only [results, h]
  simp [Result.andThen, hp, asAddr, run_loadVar_row w g MapT 24 (encM m).toArray (0, 0) _ hg under_map rfl info_map]

section
variable {ops : Array Oper} {rest : List Oper} {o : Oper} {a : Act} {w : World} {Q : Exit → Act → World → Prop}
theorem encM_all (m : Mp) : (encM m).toArray.all (·.oneCell') = true := by simp [encM, Value.oneCell']
theorem wpList_store_map (hgd : o.guard = none) (x y : Operand) (ho : o.op = .store 24 x y) (g : Nat) (m old : Mp)
    (hx : a.eval x = .pointer (some ⟨g, 0, none⟩)) (hy : a.eval y = .agg (encM m).toArray) (hb : Blk w g MapT (encM old).toArray)
    (h : ∀ w', Blk w' g MapT (encM m).toArray → Upd [g] w w' → wpList Try.prog ops Q rest (a.put o.dst undef) w') : wpList Try.prog ops Q (o :: rest) a w :=
  wpList_store_row hgd _ x y ho g _ hx hy MapT _ hb info_map rfl (encM_all m) (h _ (hb.row _) ((Upd.refl [g] w).setRow (by simp) _))
theorem wpList_load_map (hw : Region.wanted o (yielded ops a.tmps) = true) (x : Operand) (ho : o.op = .load 24 x) (b k : Nat) (m : Mp)
    (hx : a.eval x = .pointer (some ⟨b, k, none⟩)) (hc : w.rangeAt b k (encM m))
    (h : wpList Try.prog ops Q rest (a.put o.dst (.agg (encM m).toArray)) w) : wpList Try.prog ops Q (o :: rest) a w :=
  wpList_load_midg hw 24 x ho b k hx _ _ hc under_map rfl info_map h
end
theorem blk_range {w : World} {g : Nat} {T : TypeId} {m : Mp} (h : Blk w g T (encM m).toArray) : w.rangeAt g 0 (encM m) := fun i v hv => h.cellAt (by simpa using hv)

set_option maxRecDepth 100000 in
set_option maxHeartbeats 2000000 in
theorem find_any (t : Nat) (own : List Nat) (L : List Mp) (w : World) (h : At TlbT w t own L) (a p : Nat) :
    Calls Try.prog 12 #[.pointer (some ⟨t, 0, none⟩), .int .u8 a, .int .u8 p] w fun e w' =>
      e = .returned (.tuple #[.agg (encM (findM a p L)).toArray, .bool (hasM a p L)]) ∧ Upd [] w w' := by
  have hu0 := (Upd.refl [] w).alloc (.cells #[.int .u8 0, .int .u8 0, .int .u8 0, .bool false] 24)
  have HB := Lib.hid (Blk.new w MapT (encM mz).toArray)
  obtain ⟨A, cap, hv⟩ := (h.upd0 hu0).v
  have HA := Lib.hid (at_any t A cap L _ hv a p)
  have HU := Lib.hid hu0
  have hb := hv.row
  have hr := hv.rd
  unfold findM hasM
  rw [find_idx]
  clear h hu0 hv
  have hin := idx_def (isAt a p) L
  cases hq : L.findIdx? (isAt a p) with
  | none =>
    rw [hq] at hin
    rw [hin] at HA
    clear hin hq
    go_enter Try.func12, Try.ntmps12
    go_wp2_with fail
    refine HA.out.mono ?_; rintro e w1 ⟨rfl, hu1⟩
    have hb1 := HB.out.upd hu1 (by simp)
    have HU1 := Lib.hid hu1
    clear hu1 hb hr
    go_wp2_with (refine wpList_store_map rfl _ _ rfl w.heap.size mz mz rfl rfl hb1 ?_; intro w2 hb2 hu2)
    refine bodyPost_ret (res_ct rfl _ _ w.heap.size mz rfl hb2 _ rfl) rfl ?_
    exact ⟨by simp, (HU.out.trans0 HU1.out).trans hu2 (by simp)⟩
  | some i =>
    rw [hq] at hin
    rw [hin] at HA
    clear hin
    obtain ⟨m, hm, _, _⟩ := findIdx_spec _ L i hq
    have hil : i < L.length := (List.getElem?_eq_some_iff.1 hm).1
    have HM := Lib.hid hm
    obtain ⟨b, o, rfl, hcs⟩ := hr (by omega)
    have hra := hcs i m hm
    have i0 : (0 : Int) ≤ (i : Int) := by omega
    have i1 : (i : Int) < (L.length : Int) := by omega
    generalize L.length = n at *
    clear hq hm hcs
    go_enter Try.func12, Try.ntmps12
    go_wp2_with fail
    refine HA.out.mono ?_; rintro e w1 ⟨rfl, hu1⟩
    have hb1 := HB.out.upd hu1 (by simp)
    have hra1 : w1.rangeAt b (o + i * 4) (encM m) := fun i v hv => hu1.cellAt (hra i v hv) (by simp)
    have hc1 : w1.cell? ⟨t, 0, none⟩ = some (.slice (some ⟨b, o, none⟩) n cap) := (hb.upd hu1 (by simp)).cellAt (i := 0) rfl
    have HU1 := Lib.hid hu1
    clear hu1 hb hr hra
    go_wp2_with (first
      | (refine wpList_load_map rfl _ rfl b (o + i * 4) m rfl hra1 ?_)
      | (refine wpList_store_map rfl _ _ rfl w.heap.size m mz rfl rfl hb1 ?_; intro w2 hb2 hu2))
    refine bodyPost_ret (res_ct rfl _ _ w.heap.size m rfl hb2 _ rfl) rfl ?_
    exact ⟨by simp [HM.out], (HU.out.trans0 HU1.out).trans hu2 (by simp)⟩

end Go.Proofs.Ytefjppebohnmjaa
