/- The program's Wait. -/
import Derived.Test.YtogiegehkhnlmaaTfP
import Derived.Test.YtogiegehkhnlmaaTfT
namespace Go.Proofs.Ytogiegehkhnlmaa
open Go.RowKit Go.Shelf
attribute [local go_sem] Oper.semAt_some

/-- What the loop of Wait keeps: the table, the boxes, the three results, the error. -/
structure KeptW (w W : World) (t B0 B4 B5 B6 B9 Bt Bp : Nat) (pid : Int) (T : List PS) (a s e e9 : Int) : Prop where
  tab : TabAt W t T
  b0 : Blk W B0 23 #[.pointer (some ⟨t, 0, none⟩)]
  b4 : Blk W B4 3 #[.int .i64 a]
  b5 : Blk W B5 3 #[.int .i64 s]
  b6 : Blk W B6 25 #[.int .i64 e]
  b9 : Blk W B9 25 #[.int .i64 e9]
  bt : Blk W Bt 23 #[.pointer (some ⟨t, 0, none⟩)]
  bp : Blk W Bp 3 #[.int .i64 pid]
  upd : Upd [t] w W
theorem KeptW.own {B : Nat} {w A C : World} {row : Option Nat} {t B0 B4 B5 B6 B9 Bt Bp : Nat} {pid a s e e9 : Int} {T : List PS} (h : KeptW w A t B0 B4 B5 B6 B9 Bt Bp pid T a s e e9) (hB : w.heap.size ≤ B) (hg : A.grownBy C row)
    (hr : ∀ r, row = some r → B ≤ r ∧ ∃ o : Obj, A.heap[r]? = some o ∧ o.isCells = false) : KeptW w C t B0 B4 B5 B6 B9 Bt Bp pid T a s e e9 :=
  ⟨⟨blk_own h.tab.1 hg hr, h.tab.2⟩, blk_own h.b0 hg hr, blk_own h.b4 hg hr, blk_own h.b5 hg hr, blk_own h.b6 hg hr, blk_own h.b9 hg hr, blk_own h.bt hg hr, blk_own h.bp hg hr, upd_own h.upd hB hg hr⟩

theorem results_cell3 {fn : Func} {P : Program} {p q r : Tmp} {t1 t2 t3 : TypeId} (h : fn.results = #[.cell p t1, .cell q t2, .cell r t3]) (tmps : Array Value) (w : World) {a1 a2 a3 : Addr} {v1 v2 v3 : Value}
    (h1 : tmps.getD p undef = .pointer (some a1)) (h2 : tmps.getD q undef = .pointer (some a2)) (h3 : tmps.getD r undef = .pointer (some a3))
    (l1 : (loadVar t1 a1).run P w = .ok v1 w) (l2 : (loadVar t2 a2).run P w = .ok v2 w) (l3 : (loadVar t3 a3).run P w = .ok v3 w) :
    (results fn tmps).run P w = .ok (.tuple #[v1, v2, v3]) w := by
  rw [Array.getD_eq_getD_getElem?] at h1 h2 h3
  simp only [results, h]
  simp [Sem.run_bind, Result.andThen, h1, h2, h3, l1, l2, l3, asAddr]
theorem load_int {P : Program} (w : World) (ty : TypeId) {k : IntKind} (he : P.underlying ty = some (.int k)) (a : Addr) (v : Value) (hc : w.cell? a = some v) : (loadVar ty a).run P w = .ok v w := by
  simp [loadVar, Sem.run_bind, run_isAgg_int w he, hc]
theorem under_int : Try.prog.underlying 3 = some (.int .i64) := by kernel_rfl
theorem under_errno : Try.prog.underlying 25 = some (.int .i64) := by kernel_rfl
theorem seen_part (G : List Nat → List PS) (pid : Int) : ∀ (k m : Nat), ∃ r, seen G pid (m + k) = seen G pid m ++ r := by
  intro k
  induction k with
  | zero => intro m; exact ⟨[], by simp⟩
  | succ k ih =>
    intro m
    obtain ⟨r, hr⟩ := ih m
    cases hk : kidB (G (seen G pid (m + k))) pid (m + k + 1) with
    | true => exact ⟨r ++ [m + k + 1], by rw [← Nat.add_assoc, seen_yes hk, hr]; simp⟩
    | false => exact ⟨r, by rw [← Nat.add_assoc, seen_no hk, hr]⟩
theorem comes_find {T : List PS} {pid : Int} {pre : List Nat} {x : Nat} (h : comes (fun _ => T) pid pre x) (hd : deadB T x = true) (hno : ∀ y, y ∈ pre → deadB T y = false) : waitF T pid = some x := by
  obtain ⟨m, hm, rfl, hp, hk⟩ := h
  have h1 := seen_yes (G := fun _ => T) (pid := pid) (m := m) hk
  obtain ⟨r, hr⟩ := seen_part (fun _ => T) pid (5 - (m + 1)) (m + 1)
  rw [show m + 1 + (5 - (m + 1)) = 5 by omega, h1, ← hp] at hr
  unfold waitF kids
  rw [hr]
  refine find_at _ _ pre.length (m + 1) ?_ ?_ hd
  · simp
  · intro y hy
    have ht : (pre ++ [m + 1] ++ r).take pre.length = pre := by
      rw [List.append_assoc, List.take_left]
    rw [ht] at hy
    exact hno y hy

set_option maxRecDepth 100000 in
set_option maxHeartbeats 4000000 in
theorem wait_liv (t : Nat) (T : List PS) (pid p : Int) (w : World) (h : TabAt w t T) (hp : getP T pid = .liv p) :
    Calls Try.prog 7 #[.pointer (some ⟨t, 0, none⟩), .int .i64 pid] w fun e w' =>
      e = .returned (.tuple #[.int .i64 (waitA T pid), .int .i64 (waitS T pid), .int .i64 (waitE T pid)]) ∧ TabAt w' t (waitT T pid) ∧ Upd [t] w w' := by
  have HR := Lib.hid (fun W (hW : TabAt W t T) => runs_any t T pid W hW)
  have HT := Lib.hid h
  rw [hp] at HR
  unfold runE runP at HR
  have HWF := Lib.hid (show waitF T pid = (kids T pid).find? (deadB T) from rfl)
  have HE := Lib.hid (show waitE T pid = (match waitF T pid with | some _ => 0 | none => if kids T pid = [] then 3 else 12) by simp only [waitE, hp]; cases waitF T pid <;> rfl)
  have HA := Lib.hid (show waitA T pid = (match waitF T pid with | some x => (x : Int) | none => 0) by simp only [waitA, hp]; cases waitF T pid <;> rfl)
  have HS := Lib.hid (show waitS T pid = (match waitF T pid with | some x => statP (getP T x) | none => 0) by simp only [waitS, hp]; cases waitF T pid <;> rfl)
  have HZ := Lib.hid (show waitT T pid = (match waitF T pid with | some x => T.set x .none | none => T) by simp only [waitT, hp]; cases waitF T pid <;> rfl)
  have htw := h.1.lt
  clear hp h
  generalize waitE T pid = wE at *
  generalize waitA T pid = wA at *
  generalize waitS T pid = wS at *
  generalize waitT T pid = wT at *
  generalize waitF T pid = wF at *
  refine (callsIn_wide (n := 6)).1 ?_
  refine callsIn_of_wp_marks Try.func7 rfl trivial ?_ rfl
  simp only [Try.ntmps7, List.size_toArray, List.length_cons, List.length_nil, Nat.reduceAdd, Nat.reduceSub, Array.replicate_succ, Array.replicate_zero, List.push_toArray, List.append_toArray, List.nil_append, List.cons_append]
  gi_wp2_with fail
  have u0 : Upd [] w ((((w.alloc (.cells #[.pointer (some ⟨t, 0, none⟩)] 23)).alloc (.cells #[.int .i64 0] 3)).alloc (.cells #[.int .i64 0] 3)).alloc (.cells #[.int .i64 0] 25)) := ((((Upd.refl [] w).alloc _).alloc _).alloc _).alloc _
  have b0 := (((Blk.new w 23 #[.pointer (some ⟨t, 0, none⟩)]).alloc (.cells #[.int .i64 0] 3)).alloc (.cells #[.int .i64 0] 3)).alloc (.cells #[.int .i64 0] 25)
  have b4 := ((Blk.new (w.alloc (.cells #[.pointer (some ⟨t, 0, none⟩)] 23)) 3 #[.int .i64 0]).alloc (.cells #[.int .i64 0] 3)).alloc (.cells #[.int .i64 0] 25)
  have b5 := (Blk.new ((w.alloc (.cells #[.pointer (some ⟨t, 0, none⟩)] 23)).alloc (.cells #[.int .i64 0] 3)) 3 #[.int .i64 0]).alloc (.cells #[.int .i64 0] 25)
  have b6 := Blk.new (((w.alloc (.cells #[.pointer (some ⟨t, 0, none⟩)] 23)).alloc (.cells #[.int .i64 0] 3)).alloc (.cells #[.int .i64 0] 3)) 25 #[.int .i64 0]
  simp only [World.size_alloc] at b4 b5 b6
  have hT0 := HT.out.upd u0 (by simp)
  generalize ((((w.alloc (.cells #[.pointer (some ⟨t, 0, none⟩)] 23)).alloc (.cells #[.int .i64 0] 3)).alloc (.cells #[.int .i64 0] 3)).alloc (.cells #[.int .i64 0] 25)) = W0 at *
  refine ⟨trivial, (callsIn_wide.2 (HR.out _ hT0)).mono ?_⟩
  rintro e w1 ⟨rfl, hu⟩
  replace b0 := b0.upd hu (by simp)
  replace b4 := b4.upd hu (by simp)
  replace b5 := b5.upd hu (by simp)
  replace b6 := b6.upd hu (by simp)
  replace hT0 := hT0.upd hu (by simp)
  replace u0 := u0.trans0 hu
  clear hu HR HT
  have l6 := b6.lt
  have l0 : w.heap.size < w1.heap.size := by omega
  have c0 : w1.cell? ⟨w.heap.size, 0, none⟩ = some (.pointer (some ⟨t, 0, none⟩)) := b0.cellAt (i := 0) rfl
  have B0 := Lib.hid b0
  have B4 := Lib.hid b4
  have B5 := Lib.hid b5
  have B6 := Lib.hid b6
  have HT := Lib.hid hT0
  have HU := Lib.hid u0
  clear b0 b4 b5 b6 hT0 u0
  gi_wp2_with fail
  refine ⟨trivial, (children_in _ t _ _).mono ?_⟩
  rintro e w' ⟨rfl, rfl⟩
  gi_wp2_with fail
  have hK : KeptW w ((((w1.alloc (.cells #[.int .i64 p] 39)).alloc (.cells #[.int .i64 3] 25)).alloc (.cells #[.pointer (some ⟨t, 0, none⟩)] 23)).alloc (.cells #[.int .i64 pid] 3)) t w.heap.size (w.heap.size + 1) (w.heap.size + 1 + 1) (w.heap.size + 1 + 1 + 1) (w1.heap.size + 1) (w1.heap.size + 1 + 1) (w1.heap.size + 1 + 1 + 1) pid T 0 0 0 3 := by
    refine ⟨⟨(((HT.out.1.alloc _).alloc _).alloc _).alloc _, HT.out.2⟩, (((B0.out.alloc _).alloc _).alloc _).alloc _, (((B4.out.alloc _).alloc _).alloc _).alloc _, (((B5.out.alloc _).alloc _).alloc _).alloc _, (((B6.out.alloc _).alloc _).alloc _).alloc _, ?_, ?_, ?_, ((((HU.out.zero [t]).alloc _).alloc _).alloc _).alloc _⟩
    · have := ((Blk.new (w1.alloc (.cells #[.int .i64 p] 39)) 25 #[.int .i64 3]).alloc (.cells #[.pointer (some ⟨t, 0, none⟩)] 23)).alloc (.cells #[.int .i64 pid] 3)
      simpa only [World.size_alloc] using this
    · have := (Blk.new ((w1.alloc (.cells #[.int .i64 p] 39)).alloc (.cells #[.int .i64 3] 25)) 23 #[.pointer (some ⟨t, 0, none⟩)]).alloc (.cells #[.int .i64 pid] 3)
      simpa only [World.size_alloc] using this
    · have := Blk.new (((w1.alloc (.cells #[.int .i64 p] 39)).alloc (.cells #[.int .i64 3] 25)).alloc (.cells #[.pointer (some ⟨t, 0, none⟩)] 23)) 3 #[.int .i64 pid]
      simpa only [World.size_alloc] using this
  have hs3 : ((((w1.alloc (.cells #[.int .i64 p] 39)).alloc (.cells #[.int .i64 3] 25)).alloc (.cells #[.pointer (some ⟨t, 0, none⟩)] 23)).alloc (.cells #[.int .i64 pid] 3)).heap.size = w1.heap.size + 4 := by simp
  have HK := Lib.hid hK
  have HS3 := Lib.hid hs3
  clear hK hs3 HT HU B0 B4 B5 B6 c0
  generalize (((w1.alloc (.cells #[.int .i64 p] 39)).alloc (.cells #[.int .i64 3] 25)).alloc (.cells #[.pointer (some ⟨t, 0, none⟩)] 23)).alloc (.cells #[.int .i64 pid] 3) = W3 at *
  have hne : w.heap.size + 1 < w1.heap.size ∧ w.heap.size + 1 + 1 < w1.heap.size ∧ w.heap.size + 1 + 1 + 1 < w1.heap.size := by omega
  generalize e6 : w.heap.size + 1 + 1 + 1 = N6 at *
  generalize e5 : w.heap.size + 1 + 1 = N5 at *
  generalize e4 : w.heap.size + 1 = N4 at *
  generalize ep : w1.heap.size + 1 + 1 + 1 = Np at *
  generalize et : w1.heap.size + 1 + 1 = Nt at *
  generalize e9 : w1.heap.size + 1 = N9 at *
  have HNN : Hid (w.heap.size < N4 ∧ N4 < N5 ∧ N5 < N6 ∧ N6 < N9 ∧ N9 < Nt ∧ Nt < Np ∧ t < w.heap.size ∧ N6 < w1.heap.size) := Lib.hid (by omega)
  clear hne e4 e5 e6 e9 et ep l6 l0
  refine rangeFunc_var 10 rfl (by omega) (gf := 13) (lb := #[.pointer (some ⟨Nt, 0, none⟩), .pointer (some ⟨Np, 0, none⟩)]) rfl trivial (enters_of Try.func13 (by kernel_rfl) rfl)
    (iter_children _ t Nt Np pid (fun _ => T) (fun pre W => KeptW w W t w.heap.size N4 N5 N6 N9 Nt Np pid T 0 0 0 (if pre = [] then 3 else 12) ∧ ∀ y, y ∈ pre → deadB T y = false)
      (fun pre A hA => ⟨hA.1.tab, hA.1.bt.cellAt (i := 0) rfl, hA.1.bp.cellAt (i := 0) rfl⟩))
    (Ix := fun ys W => ∃ pre x e9, ys = pre ++ [x] ∧ deadB T x = true ∧ (∀ y, y ∈ pre → deadB T y = false) ∧ KeptW w W t w.heap.size N4 N5 N6 N9 Nt Np pid (T.set x .none) x (statP (getP T x)) 0 e9) ?own ?ownx ⟨HK.out, by simp⟩ ?assign ?body ?done ?stop
  case own =>
    rintro pre A C row ⟨hs, hd⟩ hg hr
    exact ⟨hs.own HK.out.upd.size hg hr, hd⟩
  case ownx =>
    rintro ys A C row ⟨pre, x, e9, h1, h2, h3, hs⟩ hg hr
    exact ⟨pre, x, e9, h1, h2, h3, hs.own HK.out.upd.size hg hr⟩
  case assign =>
    intro l x W K hK
    gi_wp2
    exact hK
  case body =>
    rintro l pre x W hsz ⟨hk, hno⟩ ⟨m, hm, hx, hpre, hkid⟩
    have x6 : x < 6 := by omega
    have i0 : (0 : Int) ≤ (x : Int) := by omega
    have j1 : (x : Int) < 6 := by omega
    have hcx := hk.tab.cell x6
    have hfx := hk.tab.1.frozen x
    have c0 : W.cell? ⟨w.heap.size, 0, none⟩ = some (.pointer (some ⟨t, 0, none⟩)) := hk.b0.cellAt (i := 0) rfl
    have c4 : W.cell? ⟨N4, 0, none⟩ = some (.int .i64 0) := hk.b4.cellAt (i := 0) rfl
    have c5 : W.cell? ⟨N5, 0, none⟩ = some (.int .i64 0) := hk.b5.cellAt (i := 0) rfl
    have c6 : W.cell? ⟨N6, 0, none⟩ = some (.int .i64 0) := hk.b6.cellAt (i := 0) rfl
    have c9 := hk.b9.cellAt (i := 0) rfl
    have f4 := hk.b4.frozen 0
    have f5 := hk.b5.frozen 0
    have f6 := hk.b6.frozen 0
    have f9 := hk.b9.frozen 0
    have k0 := hk.b0.lt
    have k4 := hk.b4.lt
    have k5 := hk.b5.lt
    have k6 := hk.b6.lt
    have k9 := hk.b9.lt
    have kt := hk.tab.1.lt
    have n1 : w.heap.size ≠ t := by have := HNN.out; omega
    have n4 : N4 ≠ t := by have := HNN.out; omega
    have n5 : N5 ≠ t := by have := HNN.out; omega
    have n6 : N6 ≠ t := by have := HNN.out; omega
    have n45 : N4 ≠ N5 := by have := HNN.out; omega
    have n46 : N4 ≠ N6 := by have := HNN.out; omega
    have n56 : N5 ≠ N6 := by have := HNN.out; omega
    have HKP := Lib.hid hk
    have HNO := Lib.hid hno
    have HPRE := Lib.hid hpre
    have HX := Lib.hid hx
    have HKB := Lib.hid hkid
    have hmx : Try.prog.follows .mixedOrders = true := by kernel_rfl
    have l0 := asL0
    have l1 := asL1
    have l2 := asL2
    have m0 := asE0
    have m1 := asE1
    have m2 := asE2
    clear hx hpre hkid hk hno
    simp only [List.setIfInBounds_toArray, List.set_cons_succ, List.set_cons_zero]
    cases hy : getP T (x : Int) with
    | none =>
      have := HKB.out
      unfold kidB at this
      rw [hy] at this
      cases this
    | liv q =>
      rw [hy] at hcx
      have HD := Lib.hid (show deadB T x = false by unfold deadB; rw [hy]; rfl)
      unfold encP at hcx
      clear hy
      as_aux_lemma =>
      gi_wp2_with fail
      show KeepsFrom _ _ _ ∧ KeptW _ _ _ _ _ _ _ _ _ _ _ _ _ _ _ _ ∧ _
      refine ⟨?_, ⟨?_, ?_, ?_, ?_, ?_, ?_, ?_, ?_, ?_⟩, ?_⟩
      · exact ((KeepsOthers.setCell _ _ _).trans (KeepsOthers.alloc _ _)).from _
      · exact ⟨(HKP.out.tab.1.far (by have := HNN.out; simp; omega) _).alloc _, HKP.out.tab.2⟩
      · exact (HKP.out.b0.far (by have := HNN.out; simp; omega) _).alloc _
      · exact (HKP.out.b4.far (by have := HNN.out; simp; omega) _).alloc _
      · exact (HKP.out.b5.far (by have := HNN.out; simp; omega) _).alloc _
      · exact (HKP.out.b6.far (by have := HNN.out; simp; omega) _).alloc _
      · rw [if_neg (by simp)]
        exact (HKP.out.b9.set_ 0 (.int .i64 12)).alloc _
      · exact (HKP.out.bt.far (by have := HNN.out; simp; omega) _).alloc _
      · exact (HKP.out.bp.far (by have := HNN.out; simp; omega) _).alloc _
      · exact (HKP.out.upd.setCell (.inr (by have := HNN.out; simp; omega)) _).alloc _
      · intro y hy
        rcases List.mem_append.1 hy with hy | hy
        · exact HNO.out y hy
        · obtain rfl : y = x := by simpa using hy
          exact HD.out
    | dead q s' =>
      rw [hy] at hcx
      have HD := Lib.hid (show deadB T x = true by unfold deadB; rw [hy]; rfl)
      have HST := Lib.hid (show statP (getP T (x : Int)) = s' by rw [hy]; rfl)
      unfold encP at hcx
      clear hy
      have FIN : Hid (∀ o : Obj, KeepsFrom W3.heap.size W (((((W.setCell ⟨t, x, none⟩ .nilIface).setCell ⟨N4, 0, none⟩ (.int .i64 (x : Int))).setCell ⟨N5, 0, none⟩ (.int .i64 s')).setCell ⟨N6, 0, none⟩ (.int .i64 0)).alloc o).drew ∧
          ∃ pre' x' e9, pre ++ [x] = pre' ++ [x'] ∧ deadB T x' = true ∧ (∀ y, y ∈ pre' → deadB T y = false) ∧
            KeptW w (((((W.setCell ⟨t, x, none⟩ .nilIface).setCell ⟨N4, 0, none⟩ (.int .i64 (x : Int))).setCell ⟨N5, 0, none⟩ (.int .i64 s')).setCell ⟨N6, 0, none⟩ (.int .i64 0)).alloc o).drew t w.heap.size N4 N5 N6 N9 Nt Np pid (T.set x' .none) x' (statP (getP T x')) 0 e9) := Lib.hid (fun o => by
        have q := HNN.out
        refine ⟨((((((KeepsOthers.setCell _ _ _).trans (KeepsOthers.setCell _ _ _)).trans (KeepsOthers.setCell _ _ _)).trans (KeepsOthers.setCell _ _ _)).trans (KeepsOthers.alloc _ _)).trans (KeepsOthers.drew _)).from _, pre, x, (if pre = [] then 3 else 12), rfl, HD.out, HNO.out, ?_⟩
        rw [HST.out]
        refine ⟨⟨?_, by rw [List.length_set]; exact HKP.out.tab.2⟩, ?_, ?_, ?_, ?_, ?_, ?_, ?_, ?_⟩
        · exact (((((HKP.out.tab.set x .none).1.far (by simp; omega) _).far (by simp; omega) _).far (by simp; omega) _).alloc _).drew
        · exact (((((HKP.out.b0.far (by simp; omega) _).far (by simp; omega) _).far (by simp; omega) _).far (by simp; omega) _).alloc _).drew
        · exact (((((HKP.out.b4.far (by simp; omega) _).set_ 0 (.int .i64 (x : Int))).far (by simp; omega) _).far (by simp; omega) _).alloc _).drew
        · exact (((((HKP.out.b5.far (by simp; omega) _).far (by simp; omega) _).set_ 0 (.int .i64 s')).far (by simp; omega) _).alloc _).drew
        · exact (((((HKP.out.b6.far (by simp; omega) _).far (by simp; omega) _).far (by simp; omega) _).set_ 0 (.int .i64 0)).alloc _).drew
        · exact (((((HKP.out.b9.far (by simp; omega) _).far (by simp; omega) _).far (by simp; omega) _).far (by simp; omega) _).alloc _).drew
        · exact (((((HKP.out.bt.far (by simp; omega) _).far (by simp; omega) _).far (by simp; omega) _).far (by simp; omega) _).alloc _).drew
        · exact (((((HKP.out.bp.far (by simp; omega) _).far (by simp; omega) _).far (by simp; omega) _).far (by simp; omega) _).alloc _).drew
        · exact (((((HKP.out.upd.setCell (by simp) _).setCell (.inr (by simp; omega)) _).setCell (.inr (by simp; omega)) _).setCell (.inr (by simp; omega)) _).alloc _).drew)
      as_aux_lemma =>
      gi_wp2_with fail
      gi_region_elder_o
      all_goals gi_wp2_with fail
      all_goals exact FIN.out _
  case done =>
    rintro D xs W hD hxs ⟨hk, hno⟩ hK
    obtain ⟨z, hz⟩ : ∃ z : Int, z = (if xs = [] then 3 else 12) := ⟨_, rfl⟩
    rw [← hz] at hk
    have HNONE : Hid (wF = none) := Lib.hid (by
      rw [HWF.out]
      exact find_no _ _ (fun y hy => hno y (by rw [hxs]; exact hy)))
    have HZV := Lib.hid (show wE = z by rw [HE.out, HNONE.out, hz, hxs]; rfl)
    have c9 : W.cell? ⟨N9, 0, none⟩ = some (.int .i64 z) := hk.b9.cellAt (i := 0) rfl
    have c4 : W.cell? ⟨N4, 0, none⟩ = some (.int .i64 0) := hk.b4.cellAt (i := 0) rfl
    have c5 : W.cell? ⟨N5, 0, none⟩ = some (.int .i64 0) := hk.b5.cellAt (i := 0) rfl
    have c6 : W.cell? ⟨N6, 0, none⟩ = some (.int .i64 0) := hk.b6.cellAt (i := 0) rfl
    have f4 := hk.b4.frozen 0
    have f5 := hk.b5.frozen 0
    have f6 := hk.b6.frozen 0
    have n45 : N4 ≠ N5 := by have := HNN.out; omega
    have n46 : N4 ≠ N6 := by have := HNN.out; omega
    have n56 : N5 ≠ N6 := by have := HNN.out; omega
    have n49 : N4 ≠ N9 := by have := HNN.out; omega
    have n59 : N5 ≠ N9 := by have := HNN.out; omega
    have n69 : N6 ≠ N9 := by have := HNN.out; omega
    have hmx : Try.prog.follows .mixedOrders = true := by kernel_rfl
    have HKP := Lib.hid hk
    have HKD := Lib.hid hK
    have HDN : Hid (N4 ≠ D ∧ N5 ≠ D ∧ N6 ≠ D) := Lib.hid (by have := HNN.out; have := HS3.out; omega)
    clear hk hno hK hxs hz
    gi_wp2_with fail
    gi_region_o
    all_goals gi_wp2_with fail
    all_goals
      refine ⟨by simp, .inl ⟨_, _, rfl, run_takeDeferred (show _ = some (Obj.deferred (some [])) from ?_), ?_⟩⟩
    · exact (Below.heap_setCell _ _ _ _ (show D ≠ N6 from HDN.out.2.2.symm)).trans ((Below.heap_setCell _ _ _ _ (show D ≠ N5 from HDN.out.2.1.symm)).trans ((Below.heap_setCell _ _ _ _ (show D ≠ N4 from HDN.out.1.symm)).trans HKD.out))
    · have q := HNN.out
      have KX : Hid ((((W.setCell ⟨N4, 0, none⟩ (.int .i64 0)).setCell ⟨N5, 0, none⟩ (.int .i64 0)).setCell ⟨N6, 0, none⟩ (.int .i64 z)).drew.heap[D]? = some (Obj.deferred (some []))) := Lib.hid ((Below.heap_setCell _ _ _ _ (show D ≠ N6 from HDN.out.2.2.symm)).trans ((Below.heap_setCell _ _ _ _ (show D ≠ N5 from HDN.out.2.1.symm)).trans ((Below.heap_setCell _ _ _ _ (show D ≠ N4 from HDN.out.1.symm)).trans HKD.out)))
      refine ⟨_, results_cell3 rfl _ _ rfl rfl rfl (load_int _ _ under_int _ _ ((kept_put ((((HKP.out.b4.set_ 0 (.int .i64 0)).far (by simp; omega) _).far (by simp; omega) _).drew) KX.out rfl).cellAt (i := 0) rfl)) (load_int _ _ under_int _ _ ((kept_put ((((HKP.out.b5.far (by simp; omega) _).set_ 0 (.int .i64 0)).far (by simp; omega) _).drew) KX.out rfl).cellAt (i := 0) rfl)) (load_int _ _ under_errno _ _ ((kept_put ((((HKP.out.b6.far (by simp; omega) _).far (by simp; omega) _).set_ 0 (.int .i64 z)).drew) KX.out rfl).cellAt (i := 0) rfl)), ?_⟩
      rw [show wE = z from HZV.out, show wA = 0 by rw [HA.out, HNONE.out], show wS = 0 by rw [HS.out, HNONE.out], show wT = T by rw [HZ.out, HNONE.out]]
      refine ⟨rfl, ⟨kept_put ((((HKP.out.tab.1.far (by simp; omega) _).far (by simp; omega) _).far (by simp; omega) _).drew) KX.out rfl, HKP.out.tab.2⟩, upd_put ?_ _ (Nat.le_trans HK.out.upd.size hD)⟩
      exact (((HKP.out.upd.setCell (.inr (by simp; omega)) _).setCell (.inr (by simp; omega)) _).setCell (.inr (by simp; omega)) _).drew
  case stop =>
    rintro D pre x W hD hR ⟨pre', x', e9, hxs, hd, hno, hk⟩ hK
    obtain ⟨rfl, hx1⟩ := List.append_inj' hxs rfl
    obtain rfl : x = x' := by simpa using hx1
    have HW : Hid (wF = some x) := Lib.hid (by rw [HWF.out]; exact comes_find hR hd hno)
    have c4 : W.cell? ⟨N4, 0, none⟩ = some (.int .i64 x) := hk.b4.cellAt (i := 0) rfl
    have c5 : W.cell? ⟨N5, 0, none⟩ = some (.int .i64 (statP (getP T x))) := hk.b5.cellAt (i := 0) rfl
    have c6 : W.cell? ⟨N6, 0, none⟩ = some (.int .i64 0) := hk.b6.cellAt (i := 0) rfl
    have HKP := Lib.hid hk
    have HKD := Lib.hid hK
    clear hk hno hK hxs hd
    gi_wp2_with fail
    refine ⟨by simp, .inl ⟨_, _, rfl, run_takeDeferred HKD.out, ?_⟩⟩
    refine ⟨_, results_cell3 rfl _ _ rfl rfl rfl (load_int _ _ under_int _ _ ((kept_put HKP.out.b4 HKD.out rfl).cellAt (i := 0) rfl)) (load_int _ _ under_int _ _ ((kept_put HKP.out.b5 HKD.out rfl).cellAt (i := 0) rfl)) (load_int _ _ under_errno _ _ ((kept_put HKP.out.b6 HKD.out rfl).cellAt (i := 0) rfl)), ?_⟩
    rw [show wE = 0 by rw [HE.out, HW.out], show wA = (x : Int) by rw [HA.out, HW.out], show wS = statP (getP T x) by rw [HS.out, HW.out], show wT = T.set x .none by rw [HZ.out, HW.out]]
    exact ⟨rfl, ⟨kept_put HKP.out.tab.1 HKD.out rfl, HKP.out.tab.2⟩, upd_put HKP.out.upd _ (Nat.le_trans HK.out.upd.size hD)⟩

theorem wait_not (t : Nat) (T : List PS) (pid : Int) (w : World) (h : TabAt w t T) (hp : ∀ p, getP T pid ≠ .liv p) :
    Calls Try.prog 7 #[.pointer (some ⟨t, 0, none⟩), .int .i64 pid] w fun e w' =>
      e = .returned (.tuple #[.int .i64 (waitA T pid), .int .i64 (waitS T pid), .int .i64 (waitE T pid)]) ∧ TabAt w' t (waitT T pid) ∧ Upd [t] w w' := by
  have HR := Lib.hid (fun W (hW : TabAt W t T) => runs_any t T pid W hW)
  have HT := Lib.hid h
  have e1 : waitE T pid = 5 := by unfold waitE; cases hx : getP T pid with
    | none => rfl
    | liv p => exact absurd hx (hp p)
    | dead p s => rfl
  have e2 : waitA T pid = 0 := by unfold waitA; cases hx : getP T pid with
    | none => rfl
    | liv p => exact absurd hx (hp p)
    | dead p s => rfl
  have e3 : waitS T pid = 0 := by unfold waitS; cases hx : getP T pid with
    | none => rfl
    | liv p => exact absurd hx (hp p)
    | dead p s => rfl
  have e4 : waitT T pid = T := by unfold waitT; cases hx : getP T pid with
    | none => rfl
    | liv p => exact absurd hx (hp p)
    | dead p s => rfl
  have e5 : runE (getP T pid) = 5 := by cases hx : getP T pid with
    | none => rfl
    | liv p => exact absurd hx (hp p)
    | dead p s => rfl
  have e6 : runP (getP T pid) = 0 := by cases hx : getP T pid with
    | none => rfl
    | liv p => exact absurd hx (hp p)
    | dead p s => rfl
  rw [e1, e2, e3, e4]
  rw [e5, e6] at HR
  have htw := h.1.lt
  clear h hp e1 e2 e3 e4 e5 e6
  go_enter Try.func7, Try.ntmps7
  go_wp2_with fail
  have u0 : Upd [] w ((((w.alloc (.cells #[.pointer (some ⟨t, 0, none⟩)] 23)).alloc (.cells #[.int .i64 0] 3)).alloc (.cells #[.int .i64 0] 3)).alloc (.cells #[.int .i64 0] 25)) := ((((Upd.refl [] w).alloc _).alloc _).alloc _).alloc _
  have b4 := ((Blk.new (w.alloc (.cells #[.pointer (some ⟨t, 0, none⟩)] 23)) 3 #[.int .i64 0]).alloc (.cells #[.int .i64 0] 3)).alloc (.cells #[.int .i64 0] 25)
  have b5 := (Blk.new ((w.alloc (.cells #[.pointer (some ⟨t, 0, none⟩)] 23)).alloc (.cells #[.int .i64 0] 3)) 3 #[.int .i64 0]).alloc (.cells #[.int .i64 0] 25)
  have b6 := Blk.new (((w.alloc (.cells #[.pointer (some ⟨t, 0, none⟩)] 23)).alloc (.cells #[.int .i64 0] 3)).alloc (.cells #[.int .i64 0] 3)) 25 #[.int .i64 0]
  simp only [World.size_alloc] at b4 b5 b6
  have hT0 := HT.out.upd u0 (by simp)
  generalize ((((w.alloc (.cells #[.pointer (some ⟨t, 0, none⟩)] 23)).alloc (.cells #[.int .i64 0] 3)).alloc (.cells #[.int .i64 0] 3)).alloc (.cells #[.int .i64 0] 25)) = W0 at *
  refine (HR.out _ hT0).mono ?_
  rintro e w1 ⟨rfl, hu⟩
  replace b4 := b4.upd hu (by simp)
  replace b5 := b5.upd hu (by simp)
  replace b6 := b6.upd hu (by simp)
  replace hT0 := hT0.upd hu (by simp)
  replace u0 := u0.trans0 hu
  clear hu HR HT
  have l6 := b6.lt
  generalize e6 : w.heap.size + 1 + 1 + 1 = N6 at *
  generalize e5 : w.heap.size + 1 + 1 = N5 at *
  generalize e4 : w.heap.size + 1 = N4 at *
  have q : Hid (w.heap.size < N4 ∧ N4 < N5 ∧ N5 < N6 ∧ t < N4) := Lib.hid (by omega)
  have k4 := b4.lt
  have k5 := b5.lt
  have c4 : w1.cell? ⟨N4, 0, none⟩ = some (.int .i64 0) := b4.cellAt (i := 0) rfl
  have c5 : w1.cell? ⟨N5, 0, none⟩ = some (.int .i64 0) := b5.cellAt (i := 0) rfl
  have c6 : w1.cell? ⟨N6, 0, none⟩ = some (.int .i64 0) := b6.cellAt (i := 0) rfl
  have f4 := b4.frozen 0
  have f5 := b5.frozen 0
  have f6 := b6.frozen 0
  have n45 : N4 ≠ N5 := by omega
  have n46 : N4 ≠ N6 := by omega
  have n56 : N5 ≠ N6 := by omega
  have B4 := Lib.hid b4
  have B5 := Lib.hid b5
  have B6 := Lib.hid b6
  have HT := Lib.hid hT0
  have HU := Lib.hid u0
  clear b4 b5 b6 hT0 u0 e4 e5 e6
  go_wp2_with fail
  have q := q.out
  refine bodyPost_ret (results_cell3 rfl _ _ rfl rfl rfl
    (load_int _ _ under_int _ _ (((((B4.out.set_ 0 (.int .i64 0)).far (by simp; omega) _).far (by simp; omega) _).alloc _).cellAt (i := 0) rfl))
    (load_int _ _ under_int _ _ (((((B5.out.far (by simp; omega) _).set_ 0 (.int .i64 0)).far (by simp; omega) _).alloc _).cellAt (i := 0) rfl))
    (load_int _ _ under_errno _ _ (((((B6.out.far (by simp; omega) _).far (by simp; omega) _).set_ 0 (.int .i64 5)).alloc _).cellAt (i := 0) rfl))) rfl ?_
  refine ⟨rfl, ⟨((((HT.out.1.far (by simp; omega) _).far (by simp; omega) _).far (by simp; omega) _).alloc _), HT.out.2⟩, ?_⟩
  exact ((((HU.out.zero [t]).setCell (.inr (by simp; omega)) _).setCell (.inr (by simp; omega)) _).setCell (.inr (by simp; omega)) _).alloc _

theorem wait_any (t : Nat) (T : List PS) (pid : Int) (w : World) (h : TabAt w t T) :
    Calls Try.prog 7 #[.pointer (some ⟨t, 0, none⟩), .int .i64 pid] w fun e w' =>
      e = .returned (.tuple #[.int .i64 (waitA T pid), .int .i64 (waitS T pid), .int .i64 (waitE T pid)]) ∧ TabAt w' t (waitT T pid) ∧ Upd [t] w w' := by
  cases hp : getP T pid with
  | none => exact wait_not t T pid w h (fun p => by rw [hp]; intro h; cases h)
  | dead p s => exact wait_not t T pid w h (fun p => by rw [hp]; intro h; cases h)
  | liv p => exact wait_liv t T pid p w h hp

end Go.Proofs.Ytogiegehkhnlmaa
