/- Descriptors, plainly: who is there, what each descriptor is of, all that there ever was; and how they lie in memory. -/
import Derived.Test.YtedaffkdfniikaaRows
import Derived.Test.YtedaffkdfniikaaLib
import Derived.Lib.SliceRun
import Derived.Deep.MidRow
import Derived.Deep.QuietTactic
import Derived.BigQuiet
import Derived.StillTailTactics
import Derived.Lib.Hide
namespace Go.Proofs.Ytedaffkdfniikaa
open Go.RowKit

structure Op where
  k : Nat
  r : Int
  p : Int
deriving DecidableEq, Inhabited
def encO (o : Op) : List Value := [.int .u8 o.k, .int .i64 o.r, .int .i64 o.p]
theorem encO_length (o : Op) : (encO o).length = 3 := rfl
/-- Who is there; of each descriptor 1 more than the place in all of what it is of (0: none); all there ever was. -/
structure St where
  has : Nat → Bool
  fd : Nat → Nat → Nat
  all : List Op
def setF (f : Nat → Nat → Nat) (i k v : Nat) : Nat → Nat → Nat := fun a b => if a = i ∧ b = k then v else f a b
/-- How many descriptors are of n. -/
def cntF (f : Nat → Nat → Nat) (n : Nat) : Nat := (List.range 48).countP fun j => f (j / 8) (j % 8) == n
theorem countP_upd (g : Nat → Nat) (j0 v n : Nat) : ∀ m, (List.range m).countP (fun j => (if j = j0 then v else g j) == n) + (if j0 < m ∧ g j0 = n then 1 else 0) = (List.range m).countP (fun j => g j == n) + (if j0 < m ∧ v = n then 1 else 0) := by
  intro m
  induction m with
  | zero => simp
  | succ m ih =>
    rw [List.range_succ, List.countP_append, List.countP_append, List.countP_singleton, List.countP_singleton]
    by_cases hm : m = j0
    · subst hm
      have a1 : ¬ m < m := by omega
      simp only [a1, false_and, if_false, Nat.add_zero] at ih
      have a2 : m < m + 1 := by omega
      simp only [a2, true_and, if_true, beq_iff_eq]
      rw [ih]
      omega
    · simp only [if_neg hm]
      have e : (j0 < m + 1) ↔ (j0 < m) := by omega
      simp only [e]
      omega
theorem cnt_setF (f : Nat → Nat → Nat) (i k v n : Nat) (hi : i < 6) (hk : k < 8) : cntF (setF f i k v) n + (if f i k = n then 1 else 0) = cntF f n + (if v = n then 1 else 0) := by
  have h := countP_upd (fun j => f (j / 8) (j % 8)) (8 * i + k) v n 48
  have e1 : (8 * i + k) / 8 = i := by omega
  have e2 : (8 * i + k) % 8 = k := by omega
  have e3 : 8 * i + k < 48 := by omega
  simp only [e1, e2, e3, true_and] at h
  unfold cntF
  rw [← h]
  congr 1
  refine List.countP_congr fun j _ => ?_
  unfold setF
  have : (j / 8 = i ∧ j % 8 = k) ↔ j = 8 * i + k := by omega
  simp only [this]
theorem cnt_le (f : Nat → Nat → Nat) (n : Nat) : cntF f n ≤ 48 := by
  have h := List.countP_le_length (p := fun j => f (j / 8) (j % 8) == n) (l := List.range 48)
  rw [List.length_range] at h
  exact h
theorem cnt_pos {f : Nat → Nat → Nat} {n : Nat} : cntF f n ≠ 0 ↔ ∃ i k, i < 6 ∧ k < 8 ∧ f i k = n := by
  unfold cntF
  rw [← Nat.pos_iff_ne_zero, List.countP_pos_iff]
  constructor
  · rintro ⟨j, hj, h⟩
    rw [List.mem_range] at hj
    exact ⟨j / 8, j % 8, by omega, by omega, by simpa using h⟩
  · rintro ⟨i, k, hi, hk, h⟩
    refine ⟨8 * i + k, List.mem_range.2 (by omega), ?_⟩
    have e1 : (8 * i + k) / 8 = i := by omega
    have e2 : (8 * i + k) % 8 = k := by omega
    rw [e1, e2]
    simpa using h
theorem cnt_of {f : Nat → Nat → Nat} {n i k : Nat} (hi : i < 6) (hk : k < 8) (h : f i k = n) : cntF f n ≠ 0 := cnt_pos.2 ⟨i, k, hi, hk, h⟩
theorem setF_same (f : Nat → Nat → Nat) (i k : Nat) : setF f i k (f i k) = f := by
  funext a b
  unfold setF
  split
  · rename_i h; rw [h.1, h.2]
  · rfl
theorem setF_at (f : Nat → Nat → Nat) (i k v : Nat) : setF f i k v i k = v := by unfold setF; simp
theorem setF_ne {f : Nat → Nat → Nat} {i k v a b : Nat} (h : ¬ (a = i ∧ b = k)) : setF f i k v a b = f a b := by unfold setF; rw [if_neg h]

/-- n cells by their number. -/
def rowF (n : Nat) (f : Nat → Value) : Array Value := ((List.range n).map f).toArray
theorem rowF_size (n : Nat) (f : Nat → Value) : (rowF n f).size = n := by simp [rowF]
theorem rowF_get {n : Nat} {f : Nat → Value} {i : Nat} (hi : i < n) : (rowF n f)[i]? = some (f i) := by simp [rowF, hi]
theorem rowF_set (n : Nat) (f : Nat → Value) (i : Nat) (v : Value) : (rowF n f).setIfInBounds i v = rowF n fun j => if j = i then v else f j := by
  apply Array.ext
  · simp [rowF]
  · intro j h1 h2
    simp only [rowF, List.setIfInBounds_toArray, List.getElem_toArray, List.getElem_set, List.getElem_map, List.getElem_range]
    by_cases h : i = j
    · rw [if_pos h, if_pos h.symm]
    · rw [if_neg h, if_neg (fun e => h e.symm)]
theorem rowF_congr {n : Nat} {f g : Nat → Value} (h : ∀ i, i < n → f i = g i) : rowF n f = rowF n g := by
  unfold rowF
  congr 1
  exact List.map_congr_left fun i hi => h i (List.mem_range.1 hi)

def TabT : TypeId := 64
def ProcT : TypeId := 67
def ShT : TypeId := 72
def pv (b : Bool) (x : Nat) : Value := if b = true then .pointer (some ⟨x, 0, none⟩) else .pointer none
def sv (sb : Nat → Nat) (n : Nat) : Value := if n = 0 then .pointer none else .pointer (some ⟨sb n, 0, none⟩)
def opAt (S : St) (n : Nat) : Op := S.all.getD (n - 1) default
def shC (o : Op) (c : Nat) : Array Value := #[.int .u8 o.k, .int .i64 o.r, .int .i64 o.p, .int .i64 (c : Int)]
/-- At t lies a table that holds S; pb, sb say where its processes and what is shared lie; own names them all. -/
structure Prog (w : World) (t : Nat) (own : List Nat) (S : St) (pb sb : Nat → Nat) : Prop where
  tab : Blk w t TabT (rowF 6 fun i => pv (S.has i) (pb i))
  prc : ∀ i, i < 6 → S.has i = true → Blk w (pb i) ProcT (rowF 8 fun k => sv sb (S.fd i k))
  shr : ∀ n, n ≠ 0 → cntF S.fd n ≠ 0 → Blk w (sb n) ShT (shC (opAt S n) (cntF S.fd n))
  injp : ∀ i j, i < 6 → j < 6 → S.has i = true → S.has j = true → pb i = pb j → i = j
  injs : ∀ n m, n ≠ 0 → m ≠ 0 → cntF S.fd n ≠ 0 → cntF S.fd m ≠ 0 → sb n = sb m → n = m
  ot : t ∈ own
  op : ∀ i, i < 6 → S.has i = true → pb i ∈ own
  os : ∀ n, n ≠ 0 → cntF S.fd n ≠ 0 → sb n ∈ own
  ol : ∀ g, g ∈ own → g < w.heap.size
section
variable {w w' : World} {t : Nat} {own : List Nat} {S : St} {pb sb : Nat → Nat} {X : List Nat}
theorem Prog.upd (h : Prog w t own S pb sb) (hu : Upd X w w') (hX : ∀ g, g ∈ own → g ∉ X) : Prog w' t own S pb sb :=
  ⟨h.tab.upd hu (hX _ h.ot), fun i hi hh => (h.prc i hi hh).upd hu (hX _ (h.op i hi hh)), fun n h0 hn => (h.shr n h0 hn).upd hu (hX _ (h.os n h0 hn)), h.injp, h.injs, h.ot, h.op, h.os, fun g hg => Nat.lt_of_lt_of_le (h.ol g hg) hu.size⟩
theorem Prog.upd0 (h : Prog w t own S pb sb) (hu : Upd [] w w') : Prog w' t own S pb sb := h.upd hu (by simp)
theorem Prog.cellT (h : Prog w t own S pb sb) {i : Nat} (hi : i < 6) : w.cell? ⟨t, i, none⟩ = some (pv (S.has i) (pb i)) := h.tab.cellAt (rowF_get hi)
theorem Prog.cellP (h : Prog w t own S pb sb) {i k : Nat} (hi : i < 6) (hh : S.has i = true) (hk : k < 8) : w.cell? ⟨pb i, k, none⟩ = some (sv sb (S.fd i k)) := (h.prc i hi hh).cellAt (rowF_get hk)
theorem size_set (w : World) (p : Addr) (v : Value) : (w.setCell p v).heap.size = w.heap.size := by simp [World.setCell]
theorem Prog.ntp (h : Prog w t own S pb sb) {i : Nat} (hi : i < 6) (hh : S.has i = true) : t ≠ pb i := h.tab.ne_ (h.prc i hi hh) (by decide)
theorem Prog.nts (h : Prog w t own S pb sb) {n : Nat} (h0 : n ≠ 0) (hn : cntF S.fd n ≠ 0) : t ≠ sb n := h.tab.ne_ (h.shr n h0 hn) (by decide)
theorem Prog.nps (h : Prog w t own S pb sb) {i n : Nat} (hi : i < 6) (hh : S.has i = true) (h0 : n ≠ 0) (hn : cntF S.fd n ≠ 0) : pb i ≠ sb n := (h.prc i hi hh).ne_ (h.shr n h0 hn) (by decide)
def withF (S : St) (f : Nat → Nat → Nat) : St := ⟨S.has, f, S.all⟩
theorem opAt_withF (S : St) (f : Nat → Nat → Nat) (n : Nat) : opAt (withF S f) n = opAt S n := rfl
/-- A descriptor is taken away. -/
theorem Prog.down (h : Prog w t own S pb sb) {i k n : Nat} (hi : i < 6) (hh : S.has i = true) (hk : k < 8) (hn : S.fd i k = n) (h0 : n ≠ 0) :
    Prog ((w.setCell ⟨pb i, k, none⟩ (.pointer none)).setCell ⟨sb n, 3, none⟩ (.int .i64 ((cntF S.fd n : Int) - 1))) t own (withF S (setF S.fd i k 0)) pb sb := by
  have hc : cntF S.fd n ≠ 0 := cnt_of hi hk hn
  have hcm : ∀ m, m ≠ 0 → cntF (setF S.fd i k 0) m + (if n = m then 1 else 0) = cntF S.fd m := fun m hm => by
    have := cnt_setF S.fd i k 0 m hi hk
    rw [hn, if_neg (fun e : 0 = m => hm e.symm)] at this
    exact this
  have hus : ∀ m, m ≠ 0 → cntF (setF S.fd i k 0) m ≠ 0 → cntF S.fd m ≠ 0 := fun m hm hu => by have := hcm m hm; omega
  refine ⟨(h.tab.far (h.ntp hi hh) _).far (h.nts h0 hc) _, fun j hj hhj => ?_, fun m hm hu => ?_, h.injp, fun a b ha hb hua hub => h.injs a b ha hb (hus a ha hua) (hus b hb hub), h.ot, h.op, fun m hm hu => h.os m hm (hus m hm hu), fun g hg => by rw [size_set, size_set]; exact h.ol g hg⟩
  · have hf := h.nps hj hhj h0 hc
    by_cases hij : j = i
    · subst hij
      have := ((h.prc j hj hhj).set_ k (.pointer none)).far (p := ⟨sb n, 3, none⟩) hf (.int .i64 ((cntF S.fd n : Int) - 1))
      rw [rowF_set] at this
      have e : rowF 8 (fun b => sv sb ((withF S (setF S.fd j k 0)).fd j b)) = rowF 8 (fun b => if b = k then .pointer none else sv sb (S.fd j b)) := rowF_congr fun b _ => by
        unfold withF setF sv
        by_cases hb : b = k <;> simp [hb]
      rw [e]
      exact this
    · have hp : pb j ≠ pb i := fun e => hij (h.injp j i hj hi hhj hh e)
      have := ((h.prc j hj hhj).far (p := ⟨pb i, k, none⟩) hp (.pointer none)).far (p := ⟨sb n, 3, none⟩) hf (.int .i64 ((cntF S.fd n : Int) - 1))
      have e : rowF 8 (fun b => sv sb ((withF S (setF S.fd i k 0)).fd j b)) = rowF 8 (fun b => sv sb (S.fd j b)) := rowF_congr fun b _ => by
        unfold withF setF
        simp [hij]
      rw [e]
      exact this
  · have hum := hus m hm hu
    have hb := (h.shr m hm hum).far (p := ⟨pb i, k, none⟩) (h.nps hi hh hm hum).symm (.pointer none)
    have hcc := hcm m hm
    rw [opAt_withF]
    by_cases hmn : m = n
    · subst hmn
      have := hb.set_ 3 (.int .i64 ((cntF S.fd m : Int) - 1))
      rw [if_pos rfl] at hcc
      have e : shC (opAt S m) (cntF (withF S (setF S.fd i k 0)).fd m) = (shC (opAt S m) (cntF S.fd m)).setIfInBounds 3 (.int .i64 ((cntF S.fd m : Int) - 1)) := by
        have : ((cntF (withF S (setF S.fd i k 0)).fd m : Nat) : Int) = (cntF S.fd m : Int) - 1 := by unfold withF; simp only; omega
        unfold shC
        rw [this]
        simp
      rw [e]
      exact this
    · have := hb.far (p := ⟨sb n, 3, none⟩) (fun e => hmn (h.injs m n hm h0 hum hc e)) (.int .i64 ((cntF S.fd n : Int) - 1))
      rw [if_neg (fun e => hmn e.symm)] at hcc
      have e : cntF (withF S (setF S.fd i k 0)).fd m = cntF S.fd m := by unfold withF; simp only; omega
      rw [e]
      exact this
/-- A descriptor more of what is used already: w1 has the process' cell, if there is the process. -/
theorem Prog.up (h : Prog w t own S pb sb) {i k n : Nat} (hi : i < 6) (hh : S.has i = true) (hk : k < 8) (hf0 : S.fd i k = 0) (h0 : n ≠ 0) (hc : cntF S.fd n ≠ 0) :
    Prog ((w.setCell ⟨pb i, k, none⟩ (.pointer (some ⟨sb n, 0, none⟩))).setCell ⟨sb n, 3, none⟩ (.int .i64 ((cntF S.fd n : Int) + 1))) t own (withF S (setF S.fd i k n)) pb sb := by
  have hcm : ∀ m, m ≠ 0 → cntF (setF S.fd i k n) m = cntF S.fd m + (if n = m then 1 else 0) := fun m hm => by
    have := cnt_setF S.fd i k n m hi hk
    rw [hf0, if_neg (fun e : 0 = m => hm e.symm)] at this
    exact this
  have hus : ∀ m, m ≠ 0 → cntF (setF S.fd i k n) m ≠ 0 → cntF S.fd m ≠ 0 := fun m hm hu => by
    have := hcm m hm
    by_cases hnm : n = m
    · subst hnm; exact hc
    · rw [if_neg hnm] at this; omega
  refine ⟨(h.tab.far (h.ntp hi hh) _).far (h.nts h0 hc) _, fun j hj hhj => ?_, fun m hm hu => ?_, h.injp, fun a b ha hb hua hub => h.injs a b ha hb (hus a ha hua) (hus b hb hub), h.ot, h.op, fun m hm hu => h.os m hm (hus m hm hu), fun g hg => by rw [size_set, size_set]; exact h.ol g hg⟩
  · have hf := h.nps hj hhj h0 hc
    by_cases hij : j = i
    · subst hij
      have := ((h.prc j hj hhj).set_ k (.pointer (some ⟨sb n, 0, none⟩))).far (p := ⟨sb n, 3, none⟩) hf (.int .i64 ((cntF S.fd n : Int) + 1))
      rw [rowF_set] at this
      have e : rowF 8 (fun b => sv sb ((withF S (setF S.fd j k n)).fd j b)) = rowF 8 (fun b => if b = k then .pointer (some ⟨sb n, 0, none⟩) else sv sb (S.fd j b)) := rowF_congr fun b _ => by
        unfold withF setF sv
        by_cases hb : b = k <;> simp [hb, h0]
      rw [e]
      exact this
    · have hp : pb j ≠ pb i := fun e => hij (h.injp j i hj hi hhj hh e)
      have := ((h.prc j hj hhj).far (p := ⟨pb i, k, none⟩) hp (.pointer (some ⟨sb n, 0, none⟩))).far (p := ⟨sb n, 3, none⟩) hf (.int .i64 ((cntF S.fd n : Int) + 1))
      have e : rowF 8 (fun b => sv sb ((withF S (setF S.fd i k n)).fd j b)) = rowF 8 (fun b => sv sb (S.fd j b)) := rowF_congr fun b _ => by
        unfold withF setF
        simp [hij]
      rw [e]
      exact this
  · have hum := hus m hm hu
    have hb := (h.shr m hm hum).far (p := ⟨pb i, k, none⟩) (h.nps hi hh hm hum).symm (.pointer (some ⟨sb n, 0, none⟩))
    have hcc := hcm m hm
    rw [opAt_withF]
    by_cases hmn : m = n
    · subst hmn
      have := hb.set_ 3 (.int .i64 ((cntF S.fd m : Int) + 1))
      rw [if_pos rfl] at hcc
      have e : shC (opAt S m) (cntF (withF S (setF S.fd i k m)).fd m) = (shC (opAt S m) (cntF S.fd m)).setIfInBounds 3 (.int .i64 ((cntF S.fd m : Int) + 1)) := by
        have : ((cntF (withF S (setF S.fd i k m)).fd m : Nat) : Int) = (cntF S.fd m : Int) + 1 := by unfold withF; simp only; omega
        unfold shC
        rw [this]
        simp
      rw [e]
      exact this
    · have := hb.far (p := ⟨sb n, 3, none⟩) (fun e => hmn (h.injs m n hm h0 hum hc e)) (.int .i64 ((cntF S.fd n : Int) + 1))
      rw [if_neg (fun e => hmn e.symm)] at hcc
      have e : cntF (withF S (setF S.fd i k n)).fd m = cntF S.fd m := by unfold withF; simp only; omega
      rw [e]
      exact this
/-- The same of a process that is not there (yet). -/
theorem Prog.upF (h : Prog w t own S pb sb) {i k n : Nat} (hi : i < 6) (hh : S.has i = false) (hk : k < 8) (hf0 : S.fd i k = 0) (h0 : n ≠ 0) (hc : cntF S.fd n ≠ 0) :
    Prog (w.setCell ⟨sb n, 3, none⟩ (.int .i64 ((cntF S.fd n : Int) + 1))) t own (withF S (setF S.fd i k n)) pb sb := by
  have hcm : ∀ m, m ≠ 0 → cntF (setF S.fd i k n) m = cntF S.fd m + (if n = m then 1 else 0) := fun m hm => by
    have := cnt_setF S.fd i k n m hi hk
    rw [hf0, if_neg (fun e : 0 = m => hm e.symm)] at this
    exact this
  have hus : ∀ m, m ≠ 0 → cntF (setF S.fd i k n) m ≠ 0 → cntF S.fd m ≠ 0 := fun m hm hu => by
    have := hcm m hm
    by_cases hnm : n = m
    · subst hnm; exact hc
    · rw [if_neg hnm] at this; omega
  refine ⟨h.tab.far (h.nts h0 hc) _, fun j hj hhj => ?_, fun m hm hu => ?_, h.injp, fun a b ha hb hua hub => h.injs a b ha hb (hus a ha hua) (hus b hb hub), h.ot, h.op, fun m hm hu => h.os m hm (hus m hm hu), fun g hg => by rw [size_set]; exact h.ol g hg⟩
  · have hf := h.nps hj hhj h0 hc
    have hij : j ≠ i := by rintro rfl; unfold withF at hhj; simp only at hhj; rw [hh] at hhj; cases hhj
    have e : rowF 8 (fun b => sv sb ((withF S (setF S.fd i k n)).fd j b)) = rowF 8 (fun b => sv sb (S.fd j b)) := rowF_congr fun b _ => by
      unfold withF setF
      simp [hij]
    rw [e]
    exact (h.prc j hj hhj).far hf _
  · have hum := hus m hm hu
    have hb := h.shr m hm hum
    have hcc := hcm m hm
    rw [opAt_withF]
    by_cases hmn : m = n
    · subst hmn
      have := hb.set_ 3 (.int .i64 ((cntF S.fd m : Int) + 1))
      rw [if_pos rfl] at hcc
      have e : shC (opAt S m) (cntF (withF S (setF S.fd i k m)).fd m) = (shC (opAt S m) (cntF S.fd m)).setIfInBounds 3 (.int .i64 ((cntF S.fd m : Int) + 1)) := by
        have : ((cntF (withF S (setF S.fd i k m)).fd m : Nat) : Int) = (cntF S.fd m : Int) + 1 := by unfold withF; simp only; omega
        unfold shC
        rw [this]
        simp
      rw [e]
      exact this
    · have := hb.far (p := ⟨sb n, 3, none⟩) (fun e => hmn (h.injs m n hm h0 hum hc e)) (.int .i64 ((cntF S.fd n : Int) + 1))
      rw [if_neg (fun e => hmn e.symm)] at hcc
      have e : cntF (withF S (setF S.fd i k n)).fd m = cntF S.fd m := by unfold withF; simp only; omega
      rw [e]
      exact this
/-- What is new is opened: it lies at x with nobody to have it yet. -/
theorem Prog.upN (h : Prog w t own S pb sb) {i k x : Nat} {o : Op} (hi : i < 6) (hh : S.has i = true) (hk : k < 8) (hf0 : S.fd i k = 0) (hle : ∀ i k, S.fd i k ≤ S.all.length) (hx : Blk w x ShT (shC o 0)) (hfr : ∀ n, n ≠ 0 → cntF S.fd n ≠ 0 → sb n ≠ x) :
    Prog ((w.setCell ⟨pb i, k, none⟩ (.pointer (some ⟨x, 0, none⟩))).setCell ⟨x, 3, none⟩ (.int .i64 1)) t (x :: own) ⟨S.has, setF S.fd i k (S.all.length + 1), S.all ++ [o]⟩ pb (fun m => if m = S.all.length + 1 then x else sb m) := by
  obtain ⟨N, hN⟩ : ∃ N, N = S.all.length + 1 := ⟨_, rfl⟩
  rw [← hN]
  have hNc : cntF S.fd N = 0 := by
    by_cases hc : cntF S.fd N = 0
    · exact hc
    · obtain ⟨a, b, _, _, he⟩ := cnt_pos.1 hc
      have := hle a b
      omega
  have hcm : ∀ m, m ≠ 0 → cntF (setF S.fd i k N) m = cntF S.fd m + (if N = m then 1 else 0) := fun m hm => by
    have := cnt_setF S.fd i k N m hi hk
    rw [hf0, if_neg (fun e : 0 = m => hm e.symm)] at this
    exact this
  have hus : ∀ m, m ≠ 0 → m ≠ N → cntF (setF S.fd i k N) m ≠ 0 → cntF S.fd m ≠ 0 := fun m hm hmN hu => by
    have := hcm m hm
    rw [if_neg (fun e => hmN e.symm)] at this
    omega
  have hNp : ∀ j, j < 6 → S.has j = true → pb j ≠ x := fun j hj hhj => (h.prc j hj hhj).ne_ hx (by decide)
  refine ⟨(h.tab.far (h.ntp hi hh) _).far (h.tab.ne_ hx (by decide)) _, fun j hj hhj => ?_, fun m hm hu => ?_, h.injp, fun a b ha hb hua hub e => ?_, List.mem_cons_of_mem _ h.ot, fun j hj hhj => List.mem_cons_of_mem _ (h.op j hj hhj), fun m hm hu => ?_, fun g hg => by
    rw [size_set, size_set]
    rcases List.mem_cons.1 hg with rfl | hg
    · exact hx.lt
    · exact h.ol g hg⟩
  · have hf := hNp j hj hhj
    by_cases hij : j = i
    · subst hij
      have := ((h.prc j hj hhj).set_ k (.pointer (some ⟨x, 0, none⟩))).far (p := ⟨x, 3, none⟩) hf (.int .i64 1)
      rw [rowF_set] at this
      have e : rowF 8 (fun b => sv (fun m => if m = N then x else sb m) (setF S.fd j k N j b)) = rowF 8 (fun b => if b = k then .pointer (some ⟨x, 0, none⟩) else sv sb (S.fd j b)) := rowF_congr fun b _ => by
        have hjb := hle j b
        unfold setF sv
        by_cases hb : b = k
        · simp [hb, hN]
        · simp [hb, show S.fd j b ≠ N by omega]
      exact (show Blk _ (pb j) ProcT (rowF 8 (fun b => sv (fun m => if m = N then x else sb m) (setF S.fd j k N j b))) by rw [e]; exact this)
    · have hp : pb j ≠ pb i := fun e => hij (h.injp j i hj hi hhj hh e)
      have := ((h.prc j hj hhj).far (p := ⟨pb i, k, none⟩) hp (.pointer (some ⟨x, 0, none⟩))).far (p := ⟨x, 3, none⟩) hf (.int .i64 1)
      have e : rowF 8 (fun b => sv (fun m => if m = N then x else sb m) (setF S.fd i k N j b)) = rowF 8 (fun b => sv sb (S.fd j b)) := rowF_congr fun b _ => by
        have hjb := hle j b
        unfold setF sv
        simp [hij, show S.fd j b ≠ N by omega]
      exact (show Blk _ (pb j) ProcT (rowF 8 (fun b => sv (fun m => if m = N then x else sb m) (setF S.fd i k N j b))) by rw [e]; exact this)
  · simp only at hu ⊢
    have hcc := hcm m hm
    by_cases hmN : m = N
    · subst hmN
      rw [if_pos rfl] at hcc ⊢
      rw [hNc] at hcc
      have hb := (hx.far (p := ⟨pb i, k, none⟩) (hNp i hi hh).symm (.pointer (some ⟨x, 0, none⟩))).set_ 3 (.int .i64 1)
      rw [hcc]
      have e1 : opAt ⟨S.has, setF S.fd i k m, S.all ++ [o]⟩ m = o := by
        unfold opAt
        simp only
        rw [List.getD, List.getElem?_append_right (by omega), show m - 1 - S.all.length = 0 by omega]
        rfl
      rw [e1]
      exact hb
    · rw [if_neg hmN]
      rw [if_neg (fun e => hmN e.symm)] at hcc
      have hum := hus m hm hmN hu
      obtain ⟨a, b, _, _, he⟩ := cnt_pos.1 hum
      have hab := hle a b
      have e1 : opAt ⟨S.has, setF S.fd i k N, S.all ++ [o]⟩ m = opAt S m := by
        unfold opAt
        simp only
        rw [List.getD, List.getD, List.getElem?_append_left (by omega)]
      rw [e1, hcc, Nat.add_zero]
      exact ((h.shr m hm hum).far (p := ⟨pb i, k, none⟩) (h.nps hi hh hm hum).symm _).far (hfr m hm hum) _
  · simp only at e hua hub
    by_cases haN : a = N
    · by_cases hbN : b = N
      · omega
      · rw [if_pos haN, if_neg hbN] at e
        exact absurd e.symm (hfr b hb (hus b hb hbN hub))
    · by_cases hbN : b = N
      · rw [if_neg haN, if_pos hbN] at e
        exact absurd e (hfr a ha (hus a ha haN hua))
      · rw [if_neg haN, if_neg hbN] at e
        exact h.injs a b ha hb (hus a ha haN hua) (hus b hb hbN hub) e
  · simp only at hu ⊢
    by_cases hmN : m = N
    · rw [if_pos hmN]
      exact List.mem_cons_self
    · rw [if_neg hmN]
      exact List.mem_cons_of_mem _ (h.os m hm (hus m hm hmN hu))
/-- A process begins: its row lies at x. -/
theorem Prog.begin (h : Prog w t own S pb sb) {i x : Nat} (hh : S.has i = false) (hx : Blk w x ProcT (rowF 8 fun k => sv sb (S.fd i k))) (hfr : ∀ j, j < 6 → S.has j = true → pb j ≠ x) :
    Prog (w.setCell ⟨t, i, none⟩ (.pointer (some ⟨x, 0, none⟩))) t (x :: own) ⟨fun j => if j = i then true else S.has j, S.fd, S.all⟩ (fun j => if j = i then x else pb j) sb := by
  refine ⟨?_, fun j hj hhj => ?_, fun m hm hu => (h.shr m hm hu).far (h.nts hm hu).symm _, fun a b ha hb hha hhb e => ?_, h.injs, List.mem_cons_of_mem _ h.ot, fun j hj hhj => ?_, fun m hm hu => List.mem_cons_of_mem _ (h.os m hm hu), fun g hg => by
    rw [size_set]
    rcases List.mem_cons.1 hg with rfl | hg
    · exact hx.lt
    · exact h.ol g hg⟩
  · have := h.tab.set_ i (.pointer (some ⟨x, 0, none⟩))
    rw [rowF_set] at this
    have e : rowF 6 (fun j => pv (if j = i then true else S.has j) (if j = i then x else pb j)) = rowF 6 (fun j => if j = i then .pointer (some ⟨x, 0, none⟩) else pv (S.has j) (pb j)) := rowF_congr fun j _ => by
      by_cases hj : j = i <;> simp [hj, pv]
    exact (show Blk _ t TabT (rowF 6 (fun j => pv (if j = i then true else S.has j) (if j = i then x else pb j))) by rw [e]; exact this)
  · simp only at hhj ⊢
    by_cases hji : j = i
    · subst hji
      rw [if_pos rfl]
      exact hx.far (h.tab.ne_ hx (by decide)).symm _
    · rw [if_neg hji] at hhj ⊢
      exact (h.prc j hj hhj).far (h.ntp hj hhj).symm _
  · simp only at hha hhb e
    by_cases hai : a = i
    · by_cases hbi : b = i
      · omega
      · rw [if_pos hai, if_neg hbi] at e
        rw [if_neg hbi] at hhb
        exact absurd e.symm (hfr b hb hhb)
    · rw [if_neg hai] at hha
      by_cases hbi : b = i
      · rw [if_neg hai, if_pos hbi] at e
        exact absurd e (hfr a ha hha)
      · rw [if_neg hai, if_neg hbi] at e
        rw [if_neg hbi] at hhb
        exact h.injp a b ha hb hha hhb e
  · simp only at hhj ⊢
    by_cases hji : j = i
    · rw [if_pos hji]
      exact List.mem_cons_self
    · rw [if_neg hji] at hhj ⊢
      exact List.mem_cons_of_mem _ (h.op j hj hhj)
/-- A process ends. -/
theorem Prog.fin (h : Prog w t own S pb sb) (i : Nat) :
    Prog (w.setCell ⟨t, i, none⟩ (.pointer none)) t own ⟨fun j => if j = i then false else S.has j, S.fd, S.all⟩ pb sb := by
  have hhs : ∀ j, (if j = i then false else S.has j) = true → S.has j = true := fun j hj => by
    split at hj
    · cases hj
    · exact hj
  refine ⟨?_, fun j hj hhj => (h.prc j hj (hhs j hhj)).far (h.ntp hj (hhs j hhj)).symm _, fun m hm hu => (h.shr m hm hu).far (h.nts hm hu).symm _, fun a b ha hb hha hhb e => h.injp a b ha hb (hhs a hha) (hhs b hhb) e, h.injs, h.ot, fun j hj hhj => h.op j hj (hhs j hhj), h.os, fun g hg => by rw [size_set]; exact h.ol g hg⟩
  have := h.tab.set_ i (.pointer none)
  rw [rowF_set] at this
  have e : rowF 6 (fun j => pv (if j = i then false else S.has j) (pb j)) = rowF 6 (fun j => if j = i then .pointer none else pv (S.has j) (pb j)) := rowF_congr fun j _ => by
    by_cases hj : j = i <;> simp [hj, pv]
  exact (show Blk _ t TabT (rowF 6 (fun j => pv (if j = i then false else S.has j) (pb j))) by rw [e]; exact this)
/-- Where something stands is moved. -/
theorem Prog.move (h : Prog w t own S pb sb) {n : Nat} (h0 : n ≠ 0) (hc : cntF S.fd n ≠ 0) (hle : n ≤ S.all.length) (hleA : ∀ i k, S.fd i k ≤ S.all.length) (p : Int) :
    Prog (w.setCell ⟨sb n, 2, none⟩ (.int .i64 p)) t own ⟨S.has, S.fd, S.all.set (n - 1) { opAt S n with p := p }⟩ pb sb := by
  refine ⟨h.tab.far (h.nts h0 hc) _, fun j hj hhj => (h.prc j hj hhj).far (h.nps hj hhj h0 hc) _, fun m hm hu => ?_, h.injp, h.injs, h.ot, h.op, h.os, fun g hg => by rw [size_set]; exact h.ol g hg⟩
  simp only at hu ⊢
  by_cases hmn : m = n
  · subst hmn
    have := (h.shr m hm hu).set_ 2 (.int .i64 p)
    have e1 : opAt ⟨S.has, S.fd, S.all.set (m - 1) { opAt S m with p := p }⟩ m = { opAt S m with p := p } := by
      conv => lhs; unfold opAt
      simp only
      rw [List.getD, List.getElem?_set_self (by omega)]
      rfl
    rw [e1]
    exact this
  · obtain ⟨a, b, _, _, he⟩ := cnt_pos.1 hu
    have hab := hleA a b
    have e1 : opAt ⟨S.has, S.fd, S.all.set (n - 1) { opAt S n with p := p }⟩ m = opAt S m := by
      conv => lhs; unfold opAt
      simp only
      rw [List.getD, List.getElem?_set_ne (by omega)]
      rfl
    rw [e1]
    exact (h.shr m hm hu).far (fun e => hmn (h.injs m n hm h0 hu hc e)) _
end

end Go.Proofs.Ytedaffkdfniikaa
