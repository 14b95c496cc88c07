/- Words for memory that all proofs of this seat share: blocks known whole, and what a call leaves alone. Nothing of the program. -/
import Derived.WalkKit
import Derived.WalkSpells
import Derived.WalkLawsBesides
import Derived.Deep.Draws
import Derived.Laws.CopyRow
import Derived.Lib.Hide
import Derived.Laws.BytesString
import Derived.Deep.AppendLies
import Derived.Maps.AppendAt
import Derived.Deep.QuietTactic
import Derived.BigQuiet
import Derived.Lib.SliceRun
import Derived.Deep.MidRow
import Derived.Laws.StructEq
namespace Go.Proofs.Ytedaffkdfniikaa
open Go.RowKit

/-- Block g is just the cells cs of element type t. -/
def Blk (w : World) (g : Nat) (t : TypeId) (cs : Array Value) : Prop := w.heap[g]? = some (.cells cs t (0, 0))

section
variable {w w' : World} {g : Nat} {t : TypeId} {cs : Array Value}
theorem Blk.lt (h : Blk w g t cs) : g < w.heap.size := by
  rcases Nat.lt_or_ge g w.heap.size with hlt | hge
  · exact hlt
  · unfold Blk at h; rw [Array.getElem?_eq_none hge] at h; cases h
theorem Blk.cell (h : Blk w g t cs) (i : Nat) : w.cell? ⟨g, i, none⟩ = cs[i]? := cell_of_row w g i cs t (0, 0) h
theorem Blk.cellAt (h : Blk w g t cs) {i : Nat} {v : Value} (hv : cs[i]? = some v) : w.cell? ⟨g, i, none⟩ = some v := (h.cell i).trans hv
theorem Blk.frozen (h : Blk w g t cs) (i : Nat) : w.frozen? ⟨g, i, none⟩ = false := by
  unfold Blk at h
  simp [World.frozen?, h]
theorem Blk.new (w : World) (t : TypeId) (cs : Array Value) : Blk (w.alloc (.cells cs t)) w.heap.size t cs := heap_alloc_new w _
theorem Blk.drew (h : Blk w g t cs) : Blk w.drew g t cs := h
theorem Blk.drewN (h : Blk w g t cs) (n : Nat) : Blk (w.drewN n) g t cs := h
theorem Blk.alloc (h : Blk w g t cs) (o : Obj) : Blk (w.alloc o) g t cs := (Below.heap_alloc w o g h.lt).trans h
theorem Blk.set_ (h : Blk w g t cs) (i : Nat) (u : Value) : Blk (w.setCell ⟨g, i, none⟩ u) g t (cs.setIfInBounds i u) := by
  unfold Blk at h ⊢
  simp [World.setCell, Array.getElem?_modify, h]
theorem Blk.far (h : Blk w g t cs) {p : Addr} (hp : g ≠ p.block) (u : Value) : Blk (w.setCell p u) g t cs := (Below.heap_setCell w p u g hp).trans h
theorem Blk.row (h : Blk w g t cs) (cs' : Array Value) : Blk (w.setRow g cs') g t cs' := setRow_heap w g cs cs' t _ h
theorem Blk.rowFar (h : Blk w g t cs) {k : Nat} (hk : g ≠ k) (cs' : Array Value) : Blk (w.setRow k cs') g t cs := (setRow_other w k g cs' hk).trans h
theorem Blk.ne_ {g' : Nat} {t' : TypeId} {cs' : Array Value} (h : Blk w g t cs) (h' : Blk w g' t' cs') (hne : t ≠ t') : g ≠ g' := by
  rintro rfl
  unfold Blk at h h'
  rw [h] at h'
  injection h' with h'
  injection h' with _ ht
  exact hne ht
theorem Blk.below {B : Nat} (h : Blk w g t cs) (hb : Below B w w') (hg : g < B) : Blk w' g t cs := (hb.block g hg).trans h
theorem Blk.grown {row : Option Nat} (h : Blk w g t cs) (hb : w.grownBy w' row) (hg : some g ≠ row) : Blk w' g t cs := (hb.block g h.lt hg).trans h
end

/-- From w to w' only the blocks of S (and new ones) have turned. -/
structure Upd (S : List Nat) (w w' : World) : Prop where
  os : w'.os = w.os
  tape : w'.tape = w.tape
  output : w'.output = w.output
  size : w.heap.size ≤ w'.heap.size
  block : ∀ i, i < w.heap.size → i ∉ S → w'.heap[i]? = w.heap[i]?

section
variable {S S' : List Nat} {a w w' : World}
theorem Upd.refl (S : List Nat) (w : World) : Upd S w w := ⟨rfl, rfl, rfl, Nat.le_refl _, fun _ _ _ => rfl⟩
theorem Upd.mono (h : Upd S w w') (hS : ∀ s, s ∈ S → s ∈ S' ∨ w.heap.size ≤ s) : Upd S' w w' :=
  ⟨h.os, h.tape, h.output, h.size, fun i hi hn => h.block i hi fun hs => by
    rcases hS i hs with h1 | h1
    · exact hn h1
    · omega⟩
theorem Upd.trans (h : Upd S a w) (k : Upd S' w w') (hS : ∀ s, s ∈ S' → s ∈ S ∨ a.heap.size ≤ s) : Upd S a w' :=
  ⟨k.os.trans h.os, k.tape.trans h.tape, k.output.trans h.output, Nat.le_trans h.size k.size, fun i hi hn =>
    (k.block i (Nat.lt_of_lt_of_le hi h.size) (fun hs => by
      rcases hS i hs with h1 | h1
      · exact hn h1
      · omega)).trans (h.block i hi hn)⟩
theorem Upd.trans' (h : Upd S a w) (k : Upd S w w') : Upd S a w' := h.trans k fun _ hs => .inl hs
theorem Upd.trans0 (h : Upd S a w) (k : Upd [] w w') : Upd S a w' := h.trans k fun s hs => by simp at hs
theorem Upd.zero (h : Upd [] w w') (S : List Nat) : Upd S w w' := h.mono fun s hs => by simp at hs
theorem Upd.drew (h : Upd S a w) : Upd S a w.drew := ⟨h.os, h.tape, h.output, h.size, h.block⟩
theorem Upd.drewN (h : Upd S a w) (n : Nat) : Upd S a (w.drewN n) := ⟨h.os, h.tape, h.output, h.size, h.block⟩
theorem Upd.alloc (h : Upd S a w) (o : Obj) : Upd S a (w.alloc o) :=
  ⟨h.os, h.tape, h.output, Nat.le_trans h.size (by simp), fun i hi hn => (Below.heap_alloc w o i (Nat.lt_of_lt_of_le hi h.size)).trans (h.block i hi hn)⟩
theorem Upd.setCell (h : Upd S a w) {p : Addr} (hp : p.block ∈ S ∨ a.heap.size ≤ p.block) (u : Value) : Upd S a (w.setCell p u) :=
  ⟨h.os, h.tape, h.output, by simpa [World.setCell] using h.size, fun i hi hn => (Below.heap_setCell w p u i (by
    rintro rfl
    rcases hp with h1 | h1
    · exact hn h1
    · omega)).trans (h.block i hi hn)⟩
theorem Upd.setRow (h : Upd S a w) {g : Nat} (hp : g ∈ S ∨ a.heap.size ≤ g) (cs : Array Value) : Upd S a (w.setRow g cs) :=
  ⟨h.os, h.tape, h.output, by simpa using h.size, fun i hi hn => (setRow_other w g i cs (by
    rintro rfl
    rcases hp with h1 | h1
    · exact hn h1
    · omega)).trans (h.block i hi hn)⟩
theorem Upd.grown (h : Upd S a w) {row : Option Nat} (hg : w.grownBy w' row) (hr : ∀ k, row = some k → k ∈ S ∨ a.heap.size ≤ k) : Upd S a w' :=
  ⟨hg.os.trans h.os, hg.tape.trans h.tape, hg.output.trans h.output, Nat.le_trans h.size hg.size, fun i hi hn =>
    (hg.block i (Nat.lt_of_lt_of_le hi h.size) (fun e => by
      rcases hr i e.symm with h1 | h1
      · exact hn h1
      · omega)).trans (h.block i hi hn)⟩
theorem Upd.below (h : Upd [] w w') : Below w.heap.size w w' := ⟨h.os, h.tape, h.output, h.size, fun i hi => h.block i hi (by simp)⟩
theorem Upd.of_below (h : Below w.heap.size w w') : Upd [] w w' := ⟨h.os, h.tape, h.output, h.size, fun i hi _ => h.block i hi⟩
theorem Blk.upd {g : Nat} {t : TypeId} {cs : Array Value} (h : Blk w g t cs) (hu : Upd S w w') (hg : g ∉ S) : Blk w' g t cs := (hu.block g h.lt hg).trans h
end

/-- Bytes as cells. -/
def bcs (l : List UInt8) : List Value := l.map fun c => .int .u8 (c.toNat : Int)
theorem bcs_length (l : List UInt8) : (bcs l).length = l.length := by simp [bcs]
theorem bcs_get (l : List UInt8) (i : Nat) : (bcs l)[i]? = (l[i]?).map fun c => .int .u8 (c.toNat : Int) := by simp [bcs]
theorem bcs_one (l : List UInt8) : ∀ v ∈ bcs l, v.oneCell' = true := by
  intro v hv
  simp only [bcs, List.mem_map] at hv
  obtain ⟨c, _, rfl⟩ := hv
  rfl
theorem bcs_append (l k : List UInt8) : bcs (l ++ k) = bcs l ++ bcs k := by simp [bcs]
theorem bcs_take (l : List UInt8) (n : Nat) : (bcs l).take n = bcs (l.take n) := by simp [bcs, List.map_take]
theorem bcs_drop (l : List UInt8) (n : Nat) : (bcs l).drop n = bcs (l.drop n) := by simp [bcs, List.map_drop]
theorem bcs_set (l : List UInt8) (i : Nat) (c : UInt8) : (bcs l).set i (.int .u8 (c.toNat : Int)) = bcs (l.set i c) := by simp [bcs, List.map_set]

section
variable {P : Program}
/-- A whole array out of the middle of a block, at an operation that may be guarded. -/
theorem wpList_load_midg {ops : Array Oper} {rest : List Oper} {op : Oper} {a : Act} {w : World} {Q : Exit → Act → World → Prop} (hw : Region.wanted op (yielded ops a.tmps) = true) (ty : TypeId) (x : Operand) (ho : op.op = .load ty x)
    (b o : Nat) (hx : a.eval x = .pointer (some ⟨b, o, none⟩)) (cs : List Value) (d : TypeDesc) (hc : w.rangeAt b o cs)
    (hu : P.underlying ty = some d) (hd : d.isRow = true) (hi : (P.info? ty).map (·.size) = some cs.length)
    (h : wpList P ops Q rest (a.put op.dst (.agg cs.toArray)) w) : wpList P ops Q (op :: rest) a w := by
  refine wpList_step fun K hK => ?_
  rw [if_pos hw]
  exact wp_load_mid ty x ho b o hx cs d hc hu hd hi (hK _ _ h)

/-- The same inside a region that draws its order and only reads. -/
theorem wpQuiet_load_midg {ops : Array Oper} {rest : List Oper} {op : Oper} {a : Act} {w : World} {Q : Act → Prop} (hw : Region.wanted op (yielded ops a.tmps) = true) (ty : TypeId) (x : Operand) (ho : op.op = .load ty x)
    (b o : Nat) (hx : a.eval x = .pointer (some ⟨b, o, none⟩)) (cs : List Value) (d : TypeDesc) (hc : w.rangeAt b o cs)
    (hu : P.underlying ty = some d) (hd : d.isRow = true) (hi : (P.info? ty).map (·.size) = some cs.length)
    (h : wpQuiet P ops (fun w' => ∃ n, w' = w.drewN n) Q rest (a.put op.dst (.agg cs.toArray))) : wpQuiet P ops (fun w' => ∃ n, w' = w.drewN n) Q (op :: rest) a := by
  refine wpQuiet_step fun K hK => ?_
  rw [if_pos hw]
  refine ⟨.agg cs.toArray, ?_, hK _ h⟩
  rintro w' ⟨n, rfl⟩
  unfold Oper.quietAt execOp
  simp only [ho, hx, Instr.loadAt, Instr.sureAddr, Sem.run_bind, Sem.run_pure, Result.andThen_ok, run_loadVar_mid (w.drewN n) b o ty cs d hc hu hd hi]
  exact ⟨rfl, rfl⟩

/-- A whole array into the block that was made last. -/
theorem wpList_store_new {ops : Array Oper} {rest : List Oper} {o : Oper} {a : Act} {w : World} {Q : Exit → Act → World → Prop} (hgd : o.guard = none) (ty : TypeId) (x y : Operand) (ho : o.op = .store ty x y)
    (cells : Array Value) (hx : a.eval x = .pointer (some ⟨w.heap.size, 0, none⟩)) (hy : a.eval y = .agg cells)
    (t : TypeId) (old : Array Value) (hi : (P.info? ty).map (·.size) = some cells.size)
    (hold : old.size = cells.size) (h1 : cells.all (·.oneCell') = true)
    (h : wpList P ops Q rest (a.put o.dst undef) (w.alloc (.cells cells t))) : wpList P ops Q (o :: rest) a (w.alloc (.cells old t)) := by
  refine wpList_store_row hgd ty x y ho w.heap.size cells hx hy t old (heap_alloc_new w _) hi hold h1 ?_
  have e : (w.alloc (.cells old t)).setRow w.heap.size cells = w.alloc (.cells cells t) := by
    unfold World.setRow World.alloc
    congr 1
    apply Array.ext
    · simp
    · intro k h1 h2
      simp only [Array.size_modify, Array.size_push] at h1
      rw [Array.getElem_modify]
      by_cases hk : k = w.heap.size
      · subst hk
        simp
      · have : k < w.heap.size := by omega
        rw [if_neg (fun e => hk e.symm), Array.getElem_push_lt this, Array.getElem_push_lt this]
  rw [e]
  exact h

theorem rangeAt_new (w : World) (t : TypeId) (cs : List Value) : (w.alloc (.cells cs.toArray t)).rangeAt w.heap.size 0 cs := by
  intro j v hv
  refine (Blk.new w t cs.toArray).cellAt ?_
  simpa using hv
theorem rangeAt_alloc {w : World} {b o : Nat} {cs : List Value} (h : w.rangeAt b o cs) (ob : Obj) : (w.alloc ob).rangeAt b o cs :=
  fun j v hv => Lib.cell?_alloc_some ob (h j v hv)
theorem bcs_all (l : List UInt8) : (bcs l).toArray.all (·.oneCell') = true := by
  rw [Array.all_eq_true_iff_forall_mem]
  intro v hv
  exact bcs_one l v (by simpa using hv)

/-- string(b), b a slice of bytes that reads as cs. -/
theorem run_str (w : World) (src dst e : TypeId) (hs : P.underlying src = some (.slice e)) (he : P.underlying e = some (.int .u8)) (hd : P.underlying dst = some .string)
    (g o n cap : Nat) (cs : List UInt8) (hn : cs.length = n) (hc : ∀ j c, cs[j]? = some c → w.cell? ⟨g, o + j, none⟩ = some (.int .u8 (c.toNat : Int))) :
    (convert src dst (.slice (some ⟨g, o, none⟩) n cap)).run P w = .ok (.string ⟨cs.toArray⟩) w := by
  rw [run_convert_bytes_string w src dst e _ _ _ hs he hd]
  have hl : (loadCells ⟨g, o, none⟩ n).run P w = .ok ((cs.map fun c => (c.toNat : Int)).map (Value.int .u8)).toArray w := by
    have := run_loadCells_list (P := P) w ⟨g, o, none⟩ (bcs cs) (fun j v hv => by
      rw [bcs_get] at hv
      cases h : cs[j]? with
      | none => simp [h] at hv
      | some c =>
        simp [h] at hv
        subst hv
        rw [Addr.add_mid]
        exact hc j c h)
    rw [bcs_length, hn] at this
    rw [this]
    simp [bcs]
  rw [run_bytesToString w _ _ _ _ hl]
  have key : ∀ (l : List UInt8) (b : ByteArray), (l.map fun c => (c.toNat : Int)).foldl (fun r n => r.push (UInt8.ofNat n.toNat)) b = ⟨b.data ++ l.toArray⟩ := by
    intro l
    induction l with
    | nil => intro b; simp
    | cons c l ih =>
      intro b
      simp only [List.map_cons, List.foldl_cons]
      rw [ih]
      simp [ByteArray.push]
  rw [key]
  have he : ByteArray.empty.data = #[] := rfl
  rw [he]
  simp
theorem run_str_nil (w : World) (src dst e : TypeId) (hs : P.underlying src = some (.slice e)) (he : P.underlying e = some (.int .u8)) (hd : P.underlying dst = some .string) (n c : Nat) :
    (convert src dst (.slice none n c)).run P w = .ok (.string ByteArray.empty) w := by
  rw [run_convert_bytes_string w src dst e _ _ _ hs he hd]
  rfl

theorem run_isAgg_int (w : World) {e : TypeId} {k : IntKind} (he : P.underlying e = some (.int k)) : (isAgg e).run P w = .ok false w := by
  unfold isAgg
  simp [run_underlying he]
theorem run_part_int (w : World) {e : TypeId} {k : IntKind} (he : P.underlying e = some (.int k)) (cs : Array Value) (i : Nat) {v : Value} (hv : cs[i]? = some v) : (part e cs i).run P w = .ok v w := by
  simp [part, run_isAgg_int w he, hv]

/-- '==' of two arrays of bytes. -/
theorem run_equalIn_barr (w : World) (d : Nat) (t e n : Nat) (l1 l2 : List UInt8) (h1 : l1.length = n) (h2 : l2.length = n)
    (ht : P.underlying t = some (.array n e)) (he : P.underlying e = some (.int .u8)) (hs : (P.info? e).map (·.size) = some 1) :
    (Op.equalIn (d + 2) t (.agg (bcs l1).toArray) (.agg (bcs l2).toArray)).run P w = .ok (decide (l1 = l2)) w := by
  obtain ⟨i, hi, hsz⟩ := Option.map_eq_some_iff.1 hs
  have hso : (sizeOf e).run P w = .ok 1 w := by simp [sizeOf, typeInfo, hi, hsz]
  have hint : ∀ a b : Int, (Op.equalIn (d + 1) e (.int .u8 a) (.int .u8 b)).run P w = .ok (a == b) w := fun a b => run_equalIn_int w d e .u8 .u8 a b he
  show (Op.equalIn ((d + 1) + 1) t (.agg (bcs l1).toArray) (.agg (bcs l2).toArray)).run P w = _
  generalize d + 1 = D at *
  have key : ∀ (m k : Nat), k + m = n → l1.take k = l2.take k →
      ((forIn (m := Sem) (List.range' k m 1) ((none, ()) : Option Bool × PUnit) fun i _ => do
        let a ← part e (bcs l1).toArray (i * 1)
        let b ← part e (bcs l2).toArray (i * 1)
        let r ← Op.equalIn D e a b
        if (!r) = true then pure (ForInStep.done (some false, ())) else pure (ForInStep.yield (none, ()))).run P w).andThen (fun s w' => match s.fst with | none => .ok true w' | some b => .ok b w') = .ok (decide (l1 = l2)) w := by
    intro m
    induction m with
    | zero =>
      intro k hk ht
      have : l1 = l2 := by
        rw [List.take_of_length_le (by omega), List.take_of_length_le (by omega)] at ht
        exact ht
      simp [this]
    | succ m ih =>
      intro k hk ht
      have hk1 : k < l1.length := by omega
      have hk2 : k < l2.length := by omega
      have ha : (bcs l1).toArray[k * 1]? = some (.int .u8 (l1[k].toNat : Int)) := by simp [bcs, hk1]
      have hb : (bcs l2).toArray[k * 1]? = some (.int .u8 (l2[k].toNat : Int)) := by simp [bcs, hk2]
      simp only [List.range'_succ, List.forIn_cons, Sem.run_bind, run_part_int w he _ _ ha, run_part_int w he _ _ hb, Result.andThen_ok, hint]
      by_cases hq : l1[k] = l2[k]
      · rw [hq]
        simp only [beq_self_eq_true, Bool.not_true, Bool.false_eq_true, if_false, Sem.run_pure, Result.andThen_ok]
        refine ih (k + 1) (by omega) ?_
        rw [List.take_succ_eq_append_getElem hk1, List.take_succ_eq_append_getElem hk2, ht, hq]
      · have hne : ((l1[k].toNat : Int) == (l2[k].toNat : Int)) = false := by
          rw [beq_eq_false_iff_ne]
          intro h
          exact hq (UInt8.toNat_inj.1 (by omega))
        have hl : l1 ≠ l2 := fun h => hq (by simp [h])
        simp only [hne, Bool.not_false, if_true, Sem.run_pure, Result.andThen_ok]
        simp [hl]
  have := key n 0 (by omega) (by simp)
  simp only [Op.equalIn, Sem.run_bind, run_underlying ht, Result.andThen_ok, hso, Std.Legacy.Range.forIn_eq_forIn_range', Std.Legacy.Range.size, Nat.sub_zero, Nat.add_sub_cancel, Nat.div_one]
  rw [← this]
  congr 1
  funext s w'
  obtain ⟨s1, s2⟩ := s
  cases s1 <;> simp

theorem run_eql_barr (w : World) (t e n : Nat) (l1 l2 : List UInt8) (h1 : l1.length = n) (h2 : l2.length = n)
    (ht : P.underlying t = some (.array n e)) (he : P.underlying e = some (.int .u8)) (hs : (P.info? e).map (·.size) = some 1) :
    (binOp .eql t (.agg (bcs l1).toArray) (.agg (bcs l2).toArray)).run P w = .ok (.bool (decide (l1 = l2))) w := by
  rw [run_eql_struct, run_equalIn_barr w 9998 t e n l1 l2 h1 h2 ht he hs]
  rfl

/-- clear of bytes. -/
theorem run_clearb (w : World) (t e ty : TypeId) (ht : P.underlying t = some (.slice e)) (hv : ∀ w, (zeroValue e).run P w = .ok (.int .u8 0) w) (g o n c : Nat) (hn : 0 < n)
    (cur : List Value) (te : TypeId) (hg : Blk w g te cur.toArray) (hfit : o + n ≤ cur.length) :
    (Builtin.clear_ #[t] ty #[.slice (some ⟨g, o, none⟩) n c]).run P w = .ok (.tuple #[]) (w.setRow g (cur.take o ++ bcs (List.replicate n 0) ++ cur.drop (o + (bcs (List.replicate n 0)).length)).toArray) := by
  have hb : bcs (List.replicate n 0) = List.replicate n (.int .u8 0) := by simp [bcs]
  have hzc : (Builtin.zeroCells (Value.int IntKind.u8 0).cells n).toList = List.replicate n (.int .u8 0) := by
    simp [Builtin.zeroCells, Value.cells]
    apply List.ext_getElem
    · simp
    · intro i h1 h2
      simp [Nat.mod_one]
  have hst := run_storeCells_at P g o te (List.replicate n (.int .u8 0)) 0 cur.toArray w hg (by simpa using hfit) (by intro v hv'; rw [List.eq_of_mem_replicate hv']; rfl)
  rw [hb]
  obtain ⟨m, rfl⟩ : ∃ m, n = m + 1 := ⟨n - 1, by omega⟩
  simp only [Nat.add_zero] at hst
  simp [Builtin.clear_, run_underlying ht, hv, hzc, hst]

theorem run_clear_nil (w : World) (t e ty n c : Nat) (ht : P.underlying t = some (.slice e)) : (Builtin.clear_ #[t] ty #[.slice none n c]).run P w = .ok (.tuple #[]) w := by
  simp [Builtin.clear_, run_underlying ht]
end

/-- A slice (its address A) that reads as xs, one cell each. -/
def RdV (w : World) (A : Option Addr) (xs : List Value) : Prop :=
  0 < xs.length → ∃ b o, A = some ⟨b, o, none⟩ ∧ ∀ j v, xs[j]? = some v → w.cell? ⟨b, o + j, none⟩ = some v
theorem RdV.upd {w w' : World} {A : Option Addr} {cs : List Value} {S : List Nat} (h : RdV w A cs) (hu : Upd S w w') (hS : 0 < cs.length → ∀ b o, A = some ⟨b, o, none⟩ → b ∉ S) : RdV w' A cs := by
  intro hk
  obtain ⟨b, o, rfl, hc⟩ := h hk
  refine ⟨b, o, rfl, fun j c hj => ?_⟩
  have h1 := hc j c hj
  have hlt : b < w.heap.size := World.block_lt_of_cell? w ⟨b, o + j, none⟩ h1
  exact (World.cell?_of_block (w := w) (hu.block b hlt (hS hk b o rfl))).trans h1
theorem RdV.drewN {w : World} {A : Option Addr} {cs : List Value} (h : RdV w A cs) (k : Nat) : RdV (w.drewN k) A cs := h
theorem RdV.of_own {w : World} {base : Nat} {e : TypeId} {size n : Nat} {v : Value} {xs : List Value} (h : w.ownsRow base e size v n xs) :
    ∃ A c, v = .slice A n c ∧ n ≤ c ∧ RdV w A xs ∧ (∀ b o, A = some ⟨b, o, none⟩ → base ≤ b ∧ b < w.heap.size) := by
  rcases h.2 with ⟨rfl, rfl⟩ | ⟨g, cap, cur, rfl, hb, hg, hle, _, hs, ht⟩
  · refine ⟨none, 0, rfl, Nat.le_refl _, fun hk => ?_, fun b o hh => by cases hh⟩
    have := h.1
    omega
  · refine ⟨_, cap, rfl, hle, fun hk => ⟨g, 0, rfl, fun j v hj => ?_⟩, fun b o hh => ?_⟩
    · have hbk : Blk w g e cur := hg
      refine hbk.cellAt ?_
      rw [Nat.zero_add]
      have hl : j < n * size := by have := (List.getElem?_eq_some_iff.1 hj).1; rw [h.1] at this; exact this
      rw [← ht, List.getElem?_take, if_pos hl] at hj
      simpa using hj
    · injection hh with hh
      injection hh with hh _ _
      subst hh
      exact ⟨hb, (show Blk w g e cur from hg).lt⟩
theorem Upd.lt_old {w w' : World} (h : Upd [] w w') {b : Nat} {v : Value} {o : Nat} (hc : w.cell? ⟨b, o, none⟩ = some v) : w'.cell? ⟨b, o, none⟩ = some v := by
  have hlt : b < w.heap.size := World.block_lt_of_cell? w ⟨b, o, none⟩ hc
  exact (World.cell?_of_block (w := w) (h.block b hlt (by simp))).trans hc

theorem Upd.cellAt {S : List Nat} {w w' : World} (h : Upd S w w') {b o : Nat} {v : Value} (hc : w.cell? ⟨b, o, none⟩ = some v) (hb : b ∉ S) : w'.cell? ⟨b, o, none⟩ = some v := by
  have hlt : b < w.heap.size := World.block_lt_of_cell? w ⟨b, o, none⟩ hc
  exact (World.cell?_of_block (w := w) (h.block b hlt hb)).trans hc

end Go.Proofs.Ytedaffkdfniikaa
