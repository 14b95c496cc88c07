/- Maps whose keys are pointers: a look-up, and what is new stored. -/
import Derived.Test.YtedaffkdfniikaaFdsSm
import Derived.Maps.OwnOps
import Derived.Maps.OwnSet
namespace Go.Proofs.Ytedaffkdfniikaa
open Go.RowKit Go.Shelf Go.Maps Go.ChangeMaps

def ptrV (x : Nat) : Value := .pointer (some ⟨x, 0, none⟩)
def lookP (ps : List (Nat × Nat)) (x : Nat) : Option Nat := (ps.find? fun p => p.1 == x).map (·.2)
/-- Block b is a map from pointers to pointers: ps. -/
def PMap (w : World) (b : Nat) (ps : List (Nat × Nat)) : Prop :=
  ∃ (es : Array MapEntry) (clock : Nat), w.heap[b]? = some (.map es clock) ∧ es.toList.map (fun e => (e.key, e.val)) = ps.map (fun p => (ptrV p.1, ptrV p.2))
theorem PMap.lt {w : World} {b : Nat} {ps : List (Nat × Nat)} (h : PMap w b ps) : b < w.heap.size := by
  obtain ⟨es, clock, hb, _⟩ := h
  rcases Nat.lt_or_ge b w.heap.size with hlt | hge
  · exact hlt
  · rw [Array.getElem?_eq_none hge] at hb; cases hb
theorem PMap.upd {w w' : World} {b : Nat} {ps : List (Nat × Nat)} {X : List Nat} (h : PMap w b ps) (hu : Upd X w w') (hX : b ∉ X) : PMap w' b ps := by
  have hl := h.lt
  obtain ⟨es, clock, hb, h1⟩ := h
  exact ⟨es, clock, (hu.block b hl hX).trans hb, h1⟩
theorem PMap.ne {w : World} {b g : Nat} {ps : List (Nat × Nat)} {t : TypeId} {cs : Array Value} (h : PMap w b ps) (hb : Blk w g t cs) : g ≠ b := by
  obtain ⟨es, clock, hm, _⟩ := h
  rintro rfl
  unfold Blk at hb
  rw [hm] at hb
  cases hb
theorem PMap.new (w : World) : PMap (w.alloc (.map #[] 0)) w.heap.size [] := ⟨#[], 0, heap_alloc_new w _, rfl⟩
theorem upd_setB (w : World) (b : Nat) (o : Obj) : Upd [b] w (setBlock w b o) :=
  ⟨rfl, rfl, rfl, by simp [setBlock], fun i _ hn => by
    simp at hn
    simp only [setBlock]
    rw [Array.getElem?_setIfInBounds_ne (fun h => hn h.symm)]⟩
theorem heap_setB {w : World} {b : Nat} {o o' : Obj} (h : w.heap[b]? = some o) : (setBlock w b o').heap[b]? = some o' := (MapKept.heap_set (o' := o') h).1
theorem info_sh4 : ∃ j, Try.prog.info? ShT = some j ∧ j.size = 4 := by
  have := info_sh
  cases hq : Try.prog.info? ShT with
  | none => rw [hq] at this; cases this
  | some j => rw [hq] at this; exact ⟨j, rfl, by simpa using this⟩
theorem equal_ptr (w : World) (x y : Nat) {cx cy : Array Value} (hx : Blk w x ShT cx) (hy : Blk w y ShT cy) : (Op.equal 65 (ptrV x) (ptrV y)).run Try.prog w = .ok (decide (x = y)) w := by
  obtain ⟨j, hj, hj4⟩ := info_sh4
  unfold ptrV
  by_cases h : x = y
  · subst h
    have h : ∀ d : Nat, (Op.equalIn (d + 1) 65 (.pointer (some ⟨x, 0, none⟩)) (.pointer (some ⟨x, 0, none⟩))).run Try.prog w = .ok true w := fun d => by
      simp [Op.equalIn, run_underlying under_shp, sizeOf, typeInfo, hj, run_sameAddr_same]
    simp [Op.equal, Op.maxDepth, h 9999]
  · have hne : (⟨x, 0, none⟩ : Addr) ≠ ⟨y, 0, none⟩ := fun e => h (by injection e)
    have h' : ∀ d : Nat, (Op.equalIn (d + 1) 65 (.pointer (some ⟨x, 0, none⟩)) (.pointer (some ⟨y, 0, none⟩))).run Try.prog w = .ok false w := fun d => by
      simp [Op.equalIn, run_underlying under_shp, sizeOf, typeInfo, hj, hj4, run_sameAddr_other w hne hx hy]
    simp [Op.equal, Op.maxDepth, h' 9999, h]
theorem ask_find (w : World) (x : Nat) {cx : Array Value} (hx : Blk w x ShT cx) : ∀ (l : List MapEntry) (ps : List (Nat × Nat)) (i : Nat), l.map (fun e => (e.key, e.val)) = ps.map (fun p => (ptrV p.1, ptrV p.2)) → (∀ p, p ∈ ps → ∃ cs, Blk w p.1 ShT cs) →
    ∃ r, (Instr.findAsking 65 (ptrV x) l i).run Try.prog w = .ok r w ∧ r.map (·.2) = (lookP ps x).map ptrV := by
  intro l
  induction l with
  | nil =>
    intro ps i he _
    cases ps with
    | nil => exact ⟨none, rfl, rfl⟩
    | cons p ps => simp at he
  | cons e l ih =>
    intro ps i he hb
    cases ps with
    | nil => simp at he
    | cons p ps =>
      simp only [List.map_cons, List.cons.injEq, Prod.mk.injEq] at he
      obtain ⟨⟨h1, h2⟩, h3⟩ := he
      obtain ⟨cs, hcs⟩ := hb p (by simp)
      obtain ⟨r, hr, hr2⟩ := ih ps (i + 1) h3 (fun q hq => hb q (by simp [hq]))
      have heq := equal_ptr w x p.1 hx hcs
      by_cases hxp : x = p.1
      · refine ⟨some (i, e.val), ?_, ?_⟩
        · rw [decide_eq_true hxp] at heq
          simp [Instr.findAsking, h1, heq, Result.andThen]
        · unfold lookP
          simp [hxp, h2]
      · refine ⟨r, ?_, ?_⟩
        · rw [decide_eq_false hxp] at heq
          simp [Instr.findAsking, h1, heq, Result.andThen, hr]
        · rw [hr2]
          unfold lookP
          rw [List.find?_cons_of_neg (by simp; exact fun e => hxp e.symm)]
theorem key_find (w : World) (x : Nat) {cx : Array Value} (hx : Blk w x ShT cx) (l : List MapEntry) (ps : List (Nat × Nat)) (he : l.map (fun e => (e.key, e.val)) = ps.map (fun p => (ptrV p.1, ptrV p.2))) (hb : ∀ p, p ∈ ps → ∃ cs, Blk w p.1 ShT cs) :
    ∃ r, (Instr.findKey 65 (ptrV x) l).run Try.prog w = .ok r w ∧ r.map (·.2) = (lookP ps x).map ptrV := by
  cases l with
  | nil =>
    cases ps with
    | nil => exact ⟨none, by simp [Instr.findKey, run_underlying under_shp, Instr.findNow], rfl⟩
    | cons p ps => simp at he
  | cons e l =>
    obtain ⟨r, hr, hr2⟩ := ask_find w x hx (e :: l) ps 0 he hb
    exact ⟨r, by simp [Instr.findKey, run_underlying under_shp, Instr.findNow, Instr.sameNow, hr], hr2⟩
theorem under_mp : Try.prog.underlying 77 = some (.map 65 65) := by kernel_rfl
theorem check_ptr (em : Bool) (x : Nat) (w : World) : (Instr.checkKey em 10000 65 (ptrV x)).run Try.prog w = .ok () w := by
  have h : ∀ d : Nat, (Instr.checkKey em (d + 1) 65 (.pointer (some ⟨x, 0, none⟩))).run Try.prog w = .ok () w := fun d => by
    simp [Instr.checkKey, run_underlying under_shp]
  exact h 9999
def lookV : Option Nat → Value
  | none => .pointer none
  | some y => ptrV y
theorem PMap.look {w : World} {b : Nat} {ps : List (Nat × Nat)} (h : PMap w b ps) (x : Nat) {cx : Array Value} (hx : Blk w x ShT cx) (hb : ∀ p, p ∈ ps → ∃ cs, Blk w p.1 ShT cs) :
    (Instr.lookup 77 (.map (some b)) (ptrV x) true).run Try.prog w = .ok (.tuple #[lookV (lookP ps x), .bool (lookP ps x).isSome]) w := by
  obtain ⟨es, clock, hm, he⟩ := h
  obtain ⟨r, hr, hr2⟩ := key_find w x hx es.toList ps he hb
  cases hl : lookP ps x with
  | none =>
    rw [hl] at hr2
    cases r with
    | none => simp [Instr.lookup, run_underlying under_mp, MapKept.run_getObj_map hm, check_ptr, hr, Result.andThen, lookV]
    | some q => simp at hr2
  | some y =>
    rw [hl] at hr2
    cases r with
    | none => simp at hr2
    | some q =>
      simp at hr2
      simp [Instr.lookup, run_underlying under_mp, MapKept.run_getObj_map hm, check_ptr, hr, Result.andThen, lookV, hr2]
theorem PMap.store {w : World} {b : Nat} {ps : List (Nat × Nat)} (h : PMap w b ps) (x y : Nat) {cx : Array Value} (hx : Blk w x ShT cx) (hb : ∀ p, p ∈ ps → ∃ cs, Blk w p.1 ShT cs) (hl : lookP ps x = none) :
    ∃ w', (Instr.mapUpdate 77 (.map (some b)) (ptrV x) (ptrV y)).run Try.prog w = .ok () w' ∧ PMap w' b (ps ++ [(x, y)]) ∧ Upd [b] w w' := by
  obtain ⟨es, clock, hm, he⟩ := h
  obtain ⟨r, hr, hr2⟩ := key_find w x hx es.toList ps he hb
  rw [hl] at hr2
  cases r with
  | some q => simp at hr2
  | none =>
    refine ⟨setBlock w b (.map (es.push ⟨ptrV x, ptrV y, clock⟩) (clock + 1)), ?_, ⟨_, _, heap_setB hm, ?_⟩, upd_setB _ _ _⟩
    · simp [Instr.mapUpdate, run_underlying under_mp, MapKept.run_getObj_map hm, check_ptr, hr, MapKept.run_setObj_map _ hm, Result.andThen, setBlock]
    · rw [Array.toList_push, List.map_append, he]
      simp

end Go.Proofs.Ytedaffkdfniikaa
