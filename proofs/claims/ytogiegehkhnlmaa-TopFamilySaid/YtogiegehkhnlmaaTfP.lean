/- What the program's loops over the children share. -/
import Derived.Test.YtogiegehkhnlmaaTfO
namespace Go.Proofs.Ytogiegehkhnlmaa
open Go.RowKit Go.Shelf
attribute [local go_sem] Oper.semAt_some

theorem children_in (n : Nat) (t : Nat) (pid : Int) (w : World) :
    CallsIn Fence.wide n Try.prog 10 #[.pointer (some ⟨t, 0, none⟩), .int .i64 pid] w fun e w' =>
      e = .returned (.func (.func 13) #[] #[.pointer (some ⟨w.heap.size, 0, none⟩), .pointer (some ⟨w.heap.size + 1, 0, none⟩)]) ∧
      w' = (w.alloc (.cells #[.pointer (some ⟨t, 0, none⟩)] 23)).alloc (.cells #[.int .i64 pid] 3) := by
  refine callsIn_of_wp Try.func10 rfl trivial ?_ rfl
  simp only [Try.ntmps10, List.size_toArray, List.length_cons, List.length_nil, Nat.reduceAdd, Nat.reduceSub, Array.replicate_succ, Array.replicate_zero, List.push_toArray, List.append_toArray, List.nil_append, List.cons_append]
  gi_wp2
  go_ret
  exact ⟨by simp, rfl⟩

/-- The loop over an iterator, its variable in slot q. -/
theorem rangeFunc_var {F : Fence} {n : Nat} {P : Program} {w : World} {g : Operand} {p : Tmp} {assign body : Code} {Q : Exit → Act → World → Prop} {a : Act} (q : Tmp)
    (hro : F.round = none) (h1 : 1 ≤ n) {gf : Nat} {lb : Array Value} (hg : a.eval g = .func (.func gf) #[] lb) (hFg : F.fn gf) (eg : ∀ args w, (callFunc gf args).run P w = .ok (.enter gf args) w)
    {I Ix : List Nat → World → Prop} {R : List Nat → Nat → Prop} {S : List Nat → Prop} (hseq : Iter F (n - 1) P gf lb I R S)
    (hI : OwnFrom w.heap.size I) (hIx : OwnFrom w.heap.size Ix) (h0 : I [] w)
    (hassign : ∀ (l : Nat) (x : Nat) (W : World) (K : Act → World → Prop), K { tmps := (a.tmps.setIfInBounds p (.int .i64 (x : Int))).setIfInBounds q (.int .i64 (x : Int)), defers := [] } W →
      assign.wpIn (F.inRound l) (n - 1 - 1) P (Exit.then K (fun _ _ _ => False)) { tmps := a.tmps.setIfInBounds p (.int .i64 (x : Int)), defers := [] } W)
    (hbody : ∀ (l : Nat) (pre : List Nat) (x : Nat) (W : World), w.heap.size ≤ W.heap.size → I pre W → R pre x → body.wpIn (F.inRound l) (n - 1 - 1) P (roundOut w.heap.size I Ix (pre ++ [x]) W) { tmps := (a.tmps.setIfInBounds p (.int .i64 (x : Int))).setIfInBounds q (.int .i64 (x : Int)), defers := [] } W)
    (hdone : ∀ (D : Nat) (xs : List Nat) (W : World), w.heap.size ≤ D → S xs → I xs W → W.heap[D]? = some (.deferred (some [])) → Q .normal { a with defers := { target := .collected D, args := #[] } :: a.defers } W)
    (hstop : ∀ (D : Nat) (pre : List Nat) (x : Nat) (W : World), w.heap.size ≤ D → R pre x → Ix (pre ++ [x]) W → W.heap[D]? = some (.deferred (some [])) → Code.ret.wpIn F n P Q { a with defers := { target := .collected D, args := #[] } :: a.defers } W) :
    (Code.rangeFunc g #[p] assign body).wpIn F n P Q a w :=
  rangeFunc_ints hro h1 hg hFg eg hseq hI hIx h0 (fun x => { tmps := (a.tmps.setIfInBounds p (.int .i64 (x : Int))).setIfInBounds q (.int .i64 (x : Int)), defers := [] }) hassign hbody hdone hstop

/-- What a loop over the children keeps: the table, the boxes that hold t and pid. -/
structure Kept (w W : World) (t B0 Bt Bp : Nat) (pid : Int) (T : List PS) : Prop where
  tab : TabAt W t T
  b0 : Blk W B0 23 #[.pointer (some ⟨t, 0, none⟩)]
  bt : Blk W Bt 23 #[.pointer (some ⟨t, 0, none⟩)]
  bp : Blk W Bp 3 #[.int .i64 pid]
  upd : Upd [t] w W
theorem tne1 : TabT ≠ 23 := by decide
theorem tne2 : TabT ≠ 3 := by decide
theorem Kept.step {w W W' : World} {t B0 Bt Bp : Nat} {pid : Int} {T T' : List PS} (h : Kept w W t B0 Bt Bp pid T) (hu : Upd [t] W W') (hT : TabAt W' t T') : Kept w W' t B0 Bt Bp pid T' :=
  ⟨hT, h.b0.upd hu (by have := h.tab.1.ne_ h.b0 tne1; simp; omega), h.bt.upd hu (by have := h.tab.1.ne_ h.bt tne1; simp; omega), h.bp.upd hu (by have := h.tab.1.ne_ h.bp tne2; simp; omega), h.upd.trans' hu⟩
theorem blk_own {B : Nat} {A C : World} {row : Option Nat} {g : Nat} {t : TypeId} {cs : Array Value} (h : Blk A g t cs) (hg : A.grownBy C row)
    (hr : ∀ r, row = some r → B ≤ r ∧ ∃ o : Obj, A.heap[r]? = some o ∧ o.isCells = false) : Blk C g t cs := by
  refine (hg.block g h.lt (fun e => ?_)).trans h
  obtain ⟨_, o, ho, hc⟩ := hr g e.symm
  rw [show A.heap[g]? = some (.cells cs t (0, 0)) from h] at ho
  cases ho
  cases hc
theorem upd_own {B : Nat} {S : List Nat} {w A C : World} {row : Option Nat} (h : Upd S w A) (hB : w.heap.size ≤ B) (hg : A.grownBy C row)
    (hr : ∀ r, row = some r → B ≤ r ∧ ∃ o : Obj, A.heap[r]? = some o ∧ o.isCells = false) : Upd S w C :=
  h.grown hg (fun k e => .inr (Nat.le_trans hB (hr k e).1))
theorem Kept.own {B : Nat} {w A C : World} {row : Option Nat} {t B0 Bt Bp : Nat} {pid : Int} {T : List PS} (h : Kept w A t B0 Bt Bp pid T) (hB : w.heap.size ≤ B) (hg : A.grownBy C row)
    (hr : ∀ r, row = some r → B ≤ r ∧ ∃ o : Obj, A.heap[r]? = some o ∧ o.isCells = false) : Kept w C t B0 Bt Bp pid T :=
  ⟨⟨blk_own h.tab.1 hg hr, h.tab.2⟩, blk_own h.b0 hg hr, blk_own h.bt hg hr, blk_own h.bp hg hr, upd_own h.upd hB hg hr⟩
theorem keeps_of_upd {B : Nat} {S : List Nat} {A C : World} (h : Upd S A C) (hS : ∀ s, s ∈ S → ∃ cs t, Blk A s t cs) : KeepsFrom B A C :=
  ⟨h.size, fun k o _ hk ho => by
    refine (h.block k (Array.getElem?_eq_some_iff.1 hk).1 (fun hm => ?_)).trans hk
    obtain ⟨cs, t, hb⟩ := hS k hm
    rw [show A.heap[k]? = some (.cells cs t (0, 0)) from hb] at hk
    cases hk
    cases ho⟩

def orphs (T : List PS) (pre : List Nat) : List PS := pre.foldl orph T
theorem orphs_snoc (T : List PS) (pre : List Nat) (x : Nat) : orphs T (pre ++ [x]) = orph (orphs T pre) x := by simp [orphs]
theorem orphs_seen (T : List PS) (pid : Int) : ∀ m, orphs T (seen (orphs T) pid m) = orphTo T pid m := by
  intro m
  induction m with
  | zero => rfl
  | succ m ih =>
    cases hk : kidB (orphTo T pid m) pid (m + 1) with
    | true => rw [orphTo_yes hk, seen_yes (by rw [ih]; exact hk), orphs_snoc, ih]
    | false => rw [orphTo_no hk, seen_no (by rw [ih]; exact hk), ih]


theorem kept_put {W : World} {D : Nat} {o : Obj} {g : Nat} {t : TypeId} {cs : Array Value} (h : Blk W g t cs) {o1 : Obj} (hK : W.heap[D]? = some o1) (ho : o1.isCells = false) : Blk (W.putObj D o) g t cs :=
  blk_own (B := 0) h (grownBy_putObj' W D o) (fun r e => by cases e; exact ⟨Nat.zero_le _, o1, hK, ho⟩)
theorem upd_put {w W : World} {S : List Nat} {D : Nat} (h : Upd S w W) (o : Obj) (hD : w.heap.size ≤ D) : Upd S w (W.putObj D o) :=
  h.grown (grownBy_putObj' W D o) (fun k e => by cases e; exact .inr hD)

end Go.Proofs.Ytogiegehkhnlmaa
