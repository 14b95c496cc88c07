/- The program's row of mappings, and how one is taken out of it (slices.Delete). -/
import Derived.Test.YtefjppebohnmjaaTlbB
import Derived.Deep.AppendSrc
import Derived.Deep.RegionLaw
namespace Go.Proofs.Ytefjppebohnmjaa
open Go.RowKit Go.Shelf

def flatM (L : List Mp) : List Value := L.flatMap encM
theorem flatM_length (L : List Mp) : (flatM L).length = L.length * 4 := by
  induction L with
  | nil => rfl
  | cons m L ih => unfold flatM at *; rw [List.flatMap_cons, List.length_append, ih, encM_length]; simp; omega
theorem flatM_append (L K : List Mp) : flatM (L ++ K) = flatM L ++ flatM K := by unfold flatM; rw [List.flatMap_append]
theorem flatM_one (L : List Mp) : ∀ v, v ∈ flatM L → v.oneCell' = true := by
  intro v hv
  unfold flatM at hv
  rw [List.mem_flatMap] at hv
  obtain ⟨m, _, hm⟩ := hv
  simp [encM] at hm
  rcases hm with rfl | rfl | rfl | rfl <;> rfl
theorem flatM_get : ∀ (L : List Mp) (j i : Nat) (m : Mp) (v : Value), L[j]? = some m → (encM m)[i]? = some v → (flatM L)[j * 4 + i]? = some v := by
  intro L
  induction L with
  | nil => intro j i m v h; simp at h
  | cons x L ih =>
    intro j i m v h hv
    unfold flatM
    rw [List.flatMap_cons]
    have hi : i < 4 := (List.getElem?_eq_some_iff.1 hv).1
    cases j with
    | zero =>
      simp at h
      subst h
      rw [List.getElem?_append_left (by rw [encM_length]; omega), Nat.zero_mul, Nat.zero_add]
      exact hv
    | succ j =>
      rw [List.getElem?_append_right (by rw [encM_length]; omega), encM_length, show (j + 1) * 4 + i - 4 = j * 4 + i by omega]
      exact ih j i m v (by simpa using h) hv
def MapT : TypeId := 24
/-- Block g is a row of room for cap mappings that begins with L. -/
def RowAt (w : World) (g cap : Nat) (L : List Mp) : Prop :=
  ∃ cur : List Value, Blk w g MapT cur.toArray ∧ L.length ≤ cap ∧ cap ≤ maxLen ∧ cur.length = cap * 4 ∧ cur.take (L.length * 4) = flatM L
theorem RowAt.upd {w w' : World} {g cap : Nat} {L : List Mp} {S : List Nat} (h : RowAt w g cap L) (hu : Upd S w w') (hS : g ∉ S) : RowAt w' g cap L := by
  obtain ⟨cur, hb, h1, h2, h3, h4⟩ := h
  exact ⟨cur, hb.upd hu hS, h1, h2, h3, h4⟩
theorem RowAt.reads {w : World} {g cap : Nat} {L : List Mp} (h : RowAt w g cap L) : Reads w (some ⟨g, 0, none⟩) L := by
  obtain ⟨cur, hb, h1, h2, h3, h4⟩ := h
  intro _
  refine ⟨g, 0, rfl, fun j m hj i v hv => hb.cellAt ?_⟩
  have hjl : j < L.length := (List.getElem?_eq_some_iff.1 hj).1
  have hi : i < 4 := (List.getElem?_eq_some_iff.1 hv).1
  have := flatM_get L j i m v hj hv
  rw [← h4, List.getElem?_take, if_pos (by omega)] at this
  simpa using this

theorem info_map2 : ∃ d, Try.prog.info? MapT = some d ∧ d.size = 4 := by
  have := info_map
  cases h : Try.prog.info? MapT with
  | none => rw [show Try.prog.info? 24 = none from h] at this; cases this
  | some d =>
    rw [show Try.prog.info? 24 = some d from h] at this
    exact ⟨d, rfl, by simpa using this⟩
theorem under_maps : Try.prog.underlying 39 = some (.slice MapT) := by kernel_rfl
theorem run_append_row (w : World) (g i cap n c : Nat) (a : Addr) (cur news : List Value) (hg : Blk w g MapT cur.toArray) (hs : Src Try.prog 4 39 (.slice (some a) n c) n news w) (hroom : i + n ≤ cap) (hfit : cur.length = cap * 4) (ty : TypeId) :
    (Builtin.append_ #[39, 39] ty #[.slice (some ⟨g, 0, none⟩) i cap, .slice (some a) n c]).run Try.prog w =
      .ok (.slice (some ⟨g, 0, none⟩) (i + n) cap) (w.setRow g (cur.take (i * 4) ++ news ++ cur.drop (i * 4 + news.length)).toArray) := by
  obtain ⟨d, hd, hd4⟩ := info_map2
  have hst := run_storeCells_at (P := Try.prog) g (i * 4) MapT news 0 cur.toArray w hg (by have := hs.newsLen; simp; omega) hs.one
  simp only [Nat.add_zero] at hst
  simp [Builtin.append_, run_underlying under_maps, sizeOf, typeInfo, hd, hs.len, hroom, hs.cells, Addr.add_lit, hd4, hst]
theorem zero_map (w : World) : (zeroValue MapT).run Try.prog w = .ok (.agg #[.int .u8 0, .int .u8 0, .int .u8 0, .bool false]) w := by kernel_rfl
theorem run_clear_row (w : World) (g o n c : Nat) (cur : List Value) (hg : Blk w g MapT cur.toArray) (hn : 0 < n) (hfit : o * 4 + n * 4 ≤ cur.length) :
    ∃ zs : List Value, zs.length = n * 4 ∧ ∀ ty : TypeId, (Builtin.clear_ #[39] ty #[.slice (some ⟨g, o * 4, none⟩) n c]).run Try.prog w = .ok (.tuple #[]) (w.setRow g (cur.take (o * 4) ++ zs ++ cur.drop (o * 4 + zs.length)).toArray) := by
  refine ⟨(Builtin.zeroCells #[.int .u8 0, .int .u8 0, .int .u8 0, .bool false] n).toList, ?_, ?_⟩
  · simp [Builtin.zeroCells]
  · intro ty
    have hst := run_storeCells_at (P := Try.prog) g (o * 4) MapT (Builtin.zeroCells #[.int .u8 0, .int .u8 0, .int .u8 0, .bool false] n).toList 0 cur.toArray w hg (by simp [Builtin.zeroCells]; omega) (by
      intro v hv
      simp [Builtin.zeroCells] at hv
      obtain ⟨a, _, rfl⟩ := hv
      rcases (show a % 4 = 0 ∨ a % 4 = 1 ∨ a % 4 = 2 ∨ a % 4 = 3 by omega) with h | h | h | h <;> rw [h] <;> rfl)
    obtain ⟨m, rfl⟩ : ∃ m, n = m + 1 := ⟨n - 1, by omega⟩
    simp only [Nat.add_zero] at hst
    simp [Builtin.clear_, run_underlying under_maps, zero_map, Value.cells, hst]

/-- append, as one step of a region that draws. -/
theorem step_append {P : Program} {ops : Array Oper} {o : Oper} {a : Act} {w W' : World} {K : Act → World → Prop} {Q : Exit → Act → World → Prop} {E : Prop} {V : Value}
    (hg : o.guard = none) (s x : Operand) (t : TypeId) (hop : o.op = Op.call { callee := Callee.builtin Builtin.append, args := #[s, x], argTypes := #[t, t] })
    (hrun : ∀ ty, (Builtin.append_ #[t, t] ty #[a.eval s, a.eval x]).run P w = .ok V W') (hK : K (a.put o.dst V) W') :
    if Region.wanted o (yielded ops a.tmps) = true then Oper.wp P o a w K Q else E := by
  have hw : Region.wanted o (yielded ops a.tmps) = true := by simp [Region.wanted, hg]
  rw [if_pos hw]
  unfold Oper.wp
  simp [execOp, hop, resolve, invoke, builtin, hrun, Result.andThen]
  exact hK
theorem flatM_drop (L : List Mp) (k : Nat) : flatM (L.drop k) = (flatM L).drop (k * 4) := by
  by_cases h : k ≤ L.length
  · have e : flatM L = flatM (L.take k) ++ flatM (L.drop k) := by rw [← flatM_append, List.take_append_drop]
    rw [e]
    have : (flatM (L.take k)).length = k * 4 := by rw [flatM_length, List.length_take, Nat.min_eq_left h]
    rw [← this, List.drop_left]
  · rw [List.drop_eq_nil_of_le (by omega), List.drop_eq_nil_of_le (by rw [flatM_length]; omega)]
    rfl
theorem flatM_take (L : List Mp) (k : Nat) : flatM (L.take k) = (flatM L).take (k * 4) := by
  by_cases h : k ≤ L.length
  · have e : flatM L = flatM (L.take k) ++ flatM (L.drop k) := by rw [← flatM_append, List.take_append_drop]
    rw [e]
    have : (flatM (L.take k)).length = k * 4 := by rw [flatM_length, List.length_take, Nat.min_eq_left h]
    rw [← this, List.take_left]
  · rw [List.take_of_length_le (by omega), List.take_of_length_le (by rw [flatM_length]; omega)]
theorem row_take (cur news : List Value) (k : Nat) (h : k * 4 ≤ cur.length) : (cur.take (k * 4) ++ news ++ cur.drop (k * 4 + news.length)).take (k * 4 + news.length) = cur.take (k * 4) ++ news := by
  have e : (cur.take (k * 4) ++ news).length = k * 4 + news.length := by rw [List.length_append, List.length_take, Nat.min_eq_left h]
  rw [← e, List.take_left]

set_option maxRecDepth 100000 in
set_option maxHeartbeats 2000000 in
theorem delete_any (g cap : Nat) (L : List Mp) (i : Nat) (hi : i < L.length) (w : World) (h : RowAt w g cap L) :
    Calls Try.prog 35 #[.slice (some ⟨g, 0, none⟩) L.length cap, .int .i64 (i : Int), .int .i64 ((i : Int) + 1)] w fun e w' =>
      e = .returned (.slice (some ⟨g, 0, none⟩) (L.length - 1) cap) ∧ RowAt w' g cap (L.eraseIdx i) ∧ Upd [g] w w' := by
  obtain ⟨cur, hb, h1, h2, h3, h4⟩ := h
  obtain ⟨k, hn⟩ : ∃ k, L.length = k + 1 := ⟨L.length - 1, by omega⟩
  rw [hn] at hi h1 h4 ⊢
  rw [Nat.add_sub_cancel]
  have hsrc : ∃ a, (if cap = i + 1 then some (⟨g, 0, none⟩ : Addr) else some ⟨g, (i + 1) * 4, none⟩) = some a ∧ Src Try.prog 4 39 (.slice (some a) (k - i) (cap - (i + 1))) (k - i) (flatM (L.drop (i + 1))) w.drew := by
    have hlen : (flatM (L.drop (i + 1))).length = (k - i) * 4 := by rw [flatM_length, List.length_drop, hn]; congr 1; omega
    by_cases hc : cap = i + 1
    · refine ⟨⟨g, 0, none⟩, by rw [if_pos hc], Src.ofSlice _ under_maps _ _ _ _ hlen (fun j u hu => ?_) (flatM_one _)⟩
      have := (List.getElem?_eq_some_iff.1 hu).1
      omega
    · refine ⟨⟨g, (i + 1) * 4, none⟩, by rw [if_neg hc], Src.ofSlice _ under_maps _ _ _ _ hlen (fun j u hu => ?_) (flatM_one _)⟩
      rw [Addr.add_mid]
      refine hb.drew.cellAt ?_
      rw [flatM_drop, List.getElem?_drop, ← h4, List.getElem?_take] at hu
      split at hu
      · simpa using hu
      · cases hu
  obtain ⟨a, ha, hs⟩ := hsrc
  have hap : ∀ ty, (Builtin.append_ #[39, 39] ty #[.slice (some ⟨g, 0, none⟩) i cap, .slice (some a) (k - i) (cap - (i + 1))]).run Try.prog w.drew =
      .ok (.slice (some ⟨g, 0, none⟩) k cap) (w.drew.setRow g (cur.take (i * 4) ++ flatM (L.drop (i + 1)) ++ cur.drop (i * 4 + (flatM (L.drop (i + 1))).length)).toArray) := by
    intro ty
    have := run_append_row w.drew g i cap (k - i) (cap - (i + 1)) a cur _ hb.drew hs (by omega) h3 ty
    rw [show i + (k - i) = k by omega] at this
    exact this
  clear hs
  have hfl : (flatM (L.drop (i + 1))).length = (k - i) * 4 := by rw [flatM_length, List.length_drop, hn]; congr 1; omega
  have hpre : flatM (L.eraseIdx i) = cur.take (i * 4) ++ flatM (L.drop (i + 1)) := by
    rw [List.eraseIdx_eq_take_drop_succ, flatM_append, flatM_take, ← h4, List.take_take, Nat.min_eq_left (by omega)]
  have hel : (L.eraseIdx i).length = k := by rw [List.length_eraseIdx, if_pos (by omega), hn]; omega
  have hik : i * 4 ≤ cur.length := by omega
  have hcap : k ≠ cap := by omega
  generalize flatM (L.drop (i + 1)) = news at *
  obtain ⟨cur2, hcur2⟩ : ∃ cur2, cur2 = cur.take (i * 4) ++ news ++ cur.drop (i * 4 + news.length) := ⟨_, rfl⟩
  rw [← hcur2] at hap
  have hl2 : cur2.length = cap * 4 := by
    rw [hcur2]
    simp
    omega
  have ht2 : cur2.take (k * 4) = flatM (L.eraseIdx i) := by
    rw [hpre, hcur2]
    have := row_take cur news i hik
    rw [show i * 4 + news.length = k * 4 by omega] at this
    rw [show i * 4 + news.length = k * 4 by omega]
    exact this
  have HB := Lib.hid hb
  have HFIN : Hid (∀ zs : List Value, zs.length = 1 * 4 → RowAt ((w.drew.setRow g cur2.toArray).setRow g (cur2.take (k * 4) ++ zs ++ cur2.drop (k * 4 + zs.length)).toArray) g cap (L.eraseIdx i)) := Lib.hid (fun zs hz => by
    refine ⟨cur2.take (k * 4) ++ zs ++ cur2.drop (k * 4 + zs.length), (hb.drew.row cur2.toArray).row _, by omega, h2, ?_, ?_⟩
    · simp
      omega
    · rw [hel, List.append_assoc, List.take_append_of_le_length (by simp; omega), List.take_take, Nat.min_self]
      exact ht2)
  obtain ⟨zs, hz, hcl⟩ := run_clear_row (w.drew.setRow g cur2.toArray) g k 1 (cap - k) cur2 (hb.drew.row cur2.toArray) (by omega) (by omega)
  have hclr : ∀ ty, (Builtin.clear_ #[39] ty #[.slice (some ⟨g, k * 4, none⟩) 1 (cap - k)]).run Try.prog (w.drew.setRow g cur2.toArray) = .ok (.tuple #[]) ((w.drew.setRow g cur2.toArray).setRow g (cur2.take (k * 4) ++ zs ++ cur2.drop (k * 4 + zs.length)).toArray) := hcl
  have HZ := Lib.hid (HFIN.out zs hz)
  have i0 : (0 : Int) ≤ (i : Int) := by omega
  have i1 : (i : Int) + 1 ≤ (k : Int) + 1 := by omega
  have i2 : (k : Int) + 1 ≤ (cap : Int) := by omega
  have i3 : (i : Int) ≤ (k : Int) + 1 := by omega
  have i4 : (i : Int) ≤ (cap : Int) := by omega
  have i5 : (0 : Int) ≤ (i : Int) + 1 := by omega
  have i6 : (i : Int) ≤ (k : Int) := by omega
  unfold maxLen at h2
  clear hb h3 h4 hn hi h1 hfl hpre hel hik hcur2 hl2 ht2 HFIN hcl hz
  go_enter Try.func35, Try.ntmps35
  have HAP := Lib.hid hap
  clear hap
  go_wp2_with fail
  go_region_law (refine step_append rfl (.tmp 22) (.tmp 25) 39 rfl HAP.out ?_)
  go_wp2_with fail
  go_ret
  exact ⟨by simp, by have := HZ.out; rw [List.append_assoc] at this; exact this, ((((Upd.refl [g] w).drew).setRow (by simp) _).setRow (by simp) _)⟩

end Go.Proofs.Ytefjppebohnmjaa
