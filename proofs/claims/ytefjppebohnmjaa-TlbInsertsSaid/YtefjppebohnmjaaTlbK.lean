/- The reference's cut. -/
import Derived.Test.YtefjppebohnmjaaTlbJ
namespace Go.Proofs.Ytefjppebohnmjaa
open Go.RowKit Go.Shelf

theorem RowAt.xs_take {w : World} {g cap : Nat} {L : List Mp} (h : RowAt w g cap L) (i c : Nat) (hi : i ≤ L.length) : Xs w (.slice (some ⟨g, 0, none⟩) i c) i (L.take i) := by
  obtain ⟨cur, hb, h1, h2, h3, h4⟩ := h
  refine ⟨by rw [List.length_take]; omega, .inl ⟨_, _, rfl, fun j u hu => ?_⟩⟩
  rw [Addr.add_mid]
  refine hb.cellAt ?_
  rw [flatM_take, ← h4, List.getElem?_take] at hu
  split at hu
  · rw [List.getElem?_take] at hu
    split at hu
    · simpa using hu
    · cases hu
  · cases hu
theorem RowAt.xs_drop {w : World} {g cap : Nat} {L : List Mp} (h : RowAt w g cap L) (i : Nat) (hi : i < L.length) : ∃ a, (if cap = i + 1 then some (⟨g, 0, none⟩ : Addr) else some ⟨g, (i + 1) * 4, none⟩) = some a ∧ a.block = g ∧
    ∀ c, Xs w (.slice (some a) (L.length - (i + 1)) c) (L.length - (i + 1)) (L.drop (i + 1)) := by
  obtain ⟨cur, hb, h1, h2, h3, h4⟩ := h
  have hlen : (flatM (L.drop (i + 1))).length = (L.length - (i + 1)) * 4 := by rw [flatM_length, List.length_drop]
  by_cases hc : cap = i + 1
  · refine ⟨⟨g, 0, none⟩, by rw [if_pos hc], rfl, fun c => ⟨by rw [List.length_drop], .inl ⟨_, _, rfl, fun j u hu => ?_⟩⟩⟩
    have := (List.getElem?_eq_some_iff.1 hu).1
    omega
  · refine ⟨⟨g, (i + 1) * 4, none⟩, by rw [if_neg hc], rfl, fun c => ⟨by rw [List.length_drop], .inl ⟨_, _, rfl, fun j u hu => ?_⟩⟩⟩
    rw [Addr.add_mid]
    refine hb.cellAt ?_
    rw [flatM_drop, List.getElem?_drop, ← h4, List.getElem?_take] at hu
    split at hu
    · simpa using hu
    · cases hu

theorem res_c {fn : Func} {p : Tmp} (h : fn.results = #[.cell p 24]) (tmps : Array Value) (w : World) (g : Nat) (m : Mp) (hp : tmps.getD p undef = .pointer (some ⟨g, 0, none⟩)) (hg : Blk w g MapT (encM m).toArray) :
    (results fn tmps).run Try.prog w = .ok (.agg (encM m).toArray) w := results_cell_row h tmps w g MapT _ _ _ hp hg under_map rfl info_map

set_option maxRecDepth 100000 in
set_option maxHeartbeats 4000000 in
theorem cut_any (t : Nat) (own : List Nat) (L : List Mp) (w : World) (h : At RefT w t own L) (i : Nat) (m : Mp) (hm : L[i]? = some m) :
    Calls Try.prog 44 #[.pointer (some ⟨t, 0, none⟩), .int .i64 (i : Int)] w fun e w' =>
      ∃ own', e = .returned (.agg (encM m).toArray) ∧ At RefT w' t own' (L.eraseIdx i) ∧ (∀ g, g ∈ own' → w.heap.size ≤ g) ∧ Upd [t] w w' := by
  obtain ⟨A, cap, hb, hr0, _, hl⟩ := h
  have hil : i < L.length := (List.getElem?_eq_some_iff.1 hm).1
  obtain ⟨g, rfl, hr⟩ : ∃ g, A = some ⟨g, 0, none⟩ ∧ RowAt w g cap L := by
    rcases hr0 with ⟨_, _, rfl⟩ | hr0
    · simp at hil
    · exact hr0
  clear hr0
  have htl := hb.lt
  have hgl := hr.lt
  obtain ⟨b, o, hbo, hcs⟩ := hr.reads (by omega)
  simp at hbo
  obtain ⟨rfl, rfl⟩ := hbo
  have hra := hcs i m hm
  rw [Nat.zero_add] at hra
  obtain ⟨a, ha, hab, hxd⟩ := hr.xs_drop i hil
  have hxt := hr.xs_take i cap (by omega)
  have i0 : (0 : Int) ≤ (i : Int) := by omega
  have i1 : (i : Int) < (L.length : Int) := by omega
  have i2 : (i : Int) ≤ (cap : Int) := by obtain ⟨_, _, h1, _⟩ := hr; omega
  have i3 : (L.length : Int) ≤ (cap : Int) := by obtain ⟨_, _, h1, _⟩ := hr; omega
  have i4 : (i : Int) + 1 ≤ (L.length : Int) := by omega
  have i5 : (0 : Int) ≤ (i : Int) + 1 := by omega
  have hcm : cap ≤ maxLen := by obtain ⟨_, _, _, h1, _⟩ := hr; exact h1
  unfold maxLen at hcm
  have HFL := Lib.hid (show L.take i ++ L.drop (i + 1) = L.eraseIdx i from (List.eraseIdx_eq_take_drop_succ _ _).symm)
  have HEL := Lib.hid (show (L.eraseIdx i).length = i + (L.length - (i + 1)) by rw [List.length_eraseIdx, if_pos hil]; omega)
  have HTK := Lib.hid (show (L.take i).length = i by rw [List.length_take]; omega)
  have HXD := Lib.hid hxd
  have HXT := Lib.hid hxt
  have HAB := Lib.hid hab
  have HBT := Lib.hid hb
  have HTG := Lib.hid (show t ≠ g by obtain ⟨_, hgb, _⟩ := hr; exact hb.ne_ hgb (by decide))
  have hu0 := ((Upd.refl [] w).alloc (.cells #[.int .u8 0, .int .u8 0, .int .u8 0, .bool false] 24)).alloc (.cells #[.int .u8 0, .int .u8 0, .int .u8 0, .bool false] 24)
  have hb4 := (Blk.new w MapT (encM mz).toArray).alloc (.cells #[.int .u8 0, .int .u8 0, .int .u8 0, .bool false] 24)
  have hb5 := Blk.new (w.alloc (.cells #[.int .u8 0, .int .u8 0, .int .u8 0, .bool false] 24)) MapT (encM mz).toArray
  rw [World.size_alloc] at hb5
  have hra1 : (w.alloc (.cells #[.int .u8 0, .int .u8 0, .int .u8 0, .bool false] 24)).rangeAt g (i * 4) (encM m) := fun j v hv => ((Upd.refl [] w).alloc _).cellAt (hra j v hv) (by simp)
  have hc := hb.cellAt (i := 0) rfl
  simp only [List.getElem_toArray, List.getElem_cons_zero] at hc
  have HU0 := Lib.hid hu0
  generalize L.length = n at *
  clear hra hxt hxd hab hr hb hm hcs hu0 hil
  go_enter Try.func44, Try.ntmps44
  go_wp2_with (first
    | (refine wpList_load_map rfl _ rfl g (i * 4) m rfl hra1 ?_)
    | (refine wpList_store_map rfl _ _ rfl (w.heap.size + 1) m mz rfl rfl hb5 ?_; intro w2 hb52 hu2))
  have hbt2 := ((HBT.out.alloc (.cells #[.int .u8 0, .int .u8 0, .int .u8 0, .bool false] 24)).alloc (.cells #[.int .u8 0, .int .u8 0, .int .u8 0, .bool false] 24)).upd hu2 (by simp; omega)
  have HU2 := Lib.hid (HU0.out.trans hu2 (by intro s hs; simp at hs; right; omega))
  have XT := Lib.hid ((HXT.out.upd HU2.out (by simp)).upd (((Upd.refl [] w2).alloc (.cells #[] MapT)).drew) (by simp))
  have XD := Lib.hid (fun c => ((HXD.out c).upd HU2.out (by simp)).upd (((Upd.refl [] w2).alloc (.cells #[] MapT)).drew) (by simp))
  have hlt4 := HU2.out.size
  have HB52 := Lib.hid hb52
  have HB42 := Lib.hid (hb4.upd hu2 (by simp))
  have hgl2 : g < w2.heap.size := by omega
  have htl2 : t < w2.heap.size := by omega
  have HBT2 := Lib.hid hbt2
  have hc2 := hbt2.drew.cellAt (i := 0) rfl
  have hc3 := (hbt2.alloc (.cells #[] 24)).drew.cellAt (i := 0) rfl
  simp only [List.getElem_toArray, List.getElem_cons_zero] at hc2 hc3
  have hwr : IntKind.i64.wrap ((i : Int) + 1) = (i : Int) + 1 := by rw [IntKind.wrap_i64]; omega
  have htn : ((i : Int) + 1).toNat = i + 1 := by omega
  have HB3 := Lib.hid (hbt2.alloc (.cells #[] MapT)).drew
  have HT1 : Hid (∀ {A1 : Option Addr}, (∀ g, g ∈ ownA A1 → g ∈ ownA (some (⟨w2.heap.size, 0, none⟩ : Addr)) ∨ ((w2.alloc (.cells #[] MapT)).drew).heap.size ≤ g) → t ∉ ownA A1) := Lib.hid (fun ho hg => by
    rcases ho t hg with h | h
    · simp [ownA] at h; omega
    · simp at h; omega)
  clear hbt2 hb52 hb4 hb5 hu2 hc hra1 HU0 HXT HXD HBT
  go_region_law (first
    | (refine step_app rfl (.tmp 14) (.tmp 20) rfl (some ⟨w2.heap.size, 0, none⟩) 0 0 [] rfl rfl (Row.new w2).drew (.slice (some ⟨g, 0, none⟩) i cap) rfl i (L.take i) XT.out (by omega) ?_; intro A1 cap1 W1 hr1 hu1 ho1; rw [Nat.zero_add]; have hc4 := hu1.cellAt hc3 (by simp [ownA]; omega); have HR1 := Lib.hid hr1; have HU1 := Lib.hid hu1; have HO1 := Lib.hid ho1; clear hr1 hu1 ho1)
    | (refine step_app rfl (.tmp 21) (.tmp 28) rfl A1 i cap1 (L.take i) HTK.out rfl HR1.out (.slice (some a) (n - (i + 1)) (cap - (i + 1))) rfl (n - (i + 1)) (L.drop (i + 1)) ((XD.out _).upd HU1.out (by intro a' c' e _; injection e with e1; injection e1 with e1; subst e1; rw [HAB.out]; simp [ownA]; omega)) (by omega) ?_; intro A2 cap2 W2 hr2 hu2 ho2; have hts := HT1.out HO1.out; have hb7 := ((HB3.out.upd HU1.out (by simp [ownA]; omega)).upd hu2 hts); have hc7 := hb7.cellAt (i := 0) rfl; have hf7 := hb7.frozen 0; have HR2 := Lib.hid hr2; have HU3 := Lib.hid hu2; have HO2 := Lib.hid ho2; have HB7 := Lib.hid hb7; clear hr2 hu2 ho2 hb7 hts))
  all_goals
    have hU : Upd [] w2 W2 := ((((Upd.refl [] w2).alloc (.cells #[] MapT)).drew).trans HU1.out (by intro s hs; simp [ownA] at hs; right; omega)).trans HU3.out (by
      intro s hs
      right
      rcases HO1.out s hs with h | h
      · simp [ownA] at h; omega
      · simp at h; omega)
    have hUt : Upd [t] w2 (W2.setCell ⟨t, 0, none⟩ (.slice A2 (i + (n - (i + 1))) cap2)) := (hU.zero [t]).setCell (.inl (by simp)) _
    have hx5 := HB52.out.upd hUt (by simp; omega)
    have hx4 := HB42.out.upd hUt (by simp; omega)
    have hy5 := blk_range hx5
    have htA : t ∉ ownA A2 := by
      intro hg
      rcases HO2.out t hg with h | h
      · exact HT1.out HO1.out h
      · have := hU.size; have := HU3.out.size; have := HU1.out.size; simp at this; omega
    have hO2 : ∀ g, g ∈ ownA A2 → w2.heap.size ≤ g := by
      intro k hk
      rcases HO2.out k hk with h | h
      · rcases HO1.out k h with h | h
        · simp [ownA] at h; omega
        · simp at h; omega
      · have := HU1.out.size; simp at this; omega
    have hat : At RefT (W2.setCell ⟨t, 0, none⟩ (.slice A2 (i + (n - (i + 1))) cap2)) t (ownA A2) (L.eraseIdx i) :=
      ⟨A2, cap2, by rw [HEL.out]; exact HB7.out.set_ 0 _, by
        rw [← HFL.out]
        exact HR2.out.upd ((Upd.refl [t] W2).setCell (.inl (by simp)) _) (by intro k hk hkt; simp at hkt; subst hkt; exact htA hk), rfl, by rw [HEL.out]; omega⟩
    have HAT := Lib.hid hat
    have HUT := Lib.hid hUt
    have HO3 := Lib.hid hO2
    clear hat hU hUt htA hO2 hx5
    go_wp2_with (first
      | (refine wpList_load_map rfl _ rfl (w.heap.size + 1) 0 m rfl hy5 ?_)
      | (refine wpList_store_map rfl _ _ rfl w.heap.size m mz rfl rfl hx4 ?_; intro w6 hb6 hu6))
    refine bodyPost_ret (res_c rfl _ _ w.heap.size m rfl hb6) rfl ?_
    have hw2 : w.heap.size < w2.heap.size := HB42.out.lt
    refine ⟨ownA A2, rfl, HAT.out.upd hu6 (by simp; omega) (by intro k hk hks; have := HO3.out k hk; simp at hks; omega), (by intro k hk; have := HO3.out k hk; omega), ((HU2.out.zero [t]).trans HUT.out (by intro s hs; exact .inl hs)).trans hu6 (by intro s hs; simp at hs; right; omega)⟩

end Go.Proofs.Ytefjppebohnmjaa
