/- The reference's Drop, Asid, Frame. -/
import Derived.Test.YtefjppebohnmjaaTlbN
namespace Go.Proofs.Ytefjppebohnmjaa
open Go.RowKit Go.Shelf

def dropL (a p : Nat) (L : List Mp) : List Mp := match L.findIdx? (isAt a p) with | some i => L.eraseIdx i | none => L

set_option maxRecDepth 100000 in
set_option maxHeartbeats 2000000 in
theorem rdrop_any (t : Nat) (own : List Nat) (L : List Mp) (w : World) (h : At RefT w t own L) (a p : Nat) :
    Calls Try.prog 37 #[.pointer (some ⟨t, 0, none⟩), .int .u8 a, .int .u8 p] w (Chg RefT t own w (.bool (L.findIdx? (isAt a p)).isSome) (dropL a p L)) := by
  have HA := Lib.hid h
  have HAt := Lib.hid (rat_any t own L w h a p)
  rw [idx_def] at HAt
  unfold dropL
  clear h
  cases hq : L.findIdx? (isAt a p) with
  | none =>
    rw [hq] at HAt
    simp only at HAt
    clear hq
    go_enter Try.func37, Try.ntmps37
    go_wp2_with fail
    refine HAt.out.mono ?_; rintro e w1 ⟨rfl, hu1⟩
    have HU1 := Lib.hid hu1
    clear hu1
    go_wp2_with fail
    go_ret
    exact ⟨own, by simp, HA.out.upd0 HU1.out, fun g hg => .inl hg, HU1.out.zero _⟩
  | some i =>
    rw [hq] at HAt
    simp only at HAt
    obtain ⟨m, hm, _⟩ := findIdx_spec _ L i hq
    have HC := Lib.hid (fun W (hW : At RefT W t own L) => cut_any t own L W hW i m hm)
    have i0 : (0 : Int) ≤ (i : Int) := by omega
    clear hq hm
    go_enter Try.func37, Try.ntmps37
    go_wp2_with fail
    refine HAt.out.mono ?_; rintro e w1 ⟨rfl, hu1⟩
    have HU1 := Lib.hid hu1
    clear hu1
    go_wp2_with fail
    refine (HC.out w1 (HA.out.upd0 HU1.out)).mono ?_; rintro e w2 ⟨own', rfl, h1, h2, h3⟩
    have H1 := Lib.hid h1
    have H2 := Lib.hid h2
    have H3 := Lib.hid h3
    clear h1 h2 h3
    go_wp2_with fail
    go_ret
    exact ⟨own', by simp, H1.out, fun g hg => .inr (Nat.le_trans HU1.out.size (H2.out g hg)), (HU1.out.zero _).trans H3.out (by intro s hs; left; simp at hs; simp [hs])⟩

/-- What a loop has made of L when j have been looked at. -/
def midL (pr : Mp → Bool) (L : List Mp) (j : Nat) : List Mp := keepL pr (L.take j) ++ L.drop j
theorem midL_get (pr : Mp → Bool) (L : List Mp) (j : Nat) (m : Mp) (hm : L[j]? = some m) : (midL pr L j)[(keepL pr (L.take j)).length]? = some m := by
  unfold midL
  rw [List.getElem?_append_right (Nat.le_refl _), Nat.sub_self, List.getElem?_drop, Nat.add_zero]
  exact hm
theorem midL_yes (pr : Mp → Bool) (L : List Mp) (j : Nat) (m : Mp) (hm : L[j]? = some m) (hp : pr m = true) : (midL pr L j).eraseIdx (keepL pr (L.take j)).length = midL pr L (j + 1) ∧ (keepL pr (L.take (j + 1))).length = (keepL pr (L.take j)).length := by
  have hd : L.drop j = m :: L.drop (j + 1) := by
    have hj := (List.getElem?_eq_some_iff.1 hm)
    obtain ⟨hj, he⟩ := hj
    rw [← he]
    exact List.drop_eq_getElem_cons hj
  unfold midL
  rw [keepL_take hm, hp, if_pos rfl, List.append_nil, List.eraseIdx_append_of_length_le (Nat.le_refl _), Nat.sub_self, hd]
  exact ⟨rfl, rfl⟩
theorem midL_no (pr : Mp → Bool) (L : List Mp) (j : Nat) (m : Mp) (hm : L[j]? = some m) (hp : pr m = false) : midL pr L j = midL pr L (j + 1) ∧ (keepL pr (L.take (j + 1))).length = (keepL pr (L.take j)).length + 1 := by
  have hd : L.drop j = m :: L.drop (j + 1) := by
    have hj := (List.getElem?_eq_some_iff.1 hm)
    obtain ⟨hj, he⟩ := hj
    rw [← he]
    exact List.drop_eq_getElem_cons hj
  unfold midL
  rw [keepL_take hm, hp, hd]
  simp
theorem midL_len (pr : Mp → Bool) (L : List Mp) (j : Nat) (_hj : j ≤ L.length) : (midL pr L j).length = (keepL pr (L.take j)).length + (L.length - j) := by
  unfold midL
  rw [List.length_append, List.length_drop]

set_option maxRecDepth 100000 in
set_option maxHeartbeats 4000000 in
theorem rasid_any (t : Nat) (own : List Nat) (L : List Mp) (w : World) (h : At RefT w t own L) (a : Nat) :
    Calls Try.prog 38 #[.pointer (some ⟨t, 0, none⟩), .int .u8 a] w (Chg RefT t own w (.int .i64 ((L.length - (keepL (fun m => decide (m.a = a)) L).length : Nat) : Int)) (keepL (fun m => decide (m.a = a)) L)) := by
  have hl : L.length ≤ 8 := by obtain ⟨_, _, _, _, _, hl⟩ := h; exact hl
  have HA := Lib.hid h
  have hlt := h.lt
  have hol := h.ownlt
  generalize hpr : (fun m : Mp => decide (m.a = a)) = pr at *
  have HPR := Lib.hid hpr
  generalize hn : L.length = n at *
  have HN := Lib.hid hn
  clear h hpr hn
  go_enter Try.func38, Try.ntmps38
  go_wp2_with fail
  go_loopw [5, 6] (fun vc vi wr => ∃ (j i c : Nat) (own' : List Nat), j ≤ n ∧ vc = .int .i64 (c : Int) ∧ vi = .int .i64 (i : Int) ∧ i = (keepL pr (L.take j)).length ∧ i + c = j ∧ At RefT wr t own' (midL pr L j) ∧ (∀ g, g ∈ own' → g ∈ own ∨ w.heap.size ≤ g) ∧ Upd (t :: own) w wr ∧ (midL pr L j).length = i + (n - j)) (fun vc vi _ => n - (intOf vc).toNat - (intOf vi).toNat)
  case atStart => exact ⟨0, 0, 0, own, by omega, rfl, rfl, by simp [keepL], rfl, (by unfold midL; simp [keepL]; exact HA.out), fun g hg => .inl hg, Upd.refl _ _, by unfold midL; simp [keepL, HN.out]⟩
  case round =>
    obtain ⟨j, i, c, own', hj, rfl, rfl, hi, hic, hat, hown, hu, hlen⟩ := hrel
    obtain ⟨A, cap, hb, hr, _, hle⟩ := hat
    rw [hlen] at hb
    have HAT := Lib.hid (show At RefT wr t own' (midL pr L j) from ⟨A, cap, by rw [hlen]; exact hb, hr, by assumption, hle⟩)
    have HO := Lib.hid hown
    have HU := Lib.hid hu
    have HI := Lib.hid hi
    have HLEN := Lib.hid hlen
    have hc := hb.cellAt (i := 0) rfl
    simp only [List.getElem_toArray, List.getElem_cons_zero] at hc
    have i0 : (0 : Int) ≤ (i : Int) := by omega
    by_cases hlt2 : j < n
    · obtain ⟨m, hm⟩ : ∃ m, L[j]? = some m := ⟨_, List.getElem?_eq_getElem (by rw [HN.out]; exact hlt2)⟩
      have hmm := midL_get pr L j m hm
      rw [← hi] at hmm
      obtain ⟨b, o, hbo, hcs⟩ := hr.reads (by rw [hlen]; omega)
      subst hbo
      have ha0 := hcs i m hmm 0 _ rfl
      rw [Nat.add_zero] at ha0
      have i1 : (i : Int) < ((i + (n - j) : Nat) : Int) := by omega
      have HCUT := Lib.hid (fun W (hW : At RefT W t own' (midL pr L j)) => cut_any t own' (midL pr L j) W hW i m hmm)
      have HM := Lib.hid hm
      clear hi hlen hb hr hown hu hcs hm hmm
      by_cases h1 : m.a = a
      · have j1 : (m.a : Int) = (a : Int) := by omega
        have HQ := Lib.hid (show pr m = true by rw [← HPR.out]; simp [h1])
        clear h1
        go_wp2_with fail
        refine (HCUT.out wr HAT.out).mono ?_; rintro e w2 ⟨own2, rfl, h1, h2, h3⟩
        have H1 := Lib.hid h1
        have H2 := Lib.hid h2
        have H3 := Lib.hid h3
        clear h1 h2 h3
        go_wp2_with fail
        go_roundw
        case rel =>
          have hy := midL_yes pr L j m HM.out HQ.out
          rw [← HI.out] at hy
          refine ⟨j + 1, i, c + 1, own2, by omega, by go_num, rfl, hy.2.symm, by omega, (by rw [← hy.1]; exact H1.out), fun g hg => .inr (Nat.le_trans HU.out.size (H2.out g hg)), HU.out.trans H3.out (by intro s hs; left; simp at hs; simp [hs]), ?_⟩
          rw [midL_len _ _ _ (by rw [HN.out]; omega), HN.out, hy.2]
        case measure => simp [intOf]; omega
      · have j1 : ¬ (m.a : Int) = (a : Int) := by omega
        have HQ := Lib.hid (show pr m = false by rw [← HPR.out]; simp [h1])
        clear h1
        go_wp2_with fail
        go_roundw
        case rel =>
          have hy := midL_no pr L j m HM.out HQ.out
          rw [← HI.out] at hy
          refine ⟨j + 1, i + 1, c, own', by omega, rfl, by go_num, hy.2.symm, by omega, (by rw [← hy.1]; exact HAT.out), HO.out, HU.out, ?_⟩
          rw [midL_len _ _ _ (by rw [HN.out]; omega), HN.out, hy.2]
        case measure => simp [intOf]; omega
    · obtain rfl : j = n := by omega
      have hnj : i + (j - j) = i := by omega
      rw [hnj] at hc
      clear hb hr hu hown hlen
      go_wp2_with fail
      go_ret
      have hk : midL pr L j = keepL pr L := by
        unfold midL
        rw [List.take_of_length_le (by rw [HN.out]; exact Nat.le_refl _), List.drop_eq_nil_of_le (by rw [HN.out]; exact Nat.le_refl _), List.append_nil]
      have hkl : keepL pr (L.take j) = keepL pr L := by rw [List.take_of_length_le (by rw [HN.out]; exact Nat.le_refl _)]
      have hi := HI.out
      rw [hkl] at hi
      refine ⟨own', ?_, by rw [← hk]; exact HAT.out, HO.out, HU.out⟩
      simp
      omega

set_option maxRecDepth 100000 in
set_option maxHeartbeats 4000000 in
theorem rframe_any (t : Nat) (own : List Nat) (L : List Mp) (w : World) (h : At RefT w t own L) (a : Nat) :
    Calls Try.prog 39 #[.pointer (some ⟨t, 0, none⟩), .int .u8 a] w (Chg RefT t own w (.int .i64 ((L.length - (keepL (fun m => decide (m.f = a)) L).length : Nat) : Int)) (keepL (fun m => decide (m.f = a)) L)) := by
  have hl : L.length ≤ 8 := by obtain ⟨_, _, _, _, _, hl⟩ := h; exact hl
  have HA := Lib.hid h
  have hlt := h.lt
  have hol := h.ownlt
  generalize hpr : (fun m : Mp => decide (m.f = a)) = pr at *
  have HPR := Lib.hid hpr
  generalize hn : L.length = n at *
  have HN := Lib.hid hn
  clear h hpr hn
  go_enter Try.func39, Try.ntmps39
  go_wp2_with fail
  go_loopw [5, 6] (fun vc vi wr => ∃ (j i c : Nat) (own' : List Nat), j ≤ n ∧ vc = .int .i64 (c : Int) ∧ vi = .int .i64 (i : Int) ∧ i = (keepL pr (L.take j)).length ∧ i + c = j ∧ At RefT wr t own' (midL pr L j) ∧ (∀ g, g ∈ own' → g ∈ own ∨ w.heap.size ≤ g) ∧ Upd (t :: own) w wr ∧ (midL pr L j).length = i + (n - j)) (fun vc vi _ => n - (intOf vc).toNat - (intOf vi).toNat)
  case atStart => exact ⟨0, 0, 0, own, by omega, rfl, rfl, by simp [keepL], rfl, (by unfold midL; simp [keepL]; exact HA.out), fun g hg => .inl hg, Upd.refl _ _, by unfold midL; simp [keepL, HN.out]⟩
  case round =>
    obtain ⟨j, i, c, own', hj, rfl, rfl, hi, hic, hat, hown, hu, hlen⟩ := hrel
    obtain ⟨A, cap, hb, hr, _, hle⟩ := hat
    rw [hlen] at hb
    have HAT := Lib.hid (show At RefT wr t own' (midL pr L j) from ⟨A, cap, by rw [hlen]; exact hb, hr, by assumption, hle⟩)
    have HO := Lib.hid hown
    have HU := Lib.hid hu
    have HI := Lib.hid hi
    have HLEN := Lib.hid hlen
    have hc := hb.cellAt (i := 0) rfl
    simp only [List.getElem_toArray, List.getElem_cons_zero] at hc
    have i0 : (0 : Int) ≤ (i : Int) := by omega
    by_cases hlt2 : j < n
    · obtain ⟨m, hm⟩ : ∃ m, L[j]? = some m := ⟨_, List.getElem?_eq_getElem (by rw [HN.out]; exact hlt2)⟩
      have hmm := midL_get pr L j m hm
      rw [← hi] at hmm
      obtain ⟨b, o, hbo, hcs⟩ := hr.reads (by rw [hlen]; omega)
      subst hbo
      have ha0 := hcs i m hmm 2 _ rfl
      have i1 : (i : Int) < ((i + (n - j) : Nat) : Int) := by omega
      have HCUT := Lib.hid (fun W (hW : At RefT W t own' (midL pr L j)) => cut_any t own' (midL pr L j) W hW i m hmm)
      have HM := Lib.hid hm
      clear hi hlen hb hr hown hu hcs hm hmm
      by_cases h1 : m.f = a
      · have j1 : (m.f : Int) = (a : Int) := by omega
        have HQ := Lib.hid (show pr m = true by rw [← HPR.out]; simp [h1])
        clear h1
        go_wp2_with fail
        refine (HCUT.out wr HAT.out).mono ?_; rintro e w2 ⟨own2, rfl, h1, h2, h3⟩
        have H1 := Lib.hid h1
        have H2 := Lib.hid h2
        have H3 := Lib.hid h3
        clear h1 h2 h3
        go_wp2_with fail
        go_roundw
        case rel =>
          have hy := midL_yes pr L j m HM.out HQ.out
          rw [← HI.out] at hy
          refine ⟨j + 1, i, c + 1, own2, by omega, by go_num, rfl, hy.2.symm, by omega, (by rw [← hy.1]; exact H1.out), fun g hg => .inr (Nat.le_trans HU.out.size (H2.out g hg)), HU.out.trans H3.out (by intro s hs; left; simp at hs; simp [hs]), ?_⟩
          rw [midL_len _ _ _ (by rw [HN.out]; omega), HN.out, hy.2]
        case measure => simp [intOf]; omega
      · have j1 : ¬ (m.f : Int) = (a : Int) := by omega
        have HQ := Lib.hid (show pr m = false by rw [← HPR.out]; simp [h1])
        clear h1
        go_wp2_with fail
        go_roundw
        case rel =>
          have hy := midL_no pr L j m HM.out HQ.out
          rw [← HI.out] at hy
          refine ⟨j + 1, i + 1, c, own', by omega, rfl, by go_num, hy.2.symm, by omega, (by rw [← hy.1]; exact HAT.out), HO.out, HU.out, ?_⟩
          rw [midL_len _ _ _ (by rw [HN.out]; omega), HN.out, hy.2]
        case measure => simp [intOf]; omega
    · obtain rfl : j = n := by omega
      have hnj : i + (j - j) = i := by omega
      rw [hnj] at hc
      clear hb hr hu hown hlen
      go_wp2_with fail
      go_ret
      have hk : midL pr L j = keepL pr L := by
        unfold midL
        rw [List.take_of_length_le (by rw [HN.out]; exact Nat.le_refl _), List.drop_eq_nil_of_le (by rw [HN.out]; exact Nat.le_refl _), List.append_nil]
      have hkl : keepL pr (L.take j) = keepL pr L := by rw [List.take_of_length_le (by rw [HN.out]; exact Nat.le_refl _)]
      have hi := HI.out
      rw [hkl] at hi
      refine ⟨own', ?_, by rw [← hk]; exact HAT.out, HO.out, HU.out⟩
      simp
      omega

end Go.Proofs.Ytefjppebohnmjaa
