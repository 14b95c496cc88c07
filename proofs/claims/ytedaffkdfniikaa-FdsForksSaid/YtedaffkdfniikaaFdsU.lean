/- The reference's Move and Open. -/
import Derived.Test.YtedaffkdfniikaaFdsT
namespace Go.Proofs.Ytedaffkdfniikaa
open Go.RowKit Go.Shelf

theorem flatO_setp : ∀ (L : List Op) (j : Nat) (o : Op) (x : Int), L[j]? = some o → flatO (L.set j { o with p := x }) = (flatO L).set (j * 3 + 2) (.int .i64 x) := by
  intro L
  induction L with
  | nil => intro j o x h; simp at h
  | cons a L ih =>
    intro j o x h
    cases j with
    | zero =>
      simp at h
      subst h
      rfl
    | succ j =>
      have := ih j o x (by simpa using h)
      unfold flatO at *
      rw [List.set_cons_succ, List.flatMap_cons, List.flatMap_cons, this, List.set_append_right _ _ (by rw [encO_length]; omega), encO_length]
      congr 2
      omega
theorem RowAt.setp {w : World} {g cap : Nat} {L : List Op} (h : RowAt w g cap L) {j : Nat} {o : Op} (hj : L[j]? = some o) (x : Int) : RowAt (w.setCell ⟨g, j * 3 + 2, none⟩ (.int .i64 x)) g cap (L.set j { o with p := x }) := by
  obtain ⟨cur, hb, h1, h2, h3, h4⟩ := h
  have hjl : j < L.length := (List.getElem?_eq_some_iff.1 hj).1
  refine ⟨cur.set (j * 3 + 2) (.int .i64 x), ?_, by rw [List.length_set]; exact h1, h2, by rw [List.length_set]; exact h3, ?_⟩
  · have := hb.set_ (j * 3 + 2) (.int .i64 x)
    rw [List.setIfInBounds_toArray] at this
    exact this
  · rw [List.length_set, flatO_setp L j o x hj, List.take_set, h4]
/-- The reference's box turns to another row. -/
theorem RX.setA {w : World} {r : Nat} {own : List Nat} {S S' : St} {A A' : Option Addr} {cap cap' : Nat} (h : Blk w r RefT (rowF 55 (refC S A cap))) (hh : S'.has = S.has) (hf : S'.fd = S.fd) (hr : Row w A' cap' S'.all) (ho : own = r :: ownA A') (hne : r ∉ ownA A') :
    RX (w.setCell ⟨r, 54, none⟩ (.slice A' S'.all.length cap')) r own S' A' cap' := by
  refine ⟨?_, hr.upd ((Upd.refl [r] w).setCell (p := ⟨r, 54, none⟩) (.inl (by simp)) _) (fun g hg hm => by simp at hm; subst hm; exact hne hg), ho⟩
  have := h.set_ 54 (.slice A' S'.all.length cap')
  rw [rowF_set] at this
  have e : rowF 55 (refC S' A' cap') = rowF 55 (fun j => if j = 54 then .slice A' S'.all.length cap' else refC S A cap j) := rowF_congr fun j hj => by
    unfold refC
    rw [hh, hf]
    by_cases h54 : j = 54
    · subst h54; simp
    · rw [if_neg h54]
      by_cases h6 : j < 6
      · rw [if_pos h6, if_pos h6]
      · rw [if_neg h6, if_neg h6, if_pos (show j < 54 by omega), if_pos (show j < 54 by omega)]
  rw [e]
  exact this

theorem Row.form {w : World} {A : Option Addr} {cap : Nat} {L : List Op} (h : Row w A cap L) (hl : 0 < L.length) : ∃ g, A = some ⟨g, 0, none⟩ ∧ RowAt w g cap L := by
  rcases h with ⟨_, _, rfl⟩ | h
  · simp at hl
  · exact h
theorem mv_mid {W1 W2 : World} {r : Nat} {S : St} {A A0 A2 : Option Addr} {cap cap2 i n j len : Nat} (x : Int) (hb : Blk W1 r RefT (rowF 55 (refC S A cap))) (hN : r ∉ ownA A0) (hr : Row W2 A2 cap2 ([] ++ S.all)) (hu : Upd (ownA A0) W1 W2)
    (hi : i < 6) (hn : n < 8) (hf : S.fd i n = j + 1) (hl : S.all.length = len) (hj : j < len) :
    ∃ g2, A2 = some ⟨g2, 0, none⟩ ∧ W2.cell? ⟨r, 6 + i * 8 + n, none⟩ = some (.int .i64 ((j : Int) + 1)) ∧ W2.cell? ⟨g2, j * 3 + 2, none⟩ = some (.int .i64 (opAt S (j + 1)).p) ∧ W2.frozen? ⟨g2, j * 3 + 2, none⟩ = false ∧
      (W2.setCell ⟨g2, j * 3 + 2, none⟩ (.int .i64 x)).cell? ⟨r, 54, none⟩ = some (.slice A len cap) ∧ (W2.setCell ⟨g2, j * 3 + 2, none⟩ (.int .i64 x)).frozen? ⟨r, 54, none⟩ = false ∧
      Hid (RX ((W2.setCell ⟨g2, j * 3 + 2, none⟩ (.int .i64 x)).setCell ⟨r, 54, none⟩ (.slice (some ⟨g2, 0, none⟩) len cap2)) r [r, g2] ⟨S.has, S.fd, S.all.set j { opAt S (j + 1) with p := x }⟩ (some ⟨g2, 0, none⟩) cap2) := by
  rw [List.nil_append] at hr
  obtain ⟨g2, rfl, hra⟩ := hr.form (by omega)
  have hb2 := hb.upd hu hN
  have hget : S.all[j]? = some (opAt S (j + 1)) := by unfold opAt; rw [Nat.add_sub_cancel, List.getD, List.getElem?_eq_getElem (by omega)]; rfl
  have hrd := hra.reads (by omega)
  obtain ⟨b, o, he, hc⟩ := hrd
  injection he with he
  injection he with he1 he2 _
  subst he1 he2
  have hc2 := hc j _ hget 2 (.int .i64 (opAt S (j + 1)).p) rfl
  rw [Nat.zero_add] at hc2
  have hne : r ≠ g2 := by
    obtain ⟨cur, hcur, _⟩ := hra
    exact hb2.ne_ hcur (by decide)
  have hfz : W2.frozen? ⟨g2, j * 3 + 2, none⟩ = false := by
    obtain ⟨cur, hcur, _⟩ := hra
    exact hcur.frozen _
  have hb3 := hb2.far (p := ⟨g2, j * 3 + 2, none⟩) hne (.int .i64 x)
  have hr3 := hra.setp hget x
  refine ⟨g2, rfl, ?_, hc2, hfz, ?_, hb3.frozen 54, Lib.hid ?_⟩
  · rw [hb2.cell, rowF_get (by omega)]
    unfold refC
    rw [if_neg (by omega), if_pos (by omega), show (6 + i * 8 + n - 6) / 8 = i by omega, show (6 + i * 8 + n - 6) % 8 = n by omega, hf]
    simp
  · rw [hb3.cell, rowF_get (by omega), ← hl]
    rfl
  · have := RX.setA (S' := ⟨S.has, S.fd, S.all.set j { opAt S (j + 1) with p := x }⟩) (A' := some ⟨g2, 0, none⟩) (cap' := cap2) (own := [r, g2]) hb3 rfl rfl (.inr ⟨g2, rfl, hr3⟩) rfl (by simp [ownA]; exact hne)
    simp only [List.length_set, hl] at this
    exact this

set_option maxRecDepth 100000 in
set_option maxHeartbeats 4000000 in
theorem rmove_any (r : Nat) (own : List Nat) (S : St) (A : Option Addr) (cap : Nat) (w : World) (h : RX w r own S A cap) (hg : Good S) (hl : S.all.length ≤ 500) (p k x : Int) :
    Calls Try.prog 46 #[.pointer (some ⟨r, 0, none⟩), .int .i64 p, .int .i64 k, .int .i64 x] w (RChg w r own (.int .i64 (atE S p k)) (movS S p k x)) := by
  have HA := Lib.hid (rat_any r own S A cap w h p k)
  have H := Lib.hid h
  by_cases he : atE S p k = 0
  · have HE := Lib.hid he
    have HM := Lib.hid (show movS S p k x = ⟨S.has, S.fd, S.all.set (S.fd p.toNat k.toNat - 1) { opAt S (S.fd p.toNat k.toNat) with p := x }⟩ by unfold movS; rw [if_pos he])
    obtain ⟨⟨p0, p1, hh⟩, k0, k1, h0⟩ := atE_ok he
    obtain ⟨n, hn⟩ : ∃ n, n = k.toNat := ⟨_, rfl⟩
    have hkn : k = (n : Int) := by omega
    subst hkn
    obtain ⟨i, hi⟩ : ∃ i, i = p.toNat := ⟨_, rfl⟩
    have hpi : p = (i : Int) := by omega
    subst hpi
    simp only [Int.toNat_natCast] at h0 hh HM
    obtain ⟨j, hj⟩ : ∃ j, S.fd i n = j + 1 := ⟨S.fd i n - 1, by omega⟩
    rw [hj, Nat.add_sub_cancel] at HM
    have hle := hg.le i n
    have hjl : j < S.all.length := by omega
    have HGET := Lib.hid (show S.all[j]? = some (opAt S (j + 1)) by unfold opAt; rw [Nat.add_sub_cancel, List.getD, List.getElem?_eq_getElem hjl]; rfl)
    have HX := Lib.hid (h.row.xs.upd ((Upd.refl [] w).alloc (.cells #[] 30)) (by simp))
    have HFJ := Lib.hid hj
    have HI6 := Lib.hid (show i < 6 by omega)
    have HN8 := Lib.hid (show n < 8 by omega)
    have hal := h.upd0 ((Upd.refl [] w).alloc (.cells #[] 30))
    have cA : (w.alloc (.cells #[] 30)).cell? ⟨r, 54, none⟩ = some (.slice A S.all.length cap) := hal.cellA
    have HBK := Lib.hid hal.blk
    have HRM := Lib.hid h.mem
    have HRL := Lib.hid h.blk.lt
    have HNL := Lib.hid (show S.all.length = S.all.length from rfl)
    have j0 : (0 : Int) ≤ (j : Int) := by omega
    have j1 : (j : Int) < (S.all.length : Int) := by omega
    have j2 : (j : Int) ≤ 500 := by omega
    have i0 : (0 : Int) ≤ (i : Int) := by omega
    have i1 : (i : Int) < 6 := by omega
    have HJL := Lib.hid hjl
    rw [he] at HA
    generalize hlen : S.all.length = len at *
    have HLEN := Lib.hid hlen
    clear h he hh h0 hi hn hj hle hjl hal hlen hg
    go_enter Try.func46, Try.ntmps46
    go_wp2_with fail
    refine HA.out.mono ?_; rintro e w' ⟨rfl, rfl⟩
    go_wp2_with (refine wpList_app rfl _ _ rfl (some ⟨w'.heap.size, 0, none⟩) 0 0 [] rfl rfl (Row.new w') (.slice A len cap) rfl len S.all HX.out (by omega) ?_; intro A2 cap2 W2 hr2 hu2 ho2; rw [Nat.zero_add]; obtain ⟨g2, rfl, q1, q2, q3, q4, q5, q6⟩ := mv_mid x HBK.out (show r ∉ ownA (some ⟨w'.heap.size, 0, none⟩) by (have := HRL.out; simp [ownA]; omega)) hr2 hu2 HI6.out HN8.out HFJ.out HLEN.out HJL.out; have HU2 := Lib.hid hu2; have HO2 := Lib.hid ho2; clear hr2 hu2 ho2)
    go_ret
    rw [HE.out, HM.out]
    simp
    have hg2 : w'.heap.size ≤ g2 := by
      rcases HO2.out g2 (by simp [ownA]) with h1 | h1
      · simp [ownA] at h1; omega
      · rw [World.size_alloc] at h1; omega
    refine ⟨rfl, [r, g2], ⟨_, _, q6.out⟩, fun g hg => ?_, ?_⟩
    · simp at hg
      rcases hg with rfl | rfl
      · exact .inl HRM.out
      · exact .inr hg2
    · exact (((((Upd.refl [r] w').alloc (.cells #[] 30)).trans HU2.out (fun g hg => by simp [ownA] at hg; right; omega)).setCell (p := ⟨g2, j * 3 + 2, none⟩) (.inr hg2) _).setCell (p := ⟨r, 54, none⟩) (.inl (by simp)) _)
  · have HM := Lib.hid (show movS S p k x = S by unfold movS; rw [if_neg he])
    have hb : (atE S p k == 0) = false := by simp [he]
    have hb' : (atE S p k != 0) = true := by simp [he]
    generalize hev : atE S p k = ev at *
    have HEV := Lib.hid hev
    clear h he hev
    go_enter Try.func46, Try.ntmps46
    go_wp2_with fail
    refine HA.out.mono ?_; rintro e w' ⟨rfl, rfl⟩
    go_wp2_with fail
    go_ret
    simp
    rw [HM.out]
    exact RChg.same H.out (Upd.refl _ _)

end Go.Proofs.Ytedaffkdfniikaa
