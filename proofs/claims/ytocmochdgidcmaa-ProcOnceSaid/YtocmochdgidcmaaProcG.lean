/- Fork: the reference's. -/
import Derived.Test.YtocmochdgidcmaaProcF
namespace Go.Proofs.Ytocmochdgidcmaa
open Go.RowKit

def parR : PS → Int
  | .none => 0
  | .liv p => p
  | .dead p _ => p
theorem encR_eq (x : PS) : encR x = [.int .u8 (stP x), .int .i64 (parR x), .int .i64 (statP x)] := by cases x <;> rfl

theorem flat3 (x : PS) : ∀ (T : List PS) (i : Nat), i < T.length → (((T.flatMap encR).set (i * 3) (.int .u8 (stP x))).set (i * 3 + 1) (.int .i64 (parR x))).set (i * 3 + 2) (.int .i64 (statP x)) = (T.set i x).flatMap encR := by
  intro T
  induction T with
  | nil => intro i h; simp at h
  | cons y T ih =>
    intro i hi
    cases i with
    | zero => simp [encR_eq]
    | succ i =>
      have := ih i (by simpa using hi)
      simp only [List.flatMap_cons, List.set_cons_succ, encR_eq y, List.cons_append, List.nil_append, show (i + 1) * 3 = i * 3 + 1 + 1 + 1 by omega, show i * 3 + 1 + 1 + 1 + 1 = (i * 3 + 1) + 1 + 1 + 1 by omega, show i * 3 + 1 + 1 + 1 + 2 = (i * 3 + 2) + 1 + 1 + 1 by omega]
      rw [this]
theorem flat02 (x : PS) : ∀ (T : List PS) (i : Nat), i < T.length → parR (T.getD i .none) = parR x → ((T.flatMap encR).set (i * 3) (.int .u8 (stP x))).set (i * 3 + 2) (.int .i64 (statP x)) = (T.set i x).flatMap encR := by
  intro T
  induction T with
  | nil => intro i h; simp at h
  | cons y T ih =>
    intro i hi hx
    cases i with
    | zero =>
      have hx' : parR y = parR x := by simpa using hx
      simp [encR_eq, hx']
    | succ i =>
      have := ih i (by simpa using hi) (by simpa using hx)
      simp only [List.flatMap_cons, List.set_cons_succ, encR_eq y, List.cons_append, List.nil_append, show (i + 1) * 3 = i * 3 + 1 + 1 + 1 by omega, show i * 3 + 1 + 1 + 1 + 2 = (i * 3 + 2) + 1 + 1 + 1 by omega]
      rw [this]
theorem flat1 (x : PS) : ∀ (T : List PS) (i : Nat), i < T.length → stP (T.getD i .none) = stP x → statP (T.getD i .none) = statP x → (T.flatMap encR).set (i * 3 + 1) (.int .i64 (parR x)) = (T.set i x).flatMap encR := by
  intro T
  induction T with
  | nil => intro i h; simp at h
  | cons y T ih =>
    intro i hi hx hz
    cases i with
    | zero =>
      have hx' : stP y = stP x := by simpa using hx
      have hz' : statP y = statP x := by simpa using hz
      simp [encR_eq, hx', hz']
    | succ i =>
      have := ih i (by simpa using hi) (by simpa using hx) (by simpa using hz)
      simp only [List.flatMap_cons, List.set_cons_succ, encR_eq y, List.cons_append, List.nil_append, show (i + 1) * 3 + 1 = (i * 3 + 1) + 1 + 1 + 1 by omega]
      rw [this]

theorem RTabAt.upd {w w' : World} {t : Nat} {T : List PS} {S : List Nat} (h : RTabAt w t T) (hu : Upd S w w') (ht : t ∉ S) : RTabAt w' t T := ⟨h.1.upd hu ht, h.2⟩
theorem RTabAt.set3 {w : World} {r : Nat} {T : List PS} (h : RTabAt w r T) {i : Nat} (hi : i < 6) (x : PS) : RTabAt (((w.setCell ⟨r, i * 3, none⟩ (.int .u8 (stP x))).setCell ⟨r, i * 3 + 1, none⟩ (.int .i64 (parR x))).setCell ⟨r, i * 3 + 2, none⟩ (.int .i64 (statP x))) r (T.set i x) := by
  refine ⟨?_, by simp [h.2]⟩
  rw [← flat3 x T i (by rw [h.2]; exact hi)]
  have := ((h.1.set_ (i * 3) (.int .u8 (stP x))).set_ (i * 3 + 1) (.int .i64 (parR x))).set_ (i * 3 + 2) (.int .i64 (statP x))
  simpa using this
theorem RTabAt.set02 {w : World} {r : Nat} {T : List PS} (h : RTabAt w r T) {i : Nat} (hi : i < 6) (x : PS) (hx : parR (getP T i) = parR x) : RTabAt ((w.setCell ⟨r, i * 3, none⟩ (.int .u8 (stP x))).setCell ⟨r, i * 3 + 2, none⟩ (.int .i64 (statP x))) r (T.set i x) := by
  refine ⟨?_, by simp [h.2]⟩
  rw [← flat02 x T i (by rw [h.2]; exact hi) (by simpa [getP] using hx)]
  have := (h.1.set_ (i * 3) (.int .u8 (stP x))).set_ (i * 3 + 2) (.int .i64 (statP x))
  simpa using this
theorem RTabAt.set20 {w : World} {r : Nat} {T : List PS} (h : RTabAt w r T) {i : Nat} (hi : i < 6) (x : PS) (hx : parR (getP T i) = parR x) : RTabAt ((w.setCell ⟨r, i * 3 + 2, none⟩ (.int .i64 (statP x))).setCell ⟨r, i * 3, none⟩ (.int .u8 (stP x))) r (T.set i x) := by
  refine ⟨?_, by simp [h.2]⟩
  rw [← flat02 x T i (by rw [h.2]; exact hi) (by simpa [getP] using hx)]
  have := (h.1.set_ (i * 3 + 2) (.int .i64 (statP x))).set_ (i * 3) (.int .u8 (stP x))
  rw [List.set_comm _ _ (by omega)]
  simpa using this
theorem RTabAt.set1 {w : World} {r : Nat} {T : List PS} (h : RTabAt w r T) {i : Nat} (hi : i < 6) (x : PS) (hx : stP (getP T i) = stP x) (hz : statP (getP T i) = statP x) : RTabAt (w.setCell ⟨r, i * 3 + 1, none⟩ (.int .i64 (parR x))) r (T.set i x) := by
  refine ⟨?_, by simp [h.2]⟩
  rw [← flat1 x T i (by rw [h.2]; exact hi) (by simpa [getP] using hx) (by simpa [getP] using hz)]
  have := h.1.set_ (i * 3 + 1) (.int .i64 (parR x))
  simpa using this
theorem info_rproc : (Try.prog.info? 69).map (·.size) = some 3 := by kernel_rfl

theorem RTabAt.there {w : World} {r : Nat} {T : List PS} (h : RTabAt w r T) {i : Nat} (hi : i < 6) : w.there r (i * 3) 3 := by
  intro j hj
  refine ⟨?_, h.1.frozen _⟩
  rw [h.cell hi (j := j) hj (List.getElem?_eq_getElem (show j < (encR (getP T i)).length by rw [encR_length]; exact hj))]
  rfl

set_option maxRecDepth 100000 in
set_option maxHeartbeats 4000000 in
theorem rfork_any (r : Nat) (T : List PS) (i : Int) (w : World) (h : RTabAt w r T) :
    Calls Try.prog 35 #[.pointer (some ⟨r, 0, none⟩), .int .i64 i] w fun e w' =>
      e = .returned (.tuple #[.int .i64 (forkA T i), .int .i64 (forkE T i)]) ∧ RTabAt w' r (forkT T i) ∧ Upd [r] w w' := by
  have HR := Lib.hid (rruns_any r T i w h)
  have HT := Lib.hid h
  cases hp : getP T i with
  | none =>
    rw [hp] at HR
    unfold runE at HR
    rw [show forkA T i = 0 by simp [forkA, forkN, hp], show forkE T i = 5 by simp [forkE, hp], show forkT T i = T by simp [forkT, forkN, hp]]
    clear hp h
    go_enter Try.func35, Try.ntmps35
    go_wp2_with fail
    refine HR.out.mono ?_; rintro e w1 ⟨rfl, rfl⟩
    go_wp2_with fail
    go_ret2
    exact ⟨rfl, HT.out, Upd.refl _ _⟩
  | dead p s =>
    rw [hp] at HR
    unfold runE at HR
    rw [show forkA T i = 0 by simp [forkA, forkN, hp], show forkE T i = 5 by simp [forkE, hp], show forkT T i = T by simp [forkT, forkN, hp]]
    clear hp h
    go_enter Try.func35, Try.ntmps35
    go_wp2_with fail
    refine HR.out.mono ?_; rintro e w1 ⟨rfl, rfl⟩
    go_wp2_with fail
    go_ret2
    exact ⟨rfl, HT.out, Upd.refl _ _⟩
  | liv p =>
    rw [hp] at HR
    unfold runE at HR
    have HP := Lib.hid hp
    clear hp h
    go_enter Try.func35, Try.ntmps35
    go_wp2_with fail
    refine HR.out.mono ?_; rintro e w1 ⟨rfl, rfl⟩
    clear HR
    go_wp2_with fail
    go_loopw [7] (fun v wr => ∃ n : Nat, n ≤ 6 ∧ 1 ≤ n ∧ v = .int .i64 (n : Int) ∧ wr = w ∧ freeFrom T (6 - n) n = freeFrom T 5 1) (fun v _ => 6 - (intOf v).toNat)
    case atStart => exact ⟨1, by omega, by omega, rfl, rfl, rfl⟩
    case round =>
      obtain ⟨n, hn, hn1, rfl, rfl, hff⟩ := hrel
      have HFF := Lib.hid hff
      clear hff
      have i0 : (0 : Int) ≤ (n : Int) := by omega
      by_cases hlt : n < 6
      · have i1 : (n : Int) < 6 := by omega
        have hc := HT.out.cell (i := n) hlt (j := 0) (by omega) (encR_0 _)
        rw [Nat.add_zero] at hc
        cases hx : getP T n with
        | none =>
          rw [hx] at hc
          have HX := Lib.hid hx
          clear hx
          unfold stP at hc
          have HN := Lib.hid (show forkN T i = some n by
            have hf := HFF.out.symm
            rw [show 6 - n = (5 - n) + 1 by omega, freeFrom_hit _ _ _ HX.out] at hf
            simp only [forkN, HP.out, hf])
          have HN2 := Lib.hid (show forkE T i = 0 by
            have hf := HFF.out.symm
            rw [show 6 - n = (5 - n) + 1 by omega, freeFrom_hit _ _ _ HX.out] at hf
            simp only [forkE, HP.out, hf])
          have f0 := HT.out.1.frozen (n * 3)
          have f1 := HT.out.1.frozen (n * 3 + 1)
          have f2 := HT.out.1.frozen (n * 3 + 2)
          have c1 := HT.out.cell (i := n) hlt (j := 1) (by omega) (show _ = some (.int .i64 0) by rw [HX.out]; rfl)
          have c2 := HT.out.cell (i := n) hlt (j := 2) (by omega) (show _ = some (.int .i64 0) by rw [HX.out]; rfl)
          go_wp2_with fail
          go_ret2
          refine ⟨?_, ?_, ?_⟩
          · rw [show forkA T i = (n : Int) by simp only [forkA, HN.out], HN2.out]
            rfl
          · simp only [forkT, HN.out]
            exact HT.out.set3 hlt (.liv i)
          · exact (((Upd.refl _ _).setCell (by simp) _).setCell (by simp) _).setCell (by simp) _
        | liv q =>
          rw [hx] at hc
          have HX := Lib.hid hx
          clear hx
          unfold stP at hc
          go_wp2_with fail
          go_roundw
          case rel =>
            refine ⟨n + 1, by omega, by omega, by go_num, by first | rfl | trivial, ?_⟩
            rw [← HFF.out, show 6 - n = (6 - (n + 1)) + 1 by omega, freeFrom_step _ _ _ (by rw [HX.out]; intro h; cases h)]
          case measure => simp [intOf]; omega
        | dead q s =>
          rw [hx] at hc
          have HX := Lib.hid hx
          clear hx
          unfold stP at hc
          go_wp2_with fail
          go_roundw
          case rel =>
            refine ⟨n + 1, by omega, by omega, by go_num, by first | rfl | trivial, ?_⟩
            rw [← HFF.out, show 6 - n = (6 - (n + 1)) + 1 by omega, freeFrom_step _ _ _ (by rw [HX.out]; intro h; cases h)]
          case measure => simp [intOf]; omega
      · obtain rfl : n = 6 := by omega
        have HN := Lib.hid (show freeFrom T 5 1 = none from HFF.out.symm)
        go_wp2_with fail
        go_ret2
        refine ⟨?_, ?_, Upd.refl _ _⟩
        · simp [forkA, forkN, forkE, HP.out, HN.out]
        · simpa [forkT, forkN, HP.out, HN.out] using HT.out

end Go.Proofs.Ytocmochdgidcmaa
