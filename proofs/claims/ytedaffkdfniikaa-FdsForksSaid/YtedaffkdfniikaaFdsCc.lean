/- twin, and the table's Copy. -/
import Derived.Test.YtedaffkdfniikaaFdsCb
namespace Go.Proofs.Ytedaffkdfniikaa
open Go.RowKit Go.Shelf

theorem sh_cells {w : World} {g c : Nat} {o : Op} (h : Blk w g ShT (shC o c)) : w.cell? ⟨g, 0, none⟩ = some (.int .u8 o.k) ∧ w.cell? ⟨g, 1, none⟩ = some (.int .i64 o.r) ∧ w.cell? ⟨g, 2, none⟩ = some (.int .i64 o.p) ∧ w.cell? ⟨g, 3, none⟩ = some (.int .i64 (c : Int)) :=
  ⟨h.cellAt rfl, h.cellAt rfl, h.cellAt rfl, h.cellAt rfl⟩
set_option maxRecDepth 100000 in
set_option maxHeartbeats 2000000 in
theorem twin_any {W0 W : World} {t f cb m : Nat} {ot own : List Nat} {S : St} {pb sb pbc sbc : Nat → Nat} {T : Nat → Bool} {R : Nat → Nat → Bool} {seen : Nat → Bool} {ps : List (Nat × Nat)}
    (hp : Prog W0 t ot S pb sb) (h : Cp W0 W f cb m S sb T R own pbc sbc seen ps) (n : Nat) (hn : n = 0 ∨ cntF S.fd n ≠ 0) :
    Calls Try.prog 38 #[sv sb n, .pointer (some ⟨cb, 0, none⟩)] W fun e w' => ∃ own' sbc' seen' ps', e = .returned (sv sbc' n) ∧ Cp W0 w' f cb m S sb T R own' pbc sbc' seen' ps' ∧ (n ≠ 0 → seen' n = true) := by
  by_cases h0 : n = 0
  · subst h0
    have H := Lib.hid h
    clear h hn hp
    show Calls Try.prog 38 #[.pointer none, .pointer (some ⟨cb, 0, none⟩)] W _
    go_enter Try.func38, Try.ntmps38
    go_wp2_with fail
    go_ret
    exact ⟨own, sbc, seen, ps, rfl, H.out, fun h => absurd rfl h⟩
  · have hc : cntF S.fd n ≠ 0 := by
      rcases hn with hn | hn
      · exact absurd hn h0
      · exact hn
    have hsrc := (hp.shr n h0 hc).upd h.u (by simp)
    have hkeys : ∀ p, p ∈ ps → ∃ cs, Blk W p.1 ShT cs := fun p hp' => by
      obtain ⟨k, k0, kc, e⟩ := h.keys p hp'
      rw [e]
      exact ⟨_, (hp.shr k k0 kc).upd h.u (by simp)⟩
    have hl := h.map.look (sb n) hsrc hkeys
    rw [h.look n h0 hc] at hl
    have cc := h.cell.cellAt (i := 0) (v := .map (some m)) rfl
    have e0 : sv sb n = .pointer (some ⟨sb n, 0, none⟩) := by unfold sv; rw [if_neg h0]
    rw [e0]
    cases hs : seen n with
    | true =>
      rw [hs, if_pos rfl] at hl
      have HR : Hid (sv sbc n = .pointer (some ⟨sbc n, 0, none⟩)) := Lib.hid (by unfold sv; rw [if_neg h0])
      have H := Lib.hid h
      have HS := Lib.hid hs
      unfold ptrV lookV ptrV at hl
      simp only [Option.isSome_some] at hl
      generalize hx : sb n = x at *
      generalize hy : sbc n = y at *
      clear h hp hn hsrc hkeys hs e0 hx hy h0
      go_enter Try.func38, Try.ntmps38
      go_wp2_with fail
      go_ret
      exact ⟨own, sbc, seen, ps, by rw [HR.out]; simp, H.out, fun _ => HS.out⟩
    | false =>
      rw [hs, if_neg (by decide)] at hl
      have hu1 := (Upd.refl [] W).alloc (.cells #[.int .u8 (opAt S n).k, .int .i64 (opAt S n).r, .int .i64 (opAt S n).p, .int .i64 (cntF S.fd n : Int)] 72)
      have h1 := h.upd0 hu1
      have hx : Blk (W.alloc (.cells #[.int .u8 (opAt S n).k, .int .i64 (opAt S n).r, .int .i64 (opAt S n).p, .int .i64 (cntF S.fd n : Int)] 72)) W.heap.size ShT (shC (opAt S n) (cntF S.fd n)) := Blk.new W _ _
      obtain ⟨W2, hst, hm2, hu2⟩ := h1.map.store (sb n) W.heap.size (hsrc.upd hu1 (by simp)) (fun p hp' => by obtain ⟨cs, hcs⟩ := hkeys p hp'; exact ⟨cs, hcs.upd hu1 (by simp)⟩) (by rw [h1.look n h0 hc, hs]; simp)
      have hnew := Cp.new hp h1 h0 hc hs hx (fun k k0 hk e => by have := (h.ol _ (h.os k k0 hk)).2; omega) h.u.size hu2 hm2
      have HNEW := Lib.hid hnew
      have HR : Hid (sv (fun k => if k = n then W.heap.size else sbc k) n = .pointer (some ⟨W.heap.size, 0, none⟩)) := Lib.hid (by unfold sv; rw [if_neg h0]; simp)
      obtain ⟨q0, q1, q2, q3⟩ := sh_cells hsrc
      have cc1 : (W.alloc (.cells #[.int .u8 (opAt S n).k, .int .i64 (opAt S n).r, .int .i64 (opAt S n).p, .int .i64 (cntF S.fd n : Int)] 72)).cell? ⟨cb, 0, none⟩ = some (.map (some m)) := h1.cell.cellAt rfl
      unfold ptrV lookV at hl
      unfold ptrV at hst
      simp only [Option.isSome_none] at hl
      generalize opAt S n = oo at *
      generalize (cntF S.fd n : Int) = cn at *
      generalize hxx : sb n = x at *
      clear h h1 hp hn hsrc hkeys hs e0 hxx hnew hx hm2 hu2 hu1
      go_enter Try.func38, Try.ntmps38
      go_wp2_with fail
      go_ret
      exact ⟨_, _, _, _, by rw [HR.out]; simp, HNEW.out, fun _ => by simp⟩

end Go.Proofs.Ytedaffkdfniikaa
