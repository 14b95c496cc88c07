/- The table's Copy. -/
import Derived.Test.YtedaffkdfniikaaFdsCc
namespace Go.Proofs.Ytedaffkdfniikaa
open Go.RowKit Go.Shelf

def svo (sb : Nat → Nat) (n : Nat) : Option Addr := if n = 0 then none else some ⟨sb n, 0, none⟩
theorem sv_ptr (sb : Nat → Nat) (n : Nat) : sv sb n = .pointer (svo sb n) := by
  unfold sv svo
  split <;> rfl
def pvo (b : Bool) (x : Nat) : Option Addr := if b = true then some ⟨x, 0, none⟩ else none
theorem pv_ptr (b : Bool) (x : Nat) : pv b x = .pointer (pvo b x) := by
  unfold pv pvo
  split <;> rfl
theorem under_ptab : Try.prog.underlying 62 = some (.array 6 61) := by kernel_rfl
theorem info_ptab : (Try.prog.info? 62).map (·.size) = some 6 := by kernel_rfl
theorem part_prp (cs : Array Value) (k : Nat) (v : Value) (hv : cs[k]? = some v) (W : World) : (part 61 cs k).run Try.prog W = .ok v W := by
  simp [part, hv]
theorem index_ptab (cs : Array Value) (k : Nat) (hk : k < 6) (v : Value) (hv : cs[k]? = some v) (W : World) : (Instr.index 62 (.agg cs) (.int .i64 (k : Int))).run Try.prog W = .ok v W := by
  simp [Instr.index, asIntOf]
  rw [if_pos hk]
  exact part_prp cs k v hv W
def tT (S : St) (i a : Nat) : Bool := decide (a < i) && S.has a
def rR (i k a b : Nat) : Bool := decide (a < i) || (decide (a = i) && decide (b < k))

set_option maxRecDepth 100000 in
set_option maxHeartbeats 4000000 in
theorem copy_any (t : Nat) (ot : List Nat) (S : St) (pb sb : Nat → Nat) (w : World) (hp : Prog w t ot S pb sb) (hg : Good S) :
    Calls Try.prog 24 #[.pointer (some ⟨t, 0, none⟩)] w fun e w' => ∃ f own, e = .returned (.pointer (some ⟨f, 0, none⟩)) ∧ PAt w' f own S ∧ (∀ g, g ∈ own → w.heap.size ≤ g) ∧ Upd [] w w' := by
  have hmm := @run_makeMap Try.prog
  have HP := Lib.hid hp
  have HG := Lib.hid hg
  obtain ⟨cs, hcs⟩ : ∃ cs, cs = rowF 6 fun i => pv (S.has i) (pb i) := ⟨_, rfl⟩
  have HCS := Lib.hid hcs
  have hsz : cs.size = 6 := by rw [hcs, rowF_size]
  have HSZ := Lib.hid hsz
  have hu3 := (((Upd.refl [] w).alloc (.cells #[.pointer none, .pointer none, .pointer none, .pointer none, .pointer none, .pointer none] 64)).alloc (.map #[] 0)).alloc (.cells #[.map (some (w.heap.size + 1))] 77)
  have HU3 := Lib.hid hu3
  have hblk : Blk w t TabT cs := by rw [hcs]; exact hp.tab
  have HRA := Lib.hid (show (((w.alloc (.cells #[.pointer none, .pointer none, .pointer none, .pointer none, .pointer none, .pointer none] 64)).alloc (.map #[] 0)).alloc (.cells #[.map (some (w.heap.size + 1))] 77)).rangeAt t 0 cs.toList from fun k v hv => by rw [Nat.zero_add]; exact (hblk.upd hu3 (by simp)).cellAt (by simpa using hv))
  have HCP0 : Hid (Cp w (((w.alloc (.cells #[.pointer none, .pointer none, .pointer none, .pointer none, .pointer none, .pointer none] 64)).alloc (.map #[] 0)).alloc (.cells #[.map (some (w.heap.size + 1))] 77)) w.heap.size (w.heap.size + 1 + 1) (w.heap.size + 1) S sb (tT S 0) (rR 0 0) [w.heap.size] (fun _ => 0) (fun _ => 0) (fun _ => false) []) := Lib.hid (by
    have b1 : Blk (w.alloc (.cells #[.pointer none, .pointer none, .pointer none, .pointer none, .pointer none, .pointer none] 64)) w.heap.size TabT #[.pointer none, .pointer none, .pointer none, .pointer none, .pointer none, .pointer none] := Blk.new w _ _
    have b2 := PMap.new (w.alloc (.cells #[.pointer none, .pointer none, .pointer none, .pointer none, .pointer none, .pointer none] 64))
    have b3 : Blk (((w.alloc (.cells #[.pointer none, .pointer none, .pointer none, .pointer none, .pointer none, .pointer none] 64)).alloc (.map #[] 0)).alloc (.cells #[.map (some (w.heap.size + 1))] 77)) ((w.alloc (.cells #[.pointer none, .pointer none, .pointer none, .pointer none, .pointer none, .pointer none] 64)).alloc (.map #[] 0)).heap.size MpT #[.map (some (w.heap.size + 1))] := Blk.new _ _ _
    rw [World.size_alloc] at b2
    rw [World.size_alloc, World.size_alloc] at b3
    refine ⟨?_, fun a _ hT => ?_, fun n _ h => (by cases h), fun a b _ _ hT => ?_, fun n k _ _ h => (by cases h), b3, b2.upd ((Upd.refl [] _).alloc _) (by simp), fun n _ _ => rfl, by simp, fun a b _ _ hR => ?_, by simp, fun a _ hT => ?_, fun n _ h => (by cases h), fun g hg => ?_, by omega, hu3⟩
    · exact (b1.upd (((Upd.refl [] _).alloc (.map #[] 0)).alloc _) (by simp) : Blk _ _ _ _)
    · simp [tT] at hT
    · simp [tT] at hT
    · simp [rR] at hR
    · simp [tT] at hT
    · simp at hg
      subst hg
      simp only [World.size_alloc]
      omega)
  clear hp hg hcs hsz hu3 hblk
  go_enter Try.func24, Try.ntmps24
  go_wp2_with (refine wpList_load_midg rfl 62 _ rfl t 0 rfl cs.toList _ HRA.out under_ptab rfl (by rw [info_ptab, Array.length_toList, HSZ.out]) ?_)
  generalize (((w.alloc (.cells #[.pointer none, .pointer none, .pointer none, .pointer none, .pointer none, .pointer none] 64)).alloc (.map #[] 0)).alloc (.cells #[.map (some (w.heap.size + 1))] 77)) = W3 at *
  generalize hF : w.heap.size = F at *
  have HF := Lib.hid hF
  generalize F + 1 + 1 = cb at *
  generalize F + 1 = m at *
  clear hF
  go_loopw [20] (fun v wr => ∃ (i : Nat) (own : List Nat) (pbc sbc : Nat → Nat) (seen : Nat → Bool) (ps : List (Nat × Nat)), i ≤ 6 ∧ v = .int .i64 (i : Int) ∧ Cp w wr F cb m S sb (tT S i) (rR i 0) own pbc sbc seen ps) (fun v _ => 6 - (intOf v).toNat)
  case atStart => exact ⟨0, _, _, _, _, _, by omega, rfl, HCP0.out⟩
  case round =>
    obtain ⟨i, own, pbc, sbc, seen, ps, hi, rfl, hcp⟩ := hrel
    have HCP := Lib.hid hcp
    by_cases hlt : i < 6
    · have i0 : (0 : Int) ≤ (i : Int) := by omega
      have i1 : (i : Int) < 6 := by omega
      have hck : cs[i]? = some (pv (S.has i) (pb i)) := by rw [HCS.out, rowF_get hlt]
      by_cases hh : S.has i = true
      · have HH := Lib.hid hh
        rw [hh] at hck
        simp only [pv, if_true] at hck
        have hix := index_ptab cs i hlt _ hck
        have hfi := hcp.of
        have hal := hcp.upd0 ((Upd.refl [] wr).alloc (.cells #[.pointer none, .pointer none, .pointer none, .pointer none, .pointer none, .pointer none, .pointer none, .pointer none] 67))
        have c0 := hal.tab.cellAt (rowF_get hlt)
        rw [show tT S i i = false by simp [tT]] at c0
        simp only [pv] at c0
        have f0 := hal.tab.frozen i
        have hnb : Blk (wr.alloc (.cells #[.pointer none, .pointer none, .pointer none, .pointer none, .pointer none, .pointer none, .pointer none, .pointer none] 67)) wr.heap.size ProcT (rowF 8 fun _ => .pointer none) := Blk.new wr ProcT _
        have hts := hal.tset hlt (show tT S i i = false by simp [tT]) hnb (fun a ha hT => by have := (hcp.ol _ (hcp.op a ha hT)).2; omega) hcp.u.size (fun b _ => by simp [rR])
        have HC1 := Lib.hid (hts.congr (T' := tT S (i + 1)) (R' := rR i 0) (fun a ha => by
          unfold tT
          by_cases hai : a = i
          · subst hai; simp [hh]
          · rw [if_neg hai]
            have : (a < i + 1) ↔ (a < i) := by omega
            simp only [this]) (fun a ha hT b hb => rfl) hts.rs)
        generalize (fun a => if a = i then wr.heap.size else pbc a) = pbc1 at *
        clear hcp hck hal hnb hts hfi hh
        generalize hY : pb i = Y at *
        have HY := Lib.hid hY
        clear hY
        go_wp2_with fail
        go_loopw [34] (fun v wr' => ∃ (k : Nat) (own : List Nat) (sbc : Nat → Nat) (seen : Nat → Bool) (ps : List (Nat × Nat)), k ≤ 8 ∧ v = .int .i64 (k : Int) ∧ Cp w wr' F cb m S sb (tT S (i + 1)) (rR i k) own pbc1 sbc seen ps) (fun v _ => 8 - (intOf v).toNat)
        case atStart => exact ⟨0, _, _, _, _, by omega, rfl, HC1.out⟩
        case round =>
          obtain ⟨k, own2, sbc2, seen2, ps2, hk, rfl, hcp2⟩ := hrel
          rename World => wq
          have HCP2 := Lib.hid hcp2
          by_cases hltk : k < 8
          · have k0 : (0 : Int) ≤ (k : Int) := by omega
            have k1 : (k : Int) < 8 := by omega
            have hsrc := (HP.out.upd0 hcp2.u).cellP hlt HH.out hltk
            rw [HY.out, sv_ptr] at hsrc
            have HTW := Lib.hid (fun W own sbc seen ps (hW : Cp w W F cb m S sb (tT S (i + 1)) (rR i k) own pbc1 sbc seen ps) => twin_any HP.out hW (S.fd i k) (by
              by_cases hz : S.fd i k = 0
              · exact .inl hz
              · exact .inr (cnt_of hlt hltk rfl)))
            rw [sv_ptr sb] at HTW
            have hTi : tT S (i + 1) i = true := by simp [tT, HH.out]
            have HTI := Lib.hid hTi
            have d0 : wq.cell? ⟨F, i, none⟩ = some (.pointer (some ⟨pbc1 i, 0, none⟩)) := by
              have := hcp2.tab.cellAt (rowF_get hlt)
              rw [hTi] at this
              exact this
            generalize svo sb (S.fd i k) = V at *
            generalize hpx : pbc1 i = px at *
            have HPX := Lib.hid hpx
            clear hcp2 hTi hpx
            go_wp2_with fail
            go_quiet (fail)
            rename_i nq
            have HCPZ := Lib.hid (HCP2.out.upd0 ((Upd.refl [] wq).drewN nq))
            clear d0 hsrc HCP2
            generalize wq.drewN nq = wz at *
            have d0 : wz.cell? ⟨F, i, none⟩ = some (.pointer (some ⟨px, 0, none⟩)) := by
              have := HCPZ.out.tab.cellAt (rowF_get hlt)
              rw [HTI.out, HPX.out] at this
              exact this
            go_wp2_with fail
            go_region_with (go_at_call 38; refine (HTW.out _ _ _ _ _ (HCPZ.out.upd0 ((Upd.refl [] wz).drew))).mono ?_; rintro e w2 ⟨own3, sbc3, seen3, ps3, rfl, hc3, hse3⟩; rw [sv_ptr]; have e0 : w2.cell? ⟨F, i, none⟩ = some (.pointer (some ⟨px, 0, none⟩)) := (by have := hc3.tab.cellAt (rowF_get hlt); rw [HTI.out, HPX.out] at this; exact this); have e1 : w2.cell? ⟨px, k, none⟩ = some (.pointer none) := (by have := (hc3.prc i hlt HTI.out).cellAt (rowF_get hltk); rw [HPX.out] at this; simpa [rR] using this); have z1 : w2.frozen? ⟨px, k, none⟩ = false := (by have := (hc3.prc i hlt HTI.out).frozen k; rw [HPX.out] at this; exact this); have HC3 := Lib.hid hc3; have HSE3 := Lib.hid hse3; clear hc3 hse3)
            all_goals
              have HF3 : Hid (Cp w (w2.setCell ⟨px, k, none⟩ (.pointer (svo sbc3 (S.fd i k)))) F cb m S sb (tT S (i + 1)) (rR i (k + 1)) own3 pbc1 sbc3 seen3 ps3) := Lib.hid (by
                have hput := HC3.out.put hlt HTI.out HSE3.out
                rw [HPX.out, sv_ptr] at hput
                have hRe : ∀ a b, rR i (k + 1) a b = (if a = i ∧ b = k then true else rR i k a b) := fun a b => by
                  unfold rR
                  by_cases hai : a = i
                  · by_cases hbk : b = k
                    · simp [hai, hbk]
                    · have : (b < k + 1) ↔ (b < k) := by omega
                      simp [hai, hbk, this]
                  · simp [hai]
                exact hput.congr (fun a ha => rfl) (fun a ha hT b hb => hRe a b) (fun a b ha hb hR h0 => hput.rs a b ha hb (by rw [← hRe a b]; exact hR) h0))
              clear e0 e1 z1
              go_wp2_with fail
              go_roundw
              case rel => exact ⟨k + 1, _, _, _, _, by omega, by go_num, HF3.out⟩
              case measure => simp [intOf]; omega
          · obtain rfl : k = 8 := by omega
            have HC3 := Lib.hid (hcp2.congr (T' := tT S (i + 1)) (R' := rR (i + 1) 0) (fun a ha => rfl) (fun a ha hT b hb => by
              unfold rR
              by_cases hai : a = i
              · subst hai; simp [hb]
              · have h1 : (a < i + 1) ↔ (a < i) := by omega
                simp [h1, hai]) (fun a b ha hb hR h0 => hcp2.rs a b ha hb (by
              unfold rR at hR ⊢
              by_cases hai : a = i
              · subst hai; simp [hb]
              · have h1 : (a < i + 1) ↔ (a < i) := by omega
                simp [h1] at hR
                simp [hai, hR]) h0))
            clear hcp2
            go_wp2_with fail
            go_roundw
            case rel => exact ⟨i + 1, _, _, _, _, _, by omega, by go_num, HC3.out⟩
            case measure => simp [intOf]; omega
      · have hh' : S.has i = false := by simpa using hh
        rw [hh'] at hck
        simp only [pv] at hck
        have hix := index_ptab cs i hlt _ hck
        have HC1 := Lib.hid (hcp.congr (T' := tT S (i + 1)) (R' := rR (i + 1) 0) (fun a ha => by
          unfold tT
          by_cases hai : a = i
          · subst hai; simp [hh']
          · have : (a < i + 1) ↔ (a < i) := by omega
            simp only [this]) (fun a ha hT b hb => by
          have hai : a ≠ i := by rintro rfl; simp [tT] at hT
          unfold rR
          have : (a < i + 1) ↔ (a < i) := by omega
          simp [this]) (fun a b ha hb hR h0 => hcp.rs a b ha hb (by
          have hai : a ≠ i := by rintro rfl; exact h0 (HG.out.z a b hh')
          unfold rR at hR ⊢
          have : (a < i + 1) ↔ (a < i) := by omega
          simpa [this] using hR) h0))
        clear hcp hck hh hh'
        go_wp2_with fail
        go_roundw
        case rel => exact ⟨i + 1, _, _, _, _, _, by omega, by go_num, HC1.out⟩
        case measure => simp [intOf]; omega
    · obtain rfl : i = 6 := by omega
      have HD := Lib.hid ((hcp.congr (T' := fun a => decide (a < 6) && S.has a) (R' := fun a _ => decide (a < 6)) (fun a ha => rfl) (fun a ha hT b hb => by simp [rR, ha]) (fun a b ha hb hR h0 => hcp.rs a b ha hb (by simp [rR, ha]) h0)).done HP.out)
      have HOL := Lib.hid (show ∀ g, g ∈ own → w.heap.size ≤ g from fun g hg => (hcp.ol g hg).1)
      have HU := Lib.hid hcp.u
      clear hcp
      go_wp2_with fail
      go_ret
      exact ⟨F, own, by simp, ⟨_, _, HD.out⟩, by have := HOL.out; exact this, HU.out⟩

end Go.Proofs.Ytedaffkdfniikaa
