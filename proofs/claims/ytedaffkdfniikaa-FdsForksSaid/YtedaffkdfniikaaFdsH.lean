/- Fork. -/
import Derived.Test.YtedaffkdfniikaaFdsG
namespace Go.Proofs.Ytedaffkdfniikaa
open Go.RowKit Go.Shelf

theorem info_proc : (Try.prog.info? 67).map (·.size) = some 8 := by kernel_rfl
theorem pv_one (b : Bool) (x : Nat) : (pv b x).oneCell' = true := by unfold pv; split <;> rfl
theorem sv_one (f : Nat → Nat) (n : Nat) : (sv f n).oneCell' = true := by unfold sv; split <;> rfl
theorem cnt_setF0 (S : St) (i k : Nat) (h : S.fd i k = 0) : withF S (setF S.fd i k 0) = S := by
  have : setF S.fd i k 0 = S.fd := by rw [← h, setF_same]
  unfold withF
  rw [this]
theorem frkL_succ (S : St) (i j k : Nat) : frkL S i j (k + 1) = withF (frkL S i j k) (setF (frkL S i j k).fd j k (S.fd i k)) := by
  have h := frkL_all S i j k
  unfold withF
  rw [h.1, h.2]
  rfl
theorem frkL_zero {S : St} {i j k : Nat} (h : S.fd i k = 0) (h2 : (frkL S i j k).fd j k = 0) : frkL S i j (k + 1) = frkL S i j k := by
  have e : frkL S i j (k + 1) = withF (frkL S i j k) (setF (frkL S i j k).fd j k (S.fd i k)) := frkL_succ S i j k
  rw [e, h, cnt_setF0 _ _ _ h2]
theorem info_shp : (Try.prog.info? 65).map (fun i => i.size) = some 1 := by kernel_rfl
theorem size_shp (w : World) : (sizeOf 65).run Try.prog w = .ok 1 w := by kernel_rfl
theorem part_shp (cs : Array Value) (k : Nat) (v : Value) (hv : cs[k]? = some v) (W : World) : (part 65 cs k).run Try.prog W = .ok v W := by
  simp [part, hv]
theorem index_proc (cs : Array Value) (k : Nat) (hk : k < 8) (v : Value) (hv : cs[k]? = some v) (W : World) : (Instr.index 67 (.agg cs) (.int .i64 (k : Int))).run Try.prog W = .ok v W := by
  simp [Instr.index, asIntOf]
  rw [if_pos hk]
  exact part_shp cs k v hv W
theorem frkL_cnt {S : St} {i j : Nat} (hij : i ≠ j) (hi : i < 6) {k : Nat} (hk : k < 8) (n : Nat) : cntF (frkL S i j n).fd (S.fd i k) ≠ 0 :=
  cnt_of (i := i) (k := k) hi hk (by rw [frkL_fd S i j hij, if_neg (fun e => hij e.1)])

set_option maxRecDepth 100000 in
set_option maxHeartbeats 2000000 in
theorem fork_any (t : Nat) (own : List Nat) (S : St) (pb sb : Nat → Nat) (w : World) (h : Prog w t own S pb sb) (hg : Good S) (p q : Int) :
    Calls Try.prog 13 #[.pointer (some ⟨t, 0, none⟩), .int .i64 p, .int .i64 q] w (PChg w t own (.int .i64 (frkE S p q)) (frkS S p q)) := by
  have HF := Lib.hid (of_any t own S pb sb w h p)
  have HR := Lib.hid (fresh_any t own S pb sb w h q)
  have H := Lib.hid h
  unfold ofV at HF
  by_cases he : ofE S p = 0
  · obtain ⟨p0, p1, hh⟩ := ofE_ok he
    simp only [he, pv, decide_true, if_true] at HF
    have hEq : frkE S p q = frE S q := by unfold frkE; rw [if_pos he]
    by_cases hf : frE S q = 0
    · rw [hf] at HR hEq
      obtain ⟨_, _, hne⟩ := frkE_ok hEq
      obtain ⟨q0, q1, hq⟩ := frE_ok hf
      have HS := Lib.hid (show frkS S p q = setH (frkL S p.toNat q.toNat 8) q.toNat true by unfold frkS; rw [if_pos hEq])
      have HEQ := Lib.hid hEq
      obtain ⟨i, hi⟩ : ∃ i, i = p.toNat := ⟨_, rfl⟩
      have hpi : p = (i : Int) := by omega
      subst hpi
      obtain ⟨j, hj⟩ : ∃ j, j = q.toNat := ⟨_, rfl⟩
      have hqj : q = (j : Int) := by omega
      subst hqj
      simp only [Int.toNat_natCast] at hh hq hne HF HS
      have i6 : i < 6 := by omega
      have j6 : j < 6 := by omega
      have HHI := Lib.hid (fun n => show (frkL S i j n).has i = true by rw [(frkL_all S i j n).1]; exact hh)
      have HHJ := Lib.hid (fun n => show (frkL S i j n).has j = false by rw [(frkL_all S i j n).1]; exact hq)
      have HFD := Lib.hid (frkL_fd S i j hne)
      have HCN := Lib.hid (fun k (hk : k < 8) n => frkL_cnt (S := S) hne i6 (k := k) hk n)
      have HG := Lib.hid hg
      have HQ := Lib.hid hq
      have hblk := h.prc i i6 hh
      obtain ⟨cs, hcs⟩ : ∃ cs, cs = rowF 8 fun k => sv sb (S.fd i k) := ⟨_, rfl⟩
      have HCS := Lib.hid hcs
      rw [← hcs] at hblk
      have hra : w.rangeAt (pb i) 0 cs.toList := fun k v hv => by rw [Nat.zero_add]; exact hblk.cellAt (by simpa using hv)
      have hsz : cs.size = 8 := by rw [hcs, rowF_size]
      have HSZ := Lib.hid hsz
      have HONE : Hid (cs.all (·.oneCell') = true) := Lib.hid (by rw [hcs]; simp [rowF, sv_one])
      have HRA := Lib.hid hra
      generalize hy : pb i = y at *
      have HNE := Lib.hid hne
      clear h he hf hh hi hj hy hcs hsz hblk hra hEq hg hq hne
      go_enter Try.func13, Try.ntmps13
      go_wp2_with fail
      refine HF.out.mono ?_; rintro e w' ⟨rfl, rfl⟩
      go_wp2_with fail
      refine HR.out.mono ?_; rintro e w' ⟨rfl, rfl⟩
      have HB1 : Hid (Blk (w'.alloc (.cells cs 67)) w'.heap.size ProcT cs) := Lib.hid (Blk.new w' ProcT cs)
      have HRB := Lib.hid (show (w'.alloc (.cells cs 67)).rangeAt w'.heap.size 0 cs.toList from fun k v hv => by rw [Nat.zero_add]; exact HB1.out.cellAt (by simpa using hv))
      have HP1 : Hid (Prog (w'.alloc (.cells cs 67)) t own S pb sb) := Lib.hid (H.out.upd0 ((Upd.refl [] w').alloc _))
      have HU1 : Hid (Upd own w' (w'.alloc (.cells cs 67))) := Lib.hid ((Upd.refl own w').alloc _)
      have HLT := Lib.hid H.out.ol
      go_wp2_with (first
        | (refine wpList_load_midg rfl 67 _ rfl y 0 rfl cs.toList _ HRA.out under_proc rfl (by rw [info_proc, Array.length_toList, HSZ.out]) ?_)
        | (refine wpList_store_new rfl 67 _ _ rfl cs rfl rfl 67 _ (by rw [info_proc, HSZ.out]) (show 8 = cs.size by rw [HSZ.out]) HONE.out ?_)
        | (refine wpList_load_midg rfl 67 _ rfl w'.heap.size 0 rfl cs.toList _ HRB.out under_proc rfl (by rw [info_proc, Array.length_toList, HSZ.out]) ?_))
      generalize (w'.alloc (.cells cs 67)) = W1 at *
      generalize hN : w'.heap.size = N at *
      have HN := Lib.hid hN
      clear hN
      go_loopw [32] (fun v wr => ∃ k : Nat, k ≤ 8 ∧ v = .int .i64 (k : Int) ∧ Prog wr t own (frkL S i j k) pb sb ∧ Upd own w' wr ∧ Blk wr N ProcT cs) (fun v _ => 8 - (intOf v).toNat)
      case atStart => exact ⟨0, by omega, rfl, HP1.out, HU1.out, HB1.out⟩
      case round =>
        obtain ⟨k, hk, rfl, hpr, hu, hb⟩ := hrel
        have HPR := Lib.hid hpr
        have HU := Lib.hid hu
        have HB := Lib.hid hb
        by_cases hlt : k < 8
        · have j0 : (0 : Int) ≤ (k : Int) := by omega
          have j1 : (k : Int) < 8 := by omega
          have hck : cs[k]? = some (sv sb (S.fd i k)) := by rw [HCS.out, rowF_get hlt]
          have hjk : (frkL S i j k).fd j k = 0 := by rw [HFD.out, if_neg (by omega)]; exact HG.out.z j k HQ.out
          by_cases h0 : S.fd i k = 0
          · have HZ := Lib.hid (frkL_zero h0 hjk)
            simp only [sv, h0, if_true] at hck
            have hix := index_proc cs k hlt _ hck
            clear hpr hu hb h0 hjk hck
            go_wp2_with fail
            go_roundw
            case rel => exact ⟨k + 1, by omega, by go_num, by rw [HZ.out]; exact HPR.out, HU.out, HB.out⟩
            case measure => simp [intOf]; omega
          · have hcn := HCN.out k hlt k
            have hle := cnt_le (frkL S i j k).fd (S.fd i k)
            have hsh := hpr.shr _ h0 hcn
            have c3 := hsh.cellAt (i := 3) (v := .int .i64 (cntF (frkL S i j k).fd (S.fd i k) : Int)) rfl
            have f3 := hsh.frozen 3
            have HP2 := Lib.hid (hpr.upF j6 (HHJ.out k) hlt hjk h0 hcn)
            rw [← frkL_succ] at HP2
            have HU2 := Lib.hid (hu.setCell (p := ⟨sb (S.fd i k), 3, none⟩) (.inl (hpr.os _ h0 hcn)) (.int .i64 ((cntF (frkL S i j k).fd (S.fd i k) : Int) + 1)))
            have HB2 := Lib.hid (hb.far (p := ⟨sb (S.fd i k), 3, none⟩) (hb.ne_ hsh (by decide)) (.int .i64 ((cntF (frkL S i j k).fd (S.fd i k) : Int) + 1)))
            simp only [sv, h0, if_false] at hck
            have hix := index_proc cs k hlt _ hck
            have i0 : (0 : Int) ≤ (cntF (frkL S i j k).fd (S.fd i k) : Int) := by omega
            have i1 : (cntF (frkL S i j k).fd (S.fd i k) : Int) ≤ 48 := by omega
            clear hpr hu hb h0 hjk hck hcn hle hsh
            generalize (cntF (frkL S i j k).fd (S.fd i k) : Int) = cc at *
            generalize sb (S.fd i k) = z at *
            go_wp2_with fail
            go_roundw
            case rel => exact ⟨k + 1, by omega, by go_num, HP2.out, HU2.out, HB2.out⟩
            case measure => simp [intOf]; omega
        · obtain rfl : k = 8 := by omega
          have c0 := hpr.cellT j6
          have f0 := hpr.tab.frozen j
          have hbb : Blk wr N ProcT (rowF 8 fun k => sv sb ((frkL S i j 8).fd j k)) := by
            have e : rowF 8 (fun k => sv sb ((frkL S i j 8).fd j k)) = cs := by
              rw [HCS.out]
              exact rowF_congr fun k hk => by rw [HFD.out, if_pos ⟨rfl, hk⟩]
            rw [e]
            exact hb
          have HP2 := Lib.hid (hpr.begin (HHJ.out 8) hbb (fun x hx hhx => by have h1 := hpr.op x hx hhx; have h2 := HLT.out _ h1; have h3 := HN.out; omega))
          have HU2 := Lib.hid (hu.setCell (p := ⟨t, j, none⟩) (.inl hpr.ot) (.pointer (some ⟨N, 0, none⟩)))
          clear hpr hu hb hbb
          generalize pv ((frkL S i j 8).has j) (pb j) = vv at *
          go_wp2_with fail
          go_ret
          simp
          rw [HEQ.out, HS.out]
          exact PChg.of1 HP2.out (by rw [HN.out]; exact Nat.le_refl _) HU2.out
    · have HEQ := Lib.hid hEq
      have HS := Lib.hid (show frkS S p q = S by unfold frkS; rw [hEq, if_neg hf])
      have hb : (frE S q == 0) = false := by simp [hf]
      have hb' : (frE S q != 0) = true := by simp [hf]
      generalize frE S q = ev at *
      generalize pb p.toNat = y at *
      clear h he hf hh hEq
      go_enter Try.func13, Try.ntmps13
      go_wp2_with fail
      refine HF.out.mono ?_; rintro e w' ⟨rfl, rfl⟩
      go_wp2_with fail
      refine HR.out.mono ?_; rintro e w' ⟨rfl, rfl⟩
      go_wp2_with fail
      go_ret
      simp
      rw [HEQ.out, HS.out]
      exact PChg.same H.out (Upd.refl _ _)
  · have hO := ofE_no he
    have HEQ := Lib.hid (show frkE S p q = 5 by unfold frkE; rw [if_neg he])
    have HS := Lib.hid (show frkS S p q = S by unfold frkS frkE; rw [if_neg he, if_neg (by decide)])
    rw [hO] at HF
    simp only [pv] at HF
    generalize pb p.toNat = y at *
    clear h he hO
    go_enter Try.func13, Try.ntmps13
    go_wp2_with fail
    refine HF.out.mono ?_; rintro e w' ⟨rfl, rfl⟩
    go_wp2_with fail
    go_ret
    simp
    rw [HEQ.out, HS.out]
    exact PChg.same H.out (Upd.refl _ _)

end Go.Proofs.Ytedaffkdfniikaa
