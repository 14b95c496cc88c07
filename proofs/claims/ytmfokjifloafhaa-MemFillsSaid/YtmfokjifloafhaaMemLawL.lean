/- The walk of the statement on bytes that are filled over frames. -/
import Derived.Test.YtmfokjifloafhaaMemLaws
namespace Go.Proofs.Ytmfokjifloafhaa
open Go.RowKit

set_option maxRecDepth 100000 in
set_option maxHeartbeats 4000000 in
theorem fills_any (A : Option Addr) (len cap : Nat) (u0 u1 : Nat) (B : Option Addr) (bs : List UInt8) (c : Nat) (w : World) (hd : Deeds w A len) (hlen : len ≤ 9223372036854775807) (hu0 : u0 < 256) (hu1 : u1 < 256) (hr : RdB w B bs) (hc : bs.length ≤ c) :
    Calls Try.prog 3 #[.slice A len cap, .agg #[.int .u8 (u0 : Int), .int .u8 (u1 : Int)], .slice B bs.length c] w (TruePost w) := by
  have hup := (Upd.refl [] w).alloc (.cells #[.int .u8 (u0 : Int), .int .u8 (u1 : Int)] 23)
  have hn2 := Blk.new w 23 #[.int .u8 (u0 : Int), .int .u8 (u1 : Int)]
  have HD := Lib.hid (hd.upd hup)
  have HR0 := Lib.hid hr
  have HUP := Lib.hid hup
  have HN2 := Lib.hid hn2
  have HFEW := Lib.hid (fun W => few_any B bs.length c W hc)
  have hK : (bs.take 200).length = min bs.length 200 := by simp; omega
  have HK := Lib.hid hK
  have hKc : min bs.length 200 ≤ c := by omega
  have hK200 : min bs.length 200 ≤ 200 := by omega
  clear hd hup hn2 hr hK
  generalize hcs : bs.take 200 = cs at *
  have HCS := Lib.hid hcs
  have hc' := hc
  clear hc hcs
  generalize min bs.length 200 = K at *
  generalize bs.length = bl at *
  go_enter Try.func3, Try.ntmps3
  go_wp2_with fail
  generalize (w.alloc (.cells #[.int .u8 (u0 : Int), .int .u8 (u1 : Int)] 23)) = W1 at *
  have hlt2 := HN2.out.lt
  generalize w.heap.size = N2 at *
  refine (show Calls Try.prog 10 #[.int .u8 5, .slice A len cap] _ (PlayPost _ 6) from play_any 5 (by omega) A len cap _ HD.out hlen).mono ?_; rintro e w1 ⟨m, fb, r, rb, L, rfl, hb, hu, hm0, hfb0, _, _⟩
  have HB := Lib.hid hb
  have HU := Lib.hid hu
  clear hb hu
  go_wp2_with fail
  refine (live_any _).mono ?_; rintro e w2 ⟨rfl, hu2⟩
  have HB2 := Lib.hid (HB.out.upd hu2 (by simp) (by simp) (by simp) (by simp))
  have HU2 := Lib.hid (HU.out.trans0 hu2)
  have c0 : w2.cell? ⟨N2, 0, none⟩ = some (.int .u8 (u0 : Int)) := HU2.out.lt_old (HN2.out.cellAt (i := 0) rfl)
  have c1 : w2.cell? ⟨N2, 1, none⟩ = some (.int .u8 (u1 : Int)) := HU2.out.lt_old (HN2.out.cellAt (i := 1) rfl)
  obtain ⟨cz, Xz, hz⟩ := HB2.out.mem
  have hcell := hz.cell
  have hlen2 := Lib.hid hz.len
  clear hu2 hz
  go_wp2_with fail
  refine (HFEW.out _).mono ?_; rintro e w' ⟨rfl, rfl⟩
  go_wp2_with fail
  have e0 : (u0 : Int).tmod 6 = ((u0 % 6 : Nat) : Int) := by rw [Int.tmod_eq_emod_of_nonneg (by omega)]; omega
  have e1 : (u1 : Int).tmod 32 = ((u1 % 32 : Nat) : Int) := by rw [Int.tmod_eq_emod_of_nonneg (by omega)]; omega
  have s1 := Lib.hid (fun k : Nat => mem_size m fb 6 cz (w2.drewN k) hcell)
  go_quiet ((go_at_call 13; exact Calls.quiet_of_same ((s1.out _).mono fun e w' ⟨h1, h2⟩ => ⟨h1, h2.symm⟩)))
  go_wp2_with fail
  have HB3 := Lib.hid (HB2.out.mem.drewN nq)
  have HU3 := Lib.hid (HU2.out.drewN nq)
  rw [show (u0 : Int) % 6 = ((u0 % 6 : Nat) : Int) by omega, show (u1 : Int) % 32 = ((u1 % 32 : Nat) : Int) by omega]
  have ha : u0 % 6 < 6 := by omega
  have hb : u1 % 32 < 32 := by omega
  generalize u0 % 6 = a at *
  generalize u1 % 32 = b at *
  clear e0 e1 c0 c1 hcell s1 HB2 HU2 
  generalize w2.drewN nq = w3 at *
  have hR3 : RdB w3 B cs := by
    have := (HR0.out).take200 (HUP.out.trans0 HU3.out) (fun _ _ _ _ => by simp)
    rw [HCS.out] at this
    exact this
  have HR3 := Lib.hid hR3
  have hBfb : 0 < cs.length → ∀ p q, B = some ⟨p, q, none⟩ → p ≠ fb := fun hk p q he => by
    have h1 : RdB W1 B cs := by
      have := (HR0.out).take200 HUP.out (fun _ _ _ _ => by simp)
      rw [HCS.out] at this
      exact this
    have := h1.lt hk p q he
    omega
  have HBF := Lib.hid hBfb
  have hfill := mem_fill m fb 6 L a b B c cs w3 HB3.out hR3 hBfb (by rw [HK.out]; omega)
  rw [HK.out, Int.toNat_natCast, Int.toNat_natCast] at hfill
  clear hR3 hBfb
  by_cases hfit : fits 6 a b K
  · rw [if_pos hfit, if_pos hfit] at hfill
    refine hfill.mono ?_; rintro e w4 ⟨rfl, hm4, hu4⟩
    have hle : 32 * a + b + K ≤ 192 := by have := hfit.2.2.2.2; omega
    have HM4 := Lib.hid hm4
    have HU4 := Lib.hid (HU3.out.trans hu4 (fun s hs => .inr (by simp at hs; omega)))
    have HR4 := Lib.hid (HR3.out.upd hu4 (fun hk p q he => by simp; exact HBF.out hk p q he))
    obtain ⟨cy, Xy, hy⟩ := HM4.out
    have hcell := hy.cell
    clear hfill hm4 hu4 hfit hy
    have i9 : ((K : Int) ≤ (6 - (a : Int)) * 32 - (b : Int)) := by omega
    go_wp2_with fail
    go_loopw [12] (fun v wr => ∃ j : Nat, j ≤ K ∧ v = .int .i64 (j : Int) ∧ wr = w4) (fun v _ => K - (intOf v).toNat)
    case atStart => exact ⟨0, by omega, rfl, rfl⟩
    case round =>
      obtain ⟨j, hj, rfl, rfl⟩ := hrel
      by_cases hlt : j < K
      · have hjc : j < cs.length := by rw [HK.out]; exact hlt
        obtain ⟨sb, so, rfl, hsrc⟩ := HR4.out (by omega)
        have hrd := hsrc j cs[j] (List.getElem?_eq_getElem hjc)
        have hq := putAt_getD_in L cs (32 * a + b) j (by rw [hlen2.out, HK.out]; omega) hjc
        rw [List.getD_eq_getElem?_getD, List.getD_eq_getElem?_getD, List.getElem?_eq_getElem hjc] at hq
        have hby := mem_byte m fb 6 (putAt L (32 * a + b) cs) ((a : Int) + ((b : Int) + (j : Int)) / 32) (((b : Int) + (j : Int)) % 32) wr HM4.out
        rw [if_pos (by omega)] at hby
        rw [show 32 * ((a : Int) + ((b : Int) + (j : Int)) / 32).toNat + (((b : Int) + (j : Int)) % 32).toNat = 32 * a + b + j by omega, List.getD_eq_getElem?_getD, hq] at hby
        simp only [Option.getD_some] at hby
        have HBY := Lib.hid hby
        generalize (cs[j].toNat : Int) = V at *
        have kV : (V == V) = true := by simp
        have kV' : (V != V) = false := by simp
        have i1 : (j : Int) < (K : Int) := by omega
        have i0 : (0 : Int) ≤ (j : Int) := by omega
        clear hby hsrc hq
        go_wp2_with fail
        refine HBY.out.mono ?_; rintro e w' ⟨rfl, rfl⟩
        go_wp2_with fail
        go_roundw
        case rel => exact ⟨j + 1, by omega, by go_num, trivial⟩
        case measure => simp [intOf]; omega
      · have hjk : j = K := by omega
        subst hjk
        go_wp2_with (go_at_call 13; refine (mem_size m fb 6 _ _ hcell).mono ?_; rintro e w' ⟨rfl, rfl⟩)
        go_ret
        exact ⟨by simp, HUP.out.trans0 HU4.out⟩
  · rw [if_neg hfit, if_neg hfit] at hfill
    refine hfill.mono ?_; rintro e w4 ⟨rfl, hm4, hu4⟩
    have hgt : (6 - (a : Int)) * 32 - (b : Int) < (K : Int) := by
      by_cases h9 : 32 * a + b + K ≤ 192
      · exact absurd ⟨by omega, by omega, by omega, by omega, by omega⟩ hfit
      · omega
    have HU4 := Lib.hid (HU3.out.trans hu4 (fun s hs => .inr (by simp at hs; omega)))
    obtain ⟨cy, Xy, hy⟩ := hm4
    have hcell := hy.cell
    clear hfill hu4 hfit hy
    go_wp2_with (go_at_call 13; refine (mem_size m fb 6 _ _ hcell).mono ?_; rintro e w' ⟨rfl, rfl⟩)
    go_ret
    exact ⟨by simp, HUP.out.trans0 HU4.out⟩

end Go.Proofs.Ytmfokjifloafhaa
