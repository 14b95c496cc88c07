/- The walk of the statement on the ends. -/
import Derived.Test.YtdcecihojidiaaaPipeOpen
namespace Go.Proofs.Ytdcecihojidiaaa
open Go.RowKit

def cellNat (w : World) (p i : Nat) : Nat := match w.cell? ⟨p, i, none⟩ with | some v => (intOf v).toNat | none => 0
theorem cellNat_of {w : World} {p i c : Nat} (h : w.cell? ⟨p, i, none⟩ = some (.int .i64 c)) : cellNat w p i = c := by
  unfold cellNat
  rw [h]
  simp [intOf]

set_option maxRecDepth 100000 in
set_option maxHeartbeats 4000000 in
theorem ends_any (A : Option Addr) (len cap : Nat) (w : World) (hd : Deeds w A len) (hlen : len ≤ 9223372036854775807) :
    Calls Try.prog 6 #[.slice A len cap] w (TruePost w) := by
  have HD := Lib.hid hd
  clear hd
  go_enter Try.func6, Try.ntmps6
  go_wp2_with fail
  refine (play_any A len cap _ HD.out hlen).mono ?_; rintro e w1 ⟨p, r, L, rd, wr, rfl, hb, hu, hps, _⟩
  have HB := Lib.hid hb
  have HU := Lib.hid hu
  clear hb hu
  go_wp2_with fail
  refine (live_any _).mono ?_; rintro e w2 ⟨rfl, hu2⟩
  have HB2 := Lib.hid (HB.out.upd hu2 (by simp) (by simp))
  have HU2 := Lib.hid (HU.out.trans0 hu2)
  clear hu2
  go_wp2_with fail
  go_loopw [] (fun W => (∃ c, PipeAt W p L rd c) ∧ Upd [] w W) (fun W => cellNat W p 27)
  case atStart => exact ⟨⟨_, HB2.out.pipe⟩, HU2.out⟩
  case round =>
    obtain ⟨⟨c, hp⟩, hu⟩ := hrel
    have HP := Lib.hid hp
    have HUr := Lib.hid hu
    have HCN := Lib.hid (cellNat_of hp.cellW)
    clear hp hu
    go_wp2_with fail
    refine (count_any p L rd c _ true HP.out).mono ?_; rintro e w' ⟨rfl, rfl⟩
    by_cases hc : c = 0
    · subst hc
      go_wp2_with fail
      refine (text_any p L rd 0 _ HP.out).mono ?_; rintro e w4 ⟨rfl, hu4⟩
      have HP4 := Lib.hid (HP.out.upd hu4 (by simp))
      have HU4 := Lib.hid (HUr.out.trans0 hu4)
      clear hu4
      go_wp2_with fail
      have hl := HP4.out.len
      have r1 := read_any p L rd 0 24 _ HP4.out
      have e1 : rN L 24 = L.length := by unfold rN; rw [if_neg (by omega)]; omega
      have e2 : rE L 0 24 = 0 := by simp [rE]
      rw [e1, e2, List.take_length, List.drop_length] at r1
      clear e1 e2 hl
      refine r1.mono ?_; rintro e w5 ⟨rfl, hp5, hu5⟩
      have HP5 := Lib.hid hp5
      have HU5 := Lib.hid (HU4.out.trans hu5 (fun s hs => .inr (by simp at hs; omega)))
      clear hp5 hu5 r1
      go_wp2_with fail
      refine (show Calls _ _ _ _ (fun e w' => e = .returned (.tuple #[.string ⟨#[]⟩, .int .i64 0]) ∧ PipeAt w' p [] rd 0 ∧ Upd [p] w5 w') from read_any p [] rd 0 5 w5 HP5.out).mono ?_; rintro e w6 ⟨rfl, hp6, hu6⟩
      have HP6 := Lib.hid hp6
      have HU6 := Lib.hid (HU5.out.trans hu6 (fun s hs => .inr (by simp at hs; omega)))
      clear hp6 hu6
      go_wp2_with fail
      go_loopw [] (fun W => (∃ c, PipeAt W p [] c 0) ∧ Upd [] w W) (fun W => cellNat W p 26)
      case atStart => exact ⟨⟨_, HP6.out⟩, HU6.out⟩
      case round =>
        obtain ⟨⟨d, hp⟩, hu⟩ := hrel
        have HPd := Lib.hid hp
        have HUd := Lib.hid hu
        have HCD := Lib.hid (cellNat_of hp.cellR)
        clear hp hu
        go_wp2_with fail
        refine (count_any p [] d 0 _ false HPd.out).mono ?_; rintro e w' ⟨rfl, rfl⟩
        by_cases hd : d = 0
        · subst hd
          go_wp2_with fail
          refine (show Calls _ _ _ _ (fun e w' => e = .returned (.tuple #[.int .i64 0, .int .i64 9]) ∧ PipeAt w' p [] 0 0 ∧ Upd [p] _ w') from write_any p [] 0 0 ⟨#[120]⟩ _ HPd.out).mono ?_; rintro e w8 ⟨rfl, hp8, hu8⟩
          have HP8 := Lib.hid hp8
          have HU8 := Lib.hid (HUd.out.trans hu8 (fun s hs => .inr (by simp at hs; omega)))
          clear hp8 hu8
          go_wp2_with fail
          refine (show Calls _ _ _ _ (fun e w' => e = .returned (.int .i64 9) ∧ PipeAt w' p [] 0 0 ∧ Upd [p] w8 w') from close_any p [] 0 0 _ true HP8.out).mono ?_; rintro e w9 ⟨rfl, hp9, hu9⟩
          have HU9 := Lib.hid (HU8.out.trans hu9 (fun s hs => .inr (by simp at hs; omega)))
          clear hp9 hu9
          go_wp2_with fail
          go_ret
          exact ⟨by simp, HU9.out⟩
        · have hd' : (0 : Int) < (d : Int) := by omega
          go_wp2_with fail
          have hcl := close_any p [] d 0 _ false HPd.out
          have e1 : downE d = 0 := by simp [downE, hd]
          simp only [Bool.false_eq_true, if_false, e1] at hcl
          refine hcl.mono ?_; rintro e w8 ⟨rfl, hp8, hu8⟩
          have HCD8 := Lib.hid (cellNat_of hp8.cellR)
          have HP8 := Lib.hid hp8
          have HU8 := Lib.hid (HUd.out.trans hu8 (fun s hs => .inr (by simp at hs; omega)))
          clear hp8 hu8 hcl e1
          go_wp2_with fail
          go_roundw
          case rel => exact ⟨⟨_, HP8.out⟩, HU8.out⟩
          case measure => rw [HCD.out, HCD8.out]; omega
    · have hc' : (0 : Int) < (c : Int) := by omega
      go_wp2_with fail
      have hcl := close_any p L rd c _ true HP.out
      have e1 : downE c = 0 := by simp [downE, hc]
      simp only [if_true, e1] at hcl
      refine hcl.mono ?_; rintro e w8 ⟨rfl, hp8, hu8⟩
      have HCD8 := Lib.hid (cellNat_of hp8.cellW)
      have HP8 := Lib.hid hp8
      have HU8 := Lib.hid (HUr.out.trans hu8 (fun s hs => .inr (by simp at hs; omega)))
      clear hp8 hu8 hcl e1
      go_wp2_with fail
      go_roundw
      case rel => exact ⟨⟨_, HP8.out⟩, HU8.out⟩
      case measure => rw [HCN.out, HCD8.out]; omega

end Go.Proofs.Ytdcecihojidiaaa
