/- The reference's Wait. -/
import Derived.Test.YtocmochdgidcmaaProcN
namespace Go.Proofs.Ytocmochdgidcmaa
open Go.RowKit

def deadB (T : List PS) (x : Nat) : Bool := stP (getP T x) == 2
def waitF (T : List PS) (pid : Int) : Option Nat := (kids T pid).find? (deadB T)
def waitE (T : List PS) (pid : Int) : Int := match getP T pid with
  | .liv _ => (match waitF T pid with
    | some _ => 0
    | none => if kids T pid = [] then 3 else 12)
  | _ => 5
def waitA (T : List PS) (pid : Int) : Int := match getP T pid with
  | .liv _ => (match waitF T pid with
    | some x => (x : Int)
    | none => 0)
  | _ => 0
def waitS (T : List PS) (pid : Int) : Int := match getP T pid with
  | .liv _ => (match waitF T pid with
    | some x => statP (getP T x)
    | none => 0)
  | _ => 0
def waitT (T : List PS) (pid : Int) : List PS := match getP T pid with
  | .liv _ => (match waitF T pid with
    | some x => T.set x .none
    | none => T)
  | _ => T
theorem seen_mem {G : List Nat → List PS} {pid : Int} : ∀ {n x : Nat}, x ∈ seen G pid n → 1 ≤ x ∧ x ≤ n := by
  intro n
  induction n with
  | zero => intro x h; simp [seen] at h
  | succ n ih =>
    intro x h
    unfold seen at h
    split at h
    · rcases List.mem_append.1 h with h | h
      · have := ih h; omega
      · simp at h; omega
    · have := ih h; omega
theorem find_at {α : Type} (p : α → Bool) : ∀ (l : List α) (j : Nat) (x : α), l[j]? = some x → (∀ y, y ∈ l.take j → p y = false) → p x = true → l.find? p = some x := by
  intro l
  induction l with
  | nil => intro j x h; simp at h
  | cons a l ih =>
    intro j x h hn hx
    cases j with
    | zero => simp at h; subst h; simp [hx]
    | succ j =>
      have ha := hn a (by simp)
      rw [List.find?_cons_of_neg (by simp [ha])]
      exact ih j x (by simpa using h) (fun y hy => hn y (by simp [hy])) hx
theorem find_no {α : Type} (p : α → Bool) (l : List α) (hn : ∀ y, y ∈ l → p y = false) : l.find? p = none := by
  rw [List.find?_eq_none]
  intro y hy
  simp [hn y hy]
theorem take_step {α : Type} {p : α → Bool} {l : List α} {j : Nat} {x : α} (h : l[j]? = some x) (hn : ∀ y, y ∈ l.take j → p y = false) (hx : p x = false) : ∀ y, y ∈ l.take (j + 1) → p y = false := by
  intro y hy
  rw [List.take_add_one, h] at hy
  simp at hy
  rcases hy with hy | rfl
  · exact hn y hy
  · exact hx

set_option maxRecDepth 100000 in
set_option maxHeartbeats 4000000 in
theorem rwait_any (r : Nat) (T : List PS) (pid : Int) (w : World) (h : RTabAt w r T) :
    Calls Try.prog 38 #[.pointer (some ⟨r, 0, none⟩), .int .i64 pid] w fun e w' =>
      e = .returned (.tuple #[.int .i64 (waitA T pid), .int .i64 (waitS T pid), .int .i64 (waitE T pid)]) ∧ RTabAt w' r (waitT T pid) ∧ Upd [r] w w' := by
  have HR := Lib.hid (rruns_any r T pid w h)
  have HT := Lib.hid h
  cases hp : getP T pid with
  | none =>
    rw [hp] at HR
    unfold runE at HR
    rw [show waitE T pid = 5 by simp [waitE, hp], show waitA T pid = 0 by simp [waitA, hp], show waitS T pid = 0 by simp [waitS, hp], show waitT T pid = T by simp [waitT, hp]]
    clear hp h
    go_enter Try.func38, Try.ntmps38
    go_wp2_with fail
    refine HR.out.mono ?_; rintro e w1 ⟨rfl, rfl⟩
    go_wp2_with fail
    go_ret3
    exact ⟨rfl, HT.out, Upd.refl _ _⟩
  | dead p q =>
    rw [hp] at HR
    unfold runE at HR
    rw [show waitE T pid = 5 by simp [waitE, hp], show waitA T pid = 0 by simp [waitA, hp], show waitS T pid = 0 by simp [waitS, hp], show waitT T pid = T by simp [waitT, hp]]
    clear hp h
    go_enter Try.func38, Try.ntmps38
    go_wp2_with fail
    refine HR.out.mono ?_; rintro e w1 ⟨rfl, rfl⟩
    go_wp2_with fail
    go_ret3
    exact ⟨rfl, HT.out, Upd.refl _ _⟩
  | liv p =>
    rw [hp] at HR
    unfold runE at HR
    have HC := Lib.hid (rchildren_any r T pid w h)
    rw [show kidsOf T pid = kids T pid by unfold kidsOf; rw [hp]] at HC
    have HWF := Lib.hid (show waitF T pid = (kids T pid).find? (deadB T) from rfl)
    have HM : Hid (∀ x, x ∈ kids T pid → 1 ≤ x ∧ x ≤ 5) := Lib.hid (fun x hx => seen_mem hx)
    have HL5 : Hid ((kids T pid).length ≤ 5) := Lib.hid (seen_le _ pid 5)
    have HE := Lib.hid (show waitE T pid = (match waitF T pid with | some _ => 0 | none => if kids T pid = [] then 3 else 12) by simp only [waitE, hp])
    have HA := Lib.hid (show waitA T pid = (match waitF T pid with | some x => (x : Int) | none => 0) by simp only [waitA, hp])
    have HS := Lib.hid (show waitS T pid = (match waitF T pid with | some x => statP (getP T x) | none => 0) by simp only [waitS, hp])
    have HZ := Lib.hid (show waitT T pid = (match waitF T pid with | some x => T.set x .none | none => T) by simp only [waitT, hp])
    clear hp h
    generalize waitE T pid = wE at *
    generalize waitA T pid = wA at *
    generalize waitS T pid = wS at *
    generalize waitT T pid = wT at *
    generalize waitF T pid = wF at *
    generalize kids T pid = ks at *
    go_enter Try.func38, Try.ntmps38
    go_wp2_with fail
    refine HR.out.mono ?_; rintro e w1 ⟨rfl, rfl⟩
    go_wp2_with fail
    refine HC.out.mono ?_; rintro e w1 ⟨v, rfl, hown, hu⟩
    rw [ints_nums] at hown
    obtain ⟨A, c, rfl, hle, hrd, hlo⟩ := RdV.of_own hown
    have HR1 := Lib.hid (HT.out.upd hu (by simp))
    have HU1 := Lib.hid (hu.zero [r])
    have HRD := Lib.hid hrd
    have HLO : Hid (0 < (nums ks).length → ∀ b o, A = some ⟨b, o, none⟩ → b ≠ r) := Lib.hid (fun _ b o he hb => by
      have h1 := (hlo b o he).1
      have h2 := HT.out.1.lt
      omega)
    have hl5 := HL5.out
    clear hown hu hrd hlo HR HC
    by_cases hz : ks = []
    · subst hz
      have HW : Hid (wF = none) := Lib.hid (by rw [HWF.out]; rfl)
      go_wp2_with fail
      go_ret3
      rw [HE.out, HA.out, HS.out, HZ.out, HW.out]
      exact ⟨rfl, HR1.out, HU1.out⟩
    · have hpos : 0 < ks.length := List.length_pos_iff.2 hz
      have hpos' : ((ks.length : Int) == 0) = false := by rw [beq_eq_false_iff_ne]; omega
      have HKN := Lib.hid hz
      clear hz
      go_wp2_with fail
      go_loopw [9] (fun v wr => ∃ j : Nat, j ≤ ks.length ∧ v = .int .i64 (j : Int) ∧ RTabAt wr r T ∧ RdV wr A ((nums ks).map (Value.int .i64)) ∧ Upd [r] w wr ∧ (∀ y, y ∈ ks.take j → deadB T y = false)) (fun v _ => ks.length - (intOf v).toNat)
      case atStart => exact ⟨0, by omega, rfl, HR1.out, HRD.out, HU1.out, by simp⟩
      case round =>
        obtain ⟨j, hj, rfl, hR, hrd, hu, hno⟩ := hrel
        have HR := Lib.hid hR
        have HU := Lib.hid hu
        have HNO := Lib.hid hno
        by_cases hlt : j < ks.length
        · obtain ⟨n, hn⟩ : ∃ n, ks[j]? = some n := ⟨_, List.getElem?_eq_getElem hlt⟩
          have HN := Lib.hid hn
          obtain ⟨b, o, rfl, hcs⟩ := hrd (by simp [nums_length]; omega)
          have hc := hcs j (.int .i64 (n : Int)) (by simp [nums, hn])
          have hbr := HLO.out (by simp [nums_length]; omega) b o rfl
          have HRD2 := Lib.hid hrd
          have hm := HM.out n (List.mem_of_getElem? hn)
          have n6 : n < 6 := by omega
          have i0 : (0 : Int) ≤ (n : Int) := by omega
          have i1 : (n : Int) < 6 := by omega
          have j1 : (j : Int) < (ks.length : Int) := by omega
          have hc0 := HR.out.cell (i := n) n6 (j := 0) (by omega) (encR_0 _)
          rw [Nat.add_zero] at hc0
          clear hn hcs hm hR hu hno hrd
          by_cases hd : deadB T n = true
          · have hst : stP (getP T n) = 2 := by simpa [deadB] using hd
            have HW : Hid (wF = some n) := Lib.hid (by rw [HWF.out]; exact find_at _ _ j n HN.out HNO.out hd)
            have hc1 := HR.out.cell (i := n) n6 (j := 1) (v := .int .i64 (parR (getP T n))) (by omega) (by rw [encR_eq]; rfl)
            have hc2 := HR.out.cell (i := n) n6 (j := 2) (v := .int .i64 (statP (getP T n))) (by omega) (by rw [encR_eq]; rfl)
            rw [hst] at hc0
            have f0 := HR.out.1.frozen (n * 3)
            have f1 := HR.out.1.frozen (n * 3 + 1)
            have f2 := HR.out.1.frozen (n * 3 + 2)
            have HS3 := Lib.hid (HR.out.set3 n6 .none)
            clear hd hst
            generalize parR (getP T n) = pp at *
            generalize hss : statP (getP T n) = ss at *
            have HSS := Lib.hid hss
            clear hss
            go_wp2_with fail
            go_quiet (fail)
            go_wp2_with fail
            go_quiet (fail)
            go_wp2_with fail
            go_region
            all_goals go_wp2_with fail
            all_goals go_ret3
            all_goals
              rw [show wE = 0 by rw [HE.out, HW.out], show wA = (n : Int) by rw [HA.out, HW.out], show wS = ss by rw [HS.out, HW.out]; exact HSS.out, show wT = T.set n .none by rw [HZ.out, HW.out]]
              refine ⟨rfl, RTabAt.set3 ⟨HR.out.1, HR.out.2⟩ n6 .none, ?_⟩
              refine Upd.setCell (Upd.setCell (Upd.setCell ?_ (by simp) _) (by simp) _) (by simp) _
              exact ⟨HU.out.os, HU.out.tape, HU.out.output, HU.out.size, HU.out.block⟩
          · have hb : ((stP (getP T n) : Int) == 2) = false := by
              rw [beq_eq_false_iff_ne]
              intro h
              exact hd (by simp [deadB]; omega)
            have HD := Lib.hid (show deadB T n = false by simpa using hd)
            clear hd
            generalize stP (getP T n) = q at *
            go_wp2_with fail
            go_quiet (fail)
            go_wp2_with fail
            go_roundw
            case rel => exact ⟨j + 1, by omega, by go_num, ⟨HR.out.1, HR.out.2⟩, HRD2.out.drewN _, HU.out.drewN _, take_step HN.out HNO.out HD.out⟩
            case measure => simp [intOf]; omega
        · obtain rfl : j = ks.length := by omega
          have HW : Hid (wF = none) := Lib.hid (by rw [HWF.out]; refine find_no _ _ (fun y hy => HNO.out y (by rw [List.take_of_length_le (Nat.le_refl _)]; exact hy)))
          clear hR hrd hu hno
          go_wp2_with fail
          go_ret3
          rw [HE.out, HA.out, HS.out, HZ.out, HW.out]
          refine ⟨?_, HR.out, HU.out⟩
          rw [if_neg HKN.out]
          rfl

end Go.Proofs.Ytocmochdgidcmaa
