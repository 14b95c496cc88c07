/- The walks of the statements on processes: what they play, their ends. -/
import Derived.Test.YtocmochdgidcmaaProcOpen
namespace Go.Proofs.Ytocmochdgidcmaa
open Go.RowKit

set_option maxHeartbeats 1000000 in
theorem plays_any (A : Option Addr) (len cap : Nat) (w : World) (hd : Deeds w A len) (hlen : len ≤ 9223372036854775807) :
    Calls Try.prog 6 #[.slice A len cap] w (TruePost w) := by
  have HD := Lib.hid hd
  clear hd
  go_enter Try.func6, Try.ntmps6
  go_wp2_with fail
  refine (play_any A len cap _ HD.out hlen).mono ?_; rintro e w1 ⟨p, r, T, rfl, hb, hu, _, _⟩
  have HB := Lib.hid hb
  have HU := Lib.hid hu
  clear hb hu
  go_wp2_with fail
  refine (live_any _).mono ?_; rintro e w2 ⟨rfl, hu2⟩
  have HB2 := Lib.hid (HB.out.upd hu2 (by simp) (by simp))
  have HU2 := Lib.hid (HU.out.trans0 hu2)
  clear hu2
  go_wp2_with fail
  refine (same_any p r T _ HB2.out).mono ?_; rintro e w3 ⟨rfl, hu3⟩
  have HU3 := Lib.hid (HU2.out.trans0 hu3)
  clear hu3
  go_wp2_with fail
  go_ret
  exact ⟨by simp, HU3.out⟩

end Go.Proofs.Ytocmochdgidcmaa
