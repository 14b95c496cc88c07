/- The walk of the statement on a family of processes. -/
import Derived.Test.YtogiegehkhnlmaaTfQ
import Derived.Test.YtogiegehkhnlmaaTfS
import Derived.Test.YtogiegehkhnlmaaRow
namespace Go.Proofs.Ytogiegehkhnlmaa
open Go.RowKit Go.ChangeShapes Go.WideShapes Go.ChangeAt Go.Deep

def famF (i : Nat) : List PS :=
  let a := fun k => if k ≤ i then PS.liv 0 else PS.none
  [.liv 0, a 1, a 2, a 3, a 4, a 5]
def famX (h : Nat → Int) (n i : Nat) : List PS :=
  let b := fun k => if k ≤ i then PS.liv 0 else if k ≤ n then PS.dead 0 (h (k - 1)) else PS.none
  [.liv 0, b 1, b 2, b 3, b 4, b 5]
def famW (h : Nat → Int) (n i : Nat) : List PS :=
  let c := fun k => if k ≤ i then PS.none else if k ≤ n then PS.dead 0 (h (k - 1)) else PS.none
  [.liv 0, c 1, c 2, c 3, c 4, c 5]
theorem fork_fam : ∀ i, i < 5 → forkA (famF i) 0 = ((i + 1 : Nat) : Int) ∧ forkE (famF i) 0 = 0 ∧ forkT (famF i) 0 = famF (i + 1) := by
  intro i hi
  rcases (show i = 0 ∨ i = 1 ∨ i = 2 ∨ i = 3 ∨ i = 4 by omega) with rfl | rfl | rfl | rfl | rfl <;> exact ⟨rfl, rfl, rfl⟩
theorem exit_fam (h : Nat → Int) : ∀ n i, i < n → n ≤ 5 → exitE (famX h n (i + 1)) ((i + 1 : Nat) : Int) = 0 ∧ exitT (famX h n (i + 1)) ((i + 1 : Nat) : Int) (h i) = famX h n i := by
  intro n i hi hn
  rcases (show n = 1 ∨ n = 2 ∨ n = 3 ∨ n = 4 ∨ n = 5 by omega) with rfl | rfl | rfl | rfl | rfl <;>
  rcases (show i = 0 ∨ i = 1 ∨ i = 2 ∨ i = 3 ∨ i = 4 by omega) with rfl | rfl | rfl | rfl | rfl <;> first | omega | exact ⟨rfl, rfl⟩
theorem wait_fam (h : Nat → Int) : ∀ n i, i < n → n ≤ 5 → waitA (famW h n i) 0 = ((i + 1 : Nat) : Int) ∧ waitS (famW h n i) 0 = h i ∧ waitE (famW h n i) 0 = 0 ∧ waitT (famW h n i) 0 = famW h n (i + 1) := by
  intro n i hi hn
  rcases (show n = 1 ∨ n = 2 ∨ n = 3 ∨ n = 4 ∨ n = 5 by omega) with rfl | rfl | rfl | rfl | rfl <;>
  rcases (show i = 0 ∨ i = 1 ∨ i = 2 ∨ i = 3 ∨ i = 4 by omega) with rfl | rfl | rfl | rfl | rfl <;> first | omega | exact ⟨rfl, rfl, rfl, rfl⟩
theorem end_fam (h : Nat → Int) : ∀ n, n ≤ 5 → waitE (famW h n n) 0 = 3 ∧ waitT (famW h n n) 0 = famW h n n ∧ runTo (famW h n n) 6 = [0] ∧ famX h n n = famF n ∧ famX h n 0 = famW h n 0 := by
  intro n hn
  rcases (show n = 0 ∨ n = 1 ∨ n = 2 ∨ n = 3 ∨ n = 4 ∨ n = 5 by omega) with rfl | rfl | rfl | rfl | rfl | rfl <;> exact ⟨rfl, rfl, rfl, rfl, rfl⟩

/-- An array of five bytes, by value. -/
theorem open_arr5 {H : Type} {P : Program} {enc : TypeId × Value → H} {w : World} {r : Reach} {b0 : Nat} {base : Nat} {spare : Nat → Bool} {held : Bool} {t e : TypeId} {v : Value} {d : DataW H} {p : List MemPlace} (hs : P.underlying t = some (.array 5 e)) (he : P.underlying e = some (.int .u8)) (hC : P.cellsOf e = 1) (hT : P.cellsOf t = 5)
    (hv : Value.okWide P w r b0 t v) (h : DataW.Trod enc P w base spare held t v d p) :
    ∃ g : Nat → Nat, (∀ k, g k < 256) ∧ v = .agg ((List.range 5).map fun k => Value.int .u8 (g k : Int)).toArray := by
  have hv' : ∃ cs, v = .agg cs ∧ cs.size = P.cellsOf t := by
    unfold Value.okWide at hv
    rw [hs] at hv
    obtain ⟨cs, h1, h2, _⟩ := hv
    exact ⟨cs, h1, h2⟩
  obtain ⟨cs, rfl, hsz⟩ := hv'
  obtain ⟨l⟩ := cs
  match l, hsz.trans hT with
  | [c0, c1, c2, c3, c4], _ =>
    obtain ⟨fuel, hf⟩ := h
    obtain ⟨xs, m, _, _, _, hlen, hg⟩ := DataW.trod_array hs hf
    have g0 := hg 0 (by omega)
    have g1 := hg 1 (by omega)
    have g2 := hg 2 (by omega)
    have g3 := hg 3 (by omega)
    have g4 := hg 4 (by omega)
    rw [hC] at g0 g1 g2 g3 g4
    simp only [Value.cells, Nat.zero_mul, Nat.mul_one, List.drop_zero, List.take_succ_cons, List.take_zero, List.drop_succ_cons] at g0 g1 g2 g3 g4
    rw [List.getElem?_eq_getElem (by omega)] at g0 g1 g2 g3 g4
    obtain ⟨a0, e0, _, w0⟩ := DataW.trod_int he g0
    obtain ⟨a1, e1, _, w1⟩ := DataW.trod_int he g1
    obtain ⟨a2, e2, _, w2⟩ := DataW.trod_int he g2
    obtain ⟨a3, e3, _, w3⟩ := DataW.trod_int he g3
    obtain ⟨a4, e4, _, w4⟩ := DataW.trod_int he g4
    injection e0 with e0 _
    injection e1 with e1 _
    injection e2 with e2 _
    injection e3 with e3 _
    injection e4 with e4 _
    subst e0 e1 e2 e3 e4
    have b0 := wf_u8 w0
    have b1 := wf_u8 w1
    have b2 := wf_u8 w2
    have b3 := wf_u8 w3
    have b4 := wf_u8 w4
    obtain ⟨n0, rfl⟩ : ∃ n : Nat, a0 = n := ⟨a0.toNat, by omega⟩
    obtain ⟨n1, rfl⟩ : ∃ n : Nat, a1 = n := ⟨a1.toNat, by omega⟩
    obtain ⟨n2, rfl⟩ : ∃ n : Nat, a2 = n := ⟨a2.toNat, by omega⟩
    obtain ⟨n3, rfl⟩ : ∃ n : Nat, a3 = n := ⟨a3.toNat, by omega⟩
    obtain ⟨n4, rfl⟩ : ∃ n : Nat, a4 = n := ⟨a4.toNat, by omega⟩
    refine ⟨fun k => match k with | 0 => n0 | 1 => n1 | 2 => n2 | 3 => n3 | 4 => n4 | _ => 0, ?_, rfl⟩
    intro k
    match k with
    | 0 => show n0 < 256; omega
    | 1 => show n1 < 256; omega
    | 2 => show n2 < 256; omega
    | 3 => show n3 < 256; omega
    | 4 => show n4 < 256; omega
    | k + 5 => show 0 < 256; omega

def howCells (g : Nat → Nat) : Array Value := ((List.range 5).map fun k => Value.int .u8 (g k : Int)).toArray
theorem how_get (g : Nat → Nat) {k : Nat} (hk : k < 5) : (howCells g)[k]? = some (.int .u8 (g k : Int)) := by
  unfold howCells
  simp [hk]

set_option maxRecDepth 100000 in
set_option maxHeartbeats 4000000 in
theorem family_any (u : Nat) (hu8 : u < 256) (g : Nat → Nat) (hg : ∀ k, g k < 256) (w : World) :
    Calls Try.prog 3 #[.int .u8 (u : Int), .agg (howCells g)] w (TruePost w) := by
  have HG := Lib.hid hg
  have HHG : Hid (∀ k : Nat, k < 5 → (howCells g)[k]? = some (.int .u8 (g k : Int))) := Lib.hid (fun k hk => how_get g hk)
  clear hg
  obtain ⟨cells, hcells⟩ : ∃ cells, cells = howCells g := ⟨_, rfl⟩
  rw [← hcells] at HHG ⊢
  clear hcells
  go_enter Try.func3, Try.ntmps3
  go_wp2_with fail
  have hb0 := Blk.new w 22 cells
  have hu0 := (Upd.refl [] w).alloc (.cells cells 22)
  generalize (w.alloc (.cells cells 22)) = W0 at *
  generalize hNb : w.heap.size = Nb at *
  refine (new_any _).mono ?_; rintro e w1 ⟨t, rfl, hm1, hu1, ht1⟩
  have HT1 : Hid (TabAt w1 t (famF 0)) := Lib.hid hm1
  have HB1 := Lib.hid (hb0.upd hu1 (by simp))
  have HU1 := Lib.hid (hu0.trans0 hu1)
  have htw : w.heap.size ≤ t := by have := hu0.size; omega
  have HNE : Hid (Nb ≠ t) := Lib.hid ((hm1.1.ne_ (hb0.upd hu1 (by simp)) (by decide)).symm)
  clear hb0 hu0 hm1 hu1
  go_wp2_with fail
  obtain ⟨n, hn⟩ : ∃ n : Nat, (u : Int) % 6 = (n : Int) := ⟨u % 6, by omega⟩
  have hn5 : n ≤ 5 := by omega
  rw [hn]
  clear hn
  obtain ⟨E1, E2, E3, E4, E5⟩ := end_fam (fun k => (g k : Int)) n hn5
  have HE1 := Lib.hid E1
  have HE2 := Lib.hid E2
  have HE3 := Lib.hid E3
  have HE4 := Lib.hid E4
  have HE5 := Lib.hid E5
  clear E1 E2 E3 E4 E5
  go_loopw [7] (fun v W => ∃ i : Nat, i ≤ n ∧ v = .int .i64 ((i : Int) + 1) ∧ TabAt W t (famF i) ∧ Blk W Nb 22 cells ∧ Upd [] w W) (fun v _ => n + 1 - (intOf v).toNat)
  case atStart => exact ⟨0, by omega, rfl, HT1.out, HB1.out, HU1.out⟩
  case round =>
    obtain ⟨i, hi, rfl, ht, hb, hu⟩ := hrel
    have HT := Lib.hid ht
    have HB := Lib.hid hb
    have HU := Lib.hid hu
    clear ht hb hu HT1 HB1 HU1
    by_cases hlt : i < n
    · have j1 : (i : Int) + 1 ≤ (n : Int) := by omega
      obtain ⟨f1, f2, f3⟩ := fork_fam i (by omega)
      have HF := Lib.hid (fork_any t (famF i) 0 _ HT.out (by intro h; cases h))
      rw [f1, f2, f3, show ((i + 1 : Nat) : Int) = (i : Int) + 1 by omega] at HF
      have hbb : (((i : Int) + 1) != ((i : Int) + 1)) = false := by simp
      clear f1 f2 f3
      go_wp2_with fail
      refine HF.out.mono ?_; rintro e w2 ⟨rfl, hm2, hu2⟩
      have HT2 := Lib.hid hm2
      have HB2 := Lib.hid (HB.out.upd hu2 (by simp; exact HNE.out))
      have HU2 := Lib.hid (HU.out.trans hu2 (fun s hs => .inr (by simp at hs; omega)))
      clear hm2 hu2
      go_wp2_with fail
      go_roundw
      case rel => exact ⟨i + 1, by omega, by go_num, HT2.out, HB2.out, HU2.out⟩
      case measure => simp [intOf]; omega
    · obtain rfl : i = n := by omega
      have HTX : Hid (TabAt _ t (famX (fun k => (g k : Int)) i i)) := Lib.hid (by rw [HE4.out]; exact HT.out)
      clear HT
      go_wp2_with fail
      go_loopw [10] (fun v W => ∃ k : Nat, k ≤ i ∧ v = .int .i64 (k : Int) ∧ TabAt W t (famX (fun k => (g k : Int)) i k) ∧ Blk W Nb 22 cells ∧ Upd [] w W) (fun v _ => (intOf v).toNat)
      case atStart => exact ⟨i, by omega, rfl, HTX.out, HB.out, HU.out⟩
      case round =>
        obtain ⟨k, hk, rfl, ht, hb, hu⟩ := hrel
        have HT := Lib.hid ht
        have HB2 := Lib.hid hb
        have HU2 := Lib.hid hu
        clear ht hb hu HTX
        by_cases hz : k = 0
        · subst hz
          have HTW : Hid (TabAt _ t (famW (fun k => (g k : Int)) i 0)) := Lib.hid (by rw [← HE5.out]; exact HT.out)
          clear HT
          rw [show ((0 : Nat) : Int) = (0 : Int) from rfl]
          go_wp2_with fail
          go_loopw [11] (fun v W => ∃ m : Nat, m ≤ i ∧ v = .int .i64 ((m : Int) + 1) ∧ TabAt W t (famW (fun k => (g k : Int)) i m) ∧ Blk W Nb 22 cells ∧ Upd [] w W) (fun v _ => i + 1 - (intOf v).toNat)
          case atStart => exact ⟨0, by omega, rfl, HTW.out, HB2.out, HU2.out⟩
          case round =>
            obtain ⟨m, hm, rfl, ht, hb, hu⟩ := hrel
            have HT := Lib.hid ht
            have HB3 := Lib.hid hb
            have HU3 := Lib.hid hu
            clear ht hb hu HTW
            by_cases hlm : m < i
            · have j1 : (m : Int) + 1 ≤ (i : Int) := by omega
              obtain ⟨f1, f2, f3, f4⟩ := wait_fam (fun k => (g k : Int)) i m hlm hn5
              have HF := Lib.hid (wait_any t (famW (fun k => (g k : Int)) i m) 0 _ HT.out)
              rw [f1, f2, f3, f4, show ((m + 1 : Nat) : Int) = (m : Int) + 1 by omega] at HF
              have hbb : (((m : Int) + 1) != ((m : Int) + 1)) = false := by simp
              have hg := HG.out m
              have hbg : ((g m : Int) != (g m : Int)) = false := by simp
              clear f1 f2 f3 f4
              go_wp2_with fail
              refine HF.out.mono ?_; rintro e w2 ⟨rfl, hm2, hu2⟩
              have HT2 := Lib.hid hm2
              have HB4 := Lib.hid (HB3.out.upd hu2 (by simp; exact HNE.out))
              have HU4 := Lib.hid (HU3.out.trans hu2 (fun s hs => .inr (by simp at hs; omega)))
              have hc := HB4.out.cellAt (HHG.out m (by omega))
              clear hm2 hu2
              go_wp2_with fail
              go_roundw
              case rel => exact ⟨m + 1, by omega, by go_num, HT2.out, HB4.out, HU4.out⟩
              case measure => simp [intOf]; omega
            · obtain rfl : m = i := by omega
              have HF := Lib.hid (wait_any t (famW (fun k => (g k : Int)) m m) 0 _ HT.out)
              rw [HE1.out, HE2.out] at HF
              have HR := Lib.hid (fun W h => running_any t (famW (fun k => (g k : Int)) m m) W h)
              rw [HE3.out] at HR
              generalize waitA (famW (fun k => (g k : Int)) m m) 0 = a1 at *
              generalize waitS (famW (fun k => (g k : Int)) m m) 0 = a2 at *
              go_wp2_with fail
              refine HF.out.mono ?_; rintro e w2 ⟨rfl, hm2, hu2⟩
              have HT2 := Lib.hid hm2
              have HU4 := Lib.hid (HU3.out.trans hu2 (fun s hs => .inr (by simp at hs; omega)))
              clear hm2 hu2
              go_wp2_with fail
              refine (HR.out _ HT2.out).mono ?_; rintro e w3 ⟨v3, rfl, hown, hu3⟩
              obtain ⟨A3, c3, rfl, hle3, hrd3, _⟩ := RdV.of_own hown
              have HU5 := Lib.hid (HU4.out.trans0 hu3)
              clear hown hu3 hrd3
              go_wp2_with fail
              go_ret
              exact ⟨by simp, HU5.out⟩
        · obtain ⟨j, rfl⟩ : ∃ j, k = j + 1 := ⟨k - 1, by omega⟩
          obtain ⟨f1, f2⟩ := exit_fam (fun k => (g k : Int)) i j (by omega) hn5
          have HX := Lib.hid (exit_any t (famX (fun k => (g k : Int)) i (j + 1)) ((j + 1 : Nat) : Int) (g j : Int) _ HT.out)
          rw [f1, f2] at HX
          have hg := HG.out j
          have hc := HB2.out.cellAt (HHG.out j (by omega))
          have hj1 : ((j + 1 : Nat) : Int) = (j : Int) + 1 := by omega
          rw [hj1] at HX ⊢
          clear f1 f2 hz hj1
          go_wp2_with fail
          refine HX.out.mono ?_; rintro e w2 ⟨rfl, hm2, hu2⟩
          have HT2 := Lib.hid hm2
          have HB4 := Lib.hid (HB2.out.upd hu2 (by simp; exact HNE.out))
          have HU4 := Lib.hid (HU2.out.trans hu2 (fun s hs => .inr (by simp at hs; omega)))
          clear hm2 hu2
          go_wp2_with fail
          go_roundw
          case rel => exact ⟨j, by omega, by go_num, HT2.out, HB4.out, HU4.out⟩
          case measure => simp [intOf] <;> omega

end Go.Proofs.Ytogiegehkhnlmaa
