/- What is shared stands at one place for all. -/
import Derived.Test.YtedaffkdfniikaaFdsLaws
namespace Go.Proofs.Ytedaffkdfniikaa
open Go.ChangeShapes Go.WideShapes Go.ChangeAt Go.RowKit Go.Shelf Go.Deep

/-- An array of four bytes, by value. -/
theorem open_arr4 {H : Type} {P : Program} {enc : TypeId × Value → H} {w : World} {r : Reach} {b0 : Nat} {base : Nat} {spare : Nat → Bool} {held : Bool} {t e : TypeId} {v : Value} {d : DataW H} {p : List MemPlace} (hs : P.underlying t = some (.array 4 e)) (he : P.underlying e = some (.int .u8)) (hC : P.cellsOf e = 1) (hT : P.cellsOf t = 4)
    (hv : Value.okWide P w r b0 t v) (h : DataW.Trod enc P w base spare held t v d p) :
    ∃ g : Nat → Nat, (∀ k, g k < 256) ∧ v = .agg ((List.range 4).map fun k => Value.int .u8 (g k : Int)).toArray := by
  have hv' : ∃ cs, v = .agg cs ∧ cs.size = P.cellsOf t := by
    unfold Value.okWide at hv
    rw [hs] at hv
    obtain ⟨cs, h1, h2, _⟩ := hv
    exact ⟨cs, h1, h2⟩
  obtain ⟨cs, rfl, hsz⟩ := hv'
  obtain ⟨l⟩ := cs
  match l, hsz.trans hT with
  | [c0, c1, c2, c3], _ =>
    obtain ⟨fuel, hf⟩ := h
    obtain ⟨xs, m, _, _, _, hlen, hg⟩ := DataW.trod_array hs hf
    have g0 := hg 0 (by omega)
    have g1 := hg 1 (by omega)
    have g2 := hg 2 (by omega)
    have g3 := hg 3 (by omega)
    rw [hC] at g0 g1 g2 g3
    simp only [Value.cells, Nat.mul_one, List.drop_zero, List.take_succ_cons, List.take_zero, List.drop_succ_cons] at g0 g1 g2 g3
    rw [List.getElem?_eq_getElem (by omega)] at g0 g1 g2 g3
    obtain ⟨a0, e0, _, w0⟩ := DataW.trod_int he g0
    obtain ⟨a1, e1, _, w1⟩ := DataW.trod_int he g1
    obtain ⟨a2, e2, _, w2⟩ := DataW.trod_int he g2
    obtain ⟨a3, e3, _, w3⟩ := DataW.trod_int he g3
    injection e0 with e0 _
    injection e1 with e1 _
    injection e2 with e2 _
    injection e3 with e3 _
    subst e0 e1 e2 e3
    have b0 := wf_u8 w0
    have b1 := wf_u8 w1
    have b2 := wf_u8 w2
    have b3 := wf_u8 w3
    obtain ⟨n0, rfl⟩ : ∃ n : Nat, a0 = n := ⟨a0.toNat, by omega⟩
    obtain ⟨n1, rfl⟩ : ∃ n : Nat, a1 = n := ⟨a1.toNat, by omega⟩
    obtain ⟨n2, rfl⟩ : ∃ n : Nat, a2 = n := ⟨a2.toNat, by omega⟩
    obtain ⟨n3, rfl⟩ : ∃ n : Nat, a3 = n := ⟨a3.toNat, by omega⟩
    refine ⟨fun k => match k with | 0 => n0 | 1 => n1 | 2 => n2 | 3 => n3 | _ => 0, ?_, rfl⟩
    intro k
    match k with
    | 0 => show n0 < 256; omega
    | 1 => show n1 < 256; omega
    | 2 => show n2 < 256; omega
    | 3 => show n3 < 256; omega
    | k + 4 => show 0 < 256; omega

theorem mov_at (S : St) (p a x q b : Int) : atE (movS S p a x) q b = atE S q b := by
  unfold movS
  split <;> rfl
theorem mov_get {S : St} (hg : Good S) (p a x q b : Int) : getO (movS S p a x) q b = if samB S p a q b = true then { getO S q b with p := x } else getO S q b := by
  unfold getO
  rw [mov_at]
  unfold samB
  by_cases h2 : atE S q b = 0
  · rw [if_pos h2, if_pos h2]
    by_cases h1 : atE S p a = 0
    · obtain ⟨_, _, _, n1⟩ := atE_ok h1
      obtain ⟨_, _, _, n2⟩ := atE_ok h2
      have l1 := hg.le p.toNat a.toNat
      have l2 := hg.le q.toNat b.toNat
      have e : movS S p a x = ⟨S.has, S.fd, S.all.set (S.fd p.toNat a.toNat - 1) { opAt S (S.fd p.toNat a.toNat) with p := x }⟩ := by unfold movS; rw [if_pos h1]
      rw [e]
      by_cases hn : S.fd p.toNat a.toNat = S.fd q.toNat b.toNat
      · rw [if_pos (decide_eq_true ⟨h1, h2, hn⟩)]
        rw [hn]
        conv => lhs; unfold opAt
        simp only
        rw [List.getD, List.getElem?_set_self (by omega)]
        rfl
      · rw [if_neg (fun hh => hn (of_decide_eq_true hh).2.2)]
        conv => lhs; unfold opAt
        simp only
        rw [List.getD, List.getElem?_set_ne (by omega)]
        rfl
    · rw [if_neg (fun hh => h1 (of_decide_eq_true hh).1)]
      have e : movS S p a x = S := by unfold movS; rw [if_neg h1]
      rw [e]
  · rw [if_neg h2, if_neg h2, if_neg (fun hh => h2 (of_decide_eq_true hh).2.1)]
theorem sam_ok {S : St} {p a q b : Int} (h : samB S p a q b = true) : atE S p a = 0 := (of_decide_eq_true h).1
theorem BLive.good {w0 W : World} {t r N : Nat} {X : List Nat} {Sp Sr : St} (h : BLive w0 t r X N Sp Sr W) : Good Sr := by
  obtain ⟨_, _, h⟩ := h
  exact h.g

set_option maxRecDepth 100000 in
set_option maxHeartbeats 4000000 in
theorem shared_any (A : Option Addr) (len cap : Nat) (g : Nat → Nat) (x : Int) (w : World) (hd : Deeds w A len) (hlen : len ≤ 9223372036854775807) (hg : ∀ k, g k < 256) :
    Calls Try.prog 4 #[.slice A len cap, .agg ((List.range 4).map fun k => Value.int .u8 (g k : Int)).toArray, .int .i64 x] w (TruePost w) := by
  show Calls Try.prog 4 #[.slice A len cap, .agg #[.int .u8 (g 0), .int .u8 (g 1), .int .u8 (g 2), .int .u8 (g 3)], .int .i64 x] w (TruePost w)
  have hu0 := (Upd.refl [] w).alloc (.cells #[.int .u8 (g 0), .int .u8 (g 1), .int .u8 (g 2), .int .u8 (g 3)] 43)
  have HD := Lib.hid (hd.upd hu0)
  have HU0 := Lib.hid hu0
  have HBO : Hid (Blk (w.alloc (.cells #[.int .u8 (g 0), .int .u8 (g 1), .int .u8 (g 2), .int .u8 (g 3)] 43)) w.heap.size 43 #[.int .u8 (g 0), .int .u8 (g 1), .int .u8 (g 2), .int .u8 (g 3)]) := Lib.hid (Blk.new w _ _)
  have he := eql_open
  have hne := neq_gen
  have hgd := guard_open
  have g0 := hg 0
  have g1 := hg 1
  have g2 := hg 2
  have g3 := hg 3
  generalize g 0 = x0 at *
  generalize g 1 = x1 at *
  generalize g 2 = x2 at *
  generalize g 3 = x3 at *
  obtain ⟨p, hp⟩ : ∃ p : Int, p = (x0 : Int) % 6 := ⟨_, rfl⟩
  obtain ⟨q, hq⟩ : ∃ p : Int, p = (x1 : Int) % 6 := ⟨_, rfl⟩
  obtain ⟨a, ha⟩ : ∃ p : Int, p = (x2 : Int) % 8 := ⟨_, rfl⟩
  obtain ⟨b, hb⟩ : ∃ p : Int, p = (x3 : Int) % 8 := ⟨_, rfl⟩
  have m0 : (x0 : Int).tmod 6 = p := by rw [Int.tmod_eq_emod_of_nonneg (by omega)]; omega
  have m1 : (x1 : Int).tmod 6 = q := by rw [Int.tmod_eq_emod_of_nonneg (by omega)]; omega
  have m2 : (x2 : Int).tmod 8 = a := by rw [Int.tmod_eq_emod_of_nonneg (by omega)]; omega
  have m3 : (x3 : Int).tmod 8 = b := by rw [Int.tmod_eq_emod_of_nonneg (by omega)]; omega
  have v0 : IntKind.i64.wrap (x0 : Int) = (x0 : Int) := by rw [IntKind.wrap_i64]; omega
  have v1 : IntKind.i64.wrap (x1 : Int) = (x1 : Int) := by rw [IntKind.wrap_i64]; omega
  have v2 : IntKind.i64.wrap (x2 : Int) = (x2 : Int) := by rw [IntKind.wrap_i64]; omega
  have v3 : IntKind.i64.wrap (x3 : Int) = (x3 : Int) := by rw [IntKind.wrap_i64]; omega
  have u0 : IntKind.i64.wrap p = p := by rw [IntKind.wrap_i64]; omega
  have u1 : IntKind.i64.wrap q = q := by rw [IntKind.wrap_i64]; omega
  have u2 : IntKind.i64.wrap a = a := by rw [IntKind.wrap_i64]; omega
  have u3 : IntKind.i64.wrap b = b := by rw [IntKind.wrap_i64]; omega
  clear hd hu0 hg g0 g1 g2 g3 hp hq ha hb
  go_enter Try.func4, Try.ntmps4
  go_wp2_with fail
  refine (play_any A len cap _ HD.out hlen).mono ?_; rintro e w1 ⟨t, r, S, rfl, hb⟩
  have HB := Lib.hid hb
  clear hb
  go_wp2_with fail
  refine (live_any _).mono ?_; rintro e w2 ⟨rfl, hu2⟩
  have HB2 := Lib.hid (HB.out.upd0 hu2)
  have hbo := HBO.out.upd HB2.out.upd (by simp)
  have c0 := hbo.cellAt (i := 0) (v := .int .u8 x0) rfl
  have c1 := hbo.cellAt (i := 1) (v := .int .u8 x1) rfl
  have c2 := hbo.cellAt (i := 2) (v := .int .u8 x2) rfl
  have c3 := hbo.cellAt (i := 3) (v := .int .u8 x3) rfl
  clear hu2 hbo
  go_wp2_with fail
  go_quiet (fail)
  go_wp2_with fail
  go_quiet (fail)
  have HBQ := Lib.hid (fun n => HB2.out.upd0 ((Upd.refl [] w2).drewN n))
  have HMG := Lib.hid (mov_get HB2.out.good p a x q b)
  have HG1 := Lib.hid (fun W (hW : BLive (w.alloc (.cells #[.int .u8 x0, .int .u8 x1, .int .u8 x2, .int .u8 x3] 43)) t r [] 51 S S W) => tGet hW q b)
  have HS := Lib.hid (fun W X (hW : BLive (w.alloc (.cells #[.int .u8 x0, .int .u8 x1, .int .u8 x2, .int .u8 x3] 43)) t r X 51 S S W) => tSame hW p a q b)
  have HM := Lib.hid (fun W X (hW : BLive (w.alloc (.cells #[.int .u8 x0, .int .u8 x1, .int .u8 x2, .int .u8 x3] 43)) t r X 51 S S W) => pMove hW p a x)
  have HG2 := Lib.hid (fun W X (hW : BLive (w.alloc (.cells #[.int .u8 x0, .int .u8 x1, .int .u8 x2, .int .u8 x3] 43)) t r X 51 (movS S p a x) S W) => tGet hW q b)
  simp only [mov_at] at HG2
  generalize hev : atE S q b = ev at *
  have hbe : (ev == ev) = true := by simp
  have hbe' : (ev != ev) = false := by simp
  clear hev
  generalize hu : getO S q b = u at *
  generalize getO (movS S p a x) q b = u' at *
  generalize movS S p a x = S' at *
  clear hu
  cases hs : samB S p a q b with
  | true =>
    have hmg := HMG.out
    rw [hs, if_pos rfl] at hmg
    rw [hs] at HS
    rw [sam_ok hs] at HM
    subst hmg
    simp only at HG2
    clear hs HMG
    go_wp2_with fail
    refine (HG1.out _ (HBQ.out _)).mono ?_; rintro e v1 ⟨rfl, hv1⟩
    have HBX := Lib.hid (((HBQ.out _).upd0 hv1).more (Y := [v1.heap.size]) ((Upd.refl [] v1).alloc (.cells #[.int .u8 u.k, .int .i64 u.r, .int .i64 u.p] 30)) (fun g hg => by simp at hg; subst hg; rw [World.size_alloc]; omega))
    have HK1 : Hid (Blk (v1.alloc (.cells #[.int .u8 u.k, .int .i64 u.r, .int .i64 u.p] 30)) v1.heap.size 30 #[.int .u8 u.k, .int .i64 u.r, .int .i64 u.p]) := Lib.hid (Blk.new v1 _ _)
    clear hv1
    go_wp2_with fail
    refine (HS.out _ _ HBX.out).mono ?_; rintro e v2 ⟨rfl, hv2⟩
    have HBY := Lib.hid (HBX.out.upd0 hv2)
    have HK2 := Lib.hid (HK1.out.upd hv2 (by simp))
    clear hv2
    go_wp2_with fail
    refine (HM.out _ _ HBY.out).mono ?_; rintro e v3 ⟨rfl, hb3, hs3⟩
    have HBZ := Lib.hid hb3
    have HK3 := Lib.hid (hs3.blk HK2.out (by simp))
    clear hb3 hs3
    go_wp2_with fail
    refine (HG2.out _ _ HBZ.out).mono ?_; rintro e v4 ⟨rfl, hv4⟩
    have HBF := Lib.hid (HBZ.out.upd0 (hv4.alloc (.cells #[.int .u8 u.k, .int .i64 u.r, .int .i64 x] 30)))
    have hk := (HK3.out.upd hv4 (by simp)).alloc (.cells #[.int .u8 u.k, .int .i64 u.r, .int .i64 x] 30)
    have a0 := hk.cellAt (i := 0) (v := .int .u8 u.k) rfl
    have a1 := hk.cellAt (i := 1) (v := .int .i64 u.r) rfl
    have a2 := hk.cellAt (i := 2) (v := .int .i64 u.p) rfl
    clear hv4 hk
    go_wp2_with fail
    go_ret
    exact ⟨by simp, HU0.out.trans' HBF.out.upd⟩
  | false =>
    have hmg := HMG.out
    rw [hs, if_neg (by decide)] at hmg
    rw [hs] at HS
    subst hmg
    by_cases hf : atE S p a = 0
    · rw [hf] at HM
      clear hs HMG hf
      go_wp2_with fail
      refine (HG1.out _ (HBQ.out _)).mono ?_; rintro e v1 ⟨rfl, hv1⟩
      have HBX := Lib.hid (((HBQ.out _).upd0 hv1).more (Y := [v1.heap.size]) ((Upd.refl [] v1).alloc (.cells #[.int .u8 u'.k, .int .i64 u'.r, .int .i64 u'.p] 30)) (fun g hg => by simp at hg; subst hg; rw [World.size_alloc]; omega))
      have HK1 : Hid (Blk (v1.alloc (.cells #[.int .u8 u'.k, .int .i64 u'.r, .int .i64 u'.p] 30)) v1.heap.size 30 #[.int .u8 u'.k, .int .i64 u'.r, .int .i64 u'.p]) := Lib.hid (Blk.new v1 _ _)
      clear hv1
      go_wp2_with fail
      refine (HS.out _ _ HBX.out).mono ?_; rintro e v2 ⟨rfl, hv2⟩
      have HBY := Lib.hid (HBX.out.upd0 hv2)
      have HK2 := Lib.hid (HK1.out.upd hv2 (by simp))
      clear hv2
      go_wp2_with fail
      refine (HM.out _ _ HBY.out).mono ?_; rintro e v3 ⟨rfl, hb3, hs3⟩
      have HBZ := Lib.hid hb3
      have HK3 := Lib.hid (hs3.blk HK2.out (by simp))
      clear hb3 hs3
      go_wp2_with fail
      refine (HG2.out _ _ HBZ.out).mono ?_; rintro e v4 ⟨rfl, hv4⟩
      have HBF := Lib.hid (HBZ.out.upd0 (hv4.alloc (.cells #[.int .u8 u'.k, .int .i64 u'.r, .int .i64 u'.p] 30)))
      have hk := (HK3.out.upd hv4 (by simp)).alloc (.cells #[.int .u8 u'.k, .int .i64 u'.r, .int .i64 u'.p] 30)
      have a0 := hk.cellAt (i := 0) (v := .int .u8 u'.k) rfl
      have a1 := hk.cellAt (i := 1) (v := .int .i64 u'.r) rfl
      have a2 := hk.cellAt (i := 2) (v := .int .i64 u'.p) rfl
      clear hv4 hk
      go_wp2_with fail
      go_ret
      exact ⟨by simp, HU0.out.trans' HBF.out.upd⟩
    · have hfb : (atE S p a == 0) = false := by simp [hf]
      have hfb' : (atE S p a != 0) = true := by simp [hf]
      generalize atE S p a = f at *
      clear hs HMG hf
      go_wp2_with fail
      refine (HG1.out _ (HBQ.out _)).mono ?_; rintro e v1 ⟨rfl, hv1⟩
      have HBX := Lib.hid (((HBQ.out _).upd0 hv1).more (Y := [v1.heap.size]) ((Upd.refl [] v1).alloc (.cells #[.int .u8 u'.k, .int .i64 u'.r, .int .i64 u'.p] 30)) (fun g hg => by simp at hg; subst hg; rw [World.size_alloc]; omega))
      have HK1 : Hid (Blk (v1.alloc (.cells #[.int .u8 u'.k, .int .i64 u'.r, .int .i64 u'.p] 30)) v1.heap.size 30 #[.int .u8 u'.k, .int .i64 u'.r, .int .i64 u'.p]) := Lib.hid (Blk.new v1 _ _)
      clear hv1
      go_wp2_with fail
      refine (HS.out _ _ HBX.out).mono ?_; rintro e v2 ⟨rfl, hv2⟩
      have HBY := Lib.hid (HBX.out.upd0 hv2)
      have HK2 := Lib.hid (HK1.out.upd hv2 (by simp))
      clear hv2
      go_wp2_with fail
      refine (HM.out _ _ HBY.out).mono ?_; rintro e v3 ⟨rfl, hb3, hs3⟩
      have HBZ := Lib.hid hb3
      have HK3 := Lib.hid (hs3.blk HK2.out (by simp))
      clear hb3 hs3
      go_wp2_with fail
      refine (HG2.out _ _ HBZ.out).mono ?_; rintro e v4 ⟨rfl, hv4⟩
      have HBF := Lib.hid (HBZ.out.upd0 (hv4.alloc (.cells #[.int .u8 u'.k, .int .i64 u'.r, .int .i64 u'.p] 30)))
      have hk := (HK3.out.upd hv4 (by simp)).alloc (.cells #[.int .u8 u'.k, .int .i64 u'.r, .int .i64 u'.p] 30)
      have a0 := hk.cellAt (i := 0) (v := .int .u8 u'.k) rfl
      have a1 := hk.cellAt (i := 1) (v := .int .i64 u'.r) rfl
      have a2 := hk.cellAt (i := 2) (v := .int .i64 u'.p) rfl
      clear hv4 hk
      go_wp2_with fail
      go_ret
      exact ⟨by simp, HU0.out.trans' HBF.out.upd⟩

end Go.Proofs.Ytedaffkdfniikaa
