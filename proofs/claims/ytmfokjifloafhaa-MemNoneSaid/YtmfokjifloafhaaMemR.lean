/- The program's frames (package mem), the third part: frames zeroed, copied, cloned, compared. -/
import Derived.Test.YtmfokjifloafhaaMemQ
namespace Go.Proofs.Ytmfokjifloafhaa
open Go.RowKit

def frameOf (L : List UInt8) (i : Nat) : List UInt8 := (L.drop (32 * i)).take 32
theorem frameOf_length (L : List UInt8) (i n : Nat) (h : L.length = 32 * n) (hi : i < n) : (frameOf L i).length = 32 := by simp [frameOf, h]; omega
theorem frameOf_get (L : List UInt8) (i j : Nat) (hj : j < 32) : (frameOf L i)[j]? = L[32 * i + j]? := by simp [frameOf, List.getElem?_take, hj, List.getElem?_drop]

theorem zero_byte (w : World) : (zeroValue 5).run Try.prog w = .ok (.int .u8 0) w := by kernel_rfl
theorem under_byte : Try.prog.underlying 5 = some (.int .u8) := by kernel_rfl
theorem info_bytes : (Try.prog.info? 5).map (fun i => (i.zero, i.size, i.bytes)) = some (some (.int .u8 0), 1, 1) := by kernel_rfl
theorem under_frame : Try.prog.underlying 70 = some (.array 32 5) := by kernel_rfl
theorem info_frame : (Try.prog.info? 70).map (·.size) = some 32 := by kernel_rfl
theorem under_frames : Try.prog.underlying 65 = some (.slice 70) := by kernel_rfl
theorem info_frames : (Try.prog.info? 70).map (fun i => (i.zero, i.size, i.bytes)) = some (some (.agg (Array.replicate 32 (.int .u8 0))), 32, 32) := by kernel_rfl

theorem mem_zero (m fb n : Nat) (L : List UInt8) (f : Int) (w : World) (h : MemAt w m fb n L) :
    Calls Try.prog 24 #[.pointer (some ⟨m, 0, none⟩), .int .i64 f] w fun e w' =>
      (e = .returned (.int .i64 (if 0 ≤ f ∧ f < n then 0 else 2))) ∧
      MemAt w' m fb n (if 0 ≤ f ∧ f < n then putAt L (32 * f.toNat) (List.replicate 32 0) else L) ∧ Upd [fb] w w' := by
  obtain ⟨cp, X, h⟩ := h
  have hc := h.cell
  have hn := h.hi
  have hl := h.len
  by_cases hk : 0 ≤ f ∧ f < n
  · rw [if_pos hk, if_pos hk]
    obtain ⟨f0, f1⟩ := hk
    have hcl : ∀ ty, _ := fun ty => run_clearb w 24 5 ty under_bytes zero_byte fb (32 * f.toNat) 32 32 (by omega) (bcs L ++ X) FrT h.row (by simp [bcs_length]; omega)
    have hfin := h.put (32 * f.toNat) (List.replicate 32 0) (by simp; omega)
    have hup := (Upd.refl [fb] w).setRow (g := fb) (.inl (by simp)) ((bcs L ++ X).take (32 * f.toNat) ++ bcs (List.replicate 32 0) ++ (bcs L ++ X).drop ((32 * f.toNat) + (bcs (List.replicate 32 0)).length)).toArray
    generalize ((bcs L ++ X).take (32 * f.toNat) ++ bcs (List.replicate 32 0) ++ (bcs L ++ X).drop ((32 * f.toNat) + (bcs (List.replicate 32 0)).length)).toArray = R at *
    generalize putAt L (32 * f.toNat) (List.replicate 32 0) = L' at *
    have HF := Lib.hid hfin
    have HU := Lib.hid hup
    clear hfin hup h hl
    go_enter Try.func24, Try.ntmps24
    go_wp2_with (go_at_call 32; refine (mem_at_ok m fb n _ _ _ _ _ hc hn (by omega) (by omega) (by omega) (by omega) (by omega) (by omega)).mono ?_; rintro e w' ⟨rfl, rfl⟩)
    go_ret
    exact ⟨by simp, ⟨_, _, HF.out⟩, HU.out⟩
  · rw [if_neg hk, if_neg hk]
    have HF := Lib.hid h
    clear h
    have hcl := fun w ty => run_clear_nil (P := Try.prog) w 24 5 ty 0 0 under_bytes
    go_enter Try.func24, Try.ntmps24
    go_wp2_with (go_at_call 32; refine (mem_at_bad m fb n _ _ _ _ _ hc (by omega) (by omega) (by omega)).mono ?_; rintro e w' ⟨rfl, rfl⟩)
    go_ret
    exact ⟨by simp, ⟨_, _, HF.out⟩, Upd.refl _ _⟩

theorem MemX.frameAt {w : World} {m fb n cp : Nat} {L : List UInt8} {X : List Value} (h : MemX w m fb n cp L X) {i : Nat} (hi : i < n) (j : Nat) (c : UInt8) (hj : (frameOf L i)[j]? = some c) :
    w.cell? ⟨fb, 32 * i + j, none⟩ = some (.int .u8 (c.toNat : Int)) := by
  have hl := h.len
  have hj32 : j < 32 := by
    have := (List.getElem?_eq_some_iff.1 hj).1
    rw [frameOf_length L i n hl hi] at this
    exact this
  rw [frameOf_get L i j hj32] at hj
  have := h.byte (i := 32 * i + j) (by omega)
  rw [this]
  simp [List.getD, hj]

theorem mem_copy (m fb n : Nat) (L : List UInt8) (f g : Int) (w : World) (h : MemAt w m fb n L) :
    Calls Try.prog 21 #[.pointer (some ⟨m, 0, none⟩), .int .i64 f, .int .i64 g] w fun e w' =>
      (e = .returned (.int .i64 (if (0 ≤ f ∧ f < n) ∧ 0 ≤ g ∧ g < n then 0 else 2))) ∧
      MemAt w' m fb n (if (0 ≤ f ∧ f < n) ∧ 0 ≤ g ∧ g < n then putAt L (32 * f.toNat) (frameOf L g.toNat) else L) ∧ Upd [fb] w w' := by
  obtain ⟨cp, X, h⟩ := h
  have hc := h.cell
  have hn := h.hi
  have hl := h.len
  by_cases hk : 0 ≤ f ∧ f < n
  · by_cases hk2 : 0 ≤ g ∧ g < n
    · rw [if_pos ⟨hk, hk2⟩, if_pos ⟨hk, hk2⟩]
      obtain ⟨f0, f1⟩ := hk
      obtain ⟨g0, g1⟩ := hk2
      have hfl : (frameOf L g.toNat).length = 32 := frameOf_length L g.toNat n hl (by omega)
      have hcp : ∀ ty, _ := fun ty => run_copyb w ty fb (32 * f.toNat) 32 32 fb (32 * g.toNat) 32 32 (bcs L ++ X) FrT (frameOf L g.toNat) h.row (by rw [hfl]; rfl)
        (fun j c hj => h.frameAt (by omega) j c hj) (by rw [hfl]; simp [bcs_length]; omega)
      have hfin := h.put (32 * f.toNat) (frameOf L g.toNat) (by rw [hfl]; omega)
      have hup := (Upd.refl [fb] w).setRow (g := fb) (.inl (by simp)) ((bcs L ++ X).take (32 * f.toNat) ++ bcs (frameOf L g.toNat) ++ (bcs L ++ X).drop ((32 * f.toNat) + (bcs (frameOf L g.toNat)).length)).toArray
      generalize ((bcs L ++ X).take (32 * f.toNat) ++ bcs (frameOf L g.toNat) ++ (bcs L ++ X).drop ((32 * f.toNat) + (bcs (frameOf L g.toNat)).length)).toArray = R at *
      generalize putAt L (32 * f.toNat) (frameOf L g.toNat) = L' at *
      rw [hfl] at hcp
      have HF := Lib.hid hfin
      have HU := Lib.hid hup
      clear hfin hup h hl hfl
      go_enter Try.func21, Try.ntmps21
      go_wp2_with (go_at_call 32; refine (mem_at_ok m fb n _ _ _ _ _ hc hn (by omega) (by omega) (by omega) (by omega) (by omega) (by omega)).mono ?_; rintro e w' ⟨rfl, rfl⟩)
      go_ret
      exact ⟨by simp, ⟨_, _, HF.out⟩, HU.out⟩
    · rw [if_neg (fun h => hk2 h.2), if_neg (fun h => hk2 h.2)]
      obtain ⟨f0, f1⟩ := hk
      have HF := Lib.hid h
      clear h
      go_enter Try.func21, Try.ntmps21
      go_wp2_with fail
      refine (mem_at_ok m fb n _ _ _ _ _ hc hn (by omega) (by omega) (by omega) (by omega) (by omega) (by omega)).mono ?_; rintro e w' ⟨rfl, rfl⟩
      go_wp2_with fail
      refine (mem_at_bad m fb n _ _ _ _ _ hc (by omega) (by omega) (by omega)).mono ?_; rintro e w' ⟨rfl, rfl⟩
      go_wp2_with fail
      go_ret
      exact ⟨by simp, ⟨_, _, HF.out⟩, Upd.refl _ _⟩
  · rw [if_neg (fun h => hk h.1), if_neg (fun h => hk h.1)]
    have HF := Lib.hid h
    clear h
    by_cases hk2 : 0 ≤ g ∧ g < n
    · obtain ⟨g0, g1⟩ := hk2
      go_enter Try.func21, Try.ntmps21
      go_wp2_with fail
      refine (mem_at_bad m fb n _ _ _ _ _ hc (by omega) (by omega) (by omega)).mono ?_; rintro e w' ⟨rfl, rfl⟩
      go_wp2_with fail
      refine (mem_at_ok m fb n _ _ _ _ _ hc hn (by omega) (by omega) (by omega) (by omega) (by omega) (by omega)).mono ?_; rintro e w' ⟨rfl, rfl⟩
      go_wp2_with fail
      go_ret
      exact ⟨by simp, ⟨_, _, HF.out⟩, Upd.refl _ _⟩
    · go_enter Try.func21, Try.ntmps21
      go_wp2_with fail
      refine (mem_at_bad m fb n _ _ _ _ _ hc (by omega) (by omega) (by omega)).mono ?_; rintro e w' ⟨rfl, rfl⟩
      go_wp2_with fail
      refine (mem_at_bad m fb n _ _ _ _ _ hc (by omega) (by omega) (by omega)).mono ?_; rintro e w' ⟨rfl, rfl⟩
      go_wp2_with fail
      go_ret
      exact ⟨by simp, ⟨_, _, HF.out⟩, Upd.refl _ _⟩

/-- slices.Clone of a row of bytes that is not nil. -/
theorem cloneb_any (w : World) (sb so k cp : Nat) (cs : List UInt8) (hk : cs.length = k) (hlen : k ≤ 1000000)
    (hsrc : ∀ j c, cs[j]? = some c → w.cell? ⟨sb, so + j, none⟩ = some (.int .u8 (c.toNat : Int))) :
    Calls Try.prog 42 #[.slice (some ⟨sb, so, none⟩) k cp] w fun e w' =>
      ∃ v, e = .returned v ∧ w'.ownsRow w.heap.size 5 1 v k (bcs cs) ∧ Upd [] w w' := by
  obtain ⟨i, hi, hz, hs, hb⟩ := info_parts info_bytes
  have hlit := World.ownsRow_lit (base := w.heap.size) (e := 5) (size := 1) w #[] 0 (Nat.le_refl _) (by unfold maxLen; omega) (by simp)
  have hnews : ∀ j u, (bcs cs)[j]? = some u → (w.alloc (.cells #[] 5)).cell? ((⟨sb, so, none⟩ : Addr).add j) = some u := by
    intro j v hv
    rw [bcs_get] at hv
    cases hc : cs[j]? with
    | none => simp [hc] at hv
    | some c =>
      simp [hc] at hv
      subst hv
      rw [Addr.add_mid]
      exact Lib.cell?_alloc_some _ (hsrc j c hc)
  have HN := Lib.hid hnews
  have HL := Lib.hid hlit
  have HS := Lib.hid hsrc
  have HI := Lib.hid hi
  have HK := Lib.hid hk
  clear hnews hlit hsrc hi hk
  have heq := fun w a n c => Lib.run_eql_slice_nil (P := Try.prog) w 24 5 a n c 0 0 under_bytes
  go_enter Try.func42, Try.ntmps42
  go_wp2_with (at_builtin; refine wpList_append_own _ rfl _ _ 24 rfl w.heap.size 5 i (.int .u8 0) 1 1 under_bytes HI.out hz hs hb rfl (by decide) _ 0 [] rfl HL.out ⟨sb, so, none⟩ k cp (bcs cs) rfl (by rw [bcs_length, HK.out]; omega) HN.out (bcs_one cs) (by unfold maxLen; omega) (by omega) (by simp) ?_; intro v' w1 hown hgrow hnil)
  go_ret
  refine ⟨_, rfl, by simpa using hown, ?_⟩
  exact ((Upd.refl [] w).alloc _).grown hgrow (fun k hk => .inr (by injection (show some w.heap.size = some k from hk) with h; omega))

/-- slices.Clone of frames. -/
theorem clonef_any (w : World) (sb so k cp : Nat) (cs : List UInt8) (hk : cs.length = 32 * k) (hlen : k ≤ 100000)
    (hsrc : ∀ j c, cs[j]? = some c → w.cell? ⟨sb, so + j, none⟩ = some (.int .u8 (c.toNat : Int))) :
    Calls Try.prog 43 #[.slice (some ⟨sb, so, none⟩) k cp] w fun e w' =>
      ∃ v, e = .returned v ∧ v ≠ .slice none 0 0 ∧ w'.ownsRow w.heap.size 70 32 v k (bcs cs) ∧ Upd [] w w' := by
  obtain ⟨i, hi, hz, hs, hb⟩ := info_parts info_frames
  have hlit := World.ownsRow_lit (base := w.heap.size) (e := 70) (size := 32) w #[] 0 (Nat.le_refl _) (by unfold maxLen; omega) (by simp)
  have hnews : ∀ j u, (bcs cs)[j]? = some u → (w.alloc (.cells #[] 70)).cell? ((⟨sb, so, none⟩ : Addr).add j) = some u := by
    intro j v hv
    rw [bcs_get] at hv
    cases hc : cs[j]? with
    | none => simp [hc] at hv
    | some c =>
      simp [hc] at hv
      subst hv
      rw [Addr.add_mid]
      exact Lib.cell?_alloc_some _ (hsrc j c hc)
  have HN := Lib.hid hnews
  have HL := Lib.hid hlit
  have HI := Lib.hid hi
  have HK := Lib.hid hk
  have HZ := Lib.hid hz
  clear hnews hlit hsrc hi hk hz
  have heq := fun w a n c => Lib.run_eql_slice_nil (P := Try.prog) w 65 70 a n c 0 0 under_frames
  go_enter Try.func43, Try.ntmps43
  go_wp2_with (at_builtin; refine wpList_append_own _ rfl _ _ 65 rfl w.heap.size 70 i (.agg (Array.replicate 32 (.int .u8 0))) 32 32 under_frames HI.out HZ.out hs hb (by simp [Value.cells]) (by decide) _ 0 [] rfl HL.out ⟨sb, so, none⟩ k cp (bcs cs) rfl (by rw [bcs_length, HK.out]; omega) HN.out (bcs_one cs) (by unfold maxLen; omega) (by omega) (by simp) ?_; intro v' w1 hown hgrow hnil)
  go_ret
  refine ⟨_, rfl, (fun h => by have h2 := (hnil.1 h).1; injection h2 with h3 _ _; injection h3), by simpa using hown, ?_⟩
  exact ((Upd.refl [] w).alloc _).grown hgrow (fun k hk => .inr (by injection (show some w.heap.size = some k from hk) with h; omega))

theorem mem_frame_ok (m fb n : Nat) (L : List UInt8) (f : Int) (w : World) (h : MemAt w m fb n L) (f0 : 0 ≤ f) (f1 : f < n) :
    Calls Try.prog 22 #[.pointer (some ⟨m, 0, none⟩), .int .i64 f] w fun e w' =>
      ∃ v, e = .returned (.tuple #[v, .int .i64 0]) ∧ w'.ownsRow w.heap.size 5 1 v 32 (bcs (frameOf L f.toNat)) ∧ Upd [] w w' := by
  obtain ⟨cp, X, h⟩ := h
  have hc := h.cell
  have hn := h.hi
  have hl := h.len
  have HF := Lib.hid h
  have HFL := Lib.hid (frameOf_length L f.toNat n hl (by omega))
  clear h hl
  go_enter Try.func22, Try.ntmps22
  go_wp2_with fail
  refine (mem_at_ok m fb n _ _ _ _ _ hc hn (by omega) (by omega) (by omega) (by omega) (by omega) (by omega)).mono ?_; rintro e w' ⟨rfl, rfl⟩
  go_wp2_with fail
  refine (cloneb_any _ fb _ 32 _ (frameOf L f.toNat) HFL.out (by omega) (fun j c hj => HF.out.frameAt (by omega) j c hj)).mono ?_; rintro e w' ⟨v, rfl, hv, hu⟩
  go_wp2_with fail
  go_ret2
  exact ⟨v, by simp, hv, hu⟩

theorem mem_frame_bad (m fb n : Nat) (L : List UInt8) (f : Int) (w : World) (h : MemAt w m fb n L) (hf : f < 0 ∨ n ≤ f) :
    Calls Try.prog 22 #[.pointer (some ⟨m, 0, none⟩), .int .i64 f] w fun e w' =>
      e = .returned (.tuple #[.slice none 0 0, .int .i64 2]) ∧ w = w' := by
  obtain ⟨cp, X, h⟩ := h
  have hc := h.cell
  clear h
  have heq := fun w a n c => Lib.run_eql_slice_nil (P := Try.prog) w 24 5 a n c 0 0 under_bytes
  go_enter Try.func22, Try.ntmps22
  go_wp2_with fail
  refine (mem_at_bad m fb n _ _ _ _ _ hc (by omega) (by omega) (by omega)).mono ?_; rintro e w' ⟨rfl, rfl⟩
  go_wp2
  go_ret2
  exact ⟨by simp, rfl⟩

/-- The zero of frames, as bytes. -/
def zeros32 : Array Value := #[.int .u8 0, .int .u8 0, .int .u8 0, .int .u8 0, .int .u8 0, .int .u8 0, .int .u8 0, .int .u8 0, .int .u8 0, .int .u8 0, .int .u8 0, .int .u8 0, .int .u8 0, .int .u8 0, .int .u8 0, .int .u8 0, .int .u8 0, .int .u8 0, .int .u8 0, .int .u8 0, .int .u8 0, .int .u8 0, .int .u8 0, .int .u8 0, .int .u8 0, .int .u8 0, .int .u8 0, .int .u8 0, .int .u8 0, .int .u8 0, .int .u8 0, .int .u8 0]
theorem zeros_bcs : (Array.replicate 32 (Value.int .u8 0)) = (bcs (List.replicate 32 0)).toArray := rfl

theorem MemX.rangeAt {w : World} {m fb n cp : Nat} {L : List UInt8} {X : List Value} (h : MemX w m fb n cp L X) {i : Nat} (hi : i < n) : w.rangeAt fb (32 * i) (bcs (frameOf L i)) := by
  intro j v hv
  rw [bcs_get] at hv
  cases hc : (frameOf L i)[j]? with
  | none => simp [hc] at hv
  | some c =>
    simp [hc] at hv
    subst hv
    exact h.frameAt hi j c hc

theorem mem_clean (m fb n : Nat) (L : List UInt8) (f : Int) (w : World) (h : MemAt w m fb n L) :
    Calls Try.prog 25 #[.pointer (some ⟨m, 0, none⟩), .int .i64 f] w fun e w' =>
      e = .returned (.bool (decide ((0 ≤ f ∧ f < n) ∧ frameOf L f.toNat = List.replicate 32 0))) ∧ w = w' := by
  obtain ⟨cp, X, h⟩ := h
  have hc := h.cell
  have hn := h.hi
  have hl := h.len
  by_cases hk : 0 ≤ f ∧ f < n
  · obtain ⟨f0, f1⟩ := hk
    have hfl := frameOf_length L f.toNat n hl (by omega)
    have hra : w.rangeAt fb (f.toNat * 32) (bcs (frameOf L f.toNat)) := by have := h.rangeAt (i := f.toNat) (by omega); rw [Nat.mul_comm]; exact this
    have hsz : (Try.prog.info? 70).map (·.size) = some (bcs (frameOf L f.toNat)).length := by rw [bcs_length, hfl]; exact info_frame
    have HSZ := Lib.hid hsz
    clear hsz
    have heq : (Op.equalIn 10000 70 (.agg (bcs (frameOf L f.toNat)).toArray) (.agg zeros32)).run Try.prog w = .ok (decide (frameOf L f.toNat = List.replicate 32 0)) w := run_equalIn_barr (P := Try.prog) w 9998 70 5 32 (frameOf L f.toNat) (List.replicate 32 0) hfl (by simp) under_frame under_byte info_byte
    unfold zeros32 at heq
    clear h hl
    have hd : decide ((0 ≤ f ∧ f < n) ∧ frameOf L f.toNat = List.replicate 32 0) = decide (frameOf L f.toNat = List.replicate 32 0) := by simp [f0, f1]
    generalize decide ((0 ≤ f ∧ f < n) ∧ frameOf L f.toNat = List.replicate 32 0) = D at *
    generalize decide (frameOf L f.toNat = List.replicate 32 0) = D' at *
    subst hd
    go_enter Try.func25, Try.ntmps25
    go_wp2_with fail
    refine (mem_at_ok m fb n _ _ _ _ _ hc hn (by omega) (by omega) (by omega) (by omega) (by omega) (by omega)).mono ?_; rintro e w' ⟨rfl, rfl⟩
    go_wp2_with (refine wpList_load_midg rfl 70 _ rfl fb (f.toNat * 32) rfl _ _ hra under_frame rfl HSZ.out ?_)
    go_ret
    exact ⟨by simp, rfl⟩
  · rw [decide_eq_false (fun h => hk h.1)]
    clear h
    go_enter Try.func25, Try.ntmps25
    go_wp2_with fail
    refine (mem_at_bad m fb n _ _ _ _ _ hc (by omega) (by omega) (by omega)).mono ?_; rintro e w' ⟨rfl, rfl⟩
    go_wp2_with fail
    go_ret
    exact ⟨by simp, rfl⟩

end Go.Proofs.Ytmfokjifloafhaa
