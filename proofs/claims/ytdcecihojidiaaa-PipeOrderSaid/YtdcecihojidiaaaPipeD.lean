/- The pipe's counters: Open, Close, Count. -/
import Derived.Test.YtdcecihojidiaaaPipeC
import Derived.Deep.RegionHeld3
namespace Go.Proofs.Ytdcecihojidiaaa
open Go.RowKit

/-- At p lies a pipe: what is in it, how often it is open. -/
def PipeAt (w : World) (p : Nat) (L : List UInt8) (rd wr : Nat) : Prop := (∃ B f, Blk w p PipT (ringCells B f L.length rd wr).toArray ∧ Ring B L f) ∧ rd ≤ 100 ∧ wr ≤ 100
def RefT : TypeId := 64
/-- At r lies the reference's. -/
def RefAt (w : World) (r : Nat) (L : List UInt8) (rd wr : Nat) : Prop := Blk w r RefT #[.string ⟨L.toArray⟩, .int .i64 rd, .int .i64 wr] ∧ L.length ≤ 24 ∧ rd ≤ 100 ∧ wr ≤ 100

def upE (c : Nat) : Int := if 100 ≤ c then 4 else 0
def upC (c : Nat) : Nat := if 100 ≤ c then c else c + 1
def downE (c : Nat) : Int := if c = 0 then 9 else 0
theorem upC_le (c : Nat) (h : c ≤ 100) : upC c ≤ 100 := by unfold upC; split <;> omega

theorem end_any (p : Nat) (b : Bool) (w : World) :
    Calls Try.prog 23 #[.pointer (some ⟨p, 0, none⟩), .bool b] w fun e w' => e = .returned (.pointer (some ⟨p, if b then 27 else 26, none⟩)) ∧ w = w' := by
  cases b
  all_goals
    go_enter Try.func23, Try.ntmps23
    go_wp2
    go_ret
    exact ⟨by simp, rfl⟩

theorem up_any (p i c : Nat) (w : World) (hc : w.cell? ⟨p, i, none⟩ = some (.int .i64 c)) (hf : w.frozen? ⟨p, i, none⟩ = false) (h100 : c ≤ 100) :
    Calls Try.prog 24 #[.pointer (some ⟨p, i, none⟩)] w fun e w' => e = .returned (.int .i64 (upE c)) ∧ w' = (if 100 ≤ c then w else w.setCell ⟨p, i, none⟩ (.int .i64 (c + 1))) := by
  unfold upE
  by_cases h : 100 ≤ c
  · rw [if_pos h, if_pos h]
    have h' : (100 : Int) ≤ c := by omega
    clear h
    go_enter Try.func24, Try.ntmps24
    go_wp2
    go_ret
    exact ⟨by simp, rfl⟩
  · rw [if_neg h, if_neg h]
    have h' : (c : Int) < 100 := by omega
    clear h
    go_enter Try.func24, Try.ntmps24
    go_wp2
    go_ret
    exact ⟨by simp, by simp⟩

theorem down_any (p i c : Nat) (w : World) (hc : w.cell? ⟨p, i, none⟩ = some (.int .i64 c)) (hf : w.frozen? ⟨p, i, none⟩ = false) (h100 : c ≤ 100) :
    Calls Try.prog 32 #[.pointer (some ⟨p, i, none⟩)] w fun e w' => e = .returned (.int .i64 (downE c)) ∧ w' = (if c = 0 then w else w.setCell ⟨p, i, none⟩ (.int .i64 (c - 1))) := by
  unfold downE
  by_cases h : c = 0
  · subst h
    rw [if_pos rfl, if_pos rfl]
    go_enter Try.func32, Try.ntmps32
    go_wp2
    go_ret
    exact ⟨by simp, rfl⟩
  · rw [if_neg h, if_neg h]
    have h' : (0 : Int) < c := by omega
    have h'' : ¬ (c : Int) = 0 := by omega
    go_enter Try.func32, Try.ntmps32
    go_wp2
    go_ret
    exact ⟨by simp, by simp⟩

section
variable {w w' : World} {p : Nat} {L : List UInt8} {rd wr : Nat}
theorem PipeAt.cellN (h : PipeAt w p L rd wr) : w.cell? ⟨p, 25, none⟩ = some (.int .i64 L.length) := by
  obtain ⟨⟨B, f, hb, hr⟩, _, _⟩ := h
  exact hb.cellAt (by simp [ringCells, bcs_length, hr.len])
theorem PipeAt.cellR (h : PipeAt w p L rd wr) : w.cell? ⟨p, 26, none⟩ = some (.int .i64 rd) := by
  obtain ⟨⟨B, f, hb, hr⟩, _, _⟩ := h
  exact hb.cellAt (by simp [ringCells, bcs_length, hr.len])
theorem PipeAt.cellW (h : PipeAt w p L rd wr) : w.cell? ⟨p, 27, none⟩ = some (.int .i64 wr) := by
  obtain ⟨⟨B, f, hb, hr⟩, _, _⟩ := h
  exact hb.cellAt (by simp [ringCells, bcs_length, hr.len])
theorem PipeAt.frozen (h : PipeAt w p L rd wr) (i : Nat) : w.frozen? ⟨p, i, none⟩ = false := by
  obtain ⟨⟨B, f, hb, hr⟩, _, _⟩ := h
  exact hb.frozen i
theorem PipeAt.len (h : PipeAt w p L rd wr) : L.length ≤ 24 := by
  obtain ⟨⟨B, f, hb, hr⟩, _, _⟩ := h
  exact hr.hi
theorem PipeAt.lt (h : PipeAt w p L rd wr) : p < w.heap.size := by
  obtain ⟨⟨B, f, hb, hr⟩, _, _⟩ := h
  exact hb.lt
theorem PipeAt.setR (h : PipeAt w p L rd wr) (c : Nat) (hc : c ≤ 100) : PipeAt (w.setCell ⟨p, 26, none⟩ (.int .i64 c)) p L c wr := by
  obtain ⟨⟨B, f, hb, hr⟩, h1, h2⟩ := h
  refine ⟨⟨B, f, ?_, hr⟩, hc, h2⟩
  have := hb.set_ 26 (.int .i64 c)
  have e : (ringCells B f L.length rd wr).toArray.setIfInBounds 26 (.int .i64 c) = (ringCells B f L.length c wr).toArray := by simp [ringCells, bcs_length, hr.len, List.set_append]
  rw [e] at this
  exact this
theorem PipeAt.setW (h : PipeAt w p L rd wr) (c : Nat) (hc : c ≤ 100) : PipeAt (w.setCell ⟨p, 27, none⟩ (.int .i64 c)) p L rd c := by
  obtain ⟨⟨B, f, hb, hr⟩, h1, h2⟩ := h
  refine ⟨⟨B, f, ?_, hr⟩, h1, hc⟩
  have := hb.set_ 27 (.int .i64 c)
  have e : (ringCells B f L.length rd wr).toArray.setIfInBounds 27 (.int .i64 c) = (ringCells B f L.length rd c).toArray := by simp [ringCells, bcs_length, hr.len, List.set_append]
  rw [e] at this
  exact this
theorem PipeAt.upd {S : List Nat} (h : PipeAt w p L rd wr) (hu : Upd S w w') (hp : p ∉ S) : PipeAt w' p L rd wr := by
  obtain ⟨⟨B, f, hb, hr⟩, h1, h2⟩ := h
  exact ⟨⟨B, f, hb.upd hu hp, hr⟩, h1, h2⟩
theorem PipeAt.drew (h : PipeAt w p L rd wr) : PipeAt w.drew p L rd wr := by
  obtain ⟨⟨B, f, hb, hr⟩, h1, h2⟩ := h
  exact ⟨⟨B, f, hb.drew, hr⟩, h1, h2⟩
theorem RefAt.upd {S : List Nat} (h : RefAt w p L rd wr) (hu : Upd S w w') (hp : p ∉ S) : RefAt w' p L rd wr := ⟨h.1.upd hu hp, h.2⟩
theorem RefAt.drew (h : RefAt w p L rd wr) : RefAt w.drew p L rd wr := ⟨h.1.drew, h.2⟩
end

theorem up_R (p : Nat) (L : List UInt8) (rd wr : Nat) (w : World) (h : PipeAt w p L rd wr) :
    Calls Try.prog 24 #[.pointer (some ⟨p, 26, none⟩)] w fun e w' => e = .returned (.int .i64 (upE rd)) ∧ PipeAt w' p L (upC rd) wr ∧ Upd [p] w w' := by
  refine (up_any p 26 rd w h.cellR (h.frozen 26) h.2.1).mono ?_
  rintro e w' ⟨rfl, rfl⟩
  have hs := h.setR (upC rd) (upC_le _ h.2.1)
  refine ⟨rfl, ?_, ?_⟩
  · by_cases hk : 100 ≤ rd
    · simpa [hk, upC] using h
    · simpa [hk, upC] using hs
  · split
    · exact Upd.refl _ _
    · exact (Upd.refl [p] w).setCell (p := ⟨p, 26, none⟩) (.inl (by simp)) _
theorem up_W (p : Nat) (L : List UInt8) (rd wr : Nat) (w : World) (h : PipeAt w p L rd wr) :
    Calls Try.prog 24 #[.pointer (some ⟨p, 27, none⟩)] w fun e w' => e = .returned (.int .i64 (upE wr)) ∧ PipeAt w' p L rd (upC wr) ∧ Upd [p] w w' := by
  refine (up_any p 27 wr w h.cellW (h.frozen 27) h.2.2).mono ?_
  rintro e w' ⟨rfl, rfl⟩
  have hs := h.setW (upC wr) (upC_le _ h.2.2)
  refine ⟨rfl, ?_, ?_⟩
  · by_cases hk : 100 ≤ wr
    · simpa [hk, upC] using h
    · simpa [hk, upC] using hs
  · split
    · exact Upd.refl _ _
    · exact (Upd.refl [p] w).setCell (p := ⟨p, 27, none⟩) (.inl (by simp)) _
theorem down_R (p : Nat) (L : List UInt8) (rd wr : Nat) (w : World) (h : PipeAt w p L rd wr) :
    Calls Try.prog 32 #[.pointer (some ⟨p, 26, none⟩)] w fun e w' => e = .returned (.int .i64 (downE rd)) ∧ PipeAt w' p L (rd - 1) wr ∧ Upd [p] w w' := by
  refine (down_any p 26 rd w h.cellR (h.frozen 26) h.2.1).mono ?_
  rintro e w' ⟨rfl, rfl⟩
  have hs := h.setR (rd - 1) (by have := h.2.1; omega)
  refine ⟨rfl, ?_, ?_⟩
  · by_cases hk : rd = 0
    · subst hk; simpa using h
    · have e : ((rd - 1 : Nat) : Int) = (rd : Int) - 1 := by omega
      rw [e] at hs
      rw [if_neg hk]
      exact hs
  · split
    · exact Upd.refl _ _
    · exact (Upd.refl [p] w).setCell (p := ⟨p, 26, none⟩) (.inl (by simp)) _
theorem down_W (p : Nat) (L : List UInt8) (rd wr : Nat) (w : World) (h : PipeAt w p L rd wr) :
    Calls Try.prog 32 #[.pointer (some ⟨p, 27, none⟩)] w fun e w' => e = .returned (.int .i64 (downE wr)) ∧ PipeAt w' p L rd (wr - 1) ∧ Upd [p] w w' := by
  refine (down_any p 27 wr w h.cellW (h.frozen 27) h.2.2).mono ?_
  rintro e w' ⟨rfl, rfl⟩
  have hs := h.setW (wr - 1) (by have := h.2.2; omega)
  refine ⟨rfl, ?_, ?_⟩
  · by_cases hk : wr = 0
    · subst hk; simpa using h
    · have e : ((wr - 1 : Nat) : Int) = (wr : Int) - 1 := by omega
      rw [e] at hs
      rw [if_neg hk]
      exact hs
  · split
    · exact Upd.refl _ _
    · exact (Upd.refl [p] w).setCell (p := ⟨p, 27, none⟩) (.inl (by simp)) _

theorem open_any (p : Nat) (L : List UInt8) (rd wr : Nat) (w : World) (b : Bool) (h : PipeAt w p L rd wr) :
    Calls Try.prog 10 #[.pointer (some ⟨p, 0, none⟩), .bool b] w fun e w' =>
      e = .returned (.int .i64 (upE (if b then wr else rd))) ∧ PipeAt w' p L (if b then rd else upC rd) (if b then upC wr else wr) ∧ Upd [p] w w' := by
  have HR := Lib.hid (up_R p L rd wr w h)
  have HW := Lib.hid (up_W p L rd wr w h)
  clear h
  cases b
  · go_enter Try.func10, Try.ntmps10
    go_wp2_with (go_at_call 23; refine (end_any p false _).mono ?_; rintro e w' ⟨rfl, rfl⟩)
    refine HR.out.mono ?_; rintro e w1 ⟨rfl, h1, h2⟩
    have H1 := Lib.hid h1
    have H2 := Lib.hid h2
    clear h1 h2
    go_wp2
    go_ret
    exact ⟨by simp, by simpa using H1.out, H2.out⟩
  · go_enter Try.func10, Try.ntmps10
    go_wp2_with (go_at_call 23; refine (end_any p true _).mono ?_; rintro e w' ⟨rfl, rfl⟩)
    refine HW.out.mono ?_; rintro e w1 ⟨rfl, h1, h2⟩
    have H1 := Lib.hid h1
    have H2 := Lib.hid h2
    clear h1 h2
    go_wp2
    go_ret
    exact ⟨by simp, by simpa using H1.out, H2.out⟩

theorem close_any (p : Nat) (L : List UInt8) (rd wr : Nat) (w : World) (b : Bool) (h : PipeAt w p L rd wr) :
    Calls Try.prog 19 #[.pointer (some ⟨p, 0, none⟩), .bool b] w fun e w' =>
      e = .returned (.int .i64 (downE (if b then wr else rd))) ∧ PipeAt w' p L (if b then rd else rd - 1) (if b then wr - 1 else wr) ∧ Upd [p] w w' := by
  have HR := Lib.hid (down_R p L rd wr w h)
  have HW := Lib.hid (down_W p L rd wr w h)
  clear h
  cases b
  · go_enter Try.func19, Try.ntmps19
    go_wp2_with (go_at_call 23; refine (end_any p false _).mono ?_; rintro e w' ⟨rfl, rfl⟩)
    refine HR.out.mono ?_; rintro e w1 ⟨rfl, h1, h2⟩
    have H1 := Lib.hid h1
    have H2 := Lib.hid h2
    clear h1 h2
    go_wp2
    go_ret
    exact ⟨by simp, by simpa using H1.out, H2.out⟩
  · go_enter Try.func19, Try.ntmps19
    go_wp2_with (go_at_call 23; refine (end_any p true _).mono ?_; rintro e w' ⟨rfl, rfl⟩)
    refine HW.out.mono ?_; rintro e w1 ⟨rfl, h1, h2⟩
    have H1 := Lib.hid h1
    have H2 := Lib.hid h2
    clear h1 h2
    go_wp2
    go_ret
    exact ⟨by simp, by simpa using H1.out, H2.out⟩

theorem count_any (p : Nat) (L : List UInt8) (rd wr : Nat) (w : World) (b : Bool) (h : PipeAt w p L rd wr) :
    Calls Try.prog 18 #[.pointer (some ⟨p, 0, none⟩), .bool b] w fun e w' => e = .returned (.int .i64 ((if b then wr else rd : Nat) : Int)) ∧ w = w' := by
  have hR := h.cellR
  have hW := h.cellW
  clear h
  cases b
  all_goals
    go_enter Try.func18, Try.ntmps18
    go_wp2_with (go_at_call 23; refine (end_any p _ _).mono ?_; rintro e w' ⟨rfl, rfl⟩)
    go_ret
    exact ⟨by simp, rfl⟩

/-- text: what is in it. -/
theorem text_any (p : Nat) (L : List UInt8) (rd wr : Nat) (w : World) (h : PipeAt w p L rd wr) :
    Calls Try.prog 14 #[.pointer (some ⟨p, 0, none⟩)] w fun e w' => e = .returned (.string ⟨L.toArray⟩) ∧ Upd [] w w' := by
  have hN := h.cellN
  obtain ⟨⟨B, f, hb, hr⟩, h1, h2⟩ := h
  have HB := Lib.hid hb
  have HR := Lib.hid hr
  clear hb hr h1 h2
  have hsee := fun W hW => see_any p B L f rd wr L.length W hW HR.out L.length (by omega) (by omega)
  simp only [List.take_length] at hsee
  have HS := Lib.hid hsee
  clear hsee
  go_enter Try.func14, Try.ntmps14
  go_wp2_with fail
  go_region_held3 (fun w' => w'.cell? ⟨p, 25, none⟩ = some (.int .i64 L.length)) (simp [*])
    ((go_at_call 27; refine (HS.out _ HB.out.drew).mono ?_; rintro e w1 ⟨rfl, hu1⟩; have HU1 := Lib.hid hu1; have d1 := hu1.cellAt hN (by simp); clear hu1))
  go_wp2
  go_ret
  exact ⟨by simp, ((Upd.refl [] w).drew.trans0 HU1.out)⟩

end Go.Proofs.Ytdcecihojidiaaa
