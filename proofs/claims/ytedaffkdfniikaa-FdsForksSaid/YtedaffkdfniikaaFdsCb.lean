/- A table that is being copied: what holds meanwhile; twin. -/
import Derived.Test.YtedaffkdfniikaaFdsCa
namespace Go.Proofs.Ytedaffkdfniikaa
open Go.RowKit Go.Shelf

def MpT : TypeId := 77
theorem lookP_app (ps : List (Nat × Nat)) (x y z : Nat) : lookP (ps ++ [(x, y)]) z = (lookP ps z).or (if x = z then some y else none) := by
  unfold lookP
  rw [List.find?_append]
  cases h : ps.find? (fun p => p.1 == z) with
  | some q => simp
  | none =>
    by_cases hx : x = z
    · simp [hx]
    · simp [hx]
structure Cp (W0 W : World) (f cb m : Nat) (S : St) (sb : Nat → Nat) (T : Nat → Bool) (R : Nat → Nat → Bool) (own : List Nat) (pbc sbc : Nat → Nat) (seen : Nat → Bool) (ps : List (Nat × Nat)) : Prop where
  tab : Blk W f TabT (rowF 6 fun a => pv (T a) (pbc a))
  prc : ∀ a, a < 6 → T a = true → Blk W (pbc a) ProcT (rowF 8 fun b => if R a b = true then sv sbc (S.fd a b) else .pointer none)
  shr : ∀ n, n ≠ 0 → seen n = true → Blk W (sbc n) ShT (shC (opAt S n) (cntF S.fd n))
  injp : ∀ a b, a < 6 → b < 6 → T a = true → T b = true → pbc a = pbc b → a = b
  injs : ∀ n k, n ≠ 0 → k ≠ 0 → seen n = true → seen k = true → sbc n = sbc k → n = k
  cell : Blk W cb MpT #[.map (some m)]
  map : PMap W m ps
  look : ∀ n, n ≠ 0 → cntF S.fd n ≠ 0 → lookP ps (sb n) = if seen n = true then some (sbc n) else none
  keys : ∀ p, p ∈ ps → ∃ n, n ≠ 0 ∧ cntF S.fd n ≠ 0 ∧ p.1 = sb n
  rs : ∀ a b, a < 6 → b < 8 → R a b = true → S.fd a b ≠ 0 → seen (S.fd a b) = true
  of : f ∈ own
  op : ∀ a, a < 6 → T a = true → pbc a ∈ own
  os : ∀ n, n ≠ 0 → seen n = true → sbc n ∈ own
  ol : ∀ g, g ∈ own → W0.heap.size ≤ g ∧ g < W.heap.size
  ml : W0.heap.size ≤ m
  u : Upd [] W0 W
section
variable {W0 W W' : World} {f cb m : Nat} {S : St} {sb : Nat → Nat} {T : Nat → Bool} {R : Nat → Nat → Bool} {own : List Nat} {pbc sbc : Nat → Nat} {seen : Nat → Bool} {ps : List (Nat × Nat)}
theorem Cp.upd0 (h : Cp W0 W f cb m S sb T R own pbc sbc seen ps) (hu : Upd [] W W') : Cp W0 W' f cb m S sb T R own pbc sbc seen ps :=
  ⟨h.tab.upd hu (by simp), fun a ha hT => (h.prc a ha hT).upd hu (by simp), fun n h0 hs => (h.shr n h0 hs).upd hu (by simp), h.injp, h.injs, h.cell.upd hu (by simp), h.map.upd hu (by simp), h.look, h.keys, h.rs, h.of, h.op, h.os, fun g hg => ⟨(h.ol g hg).1, Nat.lt_of_lt_of_le (h.ol g hg).2 hu.size⟩, h.ml, h.u.trans' hu⟩
theorem Cp.congr {T' : Nat → Bool} {R' : Nat → Nat → Bool} (h : Cp W0 W f cb m S sb T R own pbc sbc seen ps) (hT : ∀ a, a < 6 → T' a = T a) (hR : ∀ a, a < 6 → T a = true → ∀ b, b < 8 → R' a b = R a b)
    (hrs : ∀ a b, a < 6 → b < 8 → R' a b = true → S.fd a b ≠ 0 → seen (S.fd a b) = true) : Cp W0 W f cb m S sb T' R' own pbc sbc seen ps := by
  refine ⟨?_, fun a ha hTa => ?_, h.shr, fun a b ha hb h1 h2 => h.injp a b ha hb (by rw [← hT a ha]; exact h1) (by rw [← hT b hb]; exact h2), h.injs, h.cell, h.map, h.look, h.keys, hrs, h.of, fun a ha hTa => h.op a ha (by rw [← hT a ha]; exact hTa), h.os, h.ol, h.ml, h.u⟩
  · have e : rowF 6 (fun a => pv (T' a) (pbc a)) = rowF 6 (fun a => pv (T a) (pbc a)) := rowF_congr fun a ha => by rw [hT a ha]
    rw [e]; exact h.tab
  · rw [hT a ha] at hTa
    have e : rowF 8 (fun b => if R' a b = true then sv sbc (S.fd a b) else .pointer none) = rowF 8 (fun b => if R a b = true then sv sbc (S.fd a b) else .pointer none) := rowF_congr fun b hb => by rw [hR a ha hTa b hb]
    rw [e]; exact h.prc a ha hTa
/-- A descriptor of the copy is put. -/
theorem Cp.put (h : Cp W0 W f cb m S sb T R own pbc sbc seen ps) {i k : Nat} (hi : i < 6) (hTi : T i = true) (hs : S.fd i k ≠ 0 → seen (S.fd i k) = true) :
    Cp W0 (W.setCell ⟨pbc i, k, none⟩ (sv sbc (S.fd i k))) f cb m S sb T (fun a b => if a = i ∧ b = k then true else R a b) own pbc sbc seen ps := by
  have hbi := h.prc i hi hTi
  have hpi := h.op i hi hTi
  refine ⟨h.tab.far (h.tab.ne_ hbi (by decide)) _, fun a ha hTa => ?_, fun n h0 hn => (h.shr n h0 hn).far ((h.shr n h0 hn).ne_ hbi (by decide)) _, h.injp, h.injs, h.cell.far (h.cell.ne_ hbi (by decide)) _, h.map.upd ((Upd.refl [pbc i] W).setCell (p := ⟨pbc i, k, none⟩) (.inl (by simp)) _) (by simp; exact fun e => h.map.ne hbi e.symm), h.look, h.keys, fun a b ha hb hR h0 => ?_, h.of, h.op, h.os, fun g hg => ⟨(h.ol g hg).1, by rw [size_set]; exact (h.ol g hg).2⟩, h.ml, h.u.setCell (p := ⟨pbc i, k, none⟩) (.inr (h.ol _ hpi).1) _⟩
  · by_cases hai : a = i
    · subst hai
      have := hbi.set_ k (sv sbc (S.fd a k))
      rw [rowF_set] at this
      have e : rowF 8 (fun b => if (if a = a ∧ b = k then true else R a b) = true then sv sbc (S.fd a b) else .pointer none) = rowF 8 (fun b => if b = k then sv sbc (S.fd a k) else if R a b = true then sv sbc (S.fd a b) else .pointer none) := rowF_congr fun b _ => by
        by_cases hb : b = k <;> simp [hb]
      exact (show Blk _ (pbc a) ProcT (rowF 8 (fun b => if (if a = a ∧ b = k then true else R a b) = true then sv sbc (S.fd a b) else .pointer none)) by rw [e]; exact this)
    · have e : rowF 8 (fun b => if (if a = i ∧ b = k then true else R a b) = true then sv sbc (S.fd a b) else .pointer none) = rowF 8 (fun b => if R a b = true then sv sbc (S.fd a b) else .pointer none) := rowF_congr fun b _ => by
        simp [hai]
      exact (show Blk _ (pbc a) ProcT (rowF 8 (fun b => if (if a = i ∧ b = k then true else R a b) = true then sv sbc (S.fd a b) else .pointer none)) by rw [e]; exact (h.prc a ha hTa).far (fun e => hai (h.injp a i ha hi hTa hTi e)) _)
  · (try simp only at hR)
    by_cases hab : a = i ∧ b = k
    · obtain ⟨rfl, rfl⟩ := hab
      exact hs h0
    · rw [if_neg hab] at hR
      exact h.rs a b ha hb hR h0
/-- A process of the copy begins. -/
theorem Cp.tset (h : Cp W0 W f cb m S sb T R own pbc sbc seen ps) {i x : Nat} (hi : i < 6) (hTi : T i = false) (hx : Blk W x ProcT (rowF 8 fun _ => .pointer none)) (hfr : ∀ a, a < 6 → T a = true → pbc a ≠ x) (hx0 : W0.heap.size ≤ x) (hR : ∀ b, b < 8 → R i b = false) :
    Cp W0 (W.setCell ⟨f, i, none⟩ (.pointer (some ⟨x, 0, none⟩))) f cb m S sb (fun a => if a = i then true else T a) R (x :: own) (fun a => if a = i then x else pbc a) sbc seen ps := by
  refine ⟨?_, fun a ha hTa => ?_, fun n h0 hn => (h.shr n h0 hn).far ((h.shr n h0 hn).ne_ h.tab (by decide)) _, fun a b ha hb h1 h2 e => ?_, h.injs, h.cell.far (h.cell.ne_ h.tab (by decide)) _, h.map.upd ((Upd.refl [f] W).setCell (p := ⟨f, i, none⟩) (.inl (by simp)) _) (by simp; exact fun e => h.map.ne h.tab e.symm), h.look, h.keys, h.rs, List.mem_cons_of_mem _ h.of, fun a ha hTa => ?_, fun n h0 hn => List.mem_cons_of_mem _ (h.os n h0 hn), fun g hg => ?_, h.ml, h.u.setCell (p := ⟨f, i, none⟩) (.inr (h.ol _ h.of).1) _⟩
  · have := h.tab.set_ i (.pointer (some ⟨x, 0, none⟩))
    rw [rowF_set] at this
    have e : rowF 6 (fun a => pv (if a = i then true else T a) (if a = i then x else pbc a)) = rowF 6 (fun a => if a = i then .pointer (some ⟨x, 0, none⟩) else pv (T a) (pbc a)) := rowF_congr fun a _ => by
      by_cases ha : a = i <;> simp [ha, pv]
    exact (show Blk _ f TabT (rowF 6 (fun a => pv (if a = i then true else T a) (if a = i then x else pbc a))) by rw [e]; exact this)
  · (try simp only at hTa ⊢)
    by_cases hai : a = i
    · subst hai
      rw [if_pos rfl]
      have e : rowF 8 (fun b => if R a b = true then sv sbc (S.fd a b) else .pointer none) = rowF 8 (fun _ => .pointer none) := rowF_congr fun b hb => by rw [hR b hb]; rfl
      rw [e]
      exact hx.far (h.tab.ne_ hx (by decide)).symm _
    · rw [if_neg hai] at hTa ⊢
      exact (h.prc a ha hTa).far (h.tab.ne_ (h.prc a ha hTa) (by decide)).symm _
  · (try simp only at h1 h2 e)
    by_cases hai : a = i
    · by_cases hbi : b = i
      · omega
      · rw [if_pos hai, if_neg hbi] at e
        rw [if_neg hbi] at h2
        exact absurd e.symm (hfr b hb h2)
    · rw [if_neg hai] at h1
      by_cases hbi : b = i
      · rw [if_neg hai, if_pos hbi] at e
        exact absurd e (hfr a ha h1)
      · rw [if_neg hai, if_neg hbi] at e
        rw [if_neg hbi] at h2
        exact h.injp a b ha hb h1 h2 e
  · (try simp only at hTa ⊢)
    by_cases hai : a = i
    · rw [if_pos hai]; exact List.mem_cons_self
    · rw [if_neg hai] at hTa ⊢
      exact List.mem_cons_of_mem _ (h.op a ha hTa)
  · rw [size_set]
    rcases List.mem_cons.1 hg with rfl | hg
    · exact ⟨hx0, hx.lt⟩
    · exact h.ol g hg
/-- What is shared is copied: at x, and the map says so. -/
theorem Cp.new {pb : Nat → Nat} {t : Nat} {ot : List Nat} {Wp : World} (hp : Prog Wp t ot S pb sb) (h : Cp W0 W f cb m S sb T R own pbc sbc seen ps) {n x : Nat} (h0 : n ≠ 0) (hc : cntF S.fd n ≠ 0) (hn : seen n = false) (hx : Blk W x ShT (shC (opAt S n) (cntF S.fd n)))
    (hfr : ∀ k, k ≠ 0 → seen k = true → sbc k ≠ x) (hx0 : W0.heap.size ≤ x) (hu : Upd [m] W W') (hm : PMap W' m (ps ++ [(sb n, x)])) :
    Cp W0 W' f cb m S sb T R (x :: own) pbc (fun k => if k = n then x else sbc k) (fun k => if k = n then true else seen k) (ps ++ [(sb n, x)]) := by
  have nm : ∀ {g : Nat} {t : TypeId} {cs : Array Value}, Blk W g t cs → Blk W' g t cs := fun hb => hb.upd hu (by simp; exact h.map.ne hb)
  refine ⟨nm h.tab, fun a ha hTa => ?_, fun k k0 hk => ?_, h.injp, fun a b ha hb h1 h2 e => ?_, nm h.cell, hm, fun k k0 hk => ?_, fun p hp' => ?_, fun a b ha hb hR hf => ?_, List.mem_cons_of_mem _ h.of, fun a ha hTa => List.mem_cons_of_mem _ (h.op a ha hTa), fun k k0 hk => ?_, fun g hg => ?_, h.ml, h.u.trans hu (fun g hg => by simp at hg; subst hg; exact .inr h.ml)⟩
  · have e : rowF 8 (fun b => if R a b = true then sv (fun k => if k = n then x else sbc k) (S.fd a b) else .pointer none) = rowF 8 (fun b => if R a b = true then sv sbc (S.fd a b) else .pointer none) := rowF_congr fun b hb => by
      by_cases hR : R a b = true
      · rw [if_pos hR, if_pos hR]
        unfold sv
        by_cases hf : S.fd a b = 0
        · rw [if_pos hf, if_pos hf]
        · rw [if_neg hf, if_neg hf]
          have hse := h.rs a b ha hb hR hf
          show Value.pointer (some ⟨if S.fd a b = n then x else sbc (S.fd a b), 0, none⟩) = Value.pointer (some ⟨sbc (S.fd a b), 0, none⟩)
          rw [if_neg (fun e => by rw [e, hn] at hse; cases hse)]
      · rw [if_neg hR, if_neg hR]
    rw [e]
    exact nm (h.prc a ha hTa)
  · (try simp only at hk ⊢)
    by_cases hkn : k = n
    · subst hkn
      rw [if_pos rfl]
      exact nm hx
    · rw [if_neg hkn] at hk ⊢
      exact nm (h.shr k k0 hk)
  · (try simp only at h1 h2 e)
    by_cases han : a = n
    · by_cases hbn : b = n
      · omega
      · rw [if_pos han, if_neg hbn] at e
        rw [if_neg hbn] at h2
        exact absurd e.symm (hfr b hb h2)
    · rw [if_neg han] at h1
      by_cases hbn : b = n
      · rw [if_neg han, if_pos hbn] at e
        exact absurd e (hfr a ha h1)
      · rw [if_neg han, if_neg hbn] at e
        rw [if_neg hbn] at h2
        exact h.injs a b ha hb h1 h2 e
  · rw [lookP_app, h.look k k0 hk]
    try simp only
    by_cases hkn : k = n
    · subst hkn
      rw [hn]
      simp
    · rw [if_neg hkn]
      simp only [if_neg hkn]
      have hne : sb n ≠ sb k := fun e => hkn (hp.injs n k h0 k0 hc hk e).symm
      cases hs : seen k <;> simp [hne]
  · rcases List.mem_append.1 hp' with hp' | hp'
    · exact h.keys p hp'
    · simp at hp'
      subst hp'
      exact ⟨n, h0, hc, rfl⟩
  · (try simp only)
    split
    · rfl
    · exact h.rs a b ha hb hR hf
  · (try simp only at hk ⊢)
    by_cases hkn : k = n
    · rw [if_pos hkn]; exact List.mem_cons_self
    · rw [if_neg hkn] at hk ⊢
      exact List.mem_cons_of_mem _ (h.os k k0 hk)
  · have hsz := hu.size
    rcases List.mem_cons.1 hg with rfl | hg
    · exact ⟨hx0, Nat.lt_of_lt_of_le hx.lt hsz⟩
    · exact ⟨(h.ol g hg).1, Nat.lt_of_lt_of_le (h.ol g hg).2 hsz⟩
/-- All is copied. -/
theorem Cp.done {pb : Nat → Nat} {t : Nat} {ot : List Nat} {Wp : World} (hp : Prog Wp t ot S pb sb) (h : Cp W0 W f cb m S sb (fun a => decide (a < 6) && S.has a) (fun a _ => decide (a < 6)) own pbc sbc seen ps) : Prog W f own S pbc sbc := by
  have huse := hp.ot
  clear huse
  have hT : ∀ a, a < 6 → S.has a = true → (decide (a < 6) && S.has a) = true := fun a ha hh => by simp [ha, hh]
  have hseen : ∀ n, n ≠ 0 → cntF S.fd n ≠ 0 → seen n = true := fun n h0 hc => by
    obtain ⟨a, b, ha, hb, he⟩ := cnt_pos.1 hc
    subst he
    exact h.rs a b ha hb (by simp [ha]) h0
  refine ⟨?_, fun a ha hh => ?_, fun n h0 hc => h.shr n h0 (hseen n h0 hc), fun a b ha hb h1 h2 => h.injp a b ha hb (hT a ha h1) (hT b hb h2), fun a b ha hb h1 h2 => h.injs a b ha hb (hseen a ha h1) (hseen b hb h2), h.of, fun a ha hh => h.op a ha (hT a ha hh), fun n h0 hc => h.os n h0 (hseen n h0 hc), fun g hg => (h.ol g hg).2⟩
  · have e : rowF 6 (fun a => pv (S.has a) (pbc a)) = rowF 6 (fun a => pv (decide (a < 6) && S.has a) (pbc a)) := rowF_congr fun a ha => by simp [ha]
    rw [e]; exact h.tab
  · have := h.prc a ha (hT a ha hh)
    have e : rowF 8 (fun b => sv sbc (S.fd a b)) = rowF 8 (fun b => if decide (a < 6) = true then sv sbc (S.fd a b) else .pointer none) := rowF_congr fun b _ => by simp [ha]
    rw [e]; exact this
end

end Go.Proofs.Ytedaffkdfniikaa
