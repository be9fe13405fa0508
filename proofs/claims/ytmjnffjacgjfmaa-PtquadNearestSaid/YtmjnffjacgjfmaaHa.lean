/- Cells over cells, and homes of rectangles: plain. -/
import Derived.Test.YtmjnffjacgjfmaaGf
namespace Go.Proofs.Ytmjnffjacgjfmaa
set_option linter.all false
open Go.RowKit AM
/-! ## Cells over cells -/
/-- The cell of a level that a cell stands under. -/
def aboveOf (h : Ce) (l : Int) : Ce := ⟨l, h.x / two (h.l - l), h.y / two (h.l - l)⟩
def aboveR (h : Ce) (l : Int) : Ce × Bool := if rightC h && decide (0 ≤ l ∧ l ≤ h.l) then (aboveOf h l, true) else (.zero, false)
/-- A cell is, or stands under, a cell. -/
def underC (c h : Ce) : Bool := decide (c.l ≤ h.l ∧ aboveOf h c.l = c)
def childOf (c : Ce) (i : Int) : Ce := ⟨c.l + 1, 2 * c.x + i % 2, 2 * c.y + i / 2⟩
def wayOf (c h : Ce) : Int := (aboveOf h (c.l + 1)).x % 2 + (aboveOf h (c.l + 1)).y % 2 * 2
theorem two_zero : two 0 = 1 := rfl
theorem two_one : two 1 = 2 := rfl
theorem above_self (h : Ce) : aboveOf h h.l = h := by
  unfold aboveOf
  simp [two_zero]
theorem underC_iff {c h : Ce} : underC c h = true ↔ c.l ≤ h.l ∧ aboveOf h c.l = c := by simp [underC]
theorem under_self (h : Ce) : underC h h = true := underC_iff.2 ⟨Int.le_refl _, above_self h⟩
theorem under_lt {c h : Ce} (h1 : underC c h = true) (h2 : c ≠ h) : c.l < h.l := by
  obtain ⟨a, b⟩ := underC_iff.1 h1
  rcases Int.lt_or_eq_of_le a with h3 | h3
  · exact h3
  · rw [h3, above_self] at b
    exact absurd b.symm h2
theorem div_two {n a b : Int} (ha : 0 ≤ a) (hb : 0 ≤ b) : n / two a / two b = n / two (a + b) := by
  rw [Int.ediv_ediv_of_nonneg (by have := two_pos a; omega), two_mul ha hb]
theorem above_above {h : Ce} {l k : Int} (h1 : k ≤ l) (h2 : l ≤ h.l) : aboveOf (aboveOf h l) k = aboveOf h k := by
  unfold aboveOf
  simp only
  rw [div_two (by omega) (by omega), div_two (by omega) (by omega), show h.l - l + (l - k) = h.l - k by omega]
theorem under_trans {a b c : Ce} (h1 : underC a b = true) (h2 : underC b c = true) : underC a c = true := by
  obtain ⟨p, q⟩ := underC_iff.1 h1
  obtain ⟨r, s⟩ := underC_iff.1 h2
  refine underC_iff.2 ⟨by omega, ?_⟩
  rw [← above_above (h := c) p r, s, q]
theorem way_range (c h : Ce) : 0 ≤ wayOf c h ∧ wayOf c h ≤ 3 := by
  unfold wayOf
  omega
theorem above_child {c h : Ce} (h1 : c.l < h.l) (h2 : aboveOf h c.l = c) : aboveOf h (c.l + 1) = childOf c (wayOf c h) := by
  have e : aboveOf (aboveOf h (c.l + 1)) c.l = c := by rw [above_above (by omega) (by omega), h2]
  unfold childOf wayOf
  generalize ha : aboveOf h (c.l + 1) = a at *
  have hl : a.l = c.l + 1 := by rw [← ha]; rfl
  obtain ⟨al, ax, ay⟩ := a
  simp only at *
  subst hl
  unfold aboveOf at e
  simp only [show c.l + 1 - c.l = 1 by omega, two_one] at e
  rw [← e]
  simp only [Ce.mk.injEq]
  refine ⟨trivial, ?_, ?_⟩ <;> omega
theorem under_child {c h : Ce} (h1 : underC c h = true) (h2 : c ≠ h) : underC (childOf c (wayOf c h)) h = true := by
  have h3 := under_lt h1 h2
  obtain ⟨_, h4⟩ := underC_iff.1 h1
  exact underC_iff.2 ⟨by simp only [childOf]; omega, by rw [← above_child h3 h4]; rfl⟩
theorem child_under {c h : Ce} {i : Int} (hi : 0 ≤ i ∧ i ≤ 3) (h1 : underC (childOf c i) h = true) : underC c h = true ∧ c ≠ h ∧ wayOf c h = i := by
  obtain ⟨a, b⟩ := underC_iff.1 h1
  have a' : c.l + 1 ≤ h.l := a
  have b' : aboveOf h (c.l + 1) = childOf c i := b
  refine ⟨underC_iff.2 ⟨by omega, ?_⟩, fun e => ?_, ?_⟩
  · rw [← above_above (h := h) (l := c.l + 1) (by omega) a', b']
    unfold aboveOf childOf
    simp only [show c.l + 1 - c.l = 1 by omega, two_one]
    obtain ⟨cl, cx, cy⟩ := c
    simp only [Ce.mk.injEq]
    refine ⟨trivial, ?_, ?_⟩ <;> omega
  · subst e; omega
  · unfold wayOf
    rw [b']
    simp only [childOf]
    omega
theorem child_right {c : Ce} {i : Int} (hc : rightC c = true) (hl : c.l < 16) (hi : 0 ≤ i ∧ i ≤ 3) : rightC (childOf c i) = true := by
  obtain ⟨h1, h2, h3, h4, h5⟩ := rightC_iff.1 hc
  have e : two (c.l + 1) = two c.l * 2 := by rw [two_mul h1.1 (by omega), two_one]
  rw [rightC_iff]
  simp only [childOf]
  rw [e]
  generalize two c.l = t at *
  omega
theorem child_box {c : Ce} {i : Int} (hc : rightC c = true) (hl : c.l < 16) : childR c i = if 0 ≤ i ∧ i ≤ 3 then (childOf c i, true) else (.zero, false) := by
  have : ¬ c.l = 16 := by omega
  simp [childR, hc, this, childOf]
theorem above_right {h : Ce} {l : Int} (hh : rightC h = true) (h0 : 0 ≤ l) (hl : l ≤ h.l) : rightC (aboveOf h l) = true := by
  obtain ⟨h1, h2, h3, h4, h5⟩ := rightC_iff.1 hh
  have p := two_pos (h.l - l)
  have e : two h.l = two l * two (h.l - l) := by rw [← two_mul h0 (by omega)]; congr 1; omega
  rw [e] at h4 h5
  rw [rightC_iff]
  refine ⟨⟨h0, by simp only [aboveOf]; omega⟩, Int.ediv_nonneg h2 (by omega), Int.ediv_nonneg h3 (by omega), Int.ediv_lt_of_lt_mul p h4, Int.ediv_lt_of_lt_mul p h5⟩
theorem above_zero {h : Ce} (hh : rightC h = true) : aboveOf h 0 = ⟨0, 0, 0⟩ := by
  have h0 := (rightC_iff.1 hh).1.1
  have := above_right hh (l := 0) (by omega) h0
  obtain ⟨h1, h2, h3, h4, h5⟩ := rightC_iff.1 this
  simp only [aboveOf] at *
  rw [two_zero] at h4 h5
  simp only [Ce.mk.injEq]
  refine ⟨trivial, ?_, ?_⟩ <;> omega
theorem under_root {h : Ce} (hh : rightC h = true) : underC ⟨0, 0, 0⟩ h = true := underC_iff.2 ⟨(rightC_iff.1 hh).1.1, above_zero hh⟩

/-! ## Homes -/
def Re.lo (r : Re) : Pt := ⟨r.x0, r.y0⟩
def Re.hi (r : Re) : Pt := ⟨r.x1, r.y1⟩
def homeN (r : Re) : Nat → Nat
  | 0 => 0
  | n + 1 => if cellOf r.lo (n + 1 : Nat) = cellOf r.hi (n + 1 : Nat) then n + 1 else homeN r n
def homeOf (r : Re) : Ce := cellOf r.lo (homeN r 16 : Nat)
def homeR (r : Re) : Ce × Bool := if rightR r then (homeOf r, true) else (.zero, false)
theorem cell_above {p : Pt} {l k : Int} (h0 : k ≤ l) (hl : l ≤ 16) : aboveOf (cellOf p l) k = cellOf p k := by
  unfold aboveOf cellOf side
  simp only
  rw [div_two (by omega) (by omega), div_two (by omega) (by omega), show 16 - l + (l - k) = 16 - k by omega]
theorem homeN_le (r : Re) : ∀ n, homeN r n ≤ n
  | 0 => Nat.le_refl _
  | n + 1 => by
    unfold homeN
    split
    · exact Nat.le_refl _
    · exact Nat.le_succ_of_le (homeN_le r n)
theorem cell_zero {p : Pt} (h : fits p = true) : cellOf p 0 = ⟨0, 0, 0⟩ := by
  unfold fits inside at h
  simp at h
  have e : side 0 = 65536 := by decide
  simp only [cellOf, e, Ce.mk.injEq]
  refine ⟨trivial, ?_, ?_⟩ <;> omega
theorem right_fits {r : Re} (h : rightR r = true) : fits r.lo = true ∧ fits r.hi = true := by
  have := rightR_iff.1 h
  unfold fits inside Re.lo Re.hi
  simp
  omega
theorem homeN_eq {r : Re} (h : rightR r = true) : ∀ n, cellOf r.lo (homeN r n : Nat) = cellOf r.hi (homeN r n : Nat)
  | 0 => by
    obtain ⟨h1, h2⟩ := right_fits h
    exact (cell_zero h1).trans (cell_zero h2).symm
  | n + 1 => by
    unfold homeN
    split
    · assumption
    · exact homeN_eq h n
theorem cell_right {p : Pt} (h : fits p = true) {l : Int} (h0 : 0 ≤ l) (hl : l ≤ 16) : rightC (cellOf p l) = true := by
  unfold fits inside at h
  simp at h
  have e : two l * side l = 65536 := by
    unfold side
    rw [← two_mul h0 (by omega), show l + (16 - l) = 16 by omega]
    decide
  have hp := side_pos l
  rw [rightC_iff]
  refine ⟨⟨h0, hl⟩, Int.ediv_nonneg h.1.1 (by omega), Int.ediv_nonneg h.2.1 (by omega), Int.ediv_lt_of_lt_mul hp (by show p.x < two l * side l; omega), Int.ediv_lt_of_lt_mul hp (by show p.y < two l * side l; omega)⟩
theorem home_right {r : Re} (h : rightR r = true) : rightC (homeOf r) = true := cell_right (right_fits h).1 (by omega) (by have := homeN_le r 16; omega)
theorem home_level (r : Re) : (homeOf r).l = (homeN r 16 : Nat) := rfl
/-- A box lies in its home, and in all cells over that. -/
theorem home_in {r : Re} {c : Ce} (h : rightR r = true) (hc0 : 0 ≤ c.l) (hu : underC c (homeOf r) = true) : (boxOf c).x0 ≤ r.x0 ∧ (boxOf c).y0 ≤ r.y0 ∧ r.x1 ≤ (boxOf c).x1 ∧ r.y1 ≤ (boxOf c).y1 := by
  obtain ⟨h1, h2⟩ := underC_iff.1 hu
  have hn := homeN_le r 16
  have h1' : c.l ≤ (homeN r 16 : Nat) := h1
  have e1 : c = cellOf r.lo c.l := by
    rw [← cell_above (p := r.lo) h1' (by omega)]
    exact h2.symm
  have e2 : c = cellOf r.hi c.l := by
    rw [← cell_above (p := r.hi) h1' (by omega), ← homeN_eq h]
    exact h2.symm
  have hp := side_pos c.l
  generalize hs : side c.l = t at *
  have x1 : c.x = r.x0 / t := by rw [e1]; simp only [cellOf, hs, Re.lo]
  have y1 : c.y = r.y0 / t := by rw [e1]; simp only [cellOf, hs, Re.lo]
  have x2 : c.x = r.x1 / t := by rw [e2]; simp only [cellOf, hs, Re.hi]
  have y2 : c.y = r.y1 / t := by rw [e2]; simp only [cellOf, hs, Re.hi]
  have m1 := Int.mul_ediv_add_emod r.x0 t
  have m2 := Int.mul_ediv_add_emod r.y0 t
  have m3 := Int.mul_ediv_add_emod r.x1 t
  have m4 := Int.mul_ediv_add_emod r.y1 t
  have n1 := Int.emod_nonneg r.x0 (b := t) (by omega)
  have n2 := Int.emod_nonneg r.y0 (b := t) (by omega)
  have n3 := Int.emod_lt_of_pos r.x1 hp
  have n4 := Int.emod_lt_of_pos r.y1 hp
  rw [← x1] at m1
  rw [← y1] at m2
  rw [← x2] at m3
  rw [← y2] at m4
  simp only [boxOf, hs]
  omega
/-- Two points share a cell of a level iff the second one is in the first one's cell. -/
theorem same_cell {r : Re} {l : Int} (h : rightR r = true) (h0 : 0 ≤ l) (hl : l ≤ 16) : (cellOf r.lo l = cellOf r.hi l) ↔ (r.x1 ≤ (boxOf (cellOf r.lo l)).x1 ∧ r.y1 ≤ (boxOf (cellOf r.lo l)).y1) := by
  have hp := side_pos l
  have hr := rightR_iff.1 h
  unfold boxOf cellOf Re.lo Re.hi
  simp only [Ce.mk.injEq]
  generalize side l = t at *
  have m1 := Int.mul_ediv_add_emod r.x0 t
  have m2 := Int.mul_ediv_add_emod r.y0 t
  have m3 := Int.mul_ediv_add_emod r.x1 t
  have m4 := Int.mul_ediv_add_emod r.y1 t
  have n1 := Int.emod_nonneg r.x0 (b := t) (by omega)
  have n2 := Int.emod_nonneg r.y0 (b := t) (by omega)
  have n3 := Int.emod_lt_of_pos r.x1 hp
  have n4 := Int.emod_lt_of_pos r.y1 hp
  have d1 : r.x0 / t ≤ r.x1 / t := Int.ediv_le_ediv hp hr.1.2.1
  have d2 : r.y0 / t ≤ r.y1 / t := Int.ediv_le_ediv hp hr.2.2.1
  have k1 : r.x1 / t ≤ r.x0 / t ∨ t * (r.x0 / t) + t ≤ t * (r.x1 / t) := by
    rcases Int.lt_or_le (r.x0 / t) (r.x1 / t) with h | h
    · right
      have := Int.mul_le_mul_of_nonneg_left (show r.x0 / t + 1 ≤ r.x1 / t by omega) (show 0 ≤ t by omega)
      rw [Int.mul_add] at this
      omega
    · exact .inl h
  have k2 : r.y1 / t ≤ r.y0 / t ∨ t * (r.y0 / t) + t ≤ t * (r.y1 / t) := by
    rcases Int.lt_or_le (r.y0 / t) (r.y1 / t) with h | h
    · right
      have := Int.mul_le_mul_of_nonneg_left (show r.y0 / t + 1 ≤ r.y1 / t by omega) (show 0 ≤ t by omega)
      rw [Int.mul_add] at this
      omega
    · exact .inl h
  have n5 := Int.emod_nonneg r.x1 (b := t) (by omega)
  have n6 := Int.emod_nonneg r.y1 (b := t) (by omega)
  have n7 := Int.emod_lt_of_pos r.x0 hp
  have n8 := Int.emod_lt_of_pos r.y0 hp
  constructor
  · rintro ⟨_, e1, e2⟩
    rw [e1, e2]
    omega
  · rintro ⟨e1, e2⟩
    refine ⟨trivial, ?_, ?_⟩
    · rcases k1 with h | h <;> omega
    · rcases k2 with h | h <;> omega
/-- Cells that are the same at a level are the same above it. -/
theorem cells_up {r : Re} {l k : Int} (h : cellOf r.lo l = cellOf r.hi l) (h0 : k ≤ l) (hl : l ≤ 16) : cellOf r.lo k = cellOf r.hi k := by
  rw [← cell_above (p := r.lo) h0 hl, h, cell_above h0 hl]
/-- What a walk down from the root finds. -/
theorem homeN_of {r : Re} {n : Nat} (h1 : ∀ k : Nat, k ≤ n → cellOf r.lo k = cellOf r.hi k) (h2 : n = 16 ∨ cellOf r.lo (n + 1 : Nat) ≠ cellOf r.hi (n + 1 : Nat)) : ∀ m, n ≤ m → m ≤ 16 → homeN r m = n
  | 0, h, _ => by
    have : n = 0 := by omega
    subst this; rfl
  | m + 1, h, hm => by
    unfold homeN
    split
    · rename_i e
      rcases h2 with rfl | h2
      · omega
      · rcases Nat.lt_or_ge n (m + 1) with h3 | h3
        · exact absurd (cells_up (r := r) (k := (n + 1 : Nat)) e (by omega) (by omega)) h2
        · omega
    · rename_i e
      rcases Nat.lt_or_ge n (m + 1) with h3 | h3
      · exact homeN_of h1 h2 m (by omega) (by omega)
      · exact absurd (h1 (m + 1) (by omega)) e
end Go.Proofs.Ytmjnffjacgjfmaa
