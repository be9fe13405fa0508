/- Rows of the call's own in an abstract state: they are shared, handed on, turned, laid. Plain lemmas, over any program. -/
import Derived.Test.YtoooldijnilpaaaAc
namespace Go.Proofs.Ytoooldijnilpaaa
set_option linter.all false
open Go.RowKit
namespace AM
section
variable {c : Cx} {N : Nat} {F : Fr} {H : List Bk} {a : Act} {w : World}

/-! ## A row is shared: its cells never turn from here on -/
def Cx.fix (c : Cx) (b : Nat) (vs : List Value) : Cx := { c with I := fun k o => if k = b then (match c.I k o with | some v => some v | none => vs[o]?) else c.I k o }
theorem fix_mono {b : Nat} {vs : List Value} : ∀ k o v, c.I k o = some v → (c.fix b vs).I k o = some v := by
  intro k o v h
  unfold Cx.fix
  by_cases hk : k = b
  · subst hk; simp [h]
  · simp [hk, h]
theorem fix_other {b k o : Nat} {vs : List Value} (h : k ≠ b) : (c.fix b vs).I k o = c.I k o := by simp [Cx.fix, h]

def setF (t : Nat) (x : SV) : Fr → Fr
  | [] => []
  | (k, y) :: F => bif k == t then (k, x) :: setF t x F else (k, y) :: setF t x F
theorem mem_setF {t k : Nat} {x y : SV} : ∀ {F : Fr}, (k, y) ∈ setF t x F → (k = t ∧ y = x) ∨ (k ≠ t ∧ (k, y) ∈ F)
  | [], h => by cases h
  | (j, z) :: F, h => by
    unfold setF at h
    cases hc : j == t with
    | true =>
      rw [hc] at h
      simp at hc
      subst hc
      simp only [cond_true, List.mem_cons, Prod.mk.injEq] at h
      rcases h with ⟨rfl, rfl⟩ | h
      · exact .inl ⟨rfl, rfl⟩
      · rcases mem_setF h with h | ⟨h1, h2⟩
        · exact .inl h
        · exact .inr ⟨h1, List.mem_cons_of_mem _ h2⟩
    | false =>
      rw [hc] at h
      simp at hc
      simp only [cond_false, List.mem_cons, Prod.mk.injEq] at h
      rcases h with ⟨rfl, rfl⟩ | h
      · exact .inr ⟨hc, by simp⟩
      · rcases mem_setF h with h | ⟨h1, h2⟩
        · exact .inl h
        · exact .inr ⟨h1, List.mem_cons_of_mem _ h2⟩

theorem SRel.fix {r : Root} {x : SV} {v : Value} {b : Nat} {vs : List Value} (h : SRel c w r x v) (hb : c.R b ≠ .own r) (hx : x.flat = true ∨ True) : SRel (c.fix b vs) w r x v := by
  cases x with
  | v x => exact Rel.mono fix_mono (fun _ _ h => h) h
  | own pr e n sz cs =>
    obtain ⟨h0, us, h1, h2, h4, h3⟩ := h
    refine ⟨h0, us, RelL.mono fix_mono (fun _ _ h => h) h1, h2, h4, fun g hg => ⟨(h3 g hg).1, fun o => ?_⟩⟩
    have hne : g ≠ b := by rintro rfl; exact hb (h3 g hg).1
    rw [fix_other hne]
    exact (h3 g hg).2 o
  | pth r' off => exact h
  | lnk r' n => exact h
  | any => trivial

theorem own_cell {base : Nat} {e sz n g : Nat} {u : Value} {vs : List Value} (h : w.ownsRow base e sz u n vs) (hg : u.ownBlock = some g) {o : Nat} {v : Value} (hv : vs[o]? = some v) : w.cell? ⟨g, o, none⟩ = some v := by
  rcases h.2 with ⟨rfl, _⟩ | ⟨g', cap, cur, rfl, _, h1, h2, h3, h4, h5⟩
  · cases hg
  · cases hg
    rw [← h5, List.getElem?_take] at hv
    split at hv
    · simp [World.cell?, h1]
      simpa using hv
    · cases hv

/-- The row that a root holds may be read by everybody from here on. -/
theorem Inv.fix {b : Nat} {vs : List Value} {r : Root} (h : Inv c H w) (hr : c.R b = .own r) (hv : ∀ o v, vs[o]? = some v → w.cell? ⟨b, o, none⟩ = some v)
    (hc : ∀ id j, r = .cell id j → Bare H (.cell id j)) : Inv (c.fix b vs) H w :=
  ⟨fun k o v hk => by
    unfold Cx.fix at hk
    by_cases hkb : k = b
    · subst hkb
      simp only [if_true] at hk
      cases hi : c.I k o with
      | none => rw [hi] at hk; exact hv o v hk
      | some u =>
        rw [hi] at hk
        cases hk
        exact h.imm k o _ hi
    · simp only [hkb, if_false] at hk
      exact h.imm k o v hk, h.len, h.lt, h.uniq, fun id k blk hk hblk => by
    obtain ⟨h1, h2, h3⟩ := h.blk id k blk hk hblk
    have hne : k ≠ b := by rintro rfl; rw [hr] at h1; cases h1
    refine ⟨h1, fun o => by rw [fix_other hne]; exact h2 o, ?_⟩
    by_cases hck : ∃ cs, blk = .cells cs
    rotate_left
    · exact BRel.stay (fun cs e => hck ⟨cs, e⟩) h3 (fix_mono) (fun _ _ h => h) (fun _ _ h _ => h)
    obtain ⟨cs, rfl⟩ := hck
    obtain ⟨arr, e, g1, g2, g6, g3⟩ := h3
    refine ⟨arr, e, g1, g2, g6, fun j x v hx hv => ?_⟩
    obtain ⟨g4, g5⟩ := g3 j x v hx hv
    refine ⟨g4, ?_⟩
    by_cases hrj : Root.cell id j = r
    · subst hrj
      rcases hc id j rfl cs hblk x hx with ⟨y, rfl⟩ | rfl
      · exact Rel.mono fix_mono (fun _ _ h => h) g5
      · trivial
    · exact g5.fix (by rw [hr]; simpa using Ne.symm hrj) (.inr trivial)⟩
theorem Ext.fix {b : Nat} {vs : List Value} (c : Cx) (w : World) (hb : c.R b ≠ .out) : Ext c w (c.fix b vs) w :=
  ⟨rfl, rfl, rfl, Nat.le_refl _, fun k hk h => ⟨rfl, h, fun o => fix_other (by rintro rfl; exact hb h)⟩, fix_mono, fun _ _ h => h⟩

/-- The row of slot t is shared. -/
theorem Sim.share {t : Nat} {pr : Bool} {e n sz : Nat} {cs : List V} (h : Sim c N ⟨F, H⟩ a w) (ht : getF t F = some (.own pr e n sz cs)) :
    ∃ c' u, a.tmps[t]? = some u ∧ Rel c'.I c'.φ (.sl n sz cs) u ∧ Sim c' N ⟨setF t (.own false e n sz cs) F, H⟩ a w ∧ Ext c w c' w := by
  obtain ⟨u, hu, h0, vs, h1, h2, h6, h3⟩ := h.fr t _ (mem_getF ht)
  rcases h2.2 with ⟨rfl, rfl⟩ | ⟨g, cap, cur, rfl, hb0, g1, g2, g3, g4, g5⟩
  · have hv : vs = [] := List.eq_nil_of_length_eq_zero (by rw [h2.1]; simp)
    subst hv
    cases h1
    refine ⟨c, _, hu, .sl0, ⟨h.inv, h.size, h.defers, fun k x hx => ?_⟩, Ext.refl c w⟩
    rcases mem_setF hx with ⟨rfl, rfl⟩ | ⟨_, hx⟩
    · exact ⟨_, hu, h0, [], .nil, h2, h6, fun b hb => by cases hb⟩
    · exact h.fr k x hx
  · obtain ⟨k1, k2⟩ := h3 g rfl
    have hcell : ∀ o v, vs[o]? = some v → w.cell? ⟨g, o, none⟩ = some v := fun o v hv => own_cell (g := g) h2 rfl hv
    refine ⟨c.fix g vs, _, hu, .sl (RelL.mono fix_mono (fun _ _ h => h) h1) (fun j v hv => ?_) (by rw [h1.len, h2.1]) g2 g3 h6,
      ⟨h.inv.fix k1 hcell (fun id j e => by cases e), h.size, h.defers, fun k x hx => ?_⟩, Ext.fix c w (by rw [k1]; simp)⟩
    · rw [Nat.zero_add]
      simp only [Cx.fix, if_true]
      rw [k2 j]
      cases pr <;> simp [hv]
    · rcases mem_setF hx with ⟨rfl, rfl⟩ | ⟨hne, hx⟩
      · refine ⟨_, hu, h0, vs, RelL.mono fix_mono (fun _ _ h => h) h1, h2, h6, fun b hb => ?_⟩
        cases hb
        refine ⟨k1, fun o => ?_⟩
        simp only [Cx.fix, if_true]
        rw [k2 o]
        cases pr
        · simp only [Bool.false_eq_true, if_false]
          cases vs[o]? <;> rfl
        · simp
      · obtain ⟨v, hv, hs⟩ := h.fr k x hx
        exact ⟨v, hv, hs.fix (by rw [k1]; simpa using Ne.symm hne) (.inr trivial)⟩

theorem setBlk_get {id j i : Nat} {x : SV} {cs : List SV} (hk : H[id]? = some (.cells cs)) : (setBlk H id j x)[i]? = if i = id then some (.cells (cs.set j x)) else H[i]? := by
  have hlt : id < H.length := (List.getElem?_eq_some_iff.1 hk).1
  unfold setBlk
  rw [hk]
  by_cases hi : i = id
  · subst hi; simp [hlt]
  · rw [if_neg hi]
    simp only
    rw [List.getElem?_set_ne (Ne.symm hi)]
theorem setBlk_len {id j : Nat} {x : SV} : (setBlk H id j x).length = H.length := by
  unfold setBlk
  split <;> simp

/-- The row of a cell is shared. -/
theorem Sim.shareCell {id j b : Nat} {ks : List SV} {pr : Bool} {e n sz : Nat} {cs : List V} (h : Sim c N ⟨F, H⟩ a w) (hb : c.φ[id]? = some b) (hk : H[id]? = some (.cells ks)) (ht : ks[j]? = some (.own pr e n sz cs)) :
    ∃ c' u, w.cell? ⟨b, j, none⟩ = some u ∧ Rel c'.I c'.φ (.sl n sz cs) u ∧ Sim c' N ⟨F, setBlk H id j (.own false e n sz cs)⟩ a w ∧ Ext c w c' w := by
  obtain ⟨hr, hi, arr, e', q1, q2, q6, q3⟩ := h.inv.blk id b _ hb hk
  have hj : j < arr.size := by rw [q2]; exact (List.getElem?_eq_some_iff.1 ht).1
  obtain ⟨_, h0, vs, h1, h2, h6, h3⟩ := q3 j _ _ ht (Array.getElem?_eq_getElem hj)
  have hu : w.cell? ⟨b, j, none⟩ = some arr[j] := by simp [World.cell?, q1, hj]
  generalize arr[j] = u at *
  rcases h2.2 with ⟨rfl, rfl⟩ | ⟨g, cap, cur, rfl, hb0, g1, g2, g3, g4, g5⟩
  · have hv : vs = [] := List.eq_nil_of_length_eq_zero (by rw [h2.1]; simp)
    subst hv
    cases h1
    refine ⟨c, _, hu, .sl0, ⟨⟨h.inv.imm, by rw [setBlk_len]; exact h.inv.len, h.inv.lt, h.inv.uniq, fun id' b' k hb' hk' => ?_⟩, h.size, h.defers, h.fr⟩, Ext.refl c w⟩
    rw [setBlk_get hk] at hk'
    by_cases hid : id' = id
    · subst hid
      rw [if_pos rfl] at hk'
      cases hk'
      rw [hb] at hb'
      cases hb'
      refine ⟨hr, hi, arr, e', q1, by simp [q2], q6, fun i y v hy hv => ?_⟩
      rw [List.getElem?_set] at hy
      by_cases hij : j = i
      · subst hij
        simp only [if_true] at hy
        split at hy
        · cases hy
          have : v = .slice none 0 0 := by
            have h5 : w.cell? ⟨b, j, none⟩ = some v := by simp [World.cell?, q1, hv]
            rw [hu] at h5
            cases h5
            rfl
          subst this
          exact ⟨rfl, h0, [], .nil, h2, h6, fun b hb => by cases hb⟩
        · cases hy
      · rw [if_neg hij] at hy
        exact q3 i y v hy hv
    · rw [if_neg hid] at hk'
      exact h.inv.blk id' b' k hb' hk'
  · obtain ⟨k1, k2⟩ := h3 g rfl
    have hcell : ∀ o v, vs[o]? = some v → w.cell? ⟨g, o, none⟩ = some v := fun o v hv => own_cell (g := g) h2 rfl hv
    have hfix : ∀ o, (c.fix g vs).I g o = vs[o]? := fun o => by
      simp only [Cx.fix, if_true]
      rw [k2 o]
      cases pr
      · simp only [Bool.false_eq_true, if_false]
        cases vs[o]? <;> rfl
      · simp
    refine ⟨c.fix g vs, _, hu, .sl (RelL.mono fix_mono (fun _ _ h => h) h1) (fun j v hv => by rw [Nat.zero_add, hfix]; exact hv) (by rw [h1.len, h2.1]) g2 g3 h6,
      ⟨⟨fun k o v hk => ?_, by rw [setBlk_len]; exact h.inv.len, h.inv.lt, h.inv.uniq, fun id' b' k hb' hk' => ?_⟩, h.size, h.defers, fun k x hx => ?_⟩, Ext.fix c w (by rw [k1]; simp)⟩
    · by_cases hkg : k = g
      · subst hkg
        rw [hfix] at hk
        exact hcell o v hk
      · rw [fix_other hkg] at hk
        exact h.inv.imm k o v hk
    · rw [setBlk_get hk] at hk'
      by_cases hid : id' = id
      · subst hid
        rw [if_pos rfl] at hk'
        cases hk'
        rw [show (c.fix g vs).φ = c.φ from rfl, hb] at hb'
        cases hb'
        have hne : b ≠ g := by rintro rfl; rw [hr] at k1; cases k1
        refine ⟨hr, fun o => by rw [fix_other hne]; exact hi o, arr, e', q1, by simp [q2], q6, fun i y v hy hv => ?_⟩
        rw [List.getElem?_set] at hy
        by_cases hij : j = i
        · subst hij
          simp only [if_true] at hy
          split at hy
          · cases hy
            have : v = .slice (some ⟨g, 0, none⟩) n cap := by
              have h5 : w.cell? ⟨b, j, none⟩ = some v := by simp [World.cell?, q1, hv]
              rw [hu] at h5
              cases h5
              rfl
            subst this
            refine ⟨rfl, h0, vs, RelL.mono fix_mono (fun _ _ h => h) h1, h2, h6, fun b' hb' => ?_⟩
            cases hb'
            exact ⟨k1, fun o => by rw [hfix]; simp⟩
          · cases hy
        · rw [if_neg hij] at hy
          obtain ⟨f1, f2⟩ := q3 i y v hy hv
          exact ⟨f1, f2.fix (by rw [k1]; simpa using hij) (.inr trivial)⟩
      · rw [if_neg hid] at hk'
        obtain ⟨f1, f2, f3⟩ := h.inv.blk id' b' k hb' hk'
        have hne : b' ≠ g := by rintro rfl; rw [f1] at k1; cases k1
        refine ⟨f1, fun o => by rw [fix_other hne]; exact f2 o, ?_⟩
        by_cases hck : ∃ cs, k = .cells cs
        rotate_left
        · exact BRel.stay (fun cs e => hck ⟨cs, e⟩) f3 (fix_mono) (fun _ _ h => h) (fun _ _ h _ => h)
        obtain ⟨cs', rfl⟩ := hck
        obtain ⟨arr', e'', p1, p2, p6, p3⟩ := f3
        refine ⟨arr', e'', p1, p2, p6, fun i y v hy hv => ?_⟩
        obtain ⟨f4, f5⟩ := p3 i y v hy hv
        exact ⟨f4, f5.fix (by
          rw [k1]
          intro e
          cases e
          exact hid rfl) (.inr trivial)⟩
    · obtain ⟨v, hv, hs⟩ := h.fr k x hx
      exact ⟨v, hv, hs.fix (by rw [k1]; simp) (.inr trivial)⟩
end
end AM
end Go.Proofs.Ytoooldijnilpaaa
