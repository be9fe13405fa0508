/- How an abstract state goes on: a slot is filled, a block is laid, a cell is read or turned. Plain lemmas, over any program. -/
import Derived.Test.YtoooldijnilpaaaAa
namespace Go.Proofs.Ytoooldijnilpaaa
set_option linter.all false
open Go.RowKit
namespace AM
section
variable {c : Cx} {N : Nat} {F : Fr} {H : List Bk} {a : Act} {w : World}

theorem flat_refers {x : SV} (h : x.flat = true) (r : Root) : x.refers r = false := by
  cases x <;> first | rfl | cases h

theorem Sim.sub {F' : Fr} (h : Sim c N ⟨F, H⟩ a w) (hs : ∀ p, p ∈ F' → p ∈ F) : Sim c N ⟨F', H⟩ a w :=
  ⟨h.inv, h.size, h.defers, fun t x hx => h.fr t x (hs _ hx)⟩

/-- Some root lets its row go. -/
def Cx.free (c : Cx) (r : Root) : Cx := { c with R := fun b => if c.R b = .own r then .out else c.R b }
theorem free_out {r : Root} {b : Nat} (h : c.R b = .out) : (c.free r).R b = .out := by simp [Cx.free, h]
theorem free_abs {r : Root} {b id : Nat} (h : c.R b = .abs id) : (c.free r).R b = .abs id := by simp [Cx.free, h]
theorem free_own {r r' : Root} {b : Nat} (h : c.R b = .own r') (hne : r' ≠ r) : (c.free r).R b = .own r' := by
  simp [Cx.free, h, hne]
theorem free_ne {r : Root} {b : Nat} : (c.free r).R b ≠ .own r := by
  unfold Cx.free
  by_cases h : c.R b = .own r <;> simp [h]
theorem free_back {r r' : Root} {b : Nat} (h : (c.free r).R b = .own r') : c.R b = .own r' ∧ r' ≠ r := by
  unfold Cx.free at h
  by_cases h1 : c.R b = .own r
  · simp [h1] at h
  · simp only [h1, if_false] at h
    exact ⟨h, fun e => h1 (e ▸ h)⟩
theorem free_back' {r : Root} {b : Nat} (h : (c.free r).R b ≠ .out) : c.R b ≠ .out := fun e => h (free_out e)
theorem Ext.free (c : Cx) (w : World) (r : Root) : Ext c w (c.free r) w :=
  ⟨rfl, rfl, rfl, Nat.le_refl _, fun _ _ h => ⟨rfl, free_out h, fun _ => rfl⟩, fun _ _ _ h => h, fun _ _ h => h⟩

theorem SRel.free {r r' : Root} {x : SV} {v : Value} (h : SRel c w r x v) (h1 : r ≠ r') (h2 : x.refers r' = false) : SRel (c.free r') w r x v :=
  SRel.mono (c := c) (w := w) (c' := c.free r') (fun _ _ _ h => h) (fun _ _ h => h) (fun b q hq hb => ⟨free_own hb (by
    rintro rfl
    rcases hq with rfl | hq
    · exact h1 rfl
    · rw [h2] at hq; cases hq), rfl, fun _ => rfl⟩) h

/-- A root that holds no row now. -/
def Bare (H : List Bk) : Root → Prop
  | .slot _ => True
  | .cell id j => ∀ cs, H[id]? = some (.cells cs) → ∀ x, cs[j]? = some x → (∃ y, x = .v y) ∨ x = .any

theorem Inv.free {r : Root} (h : Inv c H w) (hr : Bare H r) : Inv (c.free r) H w :=
  ⟨h.imm, h.len, fun b hb => h.lt b (free_back' hb), fun b b' r hb hb' => h.uniq b b' r (free_back hb).1 (free_back hb').1, fun id b k hb hk => by
    obtain ⟨h1, h2, h3⟩ := h.blk id b k hb hk
    refine ⟨free_abs h1, h2, ?_⟩
    by_cases hck : ∃ cs, k = .cells cs
    rotate_left
    · exact BRel.stay (fun cs e => hck ⟨cs, e⟩) h3 (fun _ _ _ h => h) (fun _ _ h => h) (fun _ _ h _ => h)
    obtain ⟨cs, rfl⟩ := hck
    obtain ⟨arr, e, g1, g2, g6, g3⟩ := h3
    refine ⟨arr, e, g1, g2, g6, fun j x v hx hv => ?_⟩
    obtain ⟨g4, g5⟩ := g3 j x v hx hv
    refine ⟨g4, ?_⟩
    by_cases hrj : Root.cell id j = r
    · subst hrj
      rcases hr cs hk x hx with ⟨y, rfl⟩ | rfl
      · exact (show Rel c.I c.φ y v from g5)
      · trivial
    · exact g5.free hrj (flat_refers g4 _)⟩

theorem Sim.free {r : Root} (h : Sim c N ⟨F, H⟩ a w) (hr : Bare H r) (hF : ∀ k x, (k, x) ∈ F → Root.slot k ≠ r ∧ x.refers r = false) : Sim (c.free r) N ⟨F, H⟩ a w :=
  ⟨h.inv.free hr, h.size, h.defers, fun t x hx => by
    obtain ⟨v, hv, h1⟩ := h.fr t x hx
    exact ⟨v, hv, h1.free (hF t x hx).1 (hF t x hx).2⟩⟩

/-- What may be laid into slot t as it is. -/
def Fit (t : Nat) : SV → Prop
  | .v _ => True
  | .any => True
  | .own .. => False
  | .pth r _ => r ≠ .slot t
  | .lnk r _ => r ≠ .slot t

theorem SRel.fit {t : Nat} {x : SV} {v : Value} (hf : Fit t x) (hx : SRel c w (.slot t) x v) : SRel (c.free (.slot t)) w (.slot t) x v := by
  cases x with
  | v y => exact hx
  | own => exact hf.elim
  | pth r off =>
    obtain ⟨b, rfl, hb⟩ := hx
    exact ⟨b, rfl, free_own hb hf⟩
  | lnk r n =>
    rcases hx with hx | ⟨b, cap, rfl, hb⟩
    · exact .inl hx
    · exact .inr ⟨b, cap, rfl, free_own hb hf⟩
  | any => trivial
theorem Sim.put' {t : Nat} {x : SV} {v : Value} (h : Sim c N ⟨F, H⟩ a w) (ht : t < N) (hx : SRel (c.free (.slot t)) w (.slot t) x v) : Sim (c.free (.slot t)) N ⟨putF t x F, H⟩ (a.put (some t) v) w := by
  have h0 : Sim c N ⟨del t F, H⟩ a w := h.sub fun p hp => (mem_del (x := p.2) (k := p.1) hp).1
  have h1 := h0.free (r := .slot t) trivial fun k x hx => ⟨by simpa using (mem_del hx).2.1, (mem_del hx).2.2⟩
  refine ⟨h1.inv, by simpa [Act.put] using h.size, h.defers, fun k y hy => ?_⟩
  unfold putF at hy
  simp only [List.mem_cons, Prod.mk.injEq] at hy
  rcases hy with ⟨rfl, rfl⟩ | hy
  · exact ⟨v, by simp [Act.put, Array.getElem?_setIfInBounds, h.size, ht], hx⟩
  · obtain ⟨u, hu, h3⟩ := h1.fr k y hy
    exact ⟨u, by simpa [Act.put, Array.getElem?_setIfInBounds, Ne.symm (mem_del hy).2.1] using hu, h3⟩
theorem Sim.put {t : Nat} {x : SV} {v : Value} (h : Sim c N ⟨F, H⟩ a w) (ht : t < N) (hf : Fit t x) (hx : SRel c w (.slot t) x v) : Sim (c.free (.slot t)) N ⟨putF t x F, H⟩ (a.put (some t) v) w :=
  h.put' ht (hx.fit hf)

/-- A row that no slot and no cell holds comes to slot t. -/
def Cx.give (c : Cx) (b : Nat) (r : Root) : Cx := { c with R := fun k => if k = b then .own r else if c.R k = .own r then .out else c.R k }
theorem give_self {b : Nat} {r : Root} : (c.give b r).R b = .own r := by simp [Cx.give]
theorem give_own {b k : Nat} {r r' : Root} (h : c.R k = .own r') (h1 : k ≠ b) (h2 : r' ≠ r) : (c.give b r).R k = .own r' := by
  simp [Cx.give, h1, h, h2]
theorem give_abs {b k id : Nat} {r : Root} (h : c.R k = .abs id) (h1 : k ≠ b) : (c.give b r).R k = .abs id := by simp [Cx.give, h1, h]
theorem give_back {b k : Nat} {r r' : Root} (h : (c.give b r).R k = .own r') : (k = b ∧ r' = r) ∨ (c.R k = .own r' ∧ r' ≠ r ∧ k ≠ b) := by
  unfold Cx.give at h
  by_cases h1 : k = b
  · simp [h1] at h; exact .inl ⟨h1, h.symm⟩
  · simp only [h1, if_false] at h
    by_cases h2 : c.R k = .own r
    · simp [h2] at h
    · simp only [h2, if_false] at h
      exact .inr ⟨h, fun e => h2 (e ▸ h), h1⟩
theorem give_back' {b k : Nat} {r : Root} (h : (c.give b r).R k ≠ .out) : k = b ∨ c.R k ≠ .out := by
  by_cases h1 : k = b
  · exact .inl h1
  · refine .inr fun e => h ?_
    simp [Cx.give, h1, e]

theorem SRel.give {b : Nat} {r r' : Root} {x : SV} {v : Value} (h : SRel c w r' x v) (hb : ∀ q, (q = r' ∨ x.refers q = true) → c.R b ≠ .own q) (h1 : r' ≠ r) (h2 : x.refers r = false) : SRel (c.give b r) w r' x v :=
  SRel.mono (c := c) (w := w) (c' := c.give b r) (fun _ _ _ h => h) (fun _ _ h => h) (fun k q hq hk => ⟨give_own hk (by rintro rfl; exact hb q hq hk) (by
    rintro rfl
    rcases hq with rfl | hq
    · exact h1 rfl
    · rw [h2] at hq; cases hq), rfl, fun _ => rfl⟩) h

theorem Inv.give {b : Nat} {r : Root} (h : Inv c H w) (hb : b < w.heap.size) (hr : Bare H r) (hab : ∀ id, c.R b ≠ .abs id) (hown : ∀ id j, c.R b = .own (.cell id j) → Bare H (.cell id j)) : Inv (c.give b r) H w :=
  ⟨h.imm, h.len, fun k hk => by
    rcases give_back' hk with rfl | hk
    · exact hb
    · exact h.lt k hk, fun k k' q hk hk' => by
    rcases give_back hk with ⟨rfl, rfl⟩ | ⟨h1, h2, h3⟩ <;> rcases give_back hk' with ⟨rfl, e⟩ | ⟨g1, g2, g3⟩
    · rfl
    · exact absurd rfl g2
    · exact absurd e h2
    · exact h.uniq k k' q h1 g1, fun id k blk hk hblk => by
    obtain ⟨h1, h2, h3⟩ := h.blk id k blk hk hblk
    refine ⟨give_abs h1 (fun e => hab id (e ▸ h1)), h2, ?_⟩
    by_cases hck : ∃ cs, blk = .cells cs
    rotate_left
    · exact BRel.stay (fun cs e => hck ⟨cs, e⟩) h3 (fun _ _ _ h => h) (fun _ _ h => h) (fun _ _ h _ => h)
    obtain ⟨cs, rfl⟩ := hck
    obtain ⟨arr, e, g1, g2, g6, g3⟩ := h3
    refine ⟨arr, e, g1, g2, g6, fun j x v hx hv => ?_⟩
    obtain ⟨g4, g5⟩ := g3 j x v hx hv
    refine ⟨g4, ?_⟩
    by_cases hrj : Root.cell id j = r
    · subst hrj
      rcases hr cs hblk x hx with ⟨y, rfl⟩ | rfl
      · exact (show Rel c.I c.φ y v from g5)
      · trivial
    · by_cases hbj : c.R b = .own (.cell id j)
      · rcases hown id j hbj cs hblk x hx with ⟨y, rfl⟩ | rfl
        · exact (show Rel c.I c.φ y v from g5)
        · trivial
      · refine g5.give (fun q hq => ?_) hrj (flat_refers g4 _)
        rcases hq with rfl | hq
        · exact hbj
        · rw [flat_refers g4] at hq; cases hq⟩

theorem Ext.give {b : Nat} {r : Root} (c : Cx) (w : World) (hb : b < w.heap.size → c.R b ≠ .out) : Ext c w (c.give b r) w :=
  ⟨rfl, rfl, rfl, Nat.le_refl _, fun k hk h => ⟨rfl, by
    have : k ≠ b := by rintro rfl; exact hb hk h
    simp [Cx.give, this, h], fun _ => rfl⟩, fun _ _ _ h => h, fun _ _ h => h⟩

/-- Slot t is filled with a row that nobody else holds. -/
theorem Sim.put_own {t b : Nat} {pr : Bool} {e n sz : Nat} {cs : List V} {v : Value} (h : Sim c N ⟨F, H⟩ a w) (ht : t < N) (hb : b < w.heap.size) (hab : ∀ id, c.R b ≠ .abs id) (hcell : ∀ id j, c.R b = .own (.cell id j) → Bare H (.cell id j))
    (hF : ∀ k x, (k, x) ∈ del t F → c.R b ≠ .own (.slot k) ∧ ∀ q, c.R b = .own q → x.refers q = false) (hx : SRel (c.give b (.slot t)) w (.slot t) (.own pr e n sz cs) v) :
    Sim (c.give b (.slot t)) N ⟨putF t (.own pr e n sz cs) F, H⟩ (a.put (some t) v) w := by
  refine ⟨h.inv.give hb trivial hab hcell, by simpa [Act.put] using h.size, h.defers, fun k y hy => ?_⟩
  unfold putF at hy
  simp only [List.mem_cons, Prod.mk.injEq] at hy
  rcases hy with ⟨rfl, rfl⟩ | hy
  · exact ⟨v, by simp [Act.put, Array.getElem?_setIfInBounds, h.size, ht], hx⟩
  · obtain ⟨h1, h2, h3⟩ := mem_del hy
    obtain ⟨u, hu, h4⟩ := h.fr k y h1
    refine ⟨u, by simpa [Act.put, Array.getElem?_setIfInBounds, Ne.symm h2] using hu, h4.give (fun q hq e => ?_) (by simpa using h2) h3⟩
    obtain ⟨g1, g2⟩ := hF k y hy
    rcases hq with rfl | hq
    · exact g1 e
    · rw [g2 q e] at hq; cases hq

/-! ## A new block -/
def Cx.lay (c : Cx) (b : Nat) : Cx := { c with φ := c.φ ++ [b], R := fun k => if k = b then .abs c.φ.length else c.R k }

theorem phi_lay {id k b : Nat} (h : (c.lay b).φ[id]? = some k) : c.φ[id]? = some k ∨ (id = c.φ.length ∧ k = b) := by
  unfold Cx.lay at h
  simp only at h
  rw [List.getElem?_append] at h
  split at h
  · exact .inl h
  · rename_i hlt
    right
    rw [List.getElem?_singleton] at h
    split at h
    · exact ⟨by omega, by simpa using h.symm⟩
    · cases h
theorem lay_phi {id k : Nat} (b : Nat) (h : c.φ[id]? = some k) : (c.lay b).φ[id]? = some k := by
  unfold Cx.lay
  simp only
  rw [List.getElem?_append_left (List.getElem?_eq_some_iff.1 h).1]
  exact h
theorem fresh_out (h : Inv c H w) : c.R w.heap.size = .out := by
  by_cases hr : c.R w.heap.size = .out
  · exact hr
  · have := h.lt _ hr; omega
theorem fresh_imm (h : Inv c H w) (b o : Nat) (hb : w.heap.size ≤ b) : c.I b o = none := by
  cases hi : c.I b o with
  | none => rfl
  | some v =>
    have := World.block_lt_of_cell? w ⟨b, o, none⟩ (h.imm b o v hi)
    simp at this
    omega
theorem heap_alloc_lt {o : Obj} {k : Nat} (h : k < w.heap.size) : (w.alloc o).heap[k]? = w.heap[k]? := Below.heap_alloc w o k h

theorem SRel.lay {r : Root} {x : SV} {v : Value} (hi : Inv c H w) (o : Obj) (h : SRel c w r x v) : SRel (c.lay w.heap.size) (w.alloc o) r x v :=
  SRel.mono (c := c) (w := w) (c' := c.lay w.heap.size) (w' := w.alloc o) (fun _ _ _ h => h) (fun _ _ h => lay_phi _ h) (fun b q _ hb => by
    have hlt := hi.lt b (by rw [hb]; simp)
    exact ⟨by simp [Cx.lay, Nat.ne_of_lt hlt, hb], heap_alloc_lt hlt, fun _ => rfl⟩) h
/-- A block that nothing leads to beside what was there. -/
theorem SRel.more {r : Root} {x : SV} {v : Value} (hi : Inv c H w) (o : Obj) (h : SRel c w r x v) : SRel c (w.alloc o) r x v :=
  SRel.mono (c := c) (w := w) (c' := c) (w' := w.alloc o) (fun _ _ _ h => h) (fun _ _ h => h) (fun b q _ hb => ⟨hb, heap_alloc_lt (hi.lt b (by rw [hb]; simp)), fun _ => rfl⟩) h

theorem obj_lt {k : Nat} {x : Obj} (h : w.heap[k]? = some x) : k < w.heap.size := (Array.getElem?_eq_some_iff.1 h).1
theorem alloc_obj {o x : Obj} {k : Nat} (h : w.heap[k]? = some x) : (w.alloc o).heap[k]? = some x := (heap_alloc_lt (obj_lt h)).trans h
theorem cell_alloc' {o : Obj} {p : Addr} {v : Value} (h : w.cell? p = some v) : (w.alloc o).cell? p = some v := by
  rw [World.cell?_of_block (heap_alloc_lt (World.block_lt_of_cell? w p h))]; exact h

theorem Inv.more (h : Inv c H w) (o : Obj) : Inv c H (w.alloc o) :=
  ⟨fun b j v hv => cell_alloc' (h.imm b j v hv), h.len, fun b hb => by have := h.lt b hb; simp; omega, h.uniq, fun id b k hb hk => by
    obtain ⟨h1, h2, h3⟩ := h.blk id b k hb hk
    refine ⟨h1, h2, ?_⟩
    by_cases hck : ∃ cs, k = .cells cs
    rotate_left
    · exact BRel.stay (fun cs e => hck ⟨cs, e⟩) h3 (fun _ _ _ h => h) (fun _ _ h => h) (fun _ _ h _ => alloc_obj h)
    obtain ⟨cs, rfl⟩ := hck
    obtain ⟨arr, e, g1, g2, g6, g3⟩ := h3
    exact ⟨arr, e, (heap_alloc_lt (h.lt b (by rw [h1]; simp))).trans g1, g2, g6, fun j x v hx hv => ⟨(g3 j x v hx hv).1, (g3 j x v hx hv).2.more h o⟩⟩⟩
theorem Sim.more {o : Obj} (h : Sim c N ⟨F, H⟩ a w) : Sim c N ⟨F, H⟩ a (w.alloc o) :=
  ⟨h.inv.more o, h.size, h.defers, fun t x hx => by
    obtain ⟨v, hv, h1⟩ := h.fr t x hx
    exact ⟨v, hv, h1.more h.inv o⟩⟩
theorem Ext.more (c : Cx) (w : World) (o : Obj) : Ext c w c (w.alloc o) :=
  ⟨rfl, rfl, rfl, by simp, fun b hb h => ⟨heap_alloc_lt hb, h, fun _ => rfl⟩, fun _ _ _ h => h, fun _ _ h => h⟩

theorem Inv.lay {arr : Array Value} {cs : List V} {e : TypeId} (h : Inv c H w) (hc : RelL c.I c.φ cs arr.toList) (h1 : ∀ v ∈ arr.toList, v.oneCell' = true) : Inv (c.lay w.heap.size) (H ++ [.cells (cs.map .v)]) (w.alloc (.cells arr e)) := by
  refine ⟨fun b j v hv => cell_alloc' (h.imm b j v hv), by simp [Cx.lay, h.len], fun b hb => ?_, fun b b' r hb hb' => ?_, fun id b k hb hk => ?_⟩
  · unfold Cx.lay at hb
    by_cases hbs : b = w.heap.size
    · subst hbs; simp
    · simp only [hbs, if_false] at hb
      have := h.lt b hb
      simp; omega
  · unfold Cx.lay at hb hb'
    by_cases h1 : b = w.heap.size
    · simp [h1] at hb
    · by_cases h2 : b' = w.heap.size
      · simp [h2] at hb'
      · simp only [h1, h2, if_false] at hb hb'
        exact h.uniq b b' r hb hb'
  · rcases phi_lay hb with hb | ⟨rfl, rfl⟩
    · have hlt : id < H.length := by rw [← h.len]; exact (List.getElem?_eq_some_iff.1 hb).1
      rw [List.getElem?_append_left hlt] at hk
      obtain ⟨h4, h2, h3⟩ := h.blk id b k hb hk
      have hbl := h.lt b (by rw [h4]; simp)
      refine ⟨by simp [Cx.lay, Nat.ne_of_lt hbl, h4], h2, ?_⟩
      by_cases hck : ∃ cs, k = .cells cs
      rotate_left
      · exact BRel.stay (fun cs e => hck ⟨cs, e⟩) h3 (fun _ _ _ h => h) (fun _ _ h => lay_phi _ h) (fun _ _ h _ => alloc_obj h)
      obtain ⟨ks, rfl⟩ := hck
      obtain ⟨arr', e', g1, g2, g6, g3⟩ := h3
      exact ⟨arr', e', (heap_alloc_lt hbl).trans g1, g2, g6, fun j x v hx hv => ⟨(g3 j x v hx hv).1, (g3 j x v hx hv).2.lay h _⟩⟩
    · rw [h.len, List.getElem?_append_right (Nat.le_refl _)] at hk
      simp at hk
      subst hk
      refine ⟨by simp [Cx.lay], fun o => fresh_imm h _ o (Nat.le_refl _), arr, e, heap_alloc_new w _, ?_, h1, fun j x v hx hv => ?_⟩
      · have := hc.len
        simp at this ⊢
        exact this.symm
      · rw [List.getElem?_map] at hx
        cases hy : cs[j]? with
        | none => rw [hy] at hx; cases hx
        | some y =>
          rw [hy] at hx
          simp at hx
          subst hx
          refine ⟨rfl, ?_⟩
          obtain ⟨u, hu, hr⟩ := hc.get hy
          simp at hu
          rw [hv] at hu
          cases hu
          exact Rel.mono (fun _ _ _ h => h) (fun _ _ h => lay_phi _ h) hr
theorem Sim.lay {arr : Array Value} {cs : List V} {e : TypeId} (h : Sim c N ⟨F, H⟩ a w) (hc : RelL c.I c.φ cs arr.toList) (h1 : ∀ v ∈ arr.toList, v.oneCell' = true) : Sim (c.lay w.heap.size) N ⟨F, H ++ [.cells (cs.map .v)]⟩ a (w.alloc (.cells arr e)) :=
  ⟨h.inv.lay hc h1, h.size, h.defers, fun t x hx => by
    obtain ⟨v, hv, h1⟩ := h.fr t x hx
    exact ⟨v, hv, h1.lay h.inv _⟩⟩
theorem Ext.lay (c : Cx) (w : World) (o : Obj) : Ext c w (c.lay w.heap.size) (w.alloc o) :=
  ⟨rfl, rfl, rfl, by simp, fun b hb h => ⟨heap_alloc_lt hb, by simp [Cx.lay, Nat.ne_of_lt hb, h], fun _ => rfl⟩, fun _ _ _ h => h, fun _ _ h => lay_phi _ h⟩
theorem lay_ptr (h : Inv c H w) (b : Nat) : Rel (c.lay b).I (c.lay b).φ (.ptr H.length 0) (.pointer (some ⟨b, 0, none⟩)) :=
  .ptr (by rw [← h.len]; simp [Cx.lay])
end
end AM
end Go.Proofs.Ytoooldijnilpaaa
