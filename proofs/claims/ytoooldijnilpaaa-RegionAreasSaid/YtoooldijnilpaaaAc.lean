/- Reading and turning cells in an abstract state. Plain lemmas, over any program. -/
import Derived.Test.YtoooldijnilpaaaAb
namespace Go.Proofs.Ytoooldijnilpaaa
set_option linter.all false
open Go.RowKit
namespace AM
section
variable {c : Cx} {N : Nat} {F : Fr} {H : List Bk} {a : Act} {w : World}

/-- What a root holds. -/
def rootSV (s : St) : Root → Option SV
  | .slot t => getF t s.F
  | .cell id j => match s.H[id]? with
    | some (.cells cs) => cs[j]?
    | _ => none

/-- The plain values at the head. -/
def plains : List SV → List V
  | .v x :: xs => x :: plains xs
  | _ => []

/-- What can be read from an address on. -/
def cellsAt (s : St) : SV → Option (List V)
  | .v (.rd cs) => some cs
  | .v (.ptr id off) => match s.H[id]? with
    | some (.cells ks) => some (plains (ks.drop off))
    | _ => none
  | .pth r off => match rootSV s r with
    | some (.own _ _ _ _ cs) => some (cs.drop off)
    | _ => none
  | _ => none

theorem plains_get : ∀ {xs : List SV} {j : Nat} {y : V}, (plains xs)[j]? = some y → xs[j]? = some (.v y)
  | [], j, y, h => by simp [plains] at h
  | x :: xs, j, y, h => by
    cases x with
    | v x =>
      cases j with
      | zero => simpa [plains] using h
      | succ j => simp only [plains, List.getElem?_cons_succ] at h; simpa using plains_get h
    | _ => simp [plains] at h

theorem Sim.root {s : St} {r : Root} {x : SV} (h : Sim c N s a w) (hx : rootSV s r = some x) : ∃ u, SRel c w r x u := by
  cases r with
  | slot t =>
    obtain ⟨v, _, hv⟩ := h.fr t x (mem_getF hx)
    exact ⟨v, hv⟩
  | cell id j =>
    simp only [rootSV] at hx
    cases hk : s.H[id]? with
    | none => rw [hk] at hx; cases hx
    | some k =>
      by_cases hck : ∃ cs, k = .cells cs
      rotate_left
      · rw [hk] at hx; cases k <;> first | exact absurd ⟨_, rfl⟩ hck | cases hx | exact hx.elim
      obtain ⟨cs, rfl⟩ := hck
      rw [hk] at hx
      have hlt : id < c.φ.length := by rw [h.inv.len]; exact (List.getElem?_eq_some_iff.1 hk).1
      obtain ⟨_, _, arr, e, g1, g2, _, g3⟩ := h.inv.blk id _ _ (List.getElem?_eq_getElem hlt) hk
      have hj : j < arr.size := by rw [g2]; exact (List.getElem?_eq_some_iff.1 hx).1
      exact ⟨_, (g3 j x _ hx (Array.getElem?_eq_getElem hj)).2⟩

/-- The concrete cells behind an address. -/
theorem read_cells {s : St} {p : SV} {r : Root} {v : Value} {cs : List V} (h : Sim c N s a w) (hp : SRel c w r p v) (hc : cellsAt s p = some cs) :
    ∃ b off vs, v = .pointer (some ⟨b, off, none⟩) ∧ RelL c.I c.φ cs vs ∧ (∀ j u, vs[j]? = some u → w.cell? ⟨b, off + j, none⟩ = some u) ∧ ∀ u ∈ vs, u.oneCell' = true := by
  unfold cellsAt at hc
  split at hc
  · rename_i cs'
    cases hc
    cases hp with
    | rd h1 h2 h3 => exact ⟨_, _, _, rfl, h1, fun j u hu => h.inv.imm _ _ _ (h2 j u hu), h3⟩
  · rename_i id off
    cases hk : s.H[id]? with
    | none => rw [hk] at hc; cases hc
    | some k =>
      by_cases hck : ∃ cs, k = .cells cs
      rotate_left
      · rw [hk] at hc; cases k <;> first | exact absurd ⟨_, rfl⟩ hck | cases hc | exact hc.elim
      obtain ⟨ks, rfl⟩ := hck
      rw [hk] at hc
      cases hc
      cases hp with
      | ptr hb =>
        rename_i b
        obtain ⟨_, _, arr, e, g1, g2, g6, g3⟩ := h.inv.blk id _ _ hb hk
        have hlen : (plains (ks.drop off)).length ≤ arr.size - off := by
          rw [g2]
          have : ∀ xs : List SV, (plains xs).length ≤ xs.length := by
            intro xs
            induction xs with
            | nil => simp [plains]
            | cons x xs ih => cases x <;> simp [plains] <;> omega
          have := this (ks.drop off)
          simpa using this
        refine ⟨b, off, (arr.toList.drop off).take (plains (ks.drop off)).length, rfl, ?_, fun j u hu => ?_, fun u hu => g6 u (List.mem_of_mem_drop (List.mem_of_mem_take hu))⟩
        · refine .of_get (by simp; omega) fun j x v hx hv => ?_
          have h1 := plains_get hx
          rw [List.getElem?_drop] at h1
          rw [List.getElem?_take] at hv
          split at hv
          · rw [List.getElem?_drop] at hv
            exact (g3 (off + j) _ v h1 (by simpa using hv)).2
          · cases hv
        · rw [List.getElem?_take] at hu
          split at hu
          · rw [List.getElem?_drop] at hu
            simp [World.cell?, g1]
            simpa using hu
          · cases hu
  · rename_i r' off
    cases hr : rootSV s r' with
    | none => rw [hr] at hc; cases hc
    | some x =>
      cases x with
      | own pr e n sz cs' =>
        rw [hr] at hc
        cases hc
        obtain ⟨b, rfl, hb⟩ := hp
        obtain ⟨u, h0, vs, h1, h2, h4, h3⟩ := h.root hr
        rcases h2.2 with ⟨rfl, rfl⟩ | ⟨g, cap, cur, rfl, _, g1, g2, g3, g6, g5⟩
        · have : vs = [] := List.eq_nil_of_length_eq_zero (by rw [h2.1]; simp)
          subst this
          cases h1
          exact ⟨b, off, [], rfl, by simpa using RelL.nil, fun j u hu => by simp at hu, fun u hu => by simp at hu⟩
        · have hgb : g = b := h.inv.uniq g b r' (h3 g rfl).1 hb
          subst hgb
          refine ⟨g, off, vs.drop off, rfl, h1.drop off, fun j u hu => ?_, fun u hu => h4 u (List.mem_of_mem_drop hu)⟩
          rw [List.getElem?_drop, ← g5, List.getElem?_take] at hu
          split at hu
          · simp [World.cell?, g1]
            simpa using hu
          · cases hu
      | _ => rw [hr] at hc; cases hc
  · cases hc

/-! ## Turning a cell of a numbered block -/
theorem heap_set_other {p : Addr} {u : Value} {k : Nat} (h : k ≠ p.block) : (w.setCell p u).heap[k]? = w.heap[k]? := Below.heap_setCell w p u k h
theorem heap_set_self {b o : Nat} {u : Value} {arr : Array Value} {e : TypeId} {fz : Nat × Nat} (h : w.heap[b]? = some (.cells arr e fz)) : (w.setCell ⟨b, o, none⟩ u).heap[b]? = some (.cells (arr.setIfInBounds o u) e fz) := by
  simp [World.setCell, Array.getElem?_modify, h]
theorem set_obj {p : Addr} {u : Value} {k : Nat} {o : Obj} (h : w.heap[k]? = some o) (ho : ∀ arr e f, o ≠ Obj.cells arr e f) : (w.setCell p u).heap[k]? = some o := by
  by_cases hk : k = p.block
  · subst hk
    simp only [World.setCell, Array.getElem?_modify, if_true]
    rw [h]
    cases o <;> first | rfl | exact absurd rfl (ho _ _ _)
  · rw [heap_set_other hk]; exact h
theorem size_set {p : Addr} {u : Value} : (w.setCell p u).heap.size = w.heap.size := by simp [World.setCell]

def setBlk (H : List Bk) (id j : Nat) (x : SV) : List Bk :=
  match H[id]? with
  | some (.cells cs) => H.set id (.cells (cs.set j x))
  | _ => H

theorem SRel.other {r : Root} {x : SV} {v u : Value} {b o : Nat} (hb : ∀ q, c.R b ≠ .own q) (h : SRel c w r x v) : SRel c (w.setCell ⟨b, o, none⟩ u) r x v :=
  SRel.mono (c := c) (w := w) (c' := c) (w' := w.setCell ⟨b, o, none⟩ u) (fun _ _ _ h => h) (fun _ _ h => h) (fun k q _ hk => ⟨hk, heap_set_other (by rintro rfl; exact hb q hk), fun _ => rfl⟩) h

/-- A cell of a numbered block is turned. -/
theorem Sim.store' {id j b : Nat} {cs : List SV} {x : SV} {v : Value} (h : Sim c N ⟨F, H⟩ a w) (hb : c.φ[id]? = some b) (hk : H[id]? = some (.cells cs)) (hf : x.flat = true) (hv1 : v.oneCell' = true) (hx : SRel c (w.setCell ⟨b, j, none⟩ v) (.cell id j) x v) :
    Sim c N ⟨F, H.set id (.cells (cs.set j x))⟩ a (w.setCell ⟨b, j, none⟩ v) := by
  obtain ⟨hr, hi, arr, e, g1, g2, g6, g3⟩ := h.inv.blk id b _ hb hk
  have hno : ∀ q, c.R b ≠ .own q := fun q => by rw [hr]; simp
  have hlt : id < H.length := (List.getElem?_eq_some_iff.1 hk).1
  refine ⟨⟨fun b' o' v' hv' => ?_, by simpa using h.inv.len, fun b' hb' => by rw [size_set]; exact h.inv.lt b' hb', h.inv.uniq, fun id' b' k hb' hk' => ?_⟩, h.size, h.defers, fun t y hy => ?_⟩
  · have hne : b' ≠ b := by rintro rfl; rw [hi] at hv'; cases hv'
    rw [World.cell?_of_block (a := ⟨b', o', none⟩) (heap_set_other (w := w) (p := ⟨b, j, none⟩) (u := v) hne)]
    exact h.inv.imm b' o' v' hv'
  · by_cases hid : id = id'
    · subst hid
      rw [hb] at hb'
      cases hb'
      rw [List.getElem?_set_self hlt] at hk'
      cases hk'
      refine ⟨hr, hi, _, e, heap_set_self g1, by simp [g2], fun u hu => ?_, fun i y u hy hu => ?_⟩
      · rw [Array.toList_setIfInBounds] at hu
        rcases List.mem_or_eq_of_mem_set hu with hu | rfl
        · exact g6 u hu
        · exact hv1
      rw [List.getElem?_set] at hy
      by_cases hij : j = i
      · subst hij
        simp only [if_true] at hy
        split at hy
        · cases hy
          rw [Array.getElem?_setIfInBounds] at hu
          simp only [if_true] at hu
          split at hu
          · cases hu
            exact ⟨hf, hx⟩
          · cases hu
        · cases hy
      · rw [if_neg hij] at hy
        rw [Array.getElem?_setIfInBounds, if_neg hij] at hu
        exact ⟨(g3 i y u hy hu).1, (g3 i y u hy hu).2.other hno⟩
    · have hk2 : H[id']? = some k := by
        have hh : (H.set id (Bk.cells (cs.set j x)))[id']? = some k := hk'
        rwa [List.getElem?_set_ne hid] at hh
      obtain ⟨k1, k2, k3⟩ := h.inv.blk id' b' k hb' hk2
      have hne : b' ≠ b := by
        rintro rfl
        rw [hr] at k1
        exact hid (by simpa using k1)
      refine ⟨k1, k2, ?_⟩
      by_cases hck : ∃ cs, k = .cells cs
      rotate_left
      · exact BRel.stay (fun cs e => hck ⟨cs, e⟩) k3 (fun _ _ _ h => h) (fun _ _ h => h) (fun _ _ h ho => set_obj h ho)
      obtain ⟨ks, rfl⟩ := hck
      obtain ⟨arr', e', f1, f2, f6, f3⟩ := k3
      exact ⟨arr', e', (heap_set_other (w := w) (p := ⟨b, j, none⟩) (u := v) hne).trans f1, f2, f6, fun i y u hy hu => ⟨(f3 i y u hy hu).1, (f3 i y u hy hu).2.other hno⟩⟩
  · obtain ⟨u, hu, h1⟩ := h.fr t y hy
    exact ⟨u, hu, h1.other hno⟩
theorem Sim.store {id j b : Nat} {cs : List SV} {x : V} {v : Value} (h : Sim c N ⟨F, H⟩ a w) (hb : c.φ[id]? = some b) (hk : H[id]? = some (.cells cs)) (hv1 : v.oneCell' = true) (hx : Rel c.I c.φ x v) :
    Sim c N ⟨F, H.set id (.cells (cs.set j (.v x)))⟩ a (w.setCell ⟨b, j, none⟩ v) := h.store' hb hk rfl hv1 hx
theorem Ext.store {b j : Nat} {v : Value} (c : Cx) (w : World) (hb : c.R b ≠ .out) : Ext c w c (w.setCell ⟨b, j, none⟩ v) :=
  ⟨rfl, rfl, rfl, by rw [size_set]; exact Nat.le_refl _, fun k hk h => ⟨heap_set_other (by rintro rfl; exact hb h), h, fun _ => rfl⟩, fun _ _ _ h => h, fun _ _ h => h⟩
end
end AM
end Go.Proofs.Ytoooldijnilpaaa
