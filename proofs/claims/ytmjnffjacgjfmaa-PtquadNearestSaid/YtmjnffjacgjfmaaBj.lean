/- Blocks of which less is said, or whose rows are shared. Plain lemmas, over any program. -/
import Derived.Test.YtmjnffjacgjfmaaBc
import Derived.Test.YtmjnffjacgjfmaaBe1
namespace Go.Proofs.Ytmjnffjacgjfmaa
set_option linter.all false
open Go.RowKit
namespace AM
/-- Of these blocks less may be said. -/
def Wk (H H' : List Bk) : Prop := ∀ (c : Cx) (N : Nat) (F : Fr) (a : Act) (w : World), Sim c N ⟨F, H⟩ a w → ∃ c', Sim c' N ⟨F, H'⟩ a w ∧ Ext c w c' w ∧ c'.R = c.R
theorem Wk.refl (H : List Bk) : Wk H H := fun c N F a w h => ⟨c, h, Ext.refl c w, rfl⟩
theorem Wk.trans {H H1 H2 : List Bk} (h : Wk H H1) (k : Wk H1 H2) : Wk H H2 := fun c N F a w hs => by
  obtain ⟨c1, s1, x1, r1⟩ := h c N F a w hs
  obtain ⟨c2, s2, x2, r2⟩ := k c1 N F a w s1
  exact ⟨c2, s2, x1.trans x2, r2.trans r1⟩
/-- A cell of which less is said. -/
def cellWk (x y : SV) : Prop := y.flat = true ∧ ∀ (c : Cx) (w : World) (r : Root) (v : Value), SRel c w r x v → SRel c w r y v
theorem cellWk.refl {x : SV} (h : x.flat = true) : cellWk x x := ⟨h, fun _ _ _ _ h => h⟩
theorem cellWk.nil {y : SV} (hf : y.flat = true) (h : zeroRow y) : cellWk (.v .nil) y := ⟨hf, fun c w r v hv => zeroRow_rel h hv⟩
theorem cellWk.nilB {id off : Nat} : cellWk (.v .nil) (.v (.slb id off 0 0)) := ⟨rfl, fun c w r v hv => by
  have e : v = .slice none 0 0 := Rel.exact (show Rel c.I c.φ .nil v from hv) rfl
  subst e
  exact Rel.slb0⟩
theorem cellWk.any {x : SV} : cellWk x .any := ⟨rfl, fun _ _ _ _ _ => trivial⟩
theorem Wk.cells {H : List Bk} {id : Nat} {ks ks' : List SV} (hk : H[id]? = some (.cells ks)) (hl : ks'.length = ks.length) (hc : ∀ (j : Nat) (x y : SV), ks[j]? = some x → ks'[j]? = some y → x.flat = true → cellWk x y) : Wk H (H.set id (.cells ks')) := fun c N F a w h => by
  have hlt := (List.getElem?_eq_some_iff.1 hk).1
  refine ⟨c, ⟨⟨h.inv.imm, by simpa using h.inv.len, h.inv.lt, h.inv.uniq, fun id' b k hb hk' => ?_⟩, h.size, h.defers, h.fr⟩, Ext.refl c w, rfl⟩
  by_cases hi : id = id'
  · subst hi
    rw [List.getElem?_set_self hlt] at hk'
    cases hk'
    obtain ⟨h1, h2, arr, e, g1, g2, g6, g3⟩ := h.inv.blk id b _ hb hk
    refine ⟨h1, h2, arr, e, g1, by rw [g2, hl], g6, fun j y v hy hv => ?_⟩
    have hj : j < ks.length := by rw [← hl]; exact (List.getElem?_eq_some_iff.1 hy).1
    obtain ⟨f1, f2⟩ := g3 j _ v (List.getElem?_eq_getElem hj) hv
    obtain ⟨q1, q2⟩ := hc j _ y (List.getElem?_eq_getElem hj) hy f1
    exact ⟨q1, q2 c w _ v f2⟩
  · rw [List.getElem?_set_ne hi] at hk'
    exact h.inv.blk id' b k hb hk'
theorem Wk.cell {H : List Bk} {id off : Nat} {ks : List SV} {x y : SV} (hk : H[id]? = some (.cells ks)) (hx : ks[off]? = some x) (hc : cellWk x y) : Wk H (H.set id (.cells (ks.set off y))) :=
  Wk.cells hk (by simp) fun j x' y' h1 h2 hf => by
    rw [List.getElem?_set] at h2
    by_cases hj : off = j
    · subst hj
      rw [hx] at h1
      cases h1
      rw [if_pos rfl, if_pos (List.getElem?_eq_some_iff.1 hx).1] at h2
      cases h2
      exact hc
    · rw [if_neg hj, h1] at h2
      cases h2
      exact cellWk.refl hf
/-- A row that stands in a cell is shared from here on. -/
theorem Wk.share {H : List Bk} {id off : Nat} {ks : List SV} {pr : Bool} {e n sz : Nat} {cs : List V} (hk : H[id]? = some (.cells ks)) (hx : ks[off]? = some (.own pr e n sz cs)) : Wk H (H.set id (.cells (ks.set off (.own false e n sz cs)))) := fun c N F a w h => by
  have hlt : id < c.φ.length := by rw [h.inv.len]; exact (List.getElem?_eq_some_iff.1 hk).1
  obtain ⟨hr, hi, arr, e', q1, q2, q6, q3⟩ := h.inv.blk id _ _ (List.getElem?_eq_getElem hlt) hk
  obtain ⟨c', u, _, _, k3, k4, k5⟩ := Sim.shareCell (F := F) (H := H) h (List.getElem?_eq_getElem hlt) hk hx
  rw [setBlk_eq' hk] at k3
  exact ⟨_, k3, k4, k5⟩
theorem AW.wk {P : Program} {N : Nat} {F : Fr} {H H' : List Bk} {x : Code} {Q : Exit → St → Prop} (h : Wk H H') (hA : AW P N x Q ⟨F, H'⟩) : AW P N x Q ⟨F, H⟩ := fun c a w hs => by
  obtain ⟨c', s1, x1, _⟩ := h c N F a w hs
  exact wp_mono (hA c' a w s1) fun e a' w' he => Post.step x1 he
theorem AFn.wk {P : Program} {f : FuncId} {xs : List V} {H H' : List Bk} {Q : V → List Bk → Prop} (h : Wk H H') (hA : AFn P f xs H' Q) : AFn P f xs H Q := ⟨hA.1, fun c w vs hi hn hr => by
  obtain ⟨c', s1, x1, r1⟩ := h c 0 [] { tmps := #[], defers := [] } w ⟨hi, rfl, rfl, fun t x hx => by cases hx⟩
  refine (hA.2 c' w vs s1.inv (fun b t => by rw [r1]; exact hn b t) (RelL.mono x1.imm x1.phi hr)).mono fun e w' he => ?_
  obtain ⟨v, y, H1, c1, a1, a2, a3, a4, a5, q⟩ := he
  exact ⟨v, y, H1, c1, a1, a2, a3, a4, x1.trans a5, q⟩⟩
theorem AFn.post {P : Program} {f : FuncId} {xs : List V} {H : List Bk} {Q Q' : V → List Bk → Prop} (hA : AFn P f xs H Q) (hq : ∀ y H1, Q y H1 → ∃ H2, Wk H1 H2 ∧ Q' y H2) : AFn P f xs H Q' := ⟨hA.1, fun c w vs hi hn hr => by
  refine (hA.2 c w vs hi hn hr).mono fun e w' he => ?_
  obtain ⟨v, y, H1, c1, a1, a2, a3, a4, a5, q⟩ := he
  obtain ⟨H2, hw, q'⟩ := hq y H1 q
  obtain ⟨c2, s1, x1, r1⟩ := hw c1 0 [] { tmps := #[], defers := [] } w' ⟨a3, rfl, rfl, fun t x hx => by cases hx⟩
  exact ⟨v, y, H2, c2, a1, Rel.mono x1.imm x1.phi a2, s1.inv, fun b t => by rw [r1]; exact a4 b t, a5.trans x1, q'⟩⟩
end AM
end Go.Proofs.Ytmjnffjacgjfmaa
