/- A row of the call's own that a cell holds, and that is looked at alone from here on. Plain lemmas, over any program. -/
import Derived.Test.YtbcfoakceloenaaBe1
import Derived.Test.YtbcfoakceloenaaAt1
namespace Go.Proofs.Ytbcfoakceloenaa
set_option linter.all false
open Go.RowKit
namespace AM
theorem own_sl {c : Cx} {w : World} {r : Root} {e n sz : Nat} {cs : List V} {v : Value} (h : SRel c w r (.own false e n sz cs) v) : Rel c.I c.φ (.sl n sz cs) v := by
  obtain ⟨h0, vs, r1, r2, r3, r4⟩ := h
  rcases r2.2 with ⟨rfl, rfl⟩ | ⟨g, cap, cur, rfl, _, g1, g2, g3, g4, g5⟩
  · obtain ⟨rfl, rfl⟩ := nil_of r1 r2
    exact Rel.sl0
  · obtain ⟨_, k2⟩ := r4 g rfl
    exact Rel.sl r1 (fun j u hu => by rw [Nat.zero_add, k2]; simpa using hu) (by rw [r1.len, r2.1]) g2 g3 r3
theorem Inv.asSl {c : Cx} {H : List Bk} {w : World} {id off : Nat} {ks : List SV} {e n sz : Nat} {cs : List V} (h : Inv c H w) (hk : H[id]? = some (.cells ks)) (hj : ks[off]? = some (.own false e n sz cs)) : Inv c (setBlk H id off (.v (.sl n sz cs))) w := by
  rw [setBlk_eq' hk]
  refine ⟨h.imm, by rw [List.length_set]; exact h.len, h.lt, h.uniq, fun id' b k hb hk' => ?_⟩
  rw [List.getElem?_set] at hk'
  split at hk'
  · rename_i e
    subst e
    split at hk'
    · simp only [Option.some.injEq] at hk'
      subst hk'
      obtain ⟨h1, h2, arr, e, q1, q2, q3, q4⟩ := h.blk id b _ hb hk
      refine ⟨h1, h2, arr, e, q1, by rw [List.length_set]; exact q2, q3, fun j y v hy hv => ?_⟩
      rw [List.getElem?_set] at hy
      split at hy
      · rename_i e
        subst e
        split at hy
        · simp only [Option.some.injEq] at hy
          subst hy
          exact ⟨rfl, own_sl (q4 off _ v hj hv).2⟩
        · cases hy
      · exact q4 j y v hy hv
    · cases hk'
  · exact h.blk id' b k hb hk'
theorem AW.asSlCell {P : Program} {N : Nat} {F : Fr} {H : List Bk} {x : Code} {Q : Exit → St → Prop} {id off : Nat} {ks : List SV} {pr : Bool} {e n sz : Nat} {cs : List V} (hl : H[id]? = some (.cells ks)) (hj : ks[off]? = some (.own pr e n sz cs))
    (h : AW P N x Q ⟨F, H.set id (.cells (ks.set off (.v (.sl n sz cs))))⟩) : AW P N x Q ⟨F, H⟩ := fun c a w hs => by
  obtain ⟨b, hb⟩ : ∃ b, c.φ[id]? = some b := by
    have h1 := (List.getElem?_eq_some_iff.1 hl).1
    have h2 := hs.inv.len
    simp only at h2
    exact ⟨c.φ[id], List.getElem?_eq_getElem (by rw [h2]; exact h1)⟩
  obtain ⟨c', u, _, _, h3, h4⟩ := Sim.shareCell hs hb hl hj
  rw [setBlk_eq' hl] at h3
  have hj1 : id < H.length := (List.getElem?_eq_some_iff.1 hl).1
  have ho1 : off < ks.length := (List.getElem?_eq_some_iff.1 hj).1
  have h5 := h3.inv.asSl (id := id) (off := off) (ks := ks.set off (.own false e n sz cs)) (List.getElem?_set_self hj1) (List.getElem?_set_self ho1)
  rw [setBlk_eq' (List.getElem?_set_self hj1), List.set_set, List.set_set] at h5
  refine wp_mono (h c' a w ⟨h5, h3.size, h3.defers, h3.fr⟩) fun e a' w' he => Post.step h4 he
/-- A call may be asked as if a cell that holds no row held a row of nothing. -/
theorem AFn.weakCell {P : Program} {f : FuncId} {xs : List V} {H : List Bk} {Q : V → List Bk → Prop} {id off : Nat} {ks : List SV} (y : SV) (hk : H[id]? = some (.cells ks)) (hj : ks[off]? = some (.v .nil)) (hz : zeroRow y) (hf : y.flat = true)
    (h : AFn P f xs (setBlk H id off y) Q) : AFn P f xs H Q := ⟨h.1, fun c w vs hi hs hr => h.2 c w vs (hi.weakC hk hj hz hf) hs hr⟩
end AM
end Go.Proofs.Ytbcfoakceloenaa
