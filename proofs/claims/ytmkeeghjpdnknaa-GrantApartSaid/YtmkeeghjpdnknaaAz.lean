/- A cell that holds no row holds a row of nothing. -/
import Derived.Test.YtmkeeghjpdnknaaAr1
import Derived.Test.YtmkeeghjpdnknaaAw1
namespace Go.Proofs.Ytmkeeghjpdnknaa
set_option linter.all false
open Go.RowKit
namespace AM
theorem Inv.weakC {c : Cx} {H : List Bk} {w : World} {id off : Nat} {ks : List SV} {x : SV} (h : Inv c H w) (hk : H[id]? = some (.cells ks)) (hj : ks[off]? = some (.v .nil)) (hz : zeroRow x) (hf : x.flat = true) : Inv c (setBlk H id off x) w := by
  rw [setBlk_eq' hk]
  refine ⟨h.imm, by rw [List.length_set]; exact h.len, h.lt, h.uniq, fun id' b k hb hk' => ?_⟩
  rw [List.getElem?_set] at hk'
  split at hk'
  · rename_i e
    subst e
    split at hk'
    · simp only [Option.some.injEq] at hk'
      subst hk'
      obtain ⟨h1, h2, arr, e, q1, q2, q3, q4⟩ := h.blk id b _ hb hk
      refine ⟨h1, h2, arr, e, q1, by rw [List.length_set]; exact q2, q3, fun j y v hy hv => ?_⟩
      rw [List.getElem?_set] at hy
      split at hy
      · rename_i e
        subst e
        split at hy
        · simp only [Option.some.injEq] at hy
          subst hy
          exact ⟨hf, zeroRow_rel hz (q4 off _ v hj hv).2⟩
        · cases hy
      · exact q4 j y v hy hv
    · cases hk'
  · exact h.blk id' b k hb hk'
theorem AW.weakCell {P : Program} {N : Nat} {F : Fr} {H : List Bk} {x : Code} {Q : Exit → St → Prop} {id off : Nat} {ks : List SV} (y : SV) (hk : H[id]? = some (.cells ks)) (hj : ks[off]? = some (.v .nil)) (hz : zeroRow y) (hf : y.flat = true)
    (h : AW P N x Q ⟨F, setBlk H id off y⟩) : AW P N x Q ⟨F, H⟩ := fun c a w hs => h c a w ⟨hs.inv.weakC hk hj hz hf, hs.size, hs.defers, hs.fr⟩
end AM
end Go.Proofs.Ytmkeeghjpdnknaa
