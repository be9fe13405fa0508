/- From what a function promises over abstract states to a law's walk. Plain lemmas, over any program. -/
import Derived.Test.YtbcfoakceloenaaAr1
import Derived.Test.YtbcfoakceloenaaLaw
import Derived.Test.YtbcfoakceloenaaArg
namespace Go.Proofs.Ytbcfoakceloenaa
set_option linter.all false
open Go.RowKit
/-- Where a cell of a row of rows stands. -/
theorem flat_find {α : Type} {cells : α → List Value} {sz : Nat} (hlen : ∀ x, (cells x).length = sz) {u : Value} : ∀ {xs : List α} {j : Nat}, (xs.flatMap cells)[j]? = some u → ∃ i x j', xs[i]? = some x ∧ (cells x)[j']? = some u ∧ j = i * sz + j'
  | [], j, h => by simp at h
  | x :: xs, j, h => by
    rw [List.flatMap_cons] at h
    by_cases hj : j < sz
    · rw [List.getElem?_append_left (by rw [hlen]; exact hj)] at h
      exact ⟨0, x, j, rfl, h, by simp⟩
    · rw [List.getElem?_append_right (by rw [hlen]; omega), hlen] at h
      obtain ⟨i, y, j', h1, h2, h3⟩ := flat_find hlen h
      refine ⟨i + 1, y, j', by simpa using h1, h2, ?_⟩
      rw [Nat.succ_mul]
      omega
namespace AM

/-- What a world's cells say. -/
def said (W : World) (b o : Nat) : Option Value := W.cell? ⟨b, o, none⟩
theorem AFn.yes {P : Program} {f : FuncId} {xs : List V} {vs : List Value} {W : World} {Q : V → List Bk → Prop} (h : AFn P f xs [] Q) (hq : ∀ y H, Q y H → y = .sc (.bool true)) (hr : RelL (said W) [] xs vs) : Calls P f vs.toArray W (Yes W) := by
  let c0 : Cx := ⟨said W, [], fun _ => .out⟩
  have hi0 : Inv c0 [] W := ⟨fun b o v hv => hv, rfl, fun b hb => absurd rfl hb, fun b b' r hb => (by cases hb), fun id b k hb hk => (by simp [c0] at hb)⟩
  refine (h.2 c0 W vs hi0 (fun b t e => by cases e) hr).mono fun e w' he => ?_
  obtain ⟨v, y, H', c', rfl, k1, k2, k3, k4, k5⟩ := he
  obtain rfl := hq _ _ k5
  refine ⟨by rw [Rel.exact k1 rfl], ⟨k4.os, k4.tape, k4.output, k4.size, fun k hk => (k4.out k hk rfl).1⟩⟩
theorem relL_sc {I : Nat → Nat → Option Value} {φ : List Nat} : ∀ {vs : List Value}, RelL I φ (vs.map .sc) vs
  | [] => .nil
  | v :: vs => .cons (.sc v) relL_sc
theorem relL_flat {α : Type} {I : Nat → Nat → Option Value} {φ : List Nat} {cells : α → List Value} : ∀ {xs : List α}, RelL I φ (xs.flatMap fun x => (cells x).map V.sc) (xs.flatMap cells)
  | [] => .nil
  | x :: xs => by
    simp only [List.flatMap_cons]
    exact RelL.append relL_sc relL_flat
end AM
section
open Go.ChangeShapes Go.WideShapes Go.Deep
variable {H : Type} {enc : TypeId × Value → H} {P : Program} {w : World} {base : Nat} {held : Bool}
/-- An argument that is a slice of plain elements. -/
theorem rel_slice {α : Type} [Inhabited α] {k : Nat} {t e : TypeId} {ls : List Leaf} {v : Value} {d : DataW H} {p : List MemPlace} {cells : α → List Value} (ht : P.underlying t = some (.slice e)) (hl : leavesOf P k e = some ls) (hsz : 0 < P.cellsOf e)
    (hα : ∀ cs, Leaf.all ls cs → ∃ x : α, cells x = cs) (hlen : ∀ x, (cells x).length = P.cellsOf e) (h1 : ∀ x, ∀ u ∈ cells x, u.oneCell' = true) (hone : ∃ a l c, v = .slice a l c) (h : DataW.Trod enc P w base (fun _ => true) held t v d p) :
    ∃ xs : List α, xs.length ≤ maxLen ∧ AM.Rel (AM.said w) [] (.sl xs.length (P.cellsOf e) (xs.flatMap fun x => (cells x).map .sc)) v := by
  obtain ⟨xs, A, c, rfl, hle, hc, hx⟩ := plain_slice ht hl hsz hα hone h
  refine ⟨xs, Nat.le_trans hle hc, ?_⟩
  by_cases h0 : c = 0
  · subst h0
    have : xs = [] := by
      cases xs with
      | nil => rfl
      | cons => simp at hle
    subst this
    exact .sl0
  · obtain ⟨n, hn⟩ := h
    have ha : ∃ b o, A = some ⟨b, o, none⟩ := by
      rcases open_slice ht hn with ⟨h0', _⟩ | ⟨a, len, cap, m, n, D, Pl, hv, hb, hlc, hcm, hm, _, hcell⟩
      · simp [Value.cells] at h0'
        exact absurd h0'.2.2 h0
      · simp [Value.cells] at hv
        obtain ⟨rfl, rfl, rfl⟩ := hv
        obtain ⟨cs', q1, _⟩ := hcell 0 (by rw [hm]; simp; omega)
        obtain ⟨_, hln, hci⟩ := World.cells?_some q1
        have := hci 0 hsz
        rw [List.getElem?_eq_getElem (by omega)] at this
        obtain ⟨_, hsp⟩ := block_of_cell (show w.cell? a = some _ by simpa [Addr.add] using this)
        obtain ⟨b, o, s⟩ := a
        cases hsp
        exact ⟨b, o, rfl⟩
    obtain ⟨b, o, rfl⟩ := ha
    refine .sl (vs := xs.flatMap cells) AM.relL_flat (fun j u hu => ?_) ?_ hle hc (fun u hu => ?_)
    · have hj := (List.getElem?_eq_some_iff.1 hu).1
      have hpos : 0 < xs.length := by
        cases xs with
        | nil => simp at hj
        | cons => simp
      obtain ⟨b', o', e, _, hcell⟩ := hx hpos
      cases e
      obtain ⟨i, x, j', hi, hj', e⟩ := flat_find (cells := cells) hlen hu
      subst e
      have := hcell i x hi j' u hj'
      rw [Nat.add_assoc] at this
      exact this
    · rw [AM.flat_len' (fun x => by rw [List.length_map, hlen x])]
    · obtain ⟨x, _, hu⟩ := List.mem_flatMap.1 hu
      exact h1 x u hu
end
end Go.Proofs.Ytbcfoakceloenaa
