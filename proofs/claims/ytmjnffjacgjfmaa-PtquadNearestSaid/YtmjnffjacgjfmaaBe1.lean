/- Blocks that stay; boxes; results that may be a row of nothing. Plain lemmas, over any program. -/
import Derived.Test.YtmjnffjacgjfmaaAr1
import Derived.Test.YtmjnffjacgjfmaaAo
import Derived.Test.YtmjnffjacgjfmaaAw1
namespace Go.Proofs.Ytmjnffjacgjfmaa
set_option linter.all false
open Go.RowKit
namespace AM
/-- What stood before stays, but for walks over maps. -/
def Stays (H H' : List Bk) : Prop := ∀ (i : Nat) (b : Bk), H[i]? = some b → (∀ n l cu, b ≠ .iter n l cu) → H'[i]? = some b
/-- Every block but one, and but walks over maps, stays. -/
def StaysBut (m : Nat) (H H' : List Bk) : Prop := ∀ (i : Nat) (b : Bk), i ≠ m → H[i]? = some b → (∀ n l cu, b ≠ .iter n l cu) → H'[i]? = some b
theorem Stays.refl {H : List Bk} : Stays H H := fun _ _ h _ => h
theorem Stays.trans {H H1 H2 : List Bk} (h : Stays H H1) (h1 : Stays H1 H2) : Stays H H2 := fun i b hb hn => h1 i b (h i b hb hn) hn
theorem getA {H L : List Bk} {i : Nat} {b : Bk} (h : H[i]? = some b) : (H ++ L)[i]? = some b := by
  rw [List.getElem?_append_left (List.getElem?_eq_some_iff.1 h).1]
  exact h
theorem Stays.app {H L : List Bk} : Stays H (H ++ L) := fun _ _ h _ => getA h
theorem Stays.append {H H1 L : List Bk} (h : Stays H H1) : Stays H (H1 ++ L) := h.trans .app
theorem Stays.cells {H H' : List Bk} {i : Nat} {cs : List SV} (h : Stays H H') (hi : H[i]? = some (.cells cs)) : H'[i]? = some (.cells cs) := h i _ hi (fun _ _ _ e => by cases e)
theorem Stays.map {H H' : List Bk} {i : Nat} {es : List (Value × V)} (h : Stays H H') (hi : H[i]? = some (.map es)) : H'[i]? = some (.map es) := h i _ hi (fun _ _ _ e => by cases e)
theorem Stays.but {m : Nat} {H H' : List Bk} (h : Stays H H') : StaysBut m H H' := fun i b _ hb hn => h i b hb hn
theorem StaysBut.refl {m : Nat} {H : List Bk} : StaysBut m H H := fun _ _ _ h _ => h
theorem StaysBut.trans {m : Nat} {H H1 H2 : List Bk} (h : StaysBut m H H1) (h1 : StaysBut m H1 H2) : StaysBut m H H2 := fun i b hi hb hn => h1 i b hi (h i b hi hb hn) hn
theorem StaysBut.app {m : Nat} {H L : List Bk} : StaysBut m H (H ++ L) := Stays.app.but
theorem StaysBut.append {m : Nat} {H H1 L : List Bk} (h : StaysBut m H H1) : StaysBut m H (H1 ++ L) := h.trans .app
theorem StaysBut.cells {m : Nat} {H H' : List Bk} {i : Nat} {cs : List SV} (h : StaysBut m H H') (hm : i ≠ m) (hi : H[i]? = some (.cells cs)) : H'[i]? = some (.cells cs) := h i _ hm hi (fun _ _ _ e => by cases e)
theorem StaysBut.map {m : Nat} {H H' : List Bk} {i : Nat} {es : List (Value × V)} (h : StaysBut m H H') (hm : i ≠ m) (hi : H[i]? = some (.map es)) : H'[i]? = some (.map es) := h i _ hm hi (fun _ _ _ e => by cases e)
theorem StaysBut.set {m : Nat} {H : List Bk} {k : Bk} : StaysBut m H (H.set m k) := fun i b hi hb _ => by rw [List.getElem?_set_ne (Ne.symm hi)]; exact hb
/-- A block that came later may turn. -/
theorem StaysBut.new {m : Nat} {H H' : List Bk} (h : StaysBut m H H') (hm : H.length ≤ m) : Stays H H' := fun i b hb hn => h i b (Nat.ne_of_lt (Nat.lt_of_lt_of_le (List.getElem?_eq_some_iff.1 hb).1 hm)) hb hn
theorem killA {m i : Nat} {H : List Bk} {b : Bk} (h : H[i]? = some b) (hn : ∀ n l cu, b ≠ .iter n l cu) : (killIt m H)[i]? = some b := by
  unfold killIt
  rw [List.getElem?_map, h]
  cases b with
  | iter n l cu => exact absurd rfl (hn n l cu)
  | _ => rfl
theorem StaysBut.killed {m : Nat} {H H1 : List Bk} {k : Bk} (h : StaysBut m H H1) : StaysBut m H ((killIt m H1).set m k) := fun i b hi hb hn => by
  rw [List.getElem?_set_ne (Ne.symm hi)]
  exact killA (h i b hi hb hn) hn
theorem killLen {m : Nat} {H : List Bk} : (killIt m H).length = H.length := by simp [killIt]
theorem killSelf {m n : Nat} {H : List Bk} {b k : Bk} (h : H[m]? = some b) : ((killIt n H).set m k)[m]? = some k := List.getElem?_set_self (by rw [killLen]; exact (List.getElem?_eq_some_iff.1 h).1)
theorem setSelf {H : List Bk} {i : Nat} {b k : Bk} (h : H[i]? = some b) : (H.set i k)[i]? = some k := List.getElem?_set_self (List.getElem?_eq_some_iff.1 h).1
theorem setOther {H : List Bk} {i j : Nat} {b : Bk} (h : H[j]? = some b) (hne : i ≠ j) (k : Bk) : (H.set i k)[j]? = some b := (List.getElem?_set_ne hne).trans h
theorem setBlk_set {H : List Bk} {id j : Nat} {x : SV} {cs : List SV} (hk : H[id]? = some (.cells cs)) : setBlk H id j x = H.set id (.cells (cs.set j x)) := setBlk_eq hk
theorem Stays.len {H H' : List Bk} (h : Stays H H') {i : Nat} {cs : List SV} (hi : H[i]? = some (.cells cs)) : i < H'.length := (List.getElem?_eq_some_iff.1 (h.cells hi)).1
/-- A function that only reckons, as one that leaves all blocks. -/
theorem PFn.stays {P : Program} {f : FuncId} {xs : List V} {r : V} (h : PFn P f xs r) (hx : V.closedL xs = true) (hr : r.closed = true) (H : List Bk) : AFn P f xs H fun y H' => y = r ∧ Stays H H' := by
  have := PFn.lift h hx hr H
  refine ⟨this.1, fun c w vs hi hs hv => (this.2 c w vs hi hs hv).mono fun e w' he => ?_⟩
  obtain ⟨v, y, H', c', k1, k2, k3, k4, k5, rfl, rfl⟩ := he
  exact ⟨v, _, _, c', k1, k2, k3, k4, k5, rfl, .refl⟩
theorem AFn.mono' {P : Program} {f : FuncId} {xs : List V} {H : List Bk} {Q Q' : V → List Bk → Prop} (h : AFn P f xs H Q) (k : ∀ y H, Q y H → Q' y H) : AFn P f xs H Q' := ⟨h.1, fun c w vs hi hs hr => (h.2 c w vs hi hs hr).mono fun e w' he => by
  obtain ⟨v, y, H', c', k1, k2, k3, k4, k5, k6⟩ := he
  exact ⟨v, y, H', c', k1, k2, k3, k4, k5, k _ _ k6⟩⟩
/-- A value that says less. -/
theorem AFn.conv {P : Program} {f : FuncId} {xs : List V} {H : List Bk} {Q Q' : V → List Bk → Prop} (h : AFn P f xs H Q) (k : ∀ y H', Q y H' → ∃ r, Q' r H' ∧ ∀ I φ v, Rel I φ y v → Rel I φ r v) : AFn P f xs H Q' := ⟨h.1, fun c w vs hi hs hr => (h.2 c w vs hi hs hr).mono fun e w' he => by
  obtain ⟨v, y, H', c', k1, k2, k3, k4, k5, k6⟩ := he
  obtain ⟨r, q1, q2⟩ := k _ _ k6
  exact ⟨v, r, H', c', k1, q2 _ _ _ k2, k3, k4, k5, q1⟩⟩
theorem rel_nil_row {I : Nat → Nat → Option Value} {φ : List Nat} {sz : Nat} {v : Value} (h : Rel I φ .nil v) : Rel I φ (.sl 0 sz []) v := by
  cases h
  exact .sl0
/-- A part of a row of cells is turned. -/
theorem putRow {A B x z : List V} {k : Nat} (hA : A.length = k) (hz : z.length = x.length) : (A ++ (z ++ B)).take k ++ x ++ (A ++ (z ++ B)).drop (k + x.length) = A ++ (x ++ B) := by
  subst hA
  rw [List.take_left, List.drop_append, List.drop_of_length_le (by omega)]
  simp [← hz]
theorem zerosV_succ (n : Nat) (zc : List V) : zerosV (n + 1) zc = zc ++ zerosV n zc := by simp [zerosV, List.replicate_succ]
theorem zerosV_zero (zc : List V) : zerosV 0 zc = [] := rfl
end AM
end Go.Proofs.Ytmjnffjacgjfmaa
namespace Go.Proofs.Ytmjnffjacgjfmaa
set_option linter.all false
open Go.RowKit
namespace AM
theorem Inv.weakC {c : Cx} {H : List Bk} {w : World} {id off : Nat} {ks : List SV} {x : SV} (h : Inv c H w) (hk : H[id]? = some (.cells ks)) (hj : ks[off]? = some (.v .nil)) (hz : zeroRow x) (hf : x.flat = true) : Inv c (setBlk H id off x) w := by
  rw [setBlk_eq' hk]
  refine ⟨h.imm, by rw [List.length_set]; exact h.len, h.lt, h.uniq, fun id' b k hb hk' => ?_⟩
  rw [List.getElem?_set] at hk'
  split at hk'
  · rename_i e
    subst e
    split at hk'
    · simp only [Option.some.injEq] at hk'
      subst hk'
      obtain ⟨h1, h2, arr, e, q1, q2, q3, q4⟩ := h.blk id b _ hb hk
      refine ⟨h1, h2, arr, e, q1, by rw [List.length_set]; exact q2, q3, fun j y v hy hv => ?_⟩
      rw [List.getElem?_set] at hy
      split at hy
      · rename_i e
        subst e
        split at hy
        · simp only [Option.some.injEq] at hy
          subst hy
          exact ⟨hf, zeroRow_rel hz (q4 off _ v hj hv).2⟩
        · cases hy
      · exact q4 j y v hy hv
    · cases hk'
  · exact h.blk id' b k hb hk'
theorem AW.weakCell {P : Program} {N : Nat} {F : Fr} {H : List Bk} {x : Code} {Q : Exit → St → Prop} {id off : Nat} {ks : List SV} (y : SV) (hk : H[id]? = some (.cells ks)) (hj : ks[off]? = some (.v .nil)) (hz : zeroRow y) (hf : y.flat = true)
    (h : AW P N x Q ⟨F, setBlk H id off y⟩) : AW P N x Q ⟨F, H⟩ := fun c a w hs => h c a w ⟨hs.inv.weakC hk hj hz hf, hs.size, hs.defers, hs.fr⟩
end AM
end Go.Proofs.Ytmjnffjacgjfmaa
namespace Go.Proofs.Ytmjnffjacgjfmaa
set_option linter.all false
open Go.RowKit
namespace AM
theorem AFn.out {P : Program} {f : FuncId} {xs : List V} {H : List Bk} {r r' : V} (h : AFn P f xs H fun y _ => y = r) (hw : ∀ I φ v, Rel I φ r v → Rel I φ r' v) : AFn P f xs H fun y _ => y = r' := ⟨h.1, fun c w vs hi hs hr => (h.2 c w vs hi hs hr).mono fun e w' he => by
  obtain ⟨v, y, H', c', a1, a2, a3, a4, a5, q⟩ := he
  exact ⟨v, r', H', c', a1, hw _ _ _ (q ▸ a2), a3, a4, a5, rfl⟩⟩
theorem rel_nil_sl {I : Nat → Nat → Option Value} {φ : List Nat} {sz : Nat} {v : Value} (h : Rel I φ .nil v) : Rel I φ (.sl 0 sz []) v := by
  cases h with
  | nil => exact .sl0
theorem rel_tup_nil {I : Nat → Nat → Option Value} {φ : List Nat} {sz : Nat} {xs : List V} {v : Value} (h : Rel I φ (.tup (.nil :: xs)) v) : Rel I φ (.tup (.sl 0 sz [] :: xs)) v := by
  cases h with
  | tup h =>
    cases hv : ‹Array Value›.toList with
    | nil => rw [hv] at h; cases h
    | cons u us =>
      refine .tup ?_
      rw [hv] at h ⊢
      cases h with
      | cons h1 h2 => exact .cons (rel_nil_sl h1) h2
end AM
end Go.Proofs.Ytmjnffjacgjfmaa
