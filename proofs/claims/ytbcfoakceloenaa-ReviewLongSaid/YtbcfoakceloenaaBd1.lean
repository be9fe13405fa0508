/- Arguments that are rows of elements which hold rows themselves. Plain lemmas, over any program. -/
import Derived.Test.YtbcfoakceloenaaAs
namespace Go.Proofs.Ytbcfoakceloenaa
set_option linter.all false
open Go.RowKit
open Go.ChangeShapes Go.WideShapes Go.Deep
namespace AM
theorem rel_len {I : Nat → Nat → Option Value} {φ : List Nat} {n sz : Nat} {cs : List V} {v : Value} (h : Rel I φ (.sl n sz cs) v) : n ≤ maxLen := by
  cases h with
  | sl _ _ _ h1 h2 => exact Nat.le_trans h1 h2
  | sl0 => exact Nat.zero_le _
theorem relL_flatM {β : Type} {I : Nat → Nat → Option Value} {φ : List Nat} {f : β → List V} {g : β → List Value} : ∀ {qs : List β}, (∀ q ∈ qs, RelL I φ (f q) (g q)) → RelL I φ (qs.flatMap f) (qs.flatMap g)
  | [], _ => .nil
  | q :: qs, h => by
    rw [List.flatMap_cons, List.flatMap_cons]
    exact RelL.append (h q (by simp)) (relL_flatM fun r hr => h r (by simp [hr]))
end AM
section
variable {H : Type} {enc : TypeId × Value → H} {P : Program} {w : World} {base : Nat} {held : Bool}
/-- An argument that is a slice, its elements by what is known of their cells. -/
theorem rel_deep {α : Type} [Inhabited α] {t e : TypeId} {v : Value} {d : DataW H} {p : List MemPlace} {encV : α → List AM.V} {sz : Nat} (pr : α → Prop) (ht : P.underlying t = some (.slice e)) (hsz : P.cellsOf e = sz) (h0 : 0 < sz) (hlen : ∀ x, (encV x).length = sz)
    (hα : ∀ n cs y, DataW.trod enc P w base (fun _ => true) held n e cs = some y → cs.length = sz → ∃ x : α, AM.RelL (AM.said w) [] (encV x) cs ∧ (∀ u ∈ cs, u.oneCell' = true) ∧ pr x)
    (hone : ∃ a l c, v = .slice a l c) (h : DataW.Trod enc P w base (fun _ => true) held t v d p) : ∃ xs : List α, AM.Rel (AM.said w) [] (.sl xs.length sz (xs.flatMap encV)) v ∧ ∀ x ∈ xs, pr x := by
  obtain ⟨n, hn⟩ := h
  obtain ⟨A, L, C, rfl⟩ := hone
  rcases open_slice ht hn with ⟨h0', _⟩ | ⟨a, len, cap, m, n, D, Pl, hv, hb, hlc, hcm, hm, _, hx⟩
  · simp [Value.cells] at h0'
    obtain ⟨rfl, rfl, rfl⟩ := h0'
    exact ⟨[], .sl0, by simp⟩
  · simp [Value.cells] at hv
    obtain ⟨rfl, rfl, rfl⟩ := hv
    have hlm : L ≤ m := by rw [hm]; split <;> omega
    by_cases hC : C = 0
    · subst hC
      have : L = 0 := by omega
      subst this
      exact ⟨[], .sl0, by simp⟩
    have ha : ∃ b o, a = ⟨b, o, none⟩ := by
      obtain ⟨cs', q1, _⟩ := hx 0 (by rw [hm]; simp; omega)
      obtain ⟨_, hln, hci⟩ := World.cells?_some q1
      have := hci 0 (by rw [hsz]; exact h0)
      rw [List.getElem?_eq_getElem (by omega)] at this
      obtain ⟨_, hsp⟩ := block_of_cell (show w.cell? a = some _ by simpa [Addr.add] using this)
      obtain ⟨b, o, s⟩ := a
      cases hsp
      exact ⟨b, o, rfl⟩
    obtain ⟨b, o, rfl⟩ := ha
    haveI : Inhabited {q : α × List Value // q.2.length = sz} := ⟨⟨(default, List.replicate sz (.bool false)), by simp⟩⟩
    obtain ⟨f, hf⟩ := choose_lt (α := {q : α × List Value // q.2.length = sz}) (n := L) (p := fun i q => w.cells? base (Addr.add ⟨b, o, none⟩ (i * P.cellsOf e)) (P.cellsOf e) = some q.1.2 ∧ AM.RelL (AM.said w) [] (encV q.1.1) q.1.2 ∧ (∀ u ∈ q.1.2, u.oneCell' = true) ∧ pr q.1.1) (fun i hi => by
      obtain ⟨cs', h1, h2⟩ := hx i (by omega)
      have hcl : cs'.length = sz := by rw [← hsz]; exact (World.cells?_some h1).2.1
      obtain ⟨x, h3, h4⟩ := hα _ _ _ h2 hcl
      exact ⟨⟨(x, cs'), hcl⟩, h1, h3, h4⟩)
    let qs : List {q : α × List Value // q.2.length = sz} := (List.range L).map f
    have hq : ∀ i q, qs[i]? = some q → i < L ∧ q = f i := fun i q h => by
      have hi : i < L := by
        have := (List.getElem?_eq_some_iff.1 h).1
        simpa [qs] using this
      simp [qs, hi] at h
      exact ⟨hi, h.symm⟩
    have hql : qs.length = L := by simp [qs]
    have hmem : ∀ q ∈ qs, AM.RelL (AM.said w) [] (encV q.1.1) q.1.2 ∧ (∀ u ∈ q.1.2, u.oneCell' = true) ∧ pr q.1.1 := fun q hm => by
      obtain ⟨i, hi⟩ := List.getElem?_of_mem hm
      obtain ⟨h1, rfl⟩ := hq i q hi
      exact (hf i h1).2
    refine ⟨qs.map fun q => q.1.1, ?_, fun x hx => by
      obtain ⟨q, hm, rfl⟩ := List.mem_map.1 hx
      exact (hmem q hm).2.2⟩
    rw [List.flatMap_map, List.length_map, hql]
    refine .sl (vs := qs.flatMap fun q => q.1.2) (AM.relL_flatM fun q hm => (hmem q hm).1) (fun j u hu => ?_) ?_ hlc hcm (fun u hu => ?_)
    · obtain ⟨i, q, j', hi, hj', e'⟩ := flat_find (cells := fun q : {q : α × List Value // q.2.length = sz} => q.1.2) (sz := sz) (fun q => q.2) hu
      subst e'
      obtain ⟨h1, rfl⟩ := hq i q hi
      obtain ⟨_, hln, hci⟩ := World.cells?_some (hf i h1).1
      have hj : j' < P.cellsOf e := by
        have := (List.getElem?_eq_some_iff.1 hj').1
        rw [(f i).2] at this
        omega
      have := hci j' hj
      rw [hj', show Addr.add ⟨b, o, none⟩ (i * P.cellsOf e) = ⟨b, o + i * P.cellsOf e, none⟩ from addr_add rfl _, addr_add rfl, hsz, Nat.add_assoc] at this
      exact this
    · rw [AM.flat_len' (enc := fun q : {q : α × List Value // q.2.length = sz} => encV q.1.1) (fun q => hlen _), hql]
    · obtain ⟨q, hm2, hu2⟩ := List.mem_flatMap.1 hu
      exact (hmem q hm2).2.1 u hu2
/-- The same, by what is promised of the cells. -/
theorem trod_slice_rel {α : Type} [Inhabited α] {t e : TypeId} {cs : List Value} {y : DataW H × List MemPlace} {n : Nat} {encV : α → List AM.V} {sz : Nat} (pr : α → Prop) (ht : P.underlying t = some (.slice e)) (hsz : P.cellsOf e = sz) (h0 : 0 < sz) (hlen : ∀ x, (encV x).length = sz)
    (hα : ∀ n cs y, DataW.trod enc P w base (fun _ => true) held n e cs = some y → cs.length = sz → ∃ x : α, AM.RelL (AM.said w) [] (encV x) cs ∧ (∀ u ∈ cs, u.oneCell' = true) ∧ pr x)
    (h : DataW.trod enc P w base (fun _ => true) held n t cs = some y) : ∃ v, ∃ xs : List α, cs = [v] ∧ AM.Rel (AM.said w) [] (.sl xs.length sz (xs.flatMap encV)) v ∧ v.oneCell' = true ∧ ∀ x ∈ xs, pr x := by
  rcases open_slice ht h with ⟨rfl, _⟩ | ⟨a, len, cap, m, n', D, Pl, rfl, _⟩
  · exact ⟨_, [], rfl, .sl0, rfl, by simp⟩
  · obtain ⟨xs, hx, hp⟩ := rel_deep pr (v := .slice (some a) len cap) (d := y.1) (p := y.2) ht hsz h0 hlen hα ⟨_, _, _, rfl⟩ ⟨n, by simpa [Value.cells] using h⟩
    exact ⟨_, xs, rfl, hx, rfl, hp⟩
end
end Go.Proofs.Ytbcfoakceloenaa
namespace Go.Proofs.Ytbcfoakceloenaa
set_option linter.all false
open Go.RowKit
open Go.ChangeShapes Go.WideShapes Go.Deep
section
variable {H : Type} {enc : TypeId × Value → H} {P : Program} {w : World} {base : Nat} {held : Bool}
/-- What is read of a row, element by element. -/
def SliceD {α : Type} (pr : α → DataW H → Prop) (xs : List α) (d : DataW H) : Prop := xs = [] ∨ ∃ es sp, d = .slice es sp ∧ es.length = xs.length ∧ ∀ (i : Nat) (x : α) (e : DataW H), xs[i]? = some x → es[i]? = some e → pr x e
/-- An argument that is a slice, its elements by what is known of their cells. -/
theorem rel_deepD {α : Type} [Inhabited α] {t e : TypeId} {v : Value} {d : DataW H} {p : List MemPlace} {encV : α → List AM.V} {sz : Nat} (pr : α → DataW H → Prop) (ht : P.underlying t = some (.slice e)) (hsz : P.cellsOf e = sz) (h0 : 0 < sz) (hlen : ∀ x, (encV x).length = sz)
    (hα : ∀ n cs y, DataW.trod enc P w base (fun _ => true) held n e cs = some y → cs.length = sz → ∃ x : α, AM.RelL (AM.said w) [] (encV x) cs ∧ (∀ u ∈ cs, u.oneCell' = true) ∧ pr x y.1)
    (hone : ∃ a l c, v = .slice a l c) (h : DataW.Trod enc P w base (fun _ => true) held t v d p) : ∃ xs : List α, AM.Rel (AM.said w) [] (.sl xs.length sz (xs.flatMap encV)) v ∧ SliceD pr xs d := by
  obtain ⟨n, hn⟩ := h
  obtain ⟨A, L, C, rfl⟩ := hone
  rcases open_slice ht hn with ⟨h0', _⟩ | ⟨a, len, cap, m, n, D, Pl, hv, hb, hlc, hcm, hm, hxd, hx⟩
  · simp [Value.cells] at h0'
    obtain ⟨rfl, rfl, rfl⟩ := h0'
    exact ⟨[], .sl0, .inl rfl⟩
  · simp [Value.cells] at hv
    obtain ⟨rfl, rfl, rfl⟩ := hv
    have hlm : L ≤ m := by rw [hm]; split <;> omega
    by_cases hC : C = 0
    · subst hC
      have : L = 0 := by omega
      subst this
      exact ⟨[], .sl0, .inl rfl⟩
    have ha : ∃ b o, a = ⟨b, o, none⟩ := by
      obtain ⟨cs', q1, _⟩ := hx 0 (by rw [hm]; simp; omega)
      obtain ⟨_, hln, hci⟩ := World.cells?_some q1
      have := hci 0 (by rw [hsz]; exact h0)
      rw [List.getElem?_eq_getElem (by omega)] at this
      obtain ⟨_, hsp⟩ := block_of_cell (show w.cell? a = some _ by simpa [Addr.add] using this)
      obtain ⟨b, o, s⟩ := a
      cases hsp
      exact ⟨b, o, rfl⟩
    obtain ⟨b, o, rfl⟩ := ha
    haveI : Inhabited {q : α × List Value // q.2.length = sz} := ⟨⟨(default, List.replicate sz (.bool false)), by simp⟩⟩
    obtain ⟨f, hf⟩ := choose_lt (α := {q : α × List Value // q.2.length = sz}) (n := L) (p := fun i q => w.cells? base (Addr.add ⟨b, o, none⟩ (i * P.cellsOf e)) (P.cellsOf e) = some q.1.2 ∧ AM.RelL (AM.said w) [] (encV q.1.1) q.1.2 ∧ (∀ u ∈ q.1.2, u.oneCell' = true) ∧ pr q.1.1 (D i)) (fun i hi => by
      obtain ⟨cs', h1, h2⟩ := hx i (by omega)
      have hcl : cs'.length = sz := by rw [← hsz]; exact (World.cells?_some h1).2.1
      obtain ⟨x, h3, h4⟩ := hα _ _ _ h2 hcl
      exact ⟨⟨(x, cs'), hcl⟩, h1, h3, h4⟩)
    let qs : List {q : α × List Value // q.2.length = sz} := (List.range L).map f
    have hq : ∀ i q, qs[i]? = some q → i < L ∧ q = f i := fun i q h => by
      have hi : i < L := by
        have := (List.getElem?_eq_some_iff.1 h).1
        simpa [qs] using this
      simp [qs, hi] at h
      exact ⟨hi, h.symm⟩
    have hql : qs.length = L := by simp [qs]
    have hmem : ∀ q ∈ qs, AM.RelL (AM.said w) [] (encV q.1.1) q.1.2 ∧ (∀ u ∈ q.1.2, u.oneCell' = true) := fun q hm => by
      obtain ⟨i, hi⟩ := List.getElem?_of_mem hm
      obtain ⟨h1, rfl⟩ := hq i q hi
      exact ⟨(hf i h1).2.1, (hf i h1).2.2.1⟩
    have hd : d = .slice ((List.range L).map D) ((List.range (m - L)).map fun j => D (L + j)) := congrArg Prod.fst hxd
    refine ⟨qs.map fun q => q.1.1, ?_, .inr ⟨_, _, hd, by simp [hql], fun i x e hx he => by
      rw [List.getElem?_map] at hx
      cases hqi : qs[i]? with
      | none => rw [hqi] at hx; cases hx
      | some q =>
        rw [hqi] at hx
        obtain ⟨h1, rfl⟩ := hq i q hqi
        simp [h1] at hx he
        subst hx he
        exact (hf i h1).2.2.2⟩⟩
    rw [List.flatMap_map, List.length_map, hql]
    refine .sl (vs := qs.flatMap fun q => q.1.2) (AM.relL_flatM fun q hm => (hmem q hm).1) (fun j u hu => ?_) ?_ hlc hcm (fun u hu => ?_)
    · obtain ⟨i, q, j', hi, hj', e'⟩ := flat_find (cells := fun q : {q : α × List Value // q.2.length = sz} => q.1.2) (sz := sz) (fun q => q.2) hu
      subst e'
      obtain ⟨h1, rfl⟩ := hq i q hi
      obtain ⟨_, hln, hci⟩ := World.cells?_some (hf i h1).1
      have hj : j' < P.cellsOf e := by
        have := (List.getElem?_eq_some_iff.1 hj').1
        rw [(f i).2] at this
        omega
      have := hci j' hj
      rw [hj', show Addr.add ⟨b, o, none⟩ (i * P.cellsOf e) = ⟨b, o + i * P.cellsOf e, none⟩ from addr_add rfl _, addr_add rfl, hsz, Nat.add_assoc] at this
      exact this
    · rw [AM.flat_len' (enc := fun q : {q : α × List Value // q.2.length = sz} => encV q.1.1) (fun q => hlen _), hql]
    · obtain ⟨q, hm2, hu2⟩ := List.mem_flatMap.1 hu
      exact (hmem q hm2).2 u hu2
/-- The same, by what is promised of the cells. -/
theorem trod_slice_relD {α : Type} [Inhabited α] {t e : TypeId} {cs : List Value} {y : DataW H × List MemPlace} {n : Nat} {encV : α → List AM.V} {sz : Nat} (pr : α → DataW H → Prop) (ht : P.underlying t = some (.slice e)) (hsz : P.cellsOf e = sz) (h0 : 0 < sz) (hlen : ∀ x, (encV x).length = sz)
    (hα : ∀ n cs y, DataW.trod enc P w base (fun _ => true) held n e cs = some y → cs.length = sz → ∃ x : α, AM.RelL (AM.said w) [] (encV x) cs ∧ (∀ u ∈ cs, u.oneCell' = true) ∧ pr x y.1)
    (h : DataW.trod enc P w base (fun _ => true) held n t cs = some y) : ∃ v, ∃ xs : List α, cs = [v] ∧ AM.Rel (AM.said w) [] (.sl xs.length sz (xs.flatMap encV)) v ∧ v.oneCell' = true ∧ SliceD pr xs y.1 := by
  rcases open_slice ht h with ⟨rfl, _⟩ | ⟨a, len, cap, m, n', D, Pl, rfl, _⟩
  · exact ⟨_, [], rfl, .sl0, rfl, .inl rfl⟩
  · obtain ⟨xs, hx, hp⟩ := rel_deepD pr (v := .slice (some a) len cap) (d := y.1) (p := y.2) ht hsz h0 hlen hα ⟨_, _, _, rfl⟩ ⟨n, by simpa [Value.cells] using h⟩
    exact ⟨_, xs, rfl, hx, rfl, hp⟩
end
end Go.Proofs.Ytbcfoakceloenaa
