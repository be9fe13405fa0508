/- Arguments with rules, labels and rectangles, turned to rows. -/
import Derived.Test.YtbcfoakceloenaaLaw1
import Derived.Test.YtbcfoakceloenaaWa1
import Derived.Test.YtbcfoakceloenaaGh1
import Derived.Test.YtbcfoakceloenaaKa
import Derived.JoinedCond
import Derived.Test.YtbcfoakceloenaaDa1
namespace Go.Proofs.Ytbcfoakceloenaa
set_option linter.all false
open Go.RowKit
open Go.ChangeShapes Go.WideShapes Go.Deep
namespace AM
theorem rel_len {I : Nat → Nat → Option Value} {φ : List Nat} {n sz : Nat} {cs : List V} {v : Value} (h : Rel I φ (.sl n sz cs) v) : n ≤ maxLen := by
  cases h with
  | sl _ _ _ h1 h2 => exact Nat.le_trans h1 h2
  | sl0 => exact Nat.zero_le _
theorem relL_flatM {β : Type} {I : Nat → Nat → Option Value} {φ : List Nat} {f : β → List V} {g : β → List Value} : ∀ {qs : List β}, (∀ q ∈ qs, RelL I φ (f q) (g q)) → RelL I φ (qs.flatMap f) (qs.flatMap g)
  | [], _ => .nil
  | q :: qs, h => by
    rw [List.flatMap_cons, List.flatMap_cons]
    exact RelL.append (h q (by simp)) (relL_flatM fun r hr => h r (by simp [hr]))
end AM
section
variable {H : Type} {enc : TypeId × Value → H} {P : Program} {w : World} {base : Nat} {held : Bool}
/-- An argument that is a slice, its elements by what is known of their cells. -/
theorem rel_deep {α : Type} [Inhabited α] {t e : TypeId} {v : Value} {d : DataW H} {p : List MemPlace} {encV : α → List AM.V} {sz : Nat} (pr : α → Prop) (ht : P.underlying t = some (.slice e)) (hsz : P.cellsOf e = sz) (h0 : 0 < sz) (hlen : ∀ x, (encV x).length = sz)
    (hα : ∀ n cs y, DataW.trod enc P w base (fun _ => true) held n e cs = some y → cs.length = sz → ∃ x : α, AM.RelL (AM.said w) [] (encV x) cs ∧ (∀ u ∈ cs, u.oneCell' = true) ∧ pr x)
    (hone : ∃ a l c, v = .slice a l c) (h : DataW.Trod enc P w base (fun _ => true) held t v d p) : ∃ xs : List α, AM.Rel (AM.said w) [] (.sl xs.length sz (xs.flatMap encV)) v ∧ ∀ x ∈ xs, pr x := by
  obtain ⟨n, hn⟩ := h
  obtain ⟨A, L, C, rfl⟩ := hone
  rcases open_slice ht hn with ⟨h0', _⟩ | ⟨a, len, cap, m, n, D, Pl, hv, hb, hlc, hcm, hm, _, hx⟩
  · simp [Value.cells] at h0'
    obtain ⟨rfl, rfl, rfl⟩ := h0'
    exact ⟨[], .sl0, by simp⟩
  · simp [Value.cells] at hv
    obtain ⟨rfl, rfl, rfl⟩ := hv
    have hlm : L ≤ m := by rw [hm]; split <;> omega
    by_cases hC : C = 0
    · subst hC
      have : L = 0 := by omega
      subst this
      exact ⟨[], .sl0, by simp⟩
    have ha : ∃ b o, a = ⟨b, o, none⟩ := by
      obtain ⟨cs', q1, _⟩ := hx 0 (by rw [hm]; simp; omega)
      obtain ⟨_, hln, hci⟩ := World.cells?_some q1
      have := hci 0 (by rw [hsz]; exact h0)
      rw [List.getElem?_eq_getElem (by omega)] at this
      obtain ⟨_, hsp⟩ := block_of_cell (show w.cell? a = some _ by simpa [Addr.add] using this)
      obtain ⟨b, o, s⟩ := a
      cases hsp
      exact ⟨b, o, rfl⟩
    obtain ⟨b, o, rfl⟩ := ha
    haveI : Inhabited {q : α × List Value // q.2.length = sz} := ⟨⟨(default, List.replicate sz (.bool false)), by simp⟩⟩
    obtain ⟨f, hf⟩ := choose_lt (α := {q : α × List Value // q.2.length = sz}) (n := L) (p := fun i q => w.cells? base (Addr.add ⟨b, o, none⟩ (i * P.cellsOf e)) (P.cellsOf e) = some q.1.2 ∧ AM.RelL (AM.said w) [] (encV q.1.1) q.1.2 ∧ (∀ u ∈ q.1.2, u.oneCell' = true) ∧ pr q.1.1) (fun i hi => by
      obtain ⟨cs', h1, h2⟩ := hx i (by omega)
      have hcl : cs'.length = sz := by rw [← hsz]; exact (World.cells?_some h1).2.1
      obtain ⟨x, h3, h4⟩ := hα _ _ _ h2 hcl
      exact ⟨⟨(x, cs'), hcl⟩, h1, h3, h4⟩)
    let qs : List {q : α × List Value // q.2.length = sz} := (List.range L).map f
    have hq : ∀ i q, qs[i]? = some q → i < L ∧ q = f i := fun i q h => by
      have hi : i < L := by
        have := (List.getElem?_eq_some_iff.1 h).1
        simpa [qs] using this
      simp [qs, hi] at h
      exact ⟨hi, h.symm⟩
    have hql : qs.length = L := by simp [qs]
    have hmem : ∀ q ∈ qs, AM.RelL (AM.said w) [] (encV q.1.1) q.1.2 ∧ (∀ u ∈ q.1.2, u.oneCell' = true) ∧ pr q.1.1 := fun q hm => by
      obtain ⟨i, hi⟩ := List.getElem?_of_mem hm
      obtain ⟨h1, rfl⟩ := hq i q hi
      exact (hf i h1).2
    refine ⟨qs.map fun q => q.1.1, ?_, fun x hx => by
      obtain ⟨q, hm, rfl⟩ := List.mem_map.1 hx
      exact (hmem q hm).2.2⟩
    rw [List.flatMap_map, List.length_map, hql]
    refine .sl (vs := qs.flatMap fun q => q.1.2) (AM.relL_flatM fun q hm => (hmem q hm).1) (fun j u hu => ?_) ?_ hlc hcm (fun u hu => ?_)
    · obtain ⟨i, q, j', hi, hj', e'⟩ := flat_find (cells := fun q : {q : α × List Value // q.2.length = sz} => q.1.2) (sz := sz) (fun q => q.2) hu
      subst e'
      obtain ⟨h1, rfl⟩ := hq i q hi
      obtain ⟨_, hln, hci⟩ := World.cells?_some (hf i h1).1
      have hj : j' < P.cellsOf e := by
        have := (List.getElem?_eq_some_iff.1 hj').1
        rw [(f i).2] at this
        omega
      have := hci j' hj
      rw [hj', show Addr.add ⟨b, o, none⟩ (i * P.cellsOf e) = ⟨b, o + i * P.cellsOf e, none⟩ from addr_add rfl _, addr_add rfl, hsz, Nat.add_assoc] at this
      exact this
    · rw [AM.flat_len' (enc := fun q : {q : α × List Value // q.2.length = sz} => encV q.1.1) (fun q => hlen _), hql]
    · obtain ⟨q, hm2, hu2⟩ := List.mem_flatMap.1 hu
      exact (hmem q hm2).2.1 u hu2
/-- The same, by what is promised of the cells. -/
theorem trod_slice_rel {α : Type} [Inhabited α] {t e : TypeId} {cs : List Value} {y : DataW H × List MemPlace} {n : Nat} {encV : α → List AM.V} {sz : Nat} (pr : α → Prop) (ht : P.underlying t = some (.slice e)) (hsz : P.cellsOf e = sz) (h0 : 0 < sz) (hlen : ∀ x, (encV x).length = sz)
    (hα : ∀ n cs y, DataW.trod enc P w base (fun _ => true) held n e cs = some y → cs.length = sz → ∃ x : α, AM.RelL (AM.said w) [] (encV x) cs ∧ (∀ u ∈ cs, u.oneCell' = true) ∧ pr x)
    (h : DataW.trod enc P w base (fun _ => true) held n t cs = some y) : ∃ v, ∃ xs : List α, cs = [v] ∧ AM.Rel (AM.said w) [] (.sl xs.length sz (xs.flatMap encV)) v ∧ v.oneCell' = true ∧ ∀ x ∈ xs, pr x := by
  rcases open_slice ht h with ⟨rfl, _⟩ | ⟨a, len, cap, m, n', D, Pl, rfl, _⟩
  · exact ⟨_, [], rfl, .sl0, rfl, by simp⟩
  · obtain ⟨xs, hx, hp⟩ := rel_deep pr (v := .slice (some a) len cap) (d := y.1) (p := y.2) ht hsz h0 hlen hα ⟨_, _, _, rfl⟩ ⟨n, by simpa [Value.cells] using h⟩
    exact ⟨_, xs, rfl, hx, rfl, hp⟩
end
end Go.Proofs.Ytbcfoakceloenaa
namespace Go.Proofs.Ytbcfoakceloenaa
set_option linter.all false
open Go.RowKit
open Go.ChangeShapes Go.WideShapes Go.Deep
section
variable {H : Type} {enc : TypeId × Value → H} {P : Program} {w : World} {base : Nat} {held : Bool}
/-- What is read of a row, element by element. -/
def SliceD {α : Type} (pr : α → DataW H → Prop) (xs : List α) (d : DataW H) : Prop := xs = [] ∨ ∃ es sp, d = .slice es sp ∧ es.length = xs.length ∧ ∀ (i : Nat) (x : α) (e : DataW H), xs[i]? = some x → es[i]? = some e → pr x e
/-- An argument that is a slice, its elements by what is known of their cells. -/
theorem rel_deepD {α : Type} [Inhabited α] {t e : TypeId} {v : Value} {d : DataW H} {p : List MemPlace} {encV : α → List AM.V} {sz : Nat} (pr : α → DataW H → Prop) (ht : P.underlying t = some (.slice e)) (hsz : P.cellsOf e = sz) (h0 : 0 < sz) (hlen : ∀ x, (encV x).length = sz)
    (hα : ∀ n cs y, DataW.trod enc P w base (fun _ => true) held n e cs = some y → cs.length = sz → ∃ x : α, AM.RelL (AM.said w) [] (encV x) cs ∧ (∀ u ∈ cs, u.oneCell' = true) ∧ pr x y.1)
    (hone : ∃ a l c, v = .slice a l c) (h : DataW.Trod enc P w base (fun _ => true) held t v d p) : ∃ xs : List α, AM.Rel (AM.said w) [] (.sl xs.length sz (xs.flatMap encV)) v ∧ SliceD pr xs d := by
  obtain ⟨n, hn⟩ := h
  obtain ⟨A, L, C, rfl⟩ := hone
  rcases open_slice ht hn with ⟨h0', _⟩ | ⟨a, len, cap, m, n, D, Pl, hv, hb, hlc, hcm, hm, hxd, hx⟩
  · simp [Value.cells] at h0'
    obtain ⟨rfl, rfl, rfl⟩ := h0'
    exact ⟨[], .sl0, .inl rfl⟩
  · simp [Value.cells] at hv
    obtain ⟨rfl, rfl, rfl⟩ := hv
    have hlm : L ≤ m := by rw [hm]; split <;> omega
    by_cases hC : C = 0
    · subst hC
      have : L = 0 := by omega
      subst this
      exact ⟨[], .sl0, .inl rfl⟩
    have ha : ∃ b o, a = ⟨b, o, none⟩ := by
      obtain ⟨cs', q1, _⟩ := hx 0 (by rw [hm]; simp; omega)
      obtain ⟨_, hln, hci⟩ := World.cells?_some q1
      have := hci 0 (by rw [hsz]; exact h0)
      rw [List.getElem?_eq_getElem (by omega)] at this
      obtain ⟨_, hsp⟩ := block_of_cell (show w.cell? a = some _ by simpa [Addr.add] using this)
      obtain ⟨b, o, s⟩ := a
      cases hsp
      exact ⟨b, o, rfl⟩
    obtain ⟨b, o, rfl⟩ := ha
    haveI : Inhabited {q : α × List Value // q.2.length = sz} := ⟨⟨(default, List.replicate sz (.bool false)), by simp⟩⟩
    obtain ⟨f, hf⟩ := choose_lt (α := {q : α × List Value // q.2.length = sz}) (n := L) (p := fun i q => w.cells? base (Addr.add ⟨b, o, none⟩ (i * P.cellsOf e)) (P.cellsOf e) = some q.1.2 ∧ AM.RelL (AM.said w) [] (encV q.1.1) q.1.2 ∧ (∀ u ∈ q.1.2, u.oneCell' = true) ∧ pr q.1.1 (D i)) (fun i hi => by
      obtain ⟨cs', h1, h2⟩ := hx i (by omega)
      have hcl : cs'.length = sz := by rw [← hsz]; exact (World.cells?_some h1).2.1
      obtain ⟨x, h3, h4⟩ := hα _ _ _ h2 hcl
      exact ⟨⟨(x, cs'), hcl⟩, h1, h3, h4⟩)
    let qs : List {q : α × List Value // q.2.length = sz} := (List.range L).map f
    have hq : ∀ i q, qs[i]? = some q → i < L ∧ q = f i := fun i q h => by
      have hi : i < L := by
        have := (List.getElem?_eq_some_iff.1 h).1
        simpa [qs] using this
      simp [qs, hi] at h
      exact ⟨hi, h.symm⟩
    have hql : qs.length = L := by simp [qs]
    have hmem : ∀ q ∈ qs, AM.RelL (AM.said w) [] (encV q.1.1) q.1.2 ∧ (∀ u ∈ q.1.2, u.oneCell' = true) := fun q hm => by
      obtain ⟨i, hi⟩ := List.getElem?_of_mem hm
      obtain ⟨h1, rfl⟩ := hq i q hi
      exact ⟨(hf i h1).2.1, (hf i h1).2.2.1⟩
    have hd : d = .slice ((List.range L).map D) ((List.range (m - L)).map fun j => D (L + j)) := congrArg Prod.fst hxd
    refine ⟨qs.map fun q => q.1.1, ?_, .inr ⟨_, _, hd, by simp [hql], fun i x e hx he => by
      rw [List.getElem?_map] at hx
      cases hqi : qs[i]? with
      | none => rw [hqi] at hx; cases hx
      | some q =>
        rw [hqi] at hx
        obtain ⟨h1, rfl⟩ := hq i q hqi
        simp [h1] at hx he
        subst hx he
        exact (hf i h1).2.2.2⟩⟩
    rw [List.flatMap_map, List.length_map, hql]
    refine .sl (vs := qs.flatMap fun q => q.1.2) (AM.relL_flatM fun q hm => (hmem q hm).1) (fun j u hu => ?_) ?_ hlc hcm (fun u hu => ?_)
    · obtain ⟨i, q, j', hi, hj', e'⟩ := flat_find (cells := fun q : {q : α × List Value // q.2.length = sz} => q.1.2) (sz := sz) (fun q => q.2) hu
      subst e'
      obtain ⟨h1, rfl⟩ := hq i q hi
      obtain ⟨_, hln, hci⟩ := World.cells?_some (hf i h1).1
      have hj : j' < P.cellsOf e := by
        have := (List.getElem?_eq_some_iff.1 hj').1
        rw [(f i).2] at this
        omega
      have := hci j' hj
      rw [hj', show Addr.add ⟨b, o, none⟩ (i * P.cellsOf e) = ⟨b, o + i * P.cellsOf e, none⟩ from addr_add rfl _, addr_add rfl, hsz, Nat.add_assoc] at this
      exact this
    · rw [AM.flat_len' (enc := fun q : {q : α × List Value // q.2.length = sz} => encV q.1.1) (fun q => hlen _), hql]
    · obtain ⟨q, hm2, hu2⟩ := List.mem_flatMap.1 hu
      exact (hmem q hm2).2 u hu2
/-- The same, by what is promised of the cells. -/
theorem trod_slice_relD {α : Type} [Inhabited α] {t e : TypeId} {cs : List Value} {y : DataW H × List MemPlace} {n : Nat} {encV : α → List AM.V} {sz : Nat} (pr : α → DataW H → Prop) (ht : P.underlying t = some (.slice e)) (hsz : P.cellsOf e = sz) (h0 : 0 < sz) (hlen : ∀ x, (encV x).length = sz)
    (hα : ∀ n cs y, DataW.trod enc P w base (fun _ => true) held n e cs = some y → cs.length = sz → ∃ x : α, AM.RelL (AM.said w) [] (encV x) cs ∧ (∀ u ∈ cs, u.oneCell' = true) ∧ pr x y.1)
    (h : DataW.trod enc P w base (fun _ => true) held n t cs = some y) : ∃ v, ∃ xs : List α, cs = [v] ∧ AM.Rel (AM.said w) [] (.sl xs.length sz (xs.flatMap encV)) v ∧ v.oneCell' = true ∧ SliceD pr xs y.1 := by
  rcases open_slice ht h with ⟨rfl, _⟩ | ⟨a, len, cap, m, n', D, Pl, rfl, _⟩
  · exact ⟨_, [], rfl, .sl0, rfl, .inl rfl⟩
  · obtain ⟨xs, hx, hp⟩ := rel_deepD pr (v := .slice (some a) len cap) (d := y.1) (p := y.2) ht hsz h0 hlen hα ⟨_, _, _, rfl⟩ ⟨n, by simpa [Value.cells] using h⟩
    exact ⟨_, xs, rfl, hx, rfl, hp⟩
end
end Go.Proofs.Ytbcfoakceloenaa
namespace Go.Proofs.Ytbcfoakceloenaa
set_option linter.all false
open Go.RowKit Go.ChangeShapes Go.WideShapes AM
set_option maxRecDepth 100000
section
variable {H : Type} {enc : TypeId × Value → H} {w : World} {base : Nat} {held : Bool} {r : Reach} {b0 : Nat} {v : Value} {d : DataW H} {p : List MemPlace}
theorem cInt : Try.prog.cellsOf 3 = 1 := by kernel_rfl
theorem cRects : Try.prog.cellsOf 58 = 1 := by kernel_rfl
theorem re_rel {cs : List Value} {x : Re} (h : x.vals = cs) : RelL (said w) [] x.cs cs ∧ ∀ u ∈ cs, u.oneCell' = true := by
  subst h
  exact ⟨relL_sc (vs := x.vals), fun u hu => by
    simp only [Re.vals, List.mem_cons, List.not_mem_nil, or_false] at hu
    rcases hu with rfl | rfl | rfl | rfl <;> rfl⟩
theorem rectsTrod {n : Nat} {cs : List Value} {y : DataW H × List MemPlace} (h : DataW.trod enc Try.prog w base (fun _ => true) held n 58 cs = some y) : ∃ v, ∃ xs : List Re, cs = [v] ∧ Rel (said w) [] (slR xs) v ∧ v.oneCell' = true ∧ ∀ x ∈ xs, True :=
  trod_slice_rel (fun _ => True) (encV := Re.cs) (sz := 4) Try.underlying58 (by kernel_rfl) (by decide) (fun _ => rfl) (fun n cs y hy hl => by
    obtain ⟨x, hx⟩ := re_of_leaves (leaves_read 6 _ _ _ _ _ reLeaves hy)
    exact ⟨x, (re_rel (w := w) hx).1, (re_rel (w := w) hx).2, trivial⟩) h
theorem ruleTrod {n : Nat} {cs : List Value} {y : DataW H × List MemPlace} (h : DataW.trod enc Try.prog w base (fun _ => true) held n 60 cs = some y) (hl : cs.length = 7) : ∃ x : Ru, RelL (said w) [] x.cs cs ∧ (∀ u ∈ cs, u.oneCell' = true) ∧ x.boxes.length ≤ maxLen := by
  obtain ⟨xs, m, _, _, _, hlen, hf⟩ := DataW.trod_struct Try.underlying60 h
  have hlen : xs.length = 7 := hlen
  match cs, hl with
  | [c0, c1, c2, c3, c4, c5, c6], _ =>
    have g : ∀ i, i < 7 → ∃ y, xs[i]? = some y := fun i hi => ⟨_, List.getElem?_eq_getElem (by omega)⟩
    obtain ⟨y0, e0⟩ := g 0 (by decide)
    have h0 : DataW.trod enc Try.prog w base (fun _ => true) held m 3 (([c0, c1, c2, c3, c4, c5, c6].drop 0).take (Try.prog.cellsOf 3)) = some y0 := (hf 0 _ rfl).trans e0
    rw [cInt] at h0
    simp only [List.drop, List.take] at h0
    obtain ⟨y1, e1⟩ := g 1 (by decide)
    have h1 : DataW.trod enc Try.prog w base (fun _ => true) held m 3 (([c0, c1, c2, c3, c4, c5, c6].drop 1).take (Try.prog.cellsOf 3)) = some y1 := (hf 1 _ rfl).trans e1
    rw [cInt] at h1
    simp only [List.drop, List.take] at h1
    obtain ⟨y2, e2⟩ := g 2 (by decide)
    have h2 : DataW.trod enc Try.prog w base (fun _ => true) held m 3 (([c0, c1, c2, c3, c4, c5, c6].drop 2).take (Try.prog.cellsOf 3)) = some y2 := (hf 2 _ rfl).trans e2
    rw [cInt] at h2
    simp only [List.drop, List.take] at h2
    obtain ⟨y3, e3⟩ := g 3 (by decide)
    have h3 : DataW.trod enc Try.prog w base (fun _ => true) held m 3 (([c0, c1, c2, c3, c4, c5, c6].drop 3).take (Try.prog.cellsOf 3)) = some y3 := (hf 3 _ rfl).trans e3
    rw [cInt] at h3
    simp only [List.drop, List.take] at h3
    obtain ⟨y4, e4⟩ := g 4 (by decide)
    have h4 : DataW.trod enc Try.prog w base (fun _ => true) held m 3 (([c0, c1, c2, c3, c4, c5, c6].drop 4).take (Try.prog.cellsOf 3)) = some y4 := (hf 4 _ rfl).trans e4
    rw [cInt] at h4
    simp only [List.drop, List.take] at h4
    obtain ⟨y5, e5⟩ := g 5 (by decide)
    have h5 : DataW.trod enc Try.prog w base (fun _ => true) held m 58 (([c0, c1, c2, c3, c4, c5, c6].drop 5).take (Try.prog.cellsOf 58)) = some y5 := (hf 5 _ rfl).trans e5
    rw [cRects] at h5
    simp only [List.drop, List.take] at h5
    obtain ⟨y6, e6⟩ := g 6 (by decide)
    have h6 : DataW.trod enc Try.prog w base (fun _ => true) held m 3 (([c0, c1, c2, c3, c4, c5, c6].drop 6).take (Try.prog.cellsOf 3)) = some y6 := (hf 6 _ rfl).trans e6
    rw [cInt] at h6
    simp only [List.drop, List.take] at h6
    obtain ⟨z0, g0, _⟩ := DataW.trod_int Try.underlying3 h0
    obtain rfl : c0 = .int .i64 z0 := by simpa using g0
    obtain ⟨z1, g1, _⟩ := DataW.trod_int Try.underlying3 h1
    obtain rfl : c1 = .int .i64 z1 := by simpa using g1
    obtain ⟨z2, g2, _⟩ := DataW.trod_int Try.underlying3 h2
    obtain rfl : c2 = .int .i64 z2 := by simpa using g2
    obtain ⟨z3, g3, _⟩ := DataW.trod_int Try.underlying3 h3
    obtain rfl : c3 = .int .i64 z3 := by simpa using g3
    obtain ⟨z4, g4, _⟩ := DataW.trod_int Try.underlying3 h4
    obtain rfl : c4 = .int .i64 z4 := by simpa using g4
    obtain ⟨v5, bs, g5, r5, o5, _⟩ := rectsTrod h5
    obtain rfl : c5 = v5 := by simpa using g5
    obtain ⟨z6, g6, _⟩ := DataW.trod_int Try.underlying3 h6
    obtain rfl : c6 = .int .i64 z6 := by simpa using g6
    refine ⟨⟨z0, z1, z2, z3, z4, bs, z6⟩, .cons (.sc _) (.cons (.sc _) (.cons (.sc _) (.cons (.sc _) (.cons (.sc _) (.cons r5 (.cons (.sc _) .nil)))))), fun u hu => ?_, rel_len r5⟩
    simp only [List.mem_cons, List.not_mem_nil, or_false] at hu
    rcases hu with rfl | rfl | rfl | rfl | rfl | rfl | rfl <;> first | rfl | exact o5
theorem rulesArg (hv : Value.okWide Try.prog w r b0 22 v) (h : DataW.Trod enc Try.prog w base (fun _ => true) held 22 v d p) : ∃ xs : List Ru, Rel (said w) [] (slU xs) v ∧ ∀ x ∈ xs, x.boxes.length ≤ maxLen :=
  rel_deep (fun x : Ru => x.boxes.length ≤ maxLen) (encV := Ru.cs) (sz := 7) Try.underlying22 (by kernel_rfl) (by decide) (fun _ => rfl) (fun n cs y hy hl => ruleTrod hy hl) (okWide_slice Try.underlying22 hv) h
end
end Go.Proofs.Ytbcfoakceloenaa
namespace Go.Proofs.Ytbcfoakceloenaa
set_option linter.all false
open Go.RowKit Go.ChangeShapes Go.WideShapes AM
set_option maxRecDepth 100000
section
variable {H : Type} {enc : TypeId × Value → H} {w : World} {base : Nat} {held : Bool} {r : Reach} {b0 : Nat} {v : Value} {d : DataW H} {p : List MemPlace}
/-- What is read of a rule: its boxes stand in it. -/
def RuD (x : Ru) (d : DataW H) : Prop := ∃ parts e, d = .agg parts ∧ parts[5]? = some e ∧ SliceD (fun (_ : Re) (_ : DataW H) => True) x.boxes e
theorem rectsTrodD {n : Nat} {cs : List Value} {y : DataW H × List MemPlace} (h : DataW.trod enc Try.prog w base (fun _ => true) held n 58 cs = some y) : ∃ v, ∃ xs : List Re, cs = [v] ∧ Rel (said w) [] (slR xs) v ∧ v.oneCell' = true ∧ SliceD (fun (_ : Re) (_ : DataW H) => True) xs y.1 :=
  trod_slice_relD (fun _ _ => True) (encV := Re.cs) (sz := 4) Try.underlying58 (by kernel_rfl) (by decide) (fun _ => rfl) (fun n cs y hy hl => by
    obtain ⟨x, hx⟩ := re_of_leaves (leaves_read 6 _ _ _ _ _ reLeaves hy)
    exact ⟨x, (re_rel (w := w) hx).1, (re_rel (w := w) hx).2, trivial⟩) h
theorem ruleTrodD {n : Nat} {cs : List Value} {y : DataW H × List MemPlace} (h : DataW.trod enc Try.prog w base (fun _ => true) held n 60 cs = some y) (hl : cs.length = 7) : ∃ x : Ru, RelL (said w) [] x.cs cs ∧ (∀ u ∈ cs, u.oneCell' = true) ∧ x.boxes.length ≤ maxLen ∧ RuD x y.1 := by
  obtain ⟨xs, m, _, hyd, _, hlen, hf⟩ := DataW.trod_struct Try.underlying60 h
  have hlen : xs.length = 7 := hlen
  match cs, hl with
  | [c0, c1, c2, c3, c4, c5, c6], _ =>
    have g : ∀ i, i < 7 → ∃ y, xs[i]? = some y := fun i hi => ⟨_, List.getElem?_eq_getElem (by omega)⟩
    obtain ⟨y0, e0⟩ := g 0 (by decide)
    have h0 : DataW.trod enc Try.prog w base (fun _ => true) held m 3 (([c0, c1, c2, c3, c4, c5, c6].drop 0).take (Try.prog.cellsOf 3)) = some y0 := (hf 0 _ rfl).trans e0
    rw [cInt] at h0
    simp only [List.drop, List.take] at h0
    obtain ⟨y1, e1⟩ := g 1 (by decide)
    have h1 : DataW.trod enc Try.prog w base (fun _ => true) held m 3 (([c0, c1, c2, c3, c4, c5, c6].drop 1).take (Try.prog.cellsOf 3)) = some y1 := (hf 1 _ rfl).trans e1
    rw [cInt] at h1
    simp only [List.drop, List.take] at h1
    obtain ⟨y2, e2⟩ := g 2 (by decide)
    have h2 : DataW.trod enc Try.prog w base (fun _ => true) held m 3 (([c0, c1, c2, c3, c4, c5, c6].drop 2).take (Try.prog.cellsOf 3)) = some y2 := (hf 2 _ rfl).trans e2
    rw [cInt] at h2
    simp only [List.drop, List.take] at h2
    obtain ⟨y3, e3⟩ := g 3 (by decide)
    have h3 : DataW.trod enc Try.prog w base (fun _ => true) held m 3 (([c0, c1, c2, c3, c4, c5, c6].drop 3).take (Try.prog.cellsOf 3)) = some y3 := (hf 3 _ rfl).trans e3
    rw [cInt] at h3
    simp only [List.drop, List.take] at h3
    obtain ⟨y4, e4⟩ := g 4 (by decide)
    have h4 : DataW.trod enc Try.prog w base (fun _ => true) held m 3 (([c0, c1, c2, c3, c4, c5, c6].drop 4).take (Try.prog.cellsOf 3)) = some y4 := (hf 4 _ rfl).trans e4
    rw [cInt] at h4
    simp only [List.drop, List.take] at h4
    obtain ⟨y5, e5⟩ := g 5 (by decide)
    have h5 : DataW.trod enc Try.prog w base (fun _ => true) held m 58 (([c0, c1, c2, c3, c4, c5, c6].drop 5).take (Try.prog.cellsOf 58)) = some y5 := (hf 5 _ rfl).trans e5
    rw [cRects] at h5
    simp only [List.drop, List.take] at h5
    obtain ⟨y6, e6⟩ := g 6 (by decide)
    have h6 : DataW.trod enc Try.prog w base (fun _ => true) held m 3 (([c0, c1, c2, c3, c4, c5, c6].drop 6).take (Try.prog.cellsOf 3)) = some y6 := (hf 6 _ rfl).trans e6
    rw [cInt] at h6
    simp only [List.drop, List.take] at h6
    obtain ⟨z0, g0, _⟩ := DataW.trod_int Try.underlying3 h0
    obtain rfl : c0 = .int .i64 z0 := by simpa using g0
    obtain ⟨z1, g1, _⟩ := DataW.trod_int Try.underlying3 h1
    obtain rfl : c1 = .int .i64 z1 := by simpa using g1
    obtain ⟨z2, g2, _⟩ := DataW.trod_int Try.underlying3 h2
    obtain rfl : c2 = .int .i64 z2 := by simpa using g2
    obtain ⟨z3, g3, _⟩ := DataW.trod_int Try.underlying3 h3
    obtain rfl : c3 = .int .i64 z3 := by simpa using g3
    obtain ⟨z4, g4, _⟩ := DataW.trod_int Try.underlying3 h4
    obtain rfl : c4 = .int .i64 z4 := by simpa using g4
    obtain ⟨v5, bs, g5, r5, o5, d5⟩ := rectsTrodD h5
    obtain rfl : c5 = v5 := by simpa using g5
    obtain ⟨z6, g6, _⟩ := DataW.trod_int Try.underlying3 h6
    obtain rfl : c6 = .int .i64 z6 := by simpa using g6
    refine ⟨⟨z0, z1, z2, z3, z4, bs, z6⟩, .cons (.sc _) (.cons (.sc _) (.cons (.sc _) (.cons (.sc _) (.cons (.sc _) (.cons r5 (.cons (.sc _) .nil)))))), fun u hu => ?_, rel_len r5, _, y5.1, congrArg Prod.fst hyd, by rw [List.getElem?_map, e5]; rfl, d5⟩
    simp only [List.mem_cons, List.not_mem_nil, or_false] at hu
    rcases hu with rfl | rfl | rfl | rfl | rfl | rfl | rfl <;> first | rfl | exact o5
theorem rulesArgD (hv : Value.okWide Try.prog w r b0 22 v) (h : DataW.Trod enc Try.prog w base (fun _ => true) held 22 v d p) : ∃ xs : List Ru, Rel (said w) [] (slU xs) v ∧ SliceD (fun (x : Ru) (e : DataW H) => x.boxes.length ≤ maxLen ∧ RuD x e) xs d :=
  rel_deepD (fun (x : Ru) (e : DataW H) => x.boxes.length ≤ maxLen ∧ RuD x e) (encV := Ru.cs) (sz := 7) Try.underlying22 (by kernel_rfl) (by decide) (fun _ => rfl) (fun n cs y hy hl => ruleTrodD hy hl) (okWide_slice Try.underlying22 hv) h
end
end Go.Proofs.Ytbcfoakceloenaa
namespace Go.Proofs.Ytbcfoakceloenaa
set_option linter.all false
open Go.RowKit Go.ChangeShapes Go.WideShapes Go.ChangeAt AM
set_option maxRecDepth 100000
section
variable {H : Type}
theorem weightsAll_mem {P : Program} {t : TypeId} {n : Nat} : ∀ {es : List (DataW H)} {e : DataW H}, e ∈ es → n ∈ e.weights P t → n ∈ DataW.weightsAll P t es
  | [], e, h, _ => by cases h
  | x :: es, e, h, hn => by
    unfold DataW.weightsAll
    rcases List.mem_cons.1 h with rfl | h
    · exact List.mem_append_left _ hn
    · exact List.mem_append_right _ (weightsAll_mem h hn)
theorem bytesRect : Try.prog.bytesOf 37 = 32 := by kernel_rfl
theorem partTypes : (match Try.prog.underlying 60 with | some (.struct fs) => (fs.toList.map (·.type))[5]? | _ => none) = some 58 := by kernel_rfl
theorem rule_bytes {x : Ru} {e : DataW H} (h : RuD x e) (hw : ∀ n ∈ e.weights Try.prog 60, n ≤ reachBytes) : x.boxes.length ≤ 4398046511104 := by
  obtain ⟨parts, e5, rfl, hp, hs⟩ := h
  rcases hs with h0 | ⟨es, sp, rfl, hl, _⟩
  · rw [h0]; simp
  · have hu := Try.underlying60
    have ht := partTypes
    rw [hu] at ht
    have hm := DataW.weights_mem_each (P := Try.prog) ht hp ((es.length + sp.length) * Try.prog.bytesOf 37) (by simp [DataW.weights, Try.underlying58])
    have := hw _ (by unfold DataW.weights; rw [hu]; exact hm)
    rw [bytesRect] at this
    unfold reachBytes at this
    omega
theorem rules_bytes {xs : List Ru} {d : DataW H} (h : SliceD (fun (x : Ru) (e : DataW H) => x.boxes.length ≤ maxLen ∧ RuD x e) xs d) (hw : ∀ n ∈ d.weights Try.prog 22, n ≤ reachBytes) : ∀ x ∈ xs, x.boxes.length ≤ 4398046511104 := by
  rcases h with rfl | ⟨es, sp, rfl, hl, hx⟩
  · simp
  · intro x hm
    obtain ⟨i, hi⟩ := List.getElem?_of_mem hm
    have hil : i < es.length := by rw [hl]; exact (List.getElem?_eq_some_iff.1 hi).1
    have he := List.getElem?_eq_getElem hil
    refine rule_bytes (hx i x _ hi he).2 fun n hn => hw n ?_
    unfold DataW.weights
    rw [Try.underlying22]
    exact List.mem_cons_of_mem _ (List.mem_append_left _ (weightsAll_mem (List.getElem_mem hil) hn))
/-! ## Bulk -/
theorem bulk_one (d : DataW H) : 1 ≤ Rows.uptoBulk d := by
  cases d with
  | lit l => cases l <;> simp [Rows.uptoBulk]
  | _ => simp [Rows.uptoBulk]
theorem bulk_part {d : DataW H} {l : List (DataW H)} (h : d ∈ l) : Rows.uptoBulk d ≤ Rows.uptoBulkAll l := by
  induction l with
  | nil => cases h
  | cons x r ih =>
    simp only [Rows.uptoBulkAll]
    rcases List.mem_cons.1 h with e | e
    · subst e; omega
    · have := ih e; omega
theorem bulk_len (l : List (DataW H)) : l.length ≤ Rows.uptoBulkAll l := by
  induction l with
  | nil => simp [Rows.uptoBulkAll]
  | cons x r ih =>
    have := bulk_one x
    simp only [Rows.uptoBulkAll, List.length_cons]
    omega
theorem rule_bulk {x : Ru} {e : DataW H} (h : RuD x e) : x.boxes.length ≤ Rows.uptoBulk e := by
  obtain ⟨parts, e5, rfl, hp, hs⟩ := h
  have h1 := bulk_part (List.mem_of_getElem? hp)
  rcases hs with h0 | ⟨es, sp, rfl, hl, _⟩
  · rw [h0]; simp
  · have h2 := bulk_len es
    simp only [Rows.uptoBulk] at h1 ⊢
    omega
theorem rules_bulk {xs : List Ru} {d : DataW H} (h : SliceD (fun (x : Ru) (e : DataW H) => x.boxes.length ≤ maxLen ∧ RuD x e) xs d) : (boxesU xs).length ≤ Rows.uptoBulk d := by
  rcases h with rfl | ⟨es, sp, rfl, hl, hx⟩
  · simp [boxesU]
  · have go : ∀ (xs : List Ru) (es : List (DataW H)), es.length = xs.length → (∀ (i : Nat) (x : Ru) (e : DataW H), xs[i]? = some x → es[i]? = some e → x.boxes.length ≤ maxLen ∧ RuD x e) → (boxesU xs).length ≤ Rows.uptoBulkAll es := by
      intro xs
      induction xs with
      | nil => intro es _ _; simp [boxesU]
      | cons x xs ih =>
        intro es hl hx
        cases es with
        | nil => simp at hl
        | cons e es =>
          have h1 := ih es (by simpa using hl) fun i x e h1 h2 => hx (i + 1) x e (by simpa using h1) (by simpa using h2)
          have h2 := rule_bulk (hx 0 x e rfl rfl).2
          have e1 : boxesU (x :: xs) = x.boxes ++ boxesU xs := by simp [boxesU]
          rw [e1, List.length_append]
          simp only [Rows.uptoBulkAll]
          omega
    have h1 := go xs es hl hx
    simp only [Rows.uptoBulk]
    omega
theorem rules_len {xs : List Ru} {d : DataW H} (h : SliceD (fun (x : Ru) (e : DataW H) => x.boxes.length ≤ maxLen ∧ RuD x e) xs d) : xs.length ≤ Rows.uptoBulk d := by
  rcases h with rfl | ⟨es, sp, rfl, hl, hx⟩
  · simp
  · have := bulk_len es
    simp only [Rows.uptoBulk]
    omega
theorem bulk_bound {ds : List (DataW H)} (hk : Rows.uptoSmall H ds = true) : Rows.uptoBulkAll ds ≤ 1048576 := of_decide_eq_true hk
theorem weights_each_mem {P : Program} {t : TypeId} {ts : List TypeId} {d : DataW H} {ds : List (DataW H)} (h : (DataW.weightsEach P (t :: ts) (d :: ds)).all (· ≤ reachBytes) = true) : ∀ n ∈ d.weights P t, n ≤ reachBytes := fun n hn => by
  have := List.all_eq_true.1 h n (by unfold DataW.weightsEach; exact List.mem_append_left _ hn)
  simpa using this
end
set_option maxRecDepth 100000 in
/-- The law's second row, out of its walk. -/
theorem law_upto {f : FuncId} {fn : Func} {s : ChangeSpec} (hfn : Try.prog.funcs[f]? = some fn) (noInit : Try.prog.inits.idxOf? f = none) (hvars : s.vars = []) (hres : fn.resultTypes = #[4])
    (hts : ∀ t ∈ fn.params.toList, Try.prog.readableRec t = true ∧ t < Try.prog.types.size) (hs : ∀ (H : Type) (ds : List (DataW H)), ds.length = fn.params.toList.length → s.fn H ds = { results := [.lit (.bool true)], args := ds })
    (os : Os) (started : os.Started) (H : Type) (enc : TypeId × Value → H) (F : Stop.Interp)
    (witness : ∃ (w : World) (tape : Tape) (i : Input), w.os = os ∧ (w.forCall tape i).Shaped Try.prog ∧ i.vars = [] ∧ Input.okWide Try.prog (w.forCall tape i) .any w.heap.size f i ∧
      (Rows.OpenSpec.upto s).pre6 enc Try.prog fn [] false (w.forCall tape i).memory i.args ∧ ({} : Assume).holds Try.prog (lone (Frame.enter Try.prog f i.args .normal) [] (w.forCall tape i)))
    (walk : ∀ (W : World) (base : Nat) (args : Array Value) (ds : List (DataW H)) (p : List MemPlace), (∀ (j : Nat) t v, fn.params[j]? = some t → args[j]? = some v → Value.okWide Try.prog W .any base t v) →
      DataW.TrodAll enc Try.prog W 0 (fun _ => true) true fn.params.toList args.toList ds p → Rows.uptoSmall H ds = true → Calls Try.prog f args W (Yes W)) :
    ReturnsInHanded {} Try.checked os f .any ((Rows.OpenSpec.upto s).pre6 enc Try.prog fn [] false) (((Rows.OpenSpec.upto s).at F).post enc Try.prog fn false true false false) := by
  refine returnsInHanded_of_cond (C := Try.checked) (s := Rows.OpenSpec.upto s) (k := Rows.uptoSmall) rfl own started noInit hfn witness ?_
  intro W base args ds gs before hval hW _ hk _
  have hW : DataW.Whole enc Try.prog fn.params.toList s.vars false W args.toList ds gs before := hW
  have hW' := hW
  obtain ⟨p, q, hA, hV, rfl, hfz, hnd⟩ := hW
  have hA' : DataW.TrodAll enc Try.prog W 0 (fun _ => true) true fn.params.toList args.toList ds p := hA
  obtain ⟨rfl, rfl⟩ : gs = [] ∧ q = [] := by
    rw [hvars] at hV
    exact trodVars_none hV
  rw [List.append_nil] at hk
  refine (walk W base args ds p hval hA' hk).mono fun e W' ⟨he, hb⟩ => ?_
  subst he
  have hlen : ds.length = fn.params.toList.length := trod_len hA'
  have hfn' : s.fn H (ds ++ []) = { results := [.lit (.bool true)], args := ds } := by rw [List.append_nil]; exact hs H ds hlen
  have hlt : ∀ x ∈ p, x.block < W.heap.size := fun x hx => hW'.lt x (by simpa using hx)
  have hp : s.post enc Try.prog fn false true false false W args (.bool true) W' := by
    refine post_of_below (pa := p) (pv := []) hW' (fun b sp hd => ?_) (fun sp hsp => ?_) (fun sp _ => ?_) (by simp) hb ?_
    · rw [hfn', hres]
      exact trodAll_cons_mk (shut_bool Try.underlying4 _) trodAll_mk0
    · rw [hfn']
      exact args_stay laidOut hb hts hA' hlt (fun x hx => hsp x (by simpa using hx))
    · rw [hvars, hfn']
      rfl
    · exact ok_one hres rfl (okWide_bool_mk Try.underlying4 _)
  exact ⟨_, rfl, hp⟩
end Go.Proofs.Ytbcfoakceloenaa
namespace Go.Proofs.Ytbcfoakceloenaa
set_option linter.all false
open Go.RowKit Go.ChangeShapes Go.WideShapes AM
set_option maxRecDepth 100000
theorem weights_tail {H : Type} {P : Program} {t : TypeId} {ts : List TypeId} {d : DataW H} {ds : List (DataW H)} (h : (DataW.weightsEach P (t :: ts) (d :: ds)).all (· ≤ reachBytes) = true) : (DataW.weightsEach P ts ds).all (· ≤ reachBytes) = true := by
  refine List.all_eq_true.2 fun n hn => List.all_eq_true.1 h n ?_
  unfold DataW.weightsEach
  exact List.mem_append_right _ hn
section
variable {H : Type} {enc : TypeId × Value → H} {w : World} {base : Nat} {held : Bool} {r : Reach} {b0 : Nat} {v : Value} {d : DataW H} {p : List MemPlace}
def Wo.vals (x : Wo) : List Value := [.int .i64 x.ro, .int .i64 x.ti, .int .i64 x.la]
theorem woLeaves : leavesOf Try.prog 6 24 = some [.int .i64, .int .i64, .int .i64] := by kernel_rfl
theorem wo_of_leaves {cs : List Value} (h : Leaf.all [.int .i64, .int .i64, .int .i64] cs) : ∃ x : Wo, x.vals = cs := by
  obtain ⟨a, _, rfl, _, h⟩ := Leaf.int_cons h
  obtain ⟨b, _, rfl, _, h⟩ := Leaf.int_cons h
  obtain ⟨c, _, rfl, _, h⟩ := Leaf.int_cons h
  obtain rfl := Leaf.all_nil h
  exact ⟨⟨a, b, c⟩, rfl⟩
theorem woArg (hv : Value.okWide Try.prog w r b0 24 v) (h : DataW.Trod enc Try.prog w base (fun _ => true) held 24 v d p) : ∃ x : Wo, Rel (said w) [] x.v v := by
  obtain ⟨cs, rfl, hc⟩ := plain_val Try.underlying24 woLeaves hv h
  obtain ⟨x, rfl⟩ := wo_of_leaves hc
  exact ⟨x, .agg (relL_sc (vs := x.vals))⟩
end
theorem rel_ulen {I : Nat → Nat → Option Value} {φ : List Nat} {l : List Ru} {v : Value} (h : Rel I φ (slU l) v) : l.length ≤ 9223372036854775807 := by
  have := rel_len h
  unfold maxLen at this
  omega
end Go.Proofs.Ytbcfoakceloenaa
