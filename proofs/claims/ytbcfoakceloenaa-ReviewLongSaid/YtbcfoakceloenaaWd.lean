/- Arguments of the laws: rules, and rows of them. -/
import Derived.Test.YtbcfoakceloenaaWa1
import Derived.Test.YtbcfoakceloenaaGh1
import Derived.Test.YtbcfoakceloenaaBd1
namespace Go.Proofs.Ytbcfoakceloenaa
set_option linter.all false
open Go.RowKit Go.ChangeShapes Go.WideShapes AM
set_option maxRecDepth 100000
section
variable {H : Type} {enc : TypeId × Value → H} {w : World} {base : Nat} {held : Bool} {r : Reach} {b0 : Nat} {v : Value} {d : DataW H} {p : List MemPlace}
theorem cInt : Try.prog.cellsOf 3 = 1 := by kernel_rfl
theorem cRects : Try.prog.cellsOf 58 = 1 := by kernel_rfl
theorem re_rel {cs : List Value} {x : Re} (h : x.vals = cs) : RelL (said w) [] x.cs cs ∧ ∀ u ∈ cs, u.oneCell' = true := by
  subst h
  exact ⟨relL_sc (vs := x.vals), fun u hu => by
    simp only [Re.vals, List.mem_cons, List.not_mem_nil, or_false] at hu
    rcases hu with rfl | rfl | rfl | rfl <;> rfl⟩
theorem rectsTrod {n : Nat} {cs : List Value} {y : DataW H × List MemPlace} (h : DataW.trod enc Try.prog w base (fun _ => true) held n 58 cs = some y) : ∃ v, ∃ xs : List Re, cs = [v] ∧ Rel (said w) [] (slR xs) v ∧ v.oneCell' = true ∧ ∀ x ∈ xs, True :=
  trod_slice_rel (fun _ => True) (encV := Re.cs) (sz := 4) Try.underlying58 (by kernel_rfl) (by decide) (fun _ => rfl) (fun n cs y hy hl => by
    obtain ⟨x, hx⟩ := re_of_leaves (leaves_read 6 _ _ _ _ _ reLeaves hy)
    exact ⟨x, (re_rel (w := w) hx).1, (re_rel (w := w) hx).2, trivial⟩) h
theorem ruleTrod {n : Nat} {cs : List Value} {y : DataW H × List MemPlace} (h : DataW.trod enc Try.prog w base (fun _ => true) held n 60 cs = some y) (hl : cs.length = 7) : ∃ x : Ru, RelL (said w) [] x.cs cs ∧ (∀ u ∈ cs, u.oneCell' = true) ∧ x.boxes.length ≤ maxLen := by
  obtain ⟨xs, m, _, _, _, hlen, hf⟩ := DataW.trod_struct Try.underlying60 h
  have hlen : xs.length = 7 := hlen
  match cs, hl with
  | [c0, c1, c2, c3, c4, c5, c6], _ =>
    have g : ∀ i, i < 7 → ∃ y, xs[i]? = some y := fun i hi => ⟨_, List.getElem?_eq_getElem (by omega)⟩
    obtain ⟨y0, e0⟩ := g 0 (by decide)
    have h0 : DataW.trod enc Try.prog w base (fun _ => true) held m 3 (([c0, c1, c2, c3, c4, c5, c6].drop 0).take (Try.prog.cellsOf 3)) = some y0 := (hf 0 _ rfl).trans e0
    rw [cInt] at h0
    simp only [List.drop, List.take] at h0
    obtain ⟨y1, e1⟩ := g 1 (by decide)
    have h1 : DataW.trod enc Try.prog w base (fun _ => true) held m 3 (([c0, c1, c2, c3, c4, c5, c6].drop 1).take (Try.prog.cellsOf 3)) = some y1 := (hf 1 _ rfl).trans e1
    rw [cInt] at h1
    simp only [List.drop, List.take] at h1
    obtain ⟨y2, e2⟩ := g 2 (by decide)
    have h2 : DataW.trod enc Try.prog w base (fun _ => true) held m 3 (([c0, c1, c2, c3, c4, c5, c6].drop 2).take (Try.prog.cellsOf 3)) = some y2 := (hf 2 _ rfl).trans e2
    rw [cInt] at h2
    simp only [List.drop, List.take] at h2
    obtain ⟨y3, e3⟩ := g 3 (by decide)
    have h3 : DataW.trod enc Try.prog w base (fun _ => true) held m 3 (([c0, c1, c2, c3, c4, c5, c6].drop 3).take (Try.prog.cellsOf 3)) = some y3 := (hf 3 _ rfl).trans e3
    rw [cInt] at h3
    simp only [List.drop, List.take] at h3
    obtain ⟨y4, e4⟩ := g 4 (by decide)
    have h4 : DataW.trod enc Try.prog w base (fun _ => true) held m 3 (([c0, c1, c2, c3, c4, c5, c6].drop 4).take (Try.prog.cellsOf 3)) = some y4 := (hf 4 _ rfl).trans e4
    rw [cInt] at h4
    simp only [List.drop, List.take] at h4
    obtain ⟨y5, e5⟩ := g 5 (by decide)
    have h5 : DataW.trod enc Try.prog w base (fun _ => true) held m 58 (([c0, c1, c2, c3, c4, c5, c6].drop 5).take (Try.prog.cellsOf 58)) = some y5 := (hf 5 _ rfl).trans e5
    rw [cRects] at h5
    simp only [List.drop, List.take] at h5
    obtain ⟨y6, e6⟩ := g 6 (by decide)
    have h6 : DataW.trod enc Try.prog w base (fun _ => true) held m 3 (([c0, c1, c2, c3, c4, c5, c6].drop 6).take (Try.prog.cellsOf 3)) = some y6 := (hf 6 _ rfl).trans e6
    rw [cInt] at h6
    simp only [List.drop, List.take] at h6
    obtain ⟨z0, g0, _⟩ := DataW.trod_int Try.underlying3 h0
    obtain rfl : c0 = .int .i64 z0 := by simpa using g0
    obtain ⟨z1, g1, _⟩ := DataW.trod_int Try.underlying3 h1
    obtain rfl : c1 = .int .i64 z1 := by simpa using g1
    obtain ⟨z2, g2, _⟩ := DataW.trod_int Try.underlying3 h2
    obtain rfl : c2 = .int .i64 z2 := by simpa using g2
    obtain ⟨z3, g3, _⟩ := DataW.trod_int Try.underlying3 h3
    obtain rfl : c3 = .int .i64 z3 := by simpa using g3
    obtain ⟨z4, g4, _⟩ := DataW.trod_int Try.underlying3 h4
    obtain rfl : c4 = .int .i64 z4 := by simpa using g4
    obtain ⟨v5, bs, g5, r5, o5, _⟩ := rectsTrod h5
    obtain rfl : c5 = v5 := by simpa using g5
    obtain ⟨z6, g6, _⟩ := DataW.trod_int Try.underlying3 h6
    obtain rfl : c6 = .int .i64 z6 := by simpa using g6
    refine ⟨⟨z0, z1, z2, z3, z4, bs, z6⟩, .cons (.sc _) (.cons (.sc _) (.cons (.sc _) (.cons (.sc _) (.cons (.sc _) (.cons r5 (.cons (.sc _) .nil)))))), fun u hu => ?_, rel_len r5⟩
    simp only [List.mem_cons, List.not_mem_nil, or_false] at hu
    rcases hu with rfl | rfl | rfl | rfl | rfl | rfl | rfl <;> first | rfl | exact o5
theorem rulesArg (hv : Value.okWide Try.prog w r b0 22 v) (h : DataW.Trod enc Try.prog w base (fun _ => true) held 22 v d p) : ∃ xs : List Ru, Rel (said w) [] (slU xs) v ∧ ∀ x ∈ xs, x.boxes.length ≤ maxLen :=
  rel_deep (fun x : Ru => x.boxes.length ≤ maxLen) (encV := Ru.cs) (sz := 7) Try.underlying22 (by kernel_rfl) (by decide) (fun _ => rfl) (fun n cs y hy hl => ruleTrod hy hl) (okWide_slice Try.underlying22 hv) h
end
end Go.Proofs.Ytbcfoakceloenaa
