/- Arguments of the laws: rectangles, and rows of them. -/
import Derived.Test.YtoooldijnilpaaaGh
import Derived.Test.YtoooldijnilpaaaGg
namespace Go.Proofs.Ytoooldijnilpaaa
set_option linter.all false
open Go.RowKit Go.ChangeShapes Go.WideShapes AM
set_option maxRecDepth 100000
section
variable {H : Type} {enc : TypeId × Value → H} {w : World} {base : Nat} {held : Bool} {r : Reach} {b0 : Nat} {v : Value} {d : DataW H} {p : List MemPlace}
namespace Re
def vals (a : Re) : List Value := [.int .i64 a.x0, .int .i64 a.y0, .int .i64 a.x1, .int .i64 a.y1]
end Re
theorem reLeaves : leavesOf Try.prog 6 61 = some [.int .i64, .int .i64, .int .i64, .int .i64] := by kernel_rfl
theorem re_of_leaves {cs : List Value} (h : Leaf.all [.int .i64, .int .i64, .int .i64, .int .i64] cs) : ∃ x : Re, x.vals = cs := by
  obtain ⟨a, _, rfl, _, h⟩ := Leaf.int_cons h
  obtain ⟨b, _, rfl, _, h⟩ := Leaf.int_cons h
  obtain ⟨c, _, rfl, _, h⟩ := Leaf.int_cons h
  obtain ⟨e, _, rfl, _, h⟩ := Leaf.int_cons h
  obtain rfl := Leaf.all_nil h
  exact ⟨⟨a, b, c, e⟩, rfl⟩
theorem reArg (hv : Value.okWide Try.prog w r b0 61 v) (h : DataW.Trod enc Try.prog w base (fun _ => true) held 61 v d p) : ∃ x : Re, Rel (said w) [] x.v v := by
  obtain ⟨cs, rfl, hc⟩ := plain_val Try.underlying61 reLeaves hv h
  obtain ⟨x, rfl⟩ := re_of_leaves hc
  exact ⟨x, .agg (relL_sc (vs := x.vals))⟩
theorem rectsArg (hv : Value.okWide Try.prog w r b0 55 v) (h : DataW.Trod enc Try.prog w base (fun _ => true) held 55 v d p) : ∃ xs : List Re, Rel (said w) [] (slR xs) v := by
  have hsz : Try.prog.cellsOf 61 = 4 := by kernel_rfl
  obtain ⟨xs, _, h⟩ := rel_slice (cells := Re.vals) Try.underlying55 reLeaves (by rw [hsz]; decide) (fun cs h => re_of_leaves h) (fun x => by rw [hsz]; rfl) (fun x u hu => by
    simp only [Re.vals, List.mem_cons, List.not_mem_nil, or_false] at hu
    rcases hu with rfl | rfl | rfl | rfl <;> rfl) (okWide_slice Try.underlying55 hv) h
  rw [hsz] at h
  exact ⟨xs, h⟩
end
end Go.Proofs.Ytoooldijnilpaaa
