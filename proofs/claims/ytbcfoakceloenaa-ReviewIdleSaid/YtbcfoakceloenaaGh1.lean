/- Arguments of the laws: points, cells, rectangles, and rows of them. -/
import Derived.Test.YtbcfoakceloenaaLaw1
import Derived.Test.YtbcfoakceloenaaGa
import Derived.Test.YtbcfoakceloenaaGg
namespace Go.Proofs.Ytbcfoakceloenaa
set_option linter.all false
open Go.RowKit Go.ChangeShapes Go.WideShapes AM
set_option maxRecDepth 100000
section
variable {H : Type} {enc : TypeId × Value → H} {w : World} {base : Nat} {held : Bool} {r : Reach} {b0 : Nat} {v : Value} {d : DataW H} {p : List MemPlace}
theorem intArg {spare : Nat → Bool} (hv : Value.okWide Try.prog w r b0 3 v) (h : DataW.Trod enc Try.prog w base spare held 3 v d p) : ∃ z : Int, Rel (said w) [] (.sc (.int .i64 z)) v := by
  obtain ⟨z, rfl, hz⟩ := int_shape Try.underlying3 hv h
  exact ⟨z, .sc _⟩
namespace Pt
def vals (a : Pt) : List Value := [.int .i64 a.x, .int .i64 a.y]
end Pt
namespace Ce
def vals (a : Ce) : List Value := [.int .i64 a.l, .int .i64 a.x, .int .i64 a.y]
end Ce
theorem ptLeaves : leavesOf Try.prog 6 43 = some [.int .i64, .int .i64] := by kernel_rfl
theorem pt_of_leaves {cs : List Value} (h : Leaf.all [.int .i64, .int .i64] cs) : ∃ x : Pt, x.vals = cs := by
  obtain ⟨a, _, rfl, _, h⟩ := Leaf.int_cons h
  obtain ⟨b, _, rfl, _, h⟩ := Leaf.int_cons h
  obtain rfl := Leaf.all_nil h
  exact ⟨⟨a, b⟩, rfl⟩
theorem ce_of_leaves {cs : List Value} (h : Leaf.all [.int .i64, .int .i64, .int .i64] cs) : ∃ x : Ce, x.vals = cs := by
  obtain ⟨a, _, rfl, _, h⟩ := Leaf.int_cons h
  obtain ⟨b, _, rfl, _, h⟩ := Leaf.int_cons h
  obtain ⟨c, _, rfl, _, h⟩ := Leaf.int_cons h
  obtain rfl := Leaf.all_nil h
  exact ⟨⟨a, b, c⟩, rfl⟩
theorem ptArg (hv : Value.okWide Try.prog w r b0 43 v) (h : DataW.Trod enc Try.prog w base (fun _ => true) held 43 v d p) : ∃ x : Pt, Rel (said w) [] x.v v := by
  obtain ⟨cs, rfl, hc⟩ := plain_val Try.underlying43 ptLeaves hv h
  obtain ⟨x, rfl⟩ := pt_of_leaves hc
  exact ⟨x, .agg (relL_sc (vs := x.vals))⟩
end
end Go.Proofs.Ytbcfoakceloenaa
namespace Go.Proofs.Ytbcfoakceloenaa
set_option linter.all false
open Go.RowKit Go.ChangeShapes Go.WideShapes AM
set_option maxRecDepth 100000
section
variable {H : Type} {enc : TypeId × Value → H} {w : World} {base : Nat} {held : Bool} {r : Reach} {b0 : Nat} {v : Value} {d : DataW H} {p : List MemPlace}
namespace Re
def vals (a : Re) : List Value := [.int .i64 a.x0, .int .i64 a.y0, .int .i64 a.x1, .int .i64 a.y1]
end Re
theorem reLeaves : leavesOf Try.prog 6 37 = some [.int .i64, .int .i64, .int .i64, .int .i64] := by kernel_rfl
theorem re_of_leaves {cs : List Value} (h : Leaf.all [.int .i64, .int .i64, .int .i64, .int .i64] cs) : ∃ x : Re, x.vals = cs := by
  obtain ⟨a, _, rfl, _, h⟩ := Leaf.int_cons h
  obtain ⟨b, _, rfl, _, h⟩ := Leaf.int_cons h
  obtain ⟨c, _, rfl, _, h⟩ := Leaf.int_cons h
  obtain ⟨e, _, rfl, _, h⟩ := Leaf.int_cons h
  obtain rfl := Leaf.all_nil h
  exact ⟨⟨a, b, c, e⟩, rfl⟩
theorem reArg (hv : Value.okWide Try.prog w r b0 37 v) (h : DataW.Trod enc Try.prog w base (fun _ => true) held 37 v d p) : ∃ x : Re, Rel (said w) [] x.v v := by
  obtain ⟨cs, rfl, hc⟩ := plain_val Try.underlying37 reLeaves hv h
  obtain ⟨x, rfl⟩ := re_of_leaves hc
  exact ⟨x, .agg (relL_sc (vs := x.vals))⟩
theorem rectsArg (hv : Value.okWide Try.prog w r b0 58 v) (h : DataW.Trod enc Try.prog w base (fun _ => true) held 58 v d p) : ∃ xs : List Re, Rel (said w) [] (slR xs) v := by
  have hsz : Try.prog.cellsOf 37 = 4 := by kernel_rfl
  obtain ⟨xs, _, h⟩ := rel_slice (cells := Re.vals) Try.underlying58 reLeaves (by rw [hsz]; decide) (fun cs h => re_of_leaves h) (fun x => by rw [hsz]; rfl) (fun x u hu => by
    simp only [Re.vals, List.mem_cons, List.not_mem_nil, or_false] at hu
    rcases hu with rfl | rfl | rfl | rfl <;> rfl) (okWide_slice Try.underlying58 hv) h
  rw [hsz] at h
  exact ⟨xs, h⟩
end
end Go.Proofs.Ytbcfoakceloenaa
