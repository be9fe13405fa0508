/- Arguments of the laws: points, cells, rectangles, and rows of them. -/
import Derived.Test.YtmjnffjacgjfmaaLaw1
import Derived.Test.YtmjnffjacgjfmaaGa
import Derived.Test.YtmjnffjacgjfmaaGg
namespace Go.Proofs.Ytmjnffjacgjfmaa
set_option linter.all false
open Go.RowKit Go.ChangeShapes Go.WideShapes AM
set_option maxRecDepth 100000
section
variable {H : Type} {enc : TypeId × Value → H} {w : World} {base : Nat} {held : Bool} {r : Reach} {b0 : Nat} {v : Value} {d : DataW H} {p : List MemPlace}
theorem intArg {spare : Nat → Bool} (hv : Value.okWide Try.prog w r b0 3 v) (h : DataW.Trod enc Try.prog w base spare held 3 v d p) : ∃ z : Int, Rel (said w) [] (.sc (.int .i64 z)) v := by
  obtain ⟨z, rfl, hz⟩ := int_shape Try.underlying3 hv h
  exact ⟨z, .sc _⟩
namespace Pt
def vals (a : Pt) : List Value := [.int .i64 a.x, .int .i64 a.y]
end Pt
namespace Ce
def vals (a : Ce) : List Value := [.int .i64 a.l, .int .i64 a.x, .int .i64 a.y]
end Ce
theorem ptLeaves : leavesOf Try.prog 6 24 = some [.int .i64, .int .i64] := by kernel_rfl
theorem pt_of_leaves {cs : List Value} (h : Leaf.all [.int .i64, .int .i64] cs) : ∃ x : Pt, x.vals = cs := by
  obtain ⟨a, _, rfl, _, h⟩ := Leaf.int_cons h
  obtain ⟨b, _, rfl, _, h⟩ := Leaf.int_cons h
  obtain rfl := Leaf.all_nil h
  exact ⟨⟨a, b⟩, rfl⟩
theorem ceLeaves : leavesOf Try.prog 6 69 = some [.int .i64, .int .i64, .int .i64] := by kernel_rfl
theorem ce_of_leaves {cs : List Value} (h : Leaf.all [.int .i64, .int .i64, .int .i64] cs) : ∃ x : Ce, x.vals = cs := by
  obtain ⟨a, _, rfl, _, h⟩ := Leaf.int_cons h
  obtain ⟨b, _, rfl, _, h⟩ := Leaf.int_cons h
  obtain ⟨c, _, rfl, _, h⟩ := Leaf.int_cons h
  obtain rfl := Leaf.all_nil h
  exact ⟨⟨a, b, c⟩, rfl⟩
theorem ptArg (hv : Value.okWide Try.prog w r b0 24 v) (h : DataW.Trod enc Try.prog w base (fun _ => true) held 24 v d p) : ∃ x : Pt, Rel (said w) [] x.v v := by
  obtain ⟨cs, rfl, hc⟩ := plain_val Try.underlying24 ptLeaves hv h
  obtain ⟨x, rfl⟩ := pt_of_leaves hc
  exact ⟨x, .agg (relL_sc (vs := x.vals))⟩
theorem ceArg (hv : Value.okWide Try.prog w r b0 69 v) (h : DataW.Trod enc Try.prog w base (fun _ => true) held 69 v d p) : ∃ x : Ce, Rel (said w) [] x.v v := by
  obtain ⟨cs, rfl, hc⟩ := plain_val Try.underlying69 ceLeaves hv h
  obtain ⟨x, rfl⟩ := ce_of_leaves hc
  exact ⟨x, .agg (relL_sc (vs := x.vals))⟩
end
end Go.Proofs.Ytmjnffjacgjfmaa
namespace Go.Proofs.Ytmjnffjacgjfmaa
set_option linter.all false
open Go.RowKit Go.ChangeShapes Go.WideShapes AM
set_option maxRecDepth 100000
section
variable {H : Type} {enc : TypeId × Value → H} {w : World} {base : Nat} {held : Bool} {r : Reach} {b0 : Nat} {v : Value} {d : DataW H} {p : List MemPlace}
namespace Re
def vals (a : Re) : List Value := [.int .i64 a.x0, .int .i64 a.y0, .int .i64 a.x1, .int .i64 a.y1]
end Re
theorem reLeaves : leavesOf Try.prog 6 50 = some [.int .i64, .int .i64, .int .i64, .int .i64] := by kernel_rfl
theorem re_of_leaves {cs : List Value} (h : Leaf.all [.int .i64, .int .i64, .int .i64, .int .i64] cs) : ∃ x : Re, x.vals = cs := by
  obtain ⟨a, _, rfl, _, h⟩ := Leaf.int_cons h
  obtain ⟨b, _, rfl, _, h⟩ := Leaf.int_cons h
  obtain ⟨c, _, rfl, _, h⟩ := Leaf.int_cons h
  obtain ⟨e, _, rfl, _, h⟩ := Leaf.int_cons h
  obtain rfl := Leaf.all_nil h
  exact ⟨⟨a, b, c, e⟩, rfl⟩
theorem reArg (hv : Value.okWide Try.prog w r b0 50 v) (h : DataW.Trod enc Try.prog w base (fun _ => true) held 50 v d p) : ∃ x : Re, Rel (said w) [] x.v v := by
  obtain ⟨cs, rfl, hc⟩ := plain_val Try.underlying50 reLeaves hv h
  obtain ⟨x, rfl⟩ := re_of_leaves hc
  exact ⟨x, .agg (relL_sc (vs := x.vals))⟩
end
end Go.Proofs.Ytmjnffjacgjfmaa
