/- Arguments of the laws: points, cells, rectangles, and rows of them. -/
import Derived.Test.YtmjnffjacgjfmaaGreatLaw1
import Derived.Test.YtmjnffjacgjfmaaGreatGa
import Derived.Test.YtmjnffjacgjfmaaGreatGg
namespace Go.Proofs.YtmjnffjacgjfmaaGreat
set_option linter.all false
open Go.RowKit Go.ChangeShapes Go.WideShapes AM
set_option maxRecDepth 100000
section
variable {H : Type} {enc : TypeId × Value → H} {w : World} {base : Nat} {held : Bool} {r : Reach} {b0 : Nat} {v : Value} {d : DataW H} {p : List MemPlace}
theorem intArg {spare : Nat → Bool} (hv : Value.okWide Tryz.prog w r b0 3 v) (h : DataW.Trod enc Tryz.prog w base spare held 3 v d p) : ∃ z : Int, Rel (said w) [] (.sc (.int .i64 z)) v := by
  obtain ⟨z, rfl, hz⟩ := int_shape Tryz.underlying3 hv h
  exact ⟨z, .sc _⟩
namespace Pt
def vals (a : Pt) : List Value := [.int .i64 a.x, .int .i64 a.y]
end Pt
namespace Ce
def vals (a : Ce) : List Value := [.int .i64 a.l, .int .i64 a.x, .int .i64 a.y]
end Ce
theorem ptLeaves : leavesOf Tryz.prog 6 23 = some [.int .i64, .int .i64] := by kernel_rfl
theorem pt_of_leaves {cs : List Value} (h : Leaf.all [.int .i64, .int .i64] cs) : ∃ x : Pt, x.vals = cs := by
  obtain ⟨a, _, rfl, _, h⟩ := Leaf.int_cons h
  obtain ⟨b, _, rfl, _, h⟩ := Leaf.int_cons h
  obtain rfl := Leaf.all_nil h
  exact ⟨⟨a, b⟩, rfl⟩
theorem ceLeaves : leavesOf Tryz.prog 6 71 = some [.int .i64, .int .i64, .int .i64] := by kernel_rfl
theorem ce_of_leaves {cs : List Value} (h : Leaf.all [.int .i64, .int .i64, .int .i64] cs) : ∃ x : Ce, x.vals = cs := by
  obtain ⟨a, _, rfl, _, h⟩ := Leaf.int_cons h
  obtain ⟨b, _, rfl, _, h⟩ := Leaf.int_cons h
  obtain ⟨c, _, rfl, _, h⟩ := Leaf.int_cons h
  obtain rfl := Leaf.all_nil h
  exact ⟨⟨a, b, c⟩, rfl⟩
theorem ptArg (hv : Value.okWide Tryz.prog w r b0 23 v) (h : DataW.Trod enc Tryz.prog w base (fun _ => true) held 23 v d p) : ∃ x : Pt, Rel (said w) [] x.v v := by
  obtain ⟨cs, rfl, hc⟩ := plain_val Tryz.underlying23 ptLeaves hv h
  obtain ⟨x, rfl⟩ := pt_of_leaves hc
  exact ⟨x, .agg (relL_sc (vs := x.vals))⟩
theorem ceArg (hv : Value.okWide Tryz.prog w r b0 71 v) (h : DataW.Trod enc Tryz.prog w base (fun _ => true) held 71 v d p) : ∃ x : Ce, Rel (said w) [] x.v v := by
  obtain ⟨cs, rfl, hc⟩ := plain_val Tryz.underlying71 ceLeaves hv h
  obtain ⟨x, rfl⟩ := ce_of_leaves hc
  exact ⟨x, .agg (relL_sc (vs := x.vals))⟩
end
end Go.Proofs.YtmjnffjacgjfmaaGreat
namespace Go.Proofs.YtmjnffjacgjfmaaGreat
set_option linter.all false
open Go.RowKit Go.ChangeShapes Go.WideShapes AM
set_option maxRecDepth 100000
section
variable {H : Type} {enc : TypeId × Value → H} {w : World} {base : Nat} {held : Bool} {r : Reach} {b0 : Nat} {v : Value} {d : DataW H} {p : List MemPlace}
namespace Re
def vals (a : Re) : List Value := [.int .i64 a.x0, .int .i64 a.y0, .int .i64 a.x1, .int .i64 a.y1]
end Re
theorem reLeaves : leavesOf Tryz.prog 6 27 = some [.int .i64, .int .i64, .int .i64, .int .i64] := by kernel_rfl
theorem re_of_leaves {cs : List Value} (h : Leaf.all [.int .i64, .int .i64, .int .i64, .int .i64] cs) : ∃ x : Re, x.vals = cs := by
  obtain ⟨a, _, rfl, _, h⟩ := Leaf.int_cons h
  obtain ⟨b, _, rfl, _, h⟩ := Leaf.int_cons h
  obtain ⟨c, _, rfl, _, h⟩ := Leaf.int_cons h
  obtain ⟨e, _, rfl, _, h⟩ := Leaf.int_cons h
  obtain rfl := Leaf.all_nil h
  exact ⟨⟨a, b, c, e⟩, rfl⟩
theorem reArg (hv : Value.okWide Tryz.prog w r b0 27 v) (h : DataW.Trod enc Tryz.prog w base (fun _ => true) held 27 v d p) : ∃ x : Re, Rel (said w) [] x.v v := by
  obtain ⟨cs, rfl, hc⟩ := plain_val Tryz.underlying27 reLeaves hv h
  obtain ⟨x, rfl⟩ := re_of_leaves hc
  exact ⟨x, .agg (relL_sc (vs := x.vals))⟩
end
end Go.Proofs.YtmjnffjacgjfmaaGreat
