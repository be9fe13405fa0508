/- Arguments of the laws: points, cells, rectangles, and rows of them. -/
import Derived.Test.YtoooldijnilpaaaAs
import Derived.Test.YtoooldijnilpaaaGa
namespace Go.Proofs.Ytoooldijnilpaaa
set_option linter.all false
open Go.RowKit Go.ChangeShapes Go.WideShapes AM
set_option maxRecDepth 100000
section
variable {H : Type} {enc : TypeId × Value → H} {w : World} {base : Nat} {held : Bool} {r : Reach} {b0 : Nat} {v : Value} {d : DataW H} {p : List MemPlace}
theorem intArg {spare : Nat → Bool} (hv : Value.okWide Try.prog w r b0 3 v) (h : DataW.Trod enc Try.prog w base spare held 3 v d p) : ∃ z : Int, Rel (said w) [] (.sc (.int .i64 z)) v := by
  obtain ⟨z, rfl, hz⟩ := int_shape Try.underlying3 hv h
  exact ⟨z, .sc _⟩
namespace Pt
def vals (a : Pt) : List Value := [.int .i64 a.x, .int .i64 a.y]
end Pt
namespace Ce
def vals (a : Ce) : List Value := [.int .i64 a.l, .int .i64 a.x, .int .i64 a.y]
end Ce
theorem ptLeaves : leavesOf Try.prog 6 43 = some [.int .i64, .int .i64] := by kernel_rfl
theorem pt_of_leaves {cs : List Value} (h : Leaf.all [.int .i64, .int .i64] cs) : ∃ x : Pt, x.vals = cs := by
  obtain ⟨a, _, rfl, _, h⟩ := Leaf.int_cons h
  obtain ⟨b, _, rfl, _, h⟩ := Leaf.int_cons h
  obtain rfl := Leaf.all_nil h
  exact ⟨⟨a, b⟩, rfl⟩
theorem ceLeaves : leavesOf Try.prog 6 24 = some [.int .i64, .int .i64, .int .i64] := by kernel_rfl
theorem ce_of_leaves {cs : List Value} (h : Leaf.all [.int .i64, .int .i64, .int .i64] cs) : ∃ x : Ce, x.vals = cs := by
  obtain ⟨a, _, rfl, _, h⟩ := Leaf.int_cons h
  obtain ⟨b, _, rfl, _, h⟩ := Leaf.int_cons h
  obtain ⟨c, _, rfl, _, h⟩ := Leaf.int_cons h
  obtain rfl := Leaf.all_nil h
  exact ⟨⟨a, b, c⟩, rfl⟩
theorem ptArg (hv : Value.okWide Try.prog w r b0 43 v) (h : DataW.Trod enc Try.prog w base (fun _ => true) held 43 v d p) : ∃ x : Pt, Rel (said w) [] x.v v := by
  obtain ⟨cs, rfl, hc⟩ := plain_val Try.underlying43 ptLeaves hv h
  obtain ⟨x, rfl⟩ := pt_of_leaves hc
  exact ⟨x, .agg (relL_sc (vs := x.vals))⟩
theorem ceArg (hv : Value.okWide Try.prog w r b0 24 v) (h : DataW.Trod enc Try.prog w base (fun _ => true) held 24 v d p) : ∃ x : Ce, Rel (said w) [] x.v v := by
  obtain ⟨cs, rfl, hc⟩ := plain_val Try.underlying24 ceLeaves hv h
  obtain ⟨x, rfl⟩ := ce_of_leaves hc
  exact ⟨x, .agg (relL_sc (vs := x.vals))⟩
theorem ptsArg (hv : Value.okWide Try.prog w r b0 22 v) (h : DataW.Trod enc Try.prog w base (fun _ => true) held 22 v d p) : ∃ xs : List Pt, Rel (said w) [] (.sl xs.length 2 (xs.flatMap Pt.cs)) v := by
  have hsz : Try.prog.cellsOf 43 = 2 := by kernel_rfl
  obtain ⟨xs, _, h⟩ := rel_slice (cells := Pt.vals) Try.underlying22 ptLeaves (by rw [hsz]; decide) (fun cs h => pt_of_leaves h) (fun x => by rw [hsz]; rfl) (fun x u hu => by
    simp only [Pt.vals, List.mem_cons, List.not_mem_nil, or_false] at hu
    rcases hu with rfl | rfl <;> rfl) (okWide_slice Try.underlying22 hv) h
  rw [hsz] at h
  exact ⟨xs, h⟩
end
end Go.Proofs.Ytoooldijnilpaaa
