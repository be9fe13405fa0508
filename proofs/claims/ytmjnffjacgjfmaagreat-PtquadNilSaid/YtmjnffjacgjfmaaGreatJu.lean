/- Arguments of the laws over records. -/
import Derived.Test.YtmjnffjacgjfmaaGreatGh1
import Derived.Test.YtmjnffjacgjfmaaGreatJa
namespace Go.Proofs.YtmjnffjacgjfmaaGreat
set_option linter.all false
open Go.RowKit Go.ChangeShapes Go.WideShapes AM
set_option maxRecDepth 100000
section
variable {H : Type} {enc : TypeId × Value → H} {w : World} {base : Nat} {held : Bool} {r : Reach} {b0 : Nat} {v : Value} {d : DataW H} {p : List MemPlace}
namespace Pr
def vals (a : Pr) : List Value := [.int .i64 a.id, .int .i64 a.at_.x, .int .i64 a.at_.y, .int .i64 a.lab]
end Pr
theorem prLeaves : leavesOf Tryz.prog 6 25 = some [.int .i64, .int .i64, .int .i64, .int .i64] := by kernel_rfl
theorem pr_of_leaves {cs : List Value} (h : Leaf.all [.int .i64, .int .i64, .int .i64, .int .i64] cs) : ∃ x : Pr, x.vals = cs := by
  obtain ⟨a, _, rfl, _, h⟩ := Leaf.int_cons h
  obtain ⟨b, _, rfl, _, h⟩ := Leaf.int_cons h
  obtain ⟨c, _, rfl, _, h⟩ := Leaf.int_cons h
  obtain ⟨g, _, rfl, _, h⟩ := Leaf.int_cons h
  obtain rfl := Leaf.all_nil h
  exact ⟨⟨a, ⟨b, c⟩, g⟩, rfl⟩
theorem recArg (hv : Value.okWide Tryz.prog w r b0 25 v) (h : DataW.Trod enc Tryz.prog w base (fun _ => true) held 25 v d p) : ∃ x : Pr, Rel (said w) [] x.v v := by
  obtain ⟨cs, rfl, hc⟩ := plain_val Tryz.underlying25 prLeaves hv h
  obtain ⟨x, rfl⟩ := pr_of_leaves hc
  exact ⟨x, .agg (relL_sc (vs := x.vals))⟩
theorem recsArg (hv : Value.okWide Tryz.prog w r b0 36 v) (h : DataW.Trod enc Tryz.prog w base (fun _ => true) held 36 v d p) : ∃ xs : List Pr, Rel (said w) [] (lV xs) v := by
  have hsz : Tryz.prog.cellsOf 25 = 4 := by kernel_rfl
  obtain ⟨xs, _, h⟩ := rel_slice (cells := Pr.vals) Tryz.underlying36 prLeaves (by rw [hsz]; decide) (fun cs h => pr_of_leaves h) (fun x => by rw [hsz]; rfl) (fun x u hu => by
    simp only [Pr.vals, List.mem_cons, List.not_mem_nil, or_false] at hu
    rcases hu with rfl | rfl | rfl | rfl <;> rfl) (okWide_slice Tryz.underlying36 hv) h
  rw [hsz] at h
  exact ⟨xs, h⟩
end
end Go.Proofs.YtmjnffjacgjfmaaGreat
