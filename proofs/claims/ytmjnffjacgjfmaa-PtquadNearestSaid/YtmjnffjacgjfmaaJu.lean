/- Arguments of the laws over records. -/
import Derived.Test.YtmjnffjacgjfmaaGh1
import Derived.Test.YtmjnffjacgjfmaaJa
namespace Go.Proofs.Ytmjnffjacgjfmaa
set_option linter.all false
open Go.RowKit Go.ChangeShapes Go.WideShapes AM
set_option maxRecDepth 100000
section
variable {H : Type} {enc : TypeId × Value → H} {w : World} {base : Nat} {held : Bool} {r : Reach} {b0 : Nat} {v : Value} {d : DataW H} {p : List MemPlace}
namespace Pr
def vals (a : Pr) : List Value := [.int .i64 a.id, .int .i64 a.at_.x, .int .i64 a.at_.y, .int .i64 a.lab]
end Pr
theorem prLeaves : leavesOf Try.prog 6 32 = some [.int .i64, .int .i64, .int .i64, .int .i64] := by kernel_rfl
theorem pr_of_leaves {cs : List Value} (h : Leaf.all [.int .i64, .int .i64, .int .i64, .int .i64] cs) : ∃ x : Pr, x.vals = cs := by
  obtain ⟨a, _, rfl, _, h⟩ := Leaf.int_cons h
  obtain ⟨b, _, rfl, _, h⟩ := Leaf.int_cons h
  obtain ⟨c, _, rfl, _, h⟩ := Leaf.int_cons h
  obtain ⟨g, _, rfl, _, h⟩ := Leaf.int_cons h
  obtain rfl := Leaf.all_nil h
  exact ⟨⟨a, ⟨b, c⟩, g⟩, rfl⟩
theorem recArg (hv : Value.okWide Try.prog w r b0 32 v) (h : DataW.Trod enc Try.prog w base (fun _ => true) held 32 v d p) : ∃ x : Pr, Rel (said w) [] x.v v := by
  obtain ⟨cs, rfl, hc⟩ := plain_val Try.underlying32 prLeaves hv h
  obtain ⟨x, rfl⟩ := pr_of_leaves hc
  exact ⟨x, .agg (relL_sc (vs := x.vals))⟩
theorem recsArg (hv : Value.okWide Try.prog w r b0 22 v) (h : DataW.Trod enc Try.prog w base (fun _ => true) held 22 v d p) : ∃ xs : List Pr, Rel (said w) [] (lV xs) v := by
  have hsz : Try.prog.cellsOf 32 = 4 := by kernel_rfl
  obtain ⟨xs, _, h⟩ := rel_slice (cells := Pr.vals) Try.underlying22 prLeaves (by rw [hsz]; decide) (fun cs h => pr_of_leaves h) (fun x => by rw [hsz]; rfl) (fun x u hu => by
    simp only [Pr.vals, List.mem_cons, List.not_mem_nil, or_false] at hu
    rcases hu with rfl | rfl | rfl | rfl <;> rfl) (okWide_slice Try.underlying22 hv) h
  rw [hsz] at h
  exact ⟨xs, h⟩
end
end Go.Proofs.Ytmjnffjacgjfmaa
