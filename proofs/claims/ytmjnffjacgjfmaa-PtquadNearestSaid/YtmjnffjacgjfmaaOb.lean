/- Arguments of the laws over records: rows of deeds, searches. -/
import Derived.Test.YtmjnffjacgjfmaaJu
import Derived.Test.YtmjnffjacgjfmaaJy
namespace Go.Proofs.Ytmjnffjacgjfmaa
set_option linter.all false
open Go.RowKit Go.ChangeShapes Go.WideShapes AM
set_option maxRecDepth 100000
section
variable {H : Type} {enc : TypeId × Value → H} {w : World} {base : Nat} {held : Bool} {r : Reach} {b0 : Nat} {v : Value} {d : DataW H} {p : List MemPlace}
def Dp.vals (a : Dp) : List Value := .int .i64 a.kind :: a.r.vals
theorem dpLeaves : leavesOf Try.prog 6 65 = some [.int .i64, .int .i64, .int .i64, .int .i64, .int .i64] := by kernel_rfl
theorem dp_of_leaves {cs : List Value} (h : Leaf.all [.int .i64, .int .i64, .int .i64, .int .i64, .int .i64] cs) : ∃ x : Dp, x.vals = cs := by
  obtain ⟨k, _, rfl, _, h⟩ := Leaf.int_cons h
  obtain ⟨s, rfl⟩ := pr_of_leaves h
  exact ⟨⟨k, s⟩, rfl⟩
theorem dpsArg (hv : Value.okWide Try.prog w r b0 61 v) (h : DataW.Trod enc Try.prog w base (fun _ => true) held 61 v d p) : ∃ xs : List Dp, Rel (said w) [] (slDp xs) v := by
  have hsz : Try.prog.cellsOf 65 = 5 := by kernel_rfl
  obtain ⟨xs, _, h⟩ := rel_slice (cells := Dp.vals) Try.underlying61 dpLeaves (by rw [hsz]; decide) (fun cs h => dp_of_leaves h) (fun x => by rw [hsz]; rfl) (fun x u hu => by
    simp only [Dp.vals, Pr.vals, List.mem_cons, List.not_mem_nil, or_false] at hu
    rcases hu with rfl | rfl | rfl | rfl | rfl <;> rfl) (okWide_slice Try.underlying61 hv) h
  rw [hsz] at h
  exact ⟨xs, h⟩
theorem skLeaves : leavesOf Try.prog 6 26 = some [.int .i64, .int .i64, .int .i64, .int .i64] := by kernel_rfl
theorem seekArg (hv : Value.okWide Try.prog w r b0 26 v) (h : DataW.Trod enc Try.prog w base (fun _ => true) held 26 v d p) : ∃ x : Pr, Rel (said w) [] x.v v := by
  obtain ⟨cs, rfl, hc⟩ := plain_val Try.underlying26 skLeaves hv h
  obtain ⟨x, rfl⟩ := pr_of_leaves hc
  exact ⟨x, .agg (relL_sc (vs := x.vals))⟩
end
end Go.Proofs.Ytmjnffjacgjfmaa
